/- A part of the proof for chapter 10: HistUndo, HistRemP, HistLocal, CheckP, HistNew, HistLaw, TypedP; no conditions. -/
import Derived.Test.YtldcffonfidbcaaGreatDoorY33
import Derived.Test.YtldcffonfidbcaaGreatDoorY25
import Derived.Test.YtldcffonfidbcaaGreatDoorY31
import Derived.Test.YtldcffonfidbcaaGreatDoorY22
import Derived.Test.YtldcffonfidbcaaGreatDoorY19
import Derived.Test.YtldcffonfidbcaaGreatDoorY24
/- History.Undo, History.Redo, as plain functions. -/
namespace Go.Proofs.YtldcffonfidbcaaGreatDoor
open Go.RowKit
/-- A history, plainly: its document; what undoes, what does again, the top one last; how many were lost. -/
structure HS where
  l : List Tok
  U : List StepM
  R : List StepM
  lost : Nat
structure HP (N : Nat → Prop) (w : World) (q p : Nat) (rs : List RuleM) (g : List Grp) (s : HS) : Prop where
  ex : ∃ x, HM N w q p rs g x ∧ x.l = s.l ∧ x.U.map StepA.s = s.U ∧ x.R.map StepA.s = s.R ∧ x.lost = s.lost
theorem HP.fr0 {N : Nat → Prop} {w w' : World} {q p : Nat} {rs : List RuleM} {g : List Grp} {s : HS} (h : HP N w q p rs g s) (hf : Fr Nob w w') : HP N w' q p rs g s := by
  obtain ⟨x, h1, h2⟩ := h.ex
  exact ⟨x, h1.fr0 hf, h2⟩
theorem HP.fr {N M : Nat → Prop} {w w' : World} {q p : Nat} {rs : List RuleM} {g : List Grp} {s : HS} (h : HP N w q p rs g s) (hf : Fr M w w') (hM : ∀ k, k < w.heap.size → M k → N k) (hq : ¬ M q) : HP N w' q p rs g s := by
  obtain ⟨x, h1, h2⟩ := h.ex
  exact ⟨x, h1.fr hf hM hq, h2⟩
theorem HP.mono {N N' : Nat → Prop} {w : World} {q p : Nat} {rs : List RuleM} {g : List Grp} {s : HS} (h : HP N w q p rs g s) (hN : ∀ k, N' k → N k) (hq : N' q) : HP N' w q p rs g s := by
  obtain ⟨x, h1, h2⟩ := h.ex
  exact ⟨x, h1.mono hN hq, h2⟩
theorem HP.bound {N : Nat → Prop} {w : World} {q p : Nat} {rs : List RuleM} {g : List Grp} {s : HS} (h : HP N w q p rs g s) : HP (fun k => N k ∨ w.heap.size ≤ k) w q p rs g s := by
  obtain ⟨x, h1, h2⟩ := h.ex
  exact ⟨x, h1.bound, h2⟩
theorem HP.lt {N : Nat → Prop} {w : World} {q p : Nat} {rs : List RuleM} {g : List Grp} {s : HS} (h : HP N w q p rs g s) : q < w.heap.size := by
  obtain ⟨x, h1, _⟩ := h.ex
  exact h1.blk.lt
def stepV (y : Option StepM) (OB : Option Addr) (ob : Nat) : Value := y.elim (.agg #[.int .i64 0, .int .i64 0, .int .i64 0, .int .i64 0, .int .i64 0, .int .i64 0, .slice none 0 0, .int .i64 0]) (fun y => .agg (y.cells (.slice OB y.l.length ob)).toArray)
structure TurnP (N : Nat → Prop) (w : World) (q p : Nat) (rs : List RuleM) (g : List Grp) (r : HS × Option StepM × Int) (e : Ending) (w' : World) : Prop where
  ex : ∃ OB ob, e = .returned (.tuple #[stepV r.2.1 OB ob, .int .i64 r.2.2]) ∧ (∀ y, r.2.1 = some y → Rd N w' OB (tokC y.l) ∧ y.l.length ≤ ob)
  st : HP N w' q p rs g r.1
  fr : Fr (One q) w w'
def undoF (rs : List RuleM) (g : List Grp) (st : HS) : HS × Option StepM × Int :=
  match st.U.reverse with
  | [] => (st, none, 6)
  | y :: r => if doE rs g y st.l = 0 then ({ st with l := doF y st.l, U := r.reverse, R := st.R ++ [invS y st.l] }, some y, 0) else ({ st with U := r.reverse, lost := st.lost + 1 }, none, 9)
set_option maxRecDepth 100000 in
set_option maxHeartbeats 4000000 in
theorem undo_none (N : Nat → Prop) (q p : Nat) (rs : List RuleM) (g : List Grp) (x : HX) (w : World) (h : HM N w q p rs g x) (h0 : x.U = []) (hN : ∀ k, N k → k < w.heap.size) :
    Calls Tryz.prog 30 #[.pointer (some ⟨q, 0, none⟩), .pointer (some ⟨q, 2, none⟩), .pointer (some ⟨q, 3, none⟩)] w fun e w' => e = .returned (.tuple #[.agg #[.int .i64 0, .int .i64 0, .int .i64 0, .int .i64 0, .int .i64 0, .int .i64 0, .slice none 0 0, .int .i64 0], .int .i64 6]) ∧ HM N w' q p rs g x ∧ Fr (One q) w w' := by
  have HH := Lib.hid h
  have HNN := Lib.hid hN
  obtain ⟨q0, _, qu, qr, q4, _, _, _, _, hql⟩ := h.f5
  have e0 : x.U.length = 0 := by rw [h0]; rfl
  rw [e0] at qu
  clear h h0 e0 hN
  go_enter Tryz.func30, Tryz.ntmps30
  go_upto_region 3 with (fail)
  obtain ⟨W0, hW0⟩ : ∃ W, w.alloc (.cells #[.int .i64 0, .int .i64 0, .int .i64 0, .int .i64 0, .int .i64 0, .int .i64 0, .slice none 0 0, .int .i64 0] 32) = W := ⟨_, rfl⟩
  have HF0 := Lib.hid (show Fr Nob w W0 by rw [← hW0]; exact (Fr.refl _ _).alloc _)
  have HZ0 := Lib.hid (show Blk W0 w.heap.size [.int .i64 0, .int .i64 0, .int .i64 0, .int .i64 0, .int .i64 0, .int .i64 0, .slice none 0 0, .int .i64 0] 32 by rw [← hW0]; exact Blk.new _ _ _)
  rw [hW0]
  clear hW0
  obtain ⟨b0, b1, b2, b3, b4, b5, b6, b7, bl⟩ := HZ0.out.c8
  obtain ⟨z0, z1, z2, z3, z4, z5, z6, z7⟩ := HZ0.out.z8
  go_wp2_with fail
  refine ret8m (v := .tuple #[.agg #[.int .i64 0, .int .i64 0, .int .i64 0, .int .i64 0, .int .i64 0, .int .i64 0, .slice none 0 0, .int .i64 0], .int .i64 6]) HZ0.out rfl (fun WE z0 z1 z2 z3 z4 z5 z6 z7 => by simp [results, go_sem, z0, z1, z2, z3, z4, z5, z6, z7]) (fun WE hFE => ?_)
  have hq := hql
  have hN1 : ∀ k, N k ↔ N k := fun _ => Iff.rfl
  have h1 := HH.out.fr0 (HF0.out.trans (M := Nob) hFE (fun k hk e => by have e' : k = w.heap.size := e; omega))
  exact ⟨rfl, h1, (HF0.out.trans (M := Nob) hFE (fun k hk e => by have e' : k = w.heap.size := e; omega)).any⟩
theorem undo_turn (N : Nat → Prop) (q p : Nat) (rs : List RuleM) (g : List Grp) (hok : SchOk rs g) (st : HS) (w : World) (h : HP N w q p rs g st) (hn : st.l.length ≤ 100000) (hu : st.U.length ≤ 99) (ht : st.R.length ≤ 99) (hx : ∀ y ∈ st.U, y.l.length ≤ 100000) (hlo : st.lost ≤ 100000) (hN : ∀ k, N k → k < w.heap.size) :
    Calls Tryz.prog 30 #[.pointer (some ⟨q, 0, none⟩), .pointer (some ⟨q, 2, none⟩), .pointer (some ⟨q, 3, none⟩)] w fun e w' => TurnP N w q p rs g (undoF rs g st) e w' := by
  obtain ⟨l, U, R, lost⟩ := st
  obtain ⟨⟨A, c, l', UA, uc, UL, RA, rc, RL, lost'⟩, hm, h1, h2, h3, h4⟩ := h.ex
  simp only at h1 h2 h3 h4 hn hu ht hx hlo
  subst h1 h2 h3 h4
  rcases List.eq_nil_or_concat UL with h0 | ⟨F, y, h0⟩
  · subst h0
    refine (undo_none N q p rs g _ w hm rfl hN).mono fun e w' hp => ?_
    obtain ⟨rfl, hm', hf⟩ := hp
    exact ⟨⟨none, 0, rfl, fun y hy => by cases hy⟩, ⟨_, hm', rfl, rfl, rfl, rfl⟩, hf⟩
  · rw [List.concat_eq_append] at h0
    subst h0
    simp only [List.map_append, List.map_cons, List.map_nil, List.length_append, List.length_map, List.length_singleton] at hu ht hx
    refine (hundo_any N q p rs g hok A UA RA c uc rc lost' l' F RL y w hm hn (by omega) (by omega) (hx y.s (by simp)) hlo hN).mono fun e w' hp => ?_
    obtain ⟨hf, hz, hnz⟩ := hp
    have hrev : (List.map StepA.s (F ++ [y])).reverse = y.s :: (F.map StepA.s).reverse := by simp
    by_cases hE : doE rs g y.s l' = 0
    · obtain ⟨A', c', TA', tc', IB, ib, OB, ob, rfl, hO, hob, hm'⟩ := hz hE
      have hr : undoF rs g ⟨l', List.map StepA.s (F ++ [y]), List.map StepA.s RL, lost'⟩ = (⟨doF y.s l', F.map StepA.s, RL.map StepA.s ++ [invS y.s l'], lost'⟩, some y.s, 0) := by
        unfold undoF
        simp only [hrev, hE, if_true, List.reverse_reverse]
      rw [hr]
      exact ⟨⟨OB, ob, rfl, fun y' hy => by cases hy; exact ⟨hO, hob⟩⟩, ⟨_, hm', rfl, rfl, by simp, by simp⟩, hf⟩
    · obtain ⟨rfl, hm'⟩ := hnz hE
      have hr : undoF rs g ⟨l', List.map StepA.s (F ++ [y]), List.map StepA.s RL, lost'⟩ = (⟨l', F.map StepA.s, RL.map StepA.s, lost' + 1⟩, none, 9) := by
        unfold undoF
        simp only [hrev, hE, if_false, List.reverse_reverse]
      rw [hr]
      exact ⟨⟨none, 0, rfl, fun y' hy => by cases hy⟩, ⟨_, hm', rfl, rfl, rfl, rfl⟩, hf⟩
set_option maxRecDepth 100000 in
set_option maxHeartbeats 4000000 in
theorem hUndo_any (N : Nat → Prop) (q p : Nat) (rs : List RuleM) (g : List Grp) (hok : SchOk rs g) (st : HS) (w : World) (h : HP N w q p rs g st) (hn : st.l.length ≤ 100000) (hu : st.U.length ≤ 99) (ht : st.R.length ≤ 99) (hx : ∀ y ∈ st.U, y.l.length ≤ 100000) (hlo : st.lost ≤ 100000) (hN : ∀ k, N k → k < w.heap.size) :
    Calls Tryz.prog 13 #[.pointer (some ⟨q, 0, none⟩)] w fun e w' => TurnP N w q p rs g (undoF rs g st) e w' := by
  obtain ⟨N', hN'⟩ : ∃ N', (fun k => N k ∨ k = w.heap.size) = N' := ⟨_, rfl⟩
  have HNQ := Lib.hid (show N q by obtain ⟨x, h1, _⟩ := h.ex; exact h1.mem)
  have HNB := Lib.hid (show ∀ k, N' k → k < w.heap.size + 1 from fun k hk => by rw [← hN'] at hk; rcases hk with hk | hk; have := hN k hk; omega; omega)
  have h := h.bound.mono (N' := N') (fun k hk => by rw [← hN'] at hk; rcases hk with hk | hk; exact .inl hk; exact .inr (Nat.le_of_eq hk.symm)) (by rw [← hN']; exact .inl HNQ.out)
  have HNI := Lib.hid (show N' w.heap.size by rw [← hN']; exact .inr rfl)
  have HNS := Lib.hid (show ∀ k, N k → N' k from fun k hk => by rw [← hN']; exact .inl hk)
  clear hN hN'
  have HH := Lib.hid h
  have HQ := Lib.hid h.lt
  have HTU := Lib.hid (fun (W : World) (hF : Fr Nob w W) (hs : w.heap.size + 1 ≤ W.heap.size) => undo_turn N' q p rs g hok st W (h.fr0 hF) hn hu ht hx hlo (fun k hk => by have := HNB.out k hk; omega))
  have HN := Lib.hid (fun (W : World) (hF : Fr Nob w W) => hnone_any q p W (by obtain ⟨x, h1, _⟩ := h.ex; exact (h1.fr0 hF).f5.1))
  clear h hn hu ht hx hlo hok
  go_enter Tryz.func13, Tryz.ntmps13
  go_wp2_with fail
  obtain ⟨W0, hW0⟩ : ∃ W, w.alloc (.cells #[.int .i64 0, .int .i64 0, .int .i64 0, .int .i64 0, .int .i64 0, .int .i64 0, .slice none 0 0, .int .i64 0] 32) = W := ⟨_, rfl⟩
  have HF0 := Lib.hid (show Fr Nob w W0 by rw [← hW0]; exact (Fr.refl _ _).alloc _)
  have HZ0 := Lib.hid (show Blk W0 w.heap.size [.int .i64 0, .int .i64 0, .int .i64 0, .int .i64 0, .int .i64 0, .int .i64 0, .slice none 0 0, .int .i64 0] 32 by rw [← hW0]; exact Blk.new _ _ _)
  rw [hW0]
  clear hW0
  replace HTU := Lib.hid (fun (W : World) (hF : Fr Nob W0 W) => HTU.out W (HF0.out.same hF) (by have h1 := HZ0.out.lt; have h2 := hF.size; omega))
  refine (HN.out W0 HF0.out).mono ?_
  rintro e w0 ⟨rfl, rfl⟩
  have hq0 := HQ.out
  have hq : q < w0.heap.size := by have := HF0.out.size; omega
  clear hq0
  go_upto_region 3 with (fail)
  clear hq
  refine wp_region_held_drew (S := fun W' : World => True) (by kernel_rfl) (trivial) (fun _ => ?_)
  have HFD := Lib.hid ((Fr.refl Nob w0).drew)
  generalize w0.drew = wd at HFD ⊢
  refine take_by (i := 0) (v := .pointer (some ⟨q, 0, none⟩)) rfl trivial ?_
  refine take_by (i := 1) (v := .pointer (some ⟨q, 0, none⟩)) rfl trivial ?_
  refine take_by (i := 4) (v := .pointer (some ⟨q, 0, none⟩)) rfl trivial ?_
  refine take_by (i := 2) (v := .pointer (some ⟨q, 0, none⟩)) rfl trivial ?_
  refine take_by (i := 5) (v := .pointer (some ⟨q, 0, none⟩)) rfl trivial ?_
  refine take_by (i := 3) (v := .pointer (some ⟨q, 2, none⟩)) rfl trivial ?_
  refine take_by (i := 6) (v := .pointer (some ⟨q, 3, none⟩)) rfl trivial ?_
  refine ready1 7 rfl (fun K hK => ?_)
  go_simp
  refine (HTU.out wd HFD.out).mono ?_
  rintro e w3 ⟨⟨OB, ob, rfl, hO⟩, hP, hF3⟩
  have HO := Lib.hid hO
  have HPP := Lib.hid hP
  have HF3 := Lib.hid (HFD.out.any.same hF3)
  clear hO hP hF3
  obtain ⟨er, her⟩ : ∃ n, (undoF rs g st).2.2 = n := ⟨_, rfl⟩
  obtain ⟨yo, hyo⟩ : ∃ n, (undoF rs g st).2.1 = n := ⟨_, rfl⟩
  obtain ⟨k, f, t, gf, gt, ins, SA, sn, sc, m, hsv⟩ : ∃ k f t gf gt ins SA sn sc m, stepV yo OB ob = .agg #[.int .i64 k, .int .i64 f, .int .i64 t, .int .i64 gf, .int .i64 gt, .int .i64 ins, .slice SA sn sc, .int .i64 m] := by cases yo with | none => exact ⟨0, 0, 0, 0, 0, 0, none, 0, 0, 0, rfl⟩ | some y => exact ⟨_, _, _, _, _, _, _, _, _, _, rfl⟩
  rw [her, hyo, hsv]
  have HSV := Lib.hid hsv
  have HER := Lib.hid her
  have HYO := Lib.hid hyo
  clear her hyo hsv
  go_wp2_with fail
  refine hK.out _ _ trivial (fun _ => ?_)
  clear hK K
  refine take_by (i := 8) (v := .agg #[.int .i64 k, .int .i64 f, .int .i64 t, .int .i64 gf, .int .i64 gt, .int .i64 ins, .slice SA sn sc, .int .i64 m]) rfl trivial ?_
  refine take_by (i := 9) (v := .int .i64 er) rfl trivial ?_
  refine ready1 10 rfl (fun K hK => ?_)
  have HZ3 := Lib.hid (HZ0.out.fr HF3.out (fun e => by have e' : w.heap.size = q := e; have := HQ.out; omega))
  obtain ⟨z0, z1, z2, z3, z4, z5, z6, z7⟩ := HZ3.out.z8
  obtain ⟨b0, b1, b2, b3, b4, b5, b6, b7, zl⟩ := HZ3.out.c8
  go_simp
  obtain ⟨hb5, hf5⟩ := storeB8 HZ3.out (.int .i64 k) (.int .i64 f) (.int .i64 t) (.int .i64 gf) (.int .i64 gt) (.int .i64 ins) (.slice SA sn sc) (.int .i64 m)
  obtain ⟨w5, hw5⟩ : ∃ W, ((((((((w3.setCell ⟨w.heap.size, 0, none⟩ (.int .i64 k)).setCell ⟨w.heap.size, 1, none⟩ (.int .i64 f)).setCell ⟨w.heap.size, 2, none⟩ (.int .i64 t)).setCell ⟨w.heap.size, 3, none⟩ (.int .i64 gf)).setCell ⟨w.heap.size, 4, none⟩ (.int .i64 gt)).setCell ⟨w.heap.size, 5, none⟩ (.int .i64 ins)).setCell ⟨w.heap.size, 6, none⟩ (.slice SA sn sc)).setCell ⟨w.heap.size, 7, none⟩ (.int .i64 m)) = W := ⟨_, rfl⟩
  simp only [hw5] at hb5 hf5 ⊢
  have HB5 := Lib.hid hb5
  have HF5 := Lib.hid hf5
  clear hw5 hb5 hf5 z0 z1 z2 z3 z4 z5 z6 z7 b0 b1 b2 b3 b4 b5 b6 b7 zl
  refine hK.out _ _ trivial (fun _ => ?_)
  clear hK K
  refine take_by (i := 11) (v := .int .i64 er) rfl trivial ?_
  refine done_by ?_
  obtain ⟨b0, b1, b2, b3, b4, b5, b6, b7, zl⟩ := HB5.out.c8
  go_wp2_with fail
  refine bodyPost_ret (v := .tuple #[.agg #[.int .i64 k, .int .i64 f, .int .i64 t, .int .i64 gf, .int .i64 gt, .int .i64 ins, .slice SA sn sc, .int .i64 m], .int .i64 er]) (by simp [results, go_sem, b0, b1, b2, b3, b4, b5, b6, b7]) rfl ?_
  have hq := HQ.out
  have hfin : Fr (One q) w w5 := (HF0.out.any.same HF3.out).trans HF5.out (fun k hk e => by have e' : k = w.heap.size := e; omega)
  refine ⟨⟨OB, ob, by rw [← HSV.out, HYO.out, HER.out], fun y hy => ?_⟩, ?_, hfin⟩
  · obtain ⟨h1, h2⟩ := HO.out y hy
    exact ⟨(h1.fr HF5.out (fun k _ e => by have e' : k = w.heap.size := e; rw [e']; exact HNI.out)).mono HNS.out, h2⟩
  · exact (HPP.out.fr HF5.out (fun k _ e => by have e' : k = w.heap.size := e; rw [e']; exact HNI.out) (fun e => by have e' : q = w.heap.size := e; omega)).mono HNS.out HNQ.out
end Go.Proofs.YtldcffonfidbcaaGreatDoor

/- History.Remote as a plain function. -/
namespace Go.Proofs.YtldcffonfidbcaaGreatDoor
open Go.RowKit
/-- Steps, the top first, through a step; how many are lost. -/
def sendP : List StepM → StepM → List StepM × Nat
  | [], _ => ([], 0)
  | x :: r, y =>
    match sentF x y with
    | none => ((sendP r y).1, (sendP r y).2 + 1)
    | some s' =>
      match sentF y x with
      | some y' => (s' :: (sendP r y').1, (sendP r y').2)
      | none => (s' :: r, 0)
theorem sendGo_P : ∀ (r : List StepA) (y : StepM), (sendGo r y).1.map StepA.s = (sendP (r.map StepA.s) y).1 ∧ (sendGo r y).2 = (sendP (r.map StepA.s) y).2
  | [], _ => ⟨rfl, rfl⟩
  | x :: r, y => by
    rw [List.map_cons]
    unfold sendGo sendP
    cases h1 : sentF x.s y with
    | none =>
      obtain ⟨h2, h3⟩ := sendGo_P r y
      exact ⟨h2, by simp only [h3]⟩
    | some s' =>
      simp only
      cases h2 : sentF y x.s with
      | none => exact ⟨rfl, rfl⟩
      | some y' =>
        obtain ⟨h3, h4⟩ := sendGo_P r y'
        exact ⟨by simp only [List.map_cons, h3], h4⟩
def remoteF (rs : List RuleM) (g : List Grp) (st : HS) (s : StepM) : HS × Int :=
  if doE rs g s st.l = 0 then (⟨doF s st.l, (sendP st.U.reverse s).1.reverse, (sendP st.R.reverse s).1.reverse, st.lost + (sendP st.U.reverse s).2 + (sendP st.R.reverse s).2⟩, 0) else (st, doE rs g s st.l)
theorem hRemote_any (N : Nat → Prop) (q p : Nat) (rs : List RuleM) (g : List Grp) (hok : SchOk rs g) (st : HS) (s : StepM) (B : Option Addr) (b : Nat) (w : World) (h : HP N w q p rs g st) (hx : Rd N w B (tokC s.l)) (hb : s.l.length ≤ b) (hn : st.l.length ≤ 100000) (hu : st.U.length ≤ 1000) (hr : st.R.length ≤ 1000) (hlo : st.lost ≤ 100000) (hN : ∀ k, N k → k < w.heap.size) :
    Calls Tryz.prog 17 #[.pointer (some ⟨q, 0, none⟩), .agg (s.cells (.slice B s.l.length b)).toArray] w fun e w' => e = .returned (.int .i64 (remoteF rs g st s).2) ∧ HP N w' q p rs g (remoteF rs g st s).1 ∧ Fr (One q) w w' := by
  obtain ⟨l, U, R, lost⟩ := st
  obtain ⟨x, hm, h1, h2, h3, h4⟩ := h.ex
  simp only at h1 h2 h3 h4 hn hu hr hlo
  subst h1 h2 h3 h4
  rw [List.length_map] at hu hr
  refine (hremote_any N q p rs g hok x s B b w hm hx hb hn hu hr hlo hN).mono fun e w' hp => ?_
  obtain ⟨rfl, hf, hz, hnz⟩ := hp
  unfold remoteF
  by_cases hE : doE rs g s x.l = 0
  · obtain ⟨A', c', UA', uc', RA', rc', hm'⟩ := hz hE
    rw [if_pos hE]
    obtain ⟨e1, e2⟩ := sendGo_P x.U.reverse s
    obtain ⟨e3, e4⟩ := sendGo_P x.R.reverse s
    rw [List.map_reverse] at e1 e2 e3 e4
    exact ⟨by rw [hE], ⟨_, hm', rfl, by simp only [List.map_reverse, e1], by simp only [List.map_reverse, e3], by simp only [e2, e4]⟩, hf⟩
  · rw [if_neg hE]
    exact ⟨rfl, ⟨_, hnz hE, rfl, rfl, rfl, rfl⟩, hf⟩
end Go.Proofs.YtldcffonfidbcaaGreatDoor

/- History.Local: an own step. -/
namespace Go.Proofs.YtldcffonfidbcaaGreatDoor
open Go.RowKit
def LocPost (N : Nat → Prop) (w : World) (q p : Nat) (rs : List RuleM) (g : List Grp) (x : HX) (s : StepM) (e : Ending) (w' : World) : Prop :=
  e = .returned (.int .i64 (doE rs g s x.l)) ∧ Fr (One q) w w' ∧
  (doE rs g s x.l = 0 → ∃ A' c' UA' uc' IB ib, HM N w' q p rs g ⟨A', c', doF s x.l, UA', uc', x.U ++ [⟨invS s x.l, IB, ib⟩], none, 0, [], x.lost⟩) ∧
  (doE rs g s x.l ≠ 0 → HM N w' q p rs g x)
set_option maxRecDepth 100000 in
set_option maxHeartbeats 4000000 in
theorem hlocal_any (N : Nat → Prop) (q p : Nat) (rs : List RuleM) (g : List Grp) (hok : SchOk rs g) (x : HX) (s : StepM) (B : Option Addr) (b : Nat) (w : World) (h : HM N w q p rs g x) (hx : Rd N w B (tokC s.l)) (hb : s.l.length ≤ b) (hn : x.l.length ≤ 100000) (hu : x.U.length ≤ 99) (hN : ∀ k, N k → k < w.heap.size) :
    Calls Tryz.prog 9 #[.pointer (some ⟨q, 0, none⟩), .agg (s.cells (.slice B s.l.length b)).toArray] w fun e w' => LocPost N w q p rs g x s e w' := by
  have HH := Lib.hid h
  have HNN := Lib.hid hN
  have HQ := Lib.hid h.blk.lt
  have HDO := Lib.hid (fun (W : World) (hF : Fr Nob w W) => hdo_any N q p rs g hok x s B b W (h.fr0 hF) (hx.fr hF (fun _ _ h => h.elim)) hb hn (fun k hk => Nat.lt_of_lt_of_le (hN k hk) hF.size))
  have HN := Lib.hid (fun (W : World) (hF : Fr Nob w W) => hnone_any q p W (h.fr0 hF).f5.1)
  have HP := Lib.hid (show ∀ (e : Ending) (w' : World), (e = .returned (.int .i64 (doE rs g s x.l)) ∧ Fr (One q) w w' ∧
    (doE rs g s x.l = 0 → ∃ A' c' UA' uc' IB ib, HM N w' q p rs g ⟨A', c', doF s x.l, UA', uc', x.U ++ [⟨invS s x.l, IB, ib⟩], none, 0, [], x.lost⟩) ∧
    (doE rs g s x.l ≠ 0 → HM N w' q p rs g x)) → LocPost N w q p rs g x s e w' from fun e w' h => h)
  simp only [DoPost] at HDO
  clear h hx hb hn hok hN
  obtain ⟨E, hE⟩ : ∃ E, doE rs g s x.l = E := ⟨_, rfl⟩
  obtain ⟨D, hD⟩ : ∃ D, doF s x.l = D := ⟨_, rfl⟩
  obtain ⟨Y, hY⟩ : ∃ Y, invS s x.l = Y := ⟨_, rfl⟩
  simp only [hE, hD, hY] at HDO HP
  obtain ⟨PO, hPO⟩ : ∃ P, LocPost N w q p rs g x s = P := ⟨_, rfl⟩
  rw [hPO] at HP ⊢
  clear hE hD hY hPO
  obtain ⟨⟨yk, yf, yt, ygf, ygt, yins, ym, yl⟩, hYY⟩ : ∃ Y', Y = Y' := ⟨_, rfl⟩
  have HYY := Lib.hid hYY
  simp only [hYY] at HDO
  clear hYY
  obtain ⟨yn, hyn⟩ : ∃ n, yl.length = n := ⟨_, rfl⟩
  have HYN := Lib.hid hyn
  clear hyn
  obtain ⟨A, c, l, UA, uc, U, RA, rc, R, lost⟩ := x
  simp only at HH HDO HP hu
  obtain ⟨un, hun⟩ : ∃ n, U.length = n := ⟨_, rfl⟩
  have HUN := Lib.hid hun
  rw [hun] at hu
  clear hun
  obtain ⟨k, f, t, gf, gt, ins, m, x⟩ := s
  simp only [StepM.cells] at *
  obtain ⟨xn, hxn⟩ : ∃ xn, x.length = xn := ⟨_, rfl⟩
  simp only [hxn] at HDO ⊢
  clear hxn
  go_enter Tryz.func9, Tryz.ntmps9
  go_wp2_with fail
  obtain ⟨W, hW⟩ : ∃ W, w.alloc (.cells #[.int .i64 k, .int .i64 f, .int .i64 t, .int .i64 gf, .int .i64 gt, .int .i64 ins, .slice B xn b, .int .i64 m] 32) = W := ⟨_, rfl⟩
  have HF := Lib.hid (show Fr Nob w W by rw [← hW]; exact (Fr.refl _ _).alloc _)
  have HS := Lib.hid (show Blk W w.heap.size [.int .i64 k, .int .i64 f, .int .i64 t, .int .i64 gf, .int .i64 gt, .int .i64 ins, .slice B xn b, .int .i64 m] 32 by rw [← hW]; exact Blk.new _ _ _)
  rw [hW]
  clear hW
  refine (HN.out W HF.out).mono ?_
  rintro e w0 ⟨rfl, rfl⟩
  obtain ⟨d0, d1, d2, d3, d4, d5, d6, d7, dl⟩ := HS.out.c8
  go_wp2_with fail
  refine (HDO.out w0 HF.out).mono ?_
  clear d0 d1 d2 d3 d4 d5 d6 d7 dl
  rintro e w1 ⟨hz, hnz, hF1⟩
  have HF1 := Lib.hid ((HF.out.any (M := One q)).same hF1)
  clear hF1
  by_cases h0 : E = 0
  · obtain ⟨IB, ib, A1, c1, rfl, hM1, hI, hib⟩ := hz h0
    subst h0
    clear hz hnz
    have HM1 := Lib.hid hM1
    have HQ1 := Lib.hid hM1.blk.lt
    rw [HYN.out] at hib ⊢
    have HPU := Lib.hid (fun (W : World) (hF : Fr Nob w1 W) => push_any N UA uc U ⟨⟨yk, yf, yt, ygf, ygt, yins, ym, yl⟩, IB, ib⟩ 100 W ((hM1.fr0 hF).und) (hI.fr hF (fun _ _ h => h.elim)) (by rw [HYN.out]; exact hib) (.inr (by rw [HUN.out]; omega)) (by omega) (by rw [HUN.out]; omega) (fun k hk => Nat.lt_of_lt_of_le (HNN.out k hk) (Nat.le_trans HF1.out.size hF.size)))
    simp only [StepA.cells, StepM.cells, HUN.out, HYN.out] at HPU
    clear hM1 hI hib
    go_upto_region 6 with (fail)
    obtain ⟨r, hr⟩ : ∃ r, w1.heap.size = r := ⟨_, rfl⟩
    obtain ⟨W2, hW2⟩ : ∃ W, w1.alloc (.cells #[.int .i64 yk, .int .i64 yf, .int .i64 yt, .int .i64 ygf, .int .i64 ygt, .int .i64 yins, .slice IB yn ib, .int .i64 ym] 32) = W := ⟨_, rfl⟩
    have HF2 := Lib.hid (show Fr Nob w1 W2 by rw [← hW2]; exact (Fr.refl _ _).alloc _)
    have HR2 := Lib.hid (show Blk W2 r [.int .i64 yk, .int .i64 yf, .int .i64 yt, .int .i64 ygf, .int .i64 ygt, .int .i64 yins, .slice IB yn ib, .int .i64 ym] 32 by rw [← hW2, ← hr]; exact Blk.new _ _ _)
    rw [hr, hW2]
    clear hr hW2
    have HQB := Lib.hid ((HM1.out.fr0 HF2.out).blk)
    have KS := Lib.hid (show ∀ W' : World, Fr Nob W2 W' → (W'.cell? ⟨q, 2, none⟩ = some (.slice UA un uc) ∧ W'.cell? ⟨r, 0, none⟩ = some (.int .i64 yk) ∧ W'.cell? ⟨r, 1, none⟩ = some (.int .i64 yf) ∧ W'.cell? ⟨r, 2, none⟩ = some (.int .i64 yt) ∧ W'.cell? ⟨r, 3, none⟩ = some (.int .i64 ygf) ∧ W'.cell? ⟨r, 4, none⟩ = some (.int .i64 ygt) ∧ W'.cell? ⟨r, 5, none⟩ = some (.int .i64 yins) ∧ W'.cell? ⟨r, 6, none⟩ = some (.slice IB yn ib) ∧ W'.cell? ⟨r, 7, none⟩ = some (.int .i64 ym)) from fun W' hF' => by
      have h := HR2.out.fr hF' (fun h => h)
      have hq := (HM1.out.fr0 (HF2.out.same hF')).f5
      simp only [HUN.out] at hq
      exact ⟨hq.2.2.1, h.cell 0, h.cell 1, h.cell 2, h.cell 3, h.cell 4, h.cell 5, h.cell 6, h.cell 7⟩)
    refine wp_region_G 10 (S := fun W' : World => W'.cell? ⟨q, 2, none⟩ = some (.slice UA un uc) ∧ W'.cell? ⟨r, 0, none⟩ = some (.int .i64 yk) ∧ W'.cell? ⟨r, 1, none⟩ = some (.int .i64 yf) ∧ W'.cell? ⟨r, 2, none⟩ = some (.int .i64 yt) ∧ W'.cell? ⟨r, 3, none⟩ = some (.int .i64 ygf) ∧ W'.cell? ⟨r, 4, none⟩ = some (.int .i64 ygt) ∧ W'.cell? ⟨r, 5, none⟩ = some (.int .i64 yins) ∧ W'.cell? ⟨r, 6, none⟩ = some (.slice IB yn ib) ∧ W'.cell? ⟨r, 7, none⟩ = some (.int .i64 ym)) (by kernel_rfl) ?_
    have HFD := Lib.hid ((Fr.refl Nob W2).drew)
    generalize W2.drew = wd at HFD ⊢
    have HSD := Lib.hid (KS.out wd HFD.out)
    refine take_g (i := 0) (v := .pointer (some ⟨q, 0, none⟩)) rfl HSD.out ?_
    refine take_p (i := 1) (v := .pointer (some ⟨q, 0, none⟩)) rfl (fun _ => HSD.out) ?_
    refine take_g (i := 2) (v := .pointer (some ⟨q, 0, none⟩)) rfl HSD.out ?_
    refine take_g (i := 6) (v := .agg #[.int .i64 yk, .int .i64 yf, .int .i64 yt, .int .i64 ygf, .int .i64 ygt, .int .i64 yins, .slice IB yn ib, .int .i64 ym]) rfl HSD.out ?_
    refine take_g (i := 3) (v := .pointer (some ⟨q, 0, none⟩)) rfl HSD.out ?_
    refine take_g (i := 4) (v := .pointer (some ⟨q, 2, none⟩)) rfl HSD.out ?_
    refine take_g (i := 5) (v := .slice UA un uc) rfl HSD.out ?_
    refine readyG1 7 rfl (fun K hK => ?_)
    go_simp
    refine (HPU.out wd (HF2.out.same HFD.out)).mono ?_
    rintro e w3 ⟨UA2, uc2, rfl, hst, hF3⟩
    have HST := Lib.hid hst
    have HF3 := Lib.hid (HFD.out.same hF3)
    clear hst hF3
    go_wp2_with fail
    refine hK.out _ _ (fun _ => (KS.out _ HF3.out)) ?_
    clear hK K
    refine take_g (i := 8) (v := .pointer (some ⟨q, 0, none⟩)) rfl (KS.out _ HF3.out) ?_
    refine take_g (i := 9) (v := .pointer (some ⟨q, 2, none⟩)) rfl (KS.out _ HF3.out) ?_
    refine readyG1 10 rfl (fun K hK => ?_)
    have HB3 := Lib.hid (HQB.out.fr HF3.out (fun h => h))
    have f1 := HB3.out.frozen 2
    have f2 := HB3.out.cell 2
    have f3 := HB3.out.lt
    simp only [HX.cells, List.getElem?_cons_zero, List.getElem?_cons_succ] at f2
    go_simp
    clear f1 f2 f3
    obtain ⟨w4, hw4⟩ : ∃ W, w3.setCell ⟨q, 2, none⟩ (.slice UA2 (un + 1) uc2) = W := ⟨_, rfl⟩
    have HB4 := Lib.hid (show Blk w4 q _ _ from by rw [← hw4]; exact HB3.out.set 2 (.slice UA2 (un + 1) uc2))
    have HF4 := Lib.hid (show Fr (One q) w3 w4 by rw [← hw4]; exact (Fr.refl (One q) w3).setCell (p := ⟨q, 2, none⟩) (.inl rfl) _)
    rw [hw4]
    clear hw4
    refine hK.out _ _ (late (by kernel_rfl)) ?_
    clear hK K
    refine take_p (i := 11) (v := .pointer (some ⟨q, 0, none⟩)) rfl (late (by kernel_rfl)) ?_
    refine take_p (i := 12) (v := .pointer (some ⟨q, 3, none⟩)) rfl (late (by kernel_rfl)) ?_
    refine readyG1 13 rfl (fun K hK => ?_)
    have f1 := HB4.out.frozen 3
    have f2 := HB4.out.cell 3
    have f3 := HB4.out.lt
    simp only [HX.cells, List.set_cons_zero, List.set_cons_succ, List.getElem?_cons_zero, List.getElem?_cons_succ] at f2
    go_simp
    clear f1 f2 f3
    obtain ⟨w5, hw5⟩ : ∃ W, w4.setCell ⟨q, 3, none⟩ (.slice none 0 0) = W := ⟨_, rfl⟩
    have HB5 := Lib.hid (show Blk w5 q _ _ from by rw [← hw5]; exact HB4.out.set 3 (.slice none 0 0))
    have HF5 := Lib.hid (show Fr (One q) w3 w5 by rw [← hw5]; exact HF4.out.setCell (p := ⟨q, 3, none⟩) (.inl rfl) _)
    rw [hw5]
    clear hw5
    refine hK.out _ _ (late (by kernel_rfl)) ?_
    clear hK K
    refine doneG_by ?_
    go_wp2_with fail
    have hm := HM1.out.fr0 (HF2.out.same HF3.out)
    refine HP.out _ _ ⟨rfl, (HF1.out.same (HF2.out.same HF3.out).any).same HF5.out, fun _ => ⟨A1, c1, UA2, uc2, IB, ib, ?_, hm.mem, hm.sch.fr HF5.out (hm.one _), hm.doc.fr HF5.out (hm.one _), hm.cap, ?_, Stk.none _ _⟩, fun h => absurd rfl h⟩
    · have h1 := HB5.out
      simpa [HX.cells, HUN.out] using h1
    · rw [HYY.out]
      exact HST.out.fr HF5.out (hm.one _)
  · have h1 := hnz h0
    obtain ⟨rfl, hM1⟩ := h1
    have h0' : (E == 0) = false := by simpa using h0
    have HM1 := Lib.hid hM1
    clear hz hnz hM1
    go_wp2_with fail
    have hal := HF1.out.alloc (.cells #[.int .i64 0, .int .i64 0, .int .i64 0, .int .i64 0, .int .i64 0, .int .i64 0, .slice none 0 0, .int .i64 0] 32)
    exact HP.out _ _ ⟨rfl, hal, fun h => absurd h h0, fun _ => HM1.out.fr0 ((Fr.refl _ _).alloc _)⟩
end Go.Proofs.YtldcffonfidbcaaGreatDoor

/- A document that is right is short; the document by which a law sees that the program computes at all. -/
namespace Go.Proofs.YtldcffonfidbcaaGreatDoor
open Go.RowKit
theorem checkF_flat {rs : List RuleM} {g : List Grp} {l : List Tok} (h : (checkF rs g l).2 = 0) : l.length ≤ 2048 := by
  unfold checkF at h
  split at h
  · rename_i h0; exact absurd h h0
  · rename_i h0; exact flat_short (Decidable.not_not.1 h0)
/-- The document by which a law sees that the program computes at all. -/
def awakeD : List Tok := [⟨1, 1, 0, 0⟩, ⟨2, 0, 0, 0⟩]
theorem awake_check {rs : List RuleM} (h : rs.map coreR = (wholeS ⟨#[98, 108, 111, 99, 107, 43]⟩ :: houseL).map coreS) : checkF rs (groupsF houseL houseG) awakeD = (2, 0) := by
  rw [checkF_house h]
  kernel_rfl
end Go.Proofs.YtldcffonfidbcaaGreatDoor

/- history.New: of a document that is right. -/
namespace Go.Proofs.YtldcffonfidbcaaGreatDoor
open Go.RowKit
def NewPost (w : World) (l : List Tok) (e : Ending) (w' : World) : Prop :=
  (∃ rs, rs.map coreR = (wholeS ⟨#[98, 108, 111, 99, 107, 43]⟩ :: houseL).map coreS ∧
    ((checkF rs (groupsF houseL houseG) l).2 = 0 → ∃ q p A' c', e = .returned (.tuple #[.pointer (some ⟨q, 0, none⟩), .int .i64 0]) ∧ w.heap.size ≤ q ∧ HM (One q) w' q p rs (groupsF houseL houseG) ⟨A', c', l, none, 0, [], none, 0, [], 0⟩) ∧
    ((checkF rs (groupsF houseL houseG) l).2 ≠ 0 → e = .returned (.tuple #[.pointer none, .int .i64 (checkF rs (groupsF houseL houseG) l).2]))) ∧ Fr Nob w w'
set_option maxRecDepth 100000 in
set_option maxHeartbeats 4000000 in
theorem hnew_any (A : Option Addr) (l : List Tok) (c : Nat) (w : World) (hG : HG w) (hr : Rd Nob w A (tokC l)) (hc : l.length ≤ c) (hn : l.length ≤ 9223372036854775807) :
    Calls Tryz.prog 7 #[.slice A l.length c] w fun e w' => NewPost w l e w' := by
  have HHG := Lib.hid hG
  have HR := Lib.hid hr
  have HCC := Lib.hid hc
  have HP := Lib.hid (show ∀ (e : Ending) (w' : World), ((∃ rs, rs.map coreR = (wholeS ⟨#[98, 108, 111, 99, 107, 43]⟩ :: houseL).map coreS ∧
    ((checkF rs (groupsF houseL houseG) l).2 = 0 → ∃ q p A' c', e = .returned (.tuple #[.pointer (some ⟨q, 0, none⟩), .int .i64 0]) ∧ w.heap.size ≤ q ∧ HM (One q) w' q p rs (groupsF houseL houseG) ⟨A', c', l, none, 0, [], none, 0, [], 0⟩) ∧
    ((checkF rs (groupsF houseL houseG) l).2 ≠ 0 → e = .returned (.tuple #[.pointer none, .int .i64 (checkF rs (groupsF houseL houseG) l).2]))) ∧ Fr Nob w w') → NewPost w l e w' from fun e w' h => h)
  obtain ⟨PO, hPO⟩ : ∃ P, NewPost w l = P := ⟨_, rfl⟩
  rw [hPO] at HP ⊢
  clear hG hr hc hPO
  obtain ⟨i0, hi, hz0, hz1, hz2⟩ := info_parts infoTok
  go_enter Tryz.func7, Tryz.ntmps7
  go_wp2_with fail
  refine (house_any w HHG.out).mono ?_
  rintro e w1 ⟨⟨p, rs, rfl, hS, hC⟩, hF1⟩
  have HS := Lib.hid hS
  have HC := Lib.hid hC
  have HF1 := Lib.hid hF1
  have HSO := Lib.hid (house_schok hC)
  have HR1 := Lib.hid (HR.out.fr hF1 (fun _ _ h => h.elim))
  obtain ⟨G, hGG⟩ : ∃ G, groupsF houseL houseG = G := ⟨_, rfl⟩
  rw [hGG] at HS HSO HP
  clear hS hC hF1 hGG
  go_wp2_with fail
  have hck := schcheck_any Nob Nob p rs G HSO.out (.slice A l.length c) l w1 (HS.out.mono (fun _ h => h.elim)) ⟨A, c, rfl, HCC.out, HR1.out⟩ (by omega)
  refine hck.mono ?_
  clear hck
  rintro e w3 ⟨rfl, hF3⟩
  have HSH := Lib.hid (fun h => checkF_flat (rs := rs) (g := G) (l := l) h)
  obtain ⟨E, hE⟩ : ∃ E, (checkF rs G l).2 = E := ⟨_, rfl⟩
  have HPR := Lib.hid (fun (e : Ending) (w' : World) h hf => HP.out e w' ⟨⟨rs, HC.out, h⟩, hf⟩)
  simp only [hE] at HPR HSH ⊢
  clear hE
  have HF3 := Lib.hid hF3
  clear hF3
  by_cases h0 : E = 0
  · subst h0
    have hn2 := HSH.out rfl
    have HR3 := Lib.hid (HR1.out.fr HF3.out (fun _ _ h => h.elim))
    go_wp2_with (at_builtin; refine wpList_append_many _ Nob rfl _ _ 22 rfl w3.heap.size 40 i0 _ 4 32 Tryz.underlying22 hi hz0 hz1 hz2 rfl (by decide) (.slice none 0 0) 0 [] rfl (World.ownsRow_nil _ _ _ _) A l.length c (tokC l) rfl (by rw [tokC_length]; omega) HR3.out (tokC_one l) (by simp only [maxLen]; omega) (by omega) (Nat.le_refl _) ?_; intro v w9 hown9 hf9; obtain ⟨A', c', rfl, hc', hr'⟩ := doc_of_own (l := l) hown9)
    have hf9' : Fr Nob w3 w9 := hf9.mono (fun k _ e => by cases e)
    have hfA := HF1.out.same ((HF3.out.same hf9'))
    have hB := Blk.new w9 [.pointer (some ⟨p, 0, none⟩), .slice A' l.length c', .slice none 0 0, .slice none 0 0, .int .i64 0] 59
    have hS3 := (HS.out.bound.fr (HF3.out.same hf9') (fun _ _ h => h.elim)).bound
    go_wp2_with fail
    refine HPR.out _ _ ⟨fun _ => ⟨w9.heap.size, p, A', c', rfl, Nat.le_trans hfA.size (Nat.le_refl _), hB, rfl, ?_, ?_, hc', Stk.none _ _, Stk.none _ _⟩, fun h => absurd rfl h⟩ (hfA.alloc _)
    · exact ((HS.out.bound.fr (HF3.out.same hf9') (fun _ _ h => h.elim)).mono (M' := One w9.heap.size) (fun k e => .inr (by have e' : k = w9.heap.size := e; have := (HF3.out.same hf9').size; omega))).fr0 ((Fr.refl _ _).alloc _)
    · exact ((hr'.bound).mono (M' := One w9.heap.size) (fun k e => .inr (by have e' : k = w9.heap.size := e; omega))).fr ((Fr.refl Nob _).alloc _) (fun _ _ h => h.elim)
  · have h0' : (E == 0) = false := by simpa using h0
    go_wp2_with fail
    exact HPR.out _ _ ⟨fun h => absurd h h0, fun _ => rfl⟩ (HF1.out.same HF3.out)
end Go.Proofs.YtldcffonfidbcaaGreatDoor

/- Chapter 24: Local as a plain function; what the laws lean on. -/
namespace Go.Proofs.YtldcffonfidbcaaGreatDoor
open Go.RowKit
def localF (rs : List RuleM) (g : List Grp) (st : HS) (s : StepM) : HS × Int :=
  if doE rs g s st.l = 0 then (⟨doF s st.l, st.U ++ [invS s st.l], [], st.lost⟩, 0) else (st, doE rs g s st.l)
theorem hLocal_any (N : Nat → Prop) (q p : Nat) (rs : List RuleM) (g : List Grp) (hok : SchOk rs g) (st : HS) (s : StepM) (B : Option Addr) (b : Nat) (w : World) (h : HP N w q p rs g st) (hx : Rd N w B (tokC s.l)) (hb : s.l.length ≤ b) (hn : st.l.length ≤ 100000) (hu : st.U.length ≤ 99) (hN : ∀ k, N k → k < w.heap.size) :
    Calls Tryz.prog 9 #[.pointer (some ⟨q, 0, none⟩), .agg (s.cells (.slice B s.l.length b)).toArray] w fun e w' => e = .returned (.int .i64 (localF rs g st s).2) ∧ HP N w' q p rs g (localF rs g st s).1 ∧ Fr (One q) w w' := by
  obtain ⟨l, U, R, lost⟩ := st
  obtain ⟨x, hm, h1, h2, h3, h4⟩ := h.ex
  simp only at h1 h2 h3 h4 hn hu
  subst h1 h2 h3 h4
  rw [List.length_map] at hu
  refine (hlocal_any N q p rs g hok x s B b w hm hx hb hn hu hN).mono fun e w' hp => ?_
  obtain ⟨rfl, hf, hz, hnz⟩ := hp
  unfold localF
  by_cases hE : doE rs g s x.l = 0
  · obtain ⟨A', c', UA', uc', IB, ib, hm'⟩ := hz hE
    rw [if_pos hE]
    exact ⟨by rw [hE], ⟨_, hm', rfl, by simp, rfl, rfl⟩, hf⟩
  · rw [if_neg hE]
    exact ⟨rfl, ⟨_, hnz hE, rfl, rfl, rfl, rfl⟩, hf⟩
theorem hDoc_any (N : Nat → Prop) (q p : Nat) (rs : List RuleM) (g : List Grp) (st : HS) (w : World) (h : HP N w q p rs g st) (hn : st.l.length ≤ 100000) :
    Calls Tryz.prog 10 #[.pointer (some ⟨q, 0, none⟩)] w fun e w' => ∃ A c, e = .returned (.slice A st.l.length c) ∧ st.l.length ≤ c ∧ Rd (fun k => k < w.heap.size) w' A (tokC st.l) ∧ Fr Nob w w' := by
  obtain ⟨x, hm, h1, h2, h3, h4⟩ := h.ex
  rw [← h1] at hn ⊢
  refine (hdoc_any N q p rs g x w hm hn).mono fun e w' hp => ?_
  obtain ⟨v, rfl, ⟨A, c, rfl, hc, hr⟩, hf⟩ := hp
  exact ⟨A, c, rfl, hc, hr, hf⟩
/-- A history that was just made. -/
def newS (l : List Tok) : HS := ⟨l, [], [], 0⟩
theorem hNew_any (A : Option Addr) (l : List Tok) (c : Nat) (w : World) (hG : HG w) (hr : Rd Nob w A (tokC l)) (hc : l.length ≤ c) (hn : l.length ≤ 9223372036854775807) :
    Calls Tryz.prog 7 #[.slice A l.length c] w fun e w' => (∃ rs, rs.map coreR = (wholeS ⟨#[98, 108, 111, 99, 107, 43]⟩ :: houseL).map coreS ∧
      ((checkF rs (groupsF houseL houseG) l).2 = 0 → ∃ q p, e = .returned (.tuple #[.pointer (some ⟨q, 0, none⟩), .int .i64 0]) ∧ w.heap.size ≤ q ∧ HP (One q) w' q p rs (groupsF houseL houseG) (newS l)) ∧
      ((checkF rs (groupsF houseL houseG) l).2 ≠ 0 → e = .returned (.tuple #[.pointer none, .int .i64 (checkF rs (groupsF houseL houseG) l).2]))) ∧ Fr Nob w w' := by
  refine (hnew_any A l c w hG hr hc hn).mono fun e w' hp => ?_
  obtain ⟨⟨rs, hC, h0, h1⟩, hf⟩ := hp
  refine ⟨⟨rs, hC, fun h => ?_, h1⟩, hf⟩
  obtain ⟨q, p, A', c', rfl, hq, hm⟩ := h0 h
  exact ⟨q, p, rfl, hq, ⟨_, hm, rfl, rfl, rfl, rfl⟩⟩
set_option maxRecDepth 100000 in
set_option maxHeartbeats 2000000 in
theorem awake24_any (w : World) (hG : HG w) : Calls Tryz.prog 8 #[] w fun e w' => e = .returned (.bool true) ∧ Fr Nob w w' := by
  have HHG := Lib.hid hG
  clear hG
  go_enter Tryz.func8, Tryz.ntmps8
  go_wp2_with fail
  obtain ⟨W, hW⟩ : ∃ W, w.alloc (.cells #[.int .i64 1, .int .i64 1, .int .i64 0, .int .i64 0, .int .i64 2, .int .i64 0, .int .i64 0, .int .i64 0] 40) = W := ⟨_, rfl⟩
  have HB := Lib.hid (show Blk W w.heap.size (tokC awakeD) 40 by rw [← hW]; exact Blk.new _ _ _)
  have HF := Lib.hid (show Fr Nob w W by rw [← hW]; exact (Fr.refl _ _).alloc _)
  rw [hW]
  clear hW
  have hn := hNew_any (some ⟨w.heap.size, 0, none⟩) awakeD 2 W (HHG.out.fr HF.out (fun h => h)) (fun _ => ⟨_, rfl, fun h => h, fun j u hu => by rw [add_lit]; exact (HB.out.cell j).trans hu⟩) (Nat.le_refl _) (by decide)
  have e2 : awakeD.length = 2 := rfl
  rw [e2] at hn
  refine hn.mono ?_
  clear hn e2
  rintro e w1 ⟨⟨rs, hC, h0, h1⟩, hF1⟩
  obtain ⟨q, p, rfl, hq, hP⟩ := h0 (by rw [awake_check hC])
  have HPP := Lib.hid hP
  have HF1 := Lib.hid (HF.out.same hF1)
  clear h0 h1 hP hF1 hC hq
  go_wp2_with fail
  refine (hDoc_any (One q) q p rs _ (newS awakeD) w1 HPP.out (by decide)).mono ?_
  rintro e w2 ⟨A, c, rfl, _, _, hF2⟩
  have HF2 := Lib.hid (HF1.out.same hF2)
  have e2 : (newS awakeD).l.length = 2 := rfl
  rw [e2]
  clear e2 hF2
  go_wp2_with fail
  go_ret
  exact ⟨rfl, HF2.out⟩
end Go.Proofs.YtldcffonfidbcaaGreatDoor

/- Chapter 24: what one typed is undone, what another one typed meanwhile stays: in plain words. -/
namespace Go.Proofs.YtldcffonfidbcaaGreatDoor
open Go.RowKit
/-- One letter less, at a place. -/
def delS (p : Nat) : StepM := ⟨0, p, (p : Int) + 1, 0, 0, 0, 0, []⟩
theorem doE_house {rs : List RuleM} (h : rs.map coreR = (wholeS ⟨#[98, 108, 111, 99, 107, 43]⟩ :: houseL).map coreS) (s : StepM) (l : List Tok) : doE rs (groupsF houseL houseG) s l = doE houseR gH s l := by
  unfold doE gH
  rw [checkF_house h]
theorem inv_put (p : Nat) (c : Int) (l : List Tok) : invS (putS p c) l = delS p := by
  unfold invS
  rw [if_pos (show (putS p c).k = 0 from rfl)]
  have e : (putS p c).t.toNat - (putS p c).f.toNat = 0 := by show ((p : Int).toNat - (p : Int).toNat) = 0; omega
  rw [e, List.take_zero]
  rfl
/-- Where a letter is that was typed at p, behind another one that was put at q. -/
def atD (p q : Nat) : Nat := if q ≤ p then p + 2 else p + 1
def sentB (p q : Nat) : Bool := (sentF (delS (p + 1)) (putS (q + 1) 121)).elim false (fun x => eqS x (delS (atD p q)))
theorem sent_all : ((List.range 40).all fun p => (List.range 41).all fun q => sentB p q) = true := by kernel_rfl
theorem sent_del {p q : Nat} (hp : p < 40) (hq : q < 41) : sentF (delS (p + 1)) (putS (q + 1) 121) = some (delS (atD p q)) := by
  have h1 := sent_all
  rw [List.all_eq_true] at h1
  have h2 := h1 p (List.mem_range.2 hp)
  rw [List.all_eq_true] at h2
  have h3 := h2 q (List.mem_range.2 hq)
  unfold sentB at h3
  cases h : sentF (delS (p + 1)) (putS (q + 1) 121) with
  | none => rw [h] at h3; cases h3
  | some x => rw [h] at h3; rw [eqS_spec h3]
theorem sendP_one {p q : Nat} (hp : p < 40) (hq : q < 41) : sendP [delS (p + 1)] (putS (q + 1) 121) = ([delS (atD p q)], 0) := by
  unfold sendP
  rw [sent_del hp hq]
  simp only
  split <;> rfl
theorem ins_app (a b : List Tok) (c : Int) : insR (a ++ b) a.length c = a ++ runeT c :: b := by simp [insR]
theorem ins_comm (u : List Tok) (p q : Nat) (x y : Int) (h : q ≤ p) (hp : p ≤ u.length) : insR (insR u p x) q y = insR (insR u q y) (p + 1) x := by
  obtain ⟨a, b, d, rfl, ha, hb⟩ : ∃ a b d, u = a ++ (b ++ d) ∧ a.length = q ∧ (a ++ b).length = p := by
    refine ⟨u.take q, (u.drop q).take (p - q), u.drop p, ?_, by rw [List.length_take]; omega, by rw [List.length_append, List.length_take, List.length_take, List.length_drop]; omega⟩
    have e : u.drop p = (u.drop q).drop (p - q) := by rw [List.drop_drop]; congr 1; omega
    rw [e, List.take_append_drop, List.take_append_drop]
  subst ha
  subst hb
  have e1 : insR (a ++ (b ++ d)) (a ++ b).length x = a ++ (b ++ runeT x :: d) := by
    rw [← List.append_assoc, ins_app, List.append_assoc]
  have e2 : (a ++ b).length + 1 = (a ++ runeT y :: b).length := by simp; omega
  have e3 : a ++ runeT y :: (b ++ d) = (a ++ runeT y :: b) ++ d := by simp
  rw [e1, ins_app, ins_app, e2, e3, ins_app]
  simp
/-- The text in the end. -/
def leftU (k p q : Nat) : List Tok := insR (dotsU k) (if q ≤ p then q else q - 1) 121
theorem both_left {k p q : Nat} (hp : p ≤ k) (hq : q ≤ k + 1) : insR (insR (dotsU k) p 120) q 121 = insR (leftU k p q) (atD p q - 1) 120 := by
  have hl : (dotsU k).length = k := List.length_replicate
  unfold leftU atD
  by_cases h : q ≤ p
  · rw [if_pos h, if_pos h]
    exact ins_comm _ p q 120 121 h (by omega)
  · rw [if_neg h, if_neg h]
    have h1 := ins_comm (dotsU k) (q - 1) p 121 120 (by omega) (by omega)
    rw [show q - 1 + 1 = q by omega] at h1
    exact h1.symm
theorem left_rune {k p q : Nat} : ∀ x ∈ leftU k p q, Rune x := insR_rune (dots_rune k) _ rune_y
theorem left_len {k p q : Nat} (hp : p ≤ k) (hq : q ≤ k + 1) : (leftU k p q).length = k + 1 := by
  have hl : (dotsU k).length = k := List.length_replicate
  unfold leftU
  rw [insR_len _ _ _ (by split <;> omega), hl]
theorem del_para (u : List Tok) (j : Nat) (c : Int) (h : j ≤ u.length) : doF (delS (j + 1)) (paraD (insR u j c)) = paraD u := by
  show repF ((j + 1 : Nat) : Int).toNat (((j + 1 : Nat) : Int) + 1).toNat [] (paraD (insR u j c)) = _
  have e1 : ((j + 1 : Nat) : Int).toNat = j + 1 := by omega
  have e2 : (((j + 1 : Nat) : Int) + 1).toNat = j + 1 + 1 := by omega
  rw [e1, e2]
  have hl : (u.take j).length = j := by rw [List.length_take]; omega
  unfold repF paraD insR
  rw [List.take_succ_cons, List.drop_succ_cons]
  have e3 : u.take j ++ runeT c :: u.drop j ++ [closeT] = u.take j ++ ([runeT c] ++ (u.drop j ++ [closeT])) := by simp
  have e4 : u.take j ++ runeT c :: u.drop j ++ [closeT] = (u.take j ++ [runeT c]) ++ (u.drop j ++ [closeT]) := by simp
  have e5 : (u.take j ++ runeT c :: u.drop j ++ [closeT]).take j = u.take j := by rw [e3]; exact List.take_left' hl
  have e6 : (u.take j ++ runeT c :: u.drop j ++ [closeT]).drop (j + 1) = u.drop j ++ [closeT] := by rw [e4]; exact List.drop_left' (by rw [List.length_append, hl]; rfl)
  rw [e5, e6]
  simp only [List.nil_append, List.cons_append]
  rw [← List.append_assoc, List.take_append_drop]
theorem del_right (p : Nat) (hp : p + 1 ≤ 2048) : stepF (delS p) = 0 := by
  unfold stepF
  rw [if_neg (by simp [delS])]
  have h1 : kindOk (delS p) = true := by
    unfold kindOk
    rw [if_pos (show (delS p).k = 0 from rfl)]
    simp only [delS, okRep]
    rw [(ok0S_iff _ _).2 ⟨by omega, by omega, by omega⟩]
    rfl
  rw [h1]
  simp [delS]
theorem del_do {u : List Tok} (h : ∀ x ∈ u, Rune x) (j : Nat) {c : Int} (hc : Rune (runeT c)) (hj : j ≤ u.length) (hn : u.length ≤ 1000) : doE houseR gH (delS (j + 1)) (paraD (insR u j c)) = 0 := by
  have h2 := insR_rune h j hc
  have h3 : (insR u j c).length ≤ 2000 := by rw [insR_len _ _ _ hj]; omega
  unfold doE
  have ha : applyE (delS (j + 1)) (paraD (insR u j c)) = 0 := by
    unfold applyE
    rw [if_neg (by rw [para_flat h2 h3]; simp), if_neg (by rw [del_right _ (by omega)]; simp), if_neg (by have := insR_len u j c hj; simp [delS, paraD]; omega), del_para _ _ _ hj, para_flat h (by omega)]
    rfl
  rw [if_neg (by rw [ha]; simp), del_para _ _ _ hj]
  exact para_check h (by omega)
/-- What is told in the end. -/
theorem typed_all {rs : List RuleM} (hC : rs.map coreR = (wholeS ⟨#[98, 108, 111, 99, 107, 43]⟩ :: houseL).map coreS) {k p q : Nat} (hk : k < 40) (hp : p ≤ k) (hq : q ≤ k + 1) :
    (checkF rs (groupsF houseL houseG) (paraD (dotsU k))).2 = 0 ∧
    localF rs (groupsF houseL houseG) (newS (paraD (dotsU k))) (putS (p + 1) 120) = (⟨paraD (insR (dotsU k) p 120), [delS (p + 1)], [], 0⟩, 0) ∧
    remoteF rs (groupsF houseL houseG) ⟨paraD (insR (dotsU k) p 120), [delS (p + 1)], [], 0⟩ (putS (q + 1) 121) = (⟨paraD (insR (insR (dotsU k) p 120) q 121), [delS (atD p q)], [], 0⟩, 0) ∧
    ∃ y, undoF rs (groupsF houseL houseG) ⟨paraD (insR (insR (dotsU k) p 120) q 121), [delS (atD p q)], [], 0⟩ = (⟨paraD (leftU k p q), [], [y], 0⟩, some (delS (atD p q)), 0) := by
  have hl : (dotsU k).length = k := List.length_replicate
  have hr0 := dots_rune k
  have hr1 := insR_rune hr0 p rune_x
  have hl1 := insR_len (dotsU k) p 120 (by omega)
  refine ⟨?_, ?_, ?_, ?_⟩
  · rw [checkF_house hC]
    exact para_check hr0 (by omega)
  · have h := put_do hr0 p rune_x (by omega) (by omega)
    have h' : doE rs (groupsF houseL houseG) (putS (p + 1) 120) (newS (paraD (dotsU k))).l = 0 := (doE_house hC _ _).trans h
    unfold localF
    rw [if_pos h']
    show ((⟨doF (putS (p + 1) 120) (paraD (dotsU k)), [invS (putS (p + 1) 120) (paraD (dotsU k))], [], 0⟩, 0) : HS × Int) = _
    rw [put_para _ _ _ (by omega), inv_put]
  · have h := put_do hr1 q rune_y (by omega) (by omega)
    unfold remoteF
    rw [doE_house hC, if_pos h, put_para _ _ _ (by omega)]
    simp only [List.reverse_cons, List.reverse_nil, List.nil_append]
    rw [sendP_one (by omega) (by omega)]
    rfl
  · have hat : atD p q = atD p q - 1 + 1 := by unfold atD; split <;> omega
    have hal : atD p q - 1 ≤ (leftU k p q).length := by rw [left_len hp hq]; unfold atD; split <;> omega
    have hd := del_do left_rune (atD p q - 1) rune_x hal (by rw [left_len hp hq]; omega)
    have hf := del_para (leftU k p q) (atD p q - 1) 120 hal
    rw [← hat] at hd hf
    rw [both_left hp hq]
    refine ⟨invS (delS (atD p q)) (paraD (insR (leftU k p q) (atD p q - 1) 120)), ?_⟩
    unfold undoF
    simp only [List.reverse_cons, List.reverse_nil, List.nil_append]
    rw [doE_house hC, if_pos hd, hf]
theorem left_n (k p q : Nat) : (∀ x ∈ paraD (leftU k p q), x.n ≠ 120) ∧ (paraD (leftU k p q)).countP (fun x => x.n == 121) = 1 := by
  have hd : ∀ x ∈ dotsU k, x = runeT 46 := fun x hx => List.eq_of_mem_replicate hx
  have h0 : ∀ l : List Tok, (∀ x ∈ l, x = runeT 46) → l.countP (fun x => x.n == 121) = 0 := fun l h => List.countP_eq_zero.2 (fun x hx => by rw [h x hx]; decide)
  constructor
  · intro x hx
    unfold paraD leftU insR at hx
    rcases List.mem_cons.1 hx with rfl | hx
    · decide
    · rcases List.mem_append.1 hx with hx | hx
      · rcases List.mem_append.1 hx with hx | hx
        · rw [hd x (List.mem_of_mem_take hx)]; decide
        · rcases List.mem_cons.1 hx with rfl | hx
          · decide
          · rw [hd x (List.mem_of_mem_drop hx)]; decide
      · rw [List.mem_singleton.1 hx]; decide
  · unfold paraD leftU insR
    rw [List.countP_cons, List.countP_append, List.countP_append, List.countP_cons, h0 _ (fun x hx => hd x (List.mem_of_mem_take hx)), h0 _ (fun x hx => hd x (List.mem_of_mem_drop hx))]
    rfl
end Go.Proofs.YtldcffonfidbcaaGreatDoor
