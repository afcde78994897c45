/- A part of the proof for chapter 10: HistNew, HistLaw, BackP, Docs, Alike24; no conditions. -/
import Derived.Test.YtldcffonfidbcaaGreatDoorB25
import Derived.Test.YtldcffonfidbcaaGreatDoorB27
import Derived.Test.YtldcffonfidbcaaGreatDoorB11
/- history.New: of a document that is right. -/
namespace Go.Proofs.YtldcffonfidbcaaGreatDoor
open Go.RowKit
def NewPost (w : World) (l : List Tok) (e : Ending) (w' : World) : Prop :=
  (∃ rs, rs.map coreR = (wholeS ⟨#[98, 108, 111, 99, 107, 43]⟩ :: houseL).map coreS ∧
    ((checkF rs (groupsF houseL houseG) l).2 = 0 → ∃ q p A' c', e = .returned (.tuple #[.pointer (some ⟨q, 0, none⟩), .int .i64 0]) ∧ w.heap.size ≤ q ∧ HM (One q) w' q p rs (groupsF houseL houseG) ⟨A', c', l, none, 0, [], none, 0, [], 0⟩) ∧
    ((checkF rs (groupsF houseL houseG) l).2 ≠ 0 → e = .returned (.tuple #[.pointer none, .int .i64 (checkF rs (groupsF houseL houseG) l).2]))) ∧ Fr Nob w w'
set_option maxRecDepth 100000 in
set_option maxHeartbeats 4000000 in
theorem hnew_any (A : Option Addr) (l : List Tok) (c : Nat) (w : World) (hG : HG w) (hr : Rd Nob w A (tokC l)) (hc : l.length ≤ c) (hn : l.length ≤ 9223372036854775807) :
    Calls Tryz.prog 7 #[.slice A l.length c] w fun e w' => NewPost w l e w' := by
  have HHG := Lib.hid hG
  have HR := Lib.hid hr
  have HCC := Lib.hid hc
  have HP := Lib.hid (show ∀ (e : Ending) (w' : World), ((∃ rs, rs.map coreR = (wholeS ⟨#[98, 108, 111, 99, 107, 43]⟩ :: houseL).map coreS ∧
    ((checkF rs (groupsF houseL houseG) l).2 = 0 → ∃ q p A' c', e = .returned (.tuple #[.pointer (some ⟨q, 0, none⟩), .int .i64 0]) ∧ w.heap.size ≤ q ∧ HM (One q) w' q p rs (groupsF houseL houseG) ⟨A', c', l, none, 0, [], none, 0, [], 0⟩) ∧
    ((checkF rs (groupsF houseL houseG) l).2 ≠ 0 → e = .returned (.tuple #[.pointer none, .int .i64 (checkF rs (groupsF houseL houseG) l).2]))) ∧ Fr Nob w w') → NewPost w l e w' from fun e w' h => h)
  obtain ⟨PO, hPO⟩ : ∃ P, NewPost w l = P := ⟨_, rfl⟩
  rw [hPO] at HP ⊢
  clear hG hr hc hPO
  obtain ⟨i0, hi, hz0, hz1, hz2⟩ := info_parts infoTok
  go_enter Tryz.func7, Tryz.ntmps7
  go_wp2_with fail
  refine (house_any w HHG.out).mono ?_
  rintro e w1 ⟨⟨p, rs, rfl, hS, hC⟩, hF1⟩
  have HS := Lib.hid hS
  have HC := Lib.hid hC
  have HF1 := Lib.hid hF1
  have HSO := Lib.hid (house_schok hC)
  have HR1 := Lib.hid (HR.out.fr hF1 (fun _ _ h => h.elim))
  obtain ⟨G, hGG⟩ : ∃ G, groupsF houseL houseG = G := ⟨_, rfl⟩
  rw [hGG] at HS HSO HP
  clear hS hC hF1 hGG
  go_wp2_with fail
  have hck := schcheck_any Nob Nob p rs G HSO.out (.slice A l.length c) l w1 (HS.out.mono (fun _ h => h.elim)) ⟨A, c, rfl, HCC.out, HR1.out⟩ (by omega)
  refine hck.mono ?_
  clear hck
  rintro e w3 ⟨rfl, hF3⟩
  have HSH := Lib.hid (fun h => checkF_flat (rs := rs) (g := G) (l := l) h)
  obtain ⟨E, hE⟩ : ∃ E, (checkF rs G l).2 = E := ⟨_, rfl⟩
  have HPR := Lib.hid (fun (e : Ending) (w' : World) h hf => HP.out e w' ⟨⟨rs, HC.out, h⟩, hf⟩)
  simp only [hE] at HPR HSH ⊢
  clear hE
  have HF3 := Lib.hid hF3
  clear hF3
  by_cases h0 : E = 0
  · subst h0
    have hn2 := HSH.out rfl
    have HR3 := Lib.hid (HR1.out.fr HF3.out (fun _ _ h => h.elim))
    go_wp2_with (at_builtin; refine wpList_append_many _ Nob rfl _ _ 22 rfl w3.heap.size 40 i0 _ 4 32 Tryz.underlying22 hi hz0 hz1 hz2 rfl (by decide) (.slice none 0 0) 0 [] rfl (World.ownsRow_nil _ _ _ _) A l.length c (tokC l) rfl (by rw [tokC_length]; omega) HR3.out (tokC_one l) (by simp only [maxLen]; omega) (by omega) (Nat.le_refl _) ?_; intro v w9 hown9 hf9; obtain ⟨A', c', rfl, hc', hr'⟩ := doc_of_own (l := l) hown9)
    have hf9' : Fr Nob w3 w9 := hf9.mono (fun k _ e => by cases e)
    have hfA := HF1.out.same ((HF3.out.same hf9'))
    have hB := Blk.new w9 [.pointer (some ⟨p, 0, none⟩), .slice A' l.length c', .slice none 0 0, .slice none 0 0, .int .i64 0] 59
    have hS3 := (HS.out.bound.fr (HF3.out.same hf9') (fun _ _ h => h.elim)).bound
    go_wp2_with fail
    refine HPR.out _ _ ⟨fun _ => ⟨w9.heap.size, p, A', c', rfl, Nat.le_trans hfA.size (Nat.le_refl _), hB, rfl, ?_, ?_, hc', Stk.none _ _, Stk.none _ _⟩, fun h => absurd rfl h⟩ (hfA.alloc _)
    · exact ((HS.out.bound.fr (HF3.out.same hf9') (fun _ _ h => h.elim)).mono (M' := One w9.heap.size) (fun k e => .inr (by have e' : k = w9.heap.size := e; have := (HF3.out.same hf9').size; omega))).fr0 ((Fr.refl _ _).alloc _)
    · exact ((hr'.bound).mono (M' := One w9.heap.size) (fun k e => .inr (by have e' : k = w9.heap.size := e; omega))).fr ((Fr.refl Nob _).alloc _) (fun _ _ h => h.elim)
  · have h0' : (E == 0) = false := by simpa using h0
    go_wp2_with fail
    exact HPR.out _ _ ⟨fun h => absurd h h0, fun _ => rfl⟩ (HF1.out.same HF3.out)
end Go.Proofs.YtldcffonfidbcaaGreatDoor

/- Chapter 24: Local as a plain function; what the laws lean on. -/
namespace Go.Proofs.YtldcffonfidbcaaGreatDoor
open Go.RowKit
def localF (rs : List RuleM) (g : List Grp) (st : HS) (s : StepM) : HS × Int :=
  if doE rs g s st.l = 0 then (⟨doF s st.l, st.U ++ [invS s st.l], [], st.lost⟩, 0) else (st, doE rs g s st.l)
theorem hLocal_any (N : Nat → Prop) (q p : Nat) (rs : List RuleM) (g : List Grp) (hok : SchOk rs g) (st : HS) (s : StepM) (B : Option Addr) (b : Nat) (w : World) (h : HP N w q p rs g st) (hx : Rd N w B (tokC s.l)) (hb : s.l.length ≤ b) (hn : st.l.length ≤ 100000) (hu : st.U.length ≤ 99) (hN : ∀ k, N k → k < w.heap.size) :
    Calls Tryz.prog 9 #[.pointer (some ⟨q, 0, none⟩), .agg (s.cells (.slice B s.l.length b)).toArray] w fun e w' => e = .returned (.int .i64 (localF rs g st s).2) ∧ HP N w' q p rs g (localF rs g st s).1 ∧ Fr (One q) w w' := by
  obtain ⟨l, U, R, lost⟩ := st
  obtain ⟨x, hm, h1, h2, h3, h4⟩ := h.ex
  simp only at h1 h2 h3 h4 hn hu
  subst h1 h2 h3 h4
  rw [List.length_map] at hu
  refine (hlocal_any N q p rs g hok x s B b w hm hx hb hn hu hN).mono fun e w' hp => ?_
  obtain ⟨rfl, hf, hz, hnz⟩ := hp
  unfold localF
  by_cases hE : doE rs g s x.l = 0
  · obtain ⟨A', c', UA', uc', IB, ib, hm'⟩ := hz hE
    rw [if_pos hE]
    exact ⟨by rw [hE], ⟨_, hm', rfl, by simp, rfl, rfl⟩, hf⟩
  · rw [if_neg hE]
    exact ⟨rfl, ⟨_, hnz hE, rfl, rfl, rfl, rfl⟩, hf⟩
theorem hUndos_any (N : Nat → Prop) (q p : Nat) (rs : List RuleM) (g : List Grp) (st : HS) (w : World) (h : HP N w q p rs g st) :
    Calls Tryz.prog 11 #[.pointer (some ⟨q, 0, none⟩)] w fun e w' => e = .returned (.int .i64 st.U.length) ∧ w' = w := by
  obtain ⟨x, hm, h1, h2, h3, h4⟩ := h.ex
  rw [← h2, List.length_map]
  exact undos_any N q p rs g x w hm
theorem hRedos_any (N : Nat → Prop) (q p : Nat) (rs : List RuleM) (g : List Grp) (st : HS) (w : World) (h : HP N w q p rs g st) :
    Calls Tryz.prog 12 #[.pointer (some ⟨q, 0, none⟩)] w fun e w' => e = .returned (.int .i64 st.R.length) ∧ w' = w := by
  obtain ⟨x, hm, h1, h2, h3, h4⟩ := h.ex
  rw [← h3, List.length_map]
  exact redos_any N q p rs g x w hm
theorem hLost_any (N : Nat → Prop) (q p : Nat) (rs : List RuleM) (g : List Grp) (st : HS) (w : World) (h : HP N w q p rs g st) :
    Calls Tryz.prog 16 #[.pointer (some ⟨q, 0, none⟩)] w fun e w' => e = .returned (.int .i64 st.lost) ∧ w' = w := by
  obtain ⟨x, hm, h1, h2, h3, h4⟩ := h.ex
  rw [← h4]
  exact lost_any N q p rs g x w hm
theorem hDoc_any (N : Nat → Prop) (q p : Nat) (rs : List RuleM) (g : List Grp) (st : HS) (w : World) (h : HP N w q p rs g st) (hn : st.l.length ≤ 100000) :
    Calls Tryz.prog 10 #[.pointer (some ⟨q, 0, none⟩)] w fun e w' => ∃ A c, e = .returned (.slice A st.l.length c) ∧ st.l.length ≤ c ∧ Rd (fun k => k < w.heap.size) w' A (tokC st.l) ∧ Fr Nob w w' := by
  obtain ⟨x, hm, h1, h2, h3, h4⟩ := h.ex
  rw [← h1] at hn ⊢
  refine (hdoc_any N q p rs g x w hm hn).mono fun e w' hp => ?_
  obtain ⟨v, rfl, ⟨A, c, rfl, hc, hr⟩, hf⟩ := hp
  exact ⟨A, c, rfl, hc, hr, hf⟩
/-- A history that was just made. -/
def newS (l : List Tok) : HS := ⟨l, [], [], 0⟩
theorem hNew_any (A : Option Addr) (l : List Tok) (c : Nat) (w : World) (hG : HG w) (hr : Rd Nob w A (tokC l)) (hc : l.length ≤ c) (hn : l.length ≤ 9223372036854775807) :
    Calls Tryz.prog 7 #[.slice A l.length c] w fun e w' => (∃ rs, rs.map coreR = (wholeS ⟨#[98, 108, 111, 99, 107, 43]⟩ :: houseL).map coreS ∧
      ((checkF rs (groupsF houseL houseG) l).2 = 0 → ∃ q p, e = .returned (.tuple #[.pointer (some ⟨q, 0, none⟩), .int .i64 0]) ∧ w.heap.size ≤ q ∧ HP (One q) w' q p rs (groupsF houseL houseG) (newS l)) ∧
      ((checkF rs (groupsF houseL houseG) l).2 ≠ 0 → e = .returned (.tuple #[.pointer none, .int .i64 (checkF rs (groupsF houseL houseG) l).2]))) ∧ Fr Nob w w' := by
  refine (hnew_any A l c w hG hr hc hn).mono fun e w' hp => ?_
  obtain ⟨⟨rs, hC, h0, h1⟩, hf⟩ := hp
  refine ⟨⟨rs, hC, fun h => ?_, h1⟩, hf⟩
  obtain ⟨q, p, A', c', rfl, hq, hm⟩ := h0 h
  exact ⟨q, p, rfl, hq, ⟨_, hm, rfl, rfl, rfl, rfl⟩⟩
set_option maxRecDepth 100000 in
set_option maxHeartbeats 2000000 in
theorem awake24_any (w : World) (hG : HG w) : Calls Tryz.prog 8 #[] w fun e w' => e = .returned (.bool true) ∧ Fr Nob w w' := by
  have HHG := Lib.hid hG
  clear hG
  go_enter Tryz.func8, Tryz.ntmps8
  go_wp2_with fail
  obtain ⟨W, hW⟩ : ∃ W, w.alloc (.cells #[.int .i64 1, .int .i64 1, .int .i64 0, .int .i64 0, .int .i64 2, .int .i64 0, .int .i64 0, .int .i64 0] 40) = W := ⟨_, rfl⟩
  have HB := Lib.hid (show Blk W w.heap.size (tokC awakeD) 40 by rw [← hW]; exact Blk.new _ _ _)
  have HF := Lib.hid (show Fr Nob w W by rw [← hW]; exact (Fr.refl _ _).alloc _)
  rw [hW]
  clear hW
  have hn := hNew_any (some ⟨w.heap.size, 0, none⟩) awakeD 2 W (HHG.out.fr HF.out (fun h => h)) (fun _ => ⟨_, rfl, fun h => h, fun j u hu => by rw [add_lit]; exact (HB.out.cell j).trans hu⟩) (Nat.le_refl _) (by decide)
  have e2 : awakeD.length = 2 := rfl
  rw [e2] at hn
  refine hn.mono ?_
  clear hn e2
  rintro e w1 ⟨⟨rs, hC, h0, h1⟩, hF1⟩
  obtain ⟨q, p, rfl, hq, hP⟩ := h0 (by rw [awake_check hC])
  have HPP := Lib.hid hP
  have HF1 := Lib.hid (HF.out.same hF1)
  clear h0 h1 hP hF1 hC hq
  go_wp2_with fail
  refine (hDoc_any (One q) q p rs _ (newS awakeD) w1 HPP.out (by decide)).mono ?_
  rintro e w2 ⟨A, c, rfl, _, _, hF2⟩
  have HF2 := Lib.hid (HF1.out.same hF2)
  have e2 : (newS awakeD).l.length = 2 := rfl
  rw [e2]
  clear e2 hF2
  go_wp2_with fail
  go_ret
  exact ⟨rfl, HF2.out⟩
end Go.Proofs.YtldcffonfidbcaaGreatDoor

/- Chapter 24: all is undone, and done again: in plain words. -/
namespace Go.Proofs.YtldcffonfidbcaaGreatDoor
open Go.RowKit
/-- A stack, the top first, leads from l through the documents D. -/
def Leads (rs : List RuleM) (g : List Grp) : List (List Tok) → List Tok → List StepM → Prop
  | [], _, [] => True
  | d :: D, l, s :: S => doE rs g s l = 0 ∧ doF s l = d ∧ Leads rs g D d S
  | _, _, _ => False
theorem Leads.len {rs : List RuleM} {g : List Grp} : ∀ {D : List (List Tok)} {l : List Tok} {S : List StepM}, Leads rs g D l S → D.length = S.length
  | [], _, [], _ => rfl
  | _ :: _, _, _ :: _, h => by rw [List.length_cons, List.length_cons, Leads.len h.2.2]
  | [], _, _ :: _, h => h.elim
  | _ :: _, _, [], h => h.elim
theorem Leads.short {rs : List RuleM} {g : List Grp} : ∀ {D : List (List Tok)} {l : List Tok} {S : List StepM}, Leads rs g D l S → ∀ y ∈ S, y.l.length ≤ 100000
  | [], _, [], _, _, h => by cases h
  | _ :: _, _, s :: _, h, y, hy => by
    rcases List.mem_cons.1 hy with rfl | hy
    · have := (stepF_zero (applyE_zero (doE_zero h.1).1).2.1).1
      omega
    · exact Leads.short h.2.2 y hy
  | [], _, _ :: _, h, _, _ => h.elim
  | _ :: _, _, [], h, _, _ => h.elim
/-- Where a history stands: D: the documents that undoing leads through; E: those that doing again leads through. -/
structure BackI (rs : List RuleM) (g : List Grp) (D E : List (List Tok)) (st : HS) : Prop where
  ok : (checkF rs g st.l).2 = 0
  und : Leads rs g D st.l st.U.reverse
  red : Leads rs g E st.l st.R.reverse
  lost : st.lost = 0
theorem do_valid {rs : List RuleM} {g : List Grp} {s : StepM} {l : List Tok} (h : doE rs g s l = 0) : (checkF rs g (doF s l)).2 = 0 := (doE_zero h).2
theorem back_new {rs : List RuleM} {g : List Grp} {l : List Tok} (h : (checkF rs g l).2 = 0) : BackI rs g [] [] (newS l) := ⟨h, trivial, trivial, rfl⟩
theorem back_local {rs : List RuleM} {g : List Grp} {D : List (List Tok)} {st : HS} {s : StepM} (h : BackI rs g D [] st) :
    ((localF rs g st s).2 = 0 → BackI rs g (st.l :: D) [] (localF rs g st s).1) ∧ ((localF rs g st s).2 ≠ 0 → (localF rs g st s).1 = st) := by
  unfold localF
  by_cases hE : doE rs g s st.l = 0
  · rw [if_pos hE]
    refine ⟨fun _ => ⟨do_valid hE, ?_, trivial, h.lost⟩, fun h => absurd rfl h⟩
    obtain ⟨h1, h2⟩ := inv_ok h.ok hE
    simp only [List.reverse_append, List.reverse_cons, List.reverse_nil, List.nil_append, List.singleton_append]
    exact ⟨h1, h2, h.und⟩
  · rw [if_neg hE]
    exact ⟨fun h => absurd h hE, fun _ => rfl⟩
theorem back_undo {rs : List RuleM} {g : List Grp} {d : List Tok} {D E : List (List Tok)} {st : HS} (h : BackI rs g (d :: D) E st) :
    (undoF rs g st).2.2 = 0 ∧ (undoF rs g st).1.l = d ∧ BackI rs g D (st.l :: E) (undoF rs g st).1 := by
  have hu := h.und
  unfold undoF
  cases hr : st.U.reverse with
  | nil => rw [hr] at hu; exact hu.elim
  | cons y r =>
    rw [hr] at hu
    obtain ⟨h1, h2, h3⟩ := hu
    simp only [h1, if_true]
    refine ⟨trivial, h2, by rw [← h2] at h3; exact do_valid h1, by simpa [h2] using h3, ?_, h.lost⟩
    obtain ⟨h4, h5⟩ := inv_ok h.ok h1
    simp only [List.reverse_append, List.reverse_cons, List.reverse_nil, List.nil_append, List.singleton_append]
    exact ⟨h4, h5, h.red⟩
theorem back_redo {rs : List RuleM} {g : List Grp} {d : List Tok} {D E : List (List Tok)} {st : HS} (h : BackI rs g D (d :: E) st) :
    (redoF rs g st).2.2 = 0 ∧ (redoF rs g st).1.l = d ∧ BackI rs g (st.l :: D) E (redoF rs g st).1 := by
  have hu := h.red
  unfold redoF
  cases hr : st.R.reverse with
  | nil => rw [hr] at hu; exact hu.elim
  | cons y r =>
    rw [hr] at hu
    obtain ⟨h1, h2, h3⟩ := hu
    simp only [h1, if_true]
    refine ⟨trivial, h2, do_valid h1, ?_, by simpa [h2] using h3, h.lost⟩
    obtain ⟨h4, h5⟩ := inv_ok h.ok h1
    simp only [List.reverse_append, List.reverse_cons, List.reverse_nil, List.nil_append, List.singleton_append]
    exact ⟨h4, h5, h.und⟩
theorem back_end {rs : List RuleM} {g : List Grp} {E : List (List Tok)} {st : HS} (h : BackI rs g [] E st) : undoF rs g st = (st, none, 6) := by
  have hu := h.und
  unfold undoF
  cases hr : st.U.reverse with
  | nil => rfl
  | cons y r => rw [hr] at hu; exact hu.elim
theorem BackI.lens {rs : List RuleM} {g : List Grp} {D E : List (List Tok)} {st : HS} (h : BackI rs g D E st) : st.U.length = D.length ∧ st.R.length = E.length ∧ st.l.length ≤ 2048 := by
  have h1 := h.und.len
  have h2 := h.red.len
  rw [List.length_reverse] at h1 h2
  exact ⟨h1.symm, h2.symm, checkF_flat h.ok⟩
theorem BackI.shortU {rs : List RuleM} {g : List Grp} {D E : List (List Tok)} {st : HS} (h : BackI rs g D E st) : ∀ y ∈ st.U, y.l.length ≤ 100000 := fun y hy => h.und.short y (by simpa using hy)
theorem BackI.shortR {rs : List RuleM} {g : List Grp} {D E : List (List Tok)} {st : HS} (h : BackI rs g D E st) : ∀ y ∈ st.R, y.l.length ≤ 100000 := fun y hy => h.red.short y (by simpa using hy)
end Go.Proofs.YtldcffonfidbcaaGreatDoor

/- A row of documents, of one's own; append onto a row of one's own, where the new one lies. -/
namespace Go.Proofs.YtldcffonfidbcaaGreatDoor
open Go.RowKit
theorem wpList_append_row {P : Program} (w : World) {ops : Array Oper} {rest : List Oper} {o : Oper} {a : Act} {Q : Exit → Act → World → Prop} (hgd : o.guard = none) (s x : Operand) (t : TypeId)
    (ho : o.op = .call { callee := .builtin .append, args := #[s, x], argTypes := #[t, t] })
    (base : Nat) (e : TypeId) (i : TypeInfo) (z : Value) (size bytes : Nat) (ht : P.underlying t = some (.slice e)) (hi : P.info? e = some i) (hz : i.zero = some z)
    (hsize : i.size = size) (hby : i.bytes = bytes) (hzs : z.cells.size = size) (hsz : 0 < size)
    (v : Value) (n : Nat) (xs : List Value) (hs : a.eval s = v) (hown : w.ownsRow base e size v n xs)
    (ad : Addr) (m c : Nat) (news : List Value) (hx : a.eval x = .slice (some ad) m c) (hl : news.length = m * size) (hnews : ∀ j u, news[j]? = some u → w.cell? (ad.add j) = some u) (h1 : ∀ u ∈ news, u.oneCell' = true)
    (hm : 0 < m) (h63 : n + m ≤ maxLen) (hbytes : (n + m) * bytes ≤ 140737488355328) (hbase : base ≤ w.heap.size)
    (h : ∀ g cap w', w'.ownsRow base e size (.slice (some ⟨g, 0, none⟩) (n + m) cap) (n + m) (xs ++ news) → Fr (fun k => v.ownBlock = some k) w w' → (v.ownBlock = some g ∨ w.heap.size ≤ g) → wpList P ops Q rest (a.put o.dst (.slice (some ⟨g, 0, none⟩) (n + m) cap)) w') : wpList P ops Q (o :: rest) a w :=
  wpList_plain hgd fun _ hK => wp_append_two w s x t ho base e i z size bytes ht hi hz hsize hby hzs hsz v n xs hs hown ad m c news hx hl hnews h1 hm h63 hbytes hbase fun g cap w' h2 h3 => hK _ _ (h g cap w' h2 (two_row h3).1 (two_row h3).2)
structure DocA where
  A : Option Addr
  c : Nat
  l : List Tok
def DocA.v (d : DocA) : Value := .slice d.A d.l.length d.c
def docC (ds : List DocA) : List Value := ds.map DocA.v
theorem docC_len (ds : List DocA) : (docC ds).length = ds.length := by simp [docC]
/-- Documents, in a row of one's own; all lies outside of the blocks of N, but for the row's own. -/
structure DocsM (N : Nat → Prop) (base : Nat) (w : World) (v : Value) (ds : List DocA) : Prop where
  own : w.ownsRow base 22 1 v ds.length (docC ds)
  mine : ∀ k, v.ownBlock = some k → N k
  each : ∀ d ∈ ds, Rd N w d.A (tokC d.l)
theorem DocsM.fr {N M : Nat → Prop} {base : Nat} {w w' : World} {v : Value} {ds : List DocA} (h : DocsM N base w v ds) (hf : Fr M w w') (hM : ∀ k, k < w.heap.size → M k → N k) (hv : ∀ k, v.ownBlock = some k → ¬ M k) : DocsM N base w' v ds :=
  ⟨own_fr h.own hf hv, h.mine, fun d hd => (h.each d hd).fr hf hM⟩
theorem DocsM.fr0 {N : Nat → Prop} {base : Nat} {w w' : World} {v : Value} {ds : List DocA} (h : DocsM N base w v ds) (hf : Fr Nob w w') : DocsM N base w' v ds := h.fr hf (fun _ _ h => h.elim) (fun _ _ h => h)
theorem DocsM.mono {N N' : Nat → Prop} {base : Nat} {w : World} {v : Value} {ds : List DocA} (h : DocsM N base w v ds) (hN : ∀ k, N' k → N k) (hm : ∀ k, v.ownBlock = some k → N' k) : DocsM N' base w v ds :=
  ⟨h.own, hm, fun d hd => (h.each d hd).mono hN⟩
theorem DocsM.bound {N : Nat → Prop} {base : Nat} {w : World} {v : Value} {ds : List DocA} (h : DocsM N base w v ds) : DocsM (fun k => N k ∨ w.heap.size ≤ k) base w v ds :=
  ⟨h.own, fun k hk => .inl (h.mine k hk), fun d hd => (h.each d hd).bound⟩
theorem infoDoc : (Tryz.prog.info? 22).map (fun i => (i.zero, i.size, i.bytes)) = some (some (.slice none 0 0), 1, 24) := by kernel_rfl
/-- One of them. -/
theorem DocsM.get {N : Nat → Prop} {base : Nat} {w : World} {v : Value} {ds : List DocA} (h : DocsM N base w v ds) {k : Nat} (hk : k < ds.length) : ∃ ad c, v = .slice (some ad) ds.length c ∧ ad.block < w.heap.size ∧ w.cell? (ad.add k) = some ds[k].v ∧ Rd N w ds[k].A (tokC ds[k].l) := by
  obtain ⟨A, c, rfl, hc, hr⟩ := Rd.of_own (M := Nob) h.own (fun _ _ h => h)
  obtain ⟨ad, rfl, _, h1⟩ := hr.at_ (j := k) (by rw [docC_len]; exact hk)
  have hl := cell_lt h1
  rw [add_block] at hl
  refine ⟨ad, c, rfl, hl, ?_, h.each _ (List.getElem_mem hk)⟩
  rw [h1]
  simp [docC]
end Go.Proofs.YtldcffonfidbcaaGreatDoor

/- A law's 'alike': the same tokens? -/
namespace Go.Proofs.YtldcffonfidbcaaGreatDoor
open Go.RowKit
set_option maxRecDepth 100000 in
set_option maxHeartbeats 2000000 in
theorem alike24_any (M M' : Nat → Prop) (l m : List Tok) (A A' : Option Addr) (c c' : Nat) (w : World) (hl : l.length ≤ 4611686018427387904) (hm : m.length ≤ 4611686018427387904) (hR : Rd M w A (tokC l)) (hR' : Rd M' w A' (tokC m)) :
    Calls Tryz.prog 14 #[.slice A l.length c, .slice A' m.length c'] w fun e w' => e = .returned (.bool (decide (l = m))) ∧ Fr Nob w w' := by
  have HR := Lib.hid hR
  have HR' := Lib.hid hR'
  clear hR hR'
  by_cases hln : l.length = m.length
  · have HLN := Lib.hid hln
    rw [← hln]
    clear hln
    obtain ⟨r, hr⟩ : ∃ r, decide (l = m) = r := ⟨_, rfl⟩
    have HRR := Lib.hid hr
    rw [hr]
    clear hr
    go_enter Tryz.func14, Tryz.ntmps14
    go_wp2_with fail
    go_loopg [5] (l.length) (fun n s5 wr => ∃ (k : Nat), n = l.length - k ∧ k ≤ l.length ∧ s5 = .int .i64 k ∧ Hid (l.take k = m.take k) ∧ Hid (Fr Nob w wr))
    case atStart => exact ⟨0, rfl, Nat.zero_le _, rfl, rfl, Fr.refl _ _⟩
    case round =>
      obtain ⟨k, rfl, hk, rfl, HT, HF⟩ := hrel
      by_cases hlt : k < l.length
      · have ht : ((k : Int) < (l.length : Int)) := by omega
        have hlt' : k < m.length := by have := HLN.out; omega
        obtain ⟨ad, rfl, hnb, hbl, h0, hj⟩ := Rd.elt Tok.cells_len (by omega) (HR.out.fr HF.out (fun _ _ h => h.elim)) hlt
        obtain ⟨ad', rfl, hnb', hbl', h0', hj'⟩ := Rd.elt Tok.cells_len (by omega) (HR'.out.fr HF.out (fun _ _ h => h.elim)) hlt'
        have q1 := hj 0 (by omega)
        have q2 := hj 1 (by omega)
        have q3 := hj 2 (by omega)
        have q1' := hj' 0 (by omega)
        have q2' := hj' 1 (by omega)
        have q3' := hj' 2 (by omega)
        have HNX := Lib.hid (show l[k] = m[k] → l.take (k + 1) = m.take (k + 1) from fun e => by rw [List.take_succ_eq_append_getElem hlt, List.take_succ_eq_append_getElem hlt', HT.out, e])
        have HNE := Lib.hid (show l[k] ≠ m[k] → r = false from fun e => by rw [← HRR.out]; exact decide_eq_false (fun e' => e (by subst e'; rfl)))
        generalize l[k] = x at h0 q1 q2 q3 HNX HNE
        generalize m[k] = y at h0' q1' q2' q3' HNX HNE
        have hms : (k : Int) < (m.length : Int) := by omega
        clear hj hj' hnb hnb'
        obtain ⟨xk, xt, xn, xm⟩ := x
        obtain ⟨yk, yt, yn, ym⟩ := y
        simp only [Tok.cells, List.getElem?_cons_zero, List.getElem?_cons_succ] at h0 q1 q2 q3 h0' q1' q2' q3'
        by_cases e0 : xk = yk
        · by_cases e1 : xt = yt
          · by_cases e2 : xn = yn
            · by_cases e3 : xm = ym
              · have HN2 := Lib.hid (HNX.out (by rw [e0, e1, e2, e3]))
                subst e0 e1 e2 e3
                clear HNX HNE
                go_wp2_with (first | go_quiet (fail) | fail)
                go_roundg (l.length - (k + 1))
                case measure => omega
                case rel => exact ⟨k + 1, rfl, by omega, by first | rfl | go_num, HN2.out, HF.out.drewN _⟩
              · have HRF := Lib.hid (HNE.out (by intro h; injection h; contradiction))
                clear HNX HNE
                go_wp2_with (first | go_quiet (fail) | fail)
                go_ret
                exact ⟨by rw [HRF.out]; rfl, HF.out.drewN _⟩
            · have HRF := Lib.hid (HNE.out (by intro h; injection h; contradiction))
              clear HNX HNE
              go_wp2_with (first | go_quiet (fail) | fail)
              go_ret
              exact ⟨by rw [HRF.out]; rfl, HF.out.drewN _⟩
          · have HRF := Lib.hid (HNE.out (by intro h; injection h; contradiction))
            clear HNX HNE
            go_wp2_with (first | go_quiet (fail) | fail)
            go_ret
            exact ⟨by rw [HRF.out]; rfl, HF.out.drewN _⟩
        · have HRF := Lib.hid (HNE.out (by intro h; injection h; contradiction))
          clear HNX HNE
          go_wp2_with (first | go_quiet (fail) | fail)
          go_ret
          exact ⟨by rw [HRF.out]; rfl, HF.out.drewN _⟩
      · have ht : ¬ ((k : Int) < (l.length : Int)) := by omega
        have hk2 : k = l.length := by omega
        have HRT := Lib.hid (show r = true by
          rw [← HRR.out]
          have h := HT.out
          rw [hk2, List.take_length, HLN.out, List.take_length] at h
          exact decide_eq_true h)
        clear hk2
        go_wp2_with fail
        go_ret
        exact ⟨by rw [HRT.out]; rfl, HF.out⟩
  · rw [decide_eq_false (fun e => hln (by rw [e]))]
    have hne : ¬ (l.length : Int) = (m.length : Int) := by omega
    generalize l.length = ln at hne ⊢
    generalize m.length = mn at hne ⊢
    clear HR HR'
    go_enter Tryz.func14, Tryz.ntmps14
    go_wp2_with fail
    go_ret
    exact ⟨rfl, Fr.refl _ _⟩
end Go.Proofs.YtldcffonfidbcaaGreatDoor
