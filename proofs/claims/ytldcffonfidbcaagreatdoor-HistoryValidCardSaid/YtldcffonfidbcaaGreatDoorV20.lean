/- A part of the proof for chapter 10: StepMap, Rdo, StepsM, Open10, InvP, FlatSame, Blk, Ret8; no conditions. -/
import Derived.Test.YtldcffonfidbcaaGreatDoorV19
import Derived.Test.YtldcffonfidbcaaGreatDoorV12
import Derived.Test.YtldcffonfidbcaaGreatDoorV08
import Derived.Test.YtldcffonfidbcaaGreatDoorRows
import Derived.Deep.Slices
import Derived.Deep.Fields
import Derived.ChangeSame
import Derived.Test.YtldcffonfidbcaaGreatDoorV11
import Derived.Deep.RegionHeld3
import Derived.BigQuiet
/- Chapter 9: a step's map. -/
namespace Go.Proofs.YtldcffonfidbcaaGreatDoor
open Go.RowKit
/-- A map, as memory holds it. -/
def Rngs (M : Nat → Prop) (w : World) (v : Value) (l : List Rng) : Prop := ∃ A c, v = .slice A l.length c ∧ Rd M w A (rngC l)
theorem Rngs.fr {M M' : Nat → Prop} {w w' : World} {v : Value} {l : List Rng} (h : Rngs M w v l) (hf : Fr M' w w') (hM : ∀ k, k < w.heap.size → M' k → M k) : Rngs M w' v l := by
  obtain ⟨A, c, rfl, hr⟩ := h
  exact ⟨A, c, rfl, hr.fr hf hM⟩
theorem Rngs.fr0 {M : Nat → Prop} {w w' : World} {v : Value} {l : List Rng} (h : Rngs M w v l) (hf : Fr Nob w w') : Rngs M w' v l := h.fr hf (fun _ _ h => h.elim)
theorem Rngs.mono {M M' : Nat → Prop} {w : World} {v : Value} {l : List Rng} (h : Rngs M w v l) (hM : ∀ k, M' k → M k) : Rngs M' w v l := by
  obtain ⟨A, c, rfl, hr⟩ := h
  exact ⟨A, c, rfl, hr.mono hM⟩
theorem Rngs.nil (M : Nat → Prop) (w : World) : Rngs M w (.slice none 0 0) [] := ⟨none, 0, rfl, Rd.nil _ _ _⟩
/-- A map in a new block. -/
theorem Rngs.new {w0 w : World} (l : List Rng) (T : TypeId) (hs : w0.heap.size ≤ w.heap.size) : Rngs (fun k => k < w0.heap.size) (w.alloc (.cells (rngC l).toArray T)) (.slice (some ⟨w.heap.size, 0, none⟩) l.length l.length) l :=
  ⟨_, _, rfl, fun _ => ⟨_, rfl, Nat.not_lt.2 hs, fun j u hu => by rw [add_lit]; exact ((Blk.new w (rngC l) T).cell j).trans hu⟩⟩
def stepmapF (s : StepM) : List Rng :=
  if s.k = 0 then [⟨s.f, s.t - s.f, s.l.length⟩]
  else if s.k = 1 then [⟨s.f, s.gf - s.f, s.ins⟩, ⟨s.gt, s.t - s.gt, s.l.length - s.ins⟩]
  else []
set_option maxRecDepth 100000 in
set_option maxHeartbeats 4000000 in
theorem stepmap_any (M : Nat → Prop) (s : StepM) (B : Option Addr) (b : Nat) (w : World) (hx : Rd M w B (tokC s.l)) :
    Calls Tryz.prog 78 #[.agg (s.cells (.slice B s.l.length b)).toArray] w fun e w' => ∃ v, e = .returned (.tuple #[v, .int .i64 (stepF s)]) ∧ Rngs (fun k => k < w.heap.size) w' v (if stepF s = 0 then stepmapF s else []) ∧ Fr Nob w w' := by
  obtain ⟨R, hR⟩ : ∃ R, (if stepF s = 0 then stepmapF s else []) = R := ⟨_, rfl⟩
  rw [hR]
  have HR := Lib.hid hR
  obtain ⟨xn, hxn⟩ : ∃ xn, s.l.length = xn := ⟨_, rfl⟩
  have HXN := Lib.hid hxn
  have HX := Lib.hid hx
  rw [hxn]
  clear hx hxn hR
  obtain ⟨E, hE⟩ : ∃ E, stepF s = E := ⟨_, rfl⟩
  rw [hE]
  have HE := Lib.hid hE
  clear hE
  obtain ⟨k, f, t, gf, gt, ins, m, x⟩ := s
  simp only [StepM.cells] at *
  go_enter Tryz.func78, Tryz.ntmps78
  go_upto_region 1 with (fail)
  obtain ⟨W, hW⟩ : ∃ W, w.alloc (.cells #[.int .i64 k, .int .i64 f, .int .i64 t, .int .i64 gf, .int .i64 gt, .int .i64 ins, .slice B xn b, .int .i64 m] 32) = W := ⟨_, rfl⟩
  have HF := Lib.hid (show Fr Nob w W by rw [← hW]; exact (Fr.refl _ _).alloc _)
  have HB := Lib.hid (show Blk W w.heap.size [.int .i64 k, .int .i64 f, .int .i64 t, .int .i64 gf, .int .i64 gt, .int .i64 ins, .slice B xn b, .int .i64 m] 32 by rw [← hW]; exact Blk.new _ _ _)
  rw [hW]
  clear hW
  have b0 := HB.out.cell 0
  have b1 := HB.out.cell 1
  have b2 := HB.out.cell 2
  have b3 := HB.out.cell 3
  have b4 := HB.out.cell 4
  have b5 := HB.out.cell 5
  have b6 := HB.out.cell 6
  have b7 := HB.out.cell 7
  have hlb := HB.out.lt
  simp only [List.getElem?_cons_zero, List.getElem?_cons_succ] at b0 b1 b2 b3 b4 b5 b6 b7
  go_wp2_with fail
  have hck := stepcheck_any M ⟨k, f, t, gf, gt, ins, m, x⟩ B b W (HX.out.fr HF.out (fun _ _ h => h.elim))
  simp only [StepM.cells, HXN.out] at hck
  refine hck.mono ?_
  clear hck
  rintro e w2 ⟨rfl, hF2⟩
  have HF2 := Lib.hid (HF.out.same hF2)
  have HB2 := Lib.hid (HB.out.fr hF2 (fun h => h))
  clear hF2 b0 b1 b2 b3 b4 b5 b6 b7 hlb
  rw [HE.out]
  by_cases hz : E = 0
  · subst hz
    have b0 := HB2.out.cell 0
    have b1 := HB2.out.cell 1
    have b2 := HB2.out.cell 2
    have b3 := HB2.out.cell 3
    have b4 := HB2.out.cell 4
    have b5 := HB2.out.cell 5
    have b6 := HB2.out.cell 6
    have hlb := HB2.out.lt
    simp only [List.getElem?_cons_zero, List.getElem?_cons_succ] at b0 b1 b2 b3 b4 b5 b6
    have HR2 := Lib.hid (show stepmapF ⟨k, f, t, gf, gt, ins, m, x⟩ = R by rw [← HR.out, HE.out, if_pos rfl])
    obtain ⟨hxl, hk, _⟩ := stepF_zero HE.out
    have h0 := (ok0S_iff _ _).1 (kindOk_0 hk)
    have haro := fun h1 => (aroS_iff _ _ _ _ _ _).1 (kindOk_1 hk h1)
    simp only at hxl h0 haro
    rw [HXN.out] at hxl haro
    clear hk
    by_cases h1 : k = 0
    · subst h1
      have HM := Lib.hid (show [⟨f, t - f, xn⟩] = R by rw [← HR2.out]; simp [stepmapF, HXN.out])
      clear haro
      go_wp2_with fail
      refine bodyPost_ret (v := .tuple #[.slice (some ⟨w2.heap.size, 0, none⟩) 1 1, .int .i64 0]) (by simp [results, go_sem]) rfl ?_
      exact ⟨_, rfl, by rw [← HM.out]; exact Rngs.new [⟨f, t - f, xn⟩] _ HF2.out.size, HF2.out.alloc _⟩
    · have h1' : (k == 0) = false := by simpa using h1
      by_cases h2 : k = 1
      · subst h2
        have ha := haro rfl
        have HM := Lib.hid (show [⟨f, gf - f, ins⟩, ⟨gt, t - gt, xn - ins⟩] = R by rw [← HR2.out]; simp [stepmapF, HXN.out])
        clear haro
        go_wp2_with fail
        refine bodyPost_ret (v := .tuple #[.slice (some ⟨w2.heap.size, 0, none⟩) 2 2, .int .i64 0]) (by simp [results, go_sem]) rfl ?_
        exact ⟨_, rfl, by rw [← HM.out]; exact Rngs.new [⟨f, gf - f, ins⟩, ⟨gt, t - gt, xn - ins⟩] _ HF2.out.size, HF2.out.alloc _⟩
      · have h2' : (k == 1) = false := by simpa using h2
        have HM := Lib.hid (show [] = R by rw [← HR2.out]; simp [stepmapF, h1, h2])
        clear haro
        go_wp2_with fail
        refine bodyPost_ret (v := .tuple #[.slice none 0 0, .int .i64 0]) (by simp [results, go_sem]) rfl ?_
        exact ⟨_, rfl, by rw [← HM.out]; exact Rngs.nil _ _, HF2.out⟩
  · have hse2 : (E != 0) = true := by simpa using hz
    have HM := Lib.hid (show [] = R by rw [← HR.out, HE.out, if_neg hz])
    go_wp2_with fail
    refine bodyPost_ret (v := .tuple #[.slice none 0 0, .int .i64 E]) (by simp [results, go_sem]) rfl ?_
    exact ⟨_, rfl, by rw [← HM.out]; exact Rngs.nil _ _, HF2.out⟩
end Go.Proofs.YtldcffonfidbcaaGreatDoor

/- Chapter 10: a step at a document, if it stays valid. -/
namespace Go.Proofs.YtldcffonfidbcaaGreatDoor
open Go.RowKit
/-- The error of a step at a document, or 0. -/
def doE (rs : List RuleM) (g : List Grp) (s : StepM) (l : List Tok) : Int := if applyE s l ≠ 0 then applyE s l else (checkF rs g (doF s l)).2
/-- A refusal, as memory holds it. -/
def refV (e : Int) : Value := if e = 0 then .nilIface else .iface 201 (.agg #[.int .i64 e])
theorem applyE_zero {s : StepM} {l : List Tok} (h : applyE s l = 0) : (flatCheck l).2 = 0 ∧ stepF s = 0 ∧ s.t ≤ l.length ∧ (flatCheck (doF s l)).2 = 0 := by
  unfold applyE at h
  split at h
  · rename_i h1; exact absurd h h1
  · rename_i h1
    split at h
    · rename_i h2; exact absurd h h2
    · rename_i h2
      split at h
      · omega
      · split at h
        · omega
        · exact ⟨by omega, by omega, by omega, h⟩
set_option maxRecDepth 100000 in
set_option maxHeartbeats 4000000 in
theorem remdo_any (M M1 M2 : Nat → Prop) (p : Nat) (rs : List RuleM) (g : List Grp) (hok : SchOk rs g) (s : StepM) (A B : Option Addr) (l : List Tok) (c b : Nat) (w : World) (hs : Sch M w p rs g) (hl : Rd M1 w A (tokC l)) (hx : Rd M2 w B (tokC s.l)) (hc : l.length ≤ c) (hb : s.l.length ≤ b) (hn : l.length ≤ 9223372036854775807) :
    Calls Tryz.prog 72 #[.pointer (some ⟨p, 0, none⟩), .slice A l.length c, .agg (s.cells (.slice B s.l.length b)).toArray] w fun e w' => ∃ v, e = .returned (.tuple #[v, refV (doE rs g s l)]) ∧ (doE rs g s l = 0 → NewDoc w w' v (doF s l)) ∧ (doE rs g s l ≠ 0 → v = .slice none 0 0) ∧ Fr Nob w w' := by
  obtain ⟨E, hE⟩ : ∃ E, doE rs g s l = E := ⟨_, rfl⟩
  rw [hE]
  have HE := Lib.hid hE
  have HS := Lib.hid hs
  have HOK := Lib.hid hok
  have HL := Lib.hid hl
  have HX := Lib.hid hx
  have HCB := Lib.hid (And.intro hc (And.intro hb hn))
  obtain ⟨ln, hln⟩ : ∃ ln, l.length = ln := ⟨_, rfl⟩
  obtain ⟨xn, hxn⟩ : ∃ xn, s.l.length = xn := ⟨_, rfl⟩
  have HLN := Lib.hid hln
  have HXN := Lib.hid hxn
  rw [hln, hxn]
  clear hs hl hx hc hb hn hln hxn hE hok
  obtain ⟨sr, hsr⟩ : ∃ r, r = s := ⟨_, rfl⟩
  have HSR := Lib.hid hsr
  rw [← hsr] at HE HX HCB HXN ⊢
  clear hsr
  obtain ⟨k, f, t, gf, gt, ins, m, x⟩ := sr
  simp only [StepM.cells] at *
  go_enter Tryz.func72, Tryz.ntmps72
  go_upto_region 1 with (fail)
  obtain ⟨W, hW⟩ : ∃ W, w.alloc (.cells #[.int .i64 k, .int .i64 f, .int .i64 t, .int .i64 gf, .int .i64 gt, .int .i64 ins, .slice B xn b, .int .i64 m] 32) = W := ⟨_, rfl⟩
  have HF := Lib.hid (show Fr Nob w W by rw [← hW]; exact (Fr.refl _ _).alloc _)
  have HB := Lib.hid (show Blk W w.heap.size [.int .i64 k, .int .i64 f, .int .i64 t, .int .i64 gf, .int .i64 gt, .int .i64 ins, .slice B xn b, .int .i64 m] 32 by rw [← hW]; exact Blk.new _ _ _)
  rw [hW]
  clear hW
  have b0 := HB.out.cell 0
  have b1 := HB.out.cell 1
  have b2 := HB.out.cell 2
  have b3 := HB.out.cell 3
  have b4 := HB.out.cell 4
  have b5 := HB.out.cell 5
  have b6 := HB.out.cell 6
  have b7 := HB.out.cell 7
  have hlb := HB.out.lt
  simp only [List.getElem?_cons_zero, List.getElem?_cons_succ] at b0 b1 b2 b3 b4 b5 b6 b7
  go_wp2_with fail
  have hap := apply_any (fun _ => False) ⟨k, f, t, gf, gt, ins, m, x⟩ A B l c b W ((HL.out.mono (fun _ h => h.elim)).fr HF.out (fun _ _ h => h.elim)) ((HX.out.mono (fun _ h => h.elim)).fr HF.out (fun _ _ h => h.elim)) HCB.out.1 HCB.out.2.1 HCB.out.2.2
  simp only [StepM.cells, HXN.out, HLN.out] at hap
  refine hap.mono ?_
  clear hap b0 b1 b2 b3 b4 b5 b6 b7 hlb
  obtain ⟨ae, hae⟩ : ∃ r, applyE ⟨k, f, t, gf, gt, ins, m, x⟩ l = r := ⟨_, rfl⟩
  have HAE := Lib.hid hae
  rw [hae]
  clear hae
  rintro e w1 ⟨v, rfl, hv, hz, hF1⟩
  have HF1 := Lib.hid (HF.out.same hF1)
  by_cases h0 : ae = 0
  · subst h0
    have HV := Lib.hid ((hv rfl).old HF.out.size)
    have HE1 := Lib.hid (show (checkF rs g (doF ⟨k, f, t, gf, gt, ins, m, x⟩ l)).2 = E by rw [← HE.out, doE, if_neg (by rw [HAE.out]; simp)])
    clear hv hz hF1
    go_wp2_with fail
    have hfl := flat_short (applyE_zero HAE.out).2.2.2
    refine (schcheck_any M _ p rs g HOK.out v _ w1 (HS.out.fr0 HF1.out) HV.out.doc (by omega)).mono ?_
    rintro e w2 ⟨rfl, hF2⟩
    have HF2 := Lib.hid (HF1.out.same hF2)
    have HV2 : Hid (NewDoc w w2 v (doF ⟨k, f, t, gf, gt, ins, m, x⟩ l)) := by
      obtain ⟨gg, rfl, hg, hb⟩ := HV.out
      exact ⟨gg, rfl, hg, hb.fr hF2 (fun h => h)⟩
    clear hF2 hfl
    obtain ⟨⟨ci, ce⟩, hce⟩ : ∃ r, checkF rs g (doF ⟨k, f, t, gf, gt, ins, m, x⟩ l) = r := ⟨_, rfl⟩
    rw [hce] at HE1 ⊢
    clear hce
    simp only at HE1 ⊢
    by_cases h1 : ce = 0
    · subst h1
      have HE2 := Lib.hid (show E = 0 from HE1.out.symm)
      go_wp2_with fail
      refine bodyPost_ret (v := .tuple #[v, .nilIface]) (by simp [results, go_sem]) rfl ?_
      exact ⟨v, by rw [HE2.out]; rfl, fun _ => HV2.out, fun h => absurd HE2.out h, HF2.out⟩
    · have h1' : (ce != 0) = true := by simpa using h1
      have HE2 := Lib.hid (show E = ce from HE1.out.symm)
      go_wp2_with fail
      refine bodyPost_ret (v := .tuple #[.slice none 0 0, .iface 201 (.agg #[.int .i64 ce])]) (by simp [results, go_sem]) rfl ?_
      exact ⟨_, by rw [HE2.out, refV, if_neg h1], by rw [HE2.out]; intro h; exact absurd h h1, fun _ => rfl, HF2.out⟩
  · have h0' : (ae == 0) = false := by simpa using h0
    have h0'' : (ae != 0) = true := by simpa using h0
    have HE1 := Lib.hid (show ae = E by rw [← HE.out, doE, if_pos (by rw [HAE.out]; exact h0), HAE.out])
    go_wp2_with fail
    refine bodyPost_ret (v := .tuple #[.slice none 0 0, .iface 201 (.agg #[.int .i64 ae])]) (by simp [results, go_sem]) rfl ?_
    exact ⟨_, by rw [← HE1.out, refV, if_neg h0], by rw [← HE1.out]; intro h; exact absurd h h0, fun _ => rfl, HF1.out⟩
end Go.Proofs.YtldcffonfidbcaaGreatDoor

/- Steps in memory; steps at a document, one behind the other. -/
namespace Go.Proofs.YtldcffonfidbcaaGreatDoor
open Go.RowKit
/-- A step in memory: its letters lie in a row of their own. -/
structure StepA where
  s : StepM
  B : Option Addr
  b : Nat
def StepA.cells (x : StepA) : List Value := x.s.cells (.slice x.B x.s.l.length x.b)
theorem StepA.cells_len (x : StepA) : x.cells.length = 8 := rfl
def stepC (L : List StepA) : List Value := L.flatMap StepA.cells
/-- Steps in memory. -/
structure StepsM (M : Nat → Prop) (w : World) (A : Option Addr) (L : List StepA) : Prop where
  row : Rd M w A (stepC L)
  each : ∀ x ∈ L, Rd M w x.B (tokC x.s.l)
  cap : ∀ x ∈ L, x.s.l.length ≤ x.b
theorem StepsM.fr {M M' : Nat → Prop} {w w' : World} {A : Option Addr} {L : List StepA} (h : StepsM M w A L) (hf : Fr M' w w') (hM : ∀ k, k < w.heap.size → M' k → M k) : StepsM M w' A L :=
  ⟨h.row.fr hf hM, fun x hx => (h.each x hx).fr hf hM, h.cap⟩
theorem StepsM.fr0 {M : Nat → Prop} {w w' : World} {A : Option Addr} {L : List StepA} (h : StepsM M w A L) (hf : Fr Nob w w') : StepsM M w' A L := h.fr hf (fun _ _ h => h.elim)
theorem StepsM.mono {M M' : Nat → Prop} {w : World} {A : Option Addr} {L : List StepA} (h : StepsM M w A L) (hM : ∀ k, M' k → M k) : StepsM M' w A L :=
  ⟨h.row.mono hM, fun x hx => (h.each x hx).mono hM, h.cap⟩
theorem StepsM.bound {M : Nat → Prop} {w : World} {A : Option Addr} {L : List StepA} (h : StepsM M w A L) : StepsM (fun k => M k ∨ w.heap.size ≤ k) w A L :=
  ⟨h.row.bound, fun x hx => (h.each x hx).bound, h.cap⟩
theorem doE_zero {rs : List RuleM} {g : List Grp} {s : StepM} {l : List Tok} (h : doE rs g s l = 0) : applyE s l = 0 ∧ (checkF rs g (doF s l)).2 = 0 := by
  unfold doE at h
  split at h
  · rename_i h1; exact absurd h h1
  · rename_i h1; exact ⟨Decidable.not_not.1 h1, h⟩
end Go.Proofs.YtldcffonfidbcaaGreatDoor

/- Arguments of type []api.Token and []api.Step, opened. -/
namespace Go.Proofs.YtldcffonfidbcaaGreatDoor
open Go.Joins Go.ChangeShapes Go.WideShapes Go.ChangeAt Go.RowKit Go.Deep
variable {H : Type} {enc : TypeId × Value → H} {w : World} {base : Nat} {spare : Nat → Bool} {held : Bool}
theorem cellsOf_tok : Tryz.prog.cellsOf 40 = 4 := by kernel_rfl
theorem cellsOf_step : Tryz.prog.cellsOf 32 = 8 := by kernel_rfl
theorem cellsOf_int1 : Tryz.prog.cellsOf 3 = 1 := by kernel_rfl
theorem cellsOf_toks : Tryz.prog.cellsOf 22 = 1 := by kernel_rfl
/-- Some things, one behind the other, from the cells of each. -/
theorem row_of {α : Type} {f : α → List Value} {s : Nat} {Q : α → Prop} (hs : ∀ x, (f x).length = s) (a : Addr) : ∀ len, (∀ i, i < len → ∃ x, (∀ j u, (f x)[j]? = some u → w.cell? (a.add (i * s + j)) = some u) ∧ Q x) →
    ∃ l : List α, l.length = len ∧ (∀ j u, (l.flatMap f)[j]? = some u → w.cell? (a.add j) = some u) ∧ ∀ x ∈ l, Q x
  | 0, _ => ⟨[], rfl, fun j u h => by simp at h, fun x h => by cases h⟩
  | len + 1, h => by
    obtain ⟨l, h1, h2, h3⟩ := row_of hs a len (fun i hi => h i (by omega))
    obtain ⟨x, hx, hq⟩ := h len (by omega)
    have hl := flat_len hs l
    refine ⟨l ++ [x], by simp [h1], fun j u hu => ?_, fun y hy => ?_⟩
    · rw [List.flatMap_append, List.flatMap_cons, List.flatMap_nil, List.append_nil] at hu
      rcases Nat.lt_or_ge j (l.flatMap f).length with hj | hj
      · rw [List.getElem?_append_left hj] at hu
        exact h2 j u hu
      · rw [List.getElem?_append_right hj] at hu
        have h4 := hx _ u hu
        rw [hl, h1] at h4 hj
        rwa [show len * s + (j - len * s) = j by omega] at h4
    · rcases List.mem_append.1 hy with hy | hy
      · exact h3 y hy
      · obtain rfl := List.mem_singleton.1 hy
        exact hq
set_option maxRecDepth 100000 in
theorem open_tok {fuel : Nat} {cs : List Value} {x : DataW H × List MemPlace} (h : DataW.trod enc Tryz.prog w base spare held fuel 40 cs = some x) : ∃ t : Tok, cs = t.cells := by
  obtain ⟨xs, n, rfl, rfl, hcl, hxl, hf⟩ := DataW.trod_struct Tryz.underlying40 h
  rw [cellsOf_tok] at hcl
  have hx4 : xs.length = 4 := hxl
  match cs, hcl with
  | [c0, c1, c2, c3], _ =>
  match xs, hx4 with
  | [y0, y1, y2, y3], _ =>
  have k0 : DataW.trod enc Tryz.prog w base spare held n 3 (List.take (Tryz.prog.cellsOf 3) (List.drop 0 [c0, c1, c2, c3])) = some y0 := hf 0 _ rfl
  have k1 : DataW.trod enc Tryz.prog w base spare held n 3 (List.take (Tryz.prog.cellsOf 3) (List.drop 1 [c0, c1, c2, c3])) = some y1 := hf 1 _ rfl
  have k2 : DataW.trod enc Tryz.prog w base spare held n 3 (List.take (Tryz.prog.cellsOf 3) (List.drop 2 [c0, c1, c2, c3])) = some y2 := hf 2 _ rfl
  have k3 : DataW.trod enc Tryz.prog w base spare held n 3 (List.take (Tryz.prog.cellsOf 3) (List.drop 3 [c0, c1, c2, c3])) = some y3 := hf 3 _ rfl
  rw [cellsOf_int1] at k0
  replace k0 : DataW.trod enc Tryz.prog w base spare held n 3 [c0] = some y0 := k0
  obtain ⟨n0, e0, _, _⟩ := DataW.trod_int Tryz.underlying3 k0
  obtain rfl : c0 = .int .i64 n0 := by simpa using e0
  rw [cellsOf_int1] at k1
  replace k1 : DataW.trod enc Tryz.prog w base spare held n 3 [c1] = some y1 := k1
  obtain ⟨n1, e1, _, _⟩ := DataW.trod_int Tryz.underlying3 k1
  obtain rfl : c1 = .int .i64 n1 := by simpa using e1
  rw [cellsOf_int1] at k2
  replace k2 : DataW.trod enc Tryz.prog w base spare held n 3 [c2] = some y2 := k2
  obtain ⟨n2, e2, _, _⟩ := DataW.trod_int Tryz.underlying3 k2
  obtain rfl : c2 = .int .i64 n2 := by simpa using e2
  rw [cellsOf_int1] at k3
  replace k3 : DataW.trod enc Tryz.prog w base spare held n 3 [c3] = some y3 := k3
  obtain ⟨n3, e3, _, _⟩ := DataW.trod_int Tryz.underlying3 k3
  obtain rfl : c3 = .int .i64 n3 := by simpa using e3
  exact ⟨⟨n0, n1, n2, n3⟩, rfl⟩
set_option maxRecDepth 100000 in
/-- A slice of tokens. -/
theorem open_toks {fuel : Nat} {cs : List Value} {x : DataW H × List MemPlace} (h : DataW.trod enc Tryz.prog w base spare held fuel 22 cs = some x) : ∃ (A : Option Addr) (l : List Tok) (c : Nat), cs = [.slice A l.length c] ∧ Rd Nob w A (tokC l) ∧ l.length ≤ c ∧ c ≤ maxLen := by
  rcases open_slice Tryz.underlying22 h with ⟨rfl, _⟩ | ⟨a, len, cap, m, n, D, Pl, rfl, _, hlc, hcm, hm, _, hel⟩
  · exact ⟨none, [], 0, rfl, Rd.nil _ _ _, Nat.le_refl _, Nat.zero_le _⟩
  · have hlm : len ≤ m := by rw [hm]; split <;> omega
    obtain ⟨l, h1, h2, _⟩ := row_of (w := w) (Q := fun _ => True) Tok.cells_len a len (fun i hi => by
      obtain ⟨cs', hcs, ht⟩ := hel i (by omega)
      rw [cellsOf_tok] at hcs
      obtain ⟨t, rfl⟩ := open_tok ht
      obtain ⟨_, hl4, hcell⟩ := World.cells?_some hcs
      refine ⟨t, fun j u hu => ?_, trivial⟩
      have hj : j < 4 := by have := (List.getElem?_eq_some_iff.1 hu).1; rwa [Tok.cells_len] at this
      have := hcell j hj
      rw [add_of_add] at this
      rw [this, hu])
    subst h1
    exact ⟨some a, l, cap, rfl, fun _ => ⟨a, rfl, fun h => h, h2⟩, hlc, hcm⟩
set_option maxRecDepth 100000 in
theorem open_step1 {fuel : Nat} {cs : List Value} {x : DataW H × List MemPlace} (h : DataW.trod enc Tryz.prog w base spare held fuel 32 cs = some x) : ∃ s : StepA, cs = s.cells ∧ Rd Nob w s.B (tokC s.s.l) ∧ s.s.l.length ≤ s.b := by
  obtain ⟨xs, n, rfl, rfl, hcl, hxl, hf⟩ := DataW.trod_struct Tryz.underlying32 h
  rw [cellsOf_step] at hcl
  have hx8 : xs.length = 8 := hxl
  match cs, hcl with
  | [c0, c1, c2, c3, c4, c5, c6, c7], _ =>
  match xs, hx8 with
  | [y0, y1, y2, y3, y4, y5, y6, y7], _ =>
  have k0 : DataW.trod enc Tryz.prog w base spare held n 3 (List.take (Tryz.prog.cellsOf 3) (List.drop 0 [c0, c1, c2, c3, c4, c5, c6, c7])) = some y0 := hf 0 _ rfl
  have k1 : DataW.trod enc Tryz.prog w base spare held n 3 (List.take (Tryz.prog.cellsOf 3) (List.drop 1 [c0, c1, c2, c3, c4, c5, c6, c7])) = some y1 := hf 1 _ rfl
  have k2 : DataW.trod enc Tryz.prog w base spare held n 3 (List.take (Tryz.prog.cellsOf 3) (List.drop 2 [c0, c1, c2, c3, c4, c5, c6, c7])) = some y2 := hf 2 _ rfl
  have k3 : DataW.trod enc Tryz.prog w base spare held n 3 (List.take (Tryz.prog.cellsOf 3) (List.drop 3 [c0, c1, c2, c3, c4, c5, c6, c7])) = some y3 := hf 3 _ rfl
  have k4 : DataW.trod enc Tryz.prog w base spare held n 3 (List.take (Tryz.prog.cellsOf 3) (List.drop 4 [c0, c1, c2, c3, c4, c5, c6, c7])) = some y4 := hf 4 _ rfl
  have k5 : DataW.trod enc Tryz.prog w base spare held n 3 (List.take (Tryz.prog.cellsOf 3) (List.drop 5 [c0, c1, c2, c3, c4, c5, c6, c7])) = some y5 := hf 5 _ rfl
  have k6 : DataW.trod enc Tryz.prog w base spare held n 22 (List.take (Tryz.prog.cellsOf 22) (List.drop 6 [c0, c1, c2, c3, c4, c5, c6, c7])) = some y6 := hf 6 _ rfl
  have k7 : DataW.trod enc Tryz.prog w base spare held n 3 (List.take (Tryz.prog.cellsOf 3) (List.drop 7 [c0, c1, c2, c3, c4, c5, c6, c7])) = some y7 := hf 7 _ rfl
  rw [cellsOf_int1] at k0
  replace k0 : DataW.trod enc Tryz.prog w base spare held n 3 [c0] = some y0 := k0
  obtain ⟨n0, e0, _, _⟩ := DataW.trod_int Tryz.underlying3 k0
  obtain rfl : c0 = .int .i64 n0 := by simpa using e0
  rw [cellsOf_int1] at k1
  replace k1 : DataW.trod enc Tryz.prog w base spare held n 3 [c1] = some y1 := k1
  obtain ⟨n1, e1, _, _⟩ := DataW.trod_int Tryz.underlying3 k1
  obtain rfl : c1 = .int .i64 n1 := by simpa using e1
  rw [cellsOf_int1] at k2
  replace k2 : DataW.trod enc Tryz.prog w base spare held n 3 [c2] = some y2 := k2
  obtain ⟨n2, e2, _, _⟩ := DataW.trod_int Tryz.underlying3 k2
  obtain rfl : c2 = .int .i64 n2 := by simpa using e2
  rw [cellsOf_int1] at k3
  replace k3 : DataW.trod enc Tryz.prog w base spare held n 3 [c3] = some y3 := k3
  obtain ⟨n3, e3, _, _⟩ := DataW.trod_int Tryz.underlying3 k3
  obtain rfl : c3 = .int .i64 n3 := by simpa using e3
  rw [cellsOf_int1] at k4
  replace k4 : DataW.trod enc Tryz.prog w base spare held n 3 [c4] = some y4 := k4
  obtain ⟨n4, e4, _, _⟩ := DataW.trod_int Tryz.underlying3 k4
  obtain rfl : c4 = .int .i64 n4 := by simpa using e4
  rw [cellsOf_int1] at k5
  replace k5 : DataW.trod enc Tryz.prog w base spare held n 3 [c5] = some y5 := k5
  obtain ⟨n5, e5, _, _⟩ := DataW.trod_int Tryz.underlying3 k5
  obtain rfl : c5 = .int .i64 n5 := by simpa using e5
  rw [cellsOf_toks] at k6
  replace k6 : DataW.trod enc Tryz.prog w base spare held n 22 [c6] = some y6 := k6
  obtain ⟨B, l, b, e6, hr, hb, _⟩ := open_toks k6
  obtain rfl : c6 = .slice B l.length b := by simpa using e6
  rw [cellsOf_int1] at k7
  replace k7 : DataW.trod enc Tryz.prog w base spare held n 3 [c7] = some y7 := k7
  obtain ⟨n7, e7, _, _⟩ := DataW.trod_int Tryz.underlying3 k7
  obtain rfl : c7 = .int .i64 n7 := by simpa using e7
  exact ⟨⟨⟨n0, n1, n2, n3, n4, n5, n7, l⟩, B, b⟩, rfl, hr, hb⟩
set_option maxRecDepth 100000 in
/-- A slice of steps. -/
theorem open_steps {fuel : Nat} {cs : List Value} {x : DataW H × List MemPlace} (h : DataW.trod enc Tryz.prog w base spare held fuel 23 cs = some x) : ∃ (A : Option Addr) (L : List StepA) (c : Nat), cs = [.slice A L.length c] ∧ StepsM Nob w A L ∧ L.length ≤ c ∧ c ≤ maxLen := by
  rcases open_slice Tryz.underlying23 h with ⟨rfl, _⟩ | ⟨a, len, cap, m, n, D, Pl, rfl, _, hlc, hcm, hm, _, hel⟩
  · exact ⟨none, [], 0, rfl, ⟨Rd.nil _ _ _, fun _ h => (by cases h), fun _ h => (by cases h)⟩, Nat.le_refl _, Nat.zero_le _⟩
  · have hlm : len ≤ m := by rw [hm]; split <;> omega
    obtain ⟨L, h1, h2, h3⟩ := row_of (w := w) (Q := fun s : StepA => Rd Nob w s.B (tokC s.s.l) ∧ s.s.l.length ≤ s.b) StepA.cells_len a len (fun i hi => by
      obtain ⟨cs', hcs, ht⟩ := hel i (by omega)
      rw [cellsOf_step] at hcs
      obtain ⟨s, rfl, hr, hb⟩ := open_step1 ht
      obtain ⟨_, hl8, hcell⟩ := World.cells?_some hcs
      refine ⟨s, fun j u hu => ?_, hr, hb⟩
      have hj : j < 8 := by have := (List.getElem?_eq_some_iff.1 hu).1; rwa [StepA.cells_len] at this
      have := hcell j hj
      rw [add_of_add] at this
      rw [this, hu])
    subst h1
    exact ⟨some a, L, cap, rfl, ⟨fun _ => ⟨a, rfl, fun h => h, h2⟩, fun x hx => (h3 x hx).1, fun x hx => (h3 x hx).2⟩, hlc, hcm⟩
set_option maxRecDepth 100000 in
/-- The arguments themselves. -/
theorem open_toksV {r : Reach} {b0 : Nat} {v : Value} {d : DataW H} {p : List MemPlace} (hv : Value.okWide Tryz.prog w r b0 22 v) (h : DataW.Trod enc Tryz.prog w base spare held 22 v d p) :
    ∃ (A : Option Addr) (l : List Tok) (c : Nat), v = .slice A l.length c ∧ Rd Nob w A (tokC l) ∧ l.length ≤ c ∧ c ≤ maxLen := by
  obtain ⟨A0, n0, c0, rfl⟩ := okWide_slice Tryz.underlying22 hv
  obtain ⟨fuel, hf⟩ := h
  obtain ⟨A, l, c, e, h1, h2, h3⟩ := open_toks hf
  have e' : Value.slice A0 n0 c0 = .slice A l.length c := by simpa [Value.cells] using e
  exact ⟨A, l, c, e', h1, h2, h3⟩
set_option maxRecDepth 100000 in
theorem open_stepsV {r : Reach} {b0 : Nat} {v : Value} {d : DataW H} {p : List MemPlace} (hv : Value.okWide Tryz.prog w r b0 23 v) (h : DataW.Trod enc Tryz.prog w base spare held 23 v d p) :
    ∃ (A : Option Addr) (L : List StepA) (c : Nat), v = .slice A L.length c ∧ StepsM Nob w A L ∧ L.length ≤ c ∧ c ≤ maxLen := by
  obtain ⟨A0, n0, c0, rfl⟩ := okWide_slice Tryz.underlying23 hv
  obtain ⟨fuel, hf⟩ := h
  obtain ⟨A, L, c, e, h1, h2, h3⟩ := open_steps hf
  have e' : Value.slice A0 n0 c0 = .slice A L.length c := by simpa [Value.cells] using e
  exact ⟨A, L, c, e', h1, h2, h3⟩
end Go.Proofs.YtldcffonfidbcaaGreatDoor

/- Chapter 9: what undoes a step: done at what the step made, it makes the document that was. -/
namespace Go.Proofs.YtldcffonfidbcaaGreatDoor
open Go.RowKit
theorem flatF_okT : ∀ (l : List Tok) (i n : Nat), (flatF l i n).2 = 0 → l.all okT = true
  | [], _, _, _ => rfl
  | x :: l, i, n, h => by
    unfold flatF at h
    split at h
    · cases h
    · rename_i h1
      split at h
      · cases h
      · rw [List.all_cons, flatF_okT l _ _ h, Bool.and_true]
        cases hx : okT x with
        | true => rfl
        | false => exact absurd (.inl hx) h1
theorem flat_okT {l : List Tok} (h : (flatCheck l).2 = 0) : l.all okT = true := by
  unfold flatCheck at h
  split at h
  · cases h
  · exact flatF_okT _ _ _ h
theorem all_take {l : List Tok} (h : l.all okT = true) (n : Nat) : (l.take n).all okT = true := by
  rw [List.all_eq_true] at h ⊢
  exact fun x hx => h x (List.mem_of_mem_take hx)
theorem all_drop {l : List Tok} (h : l.all okT = true) (n : Nat) : (l.drop n).all okT = true := by
  rw [List.all_eq_true] at h ⊢
  exact fun x hx => h x (List.mem_of_mem_drop hx)
theorem rep_back (l x : List Tok) (f t : Nat) (h : f ≤ t) (ht : t ≤ l.length) : repF f (f + x.length) ((l.drop f).take (t - f)) (repF f t x l) = l := by
  have hl : (l.take f).length = f := by rw [List.length_take]; omega
  have e1 : (l.take f ++ (x ++ l.drop t)).take f = l.take f := List.take_left' hl
  have e2 : (l.take f ++ (x ++ l.drop t)).drop (f + x.length) = l.drop t := by
    rw [← List.append_assoc]
    exact List.drop_left' (by rw [List.length_append, hl])
  unfold repF
  rw [e1, e2]
  have e3 : l.drop t = (l.drop f).drop (t - f) := by rw [List.drop_drop]; congr 1; omega
  rw [e3, List.take_append_drop, List.take_append_drop]
theorem cut4 (l : List Tok) (f gf gt t : Nat) (h1 : f ≤ gf) (h2 : gf ≤ gt) (h3 : gt ≤ t) :
    l = l.take f ++ ((l.drop f).take (gf - f) ++ ((l.drop gf).take (gt - gf) ++ ((l.drop gt).take (t - gt) ++ l.drop t))) := by
  have e3 : l.drop t = (l.drop gt).drop (t - gt) := by rw [List.drop_drop]; congr 1; omega
  rw [e3, List.take_append_drop]
  have e2 : l.drop gt = (l.drop gf).drop (gt - gf) := by rw [List.drop_drop]; congr 1; omega
  rw [e2, List.take_append_drop]
  have e1 : l.drop gf = (l.drop f).drop (gf - f) := by rw [List.drop_drop]; congr 1; omega
  rw [e1, List.take_append_drop, List.take_append_drop]
theorem aro_back (l x : List Tok) (f t gf gt i : Nat) (h1 : f ≤ gf) (h2 : gf ≤ gt) (h3 : gt ≤ t) (ht : t ≤ l.length) (hi : i ≤ x.length) :
    aroF f (f + i + (gt - gf) + (x.length - i)) (f + i) (f + i + (gt - gf)) (gf - f) ((l.drop f).take (gf - f) ++ (l.drop gt).take (t - gt)) (aroF f t gf gt i x l) = l := by
  have ha : (l.take f).length = f := by rw [List.length_take]; omega
  have hb : ((l.drop f).take (gf - f)).length = gf - f := by rw [List.length_take, List.length_drop]; omega
  have hc : ((l.drop gf).take (gt - gf)).length = gt - gf := by rw [List.length_take, List.length_drop]; omega
  have hx : (x.take i).length = i := by rw [List.length_take]; omega
  have hy : (x.drop i).length = x.length - i := by rw [List.length_drop]
  conv => rhs; rw [cut4 l f gf gt t h1 h2 h3]
  unfold aroF
  generalize l.take f = a at ha ⊢
  generalize (l.drop f).take (gf - f) = b at hb ⊢
  generalize (l.drop gf).take (gt - gf) = c at hc ⊢
  generalize (l.drop gt).take (t - gt) = d
  generalize l.drop t = e
  generalize x.take i = p at hx ⊢
  generalize x.drop i = q at hy ⊢
  have e1 : (a ++ (p ++ (c ++ (q ++ e)))).take f = a := List.take_left' ha
  have e2 : (a ++ (p ++ (c ++ (q ++ e)))).drop (f + i) = c ++ (q ++ e) := by
    rw [← List.append_assoc]
    exact List.drop_left' (by rw [List.length_append, ha, hx])
  have e3 : (a ++ (p ++ (c ++ (q ++ e)))).drop (f + i + (gt - gf) + (x.length - i)) = e := by
    rw [← List.append_assoc, ← List.append_assoc, ← List.append_assoc]
    exact List.drop_left' (by simp only [List.length_append, ha, hx, hc, hy])
  rw [e1, e2, e3, List.take_left' hb, List.drop_left' hb, show f + i + (gt - gf) - (f + i) = gt - gf by omega, List.take_left' hc]
theorem mark_back (k m : Int) (l : List Tok) (f t : Nat) (h : f ≤ t) (ht : t ≤ l.length) : repF f t ((l.drop f).take (t - f)) (markL k m f t l) = l := by
  have e1 : (markL k m f t l).take f = l.take f := by
    refine List.ext_getElem (by simp [markL_len]) (fun j h1 h2 => ?_)
    rw [List.getElem_take, List.getElem_take]
    have hj : j < f := by rw [List.length_take] at h2; omega
    simp only [markL, List.getElem_mapIdx]
    rw [if_neg (by omega)]
  have e2 : (markL k m f t l).drop t = l.drop t := by
    refine List.ext_getElem (by simp [markL_len]) (fun j h1 h2 => ?_)
    rw [List.getElem_drop, List.getElem_drop]
    simp only [markL, List.getElem_mapIdx]
    rw [if_neg (by omega)]
  unfold repF
  rw [e1, e2]
  have e3 : l.drop t = (l.drop f).drop (t - f) := by rw [List.drop_drop]; congr 1; omega
  rw [e3, List.take_append_drop, List.take_append_drop]
def otherS (s : StepM) : StepM := ⟨5 - s.k, s.f, s.t, 0, 0, 0, s.m, []⟩
/-- What undoes a step that was done at l. -/
def invS (s : StepM) (l : List Tok) : StepM :=
  if s.k = 0 then ⟨0, s.f, s.f + s.l.length, 0, 0, 0, 0, (l.drop s.f.toNat).take (s.t.toNat - s.f.toNat)⟩
  else if s.k = 1 then ⟨1, s.f, s.f + s.ins + s.gt - s.gf + s.l.length - s.ins, s.f + s.ins, s.f + s.ins + s.gt - s.gf, s.gf - s.f, 0, (l.drop s.f.toNat).take (s.gf.toNat - s.f.toNat) ++ (l.drop s.gt.toNat).take (s.t.toNat - s.gt.toNat)⟩
  else if doF (otherS s) (doF s l) = l then otherS s
  else ⟨0, s.f, s.t, 0, 0, 0, 0, (l.drop s.f.toNat).take (s.t.toNat - s.f.toNat)⟩
theorem okMark_iff (f t gf gt ins mk : Int) (n : Nat) : okMark f t gf gt ins mk n = true ↔ (0 ≤ f ∧ f ≤ t ∧ t ≤ 2048) ∧ f < t ∧ (listM mk).length = 1 ∧ n = 0 ∧ gf = 0 ∧ gt = 0 ∧ ins = 0 := by
  unfold okMark
  simp only [Bool.and_eq_true, ok0S_iff, decide_eq_true_eq, beq_iff_eq]
  omega
theorem inv_do {s : StepM} {l : List Tok} (hs : stepF s = 0) (ht : s.t ≤ l.length) : doF (invS s l) (doF s l) = l := by
  obtain ⟨_, hk, _⟩ := stepF_zero hs
  have h0 := (ok0S_iff _ _).1 (kindOk_0 hk)
  have hkk := kindOk_k hk
  unfold invS
  by_cases k0 : s.k = 0
  · rw [if_pos k0]
    unfold doF
    rw [if_pos (show (0 : Int) = 0 from rfl), if_pos k0]
    simp only
    rw [show (s.f + (s.l.length : Int)).toNat = s.f.toNat + s.l.length by omega]
    exact rep_back _ _ _ _ (by omega) (by omega)
  · rw [if_neg k0]
    by_cases k1 : s.k = 1
    · have ha := (aroS_iff _ _ _ _ _ _).1 (kindOk_1 hk k1)
      rw [if_pos k1]
      unfold doF
      rw [if_neg k0, if_pos k1]
      simp only [if_true]
      rw [if_neg (by decide)]
      rw [show (s.f + s.ins + s.gt - s.gf + (s.l.length : Int) - s.ins).toNat = s.f.toNat + s.ins.toNat + (s.gt.toNat - s.gf.toNat) + (s.l.length - s.ins.toNat) by omega,
        show (s.f + s.ins).toNat = s.f.toNat + s.ins.toNat by omega, show (s.f + s.ins + s.gt - s.gf).toNat = s.f.toNat + s.ins.toNat + (s.gt.toNat - s.gf.toNat) by omega, show (s.gf - s.f).toNat = s.gf.toNat - s.f.toNat by omega]
      exact aro_back _ _ _ _ _ _ _ (by omega) (by omega) (by omega) (by omega) (by omega)
    · rw [if_neg k1]
      split
      · rename_i h; exact h
      · unfold doF
        rw [if_pos (show (0 : Int) = 0 from rfl), if_neg k0, if_neg k1]
        exact mark_back s.k s.m l s.f.toNat s.t.toNat (by omega) (by omega)
theorem doF_at {s : StepM} {l : List Tok} (hs : stepF s = 0) (ht : s.t ≤ l.length) : (invS s l).t ≤ (doF s l).length := by
  obtain ⟨_, hk, _⟩ := stepF_zero hs
  have h0 := (ok0S_iff _ _).1 (kindOk_0 hk)
  unfold invS
  by_cases k0 : s.k = 0
  · rw [if_pos k0]
    unfold doF
    rw [if_pos k0]
    simp only [repF, List.length_append, List.length_take, List.length_drop]
    omega
  · rw [if_neg k0]
    by_cases k1 : s.k = 1
    · have ha := (aroS_iff _ _ _ _ _ _).1 (kindOk_1 hk k1)
      rw [if_pos k1]
      unfold doF
      rw [if_neg k0, if_pos k1]
      simp only [aroF, List.length_append, List.length_take, List.length_drop]
      omega
    · have hlen : (doF s l).length = l.length := by
        unfold doF
        rw [if_neg k0, if_neg k1, markL_len]
      rw [if_neg k1, hlen]
      split
      · exact ht
      · exact ht
theorem inv_right {s : StepM} {l : List Tok} (hs : stepF s = 0) (ht : s.t ≤ l.length) (hl : (flatCheck l).2 = 0) (hd : (doF s l).length ≤ 2048) : stepF (invS s l) = 0 := by
  obtain ⟨_, hk, _⟩ := stepF_zero hs
  have h0 := (ok0S_iff _ _).1 (kindOk_0 hk)
  have hkk := kindOk_k hk
  have hat := doF_at hs ht
  have hn := flat_short hl
  have hok := flat_okT hl
  have hk2 : kindOk (invS s l) = true ∧ (invS s l).l.all okT = true ∧ (invS s l).l.length ≤ 2048 := by
    unfold invS at hat ⊢
    by_cases k0 : s.k = 0
    · rw [if_pos k0] at hat ⊢
      simp only at hat ⊢
      refine ⟨?_, all_take (all_drop hok _) _, by rw [List.length_take, List.length_drop]; omega⟩
      unfold kindOk
      simp only [if_true]
      unfold okRep
      rw [(ok0S_iff _ _).2 ⟨by omega, by omega, by omega⟩]
      rfl
    · rw [if_neg k0] at hat ⊢
      by_cases k1 : s.k = 1
      · have ha := (aroS_iff _ _ _ _ _ _).1 (kindOk_1 hk k1)
        rw [if_pos k1] at hat ⊢
        simp only at hat ⊢
        refine ⟨?_, by rw [List.all_append, all_take (all_drop hok _) _, all_take (all_drop hok _) _]; rfl, by simp only [List.length_append, List.length_take, List.length_drop]; omega⟩
        unfold kindOk
        simp only [if_true]
        rw [if_neg (by decide)]
        unfold okAro
        rw [(ok0S_iff _ _).2 ⟨by omega, by omega, by omega⟩, (aroS_iff _ _ _ _ _ _).2 ⟨by omega, by omega, by omega, by omega, by simp only [List.length_append, List.length_take, List.length_drop]; omega⟩]
        rfl
      · rw [if_neg k1] at hat ⊢
        have hm : okMark s.f s.t s.gf s.gt s.ins s.m s.l.length = true := by
          unfold kindOk at hk
          rw [if_neg k0, if_neg k1] at hk
          split at hk
          · exact hk
          · cases hk
        have hm' := (okMark_iff _ _ _ _ _ _ _).1 hm
        split
        · refine ⟨?_, rfl, by simp [otherS]⟩
          unfold kindOk otherS
          simp only
          rw [if_neg (by omega), if_neg (by omega), if_pos (by omega)]
          exact (okMark_iff _ _ _ _ _ _ _).2 ⟨hm'.1, hm'.2.1, hm'.2.2.1, rfl, rfl, rfl, rfl⟩
        · refine ⟨?_, all_take (all_drop hok _) _, by simp only [List.length_take, List.length_drop]; omega⟩
          unfold kindOk
          simp only [if_true]
          unfold okRep
          rw [(ok0S_iff _ _).2 ⟨by omega, by omega, by omega⟩]
          rfl
  unfold stepF
  rw [if_neg (by omega), if_pos (by rw [hk2.1, hk2.2.1]; rfl)]
/-- What was done is undone. -/
theorem inv_ok {rs : List RuleM} {g : List Grp} {s : StepM} {l : List Tok} (hc : (checkF rs g l).2 = 0) (h : doE rs g s l = 0) : doE rs g (invS s l) (doF s l) = 0 ∧ doF (invS s l) (doF s l) = l := by
  have ha : applyE s l = 0 := by
    unfold doE at h
    split at h
    · rename_i h1; exact absurd h h1
    · rename_i h1; exact Decidable.not_not.1 h1
  obtain ⟨h1, h2, h3, h4⟩ := applyE_zero ha
  have hd := inv_do h2 h3
  refine ⟨?_, hd⟩
  have hap : applyE (invS s l) (doF s l) = 0 := by
    unfold applyE
    rw [if_neg (by rw [h4]; simp), if_neg (by rw [inv_right h2 h3 h1 (flat_short h4)]; simp), if_neg (by have := doF_at h2 h3; omega), hd, if_neg (by rw [h1]; simp), h1]
  unfold doE
  rw [if_neg (by rw [hap]; simp), hd, hc]
end Go.Proofs.YtldcffonfidbcaaGreatDoor

/- flat.Same: the same tokens? -/
namespace Go.Proofs.YtldcffonfidbcaaGreatDoor
open Go.RowKit
set_option maxRecDepth 100000 in
set_option maxHeartbeats 2000000 in
theorem flatsame_any (M M' : Nat → Prop) (l m : List Tok) (A A' : Option Addr) (c c' : Nat) (w : World) (hl : l.length ≤ 4611686018427387904) (hm : m.length ≤ 4611686018427387904) (hR : Rd M w A (tokC l)) (hR' : Rd M' w A' (tokC m)) :
    Calls Tryz.prog 76 #[.slice A l.length c, .slice A' m.length c'] w fun e w' => e = .returned (.bool (decide (l = m))) ∧ Fr Nob w w' := by
  have HR := Lib.hid hR
  have HR' := Lib.hid hR'
  clear hR hR'
  by_cases hln : l.length = m.length
  · have HLN := Lib.hid hln
    rw [← hln]
    clear hln
    obtain ⟨r, hr⟩ : ∃ r, decide (l = m) = r := ⟨_, rfl⟩
    have HRR := Lib.hid hr
    rw [hr]
    clear hr
    go_enter Tryz.func76, Tryz.ntmps76
    go_wp2_with fail
    go_loopg [13, 5] (l.length) (fun n s13 s5 wr => ∃ (k : Nat), n = l.length - k ∧ k ≤ l.length ∧ s13 = .int .i64 k ∧ Hid (l.take k = m.take k) ∧ Hid (Fr Nob w wr))
    case atStart => exact ⟨0, rfl, Nat.zero_le _, rfl, rfl, Fr.refl _ _⟩
    case round =>
      obtain ⟨k, rfl, hk, rfl, HT, HF⟩ := hrel
      by_cases hlt : k < l.length
      · have ht : ((k : Int) < (l.length : Int)) := by omega
        have hlt' : k < m.length := by have := HLN.out; omega
        obtain ⟨ad, rfl, hnb, hbl, h0, hj⟩ := Rd.elt Tok.cells_len (by omega) (HR.out.fr HF.out (fun _ _ h => h.elim)) hlt
        obtain ⟨ad', rfl, hnb', hbl', h0', hj'⟩ := Rd.elt Tok.cells_len (by omega) (HR'.out.fr HF.out (fun _ _ h => h.elim)) hlt'
        have q1 := hj 0 (by omega)
        have q2 := hj 1 (by omega)
        have q3 := hj 2 (by omega)
        have q1' := hj' 0 (by omega)
        have q2' := hj' 1 (by omega)
        have q3' := hj' 2 (by omega)
        have HNX := Lib.hid (show l[k] = m[k] → l.take (k + 1) = m.take (k + 1) from fun e => by rw [List.take_succ_eq_append_getElem hlt, List.take_succ_eq_append_getElem hlt', HT.out, e])
        have HNE := Lib.hid (show l[k] ≠ m[k] → r = false from fun e => by rw [← HRR.out]; exact decide_eq_false (fun e' => e (by subst e'; rfl)))
        generalize l[k] = x at h0 q1 q2 q3 HNX HNE
        generalize m[k] = y at h0' q1' q2' q3' HNX HNE
        have hms : (k : Int) < (m.length : Int) := by omega
        clear hj hj' hnb hnb'
        obtain ⟨xk, xt, xn, xm⟩ := x
        obtain ⟨yk, yt, yn, ym⟩ := y
        simp only [Tok.cells, List.getElem?_cons_zero, List.getElem?_cons_succ] at h0 q1 q2 q3 h0' q1' q2' q3'
        by_cases e0 : xk = yk
        · by_cases e1 : xt = yt
          · by_cases e2 : xn = yn
            · by_cases e3 : xm = ym
              · have HN2 := Lib.hid (HNX.out (by rw [e0, e1, e2, e3]))
                subst e0 e1 e2 e3
                clear HNX HNE
                go_wp2_with (first | go_quiet (fail) | fail)
                go_roundg (l.length - (k + 1))
                case measure => omega
                case rel => exact ⟨k + 1, rfl, by omega, by first | rfl | go_num, HN2.out, HF.out.drewN _⟩
              · have HRF := Lib.hid (HNE.out (by intro h; injection h; contradiction))
                clear HNX HNE
                go_wp2_with (first | go_quiet (fail) | fail)
                go_ret
                exact ⟨by rw [HRF.out]; rfl, HF.out.drewN _⟩
            · have HRF := Lib.hid (HNE.out (by intro h; injection h; contradiction))
              clear HNX HNE
              go_wp2_with (first | go_quiet (fail) | fail)
              go_ret
              exact ⟨by rw [HRF.out]; rfl, HF.out.drewN _⟩
          · have HRF := Lib.hid (HNE.out (by intro h; injection h; contradiction))
            clear HNX HNE
            go_wp2_with (first | go_quiet (fail) | fail)
            go_ret
            exact ⟨by rw [HRF.out]; rfl, HF.out.drewN _⟩
        · have HRF := Lib.hid (HNE.out (by intro h; injection h; contradiction))
          clear HNX HNE
          go_wp2_with (first | go_quiet (fail) | fail)
          go_ret
          exact ⟨by rw [HRF.out]; rfl, HF.out.drewN _⟩
      · have ht : ¬ ((k : Int) < (l.length : Int)) := by omega
        have hk2 : k = l.length := by omega
        have HRT := Lib.hid (show r = true by
          rw [← HRR.out]
          have h := HT.out
          rw [hk2, List.take_length, HLN.out, List.take_length] at h
          exact decide_eq_true h)
        clear hk2
        go_wp2_with fail
        go_ret
        exact ⟨by rw [HRT.out]; rfl, HF.out⟩
  · rw [decide_eq_false (fun e => hln (by rw [e]))]
    have hne : ¬ (l.length : Int) = (m.length : Int) := by omega
    generalize l.length = ln at hne ⊢
    generalize m.length = mn at hne ⊢
    clear HR HR'
    go_enter Tryz.func76, Tryz.ntmps76
    go_wp2_with fail
    go_ret
    exact ⟨rfl, Fr.refl _ _⟩
end Go.Proofs.YtldcffonfidbcaaGreatDoor

/- Blocks of three, four, eight cells: all their cells at once; ways to return what such a block holds; a step of a drawn region, with what the kernel finds by itself left out. -/
namespace Go.Proofs.YtldcffonfidbcaaGreatDoor
open Go.RowKit
theorem Blk.f3 {w : World} {g : Nat} {t : TypeId} {a b c : Value} (h : Blk w g [a, b, c] t) : w.cell? ⟨g, 0, none⟩ = some a ∧ w.cell? ⟨g, 1, none⟩ = some b ∧ w.cell? ⟨g, 2, none⟩ = some c ∧ g < w.heap.size := ⟨h.cell 0, h.cell 1, h.cell 2, h.lt⟩
theorem Blk.f4 {w : World} {g : Nat} {t : TypeId} {a b c d : Value} (h : Blk w g [a, b, c, d] t) : w.cell? ⟨g, 0, none⟩ = some a ∧ w.cell? ⟨g, 1, none⟩ = some b ∧ w.cell? ⟨g, 2, none⟩ = some c ∧ w.cell? ⟨g, 3, none⟩ = some d ∧
    w.frozen? ⟨g, 0, none⟩ = false ∧ w.frozen? ⟨g, 1, none⟩ = false ∧ w.frozen? ⟨g, 2, none⟩ = false ∧ w.frozen? ⟨g, 3, none⟩ = false ∧ g < w.heap.size := ⟨h.cell 0, h.cell 1, h.cell 2, h.cell 3, h.frozen 0, h.frozen 1, h.frozen 2, h.frozen 3, h.lt⟩
theorem Blk.c8 {w : World} {g : Nat} {t : TypeId} {x0 x1 x2 x3 x4 x5 x6 x7 : Value} (h : Blk w g [x0, x1, x2, x3, x4, x5, x6, x7] t) : w.cell? ⟨g, 0, none⟩ = some x0 ∧ w.cell? ⟨g, 1, none⟩ = some x1 ∧ w.cell? ⟨g, 2, none⟩ = some x2 ∧ w.cell? ⟨g, 3, none⟩ = some x3 ∧
    w.cell? ⟨g, 4, none⟩ = some x4 ∧ w.cell? ⟨g, 5, none⟩ = some x5 ∧ w.cell? ⟨g, 6, none⟩ = some x6 ∧ w.cell? ⟨g, 7, none⟩ = some x7 ∧ g < w.heap.size := ⟨h.cell 0, h.cell 1, h.cell 2, h.cell 3, h.cell 4, h.cell 5, h.cell 6, h.cell 7, h.lt⟩
theorem Blk.z8 {w : World} {g : Nat} {t : TypeId} {x0 x1 x2 x3 x4 x5 x6 x7 : Value} (h : Blk w g [x0, x1, x2, x3, x4, x5, x6, x7] t) : w.frozen? ⟨g, 0, none⟩ = false ∧ w.frozen? ⟨g, 1, none⟩ = false ∧ w.frozen? ⟨g, 2, none⟩ = false ∧ w.frozen? ⟨g, 3, none⟩ = false ∧
    w.frozen? ⟨g, 4, none⟩ = false ∧ w.frozen? ⟨g, 5, none⟩ = false ∧ w.frozen? ⟨g, 6, none⟩ = false ∧ w.frozen? ⟨g, 7, none⟩ = false := ⟨h.frozen 0, h.frozen 1, h.frozen 2, h.frozen 3, h.frozen 4, h.frozen 5, h.frozen 6, h.frozen 7⟩
theorem ret8 {P : Program} {fn : Func} {R : Ending → World → Prop} {ac : Act} {W w0 : World} {g : Nat} {t : TypeId} {x0 x1 x2 x3 x4 x5 x6 x7 y0 y1 y2 y3 y4 y5 y6 y7 v : Value} (hg : Blk W g [x0, x1, x2, x3, x4, x5, x6, x7] t) (hF : Fr Nob w0 W) (hl : w0.heap.size ≤ g) (hd : ac.defers = [])
    (hr : ∀ WE : World, WE.cell? ⟨g, 0, none⟩ = some y0 → WE.cell? ⟨g, 1, none⟩ = some y1 → WE.cell? ⟨g, 2, none⟩ = some y2 → WE.cell? ⟨g, 3, none⟩ = some y3 → WE.cell? ⟨g, 4, none⟩ = some y4 → WE.cell? ⟨g, 5, none⟩ = some y5 → WE.cell? ⟨g, 6, none⟩ = some y6 → WE.cell? ⟨g, 7, none⟩ = some y7 → (results fn ac.tmps).run P WE = .ok v WE) (hR : ∀ WE, Fr Nob w0 WE → R (.returned v) WE) :
    bodyPost P fn R .ret ac ((((((((W.setCell ⟨g, 0, none⟩ y0).setCell ⟨g, 1, none⟩ y1).setCell ⟨g, 2, none⟩ y2).setCell ⟨g, 3, none⟩ y3).setCell ⟨g, 4, none⟩ y4).setCell ⟨g, 5, none⟩ y5).setCell ⟨g, 6, none⟩ y6).setCell ⟨g, 7, none⟩ y7) := by
  have hB : Blk ((((((((W.setCell ⟨g, 0, none⟩ y0).setCell ⟨g, 1, none⟩ y1).setCell ⟨g, 2, none⟩ y2).setCell ⟨g, 3, none⟩ y3).setCell ⟨g, 4, none⟩ y4).setCell ⟨g, 5, none⟩ y5).setCell ⟨g, 6, none⟩ y6).setCell ⟨g, 7, none⟩ y7) g [y0, y1, y2, y3, y4, y5, y6, y7] t :=
    (((((((hg.set 0 y0).set 1 y1).set 2 y2).set 3 y3).set 4 y4).set 5 y5).set 6 y6).set 7 y7
  exact bodyPost_ret (hr _ (hB.cell 0) (hB.cell 1) (hB.cell 2) (hB.cell 3) (hB.cell 4) (hB.cell 5) (hB.cell 6) (hB.cell 7)) hd (hR _ ((((((((hF.setCell (p := ⟨g, 0, none⟩) (.inr hl) y0).setCell (p := ⟨g, 1, none⟩) (.inr hl) y1).setCell (p := ⟨g, 2, none⟩) (.inr hl) y2).setCell (p := ⟨g, 3, none⟩) (.inr hl) y3).setCell (p := ⟨g, 4, none⟩) (.inr hl) y4).setCell (p := ⟨g, 5, none⟩) (.inr hl) y5).setCell (p := ⟨g, 6, none⟩) (.inr hl) y6).setCell (p := ⟨g, 7, none⟩) (.inr hl) y7))
section
variable {P : Program} {md : Region.Mode} {ops : Array Oper} {Q : Exit → Act → World → Prop} {S : World → Prop}
/-- A step of a drawn region that yields v in every world of S. -/
theorem take_by {i : Nat} {oi : Oper} {v : Value} {fuel : Nat} {listed : Array Bool} {a : Act} {w : World} (hi : ops[i]? = some oi) (hS : S w)
    (h : wpAnyH P md ops Q S fuel (listed.setIfInBounds i true) (a.put oi.dst v) w)
    (hs : Region.noSelect ops = true := by kernel_rfl) (hf : Region.free md ops listed i = true := by kernel_rfl) (hr : (Region.ready md ops listed).contains i = true := by kernel_rfl)
    (hQ : ∀ c a w, Q (.panic c) (a.put oi.dst v) w → Q (.panic c) a w := by exact fun _ _ _ h => h)
    (hy : YieldsIf P ops S oi v a := by exact Or.inl ⟨by rfl, fun w hSw => by (try dsimp only at hSw); go_simp⟩) : wpAnyH P md ops Q S (fuel + 1) listed a w :=
  wpAnyH_take hi hs hf hr hQ hy hS h
end
end Go.Proofs.YtldcffonfidbcaaGreatDoor

/- To return what a block of eight cells holds, the rest of memory as it was. -/
namespace Go.Proofs.YtldcffonfidbcaaGreatDoor
open Go.RowKit
theorem ret8m {P : Program} {fn : Func} {R : Ending → World → Prop} {ac : Act} {W : World} {g : Nat} {t : TypeId} {x0 x1 x2 x3 x4 x5 x6 x7 y0 y1 y2 y3 y4 y5 y6 y7 v : Value} (hg : Blk W g [x0, x1, x2, x3, x4, x5, x6, x7] t) (hd : ac.defers = [])
    (hr : ∀ WE : World, WE.cell? ⟨g, 0, none⟩ = some y0 → WE.cell? ⟨g, 1, none⟩ = some y1 → WE.cell? ⟨g, 2, none⟩ = some y2 → WE.cell? ⟨g, 3, none⟩ = some y3 → WE.cell? ⟨g, 4, none⟩ = some y4 → WE.cell? ⟨g, 5, none⟩ = some y5 → WE.cell? ⟨g, 6, none⟩ = some y6 → WE.cell? ⟨g, 7, none⟩ = some y7 → (results fn ac.tmps).run P WE = .ok v WE) (hR : ∀ WE, Fr (One g) W WE → R (.returned v) WE) :
    bodyPost P fn R .ret ac ((((((((W.setCell ⟨g, 0, none⟩ y0).setCell ⟨g, 1, none⟩ y1).setCell ⟨g, 2, none⟩ y2).setCell ⟨g, 3, none⟩ y3).setCell ⟨g, 4, none⟩ y4).setCell ⟨g, 5, none⟩ y5).setCell ⟨g, 6, none⟩ y6).setCell ⟨g, 7, none⟩ y7) := by
  have hB : Blk ((((((((W.setCell ⟨g, 0, none⟩ y0).setCell ⟨g, 1, none⟩ y1).setCell ⟨g, 2, none⟩ y2).setCell ⟨g, 3, none⟩ y3).setCell ⟨g, 4, none⟩ y4).setCell ⟨g, 5, none⟩ y5).setCell ⟨g, 6, none⟩ y6).setCell ⟨g, 7, none⟩ y7) g [y0, y1, y2, y3, y4, y5, y6, y7] t :=
    (((((((hg.set 0 y0).set 1 y1).set 2 y2).set 3 y3).set 4 y4).set 5 y5).set 6 y6).set 7 y7
  exact bodyPost_ret (hr _ (hB.cell 0) (hB.cell 1) (hB.cell 2) (hB.cell 3) (hB.cell 4) (hB.cell 5) (hB.cell 6) (hB.cell 7)) hd (hR _ (((((((((Fr.refl (One g) W).setCell (p := ⟨g, 0, none⟩) (.inl rfl) y0).setCell (p := ⟨g, 1, none⟩) (.inl rfl) y1).setCell (p := ⟨g, 2, none⟩) (.inl rfl) y2).setCell (p := ⟨g, 3, none⟩) (.inl rfl) y3).setCell (p := ⟨g, 4, none⟩) (.inl rfl) y4).setCell (p := ⟨g, 5, none⟩) (.inl rfl) y5).setCell (p := ⟨g, 6, none⟩) (.inl rfl) y6).setCell (p := ⟨g, 7, none⟩) (.inl rfl) y7))
end Go.Proofs.YtldcffonfidbcaaGreatDoor
