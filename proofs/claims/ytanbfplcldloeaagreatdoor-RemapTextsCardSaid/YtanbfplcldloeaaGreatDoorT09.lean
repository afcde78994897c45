/- A part of the proof for chapter 10: Apply, Pos, PosW, PosL, StepMap, Round, PosE, Append, SchCheck; no conditions. -/
import Derived.Test.YtanbfplcldloeaaGreatDoorT08
import Derived.Test.YtanbfplcldloeaaGreatDoorT05
import Derived.Deep.RegionLaw
import Derived.RangeFuncBox
import Derived.RangeFuncNested
import Derived.RangeFuncLeaves
import Derived.Shelf.Abstract
import Derived.OwnWalkIn
import Derived.TacticsInMore
import Derived.LoopNIn
import Derived.LoopIn
import Derived.OrdersIn
import Derived.OrdersHeld
import Derived.StillTail
import Derived.Deep.AppendLies
import Derived.Deep.DeepAppendRoom
import Derived.Deep.Onto
import Derived.ArgAppend
import Derived.Test.YtanbfplcldloeaaGreatDoorT06
import Derived.StillTailTactics
import Derived.Deep.DeepCutAuto
import Derived.Deep.RegionHeld3
/- Chapter 9: a step, done; a step at a document. -/
namespace Go.Proofs.YtanbfplcldloeaaGreatDoor
open Go.RowKit
theorem stepF_zero {s : StepM} (h : stepF s = 0) : s.l.length ≤ 2048 ∧ kindOk s = true ∧ s.l.all okT = true := by
  unfold stepF at h
  split at h
  · omega
  · split at h
    · rename_i h1 h2
      rw [Bool.and_eq_true] at h2
      exact ⟨by omega, h2.1, h2.2⟩
    · omega
theorem kindOk_0 {s : StepM} (h : kindOk s = true) : ok0S s.f s.t = true := by
  unfold kindOk okRep okAro okMark at h
  by_cases h0 : s.k = 0
  · rw [if_pos h0] at h; simp only [Bool.and_eq_true] at h; exact h.1.1.1.1
  · rw [if_neg h0] at h
    by_cases h1 : s.k = 1
    · rw [if_pos h1] at h; simp only [Bool.and_eq_true] at h; exact h.1.1
    · rw [if_neg h1] at h
      by_cases h2 : s.k = 2 ∨ s.k = 3
      · rw [if_pos h2] at h; simp only [Bool.and_eq_true] at h; exact h.1.1.1.1.1.1
      · rw [if_neg h2] at h; simp at h
theorem kindOk_1 {s : StepM} (h : kindOk s = true) (h1 : s.k = 1) : aroS s.f s.t s.gf s.gt s.ins s.l.length = true := by
  unfold kindOk okAro at h
  rw [if_neg (by omega), if_pos h1] at h
  simp only [Bool.and_eq_true] at h
  exact h.1.2
theorem kindOk_k {s : StepM} (h : kindOk s = true) : s.k = 0 ∨ s.k = 1 ∨ s.k = 2 ∨ s.k = 3 := by
  unfold kindOk at h
  by_cases h0 : s.k = 0
  · exact .inl h0
  · by_cases h1 : s.k = 1
    · exact .inr (.inl h1)
    · by_cases h2 : s.k = 2 ∨ s.k = 3
      · exact .inr (.inr h2)
      · rw [if_neg h0, if_neg h1, if_neg h2] at h; simp at h
/-- What a step makes of a list. -/
def doF (s : StepM) (l : List Tok) : List Tok :=
  if s.k = 0 then repF s.f.toNat s.t.toNat s.l l
  else if s.k = 1 then aroF s.f.toNat s.t.toNat s.gf.toNat s.gt.toNat s.ins.toNat s.l l
  else markL s.k s.m s.f.toNat s.t.toNat l
theorem doF_len (s : StepM) (l : List Tok) (h : s.l.length ≤ 2048) (hl : l.length ≤ 10000) : (doF s l).length ≤ 40000 := by
  unfold doF
  split
  · simp only [repF, List.length_append, List.length_take, List.length_drop]; omega
  · split
    · simp only [aroF, List.length_append, List.length_take, List.length_drop]; omega
    · rw [markL_len]; omega
theorem stepdo_any (M : Nat → Prop) (s : StepM) (A B : Option Addr) (l : List Tok) (c b : Nat) (w : World) (hl : Rd M w A (tokC l)) (hx : Rd M w B (tokC s.l)) (hc : l.length ≤ c) (hb : s.l.length ≤ b) (hs : stepF s = 0) (ht : s.t ≤ l.length) (hn : l.length ≤ 10000) :
    Calls Tryz.prog 52 #[.slice A l.length c, .agg (s.cells (.slice B s.l.length b)).toArray] w fun e w' => ∃ v, e = .returned v ∧ NewDoc w w' v (doF s l) ∧ Fr Nob w w' := by
  obtain ⟨hxl, hk, _⟩ := stepF_zero hs
  have h0 := (ok0S_iff _ _).1 (kindOk_0 hk)
  have hkk := kindOk_k hk
  have haro := fun h1 => (aroS_iff _ _ _ _ _ _).1 (kindOk_1 hk h1)
  obtain ⟨k, f, t, gf, gt, ins, m, x⟩ := s
  simp only at *
  obtain ⟨f, rfl⟩ := Int.eq_ofNat_of_zero_le h0.1
  obtain ⟨t, rfl⟩ := Int.eq_ofNat_of_zero_le (show 0 ≤ t by omega)
  rcases hkk with rfl | rfl | rfl | rfl
  · refine (stepdo_rep M f t gf gt ins m A B x l c b w hl hx hc (by omega) (by omega) hn (by omega)).mono ?_
    rintro e w' ⟨v, rfl, hv, hF⟩
    exact ⟨v, rfl, hv, hF⟩
  · have ha := haro rfl
    obtain ⟨gf, rfl⟩ := Int.eq_ofNat_of_zero_le (show 0 ≤ gf by omega)
    obtain ⟨gt, rfl⟩ := Int.eq_ofNat_of_zero_le (show 0 ≤ gt by omega)
    obtain ⟨ins, rfl⟩ := Int.eq_ofNat_of_zero_le (show 0 ≤ ins by omega)
    refine (stepdo_aro M f t gf gt ins m A B x l c b w hl hx hc hb (by omega) (by omega) (by omega) (by omega) (by omega) hn (by omega)).mono ?_
    rintro e w' ⟨v, rfl, hv, hF⟩
    exact ⟨v, rfl, hv, hF⟩
  · refine (stepdo_add M f t gf gt ins m A B l c x.length b w hl hc (by omega) (by omega) hn).mono ?_
    rintro e w' ⟨v, rfl, hv, hF⟩
    exact ⟨v, rfl, hv, hF⟩
  · refine (stepdo_take M f t gf gt ins m A B l c x.length b w hl hc (by omega) (by omega) hn).mono ?_
    rintro e w' ⟨v, rfl, hv, hF⟩
    exact ⟨v, rfl, hv, hF⟩
/-- A step at a document: its error, or 0. -/
def applyE (s : StepM) (l : List Tok) : Int :=
  if (flatCheck l).2 ≠ 0 then (flatCheck l).2
  else if stepF s ≠ 0 then stepF s
  else if (l.length : Int) < s.t then 1
  else if (flatCheck (doF s l)).2 = 3 then 4
  else (flatCheck (doF s l)).2
theorem flat_short {l : List Tok} (h : (flatCheck l).2 = 0) : l.length ≤ 2048 := by
  unfold flatCheck at h
  split at h
  · simp at h
  · omega
set_option maxRecDepth 100000 in
set_option maxHeartbeats 4000000 in
theorem apply_any (M : Nat → Prop) (s : StepM) (A B : Option Addr) (l : List Tok) (c b : Nat) (w : World) (hl : Rd M w A (tokC l)) (hx : Rd M w B (tokC s.l)) (hc : l.length ≤ c) (hb : s.l.length ≤ b) (hn : l.length ≤ 9223372036854775807) :
    Calls Tryz.prog 24 #[.slice A l.length c, .agg (s.cells (.slice B s.l.length b)).toArray] w fun e w' => ∃ v, e = .returned (.tuple #[v, .int .i64 (applyE s l)]) ∧ (applyE s l = 0 → NewDoc w w' v (doF s l)) ∧ (applyE s l ≠ 0 → v = .slice none 0 0) ∧ Fr Nob w w' := by
  obtain ⟨E, hE⟩ : ∃ E, applyE s l = E := ⟨_, rfl⟩
  rw [hE]
  have HE := Lib.hid hE
  have HL := Lib.hid hl
  have HX := Lib.hid hx
  have HCB := Lib.hid (And.intro hc hb)
  obtain ⟨ln, hln⟩ : ∃ ln, l.length = ln := ⟨_, rfl⟩
  obtain ⟨xn, hxn⟩ : ∃ xn, s.l.length = xn := ⟨_, rfl⟩
  have HLN := Lib.hid hln
  have HXN := Lib.hid hxn
  have HDL : Hid (Doc M w (.slice A ln c) l) := ⟨A, c, by rw [hln], by rw [hln] at hc ⊢; exact hc, hl⟩
  have HN := Lib.hid hn
  rw [hln] at hn
  rw [hln, hxn]
  clear hl hx hc hb hln hxn hE
  obtain ⟨k, f, t, gf, gt, ins, m, x⟩ := s
  simp only [StepM.cells] at *
  go_enter Tryz.func24, Tryz.ntmps24
  go_upto_region 1 with (fail)
  obtain ⟨W, hW⟩ : ∃ W, w.alloc (.cells #[.int .i64 k, .int .i64 f, .int .i64 t, .int .i64 gf, .int .i64 gt, .int .i64 ins, .slice B xn b, .int .i64 m] 24) = W := ⟨_, rfl⟩
  have HF := Lib.hid (show Fr Nob w W by rw [← hW]; exact (Fr.refl _ _).alloc _)
  have HB := Lib.hid (show Blk W w.heap.size [.int .i64 k, .int .i64 f, .int .i64 t, .int .i64 gf, .int .i64 gt, .int .i64 ins, .slice B xn b, .int .i64 m] 24 by rw [← hW]; exact Blk.new _ _ _)
  rw [hW]
  clear hW
  go_wp2_with fail
  refine (flatcheck_any M l _ W (HDL.out.fr0 HF.out) HN.out).mono ?_
  rintro e w1 ⟨rfl, hF1⟩
  have HF1 := Lib.hid (HF.out.same hF1)
  have HB1 := Lib.hid (HB.out.fr hF1 (fun h => h))
  clear hF1
  obtain ⟨⟨fi, fe⟩, hfe⟩ : ∃ r, flatCheck l = r := ⟨_, rfl⟩
  have HFE := Lib.hid hfe
  rw [hfe]
  simp only
  clear hfe
  by_cases hz : fe = 0
  · subst hz
    have b0 := HB1.out.cell 0
    have b1 := HB1.out.cell 1
    have b2 := HB1.out.cell 2
    have b3 := HB1.out.cell 3
    have b4 := HB1.out.cell 4
    have b5 := HB1.out.cell 5
    have b6 := HB1.out.cell 6
    have b7 := HB1.out.cell 7
    have hlb := HB1.out.lt
    simp only [List.getElem?_cons_zero, List.getElem?_cons_succ] at b0 b1 b2 b3 b4 b5 b6 b7
    go_wp2_with fail
    have hck := stepcheck_any M ⟨k, f, t, gf, gt, ins, m, x⟩ B b w1 (HX.out.fr HF1.out (fun _ _ h => h.elim))
    simp only [StepM.cells, HXN.out] at hck
    refine hck.mono ?_
    clear hck
    rintro e w2 ⟨rfl, hF2⟩
    have HF2 := Lib.hid (HF1.out.same hF2)
    have HB2 := Lib.hid (HB1.out.fr hF2 (fun h => h))
    clear hF2 b0 b1 b2 b3 b4 b5 b6 b7 hlb
    obtain ⟨se, hse⟩ : ∃ r, stepF ⟨k, f, t, gf, gt, ins, m, x⟩ = r := ⟨_, rfl⟩
    have HSE := Lib.hid hse
    rw [hse]
    clear hse
    by_cases hz : se = 0
    · subst hz
      have b0 := HB2.out.cell 0
      have b1 := HB2.out.cell 1
      have b2 := HB2.out.cell 2
      have b3 := HB2.out.cell 3
      have b4 := HB2.out.cell 4
      have b5 := HB2.out.cell 5
      have b6 := HB2.out.cell 6
      have b7 := HB2.out.cell 7
      have hlb := HB2.out.lt
      simp only [List.getElem?_cons_zero, List.getElem?_cons_succ] at b0 b1 b2 b3 b4 b5 b6 b7
      by_cases htl : (ln : Int) < t
      · have HE2 := Lib.hid (show E = 1 by
          rw [← HE.out, applyE, HFE.out, if_neg (by simp), HSE.out, if_neg (by simp), if_pos (by rw [HLN.out]; exact htl)])
        go_wp2_with fail
        refine bodyPost_ret (v := .tuple #[.slice none 0 0, .int .i64 1]) (by simp [results, go_sem]) rfl ?_
        exact ⟨_, by rw [HE2.out], by rw [HE2.out]; intro h; omega, fun _ => rfl, HF2.out⟩
      · have HE2 := Lib.hid (show E = if (flatCheck (doF ⟨k, f, t, gf, gt, ins, m, x⟩ l)).2 = 3 then 4 else (flatCheck (doF ⟨k, f, t, gf, gt, ins, m, x⟩ l)).2 by
          rw [← HE.out, applyE, HFE.out, if_neg (by simp), HSE.out, if_neg (by simp), if_neg (by rw [HLN.out]; exact htl)])
        go_wp2_with fail
        have hsh := flat_short (show (flatCheck l).2 = 0 by rw [HFE.out])
        have hdo := stepdo_any M ⟨k, f, t, gf, gt, ins, m, x⟩ A B l c b w2 (HL.out.fr HF2.out (fun _ _ h => h.elim)) (HX.out.fr HF2.out (fun _ _ h => h.elim)) HCB.out.1 HCB.out.2 HSE.out (by show t ≤ _; rw [HLN.out]; omega) (by omega)
        have hdl := doF_len ⟨k, f, t, gf, gt, ins, m, x⟩ l (stepF_zero HSE.out).1 (by omega)
        simp only [StepM.cells, HXN.out, HLN.out] at hdo
        refine hdo.mono ?_
        clear hdo
        obtain ⟨D, hD⟩ : ∃ D, doF ⟨k, f, t, gf, gt, ins, m, x⟩ l = D := ⟨_, rfl⟩
        rw [hD] at HE2 hdl ⊢
        rintro e w3 ⟨v, rfl, hv, hF3⟩
        have HV := Lib.hid (hv.old HF2.out.size)
        have HF3 := Lib.hid (HF2.out.same hF3)
        clear hv hF3 b0 b1 b2 b3 b4 b5 b6 b7 hlb hsh
        go_wp2_with fail
        refine (flatcheck_any _ D _ w3 HV.out.doc (by omega)).mono ?_
        rintro e w4 ⟨rfl, hF4⟩
        have HV4 : Hid (NewDoc w w4 v D) := by
          obtain ⟨g, rfl, hg, hb⟩ := HV.out
          exact ⟨g, rfl, hg, hb.fr hF4 (fun h => h)⟩
        have HF4 := Lib.hid (HF3.out.same hF4)
        clear hF4
        obtain ⟨⟨oi, oe⟩, hoe⟩ : ∃ r, flatCheck D = r := ⟨_, rfl⟩
        rw [hoe] at HE2 ⊢
        simp only at HE2 ⊢
        clear hoe
        by_cases ho : oe = 0
        · subst ho
          have HE3 := Lib.hid (show E = 0 by rw [HE2.out, if_neg (by omega)])
          go_wp2_with fail
          refine bodyPost_ret (v := .tuple #[v, .int .i64 0]) (by simp [results, go_sem]) rfl ?_
          exact ⟨v, by rw [HE3.out], fun _ => by rw [hD]; exact HV4.out, fun h => absurd HE3.out h, HF4.out⟩
        · have ho1 : (oe == 0) = false := by simpa using ho
          by_cases ho3 : oe = 3
          · subst ho3
            have HE3 := Lib.hid (show E = 4 by rw [HE2.out, if_pos rfl])
            go_wp2_with fail
            refine bodyPost_ret (v := .tuple #[.slice none 0 0, .int .i64 4]) (by simp [results, go_sem]) rfl ?_
            exact ⟨_, by rw [HE3.out], by rw [HE3.out]; intro h; omega, fun _ => rfl, HF4.out⟩
          · have ho2 : (oe == 3) = false := by simpa using ho3
            have HE3 := Lib.hid (show E = oe by rw [HE2.out, if_neg ho3])
            go_wp2_with fail
            refine bodyPost_ret (v := .tuple #[.slice none 0 0, .int .i64 oe]) (by simp [results, go_sem]) rfl ?_
            exact ⟨_, by rw [HE3.out], by rw [HE3.out]; intro h; exact absurd h ho, fun _ => rfl, HF4.out⟩
    · have hse2 : (se != 0) = true := by simpa using hz
      have HE2 := Lib.hid (show E = se by
        rw [← HE.out, applyE, HFE.out, if_neg (by simp), HSE.out, if_pos hz])
      go_wp2_with fail
      refine bodyPost_ret (v := .tuple #[.slice none 0 0, .int .i64 se]) (by simp [results, go_sem]) rfl ?_
      exact ⟨_, by rw [HE2.out], by rw [HE2.out]; intro h; exact absurd h hz, fun _ => rfl, HF2.out⟩
  · have hfe2 : (fe != 0) = true := by simpa using hz
    have HE2 := Lib.hid (show E = fe by
      rw [← HE.out, applyE, HFE.out, if_pos hz])
    go_wp2_with fail
    refine bodyPost_ret (v := .tuple #[.slice none 0 0, .int .i64 fe]) (by simp [results, go_sem]) rfl ?_
    exact ⟨_, by rw [HE2.out], by rw [HE2.out]; intro h; exact absurd h hz, fun _ => rfl, HF1.out⟩
end Go.Proofs.YtanbfplcldloeaaGreatDoor

/- Chapter 8: ranges; may a map be. -/
namespace Go.Proofs.YtanbfplcldloeaaGreatDoor
open Go.RowKit
structure Rng where
  a : Int
  o : Int
  n : Int
def Rng.cells (x : Rng) : List Value := [.int .i64 x.a, .int .i64 x.o, .int .i64 x.n]
theorem Rng.cells_len (x : Rng) : x.cells.length = 3 := rfl
def rngC (l : List Rng) : List Value := l.flatMap Rng.cells
def badR (x : Rng) (last : Int) : Bool := decide (x.a < last ∨ 65536 < x.a ∨ 65536 < x.o ∨ 65536 < x.n ∨ x.o < 0 ∨ x.n < 0)
theorem badR_iff (x : Rng) (last : Int) : badR x last = true ↔ (x.a < last ∨ 65536 < x.a ∨ 65536 < x.o ∨ 65536 < x.n ∨ x.o < 0 ∨ x.n < 0) := by unfold badR; exact decide_eq_true_iff
def rightF : List Rng → Int → Bool
  | [], _ => true
  | x :: l, last => if badR x last = true then false else rightF l (x.a + x.o)
def rightP (l : List Rng) : Bool := rightF l 0 && decide (l.length ≤ 4)
set_option maxRecDepth 100000 in
theorem posright_any (M : Nat → Prop) (l : List Rng) (A : Option Addr) (c : Nat) (w : World) (hr : Rd M w A (rngC l)) (hl : l.length ≤ 4611686018427387904) :
    Calls Tryz.prog 27 #[.slice A l.length c] w fun e w' => e = .returned (.bool (rightP l)) ∧ Fr Nob w w' := by
  obtain ⟨r, hrr⟩ : ∃ r, rightP l = r := ⟨_, rfl⟩
  rw [hrr]
  have HR0 := Lib.hid hrr
  obtain ⟨q0, hq0⟩ : ∃ q0, rightF l 0 = q0 := ⟨_, rfl⟩
  have HQ0 := Lib.hid hq0
  have HRd := Lib.hid hr
  clear hrr hr hq0
  go_enter Tryz.func27, Tryz.ntmps27
  go_wp2_with fail
  go_loopg [3, 8] (l.length) (fun n la i wr => ∃ (k : Nat) (last : Int), n = l.length - k ∧ k ≤ l.length ∧ la = .int .i64 last ∧ i = .int .i64 k ∧ 0 ≤ last ∧ last ≤ 131072 ∧ Hid (Fr Nob w wr) ∧ Hid (rightF (l.drop k) last = q0))
  case atStart => exact ⟨0, 0, rfl, Nat.zero_le _, rfl, rfl, by omega, by omega, Fr.refl _ _, HQ0.out⟩
  case round =>
    obtain ⟨k, last, rfl, hk, rfl, rfl, hl0, hl1, HF, HC⟩ := hrel
    by_cases hlt : k < l.length
    · have ht : ((k : Int) < (l.length : Int)) := by omega
      obtain ⟨ad, rfl, _, hlb, q0', q⟩ := Rd.elt Rng.cells_len (by omega) (HRd.out.fr HF.out (fun _ _ h => h.elim)) hlt
      have hdr : l.drop k = l[k] :: l.drop (k + 1) := List.drop_eq_getElem_cons hlt
      generalize l[k] = x at q0' q hdr
      have q1 := q 0 (by omega)
      have q2 := q 1 (by omega)
      simp only [Rng.cells, List.getElem?_cons_zero, List.getElem?_cons_succ, Nat.reduceAdd] at q0' q1 q2
      have hcc := HC.out
      rw [hdr, rightF] at hcc
      have HCC := Lib.hid hcc
      have hff : Fr Nob w (wr.alloc (.cells #[.int .i64 x.a, .int .i64 x.o, .int .i64 x.n] 135)) := HF.out.alloc _
      have HFF := Lib.hid hff
      clear q hdr HC hcc hff
      by_cases h1 : x.a < last
      · have HE := Lib.hid (show false = r by rw [← HR0.out, rightP, HQ0.out, ← HCC.out, if_pos ((badR_iff x last).2 (.inl h1))]; rfl)
        go_wp2_with fail
        go_ret
        exact ⟨by rw [← HE.out]; rfl, HFF.out⟩
      · go_wp2_with fail
        all_goals first
          | (have hb : x.a < last ∨ 65536 < x.a ∨ 65536 < x.o ∨ 65536 < x.n ∨ x.o < 0 ∨ x.n < 0 := by omega
             have HE := Lib.hid (show false = r by rw [← HR0.out, rightP, HQ0.out, ← HCC.out, if_pos ((badR_iff x last).2 hb)]; rfl)
             go_ret
             exact ⟨by rw [← HE.out]; rfl, HFF.out⟩)
          | (have hb : ¬ (x.a < last ∨ 65536 < x.a ∨ 65536 < x.o ∨ 65536 < x.n ∨ x.o < 0 ∨ x.n < 0) := by omega
             have hcc := HCC.out
             rw [if_neg (fun h => hb ((badR_iff x last).1 h))] at hcc
             have HE := Lib.hid hcc
             clear hcc
             go_roundg (l.length - (k + 1))
             case measure => omega
             case rel => exact ⟨k + 1, x.a + x.o, rfl, by omega, by first | rfl | go_num, by first | rfl | go_num, by omega, by omega, HFF.out, HE.out⟩)
    · have ht : ¬ ((k : Int) < (l.length : Int)) := by omega
      have hcc := HC.out
      rw [List.drop_eq_nil_of_le (by omega), rightF] at hcc
      have HE := Lib.hid (show decide (l.length ≤ 4) = r by rw [← HR0.out, rightP, HQ0.out, ← hcc]; rfl)
      clear hcc HC
      by_cases h4 : l.length ≤ 4
      · have h4' : ((l.length : Int) ≤ 4) := by omega
        rw [decide_eq_true h4] at HE
        go_wp2_with fail
        go_ret
        exact ⟨by rw [← HE.out]; rfl, HF.out⟩
      · have h4' : ¬ ((l.length : Int) ≤ 4) := by omega
        rw [decide_eq_false h4] at HE
        go_wp2_with fail
        go_ret
        exact ⟨by rw [← HE.out]; rfl, HF.out⟩
end Go.Proofs.YtanbfplcldloeaaGreatDoor

/- Chapter 8: maps that nobody made; a place's spot in a range. -/
namespace Go.Proofs.YtanbfplcldloeaaGreatDoor
open Go.RowKit
set_option maxRecDepth 100000 in
theorem posnone_any (m : Nat) (w : World) (h : w.cell? ⟨m, 1, none⟩ = some (.bool true)) :
    Calls Tryz.prog 26 #[.pointer (some ⟨m, 0, none⟩)] w fun e w' => e = .returned (.bool false) ∧ w' = w := by
  have hl := cell_lt h
  go_enter Tryz.func26, Tryz.ntmps26
  go_wp2_with fail
  go_ret
  exact ⟨rfl, rfl⟩
set_option maxRecDepth 100000 in
theorem posnew_any (w : World) :
    Calls Tryz.prog 9 #[] w fun e w' => e = .returned (.pointer (some ⟨w.heap.size, 0, none⟩)) ∧ w' = w.alloc (.cells #[.slice none 0 0, .bool true] 71) := by
  go_enter Tryz.func9, Tryz.ntmps9
  go_wp2_with fail
  go_ret
  exact ⟨rfl, rfl⟩
def withinL (x : Rng) (p side : Int) : Bool := if x.o = 0 then decide (side < 0) else if p = x.a then true else if p = x.a + x.o then false else decide (side < 0)
def withinG (x : Rng) (p : Int) : Bool := if x.o = 0 then false else if p = x.a then false else if p = x.a + x.o then false else true
def spotC (a : Int) (g : Bool) (i o : Int) : List Value := [.int .i64 a, .bool g, .int .i64 i, .int .i64 o]
theorem spot_ret (w : World) (xa xo xn A : Int) (G : Bool) :
    ∀ W : World, ((w.alloc (.cells #[.int .i64 xa, .int .i64 xo, .int .i64 xn] 135)).alloc (.cells #[.int .i64 A, .bool G, .int .i64 (-1), .int .i64 0] 80)).alloc (.cells #[.int .i64 A, .bool G, .int .i64 (-1), .int .i64 0] 80) = W → W.cell? ⟨w.heap.size + 1, 0, none⟩ = some (.int .i64 A) ∧ W.cell? ⟨w.heap.size + 1, 1, none⟩ = some (.bool G) ∧ W.cell? ⟨w.heap.size + 1, 2, none⟩ = some (.int .i64 (-1)) ∧ W.cell? ⟨w.heap.size + 1, 3, none⟩ = some (.int .i64 0) ∧ Fr Nob w W := by
  rintro W rfl
  have hb : Blk (((w.alloc (.cells #[.int .i64 xa, .int .i64 xo, .int .i64 xn] 135)).alloc (.cells #[.int .i64 A, .bool G, .int .i64 (-1), .int .i64 0] 80)).alloc (.cells #[.int .i64 A, .bool G, .int .i64 (-1), .int .i64 0] 80)) (w.heap.size + 1) [.int .i64 A, .bool G, .int .i64 (-1), .int .i64 0] 80 := (Blk.new_at (w.alloc (.cells #[.int .i64 xa, .int .i64 xo, .int .i64 xn] 135)) _ _ (w.heap.size + 1) (by simp)).alloc _
  exact ⟨hb.cell 0, hb.cell 1, hb.cell 2, hb.cell 3, (((Fr.refl Nob w).alloc _).alloc _).alloc _⟩
set_option maxRecDepth 100000 in
set_option maxHeartbeats 2000000 in
theorem within_any (x : Rng) (b p side : Int) (w : World) (ha : 0 ≤ x.a ∧ x.a ≤ 65536) (ho : 0 ≤ x.o ∧ x.o ≤ 65536) (hn : 0 ≤ x.n ∧ x.n ≤ 65536) (hb : -1000000 ≤ b ∧ b ≤ 1000000) :
    Calls Tryz.prog 90 #[.agg x.cells.toArray, .int .i64 b, .int .i64 p, .int .i64 side] w fun e w' => e = .returned (.agg (spotC (if withinL x p side = true then b else b + x.n) (withinG x p) (-1) 0).toArray) ∧ Fr Nob w w' := by
  obtain ⟨xa, xo, xn⟩ := x
  simp only at ha ho hn
  obtain ⟨L, hL⟩ : ∃ L, withinL ⟨xa, xo, xn⟩ p side = L := ⟨_, rfl⟩
  obtain ⟨G, hG⟩ : ∃ G, withinG ⟨xa, xo, xn⟩ p = G := ⟨_, rfl⟩
  rw [hL, hG, show (⟨xa, xo, xn⟩ : Rng).cells.toArray = #[.int .i64 xa, .int .i64 xo, .int .i64 xn] from rfl]
  unfold withinL at hL
  unfold withinG at hG
  simp only at hL hG
  obtain ⟨R, hR⟩ : ∃ R, (if L = true then b else b + xn) = R := ⟨_, rfl⟩
  rw [hR]
  have HR := Lib.hid hR
  have HL := Lib.hid hL
  have HG := Lib.hid hG
  clear hL hG hR
  by_cases h0 : xo = 0
  · have b0 : (xo == 0) = true := by simpa using h0
    by_cases hs : side < 0
    · have hs' := hs
      have HE := Lib.hid (show b = R ∧ false = G by have h1 := HL.out; have h2 := HG.out; have h3 := HR.out; rw [if_pos h0] at h1 h2; rw [decide_eq_true hs] at h1; rw [← h1, if_pos rfl] at h3; exact ⟨h3, h2⟩)
      clear HL HG HR h0
      go_enter Tryz.func90, Tryz.ntmps90
      go_wp2_with fail
      obtain ⟨W, hW⟩ : ∃ W, ((w.alloc (.cells #[.int .i64 xa, .int .i64 xo, .int .i64 xn] 135)).alloc (.cells #[.int .i64 b, .bool false, .int .i64 (-1), .int .i64 0] 80)).alloc (.cells #[.int .i64 b, .bool false, .int .i64 (-1), .int .i64 0] 80) = W := ⟨_, rfl⟩
      obtain ⟨p0, p1, p2, p3, hF⟩ := spot_ret w xa xo xn b false W hW
      rw [hW]
      exact bodyPost_ret (v := .agg #[.int .i64 b, .bool false, .int .i64 (-1), .int .i64 0]) (by simp [results, go_sem, p0, p1, p2, p3]) rfl ⟨by rw [← HE.out.1, ← HE.out.2]; rfl, hF⟩
    · have hs' := hs
      have HE := Lib.hid (show (b + xn) = R ∧ false = G by have h1 := HL.out; have h2 := HG.out; have h3 := HR.out; rw [if_pos h0] at h1 h2; rw [decide_eq_false hs] at h1; rw [← h1, if_neg (by simp)] at h3; exact ⟨h3, h2⟩)
      clear HL HG HR h0
      go_enter Tryz.func90, Tryz.ntmps90
      go_wp2_with fail
      obtain ⟨W, hW⟩ : ∃ W, ((w.alloc (.cells #[.int .i64 xa, .int .i64 xo, .int .i64 xn] 135)).alloc (.cells #[.int .i64 (b + xn), .bool false, .int .i64 (-1), .int .i64 0] 80)).alloc (.cells #[.int .i64 (b + xn), .bool false, .int .i64 (-1), .int .i64 0] 80) = W := ⟨_, rfl⟩
      obtain ⟨p0, p1, p2, p3, hF⟩ := spot_ret w xa xo xn (b + xn) false W hW
      rw [hW]
      exact bodyPost_ret (v := .agg #[.int .i64 (b + xn), .bool false, .int .i64 (-1), .int .i64 0]) (by simp [results, go_sem, p0, p1, p2, p3]) rfl ⟨by rw [← HE.out.1, ← HE.out.2]; rfl, hF⟩
  · have b0 : (xo == 0) = false := by simpa using h0
    by_cases h1' : p = xa
    · have b1 : (p == xa) = true := by simpa using h1'
      have HE := Lib.hid (show b = R ∧ false = G by have h1 := HL.out; have h2 := HG.out; have h3 := HR.out; rw [if_neg h0, if_pos h1'] at h1 h2; rw [← h1, if_pos rfl] at h3; exact ⟨h3, h2⟩)
      clear HL HG HR h0 h1'
      go_enter Tryz.func90, Tryz.ntmps90
      go_wp2_with fail
      obtain ⟨W, hW⟩ : ∃ W, ((w.alloc (.cells #[.int .i64 xa, .int .i64 xo, .int .i64 xn] 135)).alloc (.cells #[.int .i64 b, .bool false, .int .i64 (-1), .int .i64 0] 80)).alloc (.cells #[.int .i64 b, .bool false, .int .i64 (-1), .int .i64 0] 80) = W := ⟨_, rfl⟩
      obtain ⟨p0, p1, p2, p3, hF⟩ := spot_ret w xa xo xn b false W hW
      rw [hW]
      exact bodyPost_ret (v := .agg #[.int .i64 b, .bool false, .int .i64 (-1), .int .i64 0]) (by simp [results, go_sem, p0, p1, p2, p3]) rfl ⟨by rw [← HE.out.1, ← HE.out.2]; rfl, hF⟩
    · have b1 : (p == xa) = false := by simpa using h1'
      by_cases h2' : p = xa + xo
      · have b2 : (p == xa + xo) = true := by simpa using h2'
        have HE := Lib.hid (show (b + xn) = R ∧ false = G by have h1 := HL.out; have h2 := HG.out; have h3 := HR.out; rw [if_neg h0, if_neg h1', if_pos h2'] at h1 h2; rw [← h1, if_neg (by simp)] at h3; exact ⟨h3, h2⟩)
        clear HL HG HR h0 h1' h2'
        go_enter Tryz.func90, Tryz.ntmps90
        go_wp2_with fail
        obtain ⟨W, hW⟩ : ∃ W, ((w.alloc (.cells #[.int .i64 xa, .int .i64 xo, .int .i64 xn] 135)).alloc (.cells #[.int .i64 (b + xn), .bool false, .int .i64 (-1), .int .i64 0] 80)).alloc (.cells #[.int .i64 (b + xn), .bool false, .int .i64 (-1), .int .i64 0] 80) = W := ⟨_, rfl⟩
        obtain ⟨p0, p1, p2, p3, hF⟩ := spot_ret w xa xo xn (b + xn) false W hW
        rw [hW]
        exact bodyPost_ret (v := .agg #[.int .i64 (b + xn), .bool false, .int .i64 (-1), .int .i64 0]) (by simp [results, go_sem, p0, p1, p2, p3]) rfl ⟨by rw [← HE.out.1, ← HE.out.2]; rfl, hF⟩
      · have b2 : (p == xa + xo) = false := by simpa using h2'
        by_cases hs : side < 0
        · have hs' := hs
          have HE := Lib.hid (show b = R ∧ true = G by have h1 := HL.out; have h2 := HG.out; have h3 := HR.out; rw [if_neg h0, if_neg h1', if_neg h2'] at h1 h2; rw [decide_eq_true hs] at h1; rw [← h1, if_pos rfl] at h3; exact ⟨h3, h2⟩)
          clear HL HG HR h0 h1' h2'
          go_enter Tryz.func90, Tryz.ntmps90
          go_wp2_with fail
          obtain ⟨W, hW⟩ : ∃ W, ((w.alloc (.cells #[.int .i64 xa, .int .i64 xo, .int .i64 xn] 135)).alloc (.cells #[.int .i64 b, .bool true, .int .i64 (-1), .int .i64 0] 80)).alloc (.cells #[.int .i64 b, .bool true, .int .i64 (-1), .int .i64 0] 80) = W := ⟨_, rfl⟩
          obtain ⟨p0, p1, p2, p3, hF⟩ := spot_ret w xa xo xn b true W hW
          rw [hW]
          exact bodyPost_ret (v := .agg #[.int .i64 b, .bool true, .int .i64 (-1), .int .i64 0]) (by simp [results, go_sem, p0, p1, p2, p3]) rfl ⟨by rw [← HE.out.1, ← HE.out.2]; rfl, hF⟩
        · have hs' := hs
          have HE := Lib.hid (show (b + xn) = R ∧ true = G by have h1 := HL.out; have h2 := HG.out; have h3 := HR.out; rw [if_neg h0, if_neg h1', if_neg h2'] at h1 h2; rw [decide_eq_false hs] at h1; rw [← h1, if_neg (by simp)] at h3; exact ⟨h3, h2⟩)
          clear HL HG HR h0 h1' h2'
          go_enter Tryz.func90, Tryz.ntmps90
          go_wp2_with fail
          obtain ⟨W, hW⟩ : ∃ W, ((w.alloc (.cells #[.int .i64 xa, .int .i64 xo, .int .i64 xn] 135)).alloc (.cells #[.int .i64 (b + xn), .bool true, .int .i64 (-1), .int .i64 0] 80)).alloc (.cells #[.int .i64 (b + xn), .bool true, .int .i64 (-1), .int .i64 0] 80) = W := ⟨_, rfl⟩
          obtain ⟨p0, p1, p2, p3, hF⟩ := spot_ret w xa xo xn (b + xn) true W hW
          rw [hW]
          exact bodyPost_ret (v := .agg #[.int .i64 (b + xn), .bool true, .int .i64 (-1), .int .i64 0]) (by simp [results, go_sem, p0, p1, p2, p3]) rfl ⟨by rw [← HE.out.1, ← HE.out.2]; rfl, hF⟩
end Go.Proofs.YtanbfplcldloeaaGreatDoor

/- Chapter 8: how many maps; a walk over ranges, made. -/
namespace Go.Proofs.YtanbfplcldloeaaGreatDoor
open Go.RowKit
set_option maxRecDepth 100000 in
theorem poslen_any (m : Nat) (A : Option Addr) (n c : Nat) (w : World) (h0 : w.cell? ⟨m, 0, none⟩ = some (.slice A n c)) (h : w.cell? ⟨m, 1, none⟩ = some (.bool true)) :
    Calls Tryz.prog 42 #[.pointer (some ⟨m, 0, none⟩)] w fun e w' => e = .returned (.int .i64 n) ∧ w' = w := by
  have hl := cell_lt h
  have HN := Lib.hid (posnone_any m w h)
  go_enter Tryz.func42, Tryz.ntmps42
  go_wp2_with fail
  refine HN.out.mono ?_
  rintro e w' ⟨rfl, rfl⟩
  go_wp2_with fail
  go_ret
  exact ⟨rfl, rfl⟩
set_option maxRecDepth 100000 in
theorem poseach_any (A : Option Addr) (n c : Nat) (w : World) :
    Calls Tryz.prog 64 #[.slice A n c] w fun e w' => e = .returned (.func (.func 93) #[] #[.pointer (some ⟨w.heap.size, 0, none⟩)]) ∧ w' = w.alloc (.cells #[.slice A n c] 34) := by
  go_enter Tryz.func64, Tryz.ntmps64
  go_wp2_with fail
  go_ret
  exact ⟨rfl, rfl⟩
end Go.Proofs.YtanbfplcldloeaaGreatDoor

/- Chapter 9: a step's map. -/
namespace Go.Proofs.YtanbfplcldloeaaGreatDoor
open Go.RowKit
/-- A map, as memory holds it. -/
def Rngs (M : Nat → Prop) (w : World) (v : Value) (l : List Rng) : Prop := ∃ A c, v = .slice A l.length c ∧ Rd M w A (rngC l)
theorem Rngs.fr {M M' : Nat → Prop} {w w' : World} {v : Value} {l : List Rng} (h : Rngs M w v l) (hf : Fr M' w w') (hM : ∀ k, k < w.heap.size → M' k → M k) : Rngs M w' v l := by
  obtain ⟨A, c, rfl, hr⟩ := h
  exact ⟨A, c, rfl, hr.fr hf hM⟩
theorem Rngs.fr0 {M : Nat → Prop} {w w' : World} {v : Value} {l : List Rng} (h : Rngs M w v l) (hf : Fr Nob w w') : Rngs M w' v l := h.fr hf (fun _ _ h => h.elim)
theorem Rngs.mono {M M' : Nat → Prop} {w : World} {v : Value} {l : List Rng} (h : Rngs M w v l) (hM : ∀ k, M' k → M k) : Rngs M' w v l := by
  obtain ⟨A, c, rfl, hr⟩ := h
  exact ⟨A, c, rfl, hr.mono hM⟩
theorem Rngs.nil (M : Nat → Prop) (w : World) : Rngs M w (.slice none 0 0) [] := ⟨none, 0, rfl, Rd.nil _ _ _⟩
/-- A map in a new block. -/
theorem Rngs.new {w0 w : World} (l : List Rng) (T : TypeId) (hs : w0.heap.size ≤ w.heap.size) : Rngs (fun k => k < w0.heap.size) (w.alloc (.cells (rngC l).toArray T)) (.slice (some ⟨w.heap.size, 0, none⟩) l.length l.length) l :=
  ⟨_, _, rfl, fun _ => ⟨_, rfl, Nat.not_lt.2 hs, fun j u hu => by rw [add_lit]; exact ((Blk.new w (rngC l) T).cell j).trans hu⟩⟩
def stepmapF (s : StepM) : List Rng :=
  if s.k = 0 then [⟨s.f, s.t - s.f, s.l.length⟩]
  else if s.k = 1 then [⟨s.f, s.gf - s.f, s.ins⟩, ⟨s.gt, s.t - s.gt, s.l.length - s.ins⟩]
  else []
set_option maxRecDepth 100000 in
set_option maxHeartbeats 4000000 in
theorem stepmap_any (M : Nat → Prop) (s : StepM) (B : Option Addr) (b : Nat) (w : World) (hx : Rd M w B (tokC s.l)) :
    Calls Tryz.prog 36 #[.agg (s.cells (.slice B s.l.length b)).toArray] w fun e w' => ∃ v, e = .returned (.tuple #[v, .int .i64 (stepF s)]) ∧ Rngs (fun k => k < w.heap.size) w' v (if stepF s = 0 then stepmapF s else []) ∧ Fr Nob w w' := by
  obtain ⟨R, hR⟩ : ∃ R, (if stepF s = 0 then stepmapF s else []) = R := ⟨_, rfl⟩
  rw [hR]
  have HR := Lib.hid hR
  obtain ⟨xn, hxn⟩ : ∃ xn, s.l.length = xn := ⟨_, rfl⟩
  have HXN := Lib.hid hxn
  have HX := Lib.hid hx
  rw [hxn]
  clear hx hxn hR
  obtain ⟨E, hE⟩ : ∃ E, stepF s = E := ⟨_, rfl⟩
  rw [hE]
  have HE := Lib.hid hE
  clear hE
  obtain ⟨k, f, t, gf, gt, ins, m, x⟩ := s
  simp only [StepM.cells] at *
  go_enter Tryz.func36, Tryz.ntmps36
  go_upto_region 1 with (fail)
  obtain ⟨W, hW⟩ : ∃ W, w.alloc (.cells #[.int .i64 k, .int .i64 f, .int .i64 t, .int .i64 gf, .int .i64 gt, .int .i64 ins, .slice B xn b, .int .i64 m] 24) = W := ⟨_, rfl⟩
  have HF := Lib.hid (show Fr Nob w W by rw [← hW]; exact (Fr.refl _ _).alloc _)
  have HB := Lib.hid (show Blk W w.heap.size [.int .i64 k, .int .i64 f, .int .i64 t, .int .i64 gf, .int .i64 gt, .int .i64 ins, .slice B xn b, .int .i64 m] 24 by rw [← hW]; exact Blk.new _ _ _)
  rw [hW]
  clear hW
  have b0 := HB.out.cell 0
  have b1 := HB.out.cell 1
  have b2 := HB.out.cell 2
  have b3 := HB.out.cell 3
  have b4 := HB.out.cell 4
  have b5 := HB.out.cell 5
  have b6 := HB.out.cell 6
  have b7 := HB.out.cell 7
  have hlb := HB.out.lt
  simp only [List.getElem?_cons_zero, List.getElem?_cons_succ] at b0 b1 b2 b3 b4 b5 b6 b7
  go_wp2_with fail
  have hck := stepcheck_any M ⟨k, f, t, gf, gt, ins, m, x⟩ B b W (HX.out.fr HF.out (fun _ _ h => h.elim))
  simp only [StepM.cells, HXN.out] at hck
  refine hck.mono ?_
  clear hck
  rintro e w2 ⟨rfl, hF2⟩
  have HF2 := Lib.hid (HF.out.same hF2)
  have HB2 := Lib.hid (HB.out.fr hF2 (fun h => h))
  clear hF2 b0 b1 b2 b3 b4 b5 b6 b7 hlb
  rw [HE.out]
  by_cases hz : E = 0
  · subst hz
    have b0 := HB2.out.cell 0
    have b1 := HB2.out.cell 1
    have b2 := HB2.out.cell 2
    have b3 := HB2.out.cell 3
    have b4 := HB2.out.cell 4
    have b5 := HB2.out.cell 5
    have b6 := HB2.out.cell 6
    have hlb := HB2.out.lt
    simp only [List.getElem?_cons_zero, List.getElem?_cons_succ] at b0 b1 b2 b3 b4 b5 b6
    have HR2 := Lib.hid (show stepmapF ⟨k, f, t, gf, gt, ins, m, x⟩ = R by rw [← HR.out, HE.out, if_pos rfl])
    obtain ⟨hxl, hk, _⟩ := stepF_zero HE.out
    have h0 := (ok0S_iff _ _).1 (kindOk_0 hk)
    have haro := fun h1 => (aroS_iff _ _ _ _ _ _).1 (kindOk_1 hk h1)
    simp only at hxl h0 haro
    rw [HXN.out] at hxl haro
    clear hk
    by_cases h1 : k = 0
    · subst h1
      have HM := Lib.hid (show [⟨f, t - f, xn⟩] = R by rw [← HR2.out]; simp [stepmapF, HXN.out])
      clear haro
      go_wp2_with fail
      refine bodyPost_ret (v := .tuple #[.slice (some ⟨w2.heap.size, 0, none⟩) 1 1, .int .i64 0]) (by simp [results, go_sem]) rfl ?_
      exact ⟨_, rfl, by rw [← HM.out]; exact Rngs.new [⟨f, t - f, xn⟩] _ HF2.out.size, HF2.out.alloc _⟩
    · have h1' : (k == 0) = false := by simpa using h1
      by_cases h2 : k = 1
      · subst h2
        have ha := haro rfl
        have HM := Lib.hid (show [⟨f, gf - f, ins⟩, ⟨gt, t - gt, xn - ins⟩] = R by rw [← HR2.out]; simp [stepmapF, HXN.out])
        clear haro
        go_wp2_with fail
        refine bodyPost_ret (v := .tuple #[.slice (some ⟨w2.heap.size, 0, none⟩) 2 2, .int .i64 0]) (by simp [results, go_sem]) rfl ?_
        exact ⟨_, rfl, by rw [← HM.out]; exact Rngs.new [⟨f, gf - f, ins⟩, ⟨gt, t - gt, xn - ins⟩] _ HF2.out.size, HF2.out.alloc _⟩
      · have h2' : (k == 1) = false := by simpa using h2
        have HM := Lib.hid (show [] = R by rw [← HR2.out]; simp [stepmapF, h1, h2])
        clear haro
        go_wp2_with fail
        refine bodyPost_ret (v := .tuple #[.slice none 0 0, .int .i64 0]) (by simp [results, go_sem]) rfl ?_
        exact ⟨_, rfl, by rw [← HM.out]; exact Rngs.nil _ _, HF2.out⟩
  · have hse2 : (E != 0) = true := by simpa using hz
    have HM := Lib.hid (show [] = R by rw [← HR.out, HE.out, if_neg hz])
    go_wp2_with fail
    refine bodyPost_ret (v := .tuple #[.slice none 0 0, .int .i64 E]) (by simp [results, go_sem]) rfl ?_
    exact ⟨_, rfl, by rw [← HM.out]; exact Rngs.nil _ _, HF2.out⟩
end Go.Proofs.YtanbfplcldloeaaGreatDoor

/- A region that draws its order, within a round of a range over a function, out of what is shown of it anywhere: the wide fence alone. -/
namespace Go.Proofs.YtanbfplcldloeaaGreatDoor
open Go.RowKit
theorem op_round {P : Program} {o : Oper} {a : Act} {w : World} {K : Act → World → Prop} {Q : Exit → Act → World → Prop} (l n : Nat) (hd : ∀ c, o.op ≠ .defer c) (h : o.wp P a w K Q) : o.wpIn (Fence.wide.inRound l) n P a w K Q := by
  unfold Oper.wpIn
  refine ⟨fun f _ => trivial, ?_⟩
  rw [Fence.inRound_round, Oper.semAt_some l _ _ hd]
  unfold Oper.wp at h
  generalize (execOp a.eval o).run P w = r at h ⊢
  cases r with
  | ok x w' =>
    cases x <;> simp only [Oper.upon, Oper.uponIn] at h ⊢ <;> first | exact h | skip
    · exact ⟨fun h => by simp [Fence.wide] at h, (callsIn_wide.2 h).inRound l⟩
    · exact ⟨fun h => by simp [Fence.wide] at h, fun c cs _ => let ⟨v, w', hv, hs⟩ := h c cs; ⟨v, w', hv, stepsIn_wide.2 hs⟩⟩
  | halt x w' => cases x <;> simp only [Oper.upon, Oper.uponIn] at h ⊢ <;> exact h
def noDefer (o : Oper) : Bool := match o.op with | .defer _ => false | _ => true
theorem noDefer_ne {o : Oper} (h : noDefer o = true) : ∀ c, o.op ≠ .defer c := fun c e => by simp [noDefer, e] at h
theorem wpOp_round {P : Program} {ops : Array Oper} {Q : Exit → Act → World → Prop} (l n : Nat) (hd : ∀ o ∈ ops, noDefer o = true) (hQ : ¬ LetsOut Q) {i : Nat} {K : Act → World → Prop} {a : Act} {w : World} (h : wpOp P ops Q i K a w) : wpOpIn (Fence.wide.inRound l) n P ops Q i K a w := by
  unfold wpOp at h
  unfold wpOpIn
  cases ho : ops[i]? with
  | none => simpa [ho] using h
  | some o =>
    simp only [ho] at h ⊢
    split
    · rename_i hw
      rw [if_pos hw] at h
      exact op_round l n (noDefer_ne (hd o (Array.mem_of_getElem? ho))) (h.resolve_right (fun hh => hQ hh.2))
    · rename_i hw
      rw [if_neg hw] at h
      exact ⟨fun _ _ => trivial, h⟩
theorem wpAny_round {P : Program} {md : Region.Mode} {ops : Array Oper} {Q : Exit → Act → World → Prop} (l n : Nat) (hd : ∀ o ∈ ops, noDefer o = true) (hQ : ¬ LetsOut Q) : ∀ (fuel : Nat) (listed : Array Bool) (a : Act) (w : World), wpAny P md ops Q fuel listed a w → wpAnyIn (Fence.wide.inRound l) n P md ops Q fuel listed a w
  | 0, _, _, _, h => h
  | fuel + 1, _, _, _, h => ⟨h.1, fun i hi => wpOpIn_mono (fun a' w' h' => wpAny_round l n hd hQ fuel _ a' w' h') (wpOp_round l n hd hQ (h.2 i hi))⟩
/-- A region within a round: whatever order is drawn. -/
theorem region_round {P : Program} {id l n : Nat} {ops : Array Oper} {Q : Exit → Act → World → Prop} {a : Act} {w : World} (hm : P.follows .mixedOrders = true) (hd : ops.all noDefer = true) (hQ : ¬ LetsOut Q)
    (h : wpAny P .any ops Q ops.size (Array.replicate ops.size false) a w.drew) : (Code.region id ops true).wpIn (Fence.wide.inRound l) n P Q a w :=
  wpIn_region_any hm (wpAny_round l n (fun o ho => by rw [Array.all_eq_true] at hd; obtain ⟨i, hi, rfl⟩ := Array.mem_iff_getElem.1 ho; exact hd i hi) hQ _ _ _ _ h)
theorem region_round_held {P : Program} {id l n : Nat} {ops : Array Oper} {Q : Exit → Act → World → Prop} {S : World → Prop} {a : Act} {w : World} (hm : P.follows .mixedOrders = true) (hd : ops.all noDefer = true) (hQ : ¬ LetsOut Q)
    (h : wpAnyH P .any ops Q S ops.size (Array.replicate ops.size false) a w.drew) : (Code.region id ops true).wpIn (Fence.wide.inRound l) n P Q a w :=
  region_round hm hd hQ (wpAny_of_held _ _ _ _ h)
/-- 'wpStill', shut: else Lean reckons it through at every term that is typed against it. -/
structure StillW (P : Program) (ops : Array Oper) (w : World) (Q : Act → Prop) (l : List Oper) (a : Act) : Prop where
  out : wpStill P ops w Q l a
section
variable {P : Program} {ops : Array Oper} {w : World} {Q : Act → Prop} {o : Oper} {rest : List Oper} {a : Act}
theorem StillW.nil (h : Q a) : StillW P ops w Q [] a := ⟨h⟩
theorem StillW.step (h : ∀ K : Act → Prop, (∀ a, StillW P ops w Q rest a → K a) → if Region.wanted o (yielded ops a.tmps) then o.still P a w K else K (a.put o.dst undef)) : StillW P ops w Q (o :: rest) a :=
  ⟨wpStill_step (fun K hK => h K (fun a ha => hK a ha.out))⟩
/-- An operation whose guard says no. -/
theorem StillW.skip (h : Region.wanted o (yielded ops a.tmps) = false) (hr : StillW P ops w Q rest (a.put o.dst undef)) : StillW P ops w Q (o :: rest) a :=
  .step (fun K hK => by rw [if_neg (by rw [h]; simp)]; exact hK _ hr)
/-- One whose guard says yes. -/
theorem StillW.want (h : Region.wanted o (yielded ops a.tmps) = true) (hr : ∀ K : Act → Prop, (∀ a, StillW P ops w Q rest a → K a) → o.still P a w K) : StillW P ops w Q (o :: rest) a :=
  .step (fun K hK => by rw [if_pos h]; exact hr K hK)
/-- A choice. -/
theorem StillW.pick {c x y : Operand} (t : Bool) (v : Value) (hop : o.op = .pick c x y) (hg : Region.wanted o (yielded ops a.tmps) = true) (hc : a.eval c = .bool t) (hv : (if t = true then a.eval x else a.eval y) = v) (hr : StillW P ops w Q rest (a.put o.dst v)) : StillW P ops w Q (o :: rest) a := by
  refine .want hg (fun K hK => ?_)
  unfold Oper.still
  have : (execOp a.eval o).run P w = .ok (.value v) w := by simp [execOp, hop, hc, asBool, hv]
  rw [this]
  exact ⟨rfl, hK _ hr⟩
/-- A move. -/
theorem StillW.move {x : Operand} (v : Value) (hop : o.op = .move x) (hg : Region.wanted o (yielded ops a.tmps) = true) (hv : a.eval x = v) (hr : StillW P ops w Q rest (a.put o.dst v)) : StillW P ops w Q (o :: rest) a := by
  refine .want hg (fun K hK => ?_)
  unfold Oper.still
  have : (execOp a.eval o).run P w = .ok (.value v) w := by simp [execOp, hop, hv]
  rw [this]
  exact ⟨rfl, hK _ hr⟩
end
/-- .. that only reads. -/
theorem region_round_still {P : Program} {id r n : Nat} {l : List Oper} {Q : Exit → Act → World → Prop} {a : Act} {w : World} (hm : P.follows .mixedOrders = true) (hd : l.toArray.all noDefer = true) (hB : Region.lexB .any l.toArray = true) (hQ : ¬ LetsOut Q)
    (h' : StillW P l.toArray w.drew (fun a' => Q .normal a' w.drew) l a) : (Code.region id l.toArray true).wpIn (Fence.wide.inRound r) n P Q a w := by
  have h := h'.out
  simp only [Region.lexB, Bool.and_eq_true] at hB
  refine region_round hm hd hQ (wpAny_of_still (Q := fun a' => Q .normal a' w.drew) (fun _ h => h) _ _ _ ?_)
  have := wpAnyS_lex (md := .any) hB.1 l 0 (Array.replicate l.toArray.size false) a (by simp) (by simpa using hB.2) h
  simpa using this
/-- .. whose tail comes in its order. -/
theorem region_round_tail {P : Program} {id r k : Nat} {Q : Exit → Act → World → Prop} {a : Act} {w : World} {l : List Oper} (n : Nat) (hm : P.follows .mixedOrders = true) (hd : l.toArray.all noDefer = true) (hB : Region.lexTailB .any l.toArray n = true) (hQ : ¬ LetsOut Q)
    (h' : StillW P l.toArray w.drew (fun a' => wpList P l.toArray Q (l.drop n) a' w.drew) (l.take n) a) : (Code.region id l.toArray true).wpIn (Fence.wide.inRound r) k P Q a w := by
  have h := h'.out
  simp only [Region.lexTailB, Bool.and_eq_true, decide_eq_true_eq] at hB
  obtain ⟨⟨⟨⟨hsel, hn⟩, hs⟩, hc⟩, hlex⟩ := hB
  have hn' : n < l.length := by simpa using hn
  have htl : (l.take n).length = n := by simp; omega
  have hdl : (l.drop n).length = l.toArray.size - n := by simp
  have inv0 : HeadInv .any l.toArray n (Array.replicate l.toArray.size false) :=
    ⟨by simp, fun j oj _ hl => (by rw [getD_replicate_false] at hl; cases hl), fun t _ ht => getD_in (by simpa using ht) (getD_replicate_false _ _)⟩
  have H := wpAnyL_lex (md := .any) (g := l.toArray.size - n) hsel hs hc hn (l.take n) 0 _ a (fun j hj => by
    have hj' : j < n := by rw [htl] at hj; exact hj
    simp [hj']) (by simpa using htl) inv0 (by rw [htl]; exact hlex) h
  refine region_round hm hd hQ ?_
  have := wpAny_of_head (Q' := Q) (g := l.toArray.size - n) (fun listed a' hL => by
    have := wpAny_of_seq (md := .any) (Q' := Q) (l.drop n) n listed a' w.drew (fun j => by simp [List.getElem?_drop]) (by rw [hdl]; exact hL.1) hL.2
    rwa [hdl] at this) _ _ _ H
  rw [htl, show n + (l.toArray.size - n) = l.toArray.size by omega] at this
  exact this
theorem notOut_then {K : Act → World → Prop} {Q : Exit → Act → World → Prop} (h : ¬ LetsOut Q) : ¬ LetsOut (Exit.then K Q) := fun ⟨a, w, h'⟩ => h ⟨a, w, h'⟩
theorem notOut_block {id : Nat} {Q : Exit → Act → World → Prop} (h : ¬ LetsOut Q) : ¬ LetsOut (Exit.inBlock id Q) := fun ⟨a, w, h'⟩ => h ⟨a, w, h'⟩
theorem notOut_own {α : Type} {Kp : World → World → Prop} {I : List α → World → Prop} {Ix : Code → List α → World → Prop} {xs : List α} {W : World} : ¬ LetsOut (ownPostK Kp I Ix xs W) := fun ⟨_, _, h⟩ => h
/-- What speaks of old blocks alone abides what a loop's own blocks do. -/
theorem ownFrom_fr {β : Type} {M : Nat → Prop} {w2 : World} {B : Nat} (hB : w2.heap.size ≤ B) : OwnFrom B (fun (_ : β) W => Fr M w2 W) := fun _ W W' row hs hg hr =>
  hs.trans (Fr.of_grown hg) (fun k hk e => by have := (hr k e.symm).1; omega)
theorem ownFrom_blk {β : Type} {b B : Nat} (hb : b < B) (f : β → List Value) (T : TypeId) : OwnFrom B (fun (s : β) W => Blk W b (f s) T) := fun _ W W' row hs hg hr =>
  hs.fr (Fr.of_grown hg) (fun e => by have := (hr b e.symm).1; omega)
theorem ownFrom_pure {β : Type} {B : Nat} (p : β → Prop) : OwnFrom B (fun (s : β) (_ : World) => p s) := fun _ _ _ _ hs _ _ => hs
theorem ownFrom_ex {β ι : Type} {B : Nat} {I : ι → β → World → Prop} (h : ∀ i, OwnFrom B (I i)) : OwnFrom B (fun (s : β) W => ∃ i, I i s W) := fun s A W row ⟨i, hs⟩ hg hr => ⟨i, h i s A W row hs hg hr⟩
/-- The frame behind a loop: its book is closed. -/
theorem fr_putObj {M : Nat → Prop} {w2 W : World} {D : Nat} (o : Obj) (h : Fr M w2 W) (hD : w2.heap.size ≤ D) : Fr M w2 (W.putObj D o) :=
  h.trans (Fr.of_grown (grownBy_putObj' W D o)) (fun k hk e => by cases e; omega)
theorem blk_putObj {W : World} {g D : Nat} {cs : List Value} {t : TypeId} (o : Obj) (h : Blk W g cs t) (hne : g ≠ D) : Blk (W.putObj D o) g cs t := (World.putObj_heap_other hne).trans h
end Go.Proofs.YtanbfplcldloeaaGreatDoor

/- Chapter 8: a walk over ranges: what the iterator promises. -/
namespace Go.Proofs.YtanbfplcldloeaaGreatDoor
open Go.RowKit Go.Shelf
attribute [local go_sem] Oper.semAt_some
/-- How far places have moved behind the first k. -/
def dF (xs : List Rng) (k : Nat) : Int := ((xs.take k).map fun x => x.n - x.o).sum
theorem dF_succ (xs : List Rng) (k : Nat) (hk : k < xs.length) : dF xs (k + 1) = dF xs k + (xs[k].n - xs[k].o) := by
  unfold dF
  rw [List.take_succ_eq_append_getElem hk, List.map_append, List.sum_append]
  simp
/-- Where the k-th begins behind the change. -/
def begF (xs : List Rng) (k : Nat) : Int := (xs[k]?.getD ⟨0, 0, 0⟩).a + dF xs k
/-- The first k have come. -/
def Upto {n : Nat} (pre : List (Fin n)) (k : Nat) : Prop := pre.map Fin.val = List.range k
theorem Upto.len {n : Nat} {pre : List (Fin n)} {k : Nat} (h : Upto pre k) : pre.length = k := by
  have := congrArg List.length h
  simpa using this
theorem Upto.succ {n : Nat} {pre : List (Fin n)} {k : Nat} (h : Upto pre k) (hk : k < n) : Upto (pre ++ [⟨k, hk⟩]) (k + 1) := by
  unfold Upto at h ⊢
  rw [List.map_append, h, List.range_succ]
  rfl
def okR (x : Rng) : Prop := 0 ≤ x.a ∧ x.a ≤ 65536 ∧ 0 ≤ x.o ∧ x.o ≤ 65536 ∧ 0 ≤ x.n ∧ x.n ≤ 65536
theorem rightF_ok : ∀ (l : List Rng) (last : Int), 0 ≤ last → rightF l last = true → ∀ x ∈ l, okR x
  | [], _, _, _ => by simp
  | x :: l, last, h0, h => by
    rw [rightF] at h
    split at h
    · simp at h
    · rename_i hb
      rw [badR_iff] at hb
      intro y hy
      rcases List.mem_cons.1 hy with rfl | hy
      · unfold okR; omega
      · exact rightF_ok l _ (by omega) h y hy
theorem rightP_ok {l : List Rng} (h : rightP l = true) : l.length ≤ 4 ∧ ∀ x ∈ l, okR x := by
  rw [rightP, Bool.and_eq_true, decide_eq_true_eq] at h
  exact ⟨h.2, rightF_ok l 0 (by omega) h.1⟩
theorem dF_bound (xs : List Rng) (hx : ∀ x ∈ xs, okR x) : ∀ k, k ≤ xs.length → -65536 * (k : Int) ≤ dF xs k ∧ dF xs k ≤ 65536 * (k : Int)
  | 0, _ => by simp [dF]
  | k + 1, hk => by
    have h1 := dF_bound xs hx k (by omega)
    have h2 := hx xs[k] (List.getElem_mem _)
    rw [dF_succ xs k (by omega)]
    unfold okR at h2
    omega
theorem fr_of_below {n₀ : Nat} {A B : World} (h : Below n₀ A B) : Fr (fun k => n₀ ≤ k) A B := ⟨h.os, h.tape, h.output, h.size, fun k _ hn => h.block k (by omega)⟩
/-- What a round keeps: what lay below n₀, and the blocks of one range. -/
def KpR (n₀ : Nat) (A B : World) : Prop := Below n₀ A B ∧ ∀ (k : Nat) (cs : Array Value), A.heap[k]? = some (.cells cs 135 (0, 0)) → cs.size = 3 → B.heap[k]? = some (.cells cs 135 (0, 0))
theorem KpR.refl (n₀ : Nat) (A : World) : KpR n₀ A A := ⟨Below.refl _ _, fun _ _ h _ => h⟩
theorem KpR.trans {n₀ : Nat} {A B C : World} (h : KpR n₀ A B) (k : KpR n₀ B C) : KpR n₀ A C := ⟨h.1.trans k.1, fun i cs hi hs => k.2 i cs (h.2 i cs hi hs) hs⟩
theorem KpR.drew (n₀ : Nat) (W : World) : KpR n₀ W W.drew := ⟨(Below.refl n₀ W).drew, fun _ _ h _ => h⟩
theorem KpR.putObj {n₀ : Nat} {w : World} (hn : n₀ ≤ w.heap.size) (W : World) (l : Nat) (o o' : Obj) (hl : w.heap.size ≤ l) (h : W.heap[l]? = some o) (hc : o.isCells = false) (hw : o.isWalk = false) : KpR n₀ W (W.putObj l o') :=
  ⟨belowK_b hn W l o o' hl h hc hw, fun k cs hk _ => by
    have hne : k ≠ l := by rintro rfl; rw [hk] at h; cases h; simp [Obj.isCells] at hc
    exact (World.putObj_heap_other hne).trans hk⟩
set_option maxRecDepth 100000 in
set_option maxHeartbeats 4000000 in
theorem each1_in (F : Fence) (n : Nat) (hf : F.fn 93) (hro : F.round = none) (hn : 1 ≤ n) (l Bs n₀ : Nat) (A : Option Addr) (c : Nat) (xs : List Rng) (hx : ∀ x ∈ xs, okR x) (h4 : xs.length ≤ 4) (J Jx : List (Fin xs.length) → World → Prop)
    (hY : ∀ pre x W, J pre W → pre.length < xs.length → YieldAt F (n - 1) Tryz.prog l #[.int .i64 (x.val : Int), .int .i64 (begF xs x.val)] W fun e W' =>
      (e = .returned (.bool true) ∧ J (pre ++ [x]) W' ∧ KpR n₀ W W') ∨ (e = .returned (.bool false) ∧ Jx (pre ++ [x]) W'))
    (W : World) (hJ : AbidesFrom W.heap.size J) (hBs : W.cell? ⟨Bs, 0, none⟩ = some (.slice A xs.length c)) (hr : Rd (fun k => n₀ ≤ k) W A (rngC xs)) (hn0 : n₀ ≤ W.heap.size) (h0 : J [] W) :
    CallsIn F n Tryz.prog 93 #[.func (.yield l) #[] #[], .pointer (some ⟨Bs, 0, none⟩)] W fun e W' => (∃ v, e = .returned v) ∧
      ((∃ ys, Upto ys xs.length ∧ J ys W') ∨ (∃ pre, (∃ k, k ≤ xs.length ∧ Upto pre k) ∧ Jx pre W')) := by
  refine callsIn_of_wp Tryz.func93 rfl hf ?_ hro
  simp only [Tryz.ntmps93, List.size_toArray, List.length_cons, List.length_nil, Nat.reduceAdd, Nat.reduceSub, Array.replicate_succ, Array.replicate_zero, List.push_toArray, List.append_toArray, List.nil_append, List.cons_append]
  have HRd := Lib.hid hr
  have HX := Lib.hid hx
  have HJ := Lib.hid hJ
  have HY := Lib.hid hY
  clear hr hx hJ hY
  gi_wp2
  gi_loopw [3, 8] (fun d i wr => ∃ (k : Nat) (pre : List (Fin xs.length)), k ≤ xs.length ∧ d = .int .i64 (dF xs k) ∧ i = .int .i64 k ∧ Hid (Upto pre k) ∧ Hid (J pre wr) ∧ Hid (Below n₀ W wr))
    (fun _ i _ => xs.length - (intOf i).toNat)
  case atStart => exact ⟨0, [], Nat.zero_le _, by simp [dF], rfl, (show Upto [] 0 from rfl), h0, Below.refl _ _⟩
  case round =>
    obtain ⟨k, pre, hk, rfl, rfl, HU, HJs, HB⟩ := hrel
    by_cases hlt : k < xs.length
    · have ht : ((k : Int) < (xs.length : Int)) := by omega
      obtain ⟨ad, rfl, _, hlb, q0', q⟩ := Rd.elt Rng.cells_len (by omega) (HRd.out.fr (fr_of_below HB.out) (fun _ _ h => h)) hlt
      have q1 := q 0 (by omega)
      have q2 := q 1 (by omega)
      clear q
      have hd1 := dF_bound xs HX.out k hk
      have hd2 := dF_bound xs HX.out (k + 1) (by omega)
      have hds := dF_succ xs k hlt
      have hox := HX.out xs[k] (List.getElem_mem _)
      have hbg : begF xs k = xs[k].a + dF xs k := by simp [begF, hlt]
      generalize xs[k] = x at q0' q1 q2 hds hox hbg
      simp only [Rng.cells, List.getElem?_cons_zero, List.getElem?_cons_succ, Nat.reduceAdd] at q0' q1 q2
      unfold okR at hox
      obtain ⟨fn, tmps, assign, body, hy, hR⟩ := HY.out pre ⟨k, hlt⟩ (wr.alloc (.cells #[.int .i64 x.a, .int .i64 x.o, .int .i64 x.n] 135)) (HJ.out _ wr _ none HJs.out (World.grownBy_alloc _ _ none) (by simp)) (by rw [HU.out.len]; exact hlt)
      dsimp only at hy
      rw [hbg] at hy
      have HR := Lib.hid hR
      have HDS := Lib.hid hds
      have HBG := Lib.hid hbg
      rw [hds] at hd2
      clear hR hds hbg
      generalize hdd : dF xs k = d at *
      gi_wp2
      refine HR.out.mono ?_
      rintro e W3 (⟨rfl, hJ3, hk3⟩ | ⟨rfl, hJx3⟩)
      · have hb : Blk W3 wr.heap.size [.int .i64 x.a, .int .i64 x.o, .int .i64 x.n] 135 := hk3.2 _ _ (Blk.new wr [.int .i64 x.a, .int .i64 x.o, .int .i64 x.n] 135) rfl
        have e1 := hb.cell 1
        have e2 := hb.cell 2
        have hlb3 := hb.lt
        simp only [List.getElem?_cons_zero, List.getElem?_cons_succ] at e1 e2
        have HB3 := Lib.hid (HB.out.trans (((Below.refl n₀ wr).alloc (Nat.le_trans hn0 HB.out.size) (.cells #[.int .i64 x.a, .int .i64 x.o, .int .i64 x.n] 135)).trans hk3.1))
        have HJ3 := Lib.hid hJ3
        clear hb hk3 hJ3 q0' q1 q2 hlb hy
        gi_wp2
        go_roundw
        case rel => exact ⟨k + 1, pre ++ [(⟨k, hlt⟩ : Fin xs.length)], by omega, by rw [HDS.out], by simp, Lib.hid (HU.out.succ hlt), HJ3, HB3⟩
        case measure => simp [intOf]; omega
      · gi_wp2
        refine bodyPost_ret (results_none rfl _ _ _) rfl ?_
        exact ⟨⟨_, rfl⟩, .inr ⟨_, ⟨k + 1, by omega, HU.out.succ hlt⟩, hJx3⟩⟩
    · have ht : ¬ ((k : Int) < (xs.length : Int)) := by omega
      obtain rfl : k = xs.length := by omega
      gi_wp2
      go_end0
      exact ⟨⟨_, rfl⟩, .inl ⟨_, HU.out, HJs.out⟩⟩
/-- **each(m) hands back a value that 'SeqStopsK'.** -/
theorem each_stops (F : Fence) (n : Nat) (hf : F.fn 93) (hro : F.round = none) (hn : 1 ≤ n) (Bs n₀ : Nat) (A : Option Addr) (c : Nat) (xs : List Rng) (hx : ∀ x ∈ xs, okR x) (h4 : xs.length ≤ 4) (w : World) (hBs : Bs < w.heap.size) (hn₀ : n₀ ≤ w.heap.size)
    (hc : w.cell? ⟨Bs, 0, none⟩ = some (.slice A xs.length c)) (hr : Rd (fun k => n₀ ≤ k) w A (rngC xs)) :
    SeqStopsK F n Tryz.prog 93 #[.pointer (some ⟨Bs, 0, none⟩)] (fun x : Fin xs.length => #[Value.int .i64 (x.val : Int), Value.int .i64 (begF xs x.val)]) (KpR n₀) (fun ys => Upto ys xs.length)
      (fun pre => ∃ k, k ≤ xs.length ∧ Upto pre k) xs.length w := fun l J Jx W hW hJ _ hY h0 =>
  each1_in F n hf hro hn l Bs n₀ A c xs hx h4 J Jx hY W hJ ((hW.cell (p := ⟨Bs, 0, none⟩) hBs).trans hc) (hr.fr (fr_of_below (hW.mono hn₀)) (fun _ _ h => h)) (Nat.le_trans hn₀ hW.size) h0
end Go.Proofs.YtanbfplcldloeaaGreatDoor

/- append onto a row of one's own: where the new row lies, and what else has turned: nothing, where it grows. -/
namespace Go.Proofs.YtanbfplcldloeaaGreatDoor
open Go.RowKit
theorem run_append_two {P : Program} (w : World) (t ty : TypeId) (base : Nat) (e : TypeId) (i : TypeInfo) (z : Value) (size bytes : Nat) (ht : P.underlying t = some (.slice e)) (hi : P.info? e = some i) (hz : i.zero = some z)
    (hsize : i.size = size) (hby : i.bytes = bytes) (hzs : z.cells.size = size) (hsz : 0 < size)
    (v : Value) (n : Nat) (xs : List Value) (hown : w.ownsRow base e size v n xs)
    (ad : Addr) (m c : Nat) (news : List Value) (hl : news.length = m * size) (hnews : ∀ j u, news[j]? = some u → w.cell? (ad.add j) = some u) (h1 : ∀ u ∈ news, u.oneCell' = true)
    (hm : 0 < m) (h63 : n + m ≤ maxLen) (hbytes : (n + m) * bytes ≤ 140737488355328) (hbase : base ≤ w.heap.size) :
    ∃ g cap w', (Builtin.append_ #[t, t] ty #[v, .slice (some ad) m c]).run P w = .ok (.slice (some ⟨g, 0, none⟩) (n + m) cap) w' ∧
      w'.ownsRow base e size (.slice (some ⟨g, 0, none⟩) (n + m) cap) (n + m) (xs ++ news) ∧
      ((w.grownBy w' none ∧ w.heap.size ≤ g) ∨ (∃ cap0, v = .slice (some ⟨g, 0, none⟩) n cap0 ∧ n + m ≤ cap0 ∧ w.grownBy w' (some g))) := by
  rcases hown.2 with ⟨rfl, rfl⟩ | ⟨g, cap, cur, rfl, hb, hg, hnc, hcm, hcs, htake⟩
  · obtain ⟨g, cap, w', hr, h2, h3, h4, h5⟩ := run_append_lies (P := P) w t ty w.heap.size e i z size bytes ht hi hz hsize hby hzs hsz (.slice none 0 0) 0 [] (World.ownsRow_nil w _ e size) ad m c news hl hnews h1 hm h63 hbytes (Nat.le_refl _) w.heap.size rfl
    have hxs : xs = [] := by have := hown.1; simpa using this
    subst hxs
    have hgl : w.heap.size ≤ g := (World.ownsRow.lt h2 g rfl).1
    exact ⟨g, cap, w', hr, h2.mono hbase, .inl ⟨h3, hgl⟩⟩
  · by_cases hroom : n + m ≤ cap
    · obtain ⟨w', hr, h2, h3⟩ := run_append_own_spare (P := P) w base t ty e i size ht hi hsize g n cap xs hown ad m c news hl hnews h1 hroom
      exact ⟨g, cap, w', hr, h2, .inr ⟨cap, rfl, hroom, h3⟩⟩
    · obtain ⟨v', w', hr, h2, h3⟩ := run_append_arg_grows (P := P) w t ty e i z size bytes ht hi hz hsize hby hzs hsz ⟨g, 0, none⟩ n cap xs hown.1 (fun j u hj => hown.cells (g := g) rfl j u hj) ad m c news hl hnews (by omega) h63 hbytes
      obtain ⟨g', cap', rfl, hg1, hg2⟩ := h2.form (by omega)
      exact ⟨g', cap', w', hr, h2.mono hbase, .inl ⟨h3, hg1⟩⟩
theorem wp_append_two {P : Program} (w : World) {o : Oper} {a : Act} {K : Act → World → Prop} {Q : Exit → Act → World → Prop} (s x : Operand) (t : TypeId)
    (ho : o.op = .call { callee := .builtin .append, args := #[s, x], argTypes := #[t, t] })
    (base : Nat) (e : TypeId) (i : TypeInfo) (z : Value) (size bytes : Nat) (ht : P.underlying t = some (.slice e)) (hi : P.info? e = some i) (hz : i.zero = some z)
    (hsize : i.size = size) (hby : i.bytes = bytes) (hzs : z.cells.size = size) (hsz : 0 < size)
    (v : Value) (n : Nat) (xs : List Value) (hs : a.eval s = v) (hown : w.ownsRow base e size v n xs)
    (ad : Addr) (m c : Nat) (news : List Value) (hx : a.eval x = .slice (some ad) m c) (hl : news.length = m * size) (hnews : ∀ j u, news[j]? = some u → w.cell? (ad.add j) = some u) (h1 : ∀ u ∈ news, u.oneCell' = true)
    (hm : 0 < m) (h63 : n + m ≤ maxLen) (hbytes : (n + m) * bytes ≤ 140737488355328) (hbase : base ≤ w.heap.size)
    (h : ∀ g cap w', w'.ownsRow base e size (.slice (some ⟨g, 0, none⟩) (n + m) cap) (n + m) (xs ++ news) → ((w.grownBy w' none ∧ w.heap.size ≤ g) ∨ (∃ cap0, v = .slice (some ⟨g, 0, none⟩) n cap0 ∧ n + m ≤ cap0 ∧ w.grownBy w' (some g))) → K (a.put o.dst (.slice (some ⟨g, 0, none⟩) (n + m) cap)) w') : o.wp P a w K Q := by
  obtain ⟨g, cap, w', hr, h2, h3⟩ := run_append_two (P := P) w t o.type base e i z size bytes ht hi hz hsize hby hzs hsz v n xs hown ad m c news hl hnews h1 hm h63 hbytes hbase
  unfold Oper.wp execOp
  simp only [ho, resolve, invoke, builtin, Sem.run_bind, Sem.run_pure, Result.andThen_ok, List.map_toArray, List.map_cons, List.map_nil, hs, hx, hr]
  exact h g cap w' h2 h3
theorem step_append_two {P : Program} (w : World) {ops : Array Oper} {E : Prop} {o : Oper} {a : Act} {K : Act → World → Prop} {Q : Exit → Act → World → Prop} (hgd : o.guard = none) (s x : Operand) (t : TypeId)
    (ho : o.op = .call { callee := .builtin .append, args := #[s, x], argTypes := #[t, t] })
    (base : Nat) (e : TypeId) (i : TypeInfo) (z : Value) (size bytes : Nat) (ht : P.underlying t = some (.slice e)) (hi : P.info? e = some i) (hz : i.zero = some z)
    (hsize : i.size = size) (hby : i.bytes = bytes) (hzs : z.cells.size = size) (hsz : 0 < size)
    (v : Value) (n : Nat) (xs : List Value) (hs : a.eval s = v) (hown : w.ownsRow base e size v n xs)
    (ad : Addr) (m c : Nat) (news : List Value) (hx : a.eval x = .slice (some ad) m c) (hl : news.length = m * size) (hnews : ∀ j u, news[j]? = some u → w.cell? (ad.add j) = some u) (h1 : ∀ u ∈ news, u.oneCell' = true)
    (hm : 0 < m) (h63 : n + m ≤ maxLen) (hbytes : (n + m) * bytes ≤ 140737488355328) (hbase : base ≤ w.heap.size)
    (h : ∀ g cap w', w'.ownsRow base e size (.slice (some ⟨g, 0, none⟩) (n + m) cap) (n + m) (xs ++ news) → ((w.grownBy w' none ∧ w.heap.size ≤ g) ∨ (∃ cap0, v = .slice (some ⟨g, 0, none⟩) n cap0 ∧ n + m ≤ cap0 ∧ w.grownBy w' (some g))) → K (a.put o.dst (.slice (some ⟨g, 0, none⟩) (n + m) cap)) w') : if Region.wanted o (yielded ops a.tmps) = true then Oper.wp P o a w K Q else E := by
  rw [if_pos (by simp [Region.wanted, hgd])]
  exact wp_append_two w s x t ho base e i z size bytes ht hi hz hsize hby hzs hsz v n xs hs hown ad m c news hx hl hnews h1 hm h63 hbytes hbase h
theorem KpR.alloc {n₀ : Nat} {W : World} (hn : n₀ ≤ W.heap.size) (o : Obj) : KpR n₀ W (W.alloc o) :=
  ⟨(Below.refl n₀ W).alloc hn o, fun k cs h _ => (Below.heap_alloc _ _ _ (lt_of_blk h)).trans h⟩
/-- A store into a block that is no range. -/
theorem KpR.setCell {n₀ : Nat} {W : World} {g i : Nat} {cs : List Value} {t : TypeId} (h : Blk W g cs t) (hn : n₀ ≤ g) (ht : t ≠ 135) (v : Value) : KpR n₀ W (W.setCell ⟨g, i, none⟩ v) :=
  ⟨(Below.refl n₀ W).setCell (p := ⟨g, i, none⟩) hn v, fun k cs' hk _ => by
    have hne : k ≠ g := by
      rintro rfl
      have h' : W.heap[k]? = some (.cells cs.toArray t (0, 0)) := h
      rw [hk] at h'
      simp only [Option.some.injEq, Obj.cells.injEq] at h'
      exact ht h'.2.1.symm
    exact (Below.heap_setCell W ⟨g, i, none⟩ v k hne).trans hk⟩
/-- An append onto a row of ranges: rows of one range stay. -/
theorem KpR.append {n₀ base n m g : Nat} {w w' : World} {v : Value} {xs : List Value} (hn : n₀ ≤ base) (hnw : n₀ ≤ w.heap.size) (hm : 0 < m) (h0 : n = 0 → v = .slice none 0 0) (hown : w.ownsRow base 135 3 v n xs)
    (h : (w.grownBy w' none ∧ w.heap.size ≤ g) ∨ (∃ cap0, v = .slice (some ⟨g, 0, none⟩) n cap0 ∧ n + m ≤ cap0 ∧ w.grownBy w' (some g))) : KpR n₀ w w' := by
  rcases h with ⟨hg, _⟩ | ⟨cap0, rfl, hroom, hg⟩
  · exact ⟨(Below.refl n₀ w).grown hg hnw (fun k e => by cases e), fun k cs hk _ => (hg.block k (lt_of_blk hk) (by simp)).trans hk⟩
  · have hb := (World.ownsRow.lt hown g rfl).1
    refine ⟨(Below.refl n₀ w).grown hg hnw (fun k e => by cases e; omega), fun k cs hk hs => ?_⟩
    have hne : k ≠ g := by
      rintro rfl
      rcases hown.2 with ⟨h1, _⟩ | ⟨g', cap, cur, h1, _, h3, _, _, h5, _⟩
      · cases h1
      · simp only [Value.slice.injEq, Option.some.injEq, Addr.mk.injEq, and_true, true_and] at h1
        obtain ⟨rfl, rfl⟩ := h1
        rw [hk] at h3
        simp only [Option.some.injEq, Obj.cells.injEq] at h3
        rw [← h3.1, hs] at h5
        rcases Nat.eq_zero_or_pos n with rfl | hp
        · cases h0 rfl
        · omega
    exact (hg.block k (lt_of_blk hk) (fun e => hne (by cases e; rfl))).trans hk
end Go.Proofs.YtanbfplcldloeaaGreatDoor

/- Chapter 7: the program's 'Check'. -/
namespace Go.Proofs.YtanbfplcldloeaaGreatDoor
open Go.RowKit
theorem infoL : (Tryz.prog.info? 129).map (fun i => (i.zero, i.size, i.bytes)) = some (some (.agg #[.string ⟨#[]⟩, .string ⟨#[]⟩, .bool false, .int .i64 0, .int .i64 0, .int .i64 0, .bool false, .int .i64 0, .string ⟨#[]⟩, .slice none 0 0, .slice none 0 0]), 11, 144) := by kernel_rfl
set_option maxRecDepth 100000 in
set_option maxHeartbeats 8000000 in
theorem schcheck_any (M M' : Nat → Prop) (p : Nat) (rs : List RuleM) (g : List Grp) (hok : SchOk rs g) (v : Value) (l : List Tok) (w : World) (hs0 : Sch M w p rs g) (hd0 : Doc M' w v l) (hl : l.length ≤ 9223372036854775807) :
    Calls Tryz.prog 25 #[.pointer (some ⟨p, 0, none⟩), v] w fun e w' => e = .returned (.tuple #[.int .i64 (checkF rs g l).1, .int .i64 (checkF rs g l).2]) ∧ Fr Nob w w' := by
  have hs : Sch (fun k => w.heap.size ≤ k) w p rs g := hs0.bound.mono (fun _ h => .inr h)
  have hd : Doc (fun k => w.heap.size ≤ k) w v l := hd0.bound.mono (fun _ h => .inr h)
  have hfc := fun W h => flatcheck_any (fun k => w.heap.size ≤ k) l v W h hl
  obtain ⟨A, c, rfl, hc, hr⟩ := id hd
  obtain ⟨r, hrr⟩ : ∃ r, checkF rs g l = r := ⟨_, rfl⟩
  rw [hrr]
  unfold checkF at hrr
  have HS := Lib.hid hs
  have HD := Lib.hid hd
  have HFC := Lib.hid hfc
  have HR := Lib.hid hrr
  have HRd := Lib.hid hr
  have HOK := Lib.hid hok
  have hfew := hs.few
  clear hs hd hs0 hd0 hfc hrr hr hok
  go_enter Tryz.func25, Tryz.ntmps25
  go_wp2_with fail
  refine (schnone_any _ p rs g w HS.out).mono ?_
  rintro e w1 ⟨rfl, rfl⟩
  go_wp2_with fail
  refine (HFC.out w HD.out).mono ?_
  rintro e w1 ⟨rfl, hF1⟩
  have HF1 := Lib.hid hF1
  clear hF1 HFC
  by_cases hfl : (flatCheck l).2 = 0
  · have hlen : l.length ≤ 2048 := by
      rcases Nat.lt_or_ge 2048 l.length with h | h
      · rw [flatCheck, if_pos h] at hfl; cases hfl
      · exact h
    have hff : flatOk l 0 := flatOk_of l 0 0 (by rw [flatCheck, if_neg (by omega)] at hfl; exact hfl)
    obtain ⟨r0, rs', hrs⟩ : ∃ r0 rs', rs = r0 :: rs' := by
      cases rs with
      | nil => simp at hfew
      | cons a b => exact ⟨a, b, rfl⟩
    have hck : chkF rs g (r0, []) [] l 0 = r := by
      have := HR.out
      rw [if_neg (by simpa using hfl), hrs] at this
      rw [hrs]; exact this
    have HFF := Lib.hid hff
    have HCK := Lib.hid hck
    obtain ⟨La, lc, s1, s2, s3⟩ := (HS.out.fr0 HF1.out).row
    obtain ⟨ad, hA, hna, hla, q0, q⟩ := Rd.elt RuleM.cells_len (by omega) s3 hfew.1
    injection hA with hA
    subst hA
    have hls := cell_lt s1
    have hr0 : rs[0]'hfew.1 = r0 := by simp [hrs]
    rw [hr0] at q0 q
    have hrm : r0 ∈ rs := by rw [hrs]; simp
    have q1 := q 0 (by omega)
    have q2 := q 1 (by omega)
    have q3 := q 2 (by omega)
    have q4 := q 3 (by omega)
    have q5 := q 4 (by omega)
    have q6 := q 5 (by omega)
    have q7 := q 6 (by omega)
    have q8 := q 7 (by omega)
    have q9 := q 8 (by omega)
    simp only [RuleM.cells, List.getElem?_cons_zero, List.getElem?_cons_succ, Nat.reduceAdd, Nat.zero_mul, show La.add 0 = La from rfl] at q0 q1 q2 q3 q4 q5 q6 q7 q8 q9
    have HRM := Lib.hid (And.intro hrm (HOK.out.first r0 (by rw [hrs]; rfl)))
    rw [hfl]
    clear q s3 hr0 hfl hff hck HR hrs hrm
    go_wp2_with fail
    have hown : (w1.alloc (.cells #[.string r0.name, .string r0.expr, .bool r0.leaf, .int .i64 r0.marks, .int .i64 r0.least, .int .i64 r0.most, .bool r0.lines, .int .i64 r0.e.k, .string r0.e.name, .slice r0.A r0.e.l.length r0.c, .slice none 0 0] 129)).ownsRow w.heap.size 129 11 (.slice (some ⟨w1.heap.size, 0, none⟩) 1 1) 1 ((⟨r0, .slice none 0 0, []⟩ : Lv).cells) := World.ownsRow_lit w1 _ 1 HF1.out.size (by unfold maxLen; omega) rfl
    have hlv : LvI w.heap.size (w1.alloc (.cells #[.string r0.name, .string r0.expr, .bool r0.leaf, .int .i64 r0.marks, .int .i64 r0.least, .int .i64 r0.most, .bool r0.lines, .int .i64 r0.e.k, .string r0.e.name, .slice r0.A r0.e.l.length r0.c, .slice none 0 0] 129)) (.slice (some ⟨w1.heap.size, 0, none⟩) 1 1) ([] ++ [⟨r0, .slice none 0 0, []⟩]) :=
      ⟨by simpa using hown, fun x hx => by rw [show x = ⟨r0, .slice none 0 0, []⟩ by simpa using hx]; exact OwnI.nil _ _, by simp⟩
    have HLV := Lib.hid hlv
    have hfa : Fr Nob w (w1.alloc (.cells #[.string r0.name, .string r0.expr, .bool r0.leaf, .int .i64 r0.marks, .int .i64 r0.least, .int .i64 r0.most, .bool r0.lines, .int .i64 r0.e.k, .string r0.e.name, .slice r0.A r0.e.l.length r0.c, .slice none 0 0] 129)) := HF1.out.alloc _
    have HFA := Lib.hid hfa
    clear hown hlv hfa q0 q1 q2 q3 q4 q5 q6 q7 q8 q9 s1 hls hla hna s2
    generalize (w1.alloc (.cells #[.string r0.name, .string r0.expr, .bool r0.leaf, .int .i64 r0.marks, .int .i64 r0.least, .int .i64 r0.most, .bool r0.lines, .int .i64 r0.e.k, .string r0.e.name, .slice r0.A r0.e.l.length r0.c, .slice none 0 0] 129)) = wa at HLV HFA ⊢
    go_loopg [9, 34] (l.length) (fun n a i wr => ∃ (k : Nat) (st : List Lv) (top : Lv) (G cap : Nat), n = l.length - k ∧ k ≤ l.length ∧ st.length ≤ k ∧ a = .slice (some ⟨G, 0, none⟩) (st.length + 1) cap ∧ i = .int .i64 k ∧ Hid (LvI w.heap.size wr (.slice (some ⟨G, 0, none⟩) (st ++ [top]).length cap) (st ++ [top])) ∧ Hid (Fr Nob w wr) ∧ Hid (flatOk (l.drop k) st.length) ∧ Hid (chkF rs g (top.r, top.l) (st.reverse.map (fun x => (x.r, x.l))) (l.drop k) k = r) ∧ Hid (∀ x ∈ st ++ [top], x.r ∈ rs ∧ x.r.leaf = false ∧ x.l.length ≤ k))
    case atStart => exact ⟨0, [], ⟨r0, .slice none 0 0, []⟩, _, _, rfl, Nat.zero_le _, Nat.le_refl _, rfl, rfl, HLV.out, HFA.out, HFF.out, HCK.out, fun x hx => by rw [show x = ⟨r0, .slice none 0 0, []⟩ by simpa using hx]; exact ⟨HRM.out.1, HRM.out.2, Nat.le_refl _⟩⟩
    case round =>
      obtain ⟨k, st, ⟨tr, tv, tl⟩, G, cap, rfl, hk, hst, rfl, rfl, HL, HF, HFO, HC, HRU⟩ := hrel
      have htop := HRU.out ⟨tr, tv, tl⟩ (by simp)
      obtain ⟨hre, hrok⟩ := HOK.out.rep tr htop.1 htop.2.1
      have hmk := HOK.out.marks tr htop.1
      have htl : tl.length ≤ k := htop.2.2
      obtain ⟨WA, wc, hv, hwc, _⟩ := Rd.of_own (M := Nob) (HL.out.words ⟨tr, tv, tl⟩ (by simp)) (fun _ _ h => h)
      simp only at hv
      subst hv
      have HRE := Lib.hid hre
      have HRK := Lib.hid hrok
      have HMK := Lib.hid hmk
      have HHR := Lib.hid htop
      clear hre hrok hmk htop
      clear HLV HFA HFF HCK HRM HF1
      by_cases hlt : k < l.length
      · have ht : ((k : Int) < (l.length : Int)) := by omega
        obtain ⟨ad, rfl, _, hlb, q0, q⟩ := Rd.elt Tok.cells_len (by omega) (HRd.out.fr HF.out (fun _ _ h => h.elim)) hlt
        have hdr : l.drop k = l[k] :: l.drop (k + 1) := List.drop_eq_getElem_cons hlt
        generalize l[k] = x at q0 q hdr
        have q1 := q 0 (by omega)
        have q2 := q 1 (by omega)
        have q3 := q 2 (by omega)
        simp only [Tok.cells, List.getElem?_cons_zero, List.getElem?_cons_succ, Nat.reduceAdd] at q0 q1 q2 q3
        have hfo := HFO.out
        have hcc := HC.out
        rw [hdr, flatOk] at hfo
        rw [hdr] at hcc
        obtain ⟨f1, f2, f3, f4⟩ := hfo
        have HFO2 := Lib.hid f4
        have HCC := Lib.hid hcc
        have HXO := Lib.hid f1
        have HF23 := Lib.hid (And.intro f2 f3)
        clear hdr q hcc HC HFO f1 f2 f3 f4
        by_cases x2 : x.k = 2
        · have b2 : (x.k == 2) = true := by simpa using x2
          obtain ⟨wt, hwt⟩ : ∃ wt, wr.alloc (.cells #[.int .i64 x.k, .int .i64 x.t, .int .i64 x.n, .int .i64 x.m] 65) = wt := ⟨_, rfl⟩
          have hft : Fr Nob wr wt := hwt ▸ (Fr.refl _ _).alloc _
          have hlt2 := HL.out.fr hft
          have htc := (LvI.top hlt2).1
          obtain ⟨gv, g1, g2⟩ := (HS.out.fr0 (HF.out.same hft)).grps
          obtain ⟨GA, gc, gcss, rfl, _, _⟩ := id g2
          have e7 := htc 7 (by omega)
          have e8 := htc 8 (by omega)
          have e9 := htc 9 (by omega)
          have e10 := htc 10 (by omega)
          have le7 := cell_lt e7
          have lg1 := cell_lt g1
          simp only [Lv.cells, RuleM.cells, List.cons_append, List.nil_append, List.getElem?_cons_zero, List.getElem?_cons_succ] at e7 e8 e9 e10
          have HWT := Lib.hid hwt
          have HFT := Lib.hid (HF.out.same hft)
          have HLT := Lib.hid hlt2
          have HGV := Lib.hid g2
          clear hwt hft hlt2 htc g2
          have X2 := Lib.hid x2
          clear x2
          go_wp2_with fail
          rw [HWT.out]
          go_still_tail 13, (by kernel_rfl)
          change wpList _ _ _ _ _ wt.drew
          generalize hwd : wt.drew = wd
          have hFd : Fr Nob wt wd := by subst hwd; exact (Fr.refl _ _).drew
          have HFD := Lib.hid (HFT.out.same hFd)
          have HLD := Lib.hid (HLT.out.fr hFd)
          have hRw := Rd.of_own (M := Nob) (HLD.out.words ⟨tr, .slice WA tl.length wc, tl⟩ (by simp)) (fun _ _ h => h)
          obtain ⟨WA', wc', hv, _, hRw⟩ := hRw
          simp only [Value.slice.injEq, true_and] at hv
          obtain ⟨rfl, rfl⟩ := hv
          have hex := (HS.out.fr0 HFD.out).exprs tr HHR.out.1
          rw [HRE.out] at hex
          have hec : tr.ec = [.int .i64 tr.e.k, .string tr.e.name, .slice tr.A tr.e.l.length tr.c] := rfl
          rw [hec] at hex
          have hacc := accepts_any g (starR tr) (nmR tr) HRK.out _ (.slice GA g.length gc) tl WA wc wd (ERep.mono (fun _ h => h.elim) _ _ hex) ((HGV.out.fr0 hFd).mono (fun _ h => h.elim)) hRw (by omega)
          have HACC := Lib.hid hacc
          clear hFd hwd hRw hex hec hacc e7 e8 e9 e10 le7 lg1 g1
          go_wp2_with fail
          refine HACC.out.mono ?_
          rintro e w5 ⟨rfl, hF5⟩
          have HF5 := Lib.hid (HFD.out.same hF5)
          have HL5 := Lib.hid (HLD.out.fr hF5)
          have hcc := HCC.out
          rw [chkF_cons, if_pos X2.out] at hcc
          clear hF5 HCC
          have htyp : typesF g (nmR tr) = typR g tr := rfl
          rw [htyp]
          cases ha : accB (typR g tr) (starR tr) tl
          · have HE := Lib.hid (show ((k : Int), (9 : Int)) = r by rw [← hcc, ha]; rfl)
            clear ha hcc
            go_wp2_with fail
            go_ret2
            exact ⟨by rw [← HE.out]; rfl, HF5.out⟩
          · rcases List.eq_nil_or_concat st with hnil | ⟨st2, t2, hst2⟩
            · exact absurd ⟨X2.out, by rw [hnil]; rfl⟩ HF23.out.1
            · have hst2' : st = st2 ++ [t2] := by rw [hst2, List.concat_eq_append]
              clear hst2
              subst hst2'
              have hl2 : (st2 ++ [t2]).length = st2.length + 1 := by simp
              have HE := Lib.hid (show chkF rs g (t2.r, t2.l) (st2.reverse.map (fun x => (x.r, x.l))) (l.drop (k + 1)) (k + 1) = r by
                rw [← hcc, ha, List.reverse_append]; rfl)
              have HP := Lib.hid (LvI.pop HL5.out)
              have HFO3 := Lib.hid (show flatOk (l.drop (k + 1)) st2.length by
                have := HFO2.out
                rw [if_neg (by rw [X2.out]; omega), if_pos X2.out, hl2] at this
                exact this)
              have hcap := (LvI.form HL5.out (by simp))
              obtain ⟨G2, cap2, hcp, _, _, hcap⟩ := hcap
              simp only [Value.slice.injEq, true_and] at hcp
              rw [← hcp.2] at hcap
              clear hcp
              have h3 : (st2 ++ [t2] ++ [(⟨tr, .slice WA tl.length wc, tl⟩ : Lv)]).length = st2.length + 2 := by simp
              rw [h3] at hcap
              rw [hl2] at hst
              simp only [hl2]
              have hcc1 : (st2.length : Int) + 1 + 1 - 1 = ((st2.length + 1 : Nat) : Int) := by omega
              clear ha hcc
              go_wp2_with fail
              go_roundg (l.length - (k + 1))
              case measure => omega
              case rel => exact ⟨k + 1, st2, t2, G, cap, rfl, by omega, by omega, rfl, by first | rfl | go_num, HP.out, HF5.out, HFO3.out, HE.out, fun y hy => ⟨(HRU.out y (List.mem_append_left _ hy)).1, (HRU.out y (List.mem_append_left _ hy)).2.1, Nat.le_succ_of_le (HRU.out y (List.mem_append_left _ hy)).2.2⟩⟩
        · obtain ⟨wt, hwt⟩ : ∃ wt, wr.alloc (.cells #[.int .i64 x.k, .int .i64 x.t, .int .i64 x.n, .int .i64 x.m] 65) = wt := ⟨_, rfl⟩
          have hft : Fr Nob wr wt := hwt ▸ (Fr.refl _ _).alloc _
          have hbt : Blk wt wr.heap.size [.int .i64 x.k, .int .i64 x.t, .int .i64 x.n, .int .i64 x.m] 65 := hwt ▸ Blk.new wr _ _
          have hlt2 := HL.out.fr hft
          have htc := (LvI.top hlt2).1
          have htf := (LvI.top hlt2).2 (st.length * 11 + 10)
          have e10 := htc 10 (by omega)
          have le10 := cell_lt e10
          have d1 := hbt.cell 1
          have ld1 := hbt.lt
          simp only [Lv.cells, RuleM.cells, List.cons_append, List.nil_append, List.getElem?_cons_zero, List.getElem?_cons_succ] at e10 d1
          have hxw : wt.ownsRow w.heap.size 3 1 (.slice WA tl.length wc) tl.length (intC tl) := hlt2.words ⟨tr, .slice WA tl.length wc, tl⟩ (by simp)
          have b2 : (x.k == 2) = false := by simpa using x2
          have HWT := Lib.hid hwt
          have HFT := Lib.hid (HF.out.same hft)
          have HLT := Lib.hid hlt2
          have HBT := Lib.hid hbt
          have X2 := Lib.hid x2
          clear hwt hft hlt2 htc hbt x2
          go_upto_region 16 with (fail)
          rw [HWT.out]
          obtain ⟨T, hT⟩ : ∃ T, wr.heap.size = T := ⟨_, rfl⟩
          rw [hT] at d1 ld1 HBT ⊢
          go_cut [76] (fun s76 wx => ∃ v' : Value, s76 = v' ∧ Hid (LvI w.heap.size wx (.slice (some ⟨G, 0, none⟩) (st ++ [(⟨tr, v', tl ++ [x.t]⟩ : Lv)]).length cap) (st ++ [⟨tr, v', tl ++ [x.t]⟩])) ∧ Hid (Fr Nob w wx) ∧ Hid (Blk wx T [.int .i64 x.k, .int .i64 x.t, .int .i64 x.n, .int .i64 x.m] 65))
          case first =>
            have hsz := HFT.out.size
            have hk16 : ∀ w2 : World, (wt.alloc (.cells #[.int .i64 x.t] 3)).drew.grownBy w2 (Value.slice WA tl.length wc).ownBlock → w2.cell? ⟨G, st.length * 11 + 10, none⟩ = some (.slice WA tl.length wc) ∧ w2.frozen? ⟨G, st.length * 11 + 10, none⟩ = false ∧ G < w2.heap.size := fun w2 h => LvI.word_cell HLT.out (((Fr.refl Nob wt).alloc _).drew) h
            have HK16 := Lib.hid hk16
            have HXW := Lib.hid hxw
            obtain ⟨i0, hi, hz0, hz1, hz2⟩ := info_parts infoI
            clear hk16
            go_region_law (refine step_append_lies _ (by rfl) _ _ _ (by rfl) w.heap.size 3 i0 _ 1 8 Tryz.underlying44 hi hz0 hz1 hz2 rfl (by decide) (.slice WA tl.length wc) tl.length (intC tl) (by rfl) (World.ownsRow.alloc (w := wt.drew) HXW.out _) ⟨wt.heap.size, 0, none⟩ 1 1 [.int .i64 x.t] (by rfl) rfl (new_cells wt.drew _ _) (by simp [Value.oneCell']) (by omega) (by unfold maxLen; omega) (by omega) (by simp; omega) _ rfl ?_; intro gg cap2 w2 hown2 hgr2 hat2 hlt2; obtain ⟨k1, k2, k3⟩ := HK16.out w2 hgr2)
            all_goals
              have hw := LvI.word (x := ⟨tr, .slice WA tl.length wc, tl⟩) (v' := .slice (some ⟨gg, 0, none⟩) (tl.length + 1) cap2) (t := x.t) HLT.out hsz ((Fr.refl Nob wt).alloc (.cells #[.int .i64 x.t] 3)).drew hown2 hgr2 (hat2.imp id (fun h => by rw [h]; rfl))
              have HW := Lib.hid hw
              clear hw hown2 hgr2 hat2 k1 k2 e10 d1
              go_wp2_with fail
              go_meet
              refine ⟨_, rfl, HW.out.1, (HFT.out.trans (M := Nob) HW.out.2 (fun j hj h => ?_)), HBT.out.fr HW.out.2 (fun h => ?_)⟩
              · rcases h with h | h
                · have := (World.ownsRow.lt HL.out.own G rfl).1; omega
                · have := (World.ownsRow.lt HXW.out j h).1; omega
              · have hGl := (World.ownsRow.lt HL.out.own G rfl).2
                rcases h with h | h
                · omega
                · have := (World.ownsRow.lt (HL.out.words ⟨tr, .slice WA tl.length wc, tl⟩ (by simp)) T h).2
                  omega
          case rest =>
            obtain ⟨v', rfl, HL2, HF2, HB2⟩ := hcut
            obtain ⟨wx, hwx⟩ : ∃ wx, wx = wc := ⟨_, rfl⟩
            subst hwx
            obtain ⟨WB, wb, hv, _, _⟩ := Rd.of_own (M := Nob) (HL2.out.words ⟨tr, u76, tl ++ [x.t]⟩ (by simp)) (fun _ _ h => h)
            simp only at hv
            have hlen : (tl ++ [x.t]).length = tl.length + 1 := by simp
            rw [hlen] at hv
            subst hv
            have HLEN := Lib.hid hlen
            clear hlen
            obtain ⟨gv, g1, g2⟩ := (HS.out.fr0 HF2.out).grps
            obtain ⟨GA, gc, gcss, rfl, _, _⟩ := id g2
            have K0 : ∀ W, Fr Nob wx W → (fun W => W.cell? ⟨T, 0, none⟩ = some (.int .i64 x.k) ∧ W.cell? ⟨T, 1, none⟩ = some (.int .i64 x.t) ∧ W.cell? ⟨T, 2, none⟩ = some (.int .i64 x.n) ∧ W.cell? ⟨T, 3, none⟩ = some (.int .i64 x.m) ∧ W.cell? ⟨G, st.length * 11 + 7, none⟩ = some (.int .i64 tr.e.k) ∧ W.cell? ⟨G, st.length * 11 + 8, none⟩ = some (.string tr.e.name) ∧ W.cell? ⟨G, st.length * 11 + 9, none⟩ = some (.slice tr.A tr.e.l.length tr.c) ∧ W.cell? ⟨G, st.length * 11 + 10, none⟩ = some (.slice WB (tl.length + 1) wb) ∧ W.cell? ⟨p, 1, none⟩ = some (.slice GA g.length gc) ∧ Hid (Fr Nob wx W)) W := fun W hF => by
              have htc := (LvI.top (HL2.out.fr hF)).1
              have hb := HB2.out.fr hF (fun h => h)
              exact ⟨hb.cell 0, hb.cell 1, hb.cell 2, hb.cell 3, htc 7 (by omega), htc 8 (by omega), htc 9 (by omega), htc 10 (by omega), hF.cell0 g1, hF⟩
            have K1 : ∀ W, Hid (Fr Nob wx W) → Calls Tryz.prog 56 #[.pointer (some ⟨G, st.length * 11, none⟩), .pointer (some ⟨p, 0, none⟩), .agg #[.int .i64 x.k, .int .i64 x.t, .int .i64 x.n, .int .i64 x.m]] W fun e w' => e = .returned (.bool (mayB rs tr x)) ∧ Hid (Fr Nob wx w') := fun W hF => by
              have htc := (LvI.top (HL2.out.fr hF.out)).1
              have hm : Calls Tryz.prog 56 #[.pointer (some ⟨G, st.length * 11, none⟩), .pointer (some ⟨p, 0, none⟩), .agg x.cells.toArray] W fun e w' => e = .returned (.bool (mayB rs tr x)) ∧ Fr Nob W w' := by
                by_cases hx0 : x.k = 0
                · exact maytext_any p rs tr HMK.out x HXO.out hx0 G (st.length * 11) W (htc 3 (by omega)) (htc 6 (by omega))
                · exact maytype_any _ p rs g tr x hx0 G (st.length * 11) W (HS.out.fr0 (HF2.out.same hF.out))
              exact hm.mono fun e w' h => ⟨h.1, hF.out.same h.2⟩
            have K2 : ∀ W, Hid (Fr Nob wx W) → Calls Tryz.prog 54 #[.agg #[.int .i64 tr.e.k, .string tr.e.name, .slice tr.A tr.e.l.length tr.c], .slice GA g.length gc, .slice WB (tl.length + 1) wb] W fun e w' => e = .returned (.int .i64 (prefN (typR g tr) (tl ++ [x.t]))) ∧ Hid (Fr Nob wx w') := fun W hF => by
              have hRw := Rd.of_own (M := Nob) ((HL2.out.fr hF.out).words ⟨tr, .slice WB (tl.length + 1) wb, tl ++ [x.t]⟩ (by simp)) (fun _ _ h => h)
              obtain ⟨WA', wc', hv, _, hRw⟩ := hRw
              simp only [Value.slice.injEq] at hv
              obtain ⟨rfl, _, rfl⟩ := hv
              have hex := (HS.out.fr0 (HF2.out.same hF.out)).exprs tr HHR.out.1
              rw [HRE.out] at hex
              have hb := begins_any g (starR tr) (nmR tr) HRK.out _ (.slice GA g.length gc) (tl ++ [x.t]) WB wb W (ERep.mono (fun _ h => h.elim) _ _ hex) ((g2.fr0 hF.out).mono (fun _ h => h.elim)) hRw (by rw [HLEN.out]; omega)
              rw [HLEN.out] at hb
              exact hb.mono fun e w' h => ⟨h.1, hF.out.same h.2⟩
            have hcc := HCC.out
            rw [chkF_cons, if_neg X2.out] at hcc
            simp only at hcc
            have HK0 := Lib.hid K0
            have HG2 := Lib.hid g2
            clear K0 g1 g2 HCC HLT HBT HFT HWT
            have HFn : Hid (Fr Nob wx wx.drew) := (Fr.refl Nob wx).drew
            cases hmb : mayB rs tr x
            · rw [hmb] at K1
              have HE := Lib.hid (show ((k : Int), (9 : Int)) = r by rw [← hcc, if_pos hmb])
              have HK1 := Lib.hid K1
              have HK2 := Lib.hid K2
              clear K1 K2 hcc hmb
              have K5 : ∀ W, Fr Nob wx W → (fun W : World => W.cell? ⟨T, 0, none⟩ = some (.int .i64 x.k) ∧ W.cell? ⟨T, 1, none⟩ = some (.int .i64 x.t) ∧ W.cell? ⟨T, 2, none⟩ = some (.int .i64 x.n) ∧ W.cell? ⟨T, 3, none⟩ = some (.int .i64 x.m) ∧ Hid (Fr Nob wx W)) W := fun W hF => by
                obtain ⟨z0, z1, z2, z3, _, _, _, _, _, z9⟩ := HK0.out W hF
                exact ⟨z0, z1, z2, z3, z9⟩
              have HK5 := Lib.hid K5
              clear K5
              go_wp2_with fail
              refine wp_region_held_drew (S := fun W : World => W.cell? ⟨T, 0, none⟩ = some (.int .i64 x.k) ∧ W.cell? ⟨T, 1, none⟩ = some (.int .i64 x.t) ∧ W.cell? ⟨T, 2, none⟩ = some (.int .i64 x.n) ∧ W.cell? ⟨T, 3, none⟩ = some (.int .i64 x.m) ∧ Hid (Fr Nob wx W)) (by kernel_rfl) (HK5.out _ HFn) (fun hHeld => ?_)
              refine wpAnyH_take (i := 0) (v := .pointer (some ⟨G, st.length * 11, none⟩)) rfl (by kernel_rfl) (by kernel_rfl) (by kernel_rfl) (fun _ _ _ h => h) (Or.inl ⟨by rfl, fun w hSw => by (try dsimp only at hSw); go_simp⟩) (by assumption) ?_
              try simp only [List.getElem_toArray, List.getElem_cons_succ, List.getElem_cons_zero, Act.put, List.setIfInBounds_toArray, List.set_cons_zero, List.set_cons_succ]
              refine wpAnyH_take (i := 1) (v := .pointer (some ⟨p, 0, none⟩)) rfl (by kernel_rfl) (by kernel_rfl) (by kernel_rfl) (fun _ _ _ h => h) (Or.inl ⟨by rfl, fun w hSw => by (try dsimp only at hSw); go_simp⟩) (by assumption) ?_
              try simp only [List.getElem_toArray, List.getElem_cons_succ, List.getElem_cons_zero, Act.put, List.setIfInBounds_toArray, List.set_cons_zero, List.set_cons_succ]
              refine wpAnyH_take (i := 2) (v := .agg #[.int .i64 x.k, .int .i64 x.t, .int .i64 x.n, .int .i64 x.m]) rfl (by kernel_rfl) (by kernel_rfl) (by kernel_rfl) (fun _ _ _ h => h) (Or.inl ⟨by rfl, fun w hSw => by (try dsimp only at hSw); go_simp⟩) (by assumption) ?_
              try simp only [List.getElem_toArray, List.getElem_cons_succ, List.getElem_cons_zero, Act.put, List.setIfInBounds_toArray, List.set_cons_zero, List.set_cons_succ]
              refine wpAnyH_ready (rs := [3]) (by kernel_rfl) (by simp) ?_
              refine AllReadyH.cons (o := _) rfl (fun K hK => ?_) AllReadyH.nil
              go_simp
              refine (HK1.out _ HFn).mono ?_
              rintro e w' ⟨rfl, hFF⟩
              go_wp2_with fail
              refine hK.out _ _ (HK5.out _ hFF) (fun hHeld2 => ?_)
              clear hK K hHeld
              try simp only [List.getElem_toArray, List.getElem_cons_succ, List.getElem_cons_zero, Act.put, List.setIfInBounds_toArray, List.set_cons_zero, List.set_cons_succ]
              refine wpAnyH_take (i := 4) (v := .bool true) rfl (by kernel_rfl) (by kernel_rfl) (by kernel_rfl) (fun _ _ _ h => h) (Or.inl ⟨by rfl, fun w hSw => by (try dsimp only at hSw); go_simp⟩) (by assumption) ?_
              try simp only [List.getElem_toArray, List.getElem_cons_succ, List.getElem_cons_zero, Act.put, List.setIfInBounds_toArray, List.set_cons_zero, List.set_cons_succ]
              refine wpAnyH_take (i := 5) (v := .bool true) rfl (by kernel_rfl) (by kernel_rfl) (by kernel_rfl) (fun _ _ _ h => h) (Or.inl ⟨by rfl, fun w hSw => by (try dsimp only at hSw); go_simp⟩) (by assumption) ?_
              try simp only [List.getElem_toArray, List.getElem_cons_succ, List.getElem_cons_zero, Act.put, List.setIfInBounds_toArray, List.set_cons_zero, List.set_cons_succ]
              refine wpAnyH_take (i := 6) (v := undef) rfl (by kernel_rfl) (by kernel_rfl) (by kernel_rfl) (fun _ _ _ h => h) (Or.inr ⟨by kernel_rfl, rfl⟩) (by assumption) ?_
              try simp only [List.getElem_toArray, List.getElem_cons_succ, List.getElem_cons_zero, Act.put, List.setIfInBounds_toArray, List.set_cons_zero, List.set_cons_succ]
              refine wpAnyH_take (i := 7) (v := undef) rfl (by kernel_rfl) (by kernel_rfl) (by kernel_rfl) (fun _ _ _ h => h) (Or.inr ⟨by kernel_rfl, rfl⟩) (by assumption) ?_
              try simp only [List.getElem_toArray, List.getElem_cons_succ, List.getElem_cons_zero, Act.put, List.setIfInBounds_toArray, List.set_cons_zero, List.set_cons_succ]
              refine wpAnyH_take (i := 8) (v := undef) rfl (by kernel_rfl) (by kernel_rfl) (by kernel_rfl) (fun _ _ _ h => h) (Or.inr ⟨by kernel_rfl, rfl⟩) (by assumption) ?_
              try simp only [List.getElem_toArray, List.getElem_cons_succ, List.getElem_cons_zero, Act.put, List.setIfInBounds_toArray, List.set_cons_zero, List.set_cons_succ]
              refine wpAnyH_take (i := 9) (v := undef) rfl (by kernel_rfl) (by kernel_rfl) (by kernel_rfl) (fun _ _ _ h => h) (Or.inr ⟨by kernel_rfl, rfl⟩) (by assumption) ?_
              try simp only [List.getElem_toArray, List.getElem_cons_succ, List.getElem_cons_zero, Act.put, List.setIfInBounds_toArray, List.set_cons_zero, List.set_cons_succ]
              refine wpAnyH_take (i := 10) (v := undef) rfl (by kernel_rfl) (by kernel_rfl) (by kernel_rfl) (fun _ _ _ h => h) (Or.inr ⟨by kernel_rfl, rfl⟩) (by assumption) ?_
              try simp only [List.getElem_toArray, List.getElem_cons_succ, List.getElem_cons_zero, Act.put, List.setIfInBounds_toArray, List.set_cons_zero, List.set_cons_succ]
              refine wpAnyH_take (i := 11) (v := undef) rfl (by kernel_rfl) (by kernel_rfl) (by kernel_rfl) (fun _ _ _ h => h) (Or.inr ⟨by kernel_rfl, rfl⟩) (by assumption) ?_
              try simp only [List.getElem_toArray, List.getElem_cons_succ, List.getElem_cons_zero, Act.put, List.setIfInBounds_toArray, List.set_cons_zero, List.set_cons_succ]
              refine wpAnyH_take (i := 12) (v := undef) rfl (by kernel_rfl) (by kernel_rfl) (by kernel_rfl) (fun _ _ _ h => h) (Or.inr ⟨by kernel_rfl, rfl⟩) (by assumption) ?_
              try simp only [List.getElem_toArray, List.getElem_cons_succ, List.getElem_cons_zero, Act.put, List.setIfInBounds_toArray, List.set_cons_zero, List.set_cons_succ]
              refine wpAnyH_take (i := 13) (v := undef) rfl (by kernel_rfl) (by kernel_rfl) (by kernel_rfl) (fun _ _ _ h => h) (Or.inr ⟨by kernel_rfl, rfl⟩) (by assumption) ?_
              try simp only [List.getElem_toArray, List.getElem_cons_succ, List.getElem_cons_zero, Act.put, List.setIfInBounds_toArray, List.set_cons_zero, List.set_cons_succ]
              refine wpAnyH_take (i := 14) (v := undef) rfl (by kernel_rfl) (by kernel_rfl) (by kernel_rfl) (fun _ _ _ h => h) (Or.inr ⟨by kernel_rfl, rfl⟩) (by assumption) ?_
              try simp only [List.getElem_toArray, List.getElem_cons_succ, List.getElem_cons_zero, Act.put, List.setIfInBounds_toArray, List.set_cons_zero, List.set_cons_succ]
              refine wpAnyH_take (i := 15) (v := undef) rfl (by kernel_rfl) (by kernel_rfl) (by kernel_rfl) (fun _ _ _ h => h) (Or.inr ⟨by kernel_rfl, rfl⟩) (by assumption) ?_
              try simp only [List.getElem_toArray, List.getElem_cons_succ, List.getElem_cons_zero, Act.put, List.setIfInBounds_toArray, List.set_cons_zero, List.set_cons_succ]
              refine wpAnyH_take (i := 16) (v := undef) rfl (by kernel_rfl) (by kernel_rfl) (by kernel_rfl) (fun _ _ _ h => h) (Or.inr ⟨by kernel_rfl, rfl⟩) (by assumption) ?_
              try simp only [List.getElem_toArray, List.getElem_cons_succ, List.getElem_cons_zero, Act.put, List.setIfInBounds_toArray, List.set_cons_zero, List.set_cons_succ]
              refine wpAnyH_take (i := 17) (v := undef) rfl (by kernel_rfl) (by kernel_rfl) (by kernel_rfl) (fun _ _ _ h => h) (Or.inr ⟨by kernel_rfl, rfl⟩) (by assumption) ?_
              try simp only [List.getElem_toArray, List.getElem_cons_succ, List.getElem_cons_zero, Act.put, List.setIfInBounds_toArray, List.set_cons_zero, List.set_cons_succ]
              refine wpAnyH_take (i := 18) (v := undef) rfl (by kernel_rfl) (by kernel_rfl) (by kernel_rfl) (fun _ _ _ h => h) (Or.inr ⟨by kernel_rfl, rfl⟩) (by assumption) ?_
              try simp only [List.getElem_toArray, List.getElem_cons_succ, List.getElem_cons_zero, Act.put, List.setIfInBounds_toArray, List.set_cons_zero, List.set_cons_succ]
              refine wpAnyH_take (i := 19) (v := undef) rfl (by kernel_rfl) (by kernel_rfl) (by kernel_rfl) (fun _ _ _ h => h) (Or.inr ⟨by kernel_rfl, rfl⟩) (by assumption) ?_
              try simp only [List.getElem_toArray, List.getElem_cons_succ, List.getElem_cons_zero, Act.put, List.setIfInBounds_toArray, List.set_cons_zero, List.set_cons_succ]
              refine wpAnyH_take (i := 20) (v := undef) rfl (by kernel_rfl) (by kernel_rfl) (by kernel_rfl) (fun _ _ _ h => h) (Or.inr ⟨by kernel_rfl, rfl⟩) (by assumption) ?_
              try simp only [List.getElem_toArray, List.getElem_cons_succ, List.getElem_cons_zero, Act.put, List.setIfInBounds_toArray, List.set_cons_zero, List.set_cons_succ]
              refine wpAnyH_take (i := 21) (v := undef) rfl (by kernel_rfl) (by kernel_rfl) (by kernel_rfl) (fun _ _ _ h => h) (Or.inr ⟨by kernel_rfl, rfl⟩) (by assumption) ?_
              try simp only [List.getElem_toArray, List.getElem_cons_succ, List.getElem_cons_zero, Act.put, List.setIfInBounds_toArray, List.set_cons_zero, List.set_cons_succ]
              refine wpAnyH_take (i := 22) (v := undef) rfl (by kernel_rfl) (by kernel_rfl) (by kernel_rfl) (fun _ _ _ h => h) (Or.inr ⟨by kernel_rfl, rfl⟩) (by assumption) ?_
              try simp only [List.getElem_toArray, List.getElem_cons_succ, List.getElem_cons_zero, Act.put, List.setIfInBounds_toArray, List.set_cons_zero, List.set_cons_succ]
              refine wpAnyH_take (i := 23) (v := undef) rfl (by kernel_rfl) (by kernel_rfl) (by kernel_rfl) (fun _ _ _ h => h) (Or.inr ⟨by kernel_rfl, rfl⟩) (by assumption) ?_
              try simp only [List.getElem_toArray, List.getElem_cons_succ, List.getElem_cons_zero, Act.put, List.setIfInBounds_toArray, List.set_cons_zero, List.set_cons_succ]
              refine wpAnyH_take (i := 24) (v := undef) rfl (by kernel_rfl) (by kernel_rfl) (by kernel_rfl) (fun _ _ _ h => h) (Or.inr ⟨by kernel_rfl, rfl⟩) (by assumption) ?_
              try simp only [List.getElem_toArray, List.getElem_cons_succ, List.getElem_cons_zero, Act.put, List.setIfInBounds_toArray, List.set_cons_zero, List.set_cons_succ]
              refine wpAnyH_take (i := 25) (v := undef) rfl (by kernel_rfl) (by kernel_rfl) (by kernel_rfl) (fun _ _ _ h => h) (Or.inr ⟨by kernel_rfl, rfl⟩) (by assumption) ?_
              try simp only [List.getElem_toArray, List.getElem_cons_succ, List.getElem_cons_zero, Act.put, List.setIfInBounds_toArray, List.set_cons_zero, List.set_cons_succ]
              refine wpAnyH_take (i := 26) (v := undef) rfl (by kernel_rfl) (by kernel_rfl) (by kernel_rfl) (fun _ _ _ h => h) (Or.inr ⟨by kernel_rfl, rfl⟩) (by assumption) ?_
              try simp only [List.getElem_toArray, List.getElem_cons_succ, List.getElem_cons_zero, Act.put, List.setIfInBounds_toArray, List.set_cons_zero, List.set_cons_succ]
              refine wpAnyH_take (i := 27) (v := .bool true) rfl (by kernel_rfl) (by kernel_rfl) (by kernel_rfl) (fun _ _ _ h => h) (Or.inl ⟨by rfl, fun w hSw => by (try dsimp only at hSw); go_simp⟩) (by assumption) ?_
              try simp only [List.getElem_toArray, List.getElem_cons_succ, List.getElem_cons_zero, Act.put, List.setIfInBounds_toArray, List.set_cons_zero, List.set_cons_succ]
              refine wpAnyH_done (by kernel_rfl) ?_ _
              go_wp2_with fail
              go_ret2
              exact ⟨by rw [← HE.out]; rfl, HF2.out.same hFF.out⟩
            · rw [hmb] at K1
              have hm1 : ¬ mayB rs tr x = false := by rw [hmb]; simp
              rw [if_neg hm1] at hcc
              have hmm : mayB rs tr x = true := hmb
              have HMM := Lib.hid hmm
              obtain ⟨q, hq⟩ : ∃ q, prefN (typR g tr) (tl ++ [x.t]) = q := ⟨_, rfl⟩
              rw [hq] at K2 hcc
              rw [HLEN.out] at hcc
              have HK1 := Lib.hid K1
              have HK2 := Lib.hid K2
              clear K1 K2 hmb hm1 hmm
              by_cases hlt3 : q < tl.length + 1
              · have HE := Lib.hid (show ((k : Int), (9 : Int)) = r by rw [← hcc, if_pos hlt3])
                have hlq : (q : Int) < (tl.length : Int) + 1 := by omega
                clear hcc hlt3 hq
                go_wp2_with fail
                go_region_held3 (fun W => W.cell? ⟨T, 0, none⟩ = some (.int .i64 x.k) ∧ W.cell? ⟨T, 1, none⟩ = some (.int .i64 x.t) ∧ W.cell? ⟨T, 2, none⟩ = some (.int .i64 x.n) ∧ W.cell? ⟨T, 3, none⟩ = some (.int .i64 x.m) ∧ W.cell? ⟨G, st.length * 11 + 7, none⟩ = some (.int .i64 tr.e.k) ∧ W.cell? ⟨G, st.length * 11 + 8, none⟩ = some (.string tr.e.name) ∧ W.cell? ⟨G, st.length * 11 + 9, none⟩ = some (.slice tr.A tr.e.l.length tr.c) ∧ W.cell? ⟨G, st.length * 11 + 10, none⟩ = some (.slice WB (tl.length + 1) wb) ∧ W.cell? ⟨p, 1, none⟩ = some (.slice GA g.length gc) ∧ Hid (Fr Nob wx W)) (exact HK0.out _ (by assumption))
                  (first
                    | (go_at_call 56; refine (HK1.out _ (by assumption)).mono ?_; rintro e w' ⟨rfl, hFF⟩)
                    | (go_at_call 54; refine (HK2.out _ (by assumption)).mono ?_; rintro e w' ⟨rfl, hFF⟩))
                rename_i hFF hHeld
                clear hHeld
                go_wp2_with fail
                go_ret2
                exact ⟨by rw [← HE.out]; rfl, HF2.out.same hFF.out⟩
              · rw [if_neg hlt3] at hcc
                have hlq : ¬ (q : Int) < (tl.length : Int) + 1 := by omega
                have HC3 := Lib.hid hcc
                clear hcc hlt3 hq
                go_wp2_with fail
                go_region_held3 (fun W => W.cell? ⟨T, 0, none⟩ = some (.int .i64 x.k) ∧ W.cell? ⟨T, 1, none⟩ = some (.int .i64 x.t) ∧ W.cell? ⟨T, 2, none⟩ = some (.int .i64 x.n) ∧ W.cell? ⟨T, 3, none⟩ = some (.int .i64 x.m) ∧ W.cell? ⟨G, st.length * 11 + 7, none⟩ = some (.int .i64 tr.e.k) ∧ W.cell? ⟨G, st.length * 11 + 8, none⟩ = some (.string tr.e.name) ∧ W.cell? ⟨G, st.length * 11 + 9, none⟩ = some (.slice tr.A tr.e.l.length tr.c) ∧ W.cell? ⟨G, st.length * 11 + 10, none⟩ = some (.slice WB (tl.length + 1) wb) ∧ W.cell? ⟨p, 1, none⟩ = some (.slice GA g.length gc) ∧ Hid (Fr Nob wx W)) (exact HK0.out _ (by assumption))
                  (first
                    | (go_at_call 56; refine (HK1.out _ (by assumption)).mono ?_; rintro e w' ⟨rfl, hFF⟩)
                    | (go_at_call 54; refine (HK2.out _ (by assumption)).mono ?_; rintro e w' ⟨rfl, hFF⟩))
                rename_i hFF hHeld
                obtain ⟨z0, z1, _, _, _, _, _, _, _, _⟩ := hHeld
                have lz0 := cell_lt z0
                have hcc := HC3.out
                have HH9 := Lib.hid (HF2.out.same hFF.out)
                have HL9 := Lib.hid (HL2.out.fr hFF.out)
                have hl2 : (st ++ [(⟨tr, .slice WB (tl.length + 1) wb, tl ++ [x.t]⟩ : Lv)]).length = st.length + 1 := by simp
                have hfo := HFO2.out
                rw [if_neg X2.out] at hfo
                have hmem : ∀ y ∈ st ++ [(⟨tr, .slice WB (tl.length + 1) wb, tl ++ [x.t]⟩ : Lv)], y.r ∈ rs ∧ y.r.leaf = false ∧ y.l.length ≤ k + 1 := fun y hy => by
                  rcases List.mem_append.1 hy with hy | hy
                  · have := HRU.out y (List.mem_append_left _ hy)
                    exact ⟨this.1, this.2.1, Nat.le_succ_of_le this.2.2⟩
                  · rw [show y = ⟨tr, .slice WB (tl.length + 1) wb, tl ++ [x.t]⟩ by simpa using hy]
                    exact ⟨HHR.out.1, HHR.out.2.1, by simp; omega⟩
                have HME := Lib.hid hmem
                clear HC3 HFO2 hmem hFF
                by_cases x1 : x.k = 1
                · have b1 : (x.k == 1) = true := by simpa using x1
                  obtain ⟨s, hsp, hsl⟩ : ∃ s, specF rs x.t = some s ∧ s.leaf = false := by
                    have hm := HMM.out
                    rw [mayB, if_neg (by omega)] at hm
                    cases hsp : specF rs x.t with
                    | none => rw [hsp] at hm; cases hm
                    | some s =>
                      rw [hsp] at hm
                      refine ⟨s, rfl, ?_⟩
                      simp only [Bool.and_eq_true, beq_iff_eq] at hm
                      rw [hm.2]
                      simp [x1]
                  rw [if_pos x1, hsp] at hcc
                  rw [if_pos x1] at hfo
                  rw [specF] at hsp
                  have ht1 : 1 ≤ x.t := by
                    rcases Decidable.em (1 ≤ x.t) with h | h
                    · exact h
                    · rw [if_neg h] at hsp; cases hsp
                  rw [if_pos ht1] at hsp
                  obtain ⟨j, hj⟩ := Int.eq_ofNat_of_zero_le (show 0 ≤ x.t by omega)
                  have hjn : x.t.toNat = j := by omega
                  rw [hjn] at hsp
                  rw [hj] at z1
                  obtain ⟨hjl, hje⟩ := List.getElem?_eq_some_iff.1 hsp
                  obtain ⟨La, lc, s1, s2, s3⟩ := (HS.out.fr0 HH9.out).row
                  obtain ⟨ad2, hA, _, hla, q0, q⟩ := Rd.elt RuleM.cells_len (by omega) s3 hjl
                  injection hA with hA
                  subst hA
                  have hls := cell_lt s1
                  rw [hje] at q0 q
                  have hrm : s ∈ rs := hje ▸ List.getElem_mem hjl
                  have hji : (j : Int) < (rs.length : Int) := by omega
                  have q1 := q 0 (by omega)
                  have q2 := q 1 (by omega)
                  have q3 := q 2 (by omega)
                  have q4 := q 3 (by omega)
                  have q5 := q 4 (by omega)
                  have q6 := q 5 (by omega)
                  have q7 := q 6 (by omega)
                  have q8 := q 7 (by omega)
                  have q9 := q 8 (by omega)
                  simp only [RuleM.cells, List.getElem?_cons_zero, List.getElem?_cons_succ, Nat.reduceAdd] at q0 q1 q2 q3 q4 q5 q6 q7 q8 q9
                  have HE := Lib.hid (show chkF rs g (s, []) ((st ++ [(⟨tr, .slice WB (tl.length + 1) wb, tl ++ [x.t]⟩ : Lv)]).reverse.map (fun x => (x.r, x.l))) (l.drop (k + 1)) (k + 1) = r by
                    rw [← hcc, List.reverse_append]; rfl)
                  have HFO3 := Lib.hid hfo
                  have HSM := Lib.hid (And.intro hrm hsl)
                  have HL2' := Lib.hid hl2
                  obtain ⟨i0, hi, hz0, hz1, hz2⟩ := info_parts infoL
                  clear q s3 hje hsp hjn hcc hfo hrm hsl hl2 ht1
                  go_upto_region 20 with (fail)
                  have hFd : Fr Nob w' w'.drew := (Fr.refl _ _).drew
                  have HFD := Lib.hid (HH9.out.same hFd)
                  have HLD := Lib.hid (HL9.out.fr hFd)
                  have hown0 := HLD.out.own
                  rw [HL2'.out] at hown0
                  generalize hxs : (st ++ [(⟨tr, .slice WB (tl.length + 1) wb, tl ++ [x.t]⟩ : Lv)]).flatMap Lv.cells = xs0 at hown0
                  have HON := Lib.hid hown0
                  have HXS := Lib.hid hxs
                  clear hown0 hxs hFd
                  go_region_law (refine step_append_lies _ (by rfl) _ _ _ (by rfl) w.heap.size 129 i0 _ 11 144 Tryz.underlying130 hi hz0 hz1 hz2 rfl (by decide) (.slice (some ⟨G, 0, none⟩) (st.length + 1) cap) (st.length + 1) xs0 (by rfl) (World.ownsRow.alloc (w := w'.drew) HON.out _) ⟨w'.heap.size, 0, none⟩ 1 1 [.string s.name, .string s.expr, .bool s.leaf, .int .i64 s.marks, .int .i64 s.least, .int .i64 s.most, .bool s.lines, .int .i64 s.e.k, .string s.e.name, .slice s.A s.e.l.length s.c, .slice none 0 0] (by rfl) rfl (fun j u hj => by rw [add_lit]; exact ((Blk.new_at w'.drew _ _ w'.heap.size rfl).cell j).trans hj) (by simp [Value.oneCell']) (by omega) (by unfold maxLen; omega) (by omega) (by have := HH9.out.size; simp; omega) _ rfl ?_; intro gg cap2 w2 hown2 hgr2 _ hlt2)
                  all_goals
                    rw [← HL2'.out, ← HXS.out] at hown2
                    have hpush := LvI.push (r := s) HLD.out ((Fr.refl Nob w'.drew).alloc _) hown2 hgr2
                    have hl3 : (st ++ [(⟨tr, .slice WB (tl.length + 1) wb, tl ++ [x.t]⟩ : Lv)] ++ [(⟨s, .slice none 0 0, []⟩ : Lv)]).length = st.length + 1 + 1 := by simp
                    rw [HL2'.out] at hpush
                    have HP1 := Lib.hid hpush.1
                    have HP2 := Lib.hid (HFD.out.trans (M := Nob) hpush.2 (fun j hj h => absurd h (by omega)))
                    have HL3 := Lib.hid hl3
                    clear hown2 hgr2 hpush hl3
                    go_wp2_with fail
                    go_roundg (l.length - (k + 1))
                    case measure => omega
                    case rel => exact ⟨k + 1, st ++ [(⟨tr, .slice WB (tl.length + 1) wb, tl ++ [x.t]⟩ : Lv)], ⟨s, .slice none 0 0, []⟩, gg, cap2, rfl, by omega, by rw [HL2'.out]; omega, by rw [HL2'.out], by first | rfl | go_num, by rw [HL3.out]; exact HP1.out, HP2.out, by rw [HL2'.out]; exact HFO3.out, HE.out, fun y hy => by
                      rcases List.mem_append.1 hy with hy | hy
                      · exact HME.out y hy
                      · rw [show y = ⟨s, .slice none 0 0, []⟩ by simpa using hy]
                        exact ⟨HSM.out.1, HSM.out.2, Nat.zero_le _⟩⟩
                · have b1 : (x.k == 1) = false := by simpa using x1
                  rw [if_neg x1] at hcc
                  rw [if_neg x1] at hfo
                  have HE := Lib.hid hcc
                  have HFO3 := Lib.hid hfo
                  clear hcc hfo
                  go_wp2_with fail
                  go_roundg (l.length - (k + 1))
                  case measure => omega
                  case rel => exact ⟨k + 1, st, ⟨tr, .slice WB (tl.length + 1) wb, tl ++ [x.t]⟩, G, cap, rfl, by omega, by omega, rfl, by first | rfl | go_num, HL9.out, HH9.out, HFO3.out, HE.out, HME.out⟩
      · have hke : k = l.length := by omega
        subst hke
        have hst0 : st = [] := by
          have := HFO.out
          rw [List.drop_length, flatOk] at this
          exact List.length_eq_zero_iff.1 this
        subst hst0
        have hcc := HC.out
        rw [List.drop_length, chkF_nil] at hcc
        simp only [List.reverse_nil, List.map_nil, List.getLast_singleton] at hcc
        have htc := LvI.first (st := []) HL.out rfl
        obtain ⟨gv, g1, g2⟩ := (HS.out.fr0 HF.out).grps
        obtain ⟨GA, gc, gcss, rfl, _, _⟩ := id g2
        have e7 := htc 7 (by omega)
        have e8 := htc 8 (by omega)
        have e9 := htc 9 (by omega)
        have e10 := htc 10 (by omega)
        have le7 := cell_lt e7
        have lg1 := cell_lt g1
        simp only [Lv.cells, RuleM.cells, List.cons_append, List.nil_append, List.getElem?_cons_zero, List.getElem?_cons_succ] at e7 e8 e9 e10
        have HGV := Lib.hid g2
        have HC9 := Lib.hid hcc
        clear htc g2 hcc HC HFO
        go_wp2_with fail
        go_still_tail 13, (by kernel_rfl)
        change wpList _ _ _ _ _ wr.drew
        generalize hwd : wr.drew = wd
        have hFd : Fr Nob wr wd := by subst hwd; exact (Fr.refl _ _).drew
        have HFD := Lib.hid (HF.out.same hFd)
        have HLD := Lib.hid (HL.out.fr hFd)
        have hRw := Rd.of_own (M := Nob) (HLD.out.words ⟨tr, .slice WA tl.length wc, tl⟩ (by simp)) (fun _ _ h => h)
        obtain ⟨WA', wc', hv, _, hRw⟩ := hRw
        simp only [Value.slice.injEq, true_and] at hv
        obtain ⟨rfl, rfl⟩ := hv
        have hex := (HS.out.fr0 HFD.out).exprs tr HHR.out.1
        rw [HRE.out] at hex
        have hec : tr.ec = [.int .i64 tr.e.k, .string tr.e.name, .slice tr.A tr.e.l.length tr.c] := rfl
        rw [hec] at hex
        have hacc := accepts_any g (starR tr) (nmR tr) HRK.out _ (.slice GA g.length gc) tl WA wc wd (ERep.mono (fun _ h => h.elim) _ _ hex) ((HGV.out.fr0 hFd).mono (fun _ h => h.elim)) hRw (by omega)
        have HACC := Lib.hid hacc
        clear hFd hwd hRw hex hec hacc e7 e8 e9 e10 le7 lg1 g1
        go_wp2_with fail
        refine HACC.out.mono ?_
        rintro e w5 ⟨rfl, hF5⟩
        have HF5 := Lib.hid (HFD.out.same hF5)
        have hcc := HC9.out
        clear hF5 HC9
        have htyp : typesF g (nmR tr) = typR g tr := rfl
        rw [htyp]
        cases ha : accB (typR g tr) (starR tr) tl
        · have HE := Lib.hid (show ((l.length : Int), (9 : Int)) = r by rw [← hcc, ha]; rfl)
          clear ha hcc
          go_wp2_with fail
          go_ret2
          exact ⟨by rw [← HE.out]; rfl, HF5.out⟩
        · have HE := Lib.hid (show ((l.length : Int), (0 : Int)) = r by rw [← hcc, ha]; rfl)
          clear ha hcc
          go_wp2_with fail
          go_ret2
          exact ⟨by rw [← HE.out]; rfl, HF5.out⟩
  · have hb : ((flatCheck l).2 != 0) = true := by simpa using hfl
    have HE := Lib.hid (show flatCheck l = r by have := HR.out; rw [if_pos hfl] at this; exact this)
    clear hfl
    go_wp2_with fail
    go_ret2
    exact ⟨by rw [← HE.out]; rfl, HF1.out⟩
end Go.Proofs.YtanbfplcldloeaaGreatDoor
