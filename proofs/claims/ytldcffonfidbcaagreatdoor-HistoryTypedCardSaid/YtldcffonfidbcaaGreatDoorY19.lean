/- A part of the proof for chapter 10: Apply, Pos, PosW, PosL; no conditions. -/
import Derived.Test.YtldcffonfidbcaaGreatDoorY17
import Derived.Test.YtldcffonfidbcaaGreatDoorY18
import Derived.Test.YtldcffonfidbcaaGreatDoorY08
import Derived.Deep.RegionLaw
/- Chapter 9: a step, done; a step at a document. -/
namespace Go.Proofs.YtldcffonfidbcaaGreatDoor
open Go.RowKit
theorem stepF_zero {s : StepM} (h : stepF s = 0) : s.l.length ≤ 2048 ∧ kindOk s = true ∧ s.l.all okT = true := by
  unfold stepF at h
  split at h
  · omega
  · split at h
    · rename_i h1 h2
      rw [Bool.and_eq_true] at h2
      exact ⟨by omega, h2.1, h2.2⟩
    · omega
theorem kindOk_0 {s : StepM} (h : kindOk s = true) : ok0S s.f s.t = true := by
  unfold kindOk okRep okAro okMark at h
  by_cases h0 : s.k = 0
  · rw [if_pos h0] at h; simp only [Bool.and_eq_true] at h; exact h.1.1.1.1
  · rw [if_neg h0] at h
    by_cases h1 : s.k = 1
    · rw [if_pos h1] at h; simp only [Bool.and_eq_true] at h; exact h.1.1
    · rw [if_neg h1] at h
      by_cases h2 : s.k = 2 ∨ s.k = 3
      · rw [if_pos h2] at h; simp only [Bool.and_eq_true] at h; exact h.1.1.1.1.1.1
      · rw [if_neg h2] at h; simp at h
theorem kindOk_1 {s : StepM} (h : kindOk s = true) (h1 : s.k = 1) : aroS s.f s.t s.gf s.gt s.ins s.l.length = true := by
  unfold kindOk okAro at h
  rw [if_neg (by omega), if_pos h1] at h
  simp only [Bool.and_eq_true] at h
  exact h.1.2
theorem kindOk_k {s : StepM} (h : kindOk s = true) : s.k = 0 ∨ s.k = 1 ∨ s.k = 2 ∨ s.k = 3 := by
  unfold kindOk at h
  by_cases h0 : s.k = 0
  · exact .inl h0
  · by_cases h1 : s.k = 1
    · exact .inr (.inl h1)
    · by_cases h2 : s.k = 2 ∨ s.k = 3
      · exact .inr (.inr h2)
      · rw [if_neg h0, if_neg h1, if_neg h2] at h; simp at h
/-- What a step makes of a list. -/
def doF (s : StepM) (l : List Tok) : List Tok :=
  if s.k = 0 then repF s.f.toNat s.t.toNat s.l l
  else if s.k = 1 then aroF s.f.toNat s.t.toNat s.gf.toNat s.gt.toNat s.ins.toNat s.l l
  else markL s.k s.m s.f.toNat s.t.toNat l
theorem doF_len (s : StepM) (l : List Tok) (h : s.l.length ≤ 2048) (hl : l.length ≤ 10000) : (doF s l).length ≤ 40000 := by
  unfold doF
  split
  · simp only [repF, List.length_append, List.length_take, List.length_drop]; omega
  · split
    · simp only [aroF, List.length_append, List.length_take, List.length_drop]; omega
    · rw [markL_len]; omega
theorem stepdo_any (M : Nat → Prop) (s : StepM) (A B : Option Addr) (l : List Tok) (c b : Nat) (w : World) (hl : Rd M w A (tokC l)) (hx : Rd M w B (tokC s.l)) (hc : l.length ≤ c) (hb : s.l.length ≤ b) (hs : stepF s = 0) (ht : s.t ≤ l.length) (hn : l.length ≤ 10000) :
    Calls Tryz.prog 77 #[.slice A l.length c, .agg (s.cells (.slice B s.l.length b)).toArray] w fun e w' => ∃ v, e = .returned v ∧ NewDoc w w' v (doF s l) ∧ Fr Nob w w' := by
  obtain ⟨hxl, hk, _⟩ := stepF_zero hs
  have h0 := (ok0S_iff _ _).1 (kindOk_0 hk)
  have hkk := kindOk_k hk
  have haro := fun h1 => (aroS_iff _ _ _ _ _ _).1 (kindOk_1 hk h1)
  obtain ⟨k, f, t, gf, gt, ins, m, x⟩ := s
  simp only at *
  obtain ⟨f, rfl⟩ := Int.eq_ofNat_of_zero_le h0.1
  obtain ⟨t, rfl⟩ := Int.eq_ofNat_of_zero_le (show 0 ≤ t by omega)
  rcases hkk with rfl | rfl | rfl | rfl
  · refine (stepdo_rep M f t gf gt ins m A B x l c b w hl hx hc (by omega) (by omega) hn (by omega)).mono ?_
    rintro e w' ⟨v, rfl, hv, hF⟩
    exact ⟨v, rfl, hv, hF⟩
  · have ha := haro rfl
    obtain ⟨gf, rfl⟩ := Int.eq_ofNat_of_zero_le (show 0 ≤ gf by omega)
    obtain ⟨gt, rfl⟩ := Int.eq_ofNat_of_zero_le (show 0 ≤ gt by omega)
    obtain ⟨ins, rfl⟩ := Int.eq_ofNat_of_zero_le (show 0 ≤ ins by omega)
    refine (stepdo_aro M f t gf gt ins m A B x l c b w hl hx hc hb (by omega) (by omega) (by omega) (by omega) (by omega) hn (by omega)).mono ?_
    rintro e w' ⟨v, rfl, hv, hF⟩
    exact ⟨v, rfl, hv, hF⟩
  · refine (stepdo_add M f t gf gt ins m A B l c x.length b w hl hc (by omega) (by omega) hn).mono ?_
    rintro e w' ⟨v, rfl, hv, hF⟩
    exact ⟨v, rfl, hv, hF⟩
  · refine (stepdo_take M f t gf gt ins m A B l c x.length b w hl hc (by omega) (by omega) hn).mono ?_
    rintro e w' ⟨v, rfl, hv, hF⟩
    exact ⟨v, rfl, hv, hF⟩
/-- A step at a document: its error, or 0. -/
def applyE (s : StepM) (l : List Tok) : Int :=
  if (flatCheck l).2 ≠ 0 then (flatCheck l).2
  else if stepF s ≠ 0 then stepF s
  else if (l.length : Int) < s.t then 1
  else if (flatCheck (doF s l)).2 = 3 then 4
  else (flatCheck (doF s l)).2
theorem flat_short {l : List Tok} (h : (flatCheck l).2 = 0) : l.length ≤ 2048 := by
  unfold flatCheck at h
  split at h
  · simp at h
  · omega
set_option maxRecDepth 100000 in
set_option maxHeartbeats 4000000 in
theorem apply_any (M : Nat → Prop) (s : StepM) (A B : Option Addr) (l : List Tok) (c b : Nat) (w : World) (hl : Rd M w A (tokC l)) (hx : Rd M w B (tokC s.l)) (hc : l.length ≤ c) (hb : s.l.length ≤ b) (hn : l.length ≤ 9223372036854775807) :
    Calls Tryz.prog 74 #[.slice A l.length c, .agg (s.cells (.slice B s.l.length b)).toArray] w fun e w' => ∃ v, e = .returned (.tuple #[v, .int .i64 (applyE s l)]) ∧ (applyE s l = 0 → NewDoc w w' v (doF s l)) ∧ (applyE s l ≠ 0 → v = .slice none 0 0) ∧ Fr Nob w w' := by
  obtain ⟨E, hE⟩ : ∃ E, applyE s l = E := ⟨_, rfl⟩
  rw [hE]
  have HE := Lib.hid hE
  have HL := Lib.hid hl
  have HX := Lib.hid hx
  have HCB := Lib.hid (And.intro hc hb)
  obtain ⟨ln, hln⟩ : ∃ ln, l.length = ln := ⟨_, rfl⟩
  obtain ⟨xn, hxn⟩ : ∃ xn, s.l.length = xn := ⟨_, rfl⟩
  have HLN := Lib.hid hln
  have HXN := Lib.hid hxn
  have HDL : Hid (Doc M w (.slice A ln c) l) := ⟨A, c, by rw [hln], by rw [hln] at hc ⊢; exact hc, hl⟩
  have HN := Lib.hid hn
  rw [hln] at hn
  rw [hln, hxn]
  clear hl hx hc hb hln hxn hE
  obtain ⟨k, f, t, gf, gt, ins, m, x⟩ := s
  simp only [StepM.cells] at *
  go_enter Tryz.func74, Tryz.ntmps74
  go_upto_region 1 with (fail)
  obtain ⟨W, hW⟩ : ∃ W, w.alloc (.cells #[.int .i64 k, .int .i64 f, .int .i64 t, .int .i64 gf, .int .i64 gt, .int .i64 ins, .slice B xn b, .int .i64 m] 32) = W := ⟨_, rfl⟩
  have HF := Lib.hid (show Fr Nob w W by rw [← hW]; exact (Fr.refl _ _).alloc _)
  have HB := Lib.hid (show Blk W w.heap.size [.int .i64 k, .int .i64 f, .int .i64 t, .int .i64 gf, .int .i64 gt, .int .i64 ins, .slice B xn b, .int .i64 m] 32 by rw [← hW]; exact Blk.new _ _ _)
  rw [hW]
  clear hW
  go_wp2_with fail
  refine (flatcheck_any M l _ W (HDL.out.fr0 HF.out) HN.out).mono ?_
  rintro e w1 ⟨rfl, hF1⟩
  have HF1 := Lib.hid (HF.out.same hF1)
  have HB1 := Lib.hid (HB.out.fr hF1 (fun h => h))
  clear hF1
  obtain ⟨⟨fi, fe⟩, hfe⟩ : ∃ r, flatCheck l = r := ⟨_, rfl⟩
  have HFE := Lib.hid hfe
  rw [hfe]
  simp only
  clear hfe
  by_cases hz : fe = 0
  · subst hz
    have b0 := HB1.out.cell 0
    have b1 := HB1.out.cell 1
    have b2 := HB1.out.cell 2
    have b3 := HB1.out.cell 3
    have b4 := HB1.out.cell 4
    have b5 := HB1.out.cell 5
    have b6 := HB1.out.cell 6
    have b7 := HB1.out.cell 7
    have hlb := HB1.out.lt
    simp only [List.getElem?_cons_zero, List.getElem?_cons_succ] at b0 b1 b2 b3 b4 b5 b6 b7
    go_wp2_with fail
    have hck := stepcheck_any M ⟨k, f, t, gf, gt, ins, m, x⟩ B b w1 (HX.out.fr HF1.out (fun _ _ h => h.elim))
    simp only [StepM.cells, HXN.out] at hck
    refine hck.mono ?_
    clear hck
    rintro e w2 ⟨rfl, hF2⟩
    have HF2 := Lib.hid (HF1.out.same hF2)
    have HB2 := Lib.hid (HB1.out.fr hF2 (fun h => h))
    clear hF2 b0 b1 b2 b3 b4 b5 b6 b7 hlb
    obtain ⟨se, hse⟩ : ∃ r, stepF ⟨k, f, t, gf, gt, ins, m, x⟩ = r := ⟨_, rfl⟩
    have HSE := Lib.hid hse
    rw [hse]
    clear hse
    by_cases hz : se = 0
    · subst hz
      have b0 := HB2.out.cell 0
      have b1 := HB2.out.cell 1
      have b2 := HB2.out.cell 2
      have b3 := HB2.out.cell 3
      have b4 := HB2.out.cell 4
      have b5 := HB2.out.cell 5
      have b6 := HB2.out.cell 6
      have b7 := HB2.out.cell 7
      have hlb := HB2.out.lt
      simp only [List.getElem?_cons_zero, List.getElem?_cons_succ] at b0 b1 b2 b3 b4 b5 b6 b7
      by_cases htl : (ln : Int) < t
      · have HE2 := Lib.hid (show E = 1 by
          rw [← HE.out, applyE, HFE.out, if_neg (by simp), HSE.out, if_neg (by simp), if_pos (by rw [HLN.out]; exact htl)])
        go_wp2_with fail
        refine bodyPost_ret (v := .tuple #[.slice none 0 0, .int .i64 1]) (by simp [results, go_sem]) rfl ?_
        exact ⟨_, by rw [HE2.out], by rw [HE2.out]; intro h; omega, fun _ => rfl, HF2.out⟩
      · have HE2 := Lib.hid (show E = if (flatCheck (doF ⟨k, f, t, gf, gt, ins, m, x⟩ l)).2 = 3 then 4 else (flatCheck (doF ⟨k, f, t, gf, gt, ins, m, x⟩ l)).2 by
          rw [← HE.out, applyE, HFE.out, if_neg (by simp), HSE.out, if_neg (by simp), if_neg (by rw [HLN.out]; exact htl)])
        go_wp2_with fail
        have hsh := flat_short (show (flatCheck l).2 = 0 by rw [HFE.out])
        have hdo := stepdo_any M ⟨k, f, t, gf, gt, ins, m, x⟩ A B l c b w2 (HL.out.fr HF2.out (fun _ _ h => h.elim)) (HX.out.fr HF2.out (fun _ _ h => h.elim)) HCB.out.1 HCB.out.2 HSE.out (by show t ≤ _; rw [HLN.out]; omega) (by omega)
        have hdl := doF_len ⟨k, f, t, gf, gt, ins, m, x⟩ l (stepF_zero HSE.out).1 (by omega)
        simp only [StepM.cells, HXN.out, HLN.out] at hdo
        refine hdo.mono ?_
        clear hdo
        obtain ⟨D, hD⟩ : ∃ D, doF ⟨k, f, t, gf, gt, ins, m, x⟩ l = D := ⟨_, rfl⟩
        rw [hD] at HE2 hdl ⊢
        rintro e w3 ⟨v, rfl, hv, hF3⟩
        have HV := Lib.hid (hv.old HF2.out.size)
        have HF3 := Lib.hid (HF2.out.same hF3)
        clear hv hF3 b0 b1 b2 b3 b4 b5 b6 b7 hlb hsh
        go_wp2_with fail
        refine (flatcheck_any _ D _ w3 HV.out.doc (by omega)).mono ?_
        rintro e w4 ⟨rfl, hF4⟩
        have HV4 : Hid (NewDoc w w4 v D) := by
          obtain ⟨g, rfl, hg, hb⟩ := HV.out
          exact ⟨g, rfl, hg, hb.fr hF4 (fun h => h)⟩
        have HF4 := Lib.hid (HF3.out.same hF4)
        clear hF4
        obtain ⟨⟨oi, oe⟩, hoe⟩ : ∃ r, flatCheck D = r := ⟨_, rfl⟩
        rw [hoe] at HE2 ⊢
        simp only at HE2 ⊢
        clear hoe
        by_cases ho : oe = 0
        · subst ho
          have HE3 := Lib.hid (show E = 0 by rw [HE2.out, if_neg (by omega)])
          go_wp2_with fail
          refine bodyPost_ret (v := .tuple #[v, .int .i64 0]) (by simp [results, go_sem]) rfl ?_
          exact ⟨v, by rw [HE3.out], fun _ => by rw [hD]; exact HV4.out, fun h => absurd HE3.out h, HF4.out⟩
        · have ho1 : (oe == 0) = false := by simpa using ho
          by_cases ho3 : oe = 3
          · subst ho3
            have HE3 := Lib.hid (show E = 4 by rw [HE2.out, if_pos rfl])
            go_wp2_with fail
            refine bodyPost_ret (v := .tuple #[.slice none 0 0, .int .i64 4]) (by simp [results, go_sem]) rfl ?_
            exact ⟨_, by rw [HE3.out], by rw [HE3.out]; intro h; omega, fun _ => rfl, HF4.out⟩
          · have ho2 : (oe == 3) = false := by simpa using ho3
            have HE3 := Lib.hid (show E = oe by rw [HE2.out, if_neg ho3])
            go_wp2_with fail
            refine bodyPost_ret (v := .tuple #[.slice none 0 0, .int .i64 oe]) (by simp [results, go_sem]) rfl ?_
            exact ⟨_, by rw [HE3.out], by rw [HE3.out]; intro h; exact absurd h ho, fun _ => rfl, HF4.out⟩
    · have hse2 : (se != 0) = true := by simpa using hz
      have HE2 := Lib.hid (show E = se by
        rw [← HE.out, applyE, HFE.out, if_neg (by simp), HSE.out, if_pos hz])
      go_wp2_with fail
      refine bodyPost_ret (v := .tuple #[.slice none 0 0, .int .i64 se]) (by simp [results, go_sem]) rfl ?_
      exact ⟨_, by rw [HE2.out], by rw [HE2.out]; intro h; exact absurd h hz, fun _ => rfl, HF2.out⟩
  · have hfe2 : (fe != 0) = true := by simpa using hz
    have HE2 := Lib.hid (show E = fe by
      rw [← HE.out, applyE, HFE.out, if_pos hz])
    go_wp2_with fail
    refine bodyPost_ret (v := .tuple #[.slice none 0 0, .int .i64 fe]) (by simp [results, go_sem]) rfl ?_
    exact ⟨_, by rw [HE2.out], by rw [HE2.out]; intro h; exact absurd h hz, fun _ => rfl, HF1.out⟩
end Go.Proofs.YtldcffonfidbcaaGreatDoor

/- Chapter 8: ranges; may a map be. -/
namespace Go.Proofs.YtldcffonfidbcaaGreatDoor
open Go.RowKit
structure Rng where
  a : Int
  o : Int
  n : Int
def Rng.cells (x : Rng) : List Value := [.int .i64 x.a, .int .i64 x.o, .int .i64 x.n]
theorem Rng.cells_len (x : Rng) : x.cells.length = 3 := rfl
def rngC (l : List Rng) : List Value := l.flatMap Rng.cells
def badR (x : Rng) (last : Int) : Bool := decide (x.a < last ∨ 65536 < x.a ∨ 65536 < x.o ∨ 65536 < x.n ∨ x.o < 0 ∨ x.n < 0)
theorem badR_iff (x : Rng) (last : Int) : badR x last = true ↔ (x.a < last ∨ 65536 < x.a ∨ 65536 < x.o ∨ 65536 < x.n ∨ x.o < 0 ∨ x.n < 0) := by unfold badR; exact decide_eq_true_iff
def rightF : List Rng → Int → Bool
  | [], _ => true
  | x :: l, last => if badR x last = true then false else rightF l (x.a + x.o)
def rightP (l : List Rng) : Bool := rightF l 0 && decide (l.length ≤ 4)
set_option maxRecDepth 100000 in
theorem posright_any (M : Nat → Prop) (l : List Rng) (A : Option Addr) (c : Nat) (w : World) (hr : Rd M w A (rngC l)) (hl : l.length ≤ 4611686018427387904) :
    Calls Tryz.prog 115 #[.slice A l.length c] w fun e w' => e = .returned (.bool (rightP l)) ∧ Fr Nob w w' := by
  obtain ⟨r, hrr⟩ : ∃ r, rightP l = r := ⟨_, rfl⟩
  rw [hrr]
  have HR0 := Lib.hid hrr
  obtain ⟨q0, hq0⟩ : ∃ q0, rightF l 0 = q0 := ⟨_, rfl⟩
  have HQ0 := Lib.hid hq0
  have HRd := Lib.hid hr
  clear hrr hr hq0
  go_enter Tryz.func115, Tryz.ntmps115
  go_wp2_with fail
  go_loopg [3, 8] (l.length) (fun n la i wr => ∃ (k : Nat) (last : Int), n = l.length - k ∧ k ≤ l.length ∧ la = .int .i64 last ∧ i = .int .i64 k ∧ 0 ≤ last ∧ last ≤ 131072 ∧ Hid (Fr Nob w wr) ∧ Hid (rightF (l.drop k) last = q0))
  case atStart => exact ⟨0, 0, rfl, Nat.zero_le _, rfl, rfl, by omega, by omega, Fr.refl _ _, HQ0.out⟩
  case round =>
    obtain ⟨k, last, rfl, hk, rfl, rfl, hl0, hl1, HF, HC⟩ := hrel
    by_cases hlt : k < l.length
    · have ht : ((k : Int) < (l.length : Int)) := by omega
      obtain ⟨ad, rfl, _, hlb, q0', q⟩ := Rd.elt Rng.cells_len (by omega) (HRd.out.fr HF.out (fun _ _ h => h.elim)) hlt
      have hdr : l.drop k = l[k] :: l.drop (k + 1) := List.drop_eq_getElem_cons hlt
      generalize l[k] = x at q0' q hdr
      have q1 := q 0 (by omega)
      have q2 := q 1 (by omega)
      simp only [Rng.cells, List.getElem?_cons_zero, List.getElem?_cons_succ, Nat.reduceAdd] at q0' q1 q2
      have hcc := HC.out
      rw [hdr, rightF] at hcc
      have HCC := Lib.hid hcc
      have hff : Fr Nob w (wr.alloc (.cells #[.int .i64 x.a, .int .i64 x.o, .int .i64 x.n] 205)) := HF.out.alloc _
      have HFF := Lib.hid hff
      clear q hdr HC hcc hff
      by_cases h1 : x.a < last
      · have HE := Lib.hid (show false = r by rw [← HR0.out, rightP, HQ0.out, ← HCC.out, if_pos ((badR_iff x last).2 (.inl h1))]; rfl)
        go_wp2_with fail
        go_ret
        exact ⟨by rw [← HE.out]; rfl, HFF.out⟩
      · go_wp2_with fail
        all_goals first
          | (have hb : x.a < last ∨ 65536 < x.a ∨ 65536 < x.o ∨ 65536 < x.n ∨ x.o < 0 ∨ x.n < 0 := by omega
             have HE := Lib.hid (show false = r by rw [← HR0.out, rightP, HQ0.out, ← HCC.out, if_pos ((badR_iff x last).2 hb)]; rfl)
             go_ret
             exact ⟨by rw [← HE.out]; rfl, HFF.out⟩)
          | (have hb : ¬ (x.a < last ∨ 65536 < x.a ∨ 65536 < x.o ∨ 65536 < x.n ∨ x.o < 0 ∨ x.n < 0) := by omega
             have hcc := HCC.out
             rw [if_neg (fun h => hb ((badR_iff x last).1 h))] at hcc
             have HE := Lib.hid hcc
             clear hcc
             go_roundg (l.length - (k + 1))
             case measure => omega
             case rel => exact ⟨k + 1, x.a + x.o, rfl, by omega, by first | rfl | go_num, by first | rfl | go_num, by omega, by omega, HFF.out, HE.out⟩)
    · have ht : ¬ ((k : Int) < (l.length : Int)) := by omega
      have hcc := HC.out
      rw [List.drop_eq_nil_of_le (by omega), rightF] at hcc
      have HE := Lib.hid (show decide (l.length ≤ 4) = r by rw [← HR0.out, rightP, HQ0.out, ← hcc]; rfl)
      clear hcc HC
      by_cases h4 : l.length ≤ 4
      · have h4' : ((l.length : Int) ≤ 4) := by omega
        rw [decide_eq_true h4] at HE
        go_wp2_with fail
        go_ret
        exact ⟨by rw [← HE.out]; rfl, HF.out⟩
      · have h4' : ¬ ((l.length : Int) ≤ 4) := by omega
        rw [decide_eq_false h4] at HE
        go_wp2_with fail
        go_ret
        exact ⟨by rw [← HE.out]; rfl, HF.out⟩
end Go.Proofs.YtldcffonfidbcaaGreatDoor

/- Chapter 8: maps that nobody made; a place's spot in a range. -/
namespace Go.Proofs.YtldcffonfidbcaaGreatDoor
open Go.RowKit
set_option maxRecDepth 100000 in
theorem posnone_any (m : Nat) (w : World) (h : w.cell? ⟨m, 1, none⟩ = some (.bool true)) :
    Calls Tryz.prog 114 #[.pointer (some ⟨m, 0, none⟩)] w fun e w' => e = .returned (.bool false) ∧ w' = w := by
  have hl := cell_lt h
  go_enter Tryz.func114, Tryz.ntmps114
  go_wp2_with fail
  go_ret
  exact ⟨rfl, rfl⟩
set_option maxRecDepth 100000 in
theorem posnew_any (w : World) :
    Calls Tryz.prog 79 #[] w fun e w' => e = .returned (.pointer (some ⟨w.heap.size, 0, none⟩)) ∧ w' = w.alloc (.cells #[.slice none 0 0, .bool true] 208) := by
  go_enter Tryz.func79, Tryz.ntmps79
  go_wp2_with fail
  go_ret
  exact ⟨rfl, rfl⟩
def withinL (x : Rng) (p side : Int) : Bool := if x.o = 0 then decide (side < 0) else if p = x.a then true else if p = x.a + x.o then false else decide (side < 0)
def withinG (x : Rng) (p : Int) : Bool := if x.o = 0 then false else if p = x.a then false else if p = x.a + x.o then false else true
def spotC (a : Int) (g : Bool) (i o : Int) : List Value := [.int .i64 a, .bool g, .int .i64 i, .int .i64 o]
theorem spot_ret (w : World) (xa xo xn A : Int) (G : Bool) :
    ∀ W : World, ((w.alloc (.cells #[.int .i64 xa, .int .i64 xo, .int .i64 xn] 205)).alloc (.cells #[.int .i64 A, .bool G, .int .i64 (-1), .int .i64 0] 214)).alloc (.cells #[.int .i64 A, .bool G, .int .i64 (-1), .int .i64 0] 214) = W → W.cell? ⟨w.heap.size + 1, 0, none⟩ = some (.int .i64 A) ∧ W.cell? ⟨w.heap.size + 1, 1, none⟩ = some (.bool G) ∧ W.cell? ⟨w.heap.size + 1, 2, none⟩ = some (.int .i64 (-1)) ∧ W.cell? ⟨w.heap.size + 1, 3, none⟩ = some (.int .i64 0) ∧ Fr Nob w W := by
  rintro W rfl
  have hb : Blk (((w.alloc (.cells #[.int .i64 xa, .int .i64 xo, .int .i64 xn] 205)).alloc (.cells #[.int .i64 A, .bool G, .int .i64 (-1), .int .i64 0] 214)).alloc (.cells #[.int .i64 A, .bool G, .int .i64 (-1), .int .i64 0] 214)) (w.heap.size + 1) [.int .i64 A, .bool G, .int .i64 (-1), .int .i64 0] 214 := (Blk.new_at (w.alloc (.cells #[.int .i64 xa, .int .i64 xo, .int .i64 xn] 205)) _ _ (w.heap.size + 1) (by simp)).alloc _
  exact ⟨hb.cell 0, hb.cell 1, hb.cell 2, hb.cell 3, (((Fr.refl Nob w).alloc _).alloc _).alloc _⟩
set_option maxRecDepth 100000 in
set_option maxHeartbeats 2000000 in
theorem within_any (x : Rng) (b p side : Int) (w : World) (ha : 0 ≤ x.a ∧ x.a ≤ 65536) (ho : 0 ≤ x.o ∧ x.o ≤ 65536) (hn : 0 ≤ x.n ∧ x.n ≤ 65536) (hb : -1000000 ≤ b ∧ b ≤ 1000000) :
    Calls Tryz.prog 173 #[.agg x.cells.toArray, .int .i64 b, .int .i64 p, .int .i64 side] w fun e w' => e = .returned (.agg (spotC (if withinL x p side = true then b else b + x.n) (withinG x p) (-1) 0).toArray) ∧ Fr Nob w w' := by
  obtain ⟨xa, xo, xn⟩ := x
  simp only at ha ho hn
  obtain ⟨L, hL⟩ : ∃ L, withinL ⟨xa, xo, xn⟩ p side = L := ⟨_, rfl⟩
  obtain ⟨G, hG⟩ : ∃ G, withinG ⟨xa, xo, xn⟩ p = G := ⟨_, rfl⟩
  rw [hL, hG, show (⟨xa, xo, xn⟩ : Rng).cells.toArray = #[.int .i64 xa, .int .i64 xo, .int .i64 xn] from rfl]
  unfold withinL at hL
  unfold withinG at hG
  simp only at hL hG
  obtain ⟨R, hR⟩ : ∃ R, (if L = true then b else b + xn) = R := ⟨_, rfl⟩
  rw [hR]
  have HR := Lib.hid hR
  have HL := Lib.hid hL
  have HG := Lib.hid hG
  clear hL hG hR
  by_cases h0 : xo = 0
  · have b0 : (xo == 0) = true := by simpa using h0
    by_cases hs : side < 0
    · have hs' := hs
      have HE := Lib.hid (show b = R ∧ false = G by have h1 := HL.out; have h2 := HG.out; have h3 := HR.out; rw [if_pos h0] at h1 h2; rw [decide_eq_true hs] at h1; rw [← h1, if_pos rfl] at h3; exact ⟨h3, h2⟩)
      clear HL HG HR h0
      go_enter Tryz.func173, Tryz.ntmps173
      go_wp2_with fail
      obtain ⟨W, hW⟩ : ∃ W, ((w.alloc (.cells #[.int .i64 xa, .int .i64 xo, .int .i64 xn] 205)).alloc (.cells #[.int .i64 b, .bool false, .int .i64 (-1), .int .i64 0] 214)).alloc (.cells #[.int .i64 b, .bool false, .int .i64 (-1), .int .i64 0] 214) = W := ⟨_, rfl⟩
      obtain ⟨p0, p1, p2, p3, hF⟩ := spot_ret w xa xo xn b false W hW
      rw [hW]
      exact bodyPost_ret (v := .agg #[.int .i64 b, .bool false, .int .i64 (-1), .int .i64 0]) (by simp [results, go_sem, p0, p1, p2, p3]) rfl ⟨by rw [← HE.out.1, ← HE.out.2]; rfl, hF⟩
    · have hs' := hs
      have HE := Lib.hid (show (b + xn) = R ∧ false = G by have h1 := HL.out; have h2 := HG.out; have h3 := HR.out; rw [if_pos h0] at h1 h2; rw [decide_eq_false hs] at h1; rw [← h1, if_neg (by simp)] at h3; exact ⟨h3, h2⟩)
      clear HL HG HR h0
      go_enter Tryz.func173, Tryz.ntmps173
      go_wp2_with fail
      obtain ⟨W, hW⟩ : ∃ W, ((w.alloc (.cells #[.int .i64 xa, .int .i64 xo, .int .i64 xn] 205)).alloc (.cells #[.int .i64 (b + xn), .bool false, .int .i64 (-1), .int .i64 0] 214)).alloc (.cells #[.int .i64 (b + xn), .bool false, .int .i64 (-1), .int .i64 0] 214) = W := ⟨_, rfl⟩
      obtain ⟨p0, p1, p2, p3, hF⟩ := spot_ret w xa xo xn (b + xn) false W hW
      rw [hW]
      exact bodyPost_ret (v := .agg #[.int .i64 (b + xn), .bool false, .int .i64 (-1), .int .i64 0]) (by simp [results, go_sem, p0, p1, p2, p3]) rfl ⟨by rw [← HE.out.1, ← HE.out.2]; rfl, hF⟩
  · have b0 : (xo == 0) = false := by simpa using h0
    by_cases h1' : p = xa
    · have b1 : (p == xa) = true := by simpa using h1'
      have HE := Lib.hid (show b = R ∧ false = G by have h1 := HL.out; have h2 := HG.out; have h3 := HR.out; rw [if_neg h0, if_pos h1'] at h1 h2; rw [← h1, if_pos rfl] at h3; exact ⟨h3, h2⟩)
      clear HL HG HR h0 h1'
      go_enter Tryz.func173, Tryz.ntmps173
      go_wp2_with fail
      obtain ⟨W, hW⟩ : ∃ W, ((w.alloc (.cells #[.int .i64 xa, .int .i64 xo, .int .i64 xn] 205)).alloc (.cells #[.int .i64 b, .bool false, .int .i64 (-1), .int .i64 0] 214)).alloc (.cells #[.int .i64 b, .bool false, .int .i64 (-1), .int .i64 0] 214) = W := ⟨_, rfl⟩
      obtain ⟨p0, p1, p2, p3, hF⟩ := spot_ret w xa xo xn b false W hW
      rw [hW]
      exact bodyPost_ret (v := .agg #[.int .i64 b, .bool false, .int .i64 (-1), .int .i64 0]) (by simp [results, go_sem, p0, p1, p2, p3]) rfl ⟨by rw [← HE.out.1, ← HE.out.2]; rfl, hF⟩
    · have b1 : (p == xa) = false := by simpa using h1'
      by_cases h2' : p = xa + xo
      · have b2 : (p == xa + xo) = true := by simpa using h2'
        have HE := Lib.hid (show (b + xn) = R ∧ false = G by have h1 := HL.out; have h2 := HG.out; have h3 := HR.out; rw [if_neg h0, if_neg h1', if_pos h2'] at h1 h2; rw [← h1, if_neg (by simp)] at h3; exact ⟨h3, h2⟩)
        clear HL HG HR h0 h1' h2'
        go_enter Tryz.func173, Tryz.ntmps173
        go_wp2_with fail
        obtain ⟨W, hW⟩ : ∃ W, ((w.alloc (.cells #[.int .i64 xa, .int .i64 xo, .int .i64 xn] 205)).alloc (.cells #[.int .i64 (b + xn), .bool false, .int .i64 (-1), .int .i64 0] 214)).alloc (.cells #[.int .i64 (b + xn), .bool false, .int .i64 (-1), .int .i64 0] 214) = W := ⟨_, rfl⟩
        obtain ⟨p0, p1, p2, p3, hF⟩ := spot_ret w xa xo xn (b + xn) false W hW
        rw [hW]
        exact bodyPost_ret (v := .agg #[.int .i64 (b + xn), .bool false, .int .i64 (-1), .int .i64 0]) (by simp [results, go_sem, p0, p1, p2, p3]) rfl ⟨by rw [← HE.out.1, ← HE.out.2]; rfl, hF⟩
      · have b2 : (p == xa + xo) = false := by simpa using h2'
        by_cases hs : side < 0
        · have hs' := hs
          have HE := Lib.hid (show b = R ∧ true = G by have h1 := HL.out; have h2 := HG.out; have h3 := HR.out; rw [if_neg h0, if_neg h1', if_neg h2'] at h1 h2; rw [decide_eq_true hs] at h1; rw [← h1, if_pos rfl] at h3; exact ⟨h3, h2⟩)
          clear HL HG HR h0 h1' h2'
          go_enter Tryz.func173, Tryz.ntmps173
          go_wp2_with fail
          obtain ⟨W, hW⟩ : ∃ W, ((w.alloc (.cells #[.int .i64 xa, .int .i64 xo, .int .i64 xn] 205)).alloc (.cells #[.int .i64 b, .bool true, .int .i64 (-1), .int .i64 0] 214)).alloc (.cells #[.int .i64 b, .bool true, .int .i64 (-1), .int .i64 0] 214) = W := ⟨_, rfl⟩
          obtain ⟨p0, p1, p2, p3, hF⟩ := spot_ret w xa xo xn b true W hW
          rw [hW]
          exact bodyPost_ret (v := .agg #[.int .i64 b, .bool true, .int .i64 (-1), .int .i64 0]) (by simp [results, go_sem, p0, p1, p2, p3]) rfl ⟨by rw [← HE.out.1, ← HE.out.2]; rfl, hF⟩
        · have hs' := hs
          have HE := Lib.hid (show (b + xn) = R ∧ true = G by have h1 := HL.out; have h2 := HG.out; have h3 := HR.out; rw [if_neg h0, if_neg h1', if_neg h2'] at h1 h2; rw [decide_eq_false hs] at h1; rw [← h1, if_neg (by simp)] at h3; exact ⟨h3, h2⟩)
          clear HL HG HR h0 h1' h2'
          go_enter Tryz.func173, Tryz.ntmps173
          go_wp2_with fail
          obtain ⟨W, hW⟩ : ∃ W, ((w.alloc (.cells #[.int .i64 xa, .int .i64 xo, .int .i64 xn] 205)).alloc (.cells #[.int .i64 (b + xn), .bool true, .int .i64 (-1), .int .i64 0] 214)).alloc (.cells #[.int .i64 (b + xn), .bool true, .int .i64 (-1), .int .i64 0] 214) = W := ⟨_, rfl⟩
          obtain ⟨p0, p1, p2, p3, hF⟩ := spot_ret w xa xo xn (b + xn) true W hW
          rw [hW]
          exact bodyPost_ret (v := .agg #[.int .i64 (b + xn), .bool true, .int .i64 (-1), .int .i64 0]) (by simp [results, go_sem, p0, p1, p2, p3]) rfl ⟨by rw [← HE.out.1, ← HE.out.2]; rfl, hF⟩
end Go.Proofs.YtldcffonfidbcaaGreatDoor

/- Chapter 8: a walk over ranges, made. -/
namespace Go.Proofs.YtldcffonfidbcaaGreatDoor
open Go.RowKit
set_option maxRecDepth 100000 in
theorem poseach_any (A : Option Addr) (n c : Nat) (w : World) :
    Calls Tryz.prog 172 #[.slice A n c] w fun e w' => e = .returned (.func (.func 179) #[] #[.pointer (some ⟨w.heap.size, 0, none⟩)]) ∧ w' = w.alloc (.cells #[.slice A n c] 148) := by
  go_enter Tryz.func172, Tryz.ntmps172
  go_wp2_with fail
  go_ret
  exact ⟨rfl, rfl⟩
end Go.Proofs.YtldcffonfidbcaaGreatDoor
