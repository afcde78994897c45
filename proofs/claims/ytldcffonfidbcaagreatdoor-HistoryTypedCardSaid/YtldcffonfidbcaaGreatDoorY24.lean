/- A part of the proof for chapter 10: StepInvM, Do, TwoRow, AppMany, Hist, Store8; no conditions. -/
import Derived.Test.YtldcffonfidbcaaGreatDoorY23
import Derived.Test.YtldcffonfidbcaaGreatDoorY20
import Derived.Test.YtldcffonfidbcaaGreatDoorY08
import Derived.Test.YtldcffonfidbcaaGreatDoorY22
/- step.Invert: of marks; of all. -/
namespace Go.Proofs.YtldcffonfidbcaaGreatDoor
open Go.RowKit
attribute [local go_sem high] cut_lh cut_h cut_l cut_lhm
theorem other_right {s : StepM} (hs : stepF s = 0) (hk : s.k = 2 ∨ s.k = 3) : stepF (otherS s) = 0 := by
  obtain ⟨_, hk2, _⟩ := stepF_zero hs
  have hm : okMark s.f s.t s.gf s.gt s.ins s.m s.l.length = true := by
    unfold kindOk at hk2
    rw [if_neg (by omega), if_neg (by omega), if_pos hk] at hk2
    exact hk2
  have hm' := (okMark_iff _ _ _ _ _ _ _).1 hm
  have h1 : kindOk (otherS s) = true := by
    unfold kindOk otherS
    simp only
    rw [if_neg (by omega), if_neg (by omega), if_pos (by omega)]
    exact (okMark_iff _ _ _ _ _ _ _).2 ⟨hm'.1, hm'.2.1, hm'.2.2.1, rfl, rfl, rfl, rfl⟩
  unfold stepF
  rw [if_neg (by simp [otherS]), if_pos (by rw [h1]; rfl)]
set_option maxRecDepth 100000 in
set_option maxHeartbeats 8000000 in
theorem stepinv_mark2 (M M2 : Nat → Prop) (f t : Nat) (gf gt ins mk : Int) (A B : Option Addr) (x l : List Tok) (c b : Nat) (w : World) (hl : Rd M w A (tokC l)) (hx : Rd M2 w B (tokC x)) (hc : l.length ≤ c) (hb : x.length ≤ b) (h0 : applyE ⟨2, f, t, gf, gt, ins, mk, x⟩ l = 0) (hft : f ≤ t) (htl : t ≤ l.length) (hn : l.length ≤ 10000) (hnx : x.length ≤ 10000) :
    Calls Tryz.prog 47 #[.slice A l.length c, .agg #[.int .i64 2, .int .i64 f, .int .i64 t, .int .i64 gf, .int .i64 gt, .int .i64 ins, .slice B x.length b, .int .i64 mk]] w fun e w' => InvPost w (invS ⟨2, f, t, gf, gt, ins, mk, x⟩ l) e w' := by
  have HRl := Lib.hid (hl.mono (M' := Nob) (fun _ h => h.elim))
  have HRx := Lib.hid (hx.mono (M' := Nob) (fun _ h => h.elim))
  have HAP := Lib.hid (fun (W : World) (h : Fr Nob w W) => apply_any Nob ⟨2, f, t, gf, gt, ins, mk, x⟩ A B l c b W (HRl.out.fr h (fun _ _ h => h)) (HRx.out.fr h (fun _ _ h => h)) hc hb (by omega))
  simp only [StepM.cells, h0] at HAP
  have hDn : ((l.drop f).take (t - f)).length = t - f := by rw [List.length_take, List.length_drop]; omega
  have HDR := Lib.hid (fun (W : World) (h : Fr Nob w W) => ((HRl.out.fr h (fun _ _ h => h)).cut3 f t))
  have hs0 : stepF ⟨2, f, t, gf, gt, ins, mk, x⟩ = 0 := (applyE_zero h0).2.1
  obtain ⟨hO, hOK, hNL⟩ : otherS ⟨2, f, t, gf, gt, ins, mk, x⟩ = ⟨3, f, t, 0, 0, 0, mk, []⟩ ∧ stepF ⟨3, f, t, 0, 0, 0, mk, []⟩ = 0 ∧ (doF ⟨2, f, t, gf, gt, ins, mk, x⟩ l).length = l.length := ⟨rfl, other_right hs0 (by simp), by
    unfold doF
    rw [if_neg (by simp), if_neg (by simp), markL_len]⟩
  have hy1 : doF (otherS ⟨2, f, t, gf, gt, ins, mk, x⟩) (doF ⟨2, f, t, gf, gt, ins, mk, x⟩ l) = l → invS ⟨2, f, t, gf, gt, ins, mk, x⟩ l = otherS ⟨2, f, t, gf, gt, ins, mk, x⟩ := fun h => by
    unfold invS
    rw [if_neg (by simp), if_neg (by simp), if_pos h]
  have hy2 : ¬ doF (otherS ⟨2, f, t, gf, gt, ins, mk, x⟩) (doF ⟨2, f, t, gf, gt, ins, mk, x⟩ l) = l → invS ⟨2, f, t, gf, gt, ins, mk, x⟩ l = ⟨0, f, t, 0, 0, 0, 0, (l.drop f).take (t - f)⟩ := fun h => by
    unfold invS
    rw [if_neg (by simp), if_neg (by simp), if_neg h]
    simp
  rw [hO] at hy1 hy2
  obtain ⟨Y, hY⟩ : ∃ Y, invS ⟨2, f, t, gf, gt, ins, mk, x⟩ l = Y := ⟨_, rfl⟩
  obtain ⟨D, hD⟩ : ∃ D, (l.drop f).take (t - f) = D := ⟨_, rfl⟩
  obtain ⟨N, hN⟩ : ∃ N, doF ⟨2, f, t, gf, gt, ins, mk, x⟩ l = N := ⟨_, rfl⟩
  rw [hY]
  rw [hY, hN] at hy1
  rw [hY, hD, hN] at hy2
  rw [hN] at hNL
  simp only [hN] at HAP
  rw [hD] at hDn HDR
  have HY1 := Lib.hid hy1
  have HY2 := Lib.hid hy2
  have HNL := Lib.hid hNL
  have HDO := Lib.hid (fun (W : World) (G : Option Addr) (h : Rd Nob W G (tokC N)) => stepdo_any Nob ⟨3, f, t, 0, 0, 0, mk, []⟩ G none N N.length 0 W h (Rd.nil _ _ _) (Nat.le_refl _) (Nat.le_refl _) hOK (by show (t : Int) ≤ N.length; rw [hNL]; omega) (by rw [hNL]; exact hn))
  obtain ⟨NN, hNN⟩ : ∃ NN, doF ⟨3, f, t, 0, 0, 0, mk, []⟩ N = NN := ⟨_, rfl⟩
  have HNN := Lib.hid (show NN.length = l.length by
    rw [← hNN]
    unfold doF
    rw [if_neg (by simp), if_neg (by simp), markL_len, hNL])
  simp only [hNN, StepM.cells, List.length_nil] at HDO HY1 HY2
  have HSM := Lib.hid (fun (W : World) (G : Option Addr) (h : Rd Nob W G (tokC NN)) (h' : Fr Nob w W) => flatsame_any Nob Nob NN l G A NN.length c W (by rw [HNN.out]; omega) (by omega) h (HRl.out.fr h' (fun _ _ h => h)))
  clear hD hO hOK hy1 hy2 hY hN hNN hs0
  have HDL := Lib.hid hDn
  have HTL := Lib.hid (show t - f ≤ 100000 by omega)
  clear hDn
  obtain ⟨ln, hln⟩ : ∃ ln, l.length = ln := ⟨_, rfl⟩
  obtain ⟨xn, hxn⟩ : ∃ xn, x.length = xn := ⟨_, rfl⟩
  have HLN := Lib.hid hln
  have HXN := Lib.hid hxn
  have hfc : t ≤ c := by omega
  rw [hln] at hc htl hn
  rw [hxn] at hb hnx
  simp only [hln] at HAP HSM HNL HNN hNL ⊢
  simp only [hxn] at HAP ⊢
  simp only [HNN.out] at HSM
  simp only [hNL] at HDO HAP
  clear hNL
  clear hl hx h0 hln hxn
  go_enter Tryz.func47, Tryz.ntmps47
  go_upto_region 1 with (fail)
  obtain ⟨W, hW⟩ : ∃ W, (w.alloc (.cells #[.int .i64 2, .int .i64 f, .int .i64 t, .int .i64 gf, .int .i64 gt, .int .i64 ins, .slice B xn b, .int .i64 mk] 32)).alloc (.cells #[.int .i64 0, .int .i64 0, .int .i64 0, .int .i64 0, .int .i64 0, .int .i64 0, .slice none 0 0, .int .i64 0] 32) = W := ⟨_, rfl⟩
  have HF := Lib.hid (show Fr Nob w W by rw [← hW]; exact ((Fr.refl _ _).alloc _).alloc _)
  have HS := Lib.hid (show Blk W w.heap.size [.int .i64 2, .int .i64 f, .int .i64 t, .int .i64 gf, .int .i64 gt, .int .i64 ins, .slice B xn b, .int .i64 mk] 32 by rw [← hW]; exact (Blk.new _ _ _).alloc _)
  have HZ := Lib.hid (show Blk W (w.heap.size + 1) [.int .i64 0, .int .i64 0, .int .i64 0, .int .i64 0, .int .i64 0, .int .i64 0, .slice none 0 0, .int .i64 0] 32 by rw [← hW]; exact Blk.new_at (w.alloc _) _ _ (w.heap.size + 1) (by simp))
  rw [hW]
  clear hW
  obtain ⟨d0, d1, d2, d3, d4, d5, d6, d7, dl⟩ := HS.out.c8
  go_wp2_with fail
  clear d0 d1 d2 d3 d4 d5 d6 d7 dl
  refine (HAP.out W HF.out).mono ?_
  rintro e w1 ⟨v, rfl, hv, _, hF1⟩
  have HF1 := Lib.hid (HF.out.same hF1)
  have HS1 := Lib.hid (HS.out.fr hF1 (fun h => h))
  have HZ1 := Lib.hid (HZ.out.fr hF1 (fun h => h))
  have HV := Lib.hid ((hv trivial).old HF.out.size)
  clear hF1 hv HF HS HZ HAP
  obtain ⟨d0, d1, d2, d3, d4, d5, d6, d7, dl⟩ := HS1.out.c8
  go_upto_region 5 with (fail)
  obtain ⟨q, hq⟩ : ∃ q, w1.heap.size = q := ⟨_, rfl⟩
  have HQ := Lib.hid hq
  obtain ⟨W2, hW2⟩ : ∃ W, w1.alloc (.cells #[.int .i64 0, .int .i64 f, .int .i64 t, .int .i64 0, .int .i64 0, .int .i64 0, .slice none 0 0, .int .i64 0] 32) = W := ⟨_, rfl⟩
  have HF2 := Lib.hid (show Fr Nob w W2 by rw [← hW2]; exact HF1.out.alloc _)
  have hFa := (show Fr Nob w1 W2 by rw [← hW2]; exact (Fr.refl _ _).alloc _)
  have HS2 := Lib.hid (HS1.out.fr hFa (fun h => h))
  have HZ2 := Lib.hid (HZ1.out.fr hFa (fun h => h))
  have HB2 := Lib.hid (show Blk W2 q [.int .i64 0, .int .i64 f, .int .i64 t, .int .i64 0, .int .i64 0, .int .i64 0, .slice none 0 0, .int .i64 0] 32 by rw [← hW2]; exact Blk.new_at _ _ _ q hq.symm)
  have hqs : w.heap.size + 1 < q := by have := HZ1.out.lt; omega
  have HQS := Lib.hid hqs
  have HF12 := Lib.hid hFa
  rw [hq, hW2]
  clear hW2 hFa HF1 HS1 HZ1 hq d0 d1 d2 d3 d4 d5 d6 d7 dl
  obtain ⟨d0, d1, d2, d3, d4, d5, d6, d7, dl⟩ := HS2.out.c8
  obtain ⟨b0, b1, b2, b3, b4, b5, b6, b7, bl⟩ := HB2.out.c8
  obtain ⟨z0, z1, z2, z3, z4, z5, z6, z7⟩ := HB2.out.z8
  go_upto_region 7 with (fail)
  obtain ⟨r, hr⟩ : ∃ r, W2.heap.size = r := ⟨_, rfl⟩
  obtain ⟨W3, hW3⟩ : ∃ W, W2.alloc (.cells #[.int .i64 3, .int .i64 f, .int .i64 t, .int .i64 0, .int .i64 0, .int .i64 0, .slice none 0 0, .int .i64 mk] 32) = W := ⟨_, rfl⟩
  have hF23 : Fr Nob W2 W3 := by rw [← hW3]; exact (Fr.refl _ _).alloc _
  have HO3 := Lib.hid (show Blk W3 r [.int .i64 3, .int .i64 f, .int .i64 t, .int .i64 0, .int .i64 0, .int .i64 0, .slice none 0 0, .int .i64 mk] 32 by rw [← hW3]; exact Blk.new_at _ _ _ r hr.symm)
  have HF3 := Lib.hid (HF2.out.same hF23)
  have HS3 := Lib.hid (HS2.out.fr hF23 (fun h => h))
  have HZ3 := Lib.hid (HZ2.out.fr hF23 (fun h => h))
  have HB3 := Lib.hid (HB2.out.fr hF23 (fun h => h))
  have hV3 : NewDoc w W3 v N := by
    obtain ⟨g0, rfl, h1, h2⟩ := HV.out
    exact ⟨g0, rfl, h1, (h2.fr HF12.out (fun h => h)).fr hF23 (fun h => h)⟩
  obtain ⟨g0, rfl, hg0, hgb0⟩ := hV3
  rw [hr, hW3]
  clear hr hW3 hF23 HF2 HS2 HZ2 HB2 HV d0 d1 d2 d3 d4 d5 d6 d7 dl b0 b1 b2 b3 b4 b5 b6 b7 bl z0 z1 z2 z3 z4 z5 z6 z7
  obtain ⟨o0, o1, o2, o3, o4, o5, o6, o7, ol⟩ := HO3.out.c8
  rw [HNL.out]
  go_wp2_with fail
  refine (HDO.out W3 (some ⟨g0, 0, none⟩) (fun _ => ⟨_, rfl, fun h => h, fun j u hu => by rw [add_lit]; exact (hgb0.cell j).trans hu⟩)).mono ?_
  clear o0 o1 o2 o3 o4 o5 o6 o7 ol hg0 hgb0 HDO
  rintro e w4 ⟨v4, rfl, hv4, hF4⟩
  obtain ⟨g4, rfl, hg4, hgb4⟩ := hv4
  rw [HNN.out]
  have HF34 := Lib.hid hF4
  clear hF4
  go_wp2_with fail
  refine (HSM.out w4 (some ⟨g4, 0, none⟩) (fun _ => ⟨_, rfl, fun h => h, fun j u hu => by rw [add_lit]; exact (hgb4.cell j).trans hu⟩) (HF3.out.same HF34.out)).mono ?_
  clear hg4 hgb4 HSM
  rintro e w5 ⟨rfl, hF5⟩
  have hF35 := HF34.out.same hF5
  have HFA := Lib.hid (HF3.out.same hF35)
  have HSA := Lib.hid (HS3.out.fr hF35 (fun h => h))
  have HZA := Lib.hid (HZ3.out.fr hF35 (fun h => h))
  have HBA := Lib.hid (HB3.out.fr hF35 (fun h => h))
  have HOA := Lib.hid (HO3.out.fr hF35 (fun h => h))
  clear hF5 hF35 HF34 HF3 HS3 HZ3 HB3 HO3
  by_cases hsame : NN = l
  · have HYY := Lib.hid (HY1.out hsame)
    rw [decide_eq_true hsame]
    clear hsame HY1 HY2
    obtain ⟨o0, o1, o2, o3, o4, o5, o6, o7, ol⟩ := HOA.out.c8
    obtain ⟨d0, d1, d2, d3, d4, d5, d6, d7, dl⟩ := HZA.out.c8
    obtain ⟨z0, z1, z2, z3, z4, z5, z6, z7⟩ := HZA.out.z8
    go_wp2_with fail
    refine ret8m (v := .tuple #[.agg #[.int .i64 3, .int .i64 f, .int .i64 t, .int .i64 0, .int .i64 0, .int .i64 0, .slice none 0 0, .int .i64 mk], .int .i64 0]) HZA.out rfl (fun WE z0 z1 z2 z3 z4 z5 z6 z7 => by simp [results, go_sem, z0, z1, z2, z3, z4, z5, z6, z7]) (fun WE hF => ?_)
    rw [HYY.out]
    refine ⟨none, 0, rfl, Rd.nil _ _ _, Nat.le_refl _, HFA.out.trans hF (fun k hk e => by have e' : k = w.heap.size + 1 := e; omega)⟩
  · have HYY := Lib.hid (HY2.out hsame)
    rw [decide_eq_false hsame]
    clear hsame HY1 HY2
    obtain ⟨d0, d1, d2, d3, d4, d5, d6, d7, dl⟩ := HSA.out.c8
    go_wp2_with fail
    have HBL := Lib.hid (HBA.out.lt)
    have hseg : ∀ y ∈ [(⟨cutA A t f, t - f, D⟩ : Seg)], Rd Nob w5 y.a (tokC y.l) := fun y hy => by
      rw [List.mem_singleton] at hy
      rw [hy]
      exact HDR.out w5 HFA.out
    refine (tokens_new Nob [⟨cutA A t f, t - f, D⟩] w5 w5 22 [.slice (cutA A t f) (t - f) (t - f)] 1 (Fr.refl _ _) hseg (by simp [Seg.v, HDL.out]) rfl (by have := HTL.out; have h2 := HDL.out; simp [segsL]; omega) (by decide)).mono ?_
    rintro e w4 ⟨v', rfl, hv4, hF4⟩
    have e1 : segsL [(⟨cutA A t f, t - f, D⟩ : Seg)] = D := by simp [segsL]
    rw [e1] at hv4
    clear e1 d0 d1 d2 d3 d4 d5 d6 d7 dl
    obtain ⟨g, rfl, hg, hgb⟩ := hv4
    have HG4 := Lib.hid hg
    have HGB := Lib.hid hgb
    have HF34 := Lib.hid hF4
    have HF4 := Lib.hid (HFA.out.same hF4)
    have HS4 := Lib.hid (HSA.out.fr hF4 (fun h => h))
    have HZ4 := Lib.hid (HZA.out.fr hF4 (fun h => h))
    have HB4 := Lib.hid (HBA.out.fr hF4 (fun h => h))
    clear hg hgb hF4 HSA HZA HBA
    obtain ⟨dn, hdn⟩ : ∃ n, D.length = n := ⟨_, rfl⟩
    have HDN := Lib.hid hdn
    rw [hdn]
    clear hdn
    obtain ⟨b0, b1, b2, b3, b4, b5, b6, b7, bl⟩ := HB4.out.c8
    obtain ⟨z0, z1, z2, z3, z4, z5, z6, z7⟩ := HB4.out.z8
    go_upto_region 20 with (fail)
    obtain ⟨W5, hW5⟩ : ∃ W, w4.setCell ⟨q, 6, none⟩ (.slice (some ⟨g, 0, none⟩) dn dn) = W := ⟨_, rfl⟩
    have hF45 : Fr (One q) w4 W5 := by rw [← hW5]; exact ((Fr.refl (One q) w4).setCell (p := ⟨q, 6, none⟩) (.inl rfl) _)
    have HB5 := Lib.hid (show Blk W5 q [.int .i64 0, .int .i64 f, .int .i64 t, .int .i64 0, .int .i64 0, .int .i64 0, .slice (some ⟨g, 0, none⟩) dn dn, .int .i64 0] 32 by rw [← hW5]; exact HB4.out.set 6 _)
    have hgq : q < g := by have := HB4.out.lt; have h2 := HG4.out; have h3 := HBL.out; omega
    have HF5 := Lib.hid (HF4.out.trans hF45 (fun k hk e => by have e' : k = q := e; have := HQS.out; omega))
    have HZ5 := Lib.hid (HZ4.out.fr hF45 (fun e => by have e' : w.heap.size + 1 = q := e; have := HQS.out; omega))
    have HS5 := Lib.hid (HS4.out.fr hF45 (fun e => by have e' : w.heap.size = q := e; have := HQS.out; omega))
    have HG5 := Lib.hid (HGB.out.fr hF45 (fun e => by have e' : g = q := e; omega))
    have HGQ := Lib.hid hgq
    rw [hW5]
    clear hW5 hF45 hgq HF4 HS4 HZ4 HB4 HGB b0 b1 b2 b3 b4 b5 b6 b7 bl z0 z1 z2 z3 z4 z5 z6 z7
    obtain ⟨b0, b1, b2, b3, b4, b5, b6, b7, bl⟩ := HB5.out.c8
    obtain ⟨d0, d1, d2, d3, d4, d5, d6, d7, dl⟩ := HZ5.out.c8
    obtain ⟨z0, z1, z2, z3, z4, z5, z6, z7⟩ := HZ5.out.z8
    go_wp2_with fail
    refine ret8m (v := .tuple #[.agg #[.int .i64 0, .int .i64 f, .int .i64 t, .int .i64 0, .int .i64 0, .int .i64 0, .slice (some ⟨g, 0, none⟩) dn dn, .int .i64 0], .int .i64 0]) HZ5.out rfl (fun WE z0 z1 z2 z3 z4 z5 z6 z7 => by simp [results, go_sem, z0, z1, z2, z3, z4, z5, z6, z7]) (fun WE hF => ?_)
    have hbe := HG5.out.fr hF (fun e => by have e' : g = w.heap.size + 1 := e; have h1 := HGQ.out; have h2 := HQS.out; omega)
    rw [HYY.out]
    refine ⟨some ⟨g, 0, none⟩, dn, by simp only [StepM.cells, HDN.out], fun _ => ⟨_, rfl, ?_, fun j u hu => ?_⟩, Nat.le_of_eq HDN.out, HF5.out.trans hF (fun k hk e => by have e' : k = w.heap.size + 1 := e; omega)⟩
    · show ¬ g < w.heap.size
      have h1 := HGQ.out
      have h2 := HQS.out
      omega
    · rw [add_lit]
      exact (hbe.cell j).trans hu
set_option maxRecDepth 100000 in
set_option maxHeartbeats 8000000 in
theorem stepinv_mark3 (M M2 : Nat → Prop) (f t : Nat) (gf gt ins mk : Int) (A B : Option Addr) (x l : List Tok) (c b : Nat) (w : World) (hl : Rd M w A (tokC l)) (hx : Rd M2 w B (tokC x)) (hc : l.length ≤ c) (hb : x.length ≤ b) (h0 : applyE ⟨3, f, t, gf, gt, ins, mk, x⟩ l = 0) (hft : f ≤ t) (htl : t ≤ l.length) (hn : l.length ≤ 10000) (hnx : x.length ≤ 10000) :
    Calls Tryz.prog 47 #[.slice A l.length c, .agg #[.int .i64 3, .int .i64 f, .int .i64 t, .int .i64 gf, .int .i64 gt, .int .i64 ins, .slice B x.length b, .int .i64 mk]] w fun e w' => InvPost w (invS ⟨3, f, t, gf, gt, ins, mk, x⟩ l) e w' := by
  have HRl := Lib.hid (hl.mono (M' := Nob) (fun _ h => h.elim))
  have HRx := Lib.hid (hx.mono (M' := Nob) (fun _ h => h.elim))
  have HAP := Lib.hid (fun (W : World) (h : Fr Nob w W) => apply_any Nob ⟨3, f, t, gf, gt, ins, mk, x⟩ A B l c b W (HRl.out.fr h (fun _ _ h => h)) (HRx.out.fr h (fun _ _ h => h)) hc hb (by omega))
  simp only [StepM.cells, h0] at HAP
  have hDn : ((l.drop f).take (t - f)).length = t - f := by rw [List.length_take, List.length_drop]; omega
  have HDR := Lib.hid (fun (W : World) (h : Fr Nob w W) => ((HRl.out.fr h (fun _ _ h => h)).cut3 f t))
  have hs0 : stepF ⟨3, f, t, gf, gt, ins, mk, x⟩ = 0 := (applyE_zero h0).2.1
  obtain ⟨hO, hOK, hNL⟩ : otherS ⟨3, f, t, gf, gt, ins, mk, x⟩ = ⟨2, f, t, 0, 0, 0, mk, []⟩ ∧ stepF ⟨2, f, t, 0, 0, 0, mk, []⟩ = 0 ∧ (doF ⟨3, f, t, gf, gt, ins, mk, x⟩ l).length = l.length := ⟨rfl, other_right hs0 (by simp), by
    unfold doF
    rw [if_neg (by simp), if_neg (by simp), markL_len]⟩
  have hy1 : doF (otherS ⟨3, f, t, gf, gt, ins, mk, x⟩) (doF ⟨3, f, t, gf, gt, ins, mk, x⟩ l) = l → invS ⟨3, f, t, gf, gt, ins, mk, x⟩ l = otherS ⟨3, f, t, gf, gt, ins, mk, x⟩ := fun h => by
    unfold invS
    rw [if_neg (by simp), if_neg (by simp), if_pos h]
  have hy2 : ¬ doF (otherS ⟨3, f, t, gf, gt, ins, mk, x⟩) (doF ⟨3, f, t, gf, gt, ins, mk, x⟩ l) = l → invS ⟨3, f, t, gf, gt, ins, mk, x⟩ l = ⟨0, f, t, 0, 0, 0, 0, (l.drop f).take (t - f)⟩ := fun h => by
    unfold invS
    rw [if_neg (by simp), if_neg (by simp), if_neg h]
    simp
  rw [hO] at hy1 hy2
  obtain ⟨Y, hY⟩ : ∃ Y, invS ⟨3, f, t, gf, gt, ins, mk, x⟩ l = Y := ⟨_, rfl⟩
  obtain ⟨D, hD⟩ : ∃ D, (l.drop f).take (t - f) = D := ⟨_, rfl⟩
  obtain ⟨N, hN⟩ : ∃ N, doF ⟨3, f, t, gf, gt, ins, mk, x⟩ l = N := ⟨_, rfl⟩
  rw [hY]
  rw [hY, hN] at hy1
  rw [hY, hD, hN] at hy2
  rw [hN] at hNL
  simp only [hN] at HAP
  rw [hD] at hDn HDR
  have HY1 := Lib.hid hy1
  have HY2 := Lib.hid hy2
  have HNL := Lib.hid hNL
  have HDO := Lib.hid (fun (W : World) (G : Option Addr) (h : Rd Nob W G (tokC N)) => stepdo_any Nob ⟨2, f, t, 0, 0, 0, mk, []⟩ G none N N.length 0 W h (Rd.nil _ _ _) (Nat.le_refl _) (Nat.le_refl _) hOK (by show (t : Int) ≤ N.length; rw [hNL]; omega) (by rw [hNL]; exact hn))
  obtain ⟨NN, hNN⟩ : ∃ NN, doF ⟨2, f, t, 0, 0, 0, mk, []⟩ N = NN := ⟨_, rfl⟩
  have HNN := Lib.hid (show NN.length = l.length by
    rw [← hNN]
    unfold doF
    rw [if_neg (by simp), if_neg (by simp), markL_len, hNL])
  simp only [hNN, StepM.cells, List.length_nil] at HDO HY1 HY2
  have HSM := Lib.hid (fun (W : World) (G : Option Addr) (h : Rd Nob W G (tokC NN)) (h' : Fr Nob w W) => flatsame_any Nob Nob NN l G A NN.length c W (by rw [HNN.out]; omega) (by omega) h (HRl.out.fr h' (fun _ _ h => h)))
  clear hD hO hOK hy1 hy2 hY hN hNN hs0
  have HDL := Lib.hid hDn
  have HTL := Lib.hid (show t - f ≤ 100000 by omega)
  clear hDn
  obtain ⟨ln, hln⟩ : ∃ ln, l.length = ln := ⟨_, rfl⟩
  obtain ⟨xn, hxn⟩ : ∃ xn, x.length = xn := ⟨_, rfl⟩
  have HLN := Lib.hid hln
  have HXN := Lib.hid hxn
  have hfc : t ≤ c := by omega
  rw [hln] at hc htl hn
  rw [hxn] at hb hnx
  simp only [hln] at HAP HSM HNL HNN hNL ⊢
  simp only [hxn] at HAP ⊢
  simp only [HNN.out] at HSM
  simp only [hNL] at HDO HAP
  clear hNL
  clear hl hx h0 hln hxn
  go_enter Tryz.func47, Tryz.ntmps47
  go_upto_region 1 with (fail)
  obtain ⟨W, hW⟩ : ∃ W, (w.alloc (.cells #[.int .i64 3, .int .i64 f, .int .i64 t, .int .i64 gf, .int .i64 gt, .int .i64 ins, .slice B xn b, .int .i64 mk] 32)).alloc (.cells #[.int .i64 0, .int .i64 0, .int .i64 0, .int .i64 0, .int .i64 0, .int .i64 0, .slice none 0 0, .int .i64 0] 32) = W := ⟨_, rfl⟩
  have HF := Lib.hid (show Fr Nob w W by rw [← hW]; exact ((Fr.refl _ _).alloc _).alloc _)
  have HS := Lib.hid (show Blk W w.heap.size [.int .i64 3, .int .i64 f, .int .i64 t, .int .i64 gf, .int .i64 gt, .int .i64 ins, .slice B xn b, .int .i64 mk] 32 by rw [← hW]; exact (Blk.new _ _ _).alloc _)
  have HZ := Lib.hid (show Blk W (w.heap.size + 1) [.int .i64 0, .int .i64 0, .int .i64 0, .int .i64 0, .int .i64 0, .int .i64 0, .slice none 0 0, .int .i64 0] 32 by rw [← hW]; exact Blk.new_at (w.alloc _) _ _ (w.heap.size + 1) (by simp))
  rw [hW]
  clear hW
  obtain ⟨d0, d1, d2, d3, d4, d5, d6, d7, dl⟩ := HS.out.c8
  go_wp2_with fail
  clear d0 d1 d2 d3 d4 d5 d6 d7 dl
  refine (HAP.out W HF.out).mono ?_
  rintro e w1 ⟨v, rfl, hv, _, hF1⟩
  have HF1 := Lib.hid (HF.out.same hF1)
  have HS1 := Lib.hid (HS.out.fr hF1 (fun h => h))
  have HZ1 := Lib.hid (HZ.out.fr hF1 (fun h => h))
  have HV := Lib.hid ((hv trivial).old HF.out.size)
  clear hF1 hv HF HS HZ HAP
  obtain ⟨d0, d1, d2, d3, d4, d5, d6, d7, dl⟩ := HS1.out.c8
  go_upto_region 5 with (fail)
  obtain ⟨q, hq⟩ : ∃ q, w1.heap.size = q := ⟨_, rfl⟩
  have HQ := Lib.hid hq
  obtain ⟨W2, hW2⟩ : ∃ W, w1.alloc (.cells #[.int .i64 0, .int .i64 f, .int .i64 t, .int .i64 0, .int .i64 0, .int .i64 0, .slice none 0 0, .int .i64 0] 32) = W := ⟨_, rfl⟩
  have HF2 := Lib.hid (show Fr Nob w W2 by rw [← hW2]; exact HF1.out.alloc _)
  have hFa := (show Fr Nob w1 W2 by rw [← hW2]; exact (Fr.refl _ _).alloc _)
  have HS2 := Lib.hid (HS1.out.fr hFa (fun h => h))
  have HZ2 := Lib.hid (HZ1.out.fr hFa (fun h => h))
  have HB2 := Lib.hid (show Blk W2 q [.int .i64 0, .int .i64 f, .int .i64 t, .int .i64 0, .int .i64 0, .int .i64 0, .slice none 0 0, .int .i64 0] 32 by rw [← hW2]; exact Blk.new_at _ _ _ q hq.symm)
  have hqs : w.heap.size + 1 < q := by have := HZ1.out.lt; omega
  have HQS := Lib.hid hqs
  have HF12 := Lib.hid hFa
  rw [hq, hW2]
  clear hW2 hFa HF1 HS1 HZ1 hq d0 d1 d2 d3 d4 d5 d6 d7 dl
  obtain ⟨d0, d1, d2, d3, d4, d5, d6, d7, dl⟩ := HS2.out.c8
  obtain ⟨b0, b1, b2, b3, b4, b5, b6, b7, bl⟩ := HB2.out.c8
  obtain ⟨z0, z1, z2, z3, z4, z5, z6, z7⟩ := HB2.out.z8
  go_upto_region 7 with (fail)
  obtain ⟨r, hr⟩ : ∃ r, W2.heap.size = r := ⟨_, rfl⟩
  obtain ⟨W3, hW3⟩ : ∃ W, W2.alloc (.cells #[.int .i64 2, .int .i64 f, .int .i64 t, .int .i64 0, .int .i64 0, .int .i64 0, .slice none 0 0, .int .i64 mk] 32) = W := ⟨_, rfl⟩
  have hF23 : Fr Nob W2 W3 := by rw [← hW3]; exact (Fr.refl _ _).alloc _
  have HO3 := Lib.hid (show Blk W3 r [.int .i64 2, .int .i64 f, .int .i64 t, .int .i64 0, .int .i64 0, .int .i64 0, .slice none 0 0, .int .i64 mk] 32 by rw [← hW3]; exact Blk.new_at _ _ _ r hr.symm)
  have HF3 := Lib.hid (HF2.out.same hF23)
  have HS3 := Lib.hid (HS2.out.fr hF23 (fun h => h))
  have HZ3 := Lib.hid (HZ2.out.fr hF23 (fun h => h))
  have HB3 := Lib.hid (HB2.out.fr hF23 (fun h => h))
  have hV3 : NewDoc w W3 v N := by
    obtain ⟨g0, rfl, h1, h2⟩ := HV.out
    exact ⟨g0, rfl, h1, (h2.fr HF12.out (fun h => h)).fr hF23 (fun h => h)⟩
  obtain ⟨g0, rfl, hg0, hgb0⟩ := hV3
  rw [hr, hW3]
  clear hr hW3 hF23 HF2 HS2 HZ2 HB2 HV d0 d1 d2 d3 d4 d5 d6 d7 dl b0 b1 b2 b3 b4 b5 b6 b7 bl z0 z1 z2 z3 z4 z5 z6 z7
  obtain ⟨o0, o1, o2, o3, o4, o5, o6, o7, ol⟩ := HO3.out.c8
  rw [HNL.out]
  go_wp2_with fail
  refine (HDO.out W3 (some ⟨g0, 0, none⟩) (fun _ => ⟨_, rfl, fun h => h, fun j u hu => by rw [add_lit]; exact (hgb0.cell j).trans hu⟩)).mono ?_
  clear o0 o1 o2 o3 o4 o5 o6 o7 ol hg0 hgb0 HDO
  rintro e w4 ⟨v4, rfl, hv4, hF4⟩
  obtain ⟨g4, rfl, hg4, hgb4⟩ := hv4
  rw [HNN.out]
  have HF34 := Lib.hid hF4
  clear hF4
  go_wp2_with fail
  refine (HSM.out w4 (some ⟨g4, 0, none⟩) (fun _ => ⟨_, rfl, fun h => h, fun j u hu => by rw [add_lit]; exact (hgb4.cell j).trans hu⟩) (HF3.out.same HF34.out)).mono ?_
  clear hg4 hgb4 HSM
  rintro e w5 ⟨rfl, hF5⟩
  have hF35 := HF34.out.same hF5
  have HFA := Lib.hid (HF3.out.same hF35)
  have HSA := Lib.hid (HS3.out.fr hF35 (fun h => h))
  have HZA := Lib.hid (HZ3.out.fr hF35 (fun h => h))
  have HBA := Lib.hid (HB3.out.fr hF35 (fun h => h))
  have HOA := Lib.hid (HO3.out.fr hF35 (fun h => h))
  clear hF5 hF35 HF34 HF3 HS3 HZ3 HB3 HO3
  by_cases hsame : NN = l
  · have HYY := Lib.hid (HY1.out hsame)
    rw [decide_eq_true hsame]
    clear hsame HY1 HY2
    obtain ⟨o0, o1, o2, o3, o4, o5, o6, o7, ol⟩ := HOA.out.c8
    obtain ⟨d0, d1, d2, d3, d4, d5, d6, d7, dl⟩ := HZA.out.c8
    obtain ⟨z0, z1, z2, z3, z4, z5, z6, z7⟩ := HZA.out.z8
    go_wp2_with fail
    refine ret8m (v := .tuple #[.agg #[.int .i64 2, .int .i64 f, .int .i64 t, .int .i64 0, .int .i64 0, .int .i64 0, .slice none 0 0, .int .i64 mk], .int .i64 0]) HZA.out rfl (fun WE z0 z1 z2 z3 z4 z5 z6 z7 => by simp [results, go_sem, z0, z1, z2, z3, z4, z5, z6, z7]) (fun WE hF => ?_)
    rw [HYY.out]
    refine ⟨none, 0, rfl, Rd.nil _ _ _, Nat.le_refl _, HFA.out.trans hF (fun k hk e => by have e' : k = w.heap.size + 1 := e; omega)⟩
  · have HYY := Lib.hid (HY2.out hsame)
    rw [decide_eq_false hsame]
    clear hsame HY1 HY2
    obtain ⟨d0, d1, d2, d3, d4, d5, d6, d7, dl⟩ := HSA.out.c8
    go_wp2_with fail
    have HBL := Lib.hid (HBA.out.lt)
    have hseg : ∀ y ∈ [(⟨cutA A t f, t - f, D⟩ : Seg)], Rd Nob w5 y.a (tokC y.l) := fun y hy => by
      rw [List.mem_singleton] at hy
      rw [hy]
      exact HDR.out w5 HFA.out
    refine (tokens_new Nob [⟨cutA A t f, t - f, D⟩] w5 w5 22 [.slice (cutA A t f) (t - f) (t - f)] 1 (Fr.refl _ _) hseg (by simp [Seg.v, HDL.out]) rfl (by have := HTL.out; have h2 := HDL.out; simp [segsL]; omega) (by decide)).mono ?_
    rintro e w4 ⟨v', rfl, hv4, hF4⟩
    have e1 : segsL [(⟨cutA A t f, t - f, D⟩ : Seg)] = D := by simp [segsL]
    rw [e1] at hv4
    clear e1 d0 d1 d2 d3 d4 d5 d6 d7 dl
    obtain ⟨g, rfl, hg, hgb⟩ := hv4
    have HG4 := Lib.hid hg
    have HGB := Lib.hid hgb
    have HF34 := Lib.hid hF4
    have HF4 := Lib.hid (HFA.out.same hF4)
    have HS4 := Lib.hid (HSA.out.fr hF4 (fun h => h))
    have HZ4 := Lib.hid (HZA.out.fr hF4 (fun h => h))
    have HB4 := Lib.hid (HBA.out.fr hF4 (fun h => h))
    clear hg hgb hF4 HSA HZA HBA
    obtain ⟨dn, hdn⟩ : ∃ n, D.length = n := ⟨_, rfl⟩
    have HDN := Lib.hid hdn
    rw [hdn]
    clear hdn
    obtain ⟨b0, b1, b2, b3, b4, b5, b6, b7, bl⟩ := HB4.out.c8
    obtain ⟨z0, z1, z2, z3, z4, z5, z6, z7⟩ := HB4.out.z8
    go_upto_region 20 with (fail)
    obtain ⟨W5, hW5⟩ : ∃ W, w4.setCell ⟨q, 6, none⟩ (.slice (some ⟨g, 0, none⟩) dn dn) = W := ⟨_, rfl⟩
    have hF45 : Fr (One q) w4 W5 := by rw [← hW5]; exact ((Fr.refl (One q) w4).setCell (p := ⟨q, 6, none⟩) (.inl rfl) _)
    have HB5 := Lib.hid (show Blk W5 q [.int .i64 0, .int .i64 f, .int .i64 t, .int .i64 0, .int .i64 0, .int .i64 0, .slice (some ⟨g, 0, none⟩) dn dn, .int .i64 0] 32 by rw [← hW5]; exact HB4.out.set 6 _)
    have hgq : q < g := by have := HB4.out.lt; have h2 := HG4.out; have h3 := HBL.out; omega
    have HF5 := Lib.hid (HF4.out.trans hF45 (fun k hk e => by have e' : k = q := e; have := HQS.out; omega))
    have HZ5 := Lib.hid (HZ4.out.fr hF45 (fun e => by have e' : w.heap.size + 1 = q := e; have := HQS.out; omega))
    have HS5 := Lib.hid (HS4.out.fr hF45 (fun e => by have e' : w.heap.size = q := e; have := HQS.out; omega))
    have HG5 := Lib.hid (HGB.out.fr hF45 (fun e => by have e' : g = q := e; omega))
    have HGQ := Lib.hid hgq
    rw [hW5]
    clear hW5 hF45 hgq HF4 HS4 HZ4 HB4 HGB b0 b1 b2 b3 b4 b5 b6 b7 bl z0 z1 z2 z3 z4 z5 z6 z7
    obtain ⟨b0, b1, b2, b3, b4, b5, b6, b7, bl⟩ := HB5.out.c8
    obtain ⟨d0, d1, d2, d3, d4, d5, d6, d7, dl⟩ := HZ5.out.c8
    obtain ⟨z0, z1, z2, z3, z4, z5, z6, z7⟩ := HZ5.out.z8
    go_wp2_with fail
    refine ret8m (v := .tuple #[.agg #[.int .i64 0, .int .i64 f, .int .i64 t, .int .i64 0, .int .i64 0, .int .i64 0, .slice (some ⟨g, 0, none⟩) dn dn, .int .i64 0], .int .i64 0]) HZ5.out rfl (fun WE z0 z1 z2 z3 z4 z5 z6 z7 => by simp [results, go_sem, z0, z1, z2, z3, z4, z5, z6, z7]) (fun WE hF => ?_)
    have hbe := HG5.out.fr hF (fun e => by have e' : g = w.heap.size + 1 := e; have h1 := HGQ.out; have h2 := HQS.out; omega)
    rw [HYY.out]
    refine ⟨some ⟨g, 0, none⟩, dn, by simp only [StepM.cells, HDN.out], fun _ => ⟨_, rfl, ?_, fun j u hu => ?_⟩, Nat.le_of_eq HDN.out, HF5.out.trans hF (fun k hk e => by have e' : k = w.heap.size + 1 := e; omega)⟩
    · show ¬ g < w.heap.size
      have h1 := HGQ.out
      have h2 := HQS.out
      omega
    · rw [add_lit]
      exact (hbe.cell j).trans hu
theorem stepinv_any (M M2 : Nat → Prop) (s : StepM) (A B : Option Addr) (l : List Tok) (c b : Nat) (w : World) (hl : Rd M w A (tokC l)) (hx : Rd M2 w B (tokC s.l)) (hc : l.length ≤ c) (hb : s.l.length ≤ b) (h0 : applyE s l = 0) :
    Calls Tryz.prog 47 #[.slice A l.length c, .agg (s.cells (.slice B s.l.length b)).toArray] w fun e w' => InvPost w (invS s l) e w' := by
  obtain ⟨hfl, hs, ht, _⟩ := applyE_zero h0
  have hn := flat_short hfl
  obtain ⟨hxl, hk, _⟩ := stepF_zero hs
  have h1 := (ok0S_iff _ _).1 (kindOk_0 hk)
  have hkk := kindOk_k hk
  have haro := fun h1 => (aroS_iff _ _ _ _ _ _).1 (kindOk_1 hk h1)
  obtain ⟨k, f, t, gf, gt, ins, m, x⟩ := s
  simp only at hxl h1 hkk haro ht
  obtain ⟨f, rfl⟩ := Int.eq_ofNat_of_zero_le h1.1
  obtain ⟨t, rfl⟩ := Int.eq_ofNat_of_zero_le (show 0 ≤ t by omega)
  rcases hkk with rfl | rfl | rfl | rfl
  · have e : invS ⟨0, f, t, gf, gt, ins, m, x⟩ l = ⟨0, f, f + x.length, 0, 0, 0, 0, (l.drop f).take (t - f)⟩ := by
      unfold invS
      simp
    rw [e]
    exact stepinv_rep M M2 f t gf gt ins m A B x l c b w hl hx hc hb h0 (by omega) (by omega) (by omega) (by omega)
  · have ha := haro rfl
    obtain ⟨gf, rfl⟩ := Int.eq_ofNat_of_zero_le (show 0 ≤ gf by omega)
    obtain ⟨gt, rfl⟩ := Int.eq_ofNat_of_zero_le (show 0 ≤ gt by omega)
    obtain ⟨ins, rfl⟩ := Int.eq_ofNat_of_zero_le (show 0 ≤ ins by omega)
    have e : invS ⟨1, f, t, gf, gt, ins, m, x⟩ l = ⟨1, f, (f : Int) + ins + gt - gf + x.length - ins, (f : Int) + ins, (f : Int) + ins + gt - gf, (gf : Int) - f, 0, (l.drop f).take (gf - f) ++ (l.drop gt).take (t - gt)⟩ := by
      unfold invS
      simp
    rw [e]
    exact stepinv_aro M M2 f t gf gt ins m A B x l c b w hl hx hc hb h0 (by omega) (by omega) (by omega) (by omega) (by omega) (by omega) (by omega) (by omega)
  · exact stepinv_mark2 M M2 f t gf gt ins m A B x l c b w hl hx hc hb h0 (by omega) (by omega) (by omega) (by omega)
  · exact stepinv_mark3 M M2 f t gf gt ins m A B x l c b w hl hx hc hb h0 (by omega) (by omega) (by omega) (by omega)
end Go.Proofs.YtldcffonfidbcaaGreatDoor

/- remap.Do: a step, if the document stays valid. -/
namespace Go.Proofs.YtldcffonfidbcaaGreatDoor
open Go.RowKit
set_option maxRecDepth 100000 in
set_option maxHeartbeats 4000000 in
theorem Do_any (M M1 M2 : Nat → Prop) (p : Nat) (rs : List RuleM) (g : List Grp) (hok : SchOk rs g) (s : StepM) (A B : Option Addr) (l : List Tok) (c b : Nat) (w : World) (hs : Sch M w p rs g) (hl : Rd M1 w A (tokC l)) (hx : Rd M2 w B (tokC s.l)) (hc : l.length ≤ c) (hb : s.l.length ≤ b) (hn : l.length ≤ 9223372036854775807) :
    Calls Tryz.prog 46 #[.pointer (some ⟨p, 0, none⟩), .slice A l.length c, .agg (s.cells (.slice B s.l.length b)).toArray] w fun e w' => ∃ v, e = .returned (.tuple #[v, .int .i64 (doE rs g s l)]) ∧ (doE rs g s l = 0 → NewDoc w w' v (doF s l)) ∧ (doE rs g s l ≠ 0 → v = .slice none 0 0) ∧ Fr Nob w w' := by
  have HDO := Lib.hid (fun (W : World) (h : Fr Nob w W) => remdo_any M Nob Nob p rs g hok s A B l c b W (hs.fr0 h) ((hl.mono (fun _ h => h.elim)).fr h (fun _ _ h => h)) ((hx.mono (fun _ h => h.elim)).fr h (fun _ _ h => h)) hc hb hn)
  have HRG := Lib.hid (numF_of (doE_rng rs g s l))
  obtain ⟨E, hE⟩ : ∃ E, doE rs g s l = E := ⟨_, rfl⟩
  simp only [hE] at HDO HRG ⊢
  clear hs hl hx hc hb hn hE hok
  obtain ⟨D, hD⟩ : ∃ D, doF s l = D := ⟨_, rfl⟩
  simp only [hD] at HDO ⊢
  clear hD
  obtain ⟨ln, hln⟩ : ∃ ln, l.length = ln := ⟨_, rfl⟩
  obtain ⟨sv, hsv⟩ : ∃ sv, Value.slice B s.l.length b = sv := ⟨_, rfl⟩
  simp only [hln, hsv] at HDO ⊢
  clear hln hsv
  obtain ⟨k, f, t, gf, gt, ins, m, x⟩ := s
  simp only [StepM.cells] at *
  go_enter Tryz.func46, Tryz.ntmps46
  go_upto_region 1 with (fail)
  obtain ⟨W, hW⟩ : ∃ W, w.alloc (.cells #[.int .i64 k, .int .i64 f, .int .i64 t, .int .i64 gf, .int .i64 gt, .int .i64 ins, sv, .int .i64 m] 32) = W := ⟨_, rfl⟩
  have HF := Lib.hid (show Fr Nob w W by rw [← hW]; exact (Fr.refl _ _).alloc _)
  have hB : Blk W w.heap.size [.int .i64 k, .int .i64 f, .int .i64 t, .int .i64 gf, .int .i64 gt, .int .i64 ins, sv, .int .i64 m] 32 := by rw [← hW]; exact Blk.new _ _ _
  rw [hW]
  clear hW
  obtain ⟨d0, d1, d2, d3, d4, d5, d6, d7, dl⟩ := hB.c8
  clear hB
  go_wp2_with fail
  refine (HDO.out W HF.out).mono ?_
  clear HDO d0 d1 d2 d3 d4 d5 d6 d7 dl
  rintro e w1 ⟨v, rfl, hv, hz, hF1⟩
  have HF1 := Lib.hid (HF.out.same hF1)
  have HV := Lib.hid (fun h => (hv h).old HF.out.size)
  have HZ := Lib.hid hz
  clear hF1 hv hz
  by_cases h0 : E = 0
  · subst h0
    have hr : refV 0 = .nilIface := rfl
    rw [hr]
    clear hr
    go_wp2_with fail
    refine bodyPost_ret (v := .tuple #[v, .int .i64 0]) (by simp [results, go_sem]) rfl ?_
    exact ⟨v, rfl, HV.out trivial, HF1.out⟩
  · have hr : refV E = .iface 201 (.agg #[.int .i64 E]) := if_neg h0
    rw [hr]
    clear hr
    have HN := Lib.hid (number_any E)
    have q4 := eqNilR
    go_wp2_with fail
    refine (HN.out w1).mono ?_
    rintro e w2 ⟨rfl, hF2⟩
    rw [HRG.out]
    have HF2 := Lib.hid (HF1.out.same hF2)
    clear hF2
    go_wp2_with fail
    refine bodyPost_ret (v := .tuple #[.slice none 0 0, .int .i64 E]) (by simp [results, go_sem]) rfl ?_
    exact ⟨_, rfl, fun h => absurd h h0, fun _ => rfl, HF2.out⟩
end Go.Proofs.YtldcffonfidbcaaGreatDoor

/- What append's law leaves of a row of one's own. -/
namespace Go.Proofs.YtldcffonfidbcaaGreatDoor
open Go.RowKit
theorem two_row {W w' : World} {v : Value} {g n m : Nat} (h : (W.grownBy w' none ∧ W.heap.size ≤ g) ∨ (∃ cap0, v = .slice (some ⟨g, 0, none⟩) n cap0 ∧ n + m ≤ cap0 ∧ W.grownBy w' (some g))) : Fr (fun k => v.ownBlock = some k) W w' ∧ (v.ownBlock = some g ∨ W.heap.size ≤ g) := by
  rcases h with ⟨h, hg⟩ | ⟨cap0, rfl, _, h⟩
  · exact ⟨(Fr.of_grown h).mono (fun k _ e => by cases e), .inr hg⟩
  · exact ⟨(Fr.of_grown h).mono (fun k _ e => by cases e; rfl), .inl rfl⟩
end Go.Proofs.YtldcffonfidbcaaGreatDoor

/- append(v, xs...) outside of drawn regions, v a row of one's own, xs whatever. -/
namespace Go.Proofs.YtldcffonfidbcaaGreatDoor
open Go.RowKit
/-- append(v, xs...), v a row of one's own, xs whatever. -/
theorem wp_append_many {P : Program} (w : World) {o : Oper} {a : Act} {K : Act → World → Prop} {Q : Exit → Act → World → Prop} (M : Nat → Prop) (s x : Operand) (t : TypeId)
    (ho : o.op = .call { callee := .builtin .append, args := #[s, x], argTypes := #[t, t] })
    (base : Nat) (e : TypeId) (i : TypeInfo) (z : Value) (size bytes : Nat) (ht : P.underlying t = some (.slice e)) (hi : P.info? e = some i) (hz : i.zero = some z)
    (hsize : i.size = size) (hby : i.bytes = bytes) (hzs : z.cells.size = size) (hsz : 0 < size)
    (v : Value) (n : Nat) (xs : List Value) (hs : a.eval s = v) (hown : w.ownsRow base e size v n xs)
    (A : Option Addr) (m c : Nat) (news : List Value) (hx : a.eval x = .slice A m c) (hl : news.length = m * size) (hr : Rd M w A news) (h1 : ∀ u ∈ news, u.oneCell' = true)
    (h63 : n + m ≤ maxLen) (hbytes : (n + m) * bytes ≤ 140737488355328) (hbase : base ≤ w.heap.size)
    (h : ∀ v' w', w'.ownsRow base e size v' (n + m) (xs ++ news) → Fr (fun k => v.ownBlock = some k) w w' → K (a.put o.dst v') w') : Oper.wp P o a w K Q := by
  by_cases hm : m = 0
  · subst hm
    have hl0 : ∀ (x : Addr), (loadCells x 0).run P w = .ok #[] w := fun x => by simpa using run_loadCells_list (P := P) w x [] (by simp)
    have hn : news = [] := by simpa using hl
    have hrun : (Builtin.append_ #[t, t] o.type #[v, .slice A 0 c]).run P w = .ok v w := by
      rcases hown.2 with ⟨rfl, rfl⟩ | ⟨g, cap, cur, rfl, _, _, hnc, _⟩
      · cases A <;> simp [Builtin.append_, run_underlying ht, sizeOf, typeInfo, hi, Builtin.lenOf, Builtin.firstCells, hl0]
      · cases A <;> simp [Builtin.append_, run_underlying ht, sizeOf, typeInfo, hi, Builtin.lenOf, Builtin.firstCells, hnc, storeCells, hl0]
    unfold Oper.wp execOp
    simp only [ho, resolve, invoke, builtin, Sem.run_bind, Sem.run_pure, Result.andThen_ok, List.map_toArray, List.map_cons, List.map_nil, hs, hx, hrun]
    exact h v w (by rw [hn, List.append_nil, Nat.add_zero]; exact hown) (Fr.refl _ _)
  · obtain ⟨ad, rfl, _, hc⟩ := hr (by
      intro e
      rw [e, List.length_nil] at hl
      have := Nat.mul_pos (Nat.pos_of_ne_zero hm) hsz
      omega)
    refine wp_append_two w s x t ho base e i z size bytes ht hi hz hsize hby hzs hsz v n xs hs hown ad m c news hx hl hc h1 (Nat.pos_of_ne_zero hm) h63 hbytes hbase ?_
    intro g cap w' ho' htwo
    exact h _ _ ho' (two_row htwo).1
theorem wpList_append_many {P : Program} (w : World) {ops : Array Oper} {rest : List Oper} {o : Oper} {a : Act} {Q : Exit → Act → World → Prop} (M : Nat → Prop) (hgd : o.guard = none) (s x : Operand) (t : TypeId)
    (ho : o.op = .call { callee := .builtin .append, args := #[s, x], argTypes := #[t, t] })
    (base : Nat) (e : TypeId) (i : TypeInfo) (z : Value) (size bytes : Nat) (ht : P.underlying t = some (.slice e)) (hi : P.info? e = some i) (hz : i.zero = some z)
    (hsize : i.size = size) (hby : i.bytes = bytes) (hzs : z.cells.size = size) (hsz : 0 < size)
    (v : Value) (n : Nat) (xs : List Value) (hs : a.eval s = v) (hown : w.ownsRow base e size v n xs)
    (A : Option Addr) (m c : Nat) (news : List Value) (hx : a.eval x = .slice A m c) (hl : news.length = m * size) (hr : Rd M w A news) (h1 : ∀ u ∈ news, u.oneCell' = true)
    (h63 : n + m ≤ maxLen) (hbytes : (n + m) * bytes ≤ 140737488355328) (hbase : base ≤ w.heap.size)
    (h : ∀ v' w', w'.ownsRow base e size v' (n + m) (xs ++ news) → Fr (fun k => v.ownBlock = some k) w w' → wpList P ops Q rest (a.put o.dst v') w') : wpList P ops Q (o :: rest) a w :=
  wpList_plain hgd fun _ hK => wp_append_many w M s x t ho base e i z size bytes ht hi hz hsize hby hzs hsz v n xs hs hown A m c news hx hl hr h1 h63 hbytes hbase fun v' w' h2 h3 => hK _ _ (h v' w' h2 h3)
end Go.Proofs.YtldcffonfidbcaaGreatDoor

/- A history in memory: its document, what undoes, what does again. -/
namespace Go.Proofs.YtldcffonfidbcaaGreatDoor
open Go.RowKit
structure HX where
  A : Option Addr
  c : Nat
  l : List Tok
  UA : Option Addr
  uc : Nat
  U : List StepA
  RA : Option Addr
  rc : Nat
  R : List StepA
  lost : Nat
def HX.cells (p : Nat) (x : HX) : List Value := [.pointer (some ⟨p, 0, none⟩), .slice x.A x.l.length x.c, .slice x.UA x.U.length x.uc, .slice x.RA x.R.length x.rc, .int .i64 x.lost]
/-- A stack of steps, outside of the blocks of N. -/
structure Stk (N : Nat → Prop) (w : World) (A : Option Addr) (c : Nat) (L : List StepA) : Prop where
  rows : StepsM N w A L
  cap : L.length ≤ c
  nil : A = none → c = 0
/-- A history at q; what it holds lies outside of the blocks of N. -/
structure HM (N : Nat → Prop) (w : World) (q p : Nat) (rs : List RuleM) (g : List Grp) (x : HX) : Prop where
  blk : Blk w q (x.cells p) 59
  mem : N q
  sch : Sch N w p rs g
  doc : Rd N w x.A (tokC x.l)
  cap : x.l.length ≤ x.c
  und : Stk N w x.UA x.uc x.U
  red : Stk N w x.RA x.rc x.R
theorem Stk.fr {N M : Nat → Prop} {w w' : World} {A : Option Addr} {c : Nat} {L : List StepA} (h : Stk N w A c L) (hf : Fr M w w') (hM : ∀ k, k < w.heap.size → M k → N k) : Stk N w' A c L := ⟨h.rows.fr hf hM, h.cap, h.nil⟩
theorem Stk.fr0 {N : Nat → Prop} {w w' : World} {A : Option Addr} {c : Nat} {L : List StepA} (h : Stk N w A c L) (hf : Fr Nob w w') : Stk N w' A c L := h.fr hf (fun _ _ h => h.elim)
theorem Stk.mono {N N' : Nat → Prop} {w : World} {A : Option Addr} {c : Nat} {L : List StepA} (h : Stk N w A c L) (hN : ∀ k, N' k → N k) : Stk N' w A c L := ⟨h.rows.mono hN, h.cap, h.nil⟩
theorem Stk.bound {N : Nat → Prop} {w : World} {A : Option Addr} {c : Nat} {L : List StepA} (h : Stk N w A c L) : Stk (fun k => N k ∨ w.heap.size ≤ k) w A c L := ⟨h.rows.bound, h.cap, h.nil⟩
theorem Stk.none (N : Nat → Prop) (w : World) : Stk N w none 0 [] := ⟨⟨Rd.nil _ _ _, fun _ h => (by cases h), fun _ h => (by cases h)⟩, Nat.le_refl _, fun _ => rfl⟩
theorem HM.fr0 {N : Nat → Prop} {w w' : World} {q p : Nat} {rs : List RuleM} {g : List Grp} {x : HX} (h : HM N w q p rs g x) (hf : Fr Nob w w') : HM N w' q p rs g x :=
  ⟨h.blk.fr hf (fun h => h), h.mem, h.sch.fr0 hf, h.doc.fr hf (fun _ _ h => h.elim), h.cap, h.und.fr0 hf, h.red.fr0 hf⟩
theorem HM.fr {N M : Nat → Prop} {w w' : World} {q p : Nat} {rs : List RuleM} {g : List Grp} {x : HX} (h : HM N w q p rs g x) (hf : Fr M w w') (hM : ∀ k, k < w.heap.size → M k → N k) (hq : ¬ M q) : HM N w' q p rs g x :=
  ⟨h.blk.fr hf hq, h.mem, h.sch.fr hf hM, h.doc.fr hf hM, h.cap, h.und.fr hf hM, h.red.fr hf hM⟩
theorem HM.mono {N N' : Nat → Prop} {w : World} {q p : Nat} {rs : List RuleM} {g : List Grp} {x : HX} (h : HM N w q p rs g x) (hN : ∀ k, N' k → N k) (hq : N' q) : HM N' w q p rs g x :=
  ⟨h.blk, hq, h.sch.mono hN, h.doc.mono hN, h.cap, h.und.mono hN, h.red.mono hN⟩
theorem HM.bound {N : Nat → Prop} {w : World} {q p : Nat} {rs : List RuleM} {g : List Grp} {x : HX} (h : HM N w q p rs g x) : HM (fun k => N k ∨ w.heap.size ≤ k) w q p rs g x :=
  ⟨h.blk, .inl h.mem, h.sch.bound, h.doc.bound, h.cap, h.und.bound, h.red.bound⟩
/-- What is q's is among the blocks of N. -/
theorem HM.one {N : Nat → Prop} {w : World} {q p : Nat} {rs : List RuleM} {g : List Grp} {x : HX} (h : HM N w q p rs g x) (n : Nat) : ∀ k, k < n → One q k → N k := fun k _ e => by have e' : k = q := e; rw [e']; exact h.mem
theorem HM.f5 {N : Nat → Prop} {w : World} {q p : Nat} {rs : List RuleM} {g : List Grp} {x : HX} (h : HM N w q p rs g x) : w.cell? ⟨q, 0, Option.none⟩ = some (.pointer (some ⟨p, 0, Option.none⟩)) ∧ w.cell? ⟨q, 1, Option.none⟩ = some (.slice x.A x.l.length x.c) ∧
    w.cell? ⟨q, 2, Option.none⟩ = some (.slice x.UA x.U.length x.uc) ∧ w.cell? ⟨q, 3, Option.none⟩ = some (.slice x.RA x.R.length x.rc) ∧ w.cell? ⟨q, 4, Option.none⟩ = some (.int .i64 x.lost) ∧
    w.frozen? ⟨q, 1, Option.none⟩ = false ∧ w.frozen? ⟨q, 2, Option.none⟩ = false ∧ w.frozen? ⟨q, 3, Option.none⟩ = false ∧ w.frozen? ⟨q, 4, Option.none⟩ = false ∧ q < w.heap.size :=
  ⟨h.blk.cell 0, h.blk.cell 1, h.blk.cell 2, h.blk.cell 3, h.blk.cell 4, h.blk.frozen 1, h.blk.frozen 2, h.blk.frozen 3, h.blk.frozen 4, h.blk.lt⟩
set_option maxRecDepth 100000 in
theorem hnone_any (q p : Nat) (w : World) (h0 : w.cell? ⟨q, 0, none⟩ = some (.pointer (some ⟨p, 0, none⟩))) :
    Calls Tryz.prog 27 #[.pointer (some ⟨q, 0, none⟩)] w fun e w' => e = .returned (.bool false) ∧ w' = w := by
  have hl := cell_lt h0
  go_enter Tryz.func27, Tryz.ntmps27
  go_wp2_with fail
  go_ret
  exact ⟨rfl, rfl⟩
theorem doc_of_own {w w' : World} {e : TypeId} {v : Value} {l : List Tok} (h : w'.ownsRow w.heap.size e 4 v (0 + l.length) ([] ++ tokC l)) : Doc (fun k => k < w.heap.size) w' v l := by
  rw [Nat.zero_add, List.nil_append] at h
  obtain ⟨A, c, rfl, hc, hr⟩ := Rd.of_own h (M := fun k => k < w.heap.size) (fun k e => Nat.not_lt.2 (own_base h k e).1)
  exact ⟨A, c, rfl, hc, hr⟩
set_option maxRecDepth 100000 in
set_option maxHeartbeats 2000000 in
/-- append(nil, tokens...). -/
theorem hdoc_any (N : Nat → Prop) (q p : Nat) (rs : List RuleM) (g : List Grp) (x : HX) (w : World) (h : HM N w q p rs g x) (hn : x.l.length ≤ 100000) :
    Calls Tryz.prog 10 #[.pointer (some ⟨q, 0, none⟩)] w fun e w' => ∃ v, e = .returned v ∧ Doc (fun k => k < w.heap.size) w' v x.l ∧ Fr Nob w w' := by
  obtain ⟨q0, q1, q2, q3, q4, f1, f2, f3, f4, hq⟩ := h.f5
  have HN := Lib.hid (hnone_any q p w q0)
  have HD := Lib.hid h.doc
  clear h q2 q3 q4 f1 f2 f3 f4
  obtain ⟨A, c, l, _, _, _, _, _, _, _⟩ := x
  simp only at q1 HD hn ⊢
  obtain ⟨i0, hi, hz0, hz1, hz2⟩ := info_parts infoTok
  go_enter Tryz.func10, Tryz.ntmps10
  go_wp2_with fail
  refine HN.out.mono ?_
  rintro e w ⟨rfl, rfl⟩
  go_wp2_with (at_builtin; refine wpList_append_many _ N rfl _ _ 22 rfl w.heap.size 40 i0 _ 4 32 Tryz.underlying22 hi hz0 hz1 hz2 rfl (by decide) (.slice none 0 0) 0 [] rfl (World.ownsRow_nil _ _ _ _) A l.length c (tokC l) rfl (by rw [tokC_length]; omega) HD.out (tokC_one l) (by simp only [maxLen]; omega) (by omega) (Nat.le_refl _) ?_; intro v w9 hown9 hf9)
  go_ret
  exact ⟨v, rfl, doc_of_own hown9, hf9.mono (fun k _ e => by cases e)⟩
end Go.Proofs.YtldcffonfidbcaaGreatDoor

/- To store eight cells. -/
namespace Go.Proofs.YtldcffonfidbcaaGreatDoor
open Go.RowKit
theorem storeB8 {W : World} {g : Nat} {t : TypeId} {x0 x1 x2 x3 x4 x5 x6 x7 : Value} (hg : Blk W g [x0, x1, x2, x3, x4, x5, x6, x7] t) (y0 y1 y2 y3 y4 y5 y6 y7 : Value) :
    Blk ((((((((W.setCell ⟨g, 0, none⟩ y0).setCell ⟨g, 1, none⟩ y1).setCell ⟨g, 2, none⟩ y2).setCell ⟨g, 3, none⟩ y3).setCell ⟨g, 4, none⟩ y4).setCell ⟨g, 5, none⟩ y5).setCell ⟨g, 6, none⟩ y6).setCell ⟨g, 7, none⟩ y7) g [y0, y1, y2, y3, y4, y5, y6, y7] t ∧
    Fr (One g) W ((((((((W.setCell ⟨g, 0, none⟩ y0).setCell ⟨g, 1, none⟩ y1).setCell ⟨g, 2, none⟩ y2).setCell ⟨g, 3, none⟩ y3).setCell ⟨g, 4, none⟩ y4).setCell ⟨g, 5, none⟩ y5).setCell ⟨g, 6, none⟩ y6).setCell ⟨g, 7, none⟩ y7) :=
  ⟨(((((((hg.set 0 y0).set 1 y1).set 2 y2).set 3 y3).set 4 y4).set 5 y5).set 6 y6).set 7 y7, ((((((((Fr.refl (One g) W).setCell (p := ⟨g, 0, none⟩) (.inl rfl) y0).setCell (p := ⟨g, 1, none⟩) (.inl rfl) y1).setCell (p := ⟨g, 2, none⟩) (.inl rfl) y2).setCell (p := ⟨g, 3, none⟩) (.inl rfl) y3).setCell (p := ⟨g, 4, none⟩) (.inl rfl) y4).setCell (p := ⟨g, 5, none⟩) (.inl rfl) y5).setCell (p := ⟨g, 6, none⟩) (.inl rfl) y6).setCell (p := ⟨g, 7, none⟩) (.inl rfl) y7⟩
end Go.Proofs.YtldcffonfidbcaaGreatDoor
