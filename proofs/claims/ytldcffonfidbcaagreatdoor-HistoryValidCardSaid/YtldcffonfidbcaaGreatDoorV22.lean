/- A part of the proof for chapter 10: StepInvM, ErrIs, Number, Seen; no conditions. -/
import Derived.Test.YtldcffonfidbcaaGreatDoorV21
import Derived.Test.YtldcffonfidbcaaGreatDoorV20
import Derived.Test.YtldcffonfidbcaaGreatDoorV07
import Derived.Lib.IfaceEq
import Derived.Test.YtldcffonfidbcaaGreatDoorV08
/- step.Invert: of marks; of all. -/
namespace Go.Proofs.YtldcffonfidbcaaGreatDoor
open Go.RowKit
attribute [local go_sem high] cut_lh cut_h cut_l cut_lhm
theorem other_right {s : StepM} (hs : stepF s = 0) (hk : s.k = 2 ∨ s.k = 3) : stepF (otherS s) = 0 := by
  obtain ⟨_, hk2, _⟩ := stepF_zero hs
  have hm : okMark s.f s.t s.gf s.gt s.ins s.m s.l.length = true := by
    unfold kindOk at hk2
    rw [if_neg (by omega), if_neg (by omega), if_pos hk] at hk2
    exact hk2
  have hm' := (okMark_iff _ _ _ _ _ _ _).1 hm
  have h1 : kindOk (otherS s) = true := by
    unfold kindOk otherS
    simp only
    rw [if_neg (by omega), if_neg (by omega), if_pos (by omega)]
    exact (okMark_iff _ _ _ _ _ _ _).2 ⟨hm'.1, hm'.2.1, hm'.2.2.1, rfl, rfl, rfl, rfl⟩
  unfold stepF
  rw [if_neg (by simp [otherS]), if_pos (by rw [h1]; rfl)]
set_option maxRecDepth 100000 in
set_option maxHeartbeats 8000000 in
theorem stepinv_mark2 (M M2 : Nat → Prop) (f t : Nat) (gf gt ins mk : Int) (A B : Option Addr) (x l : List Tok) (c b : Nat) (w : World) (hl : Rd M w A (tokC l)) (hx : Rd M2 w B (tokC x)) (hc : l.length ≤ c) (hb : x.length ≤ b) (h0 : applyE ⟨2, f, t, gf, gt, ins, mk, x⟩ l = 0) (hft : f ≤ t) (htl : t ≤ l.length) (hn : l.length ≤ 10000) (hnx : x.length ≤ 10000) :
    Calls Tryz.prog 47 #[.slice A l.length c, .agg #[.int .i64 2, .int .i64 f, .int .i64 t, .int .i64 gf, .int .i64 gt, .int .i64 ins, .slice B x.length b, .int .i64 mk]] w fun e w' => InvPost w (invS ⟨2, f, t, gf, gt, ins, mk, x⟩ l) e w' := by
  have HRl := Lib.hid (hl.mono (M' := Nob) (fun _ h => h.elim))
  have HRx := Lib.hid (hx.mono (M' := Nob) (fun _ h => h.elim))
  have HAP := Lib.hid (fun (W : World) (h : Fr Nob w W) => apply_any Nob ⟨2, f, t, gf, gt, ins, mk, x⟩ A B l c b W (HRl.out.fr h (fun _ _ h => h)) (HRx.out.fr h (fun _ _ h => h)) hc hb (by omega))
  simp only [StepM.cells, h0] at HAP
  have hDn : ((l.drop f).take (t - f)).length = t - f := by rw [List.length_take, List.length_drop]; omega
  have HDR := Lib.hid (fun (W : World) (h : Fr Nob w W) => ((HRl.out.fr h (fun _ _ h => h)).cut3 f t))
  have hs0 : stepF ⟨2, f, t, gf, gt, ins, mk, x⟩ = 0 := (applyE_zero h0).2.1
  obtain ⟨hO, hOK, hNL⟩ : otherS ⟨2, f, t, gf, gt, ins, mk, x⟩ = ⟨3, f, t, 0, 0, 0, mk, []⟩ ∧ stepF ⟨3, f, t, 0, 0, 0, mk, []⟩ = 0 ∧ (doF ⟨2, f, t, gf, gt, ins, mk, x⟩ l).length = l.length := ⟨rfl, other_right hs0 (by simp), by
    unfold doF
    rw [if_neg (by simp), if_neg (by simp), markL_len]⟩
  have hy1 : doF (otherS ⟨2, f, t, gf, gt, ins, mk, x⟩) (doF ⟨2, f, t, gf, gt, ins, mk, x⟩ l) = l → invS ⟨2, f, t, gf, gt, ins, mk, x⟩ l = otherS ⟨2, f, t, gf, gt, ins, mk, x⟩ := fun h => by
    unfold invS
    rw [if_neg (by simp), if_neg (by simp), if_pos h]
  have hy2 : ¬ doF (otherS ⟨2, f, t, gf, gt, ins, mk, x⟩) (doF ⟨2, f, t, gf, gt, ins, mk, x⟩ l) = l → invS ⟨2, f, t, gf, gt, ins, mk, x⟩ l = ⟨0, f, t, 0, 0, 0, 0, (l.drop f).take (t - f)⟩ := fun h => by
    unfold invS
    rw [if_neg (by simp), if_neg (by simp), if_neg h]
    simp
  rw [hO] at hy1 hy2
  obtain ⟨Y, hY⟩ : ∃ Y, invS ⟨2, f, t, gf, gt, ins, mk, x⟩ l = Y := ⟨_, rfl⟩
  obtain ⟨D, hD⟩ : ∃ D, (l.drop f).take (t - f) = D := ⟨_, rfl⟩
  obtain ⟨N, hN⟩ : ∃ N, doF ⟨2, f, t, gf, gt, ins, mk, x⟩ l = N := ⟨_, rfl⟩
  rw [hY]
  rw [hY, hN] at hy1
  rw [hY, hD, hN] at hy2
  rw [hN] at hNL
  simp only [hN] at HAP
  rw [hD] at hDn HDR
  have HY1 := Lib.hid hy1
  have HY2 := Lib.hid hy2
  have HNL := Lib.hid hNL
  have HDO := Lib.hid (fun (W : World) (G : Option Addr) (h : Rd Nob W G (tokC N)) => stepdo_any Nob ⟨3, f, t, 0, 0, 0, mk, []⟩ G none N N.length 0 W h (Rd.nil _ _ _) (Nat.le_refl _) (Nat.le_refl _) hOK (by show (t : Int) ≤ N.length; rw [hNL]; omega) (by rw [hNL]; exact hn))
  obtain ⟨NN, hNN⟩ : ∃ NN, doF ⟨3, f, t, 0, 0, 0, mk, []⟩ N = NN := ⟨_, rfl⟩
  have HNN := Lib.hid (show NN.length = l.length by
    rw [← hNN]
    unfold doF
    rw [if_neg (by simp), if_neg (by simp), markL_len, hNL])
  simp only [hNN, StepM.cells, List.length_nil] at HDO HY1 HY2
  have HSM := Lib.hid (fun (W : World) (G : Option Addr) (h : Rd Nob W G (tokC NN)) (h' : Fr Nob w W) => flatsame_any Nob Nob NN l G A NN.length c W (by rw [HNN.out]; omega) (by omega) h (HRl.out.fr h' (fun _ _ h => h)))
  clear hD hO hOK hy1 hy2 hY hN hNN hs0
  have HDL := Lib.hid hDn
  have HTL := Lib.hid (show t - f ≤ 100000 by omega)
  clear hDn
  obtain ⟨ln, hln⟩ : ∃ ln, l.length = ln := ⟨_, rfl⟩
  obtain ⟨xn, hxn⟩ : ∃ xn, x.length = xn := ⟨_, rfl⟩
  have HLN := Lib.hid hln
  have HXN := Lib.hid hxn
  have hfc : t ≤ c := by omega
  rw [hln] at hc htl hn
  rw [hxn] at hb hnx
  simp only [hln] at HAP HSM HNL HNN hNL ⊢
  simp only [hxn] at HAP ⊢
  simp only [HNN.out] at HSM
  simp only [hNL] at HDO HAP
  clear hNL
  clear hl hx h0 hln hxn
  go_enter Tryz.func47, Tryz.ntmps47
  go_upto_region 1 with (fail)
  obtain ⟨W, hW⟩ : ∃ W, (w.alloc (.cells #[.int .i64 2, .int .i64 f, .int .i64 t, .int .i64 gf, .int .i64 gt, .int .i64 ins, .slice B xn b, .int .i64 mk] 32)).alloc (.cells #[.int .i64 0, .int .i64 0, .int .i64 0, .int .i64 0, .int .i64 0, .int .i64 0, .slice none 0 0, .int .i64 0] 32) = W := ⟨_, rfl⟩
  have HF := Lib.hid (show Fr Nob w W by rw [← hW]; exact ((Fr.refl _ _).alloc _).alloc _)
  have HS := Lib.hid (show Blk W w.heap.size [.int .i64 2, .int .i64 f, .int .i64 t, .int .i64 gf, .int .i64 gt, .int .i64 ins, .slice B xn b, .int .i64 mk] 32 by rw [← hW]; exact (Blk.new _ _ _).alloc _)
  have HZ := Lib.hid (show Blk W (w.heap.size + 1) [.int .i64 0, .int .i64 0, .int .i64 0, .int .i64 0, .int .i64 0, .int .i64 0, .slice none 0 0, .int .i64 0] 32 by rw [← hW]; exact Blk.new_at (w.alloc _) _ _ (w.heap.size + 1) (by simp))
  rw [hW]
  clear hW
  obtain ⟨d0, d1, d2, d3, d4, d5, d6, d7, dl⟩ := HS.out.c8
  go_wp2_with fail
  clear d0 d1 d2 d3 d4 d5 d6 d7 dl
  refine (HAP.out W HF.out).mono ?_
  rintro e w1 ⟨v, rfl, hv, _, hF1⟩
  have HF1 := Lib.hid (HF.out.same hF1)
  have HS1 := Lib.hid (HS.out.fr hF1 (fun h => h))
  have HZ1 := Lib.hid (HZ.out.fr hF1 (fun h => h))
  have HV := Lib.hid ((hv trivial).old HF.out.size)
  clear hF1 hv HF HS HZ HAP
  obtain ⟨d0, d1, d2, d3, d4, d5, d6, d7, dl⟩ := HS1.out.c8
  go_upto_region 5 with (fail)
  obtain ⟨q, hq⟩ : ∃ q, w1.heap.size = q := ⟨_, rfl⟩
  have HQ := Lib.hid hq
  obtain ⟨W2, hW2⟩ : ∃ W, w1.alloc (.cells #[.int .i64 0, .int .i64 f, .int .i64 t, .int .i64 0, .int .i64 0, .int .i64 0, .slice none 0 0, .int .i64 0] 32) = W := ⟨_, rfl⟩
  have HF2 := Lib.hid (show Fr Nob w W2 by rw [← hW2]; exact HF1.out.alloc _)
  have hFa := (show Fr Nob w1 W2 by rw [← hW2]; exact (Fr.refl _ _).alloc _)
  have HS2 := Lib.hid (HS1.out.fr hFa (fun h => h))
  have HZ2 := Lib.hid (HZ1.out.fr hFa (fun h => h))
  have HB2 := Lib.hid (show Blk W2 q [.int .i64 0, .int .i64 f, .int .i64 t, .int .i64 0, .int .i64 0, .int .i64 0, .slice none 0 0, .int .i64 0] 32 by rw [← hW2]; exact Blk.new_at _ _ _ q hq.symm)
  have hqs : w.heap.size + 1 < q := by have := HZ1.out.lt; omega
  have HQS := Lib.hid hqs
  have HF12 := Lib.hid hFa
  rw [hq, hW2]
  clear hW2 hFa HF1 HS1 HZ1 hq d0 d1 d2 d3 d4 d5 d6 d7 dl
  obtain ⟨d0, d1, d2, d3, d4, d5, d6, d7, dl⟩ := HS2.out.c8
  obtain ⟨b0, b1, b2, b3, b4, b5, b6, b7, bl⟩ := HB2.out.c8
  obtain ⟨z0, z1, z2, z3, z4, z5, z6, z7⟩ := HB2.out.z8
  go_upto_region 7 with (fail)
  obtain ⟨r, hr⟩ : ∃ r, W2.heap.size = r := ⟨_, rfl⟩
  obtain ⟨W3, hW3⟩ : ∃ W, W2.alloc (.cells #[.int .i64 3, .int .i64 f, .int .i64 t, .int .i64 0, .int .i64 0, .int .i64 0, .slice none 0 0, .int .i64 mk] 32) = W := ⟨_, rfl⟩
  have hF23 : Fr Nob W2 W3 := by rw [← hW3]; exact (Fr.refl _ _).alloc _
  have HO3 := Lib.hid (show Blk W3 r [.int .i64 3, .int .i64 f, .int .i64 t, .int .i64 0, .int .i64 0, .int .i64 0, .slice none 0 0, .int .i64 mk] 32 by rw [← hW3]; exact Blk.new_at _ _ _ r hr.symm)
  have HF3 := Lib.hid (HF2.out.same hF23)
  have HS3 := Lib.hid (HS2.out.fr hF23 (fun h => h))
  have HZ3 := Lib.hid (HZ2.out.fr hF23 (fun h => h))
  have HB3 := Lib.hid (HB2.out.fr hF23 (fun h => h))
  have hV3 : NewDoc w W3 v N := by
    obtain ⟨g0, rfl, h1, h2⟩ := HV.out
    exact ⟨g0, rfl, h1, (h2.fr HF12.out (fun h => h)).fr hF23 (fun h => h)⟩
  obtain ⟨g0, rfl, hg0, hgb0⟩ := hV3
  rw [hr, hW3]
  clear hr hW3 hF23 HF2 HS2 HZ2 HB2 HV d0 d1 d2 d3 d4 d5 d6 d7 dl b0 b1 b2 b3 b4 b5 b6 b7 bl z0 z1 z2 z3 z4 z5 z6 z7
  obtain ⟨o0, o1, o2, o3, o4, o5, o6, o7, ol⟩ := HO3.out.c8
  rw [HNL.out]
  go_wp2_with fail
  refine (HDO.out W3 (some ⟨g0, 0, none⟩) (fun _ => ⟨_, rfl, fun h => h, fun j u hu => by rw [add_lit]; exact (hgb0.cell j).trans hu⟩)).mono ?_
  clear o0 o1 o2 o3 o4 o5 o6 o7 ol hg0 hgb0 HDO
  rintro e w4 ⟨v4, rfl, hv4, hF4⟩
  obtain ⟨g4, rfl, hg4, hgb4⟩ := hv4
  rw [HNN.out]
  have HF34 := Lib.hid hF4
  clear hF4
  go_wp2_with fail
  refine (HSM.out w4 (some ⟨g4, 0, none⟩) (fun _ => ⟨_, rfl, fun h => h, fun j u hu => by rw [add_lit]; exact (hgb4.cell j).trans hu⟩) (HF3.out.same HF34.out)).mono ?_
  clear hg4 hgb4 HSM
  rintro e w5 ⟨rfl, hF5⟩
  have hF35 := HF34.out.same hF5
  have HFA := Lib.hid (HF3.out.same hF35)
  have HSA := Lib.hid (HS3.out.fr hF35 (fun h => h))
  have HZA := Lib.hid (HZ3.out.fr hF35 (fun h => h))
  have HBA := Lib.hid (HB3.out.fr hF35 (fun h => h))
  have HOA := Lib.hid (HO3.out.fr hF35 (fun h => h))
  clear hF5 hF35 HF34 HF3 HS3 HZ3 HB3 HO3
  by_cases hsame : NN = l
  · have HYY := Lib.hid (HY1.out hsame)
    rw [decide_eq_true hsame]
    clear hsame HY1 HY2
    obtain ⟨o0, o1, o2, o3, o4, o5, o6, o7, ol⟩ := HOA.out.c8
    obtain ⟨d0, d1, d2, d3, d4, d5, d6, d7, dl⟩ := HZA.out.c8
    obtain ⟨z0, z1, z2, z3, z4, z5, z6, z7⟩ := HZA.out.z8
    go_wp2_with fail
    refine ret8m (v := .tuple #[.agg #[.int .i64 3, .int .i64 f, .int .i64 t, .int .i64 0, .int .i64 0, .int .i64 0, .slice none 0 0, .int .i64 mk], .int .i64 0]) HZA.out rfl (fun WE z0 z1 z2 z3 z4 z5 z6 z7 => by simp [results, go_sem, z0, z1, z2, z3, z4, z5, z6, z7]) (fun WE hF => ?_)
    rw [HYY.out]
    refine ⟨none, 0, rfl, Rd.nil _ _ _, Nat.le_refl _, HFA.out.trans hF (fun k hk e => by have e' : k = w.heap.size + 1 := e; omega)⟩
  · have HYY := Lib.hid (HY2.out hsame)
    rw [decide_eq_false hsame]
    clear hsame HY1 HY2
    obtain ⟨d0, d1, d2, d3, d4, d5, d6, d7, dl⟩ := HSA.out.c8
    go_wp2_with fail
    have HBL := Lib.hid (HBA.out.lt)
    have hseg : ∀ y ∈ [(⟨cutA A t f, t - f, D⟩ : Seg)], Rd Nob w5 y.a (tokC y.l) := fun y hy => by
      rw [List.mem_singleton] at hy
      rw [hy]
      exact HDR.out w5 HFA.out
    refine (tokens_new Nob [⟨cutA A t f, t - f, D⟩] w5 w5 22 [.slice (cutA A t f) (t - f) (t - f)] 1 (Fr.refl _ _) hseg (by simp [Seg.v, HDL.out]) rfl (by have := HTL.out; have h2 := HDL.out; simp [segsL]; omega) (by decide)).mono ?_
    rintro e w4 ⟨v', rfl, hv4, hF4⟩
    have e1 : segsL [(⟨cutA A t f, t - f, D⟩ : Seg)] = D := by simp [segsL]
    rw [e1] at hv4
    clear e1 d0 d1 d2 d3 d4 d5 d6 d7 dl
    obtain ⟨g, rfl, hg, hgb⟩ := hv4
    have HG4 := Lib.hid hg
    have HGB := Lib.hid hgb
    have HF34 := Lib.hid hF4
    have HF4 := Lib.hid (HFA.out.same hF4)
    have HS4 := Lib.hid (HSA.out.fr hF4 (fun h => h))
    have HZ4 := Lib.hid (HZA.out.fr hF4 (fun h => h))
    have HB4 := Lib.hid (HBA.out.fr hF4 (fun h => h))
    clear hg hgb hF4 HSA HZA HBA
    obtain ⟨dn, hdn⟩ : ∃ n, D.length = n := ⟨_, rfl⟩
    have HDN := Lib.hid hdn
    rw [hdn]
    clear hdn
    obtain ⟨b0, b1, b2, b3, b4, b5, b6, b7, bl⟩ := HB4.out.c8
    obtain ⟨z0, z1, z2, z3, z4, z5, z6, z7⟩ := HB4.out.z8
    go_upto_region 20 with (fail)
    obtain ⟨W5, hW5⟩ : ∃ W, w4.setCell ⟨q, 6, none⟩ (.slice (some ⟨g, 0, none⟩) dn dn) = W := ⟨_, rfl⟩
    have hF45 : Fr (One q) w4 W5 := by rw [← hW5]; exact ((Fr.refl (One q) w4).setCell (p := ⟨q, 6, none⟩) (.inl rfl) _)
    have HB5 := Lib.hid (show Blk W5 q [.int .i64 0, .int .i64 f, .int .i64 t, .int .i64 0, .int .i64 0, .int .i64 0, .slice (some ⟨g, 0, none⟩) dn dn, .int .i64 0] 32 by rw [← hW5]; exact HB4.out.set 6 _)
    have hgq : q < g := by have := HB4.out.lt; have h2 := HG4.out; have h3 := HBL.out; omega
    have HF5 := Lib.hid (HF4.out.trans hF45 (fun k hk e => by have e' : k = q := e; have := HQS.out; omega))
    have HZ5 := Lib.hid (HZ4.out.fr hF45 (fun e => by have e' : w.heap.size + 1 = q := e; have := HQS.out; omega))
    have HS5 := Lib.hid (HS4.out.fr hF45 (fun e => by have e' : w.heap.size = q := e; have := HQS.out; omega))
    have HG5 := Lib.hid (HGB.out.fr hF45 (fun e => by have e' : g = q := e; omega))
    have HGQ := Lib.hid hgq
    rw [hW5]
    clear hW5 hF45 hgq HF4 HS4 HZ4 HB4 HGB b0 b1 b2 b3 b4 b5 b6 b7 bl z0 z1 z2 z3 z4 z5 z6 z7
    obtain ⟨b0, b1, b2, b3, b4, b5, b6, b7, bl⟩ := HB5.out.c8
    obtain ⟨d0, d1, d2, d3, d4, d5, d6, d7, dl⟩ := HZ5.out.c8
    obtain ⟨z0, z1, z2, z3, z4, z5, z6, z7⟩ := HZ5.out.z8
    go_wp2_with fail
    refine ret8m (v := .tuple #[.agg #[.int .i64 0, .int .i64 f, .int .i64 t, .int .i64 0, .int .i64 0, .int .i64 0, .slice (some ⟨g, 0, none⟩) dn dn, .int .i64 0], .int .i64 0]) HZ5.out rfl (fun WE z0 z1 z2 z3 z4 z5 z6 z7 => by simp [results, go_sem, z0, z1, z2, z3, z4, z5, z6, z7]) (fun WE hF => ?_)
    have hbe := HG5.out.fr hF (fun e => by have e' : g = w.heap.size + 1 := e; have h1 := HGQ.out; have h2 := HQS.out; omega)
    rw [HYY.out]
    refine ⟨some ⟨g, 0, none⟩, dn, by simp only [StepM.cells, HDN.out], fun _ => ⟨_, rfl, ?_, fun j u hu => ?_⟩, Nat.le_of_eq HDN.out, HF5.out.trans hF (fun k hk e => by have e' : k = w.heap.size + 1 := e; omega)⟩
    · show ¬ g < w.heap.size
      have h1 := HGQ.out
      have h2 := HQS.out
      omega
    · rw [add_lit]
      exact (hbe.cell j).trans hu
set_option maxRecDepth 100000 in
set_option maxHeartbeats 8000000 in
theorem stepinv_mark3 (M M2 : Nat → Prop) (f t : Nat) (gf gt ins mk : Int) (A B : Option Addr) (x l : List Tok) (c b : Nat) (w : World) (hl : Rd M w A (tokC l)) (hx : Rd M2 w B (tokC x)) (hc : l.length ≤ c) (hb : x.length ≤ b) (h0 : applyE ⟨3, f, t, gf, gt, ins, mk, x⟩ l = 0) (hft : f ≤ t) (htl : t ≤ l.length) (hn : l.length ≤ 10000) (hnx : x.length ≤ 10000) :
    Calls Tryz.prog 47 #[.slice A l.length c, .agg #[.int .i64 3, .int .i64 f, .int .i64 t, .int .i64 gf, .int .i64 gt, .int .i64 ins, .slice B x.length b, .int .i64 mk]] w fun e w' => InvPost w (invS ⟨3, f, t, gf, gt, ins, mk, x⟩ l) e w' := by
  have HRl := Lib.hid (hl.mono (M' := Nob) (fun _ h => h.elim))
  have HRx := Lib.hid (hx.mono (M' := Nob) (fun _ h => h.elim))
  have HAP := Lib.hid (fun (W : World) (h : Fr Nob w W) => apply_any Nob ⟨3, f, t, gf, gt, ins, mk, x⟩ A B l c b W (HRl.out.fr h (fun _ _ h => h)) (HRx.out.fr h (fun _ _ h => h)) hc hb (by omega))
  simp only [StepM.cells, h0] at HAP
  have hDn : ((l.drop f).take (t - f)).length = t - f := by rw [List.length_take, List.length_drop]; omega
  have HDR := Lib.hid (fun (W : World) (h : Fr Nob w W) => ((HRl.out.fr h (fun _ _ h => h)).cut3 f t))
  have hs0 : stepF ⟨3, f, t, gf, gt, ins, mk, x⟩ = 0 := (applyE_zero h0).2.1
  obtain ⟨hO, hOK, hNL⟩ : otherS ⟨3, f, t, gf, gt, ins, mk, x⟩ = ⟨2, f, t, 0, 0, 0, mk, []⟩ ∧ stepF ⟨2, f, t, 0, 0, 0, mk, []⟩ = 0 ∧ (doF ⟨3, f, t, gf, gt, ins, mk, x⟩ l).length = l.length := ⟨rfl, other_right hs0 (by simp), by
    unfold doF
    rw [if_neg (by simp), if_neg (by simp), markL_len]⟩
  have hy1 : doF (otherS ⟨3, f, t, gf, gt, ins, mk, x⟩) (doF ⟨3, f, t, gf, gt, ins, mk, x⟩ l) = l → invS ⟨3, f, t, gf, gt, ins, mk, x⟩ l = otherS ⟨3, f, t, gf, gt, ins, mk, x⟩ := fun h => by
    unfold invS
    rw [if_neg (by simp), if_neg (by simp), if_pos h]
  have hy2 : ¬ doF (otherS ⟨3, f, t, gf, gt, ins, mk, x⟩) (doF ⟨3, f, t, gf, gt, ins, mk, x⟩ l) = l → invS ⟨3, f, t, gf, gt, ins, mk, x⟩ l = ⟨0, f, t, 0, 0, 0, 0, (l.drop f).take (t - f)⟩ := fun h => by
    unfold invS
    rw [if_neg (by simp), if_neg (by simp), if_neg h]
    simp
  rw [hO] at hy1 hy2
  obtain ⟨Y, hY⟩ : ∃ Y, invS ⟨3, f, t, gf, gt, ins, mk, x⟩ l = Y := ⟨_, rfl⟩
  obtain ⟨D, hD⟩ : ∃ D, (l.drop f).take (t - f) = D := ⟨_, rfl⟩
  obtain ⟨N, hN⟩ : ∃ N, doF ⟨3, f, t, gf, gt, ins, mk, x⟩ l = N := ⟨_, rfl⟩
  rw [hY]
  rw [hY, hN] at hy1
  rw [hY, hD, hN] at hy2
  rw [hN] at hNL
  simp only [hN] at HAP
  rw [hD] at hDn HDR
  have HY1 := Lib.hid hy1
  have HY2 := Lib.hid hy2
  have HNL := Lib.hid hNL
  have HDO := Lib.hid (fun (W : World) (G : Option Addr) (h : Rd Nob W G (tokC N)) => stepdo_any Nob ⟨2, f, t, 0, 0, 0, mk, []⟩ G none N N.length 0 W h (Rd.nil _ _ _) (Nat.le_refl _) (Nat.le_refl _) hOK (by show (t : Int) ≤ N.length; rw [hNL]; omega) (by rw [hNL]; exact hn))
  obtain ⟨NN, hNN⟩ : ∃ NN, doF ⟨2, f, t, 0, 0, 0, mk, []⟩ N = NN := ⟨_, rfl⟩
  have HNN := Lib.hid (show NN.length = l.length by
    rw [← hNN]
    unfold doF
    rw [if_neg (by simp), if_neg (by simp), markL_len, hNL])
  simp only [hNN, StepM.cells, List.length_nil] at HDO HY1 HY2
  have HSM := Lib.hid (fun (W : World) (G : Option Addr) (h : Rd Nob W G (tokC NN)) (h' : Fr Nob w W) => flatsame_any Nob Nob NN l G A NN.length c W (by rw [HNN.out]; omega) (by omega) h (HRl.out.fr h' (fun _ _ h => h)))
  clear hD hO hOK hy1 hy2 hY hN hNN hs0
  have HDL := Lib.hid hDn
  have HTL := Lib.hid (show t - f ≤ 100000 by omega)
  clear hDn
  obtain ⟨ln, hln⟩ : ∃ ln, l.length = ln := ⟨_, rfl⟩
  obtain ⟨xn, hxn⟩ : ∃ xn, x.length = xn := ⟨_, rfl⟩
  have HLN := Lib.hid hln
  have HXN := Lib.hid hxn
  have hfc : t ≤ c := by omega
  rw [hln] at hc htl hn
  rw [hxn] at hb hnx
  simp only [hln] at HAP HSM HNL HNN hNL ⊢
  simp only [hxn] at HAP ⊢
  simp only [HNN.out] at HSM
  simp only [hNL] at HDO HAP
  clear hNL
  clear hl hx h0 hln hxn
  go_enter Tryz.func47, Tryz.ntmps47
  go_upto_region 1 with (fail)
  obtain ⟨W, hW⟩ : ∃ W, (w.alloc (.cells #[.int .i64 3, .int .i64 f, .int .i64 t, .int .i64 gf, .int .i64 gt, .int .i64 ins, .slice B xn b, .int .i64 mk] 32)).alloc (.cells #[.int .i64 0, .int .i64 0, .int .i64 0, .int .i64 0, .int .i64 0, .int .i64 0, .slice none 0 0, .int .i64 0] 32) = W := ⟨_, rfl⟩
  have HF := Lib.hid (show Fr Nob w W by rw [← hW]; exact ((Fr.refl _ _).alloc _).alloc _)
  have HS := Lib.hid (show Blk W w.heap.size [.int .i64 3, .int .i64 f, .int .i64 t, .int .i64 gf, .int .i64 gt, .int .i64 ins, .slice B xn b, .int .i64 mk] 32 by rw [← hW]; exact (Blk.new _ _ _).alloc _)
  have HZ := Lib.hid (show Blk W (w.heap.size + 1) [.int .i64 0, .int .i64 0, .int .i64 0, .int .i64 0, .int .i64 0, .int .i64 0, .slice none 0 0, .int .i64 0] 32 by rw [← hW]; exact Blk.new_at (w.alloc _) _ _ (w.heap.size + 1) (by simp))
  rw [hW]
  clear hW
  obtain ⟨d0, d1, d2, d3, d4, d5, d6, d7, dl⟩ := HS.out.c8
  go_wp2_with fail
  clear d0 d1 d2 d3 d4 d5 d6 d7 dl
  refine (HAP.out W HF.out).mono ?_
  rintro e w1 ⟨v, rfl, hv, _, hF1⟩
  have HF1 := Lib.hid (HF.out.same hF1)
  have HS1 := Lib.hid (HS.out.fr hF1 (fun h => h))
  have HZ1 := Lib.hid (HZ.out.fr hF1 (fun h => h))
  have HV := Lib.hid ((hv trivial).old HF.out.size)
  clear hF1 hv HF HS HZ HAP
  obtain ⟨d0, d1, d2, d3, d4, d5, d6, d7, dl⟩ := HS1.out.c8
  go_upto_region 5 with (fail)
  obtain ⟨q, hq⟩ : ∃ q, w1.heap.size = q := ⟨_, rfl⟩
  have HQ := Lib.hid hq
  obtain ⟨W2, hW2⟩ : ∃ W, w1.alloc (.cells #[.int .i64 0, .int .i64 f, .int .i64 t, .int .i64 0, .int .i64 0, .int .i64 0, .slice none 0 0, .int .i64 0] 32) = W := ⟨_, rfl⟩
  have HF2 := Lib.hid (show Fr Nob w W2 by rw [← hW2]; exact HF1.out.alloc _)
  have hFa := (show Fr Nob w1 W2 by rw [← hW2]; exact (Fr.refl _ _).alloc _)
  have HS2 := Lib.hid (HS1.out.fr hFa (fun h => h))
  have HZ2 := Lib.hid (HZ1.out.fr hFa (fun h => h))
  have HB2 := Lib.hid (show Blk W2 q [.int .i64 0, .int .i64 f, .int .i64 t, .int .i64 0, .int .i64 0, .int .i64 0, .slice none 0 0, .int .i64 0] 32 by rw [← hW2]; exact Blk.new_at _ _ _ q hq.symm)
  have hqs : w.heap.size + 1 < q := by have := HZ1.out.lt; omega
  have HQS := Lib.hid hqs
  have HF12 := Lib.hid hFa
  rw [hq, hW2]
  clear hW2 hFa HF1 HS1 HZ1 hq d0 d1 d2 d3 d4 d5 d6 d7 dl
  obtain ⟨d0, d1, d2, d3, d4, d5, d6, d7, dl⟩ := HS2.out.c8
  obtain ⟨b0, b1, b2, b3, b4, b5, b6, b7, bl⟩ := HB2.out.c8
  obtain ⟨z0, z1, z2, z3, z4, z5, z6, z7⟩ := HB2.out.z8
  go_upto_region 7 with (fail)
  obtain ⟨r, hr⟩ : ∃ r, W2.heap.size = r := ⟨_, rfl⟩
  obtain ⟨W3, hW3⟩ : ∃ W, W2.alloc (.cells #[.int .i64 2, .int .i64 f, .int .i64 t, .int .i64 0, .int .i64 0, .int .i64 0, .slice none 0 0, .int .i64 mk] 32) = W := ⟨_, rfl⟩
  have hF23 : Fr Nob W2 W3 := by rw [← hW3]; exact (Fr.refl _ _).alloc _
  have HO3 := Lib.hid (show Blk W3 r [.int .i64 2, .int .i64 f, .int .i64 t, .int .i64 0, .int .i64 0, .int .i64 0, .slice none 0 0, .int .i64 mk] 32 by rw [← hW3]; exact Blk.new_at _ _ _ r hr.symm)
  have HF3 := Lib.hid (HF2.out.same hF23)
  have HS3 := Lib.hid (HS2.out.fr hF23 (fun h => h))
  have HZ3 := Lib.hid (HZ2.out.fr hF23 (fun h => h))
  have HB3 := Lib.hid (HB2.out.fr hF23 (fun h => h))
  have hV3 : NewDoc w W3 v N := by
    obtain ⟨g0, rfl, h1, h2⟩ := HV.out
    exact ⟨g0, rfl, h1, (h2.fr HF12.out (fun h => h)).fr hF23 (fun h => h)⟩
  obtain ⟨g0, rfl, hg0, hgb0⟩ := hV3
  rw [hr, hW3]
  clear hr hW3 hF23 HF2 HS2 HZ2 HB2 HV d0 d1 d2 d3 d4 d5 d6 d7 dl b0 b1 b2 b3 b4 b5 b6 b7 bl z0 z1 z2 z3 z4 z5 z6 z7
  obtain ⟨o0, o1, o2, o3, o4, o5, o6, o7, ol⟩ := HO3.out.c8
  rw [HNL.out]
  go_wp2_with fail
  refine (HDO.out W3 (some ⟨g0, 0, none⟩) (fun _ => ⟨_, rfl, fun h => h, fun j u hu => by rw [add_lit]; exact (hgb0.cell j).trans hu⟩)).mono ?_
  clear o0 o1 o2 o3 o4 o5 o6 o7 ol hg0 hgb0 HDO
  rintro e w4 ⟨v4, rfl, hv4, hF4⟩
  obtain ⟨g4, rfl, hg4, hgb4⟩ := hv4
  rw [HNN.out]
  have HF34 := Lib.hid hF4
  clear hF4
  go_wp2_with fail
  refine (HSM.out w4 (some ⟨g4, 0, none⟩) (fun _ => ⟨_, rfl, fun h => h, fun j u hu => by rw [add_lit]; exact (hgb4.cell j).trans hu⟩) (HF3.out.same HF34.out)).mono ?_
  clear hg4 hgb4 HSM
  rintro e w5 ⟨rfl, hF5⟩
  have hF35 := HF34.out.same hF5
  have HFA := Lib.hid (HF3.out.same hF35)
  have HSA := Lib.hid (HS3.out.fr hF35 (fun h => h))
  have HZA := Lib.hid (HZ3.out.fr hF35 (fun h => h))
  have HBA := Lib.hid (HB3.out.fr hF35 (fun h => h))
  have HOA := Lib.hid (HO3.out.fr hF35 (fun h => h))
  clear hF5 hF35 HF34 HF3 HS3 HZ3 HB3 HO3
  by_cases hsame : NN = l
  · have HYY := Lib.hid (HY1.out hsame)
    rw [decide_eq_true hsame]
    clear hsame HY1 HY2
    obtain ⟨o0, o1, o2, o3, o4, o5, o6, o7, ol⟩ := HOA.out.c8
    obtain ⟨d0, d1, d2, d3, d4, d5, d6, d7, dl⟩ := HZA.out.c8
    obtain ⟨z0, z1, z2, z3, z4, z5, z6, z7⟩ := HZA.out.z8
    go_wp2_with fail
    refine ret8m (v := .tuple #[.agg #[.int .i64 2, .int .i64 f, .int .i64 t, .int .i64 0, .int .i64 0, .int .i64 0, .slice none 0 0, .int .i64 mk], .int .i64 0]) HZA.out rfl (fun WE z0 z1 z2 z3 z4 z5 z6 z7 => by simp [results, go_sem, z0, z1, z2, z3, z4, z5, z6, z7]) (fun WE hF => ?_)
    rw [HYY.out]
    refine ⟨none, 0, rfl, Rd.nil _ _ _, Nat.le_refl _, HFA.out.trans hF (fun k hk e => by have e' : k = w.heap.size + 1 := e; omega)⟩
  · have HYY := Lib.hid (HY2.out hsame)
    rw [decide_eq_false hsame]
    clear hsame HY1 HY2
    obtain ⟨d0, d1, d2, d3, d4, d5, d6, d7, dl⟩ := HSA.out.c8
    go_wp2_with fail
    have HBL := Lib.hid (HBA.out.lt)
    have hseg : ∀ y ∈ [(⟨cutA A t f, t - f, D⟩ : Seg)], Rd Nob w5 y.a (tokC y.l) := fun y hy => by
      rw [List.mem_singleton] at hy
      rw [hy]
      exact HDR.out w5 HFA.out
    refine (tokens_new Nob [⟨cutA A t f, t - f, D⟩] w5 w5 22 [.slice (cutA A t f) (t - f) (t - f)] 1 (Fr.refl _ _) hseg (by simp [Seg.v, HDL.out]) rfl (by have := HTL.out; have h2 := HDL.out; simp [segsL]; omega) (by decide)).mono ?_
    rintro e w4 ⟨v', rfl, hv4, hF4⟩
    have e1 : segsL [(⟨cutA A t f, t - f, D⟩ : Seg)] = D := by simp [segsL]
    rw [e1] at hv4
    clear e1 d0 d1 d2 d3 d4 d5 d6 d7 dl
    obtain ⟨g, rfl, hg, hgb⟩ := hv4
    have HG4 := Lib.hid hg
    have HGB := Lib.hid hgb
    have HF34 := Lib.hid hF4
    have HF4 := Lib.hid (HFA.out.same hF4)
    have HS4 := Lib.hid (HSA.out.fr hF4 (fun h => h))
    have HZ4 := Lib.hid (HZA.out.fr hF4 (fun h => h))
    have HB4 := Lib.hid (HBA.out.fr hF4 (fun h => h))
    clear hg hgb hF4 HSA HZA HBA
    obtain ⟨dn, hdn⟩ : ∃ n, D.length = n := ⟨_, rfl⟩
    have HDN := Lib.hid hdn
    rw [hdn]
    clear hdn
    obtain ⟨b0, b1, b2, b3, b4, b5, b6, b7, bl⟩ := HB4.out.c8
    obtain ⟨z0, z1, z2, z3, z4, z5, z6, z7⟩ := HB4.out.z8
    go_upto_region 20 with (fail)
    obtain ⟨W5, hW5⟩ : ∃ W, w4.setCell ⟨q, 6, none⟩ (.slice (some ⟨g, 0, none⟩) dn dn) = W := ⟨_, rfl⟩
    have hF45 : Fr (One q) w4 W5 := by rw [← hW5]; exact ((Fr.refl (One q) w4).setCell (p := ⟨q, 6, none⟩) (.inl rfl) _)
    have HB5 := Lib.hid (show Blk W5 q [.int .i64 0, .int .i64 f, .int .i64 t, .int .i64 0, .int .i64 0, .int .i64 0, .slice (some ⟨g, 0, none⟩) dn dn, .int .i64 0] 32 by rw [← hW5]; exact HB4.out.set 6 _)
    have hgq : q < g := by have := HB4.out.lt; have h2 := HG4.out; have h3 := HBL.out; omega
    have HF5 := Lib.hid (HF4.out.trans hF45 (fun k hk e => by have e' : k = q := e; have := HQS.out; omega))
    have HZ5 := Lib.hid (HZ4.out.fr hF45 (fun e => by have e' : w.heap.size + 1 = q := e; have := HQS.out; omega))
    have HS5 := Lib.hid (HS4.out.fr hF45 (fun e => by have e' : w.heap.size = q := e; have := HQS.out; omega))
    have HG5 := Lib.hid (HGB.out.fr hF45 (fun e => by have e' : g = q := e; omega))
    have HGQ := Lib.hid hgq
    rw [hW5]
    clear hW5 hF45 hgq HF4 HS4 HZ4 HB4 HGB b0 b1 b2 b3 b4 b5 b6 b7 bl z0 z1 z2 z3 z4 z5 z6 z7
    obtain ⟨b0, b1, b2, b3, b4, b5, b6, b7, bl⟩ := HB5.out.c8
    obtain ⟨d0, d1, d2, d3, d4, d5, d6, d7, dl⟩ := HZ5.out.c8
    obtain ⟨z0, z1, z2, z3, z4, z5, z6, z7⟩ := HZ5.out.z8
    go_wp2_with fail
    refine ret8m (v := .tuple #[.agg #[.int .i64 0, .int .i64 f, .int .i64 t, .int .i64 0, .int .i64 0, .int .i64 0, .slice (some ⟨g, 0, none⟩) dn dn, .int .i64 0], .int .i64 0]) HZ5.out rfl (fun WE z0 z1 z2 z3 z4 z5 z6 z7 => by simp [results, go_sem, z0, z1, z2, z3, z4, z5, z6, z7]) (fun WE hF => ?_)
    have hbe := HG5.out.fr hF (fun e => by have e' : g = w.heap.size + 1 := e; have h1 := HGQ.out; have h2 := HQS.out; omega)
    rw [HYY.out]
    refine ⟨some ⟨g, 0, none⟩, dn, by simp only [StepM.cells, HDN.out], fun _ => ⟨_, rfl, ?_, fun j u hu => ?_⟩, Nat.le_of_eq HDN.out, HF5.out.trans hF (fun k hk e => by have e' : k = w.heap.size + 1 := e; omega)⟩
    · show ¬ g < w.heap.size
      have h1 := HGQ.out
      have h2 := HQS.out
      omega
    · rw [add_lit]
      exact (hbe.cell j).trans hu
theorem stepinv_any (M M2 : Nat → Prop) (s : StepM) (A B : Option Addr) (l : List Tok) (c b : Nat) (w : World) (hl : Rd M w A (tokC l)) (hx : Rd M2 w B (tokC s.l)) (hc : l.length ≤ c) (hb : s.l.length ≤ b) (h0 : applyE s l = 0) :
    Calls Tryz.prog 47 #[.slice A l.length c, .agg (s.cells (.slice B s.l.length b)).toArray] w fun e w' => InvPost w (invS s l) e w' := by
  obtain ⟨hfl, hs, ht, _⟩ := applyE_zero h0
  have hn := flat_short hfl
  obtain ⟨hxl, hk, _⟩ := stepF_zero hs
  have h1 := (ok0S_iff _ _).1 (kindOk_0 hk)
  have hkk := kindOk_k hk
  have haro := fun h1 => (aroS_iff _ _ _ _ _ _).1 (kindOk_1 hk h1)
  obtain ⟨k, f, t, gf, gt, ins, m, x⟩ := s
  simp only at hxl h1 hkk haro ht
  obtain ⟨f, rfl⟩ := Int.eq_ofNat_of_zero_le h1.1
  obtain ⟨t, rfl⟩ := Int.eq_ofNat_of_zero_le (show 0 ≤ t by omega)
  rcases hkk with rfl | rfl | rfl | rfl
  · have e : invS ⟨0, f, t, gf, gt, ins, m, x⟩ l = ⟨0, f, f + x.length, 0, 0, 0, 0, (l.drop f).take (t - f)⟩ := by
      unfold invS
      simp
    rw [e]
    exact stepinv_rep M M2 f t gf gt ins m A B x l c b w hl hx hc hb h0 (by omega) (by omega) (by omega) (by omega)
  · have ha := haro rfl
    obtain ⟨gf, rfl⟩ := Int.eq_ofNat_of_zero_le (show 0 ≤ gf by omega)
    obtain ⟨gt, rfl⟩ := Int.eq_ofNat_of_zero_le (show 0 ≤ gt by omega)
    obtain ⟨ins, rfl⟩ := Int.eq_ofNat_of_zero_le (show 0 ≤ ins by omega)
    have e : invS ⟨1, f, t, gf, gt, ins, m, x⟩ l = ⟨1, f, (f : Int) + ins + gt - gf + x.length - ins, (f : Int) + ins, (f : Int) + ins + gt - gf, (gf : Int) - f, 0, (l.drop f).take (gf - f) ++ (l.drop gt).take (t - gt)⟩ := by
      unfold invS
      simp
    rw [e]
    exact stepinv_aro M M2 f t gf gt ins m A B x l c b w hl hx hc hb h0 (by omega) (by omega) (by omega) (by omega) (by omega) (by omega) (by omega) (by omega)
  · exact stepinv_mark2 M M2 f t gf gt ins m A B x l c b w hl hx hc hb h0 (by omega) (by omega) (by omega) (by omega)
  · exact stepinv_mark3 M M2 f t gf gt ins m A B x l c b w hl hx hc hb h0 (by omega) (by omega) (by omega) (by omega)
end Go.Proofs.YtldcffonfidbcaaGreatDoor

/- errors.Is at a refusal and a number. -/
namespace Go.Proofs.YtldcffonfidbcaaGreatDoor
open Go.RowKit Go.Extern.Stop Go.Stop Go.Extern
theorem typeOfE (v : Value) (w : World) : (ReflectliteType.typeOf #[.iface 25 v]).run Tryz.prog w = .ok (.iface 262 (.agg #[.pointer (some ⟨1, 25, none⟩)])) w := by kernel_rfl
theorem methodComparable (h : Value) (w : World) : (Go.method 423 262 (.agg #[h]) "Comparable").run Tryz.prog w = .ok (213, .agg #[h]) w := by kernel_rfl
theorem methodUnwrap (h : Value) (w : World) : (Go.method 423 201 (.agg #[h]) "Unwrap").run Tryz.prog w = .ok (207, .agg #[h]) w := by kernel_rfl
set_option maxHeartbeats 1000000 in
theorem unwrap_any (E : Int) (w : World) : Calls Tryz.prog 207 #[.agg #[.int .i64 E]] w fun e w' => e = .returned (.iface 25 (.int .i64 E)) ∧ Fr Nob w w' := by
  go_enter Tryz.func207, Tryz.ntmps207
  go_wp2_with fail
  go_ret
  exact ⟨rfl, (Fr.refl _ _).alloc _⟩
theorem eqRef (E e : Int) (w : World) : (binOp .eql 142 (.iface 201 (.agg #[.int .i64 E])) (.iface 25 (.int .i64 e))).run Tryz.prog w = .ok (.bool false) w := by kernel_rfl
theorem eqNum (E e : Int) (w : World) : (binOp .eql 142 (.iface 25 (.int .i64 E)) (.iface 25 (.int .i64 e))).run Tryz.prog w = .ok (.bool (E == e)) w := Lib.run_eql_iface_int w E e Tryz.underlying142 (by kernel_rfl) Tryz.underlying25
theorem eqNil (E : Int) (w : World) : (binOp .eql 142 (.iface 25 (.int .i64 E)) .nilIface).run Tryz.prog w = .ok (.bool false) w := by kernel_rfl
theorem taRefIs (E : Int) (w : World) : (Instr.typeAssert (.iface 201 (.agg #[.int .i64 E])) 142 282 true).run Tryz.prog w = .ok (.tuple #[.nilIface, .bool false]) w := run_typeAssert_lacksB Tryz.underlying282 (by kernel_rfl) (by kernel_rfl) _ _ w
theorem taRefUn (E : Int) (w : World) : (Instr.typeAssert (.iface 201 (.agg #[.int .i64 E])) 142 269 true).run Tryz.prog w = .ok (.tuple #[.iface 201 (.agg #[.int .i64 E]), .bool true]) w := by kernel_rfl
theorem taNumIs (E : Int) (w : World) : (Instr.typeAssert (.iface 25 (.int .i64 E)) 142 282 true).run Tryz.prog w = .ok (.tuple #[.nilIface, .bool false]) w := run_typeAssert_lacksB Tryz.underlying282 (by kernel_rfl) (by kernel_rfl) _ _ w
theorem taNumUn (E : Int) (w : World) : (Instr.typeAssert (.iface 25 (.int .i64 E)) 142 269 true).run Tryz.prog w = .ok (.tuple #[.nilIface, .bool false]) w := run_typeAssert_lacksB Tryz.underlying269 (by kernel_rfl) (by kernel_rfl) _ _ w
theorem taNumUl (E : Int) (w : World) : (Instr.typeAssert (.iface 25 (.int .i64 E)) 142 270 true).run Tryz.prog w = .ok (.tuple #[.nilIface, .bool false]) w := run_typeAssert_lacksB Tryz.underlying270 (by kernel_rfl) (by kernel_rfl) _ _ w
set_option maxRecDepth 100000 in
set_option maxHeartbeats 4000000 in
theorem is_any (E e : Int) (w : World) : Calls Tryz.prog 149 #[.iface 201 (.agg #[.int .i64 E]), .iface 25 (.int .i64 e), .bool true] w fun ev w' => ev = .returned (.bool (E == e)) ∧ Fr Nob w w' := by
  have mU := methodUnwrap
  have q1 := eqRef
  have q2 := eqNum
  have q3 := eqNil
  have a1 := taRefIs
  have a2 := taRefUn
  have a3 := taNumIs
  have a4 := taNumUn
  have a5 := taNumUl
  have HU := Lib.hid (unwrap_any E)
  go_enter Tryz.func149, Tryz.ntmps149
  go_wp2_with fail
  refine wp_loop_rounds 2 ?_
  rw [rounds_succ]
  go_wp2_with fail
  refine (HU.out w).mono ?_
  rintro ev w1 ⟨rfl, hF1⟩
  have HF1 := Lib.hid hF1
  clear hF1
  go_wp2_with fail
  rw [rounds_succ]
  obtain ⟨z, hz⟩ : ∃ z, (E == e) = z := ⟨_, rfl⟩
  have q4 := fun w => eqNum E e w
  simp only [hz] at q4
  have HZ := Lib.hid hz
  clear q2 hz
  cases z
  · go_wp2_with fail
    go_ret
    exact ⟨by rw [HZ.out]; rfl, HF1.out⟩
  · go_wp2_with fail
    go_ret
    exact ⟨by rw [HZ.out]; rfl, HF1.out⟩
end Go.Proofs.YtldcffonfidbcaaGreatDoor

/- errors.Is and remap.number at a refusal. -/
namespace Go.Proofs.YtldcffonfidbcaaGreatDoor
open Go.RowKit Go.Extern.Stop Go.Stop Go.Extern
theorem comparableE (w : World) : (ReflectliteType.method (fun t => do Rtype.noPackHeld "Comparable" t; pure (.bool (← typeInfo t).comparable)) #[.agg #[.pointer (some ⟨1, 25, none⟩)]]).run Tryz.prog w = .ok (.bool true) w := by kernel_rfl
theorem eqNilR (E : Int) (w : World) : (binOp .eql 142 (.iface 201 (.agg #[.int .i64 E])) .nilIface).run Tryz.prog w = .ok (.bool false) w := by kernel_rfl
set_option maxRecDepth 100000 in
set_option maxHeartbeats 4000000 in
theorem Is_any (E e : Int) (w : World) : Calls Tryz.prog 110 #[.iface 201 (.agg #[.int .i64 E]), .iface 25 (.int .i64 e)] w fun ev w' => ev = .returned (.bool (E == e)) ∧ Fr Nob w w' := by
  have h1 := @run_callFunc_extern Tryz.prog 148 _ ReflectliteType.typeOf Tryz.func148 (by kernel_rfl) (by kernel_rfl) (by kernel_rfl) (by kernel_rfl)
  have h2 := @run_callFunc_extern Tryz.prog 213 _ (ReflectliteType.method (fun t => do Rtype.noPackHeld "Comparable" t; pure (.bool (← typeInfo t).comparable))) Tryz.func213 (by kernel_rfl) (by kernel_rfl) (by kernel_rfl) (by kernel_rfl)
  have t1 := typeOfE
  have m1 := methodComparable
  have c1 := comparableE
  generalize ReflectliteType.method (fun t => do Rtype.noPackHeld "Comparable" t; pure (.bool (← typeInfo t).comparable)) = F at h2 c1
  have q3 := eqNil
  have q4 := eqNilR
  have HI := Lib.hid (is_any E e)
  go_enter Tryz.func110, Tryz.ntmps110
  go_wp2_with fail
  refine (HI.out w).mono ?_
  rintro ev w1 ⟨rfl, hF1⟩
  have HF1 := Lib.hid hF1
  clear hF1
  go_wp2_with fail
  go_ret
  exact ⟨rfl, HF1.out⟩
/-- An error's number, found among all numbers. -/
def numF (E : Int) : Int := if 1 ≤ E ∧ E ≤ 12 then E else 0
set_option maxRecDepth 100000 in
set_option maxHeartbeats 4000000 in
theorem number_any (E : Int) (w : World) : Calls Tryz.prog 73 #[.iface 201 (.agg #[.int .i64 E])] w fun ev w' => ev = .returned (.int .i64 (numF E)) ∧ Fr Nob w w' := by
  obtain ⟨R, hR⟩ : ∃ R, numF E = R := ⟨_, rfl⟩
  rw [hR]
  have HR := Lib.hid hR
  clear hR
  go_enter Tryz.func73, Tryz.ntmps73
  go_wp2_with fail
  go_loopg [3] (12) (fun n b wr => ∃ (k : Nat), n = 12 - k ∧ k ≤ 12 ∧ b = .int .i64 ((k : Int) + 1) ∧ Hid (Fr Nob w wr) ∧ Hid (∀ j : Int, 1 ≤ j → j ≤ k → E ≠ j))
  case atStart => exact ⟨0, rfl, Nat.zero_le _, rfl, Fr.refl _ _, fun j h1 h2 => by omega⟩
  case round =>
    obtain ⟨k, rfl, hk, rfl, HF, HE⟩ := hrel
    by_cases hlt : k < 12
    · have ht : ((k : Int) + 1 ≤ 12) := by omega
      have wk := wrp64 ((k : Int) + 1 + 1) (by omega) (by omega)
      go_wp2_with fail
      refine (Is_any E ((k : Int) + 1) wr).mono ?_
      rintro ev w1 ⟨rfl, hF1⟩
      have HF1 := Lib.hid (HF.out.same hF1)
      clear hF1
      by_cases h0 : E = (k : Int) + 1
      · have h0' : (E == (k : Int) + 1) = true := by simpa using h0
        have HV := Lib.hid (show (k : Int) + 1 = R by rw [← HR.out, numF, if_pos (by omega), h0])
        clear h0
        go_wp2_with fail
        go_ret
        exact ⟨by rw [HV.out]; rfl, HF1.out⟩
      · have h0' : (E == (k : Int) + 1) = false := by simpa using h0
        have HN := Lib.hid h0
        clear h0
        go_wp2_with fail
        go_roundg (12 - (k + 1))
        case measure => omega
        case rel => exact ⟨k + 1, rfl, by omega, by simp, HF1.out, fun j h1 h2 => by
          by_cases h : j ≤ k
          · exact HE.out j h1 h
          · intro h3; exact HN.out (by omega)⟩
    · have ht : ¬ ((k : Int) + 1 ≤ 12) := by omega
      go_wp2_with fail
      go_ret
      refine ⟨?_, HF.out⟩
      rw [← HR.out, numF, if_neg]
      · rfl
      · rintro ⟨h1, h2⟩; exact HE.out E h1 (by omega) rfl
end Go.Proofs.YtldcffonfidbcaaGreatDoor

/- Chapter 7: a set of strings, as a map to true. -/
namespace Go.Proofs.YtldcffonfidbcaaGreatDoor
open Go.RowKit
/-- A map that says true of some strings, in the order in which they came. -/
def SetM (w : World) (b : Nat) (l : List ByteArray) : Prop := ∃ es clock, w.heap[b]? = some (.map es clock) ∧ es.toList.map (fun e => (e.key, e.val)) = l.map (fun s => (Value.string s, Value.bool true))
theorem SetM.fr {M : Nat → Prop} {w w' : World} {b : Nat} {l : List ByteArray} (h : SetM w b l) (hf : Fr M w w') (hM : ¬ M b) : SetM w' b l := by
  obtain ⟨es, c, hb, he⟩ := h
  exact ⟨es, c, by rw [hf.block b (lt_of_blk hb) hM]; exact hb, he⟩
theorem SetM.lt {w : World} {b : Nat} {l : List ByteArray} (h : SetM w b l) : b < w.heap.size := by
  obtain ⟨es, c, hb, he⟩ := h
  exact lt_of_blk hb
theorem SetM.keys {es : Array MapEntry} {l : List ByteArray} (he : es.toList.map (fun e => (e.key, e.val)) = l.map (fun s => (Value.string s, Value.bool true))) :
    (∀ x ∈ es.toList, MapKept.IsKey .string x.key ∧ x.val = .bool true ∧ ∃ s ∈ l, x.key = .string s) ∧ ∀ s ∈ l, ∃ x ∈ es.toList, x.key = .string s := by
  refine ⟨fun x hx => ?_, fun s hs => ?_⟩
  · have h1 : (x.key, x.val) ∈ l.map (fun s => (Value.string s, Value.bool true)) := by rw [← he]; exact List.mem_map.2 ⟨x, hx, rfl⟩
    obtain ⟨s, hs, e⟩ := List.mem_map.1 h1
    injection e with e1 e2
    rw [← e1, ← e2]
    exact ⟨trivial, rfl, s, hs, rfl⟩
  · have h1 : (Value.string s, Value.bool true) ∈ es.toList.map (fun e => (e.key, e.val)) := by rw [he]; exact List.mem_map.2 ⟨s, hs, rfl⟩
    obtain ⟨x, hx, e⟩ := List.mem_map.1 h1
    injection e with e1 e2
    exact ⟨x, hx, e1⟩
section
variable {P : Program} {w : World} {b : Nat} {l : List ByteArray} {t k e : TypeId}
theorem run_seen (ht : P.underlying t = some (.map k e)) (hk : P.underlying k = some .string) (hz : (zeroValue e).run P w = .ok (.bool false) w) (h : SetM w b l) (s : ByteArray) (hs : s ∉ l) :
    (Instr.lookup t (.map (some b)) (.string s) false).run P w = .ok (.bool false) w := by
  obtain ⟨es, c, hb, he⟩ := h
  obtain ⟨h1, h2⟩ := SetM.keys he
  have h3 : (Instr.checkKey es.isEmpty 10000 k (.string s)).run P w = .ok () w := MapKept.run_checkKey hk (k := .string s) (by simp [MapKept.IsKey]) es.isEmpty 9999
  rcases MapKept.findNow_spec (d := .string) (k := .string s) trivial es.toList 0 (fun x hx => (h1 x hx).1) with ⟨h4, _⟩ | ⟨j, x, _, hj, hx⟩
  · have h5 := MapKept.run_findKey (P := P) (w := w) hk h4
    simp only [Instr.lookup, Sem.run_bind, Sem.run_pure, run_underlying ht, Result.andThen, MapKept.run_getObj_map hb, h3, h5, hz]
    rfl
  · obtain ⟨_, _, s', hs', e'⟩ := h1 x (List.mem_of_getElem? hj)
    rw [hx] at e'
    injection e' with e'
    exact absurd (e' ▸ hs') hs
theorem run_see (ht : P.underlying t = some (.map k e)) (hk : P.underlying k = some .string) (h : SetM w b l) (s : ByteArray) (hs : s ∉ l) :
    ∃ W, (Instr.mapUpdate t (.map (some b)) (.string s) (.bool true)).run P w = .ok () W ∧ SetM W b (l ++ [s]) ∧ Fr (One b) w W := by
  obtain ⟨es, c, hb, he⟩ := h
  obtain ⟨h1, h2⟩ := SetM.keys he
  have h3 : (Instr.checkKey false 10000 k (.string s)).run P w = .ok () w := MapKept.run_checkKey hk (k := .string s) (by simp [MapKept.IsKey]) false 9999
  rcases MapKept.findNow_spec (d := .string) (k := .string s) trivial es.toList 0 (fun x hx => (h1 x hx).1) with ⟨h4, _⟩ | ⟨j, x, _, hj, hx⟩
  · have h5 := MapKept.run_findKey (P := P) (w := w) hk h4
    refine ⟨put w b (.map (es.push ⟨.string s, .bool true, c⟩) (c + 1)), ?_, ⟨_, _, put_at hb, ?_⟩, fr_put (Fr.refl (One b) w) (.inl (show One b b from rfl)) _⟩
    · simp only [Instr.mapUpdate, Sem.run_bind, run_underlying ht, Result.andThen, MapKept.run_getObj_map hb, h3, h5]
      rw [MapKept.run_setObj_map _ hb]
      rfl
    · rw [Array.toList_push, List.map_append, he, List.map_append]
      rfl
  · obtain ⟨_, _, s', hs', e'⟩ := h1 x (List.mem_of_getElem? hj)
    rw [hx] at e'
    injection e' with e'
    exact absurd (e' ▸ hs') hs
theorem SetM.new (w : World) : SetM (w.alloc (.map #[] 0)) w.heap.size [] := ⟨#[], 0, (MapKept.heap_alloc w _).1, rfl⟩
end
end Go.Proofs.YtldcffonfidbcaaGreatDoor
