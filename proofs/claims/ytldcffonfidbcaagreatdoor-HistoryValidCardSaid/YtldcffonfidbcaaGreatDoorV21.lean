/- A part of the proof for chapter 10: StepInv; no conditions. -/
import Derived.Test.YtldcffonfidbcaaGreatDoorV20
/- step.Invert: what undoes a step that was done. -/
namespace Go.Proofs.YtldcffonfidbcaaGreatDoor
open Go.RowKit
theorem cut_lhm (A : Option Addr) (n c l h m : Nat) (h1 : l ≤ h) (h2 : h ≤ m) (h3 : m ≤ c) (w : World) :
    (Instr.slice 22 (.slice A n c) (some (.int .i64 (l : Int))) (some (.int .i64 (h : Int))) (some (.int .i64 (m : Int)))).run Tryz.prog w = .ok (.slice (cutA A m l) (h - l) (m - l)) w := by
  rw [run_slice_lhm (P := Tryz.prog) (w := w) (t := 22) (a := A) (len := n) (cap := c) (ht := by rw [elemTok]; exact Tryz.underlying22) .i64 .i64 .i64 l h m (by omega) (by omega) (by omega) (by omega), elemTok, sizeTok]
  simp [Result.andThen, sliced, cutA]
theorem Rd.cut3 {M : Nat → Prop} {w : World} {A : Option Addr} {l : List Tok} (h : Rd M w A (tokC l)) (f t : Nat) : Rd M w (cutA A t f) (tokC ((l.drop f).take (t - f))) := by
  unfold cutA
  split
  · rename_i e
    rw [e, Nat.sub_self, List.take_zero]
    exact Rd.nil _ _ _
  · rw [tokC_take, tokC_drop]
    exact (h.drop _).take _
attribute [local go_sem high] cut_lh cut_h cut_l cut_lhm
/-- What Invert answers: a step, its letters in a row that is new. -/
def InvPost (w : World) (y : StepM) (e : Ending) (w' : World) : Prop := ∃ B b, e = .returned (.tuple #[.agg (y.cells (.slice B y.l.length b)).toArray, .int .i64 0]) ∧ Rd (fun k => k < w.heap.size) w' B (tokC y.l) ∧ y.l.length ≤ b ∧ Fr Nob w w'
set_option maxRecDepth 100000 in
set_option maxHeartbeats 8000000 in
theorem stepinv_rep (M M2 : Nat → Prop) (f t : Nat) (gf gt ins mk : Int) (A B : Option Addr) (x l : List Tok) (c b : Nat) (w : World) (hl : Rd M w A (tokC l)) (hx : Rd M2 w B (tokC x)) (hc : l.length ≤ c) (hb : x.length ≤ b) (h0 : applyE ⟨0, f, t, gf, gt, ins, mk, x⟩ l = 0) (hft : f ≤ t) (htl : t ≤ l.length) (hn : l.length ≤ 10000) (hnx : x.length ≤ 10000) :
    Calls Tryz.prog 47 #[.slice A l.length c, .agg #[.int .i64 0, .int .i64 f, .int .i64 t, .int .i64 gf, .int .i64 gt, .int .i64 ins, .slice B x.length b, .int .i64 mk]] w fun e w' => InvPost w ⟨0, f, f + x.length, 0, 0, 0, 0, (l.drop f).take (t - f)⟩ e w' := by
  have HRl := Lib.hid (hl.mono (M' := Nob) (fun _ h => h.elim))
  have HRx := Lib.hid (hx.mono (M' := Nob) (fun _ h => h.elim))
  have HAP := Lib.hid (fun (W : World) (h : Fr Nob w W) => apply_any Nob ⟨0, f, t, gf, gt, ins, mk, x⟩ A B l c b W (HRl.out.fr h (fun _ _ h => h)) (HRx.out.fr h (fun _ _ h => h)) hc hb (by omega))
  simp only [StepM.cells, h0] at HAP
  have hDn : ((l.drop f).take (t - f)).length = t - f := by rw [List.length_take, List.length_drop]; omega
  have HDR := Lib.hid (fun (W : World) (h : Fr Nob w W) => ((HRl.out.fr h (fun _ _ h => h)).cut3 f t))
  obtain ⟨D, hD⟩ : ∃ D, (l.drop f).take (t - f) = D := ⟨_, rfl⟩
  rw [hD] at hDn HDR ⊢
  clear hD
  have HDL := Lib.hid hDn
  have HTL := Lib.hid (show t - f ≤ 100000 by omega)
  obtain ⟨ln, hln⟩ : ∃ ln, l.length = ln := ⟨_, rfl⟩
  obtain ⟨xn, hxn⟩ : ∃ xn, x.length = xn := ⟨_, rfl⟩
  have HLN := Lib.hid hln
  have HXN := Lib.hid hxn
  have hfc : t ≤ c := by omega
  rw [hln] at hc htl hn
  rw [hxn] at hb hnx
  simp only [hln, hxn] at HAP ⊢
  clear hl hx h0 hln hxn
  go_enter Tryz.func47, Tryz.ntmps47
  go_upto_region 1 with (fail)
  obtain ⟨W, hW⟩ : ∃ W, (w.alloc (.cells #[.int .i64 0, .int .i64 f, .int .i64 t, .int .i64 gf, .int .i64 gt, .int .i64 ins, .slice B xn b, .int .i64 mk] 32)).alloc (.cells #[.int .i64 0, .int .i64 0, .int .i64 0, .int .i64 0, .int .i64 0, .int .i64 0, .slice none 0 0, .int .i64 0] 32) = W := ⟨_, rfl⟩
  have HF := Lib.hid (show Fr Nob w W by rw [← hW]; exact ((Fr.refl _ _).alloc _).alloc _)
  have HS := Lib.hid (show Blk W w.heap.size [.int .i64 0, .int .i64 f, .int .i64 t, .int .i64 gf, .int .i64 gt, .int .i64 ins, .slice B xn b, .int .i64 mk] 32 by rw [← hW]; exact (Blk.new _ _ _).alloc _)
  have HZ := Lib.hid (show Blk W (w.heap.size + 1) [.int .i64 0, .int .i64 0, .int .i64 0, .int .i64 0, .int .i64 0, .int .i64 0, .slice none 0 0, .int .i64 0] 32 by rw [← hW]; exact Blk.new_at (w.alloc _) _ _ (w.heap.size + 1) (by simp))
  rw [hW]
  clear hW
  obtain ⟨d0, d1, d2, d3, d4, d5, d6, d7, dl⟩ := HS.out.c8
  go_wp2_with fail
  clear d0 d1 d2 d3 d4 d5 d6 d7 dl
  refine (HAP.out W HF.out).mono ?_
  rintro e w1 ⟨v, rfl, hv, _, hF1⟩
  have HF1 := Lib.hid (HF.out.same hF1)
  have HS1 := Lib.hid (HS.out.fr hF1 (fun h => h))
  have HZ1 := Lib.hid (HZ.out.fr hF1 (fun h => h))
  have HV := Lib.hid ((hv trivial).old HF.out.size)
  clear hF1 hv HF HS HZ HAP
  obtain ⟨d0, d1, d2, d3, d4, d5, d6, d7, dl⟩ := HS1.out.c8
  go_upto_region 5 with (fail)
  obtain ⟨q, hq⟩ : ∃ q, w1.heap.size = q := ⟨_, rfl⟩
  have HQ := Lib.hid hq
  obtain ⟨W2, hW2⟩ : ∃ W, w1.alloc (.cells #[.int .i64 0, .int .i64 f, .int .i64 t, .int .i64 0, .int .i64 0, .int .i64 0, .slice none 0 0, .int .i64 0] 32) = W := ⟨_, rfl⟩
  have HF2 := Lib.hid (show Fr Nob w W2 by rw [← hW2]; exact HF1.out.alloc _)
  have hFa := (show Fr Nob w1 W2 by rw [← hW2]; exact (Fr.refl _ _).alloc _)
  have HS2 := Lib.hid (HS1.out.fr hFa (fun h => h))
  have HZ2 := Lib.hid (HZ1.out.fr hFa (fun h => h))
  have HB2 := Lib.hid (show Blk W2 q [.int .i64 0, .int .i64 f, .int .i64 t, .int .i64 0, .int .i64 0, .int .i64 0, .slice none 0 0, .int .i64 0] 32 by rw [← hW2]; exact Blk.new_at _ _ _ q hq.symm)
  have hqs : w.heap.size + 1 < q := by have := HZ1.out.lt; omega
  have HQS := Lib.hid hqs
  rw [hq, hW2]
  clear hW2 hFa HF1 HS1 HZ1 hq d0 d1 d2 d3 d4 d5 d6 d7 dl
  obtain ⟨d0, d1, d2, d3, d4, d5, d6, d7, dl⟩ := HS2.out.c8
  obtain ⟨b0, b1, b2, b3, b4, b5, b6, b7, bl⟩ := HB2.out.c8
  obtain ⟨z0, z1, z2, z3, z4, z5, z6, z7⟩ := HB2.out.z8
  go_upto_region 19 with (fail)
  obtain ⟨W3, hW3⟩ : ∃ W, W2.setCell ⟨q, 2, none⟩ (.int .i64 (↑f + ↑xn)) = W := ⟨_, rfl⟩
  have hF23 : Fr (One q) W2 W3 := by rw [← hW3]; exact ((Fr.refl (One q) W2).setCell (p := ⟨q, 2, none⟩) (.inl rfl) _)
  have HB3 := Lib.hid (show Blk W3 q [.int .i64 0, .int .i64 f, .int .i64 (↑f + ↑xn), .int .i64 0, .int .i64 0, .int .i64 0, .slice none 0 0, .int .i64 0] 32 by rw [← hW3]; exact (HB2.out.set 2 _))
  have HF3 := Lib.hid (HF2.out.trans hF23 (fun k hk e => by have e' : k = q := e; have := HQS.out; omega))
  have HS3 := Lib.hid (HS2.out.fr hF23 (fun e => by have e' : w.heap.size = q := e; have := HQS.out; omega))
  have HZ3 := Lib.hid (HZ2.out.fr hF23 (fun e => by have e' : w.heap.size + 1 = q := e; have := HQS.out; omega))
  rw [hW3]
  clear hW3 hF23 HF2 HS2 HZ2 HB2 d0 d1 d2 d3 d4 d5 d6 d7 dl b0 b1 b2 b3 b4 b5 b6 b7 bl z0 z1 z2 z3 z4 z5 z6 z7
  obtain ⟨d0, d1, d2, d3, d4, d5, d6, d7, dl⟩ := HS3.out.c8
  clear hDn
  go_wp2_with fail
  have HBL := Lib.hid (HB3.out.lt)
  have hseg : ∀ y ∈ [(⟨cutA A t f, t - f, D⟩ : Seg)], Rd Nob W3 y.a (tokC y.l) := fun y hy => by
    rw [List.mem_singleton] at hy
    rw [hy]
    exact HDR.out W3 HF3.out
  refine (tokens_new Nob [⟨cutA A t f, t - f, D⟩] W3 W3 22 [.slice (cutA A t f) (t - f) (t - f)] 1 (Fr.refl _ _) hseg (by simp [Seg.v, HDL.out]) rfl (by have := HTL.out; have h2 := HDL.out; simp [segsL]; omega) (by decide)).mono ?_
  rintro e w4 ⟨v', rfl, hv4, hF4⟩
  have e1 : segsL [(⟨cutA A t f, t - f, D⟩ : Seg)] = D := by simp [segsL]
  rw [e1] at hv4
  clear e1 d0 d1 d2 d3 d4 d5 d6 d7 dl
  obtain ⟨g, rfl, hg, hgb⟩ := hv4
  have HG4 := Lib.hid hg
  have HGB := Lib.hid hgb
  have HF34 := Lib.hid hF4
  have HF4 := Lib.hid (HF3.out.same hF4)
  have HS4 := Lib.hid (HS3.out.fr hF4 (fun h => h))
  have HZ4 := Lib.hid (HZ3.out.fr hF4 (fun h => h))
  have HB4 := Lib.hid (HB3.out.fr hF4 (fun h => h))
  clear hg hgb hF4 HS3 HZ3 HB3
  obtain ⟨dn, hdn⟩ : ∃ n, D.length = n := ⟨_, rfl⟩
  have HDN := Lib.hid hdn
  rw [hdn]
  clear hdn
  obtain ⟨b0, b1, b2, b3, b4, b5, b6, b7, bl⟩ := HB4.out.c8
  obtain ⟨z0, z1, z2, z3, z4, z5, z6, z7⟩ := HB4.out.z8
  go_upto_region 20 with (fail)
  obtain ⟨W5, hW5⟩ : ∃ W, w4.setCell ⟨q, 6, none⟩ (.slice (some ⟨g, 0, none⟩) dn dn) = W := ⟨_, rfl⟩
  have hF45 : Fr (One q) w4 W5 := by rw [← hW5]; exact ((Fr.refl (One q) w4).setCell (p := ⟨q, 6, none⟩) (.inl rfl) _)
  have HB5 := Lib.hid (show Blk W5 q [.int .i64 0, .int .i64 f, .int .i64 (↑f + ↑xn), .int .i64 0, .int .i64 0, .int .i64 0, .slice (some ⟨g, 0, none⟩) dn dn, .int .i64 0] 32 by rw [← hW5]; exact HB4.out.set 6 _)
  have hgq : q < g := by have := HB4.out.lt; have h2 := HG4.out; have h3 := HBL.out; omega
  have HF5 := Lib.hid (HF4.out.trans hF45 (fun k hk e => by have e' : k = q := e; have := HQS.out; omega))
  have HZ5 := Lib.hid (HZ4.out.fr hF45 (fun e => by have e' : w.heap.size + 1 = q := e; have := HQS.out; omega))
  have HS5 := Lib.hid (HS4.out.fr hF45 (fun e => by have e' : w.heap.size = q := e; have := HQS.out; omega))
  have HG5 := Lib.hid (HGB.out.fr hF45 (fun e => by have e' : g = q := e; omega))
  have HGQ := Lib.hid hgq
  rw [hW5]
  clear hW5 hF45 hgq HF4 HS4 HZ4 HB4 HGB b0 b1 b2 b3 b4 b5 b6 b7 bl z0 z1 z2 z3 z4 z5 z6 z7
  obtain ⟨b0, b1, b2, b3, b4, b5, b6, b7, bl⟩ := HB5.out.c8
  obtain ⟨d0, d1, d2, d3, d4, d5, d6, d7, dl⟩ := HZ5.out.c8
  obtain ⟨z0, z1, z2, z3, z4, z5, z6, z7⟩ := HZ5.out.z8
  go_wp2_with fail
  refine ret8m (v := .tuple #[.agg #[.int .i64 0, .int .i64 f, .int .i64 (↑f + ↑xn), .int .i64 0, .int .i64 0, .int .i64 0, .slice (some ⟨g, 0, none⟩) dn dn, .int .i64 0], .int .i64 0]) HZ5.out rfl (fun WE z0 z1 z2 z3 z4 z5 z6 z7 => by simp [results, go_sem, z0, z1, z2, z3, z4, z5, z6, z7]) (fun WE hF => ?_)
  have hbe := HG5.out.fr hF (fun e => by have e' : g = w.heap.size + 1 := e; have h1 := HGQ.out; have h2 := HQS.out; omega)
  refine ⟨some ⟨g, 0, none⟩, dn, by simp only [StepM.cells, HDN.out, HXN.out], fun _ => ⟨_, rfl, ?_, fun j u hu => ?_⟩, Nat.le_of_eq HDN.out, HF5.out.trans hF (fun k hk e => by have e' : k = w.heap.size + 1 := e; omega)⟩
  · show ¬ g < w.heap.size
    have h1 := HGQ.out
    have h2 := HQS.out
    omega
  · rw [add_lit]
    exact (hbe.cell j).trans hu
set_option maxRecDepth 100000 in
set_option maxHeartbeats 8000000 in
theorem stepinv_aro (M M2 : Nat → Prop) (f t gf gt ins : Nat) (mk : Int) (A B : Option Addr) (x l : List Tok) (c b : Nat) (w : World) (hl : Rd M w A (tokC l)) (hx : Rd M2 w B (tokC x)) (hc : l.length ≤ c) (hb : x.length ≤ b) (h0 : applyE ⟨1, f, t, gf, gt, ins, mk, x⟩ l = 0) (hft : f ≤ t) (htl : t ≤ l.length) (h1 : f ≤ gf) (h2 : gf < gt) (h3 : gt ≤ t) (h4 : ins ≤ x.length) (hn : l.length ≤ 10000) (hnx : x.length ≤ 10000) :
    Calls Tryz.prog 47 #[.slice A l.length c, .agg #[.int .i64 1, .int .i64 f, .int .i64 t, .int .i64 gf, .int .i64 gt, .int .i64 ins, .slice B x.length b, .int .i64 mk]] w fun e w' => InvPost w ⟨1, f, (f : Int) + ins + gt - gf + x.length - ins, (f : Int) + ins, (f : Int) + ins + gt - gf, (gf : Int) - f, 0, (l.drop f).take (gf - f) ++ (l.drop gt).take (t - gt)⟩ e w' := by
  have HRl := Lib.hid (hl.mono (M' := Nob) (fun _ h => h.elim))
  have HRx := Lib.hid (hx.mono (M' := Nob) (fun _ h => h.elim))
  have HAP := Lib.hid (fun (W : World) (h : Fr Nob w W) => apply_any Nob ⟨1, f, t, gf, gt, ins, mk, x⟩ A B l c b W (HRl.out.fr h (fun _ _ h => h)) (HRx.out.fr h (fun _ _ h => h)) hc hb (by omega))
  simp only [StepM.cells, h0] at HAP
  have hDn1 : ((l.drop f).take (gf - f)).length = gf - f := by rw [List.length_take, List.length_drop]; omega
  have hDn2 : ((l.drop gt).take (t - gt)).length = t - gt := by rw [List.length_take, List.length_drop]; omega
  have HDR1 := Lib.hid (fun (W : World) (h : Fr Nob w W) => ((HRl.out.fr h (fun _ _ h => h)).cut (k := f) hc (gf - f)))
  have HDR2 := Lib.hid (fun (W : World) (h : Fr Nob w W) => ((HRl.out.fr h (fun _ _ h => h)).cut (k := gt) hc (t - gt)))
  obtain ⟨D1, hD1⟩ : ∃ D, (l.drop f).take (gf - f) = D := ⟨_, rfl⟩
  obtain ⟨D2, hD2⟩ : ∃ D, (l.drop gt).take (t - gt) = D := ⟨_, rfl⟩
  rw [hD1] at hDn1 HDR1 ⊢
  rw [hD2] at hDn2 HDR2 ⊢
  clear hD1 hD2
  have HDL1 := Lib.hid hDn1
  have HDL2 := Lib.hid hDn2
  have HTL := Lib.hid (show gf - f + (t - gt) ≤ 100000 by omega)
  have hgfc : gf ≤ c := by omega
  obtain ⟨ln, hln⟩ : ∃ ln, l.length = ln := ⟨_, rfl⟩
  obtain ⟨xn, hxn⟩ : ∃ xn, x.length = xn := ⟨_, rfl⟩
  have HLN := Lib.hid hln
  have HXN := Lib.hid hxn
  have hfc : t ≤ c := by omega
  rw [hln] at hc htl hn
  rw [hxn] at hb hnx h4
  simp only [hln, hxn] at HAP ⊢
  clear hl hx h0 hln hxn
  go_enter Tryz.func47, Tryz.ntmps47
  go_upto_region 1 with (fail)
  obtain ⟨W, hW⟩ : ∃ W, (w.alloc (.cells #[.int .i64 1, .int .i64 f, .int .i64 t, .int .i64 gf, .int .i64 gt, .int .i64 ins, .slice B xn b, .int .i64 mk] 32)).alloc (.cells #[.int .i64 0, .int .i64 0, .int .i64 0, .int .i64 0, .int .i64 0, .int .i64 0, .slice none 0 0, .int .i64 0] 32) = W := ⟨_, rfl⟩
  have HF := Lib.hid (show Fr Nob w W by rw [← hW]; exact ((Fr.refl _ _).alloc _).alloc _)
  have HS := Lib.hid (show Blk W w.heap.size [.int .i64 1, .int .i64 f, .int .i64 t, .int .i64 gf, .int .i64 gt, .int .i64 ins, .slice B xn b, .int .i64 mk] 32 by rw [← hW]; exact (Blk.new _ _ _).alloc _)
  have HZ := Lib.hid (show Blk W (w.heap.size + 1) [.int .i64 0, .int .i64 0, .int .i64 0, .int .i64 0, .int .i64 0, .int .i64 0, .slice none 0 0, .int .i64 0] 32 by rw [← hW]; exact Blk.new_at (w.alloc _) _ _ (w.heap.size + 1) (by simp))
  rw [hW]
  clear hW
  obtain ⟨d0, d1, d2, d3, d4, d5, d6, d7, dl⟩ := HS.out.c8
  go_wp2_with fail
  clear d0 d1 d2 d3 d4 d5 d6 d7 dl
  refine (HAP.out W HF.out).mono ?_
  rintro e w1 ⟨v, rfl, hv, _, hF1⟩
  have HF1 := Lib.hid (HF.out.same hF1)
  have HS1 := Lib.hid (HS.out.fr hF1 (fun h => h))
  have HZ1 := Lib.hid (HZ.out.fr hF1 (fun h => h))
  have HV := Lib.hid ((hv trivial).old HF.out.size)
  clear hF1 hv HF HS HZ HAP
  obtain ⟨d0, d1, d2, d3, d4, d5, d6, d7, dl⟩ := HS1.out.c8
  go_upto_region 5 with (fail)
  obtain ⟨q, hq⟩ : ∃ q, w1.heap.size = q := ⟨_, rfl⟩
  have HQ := Lib.hid hq
  obtain ⟨W2, hW2⟩ : ∃ W, w1.alloc (.cells #[.int .i64 0, .int .i64 f, .int .i64 t, .int .i64 0, .int .i64 0, .int .i64 0, .slice none 0 0, .int .i64 0] 32) = W := ⟨_, rfl⟩
  have HF2 := Lib.hid (show Fr Nob w W2 by rw [← hW2]; exact HF1.out.alloc _)
  have hFa := (show Fr Nob w1 W2 by rw [← hW2]; exact (Fr.refl _ _).alloc _)
  have HS2 := Lib.hid (HS1.out.fr hFa (fun h => h))
  have HZ2 := Lib.hid (HZ1.out.fr hFa (fun h => h))
  have HB2 := Lib.hid (show Blk W2 q [.int .i64 0, .int .i64 f, .int .i64 t, .int .i64 0, .int .i64 0, .int .i64 0, .slice none 0 0, .int .i64 0] 32 by rw [← hW2]; exact Blk.new_at _ _ _ q hq.symm)
  have hqs : w.heap.size + 1 < q := by have := HZ1.out.lt; omega
  have HQS := Lib.hid hqs
  rw [hq, hW2]
  clear hW2 hFa HF1 HS1 HZ1 hq d0 d1 d2 d3 d4 d5 d6 d7 dl
  obtain ⟨d0, d1, d2, d3, d4, d5, d6, d7, dl⟩ := HS2.out.c8
  obtain ⟨b0, b1, b2, b3, b4, b5, b6, b7, bl⟩ := HB2.out.c8
  obtain ⟨z0, z1, z2, z3, z4, z5, z6, z7⟩ := HB2.out.z8
  clear hDn1 hDn2
  go_upto_region 14 with (fail)
  obtain ⟨W3, hW3⟩ : ∃ W, (((W2.setCell ⟨q, 0, none⟩ (.int .i64 1)).setCell ⟨q, 3, none⟩ (.int .i64 (↑f + ↑ins))).setCell ⟨q, 4, none⟩ (.int .i64 (↑f + ↑ins + ↑gt - ↑gf))).setCell ⟨q, 2, none⟩ (.int .i64 (↑f + ↑ins + ↑gt - ↑gf + ↑xn - ↑ins)) = W := ⟨_, rfl⟩
  have hF23 : Fr (One q) W2 W3 := by rw [← hW3]; exact (((((Fr.refl (One q) W2).setCell (p := ⟨q, 0, none⟩) (.inl rfl) _).setCell (p := ⟨q, 3, none⟩) (.inl rfl) _).setCell (p := ⟨q, 4, none⟩) (.inl rfl) _).setCell (p := ⟨q, 2, none⟩) (.inl rfl) _)
  have HB3 := Lib.hid (show Blk W3 q [.int .i64 1, .int .i64 f, .int .i64 (↑f + ↑ins + ↑gt - ↑gf + ↑xn - ↑ins), .int .i64 (↑f + ↑ins), .int .i64 (↑f + ↑ins + ↑gt - ↑gf), .int .i64 0, .slice none 0 0, .int .i64 0] 32 by rw [← hW3]; exact ((((HB2.out.set 0 _).set 3 _).set 4 _).set 2 _))
  have HF3 := Lib.hid (HF2.out.trans hF23 (fun k hk e => by have e' : k = q := e; have := HQS.out; omega))
  have HS3 := Lib.hid (HS2.out.fr hF23 (fun e => by have e' : w.heap.size = q := e; have := HQS.out; omega))
  have HZ3 := Lib.hid (HZ2.out.fr hF23 (fun e => by have e' : w.heap.size + 1 = q := e; have := HQS.out; omega))
  rw [hW3]
  clear hW3 hF23 HF2 HS2 HZ2 HB2 d0 d1 d2 d3 d4 d5 d6 d7 dl b0 b1 b2 b3 b4 b5 b6 b7 bl z0 z1 z2 z3 z4 z5 z6 z7
  have HBL := Lib.hid (HB3.out.lt)
  have hseg : ∀ y ∈ [(⟨cutA A c f, c - f, D1⟩ : Seg), ⟨cutA A c gt, c - gt, D2⟩], Rd Nob W3 y.a (tokC y.l) := fun y hy => by
    simp only [List.mem_cons, List.not_mem_nil, or_false] at hy
    rcases hy with rfl | rfl
    · exact HDR1.out W3 HF3.out
    · exact HDR2.out W3 HF3.out
  have HSEG := Lib.hid hseg
  clear hseg
  have KS := Lib.hid (show ∀ W' : World, Fr Nob W3 W' → (fun W' : World => W'.cell? ⟨w.heap.size, 1, none⟩ = some (.int .i64 f) ∧ W'.cell? ⟨w.heap.size, 2, none⟩ = some (.int .i64 t) ∧ W'.cell? ⟨w.heap.size, 3, none⟩ = some (.int .i64 gf) ∧ W'.cell? ⟨w.heap.size, 4, none⟩ = some (.int .i64 gt)) W' from fun W' hF' => ⟨(HS3.out.fr hF' (fun h => h)).cell 1, (HS3.out.fr hF' (fun h => h)).cell 2, (HS3.out.fr hF' (fun h => h)).cell 3, (HS3.out.fr hF' (fun h => h)).cell 4⟩)
  refine wp_region_held_drew (S := fun W' : World => W'.cell? ⟨w.heap.size, 1, none⟩ = some (.int .i64 f) ∧ W'.cell? ⟨w.heap.size, 2, none⟩ = some (.int .i64 t) ∧ W'.cell? ⟨w.heap.size, 3, none⟩ = some (.int .i64 gf) ∧ W'.cell? ⟨w.heap.size, 4, none⟩ = some (.int .i64 gt)) (by kernel_rfl) (KS.out _ (Fr.refl _ _).drew) (fun _ => ?_)
  have HFD := Lib.hid ((Fr.refl Nob W3).drew)
  generalize W3.drew = wd at HFD ⊢
  have HSD := Lib.hid (KS.out wd HFD.out)
  refine take_by (i := 0) (v := .slice A ln c) rfl HSD.out ?_
  refine take_by (i := 1) (v := .pointer (some ⟨w.heap.size, 1, none⟩)) rfl HSD.out ?_
  refine take_by (i := 2) (v := .int .i64 f) rfl HSD.out ?_
  refine take_by (i := 3) (v := .pointer (some ⟨w.heap.size, 3, none⟩)) rfl HSD.out ?_
  refine take_by (i := 4) (v := .int .i64 gf) rfl HSD.out ?_
  refine take_by (i := 5) (v := .slice (cutA A c f) (gf - f) (c - f)) rfl HSD.out ?_
  refine take_by (i := 6) (v := .slice A ln c) rfl HSD.out ?_
  refine take_by (i := 7) (v := .pointer (some ⟨w.heap.size, 4, none⟩)) rfl HSD.out ?_
  refine take_by (i := 8) (v := .int .i64 gt) rfl HSD.out ?_
  refine take_by (i := 9) (v := .pointer (some ⟨w.heap.size, 2, none⟩)) rfl HSD.out ?_
  refine take_by (i := 10) (v := .int .i64 t) rfl HSD.out ?_
  refine take_by (i := 11) (v := .slice (cutA A c gt) (t - gt) (c - gt)) rfl HSD.out ?_
  try simp only [List.getElem_toArray, List.getElem_cons_succ, List.getElem_cons_zero, Act.put, List.setIfInBounds_toArray, List.set_cons_zero, List.set_cons_succ]
  refine wpAnyH_ready (rs := [12]) (by kernel_rfl) (by simp) (AllReadyH.cons (o := _) rfl (fun K hK => ?_) AllReadyH.nil)
  go_simp
  refine hK.out _ _ (KS.out _ (HFD.out.alloc _)) (fun _ => ?_)
  clear hK K
  try simp only [List.getElem_toArray, List.getElem_cons_succ, List.getElem_cons_zero, Act.put, List.setIfInBounds_toArray, List.set_cons_zero, List.set_cons_succ]
  refine wpAnyH_ready (rs := [13]) (by kernel_rfl) (by simp) (AllReadyH.cons (o := _) rfl (fun K hK => ?_) AllReadyH.nil)
  go_simp
  refine (tokens_new Nob [(⟨cutA A c f, c - f, D1⟩ : Seg), ⟨cutA A c gt, c - gt, D2⟩] W3 wd 22 [.slice (cutA A c f) (gf - f) (c - f), .slice (cutA A c gt) (t - gt) (c - gt)] 2 HFD.out HSEG.out (by simp [Seg.v, HDL1.out, HDL2.out]) rfl (by have h1 := HTL.out; have h2 := HDL1.out; have h3 := HDL2.out; simp [segsL]; omega) (by decide)).mono ?_
  rintro e w4 ⟨v', rfl, hv4, hF4⟩
  have e1 : segsL [(⟨cutA A c f, c - f, D1⟩ : Seg), ⟨cutA A c gt, c - gt, D2⟩] = D1 ++ D2 := by simp [segsL]
  rw [e1] at hv4
  clear e1
  obtain ⟨g, rfl, hg, hgb⟩ := hv4
  have HG4 := Lib.hid hg
  have HGB := Lib.hid hgb
  have HF34 := Lib.hid hF4
  have HF4 := Lib.hid (HF3.out.same hF4)
  have HS4 := Lib.hid (HS3.out.fr hF4 (fun h => h))
  have HZ4 := Lib.hid (HZ3.out.fr hF4 (fun h => h))
  have HB4 := Lib.hid (HB3.out.fr hF4 (fun h => h))
  clear hg hgb hF4 HS3 HZ3 HB3
  obtain ⟨dn, hdn⟩ : ∃ n, (D1 ++ D2).length = n := ⟨_, rfl⟩
  have HDN := Lib.hid hdn
  rw [hdn]
  clear hdn
  obtain ⟨b0, b1, b2, b3, b4, b5, b6, b7, bl⟩ := HB4.out.c8
  obtain ⟨z0, z1, z2, z3, z4, z5, z6, z7⟩ := HB4.out.z8
  have hS4 := KS.out w4 HF34.out
  have HS4' := Lib.hid hS4
  clear hS4 b0 b1 b2 b3 b4 b5 b7 z0 z1 z2 z3 z4 z5 z7
  go_wp2_with fail
  refine hK.out _ _ HS4'.out (fun _ => ?_)
  clear hK K
  refine take_by (i := 14) (v := .pointer (some ⟨q, 6, none⟩)) rfl HS4'.out ?_
  try simp only [List.getElem_toArray, List.getElem_cons_succ, List.getElem_cons_zero, Act.put, List.setIfInBounds_toArray, List.set_cons_zero, List.set_cons_succ]
  refine wpAnyH_ready (rs := [15]) (by kernel_rfl) (by simp) (AllReadyH.cons (o := _) rfl (fun K hK => ?_) AllReadyH.nil)
  go_simp
  obtain ⟨W5, hW5⟩ : ∃ W, w4.setCell ⟨q, 6, none⟩ (.slice (some ⟨g, 0, none⟩) dn dn) = W := ⟨_, rfl⟩
  have hF45 : Fr (One q) w4 W5 := by rw [← hW5]; exact ((Fr.refl (One q) w4).setCell (p := ⟨q, 6, none⟩) (.inl rfl) _)
  have HB5 := Lib.hid (show Blk W5 q [.int .i64 1, .int .i64 f, .int .i64 (↑f + ↑ins + ↑gt - ↑gf + ↑xn - ↑ins), .int .i64 (↑f + ↑ins), .int .i64 (↑f + ↑ins + ↑gt - ↑gf), .int .i64 0, .slice (some ⟨g, 0, none⟩) dn dn, .int .i64 0] 32 by rw [← hW5]; exact HB4.out.set 6 _)
  have hgq : q < g := by have := HB4.out.lt; have h2 := HG4.out; have h3 := HBL.out; omega
  have HF5 := Lib.hid (HF4.out.trans hF45 (fun k hk e => by have e' : k = q := e; have := HQS.out; omega))
  have HZ5 := Lib.hid (HZ4.out.fr hF45 (fun e => by have e' : w.heap.size + 1 = q := e; have := HQS.out; omega))
  have HS5 := Lib.hid (HS4.out.fr hF45 (fun e => by have e' : w.heap.size = q := e; have := HQS.out; omega))
  have HG5 := Lib.hid (HGB.out.fr hF45 (fun e => by have e' : g = q := e; omega))
  have HGQ := Lib.hid hgq
  rw [hW5]
  clear hW5 hF45 hgq HF4 HS4 HZ4 HB4 HGB b6 bl z6
  refine hK.out _ _ (⟨HS5.out.cell 1, HS5.out.cell 2, HS5.out.cell 3, HS5.out.cell 4⟩) (fun _ => ?_)
  clear hK K
  try simp only [List.getElem_toArray, List.getElem_cons_succ, List.getElem_cons_zero, Act.put, List.setIfInBounds_toArray, List.set_cons_zero, List.set_cons_succ]
  refine wpAnyH_done (by kernel_rfl) ?_ _
  obtain ⟨b0, b1, b2, b3, b4, b5, b6, b7, bl⟩ := HB5.out.c8
  obtain ⟨z0, z1, z2, z3, z4, z5, z6, z7⟩ := HB5.out.z8
  obtain ⟨d0, d1, d2, d3, d4, d5, d6, d7, dl⟩ := HS5.out.c8
  go_upto_region 16 with (fail)
  obtain ⟨W6, hW6⟩ : ∃ W, W5.setCell ⟨q, 5, none⟩ (.int .i64 (↑gf - ↑f)) = W := ⟨_, rfl⟩
  have hF56 : Fr (One q) W5 W6 := by rw [← hW6]; exact ((Fr.refl (One q) W5).setCell (p := ⟨q, 5, none⟩) (.inl rfl) _)
  have HB6 := Lib.hid (show Blk W6 q [.int .i64 1, .int .i64 f, .int .i64 (↑f + ↑ins + ↑gt - ↑gf + ↑xn - ↑ins), .int .i64 (↑f + ↑ins), .int .i64 (↑f + ↑ins + ↑gt - ↑gf), .int .i64 (↑gf - ↑f), .slice (some ⟨g, 0, none⟩) dn dn, .int .i64 0] 32 by rw [← hW6]; exact HB5.out.set 5 _)
  have HF6 := Lib.hid (HF5.out.trans hF56 (fun k hk e => by have e' : k = q := e; have := HQS.out; omega))
  have HZ6 := Lib.hid (HZ5.out.fr hF56 (fun e => by have e' : w.heap.size + 1 = q := e; have := HQS.out; omega))
  have HG6 := Lib.hid (HG5.out.fr hF56 (fun e => by have e' : g = q := e; have := HGQ.out; omega))
  rw [hW6]
  clear hW6 hF56 HF5 HZ5 HS5 HB5 HG5 b0 b1 b2 b3 b4 b5 b6 b7 bl z0 z1 z2 z3 z4 z5 z6 z7 d0 d1 d2 d3 d4 d5 d6 d7 dl
  obtain ⟨b0, b1, b2, b3, b4, b5, b6, b7, bl⟩ := HB6.out.c8
  obtain ⟨d0, d1, d2, d3, d4, d5, d6, d7, dl⟩ := HZ6.out.c8
  obtain ⟨z0, z1, z2, z3, z4, z5, z6, z7⟩ := HZ6.out.z8
  go_wp2_with fail
  refine ret8m (v := .tuple #[.agg #[.int .i64 1, .int .i64 f, .int .i64 (↑f + ↑ins + ↑gt - ↑gf + ↑xn - ↑ins), .int .i64 (↑f + ↑ins), .int .i64 (↑f + ↑ins + ↑gt - ↑gf), .int .i64 (↑gf - ↑f), .slice (some ⟨g, 0, none⟩) dn dn, .int .i64 0], .int .i64 0]) HZ6.out rfl (fun WE z0 z1 z2 z3 z4 z5 z6 z7 => by simp [results, go_sem, z0, z1, z2, z3, z4, z5, z6, z7]) (fun WE hF => ?_)
  have hbe := HG6.out.fr hF (fun e => by have e' : g = w.heap.size + 1 := e; have h1 := HGQ.out; have h2 := HQS.out; omega)
  refine ⟨some ⟨g, 0, none⟩, dn, by simp only [StepM.cells, HDN.out, HXN.out], fun _ => ⟨_, rfl, ?_, fun j u hu => ?_⟩, Nat.le_of_eq HDN.out, HF6.out.trans hF (fun k hk e => by have e' : k = w.heap.size + 1 := e; omega)⟩
  · show ¬ g < w.heap.size
    have h1 := HGQ.out
    have h2 := HQS.out
    omega
  · rw [add_lit]
    exact (hbe.cell j).trans hu
end Go.Proofs.YtldcffonfidbcaaGreatDoor
