/- A part of the proof for chapter 10: FlatSame, Ret8, StepInv; no conditions. -/
import Derived.Test.YtldcffonfidbcaaGreatDoorY11
import Derived.Test.YtldcffonfidbcaaGreatDoorY08
import Derived.Test.YtldcffonfidbcaaGreatDoorY22
/- flat.Same: the same tokens? -/
namespace Go.Proofs.YtldcffonfidbcaaGreatDoor
open Go.RowKit
set_option maxRecDepth 100000 in
set_option maxHeartbeats 2000000 in
theorem flatsame_any (M M' : Nat → Prop) (l m : List Tok) (A A' : Option Addr) (c c' : Nat) (w : World) (hl : l.length ≤ 4611686018427387904) (hm : m.length ≤ 4611686018427387904) (hR : Rd M w A (tokC l)) (hR' : Rd M' w A' (tokC m)) :
    Calls Tryz.prog 76 #[.slice A l.length c, .slice A' m.length c'] w fun e w' => e = .returned (.bool (decide (l = m))) ∧ Fr Nob w w' := by
  have HR := Lib.hid hR
  have HR' := Lib.hid hR'
  clear hR hR'
  by_cases hln : l.length = m.length
  · have HLN := Lib.hid hln
    rw [← hln]
    clear hln
    obtain ⟨r, hr⟩ : ∃ r, decide (l = m) = r := ⟨_, rfl⟩
    have HRR := Lib.hid hr
    rw [hr]
    clear hr
    go_enter Tryz.func76, Tryz.ntmps76
    go_wp2_with fail
    go_loopg [13, 5] (l.length) (fun n s13 s5 wr => ∃ (k : Nat), n = l.length - k ∧ k ≤ l.length ∧ s13 = .int .i64 k ∧ Hid (l.take k = m.take k) ∧ Hid (Fr Nob w wr))
    case atStart => exact ⟨0, rfl, Nat.zero_le _, rfl, rfl, Fr.refl _ _⟩
    case round =>
      obtain ⟨k, rfl, hk, rfl, HT, HF⟩ := hrel
      by_cases hlt : k < l.length
      · have ht : ((k : Int) < (l.length : Int)) := by omega
        have hlt' : k < m.length := by have := HLN.out; omega
        obtain ⟨ad, rfl, hnb, hbl, h0, hj⟩ := Rd.elt Tok.cells_len (by omega) (HR.out.fr HF.out (fun _ _ h => h.elim)) hlt
        obtain ⟨ad', rfl, hnb', hbl', h0', hj'⟩ := Rd.elt Tok.cells_len (by omega) (HR'.out.fr HF.out (fun _ _ h => h.elim)) hlt'
        have q1 := hj 0 (by omega)
        have q2 := hj 1 (by omega)
        have q3 := hj 2 (by omega)
        have q1' := hj' 0 (by omega)
        have q2' := hj' 1 (by omega)
        have q3' := hj' 2 (by omega)
        have HNX := Lib.hid (show l[k] = m[k] → l.take (k + 1) = m.take (k + 1) from fun e => by rw [List.take_succ_eq_append_getElem hlt, List.take_succ_eq_append_getElem hlt', HT.out, e])
        have HNE := Lib.hid (show l[k] ≠ m[k] → r = false from fun e => by rw [← HRR.out]; exact decide_eq_false (fun e' => e (by subst e'; rfl)))
        generalize l[k] = x at h0 q1 q2 q3 HNX HNE
        generalize m[k] = y at h0' q1' q2' q3' HNX HNE
        have hms : (k : Int) < (m.length : Int) := by omega
        clear hj hj' hnb hnb'
        obtain ⟨xk, xt, xn, xm⟩ := x
        obtain ⟨yk, yt, yn, ym⟩ := y
        simp only [Tok.cells, List.getElem?_cons_zero, List.getElem?_cons_succ] at h0 q1 q2 q3 h0' q1' q2' q3'
        by_cases e0 : xk = yk
        · by_cases e1 : xt = yt
          · by_cases e2 : xn = yn
            · by_cases e3 : xm = ym
              · have HN2 := Lib.hid (HNX.out (by rw [e0, e1, e2, e3]))
                subst e0 e1 e2 e3
                clear HNX HNE
                go_wp2_with (first | go_quiet (fail) | fail)
                go_roundg (l.length - (k + 1))
                case measure => omega
                case rel => exact ⟨k + 1, rfl, by omega, by first | rfl | go_num, HN2.out, HF.out.drewN _⟩
              · have HRF := Lib.hid (HNE.out (by intro h; injection h; contradiction))
                clear HNX HNE
                go_wp2_with (first | go_quiet (fail) | fail)
                go_ret
                exact ⟨by rw [HRF.out]; rfl, HF.out.drewN _⟩
            · have HRF := Lib.hid (HNE.out (by intro h; injection h; contradiction))
              clear HNX HNE
              go_wp2_with (first | go_quiet (fail) | fail)
              go_ret
              exact ⟨by rw [HRF.out]; rfl, HF.out.drewN _⟩
          · have HRF := Lib.hid (HNE.out (by intro h; injection h; contradiction))
            clear HNX HNE
            go_wp2_with (first | go_quiet (fail) | fail)
            go_ret
            exact ⟨by rw [HRF.out]; rfl, HF.out.drewN _⟩
        · have HRF := Lib.hid (HNE.out (by intro h; injection h; contradiction))
          clear HNX HNE
          go_wp2_with (first | go_quiet (fail) | fail)
          go_ret
          exact ⟨by rw [HRF.out]; rfl, HF.out.drewN _⟩
      · have ht : ¬ ((k : Int) < (l.length : Int)) := by omega
        have hk2 : k = l.length := by omega
        have HRT := Lib.hid (show r = true by
          rw [← HRR.out]
          have h := HT.out
          rw [hk2, List.take_length, HLN.out, List.take_length] at h
          exact decide_eq_true h)
        clear hk2
        go_wp2_with fail
        go_ret
        exact ⟨by rw [HRT.out]; rfl, HF.out⟩
  · rw [decide_eq_false (fun e => hln (by rw [e]))]
    have hne : ¬ (l.length : Int) = (m.length : Int) := by omega
    generalize l.length = ln at hne ⊢
    generalize m.length = mn at hne ⊢
    clear HR HR'
    go_enter Tryz.func76, Tryz.ntmps76
    go_wp2_with fail
    go_ret
    exact ⟨rfl, Fr.refl _ _⟩
end Go.Proofs.YtldcffonfidbcaaGreatDoor

/- To return what a block of eight cells holds, the rest of memory as it was. -/
namespace Go.Proofs.YtldcffonfidbcaaGreatDoor
open Go.RowKit
theorem ret8m {P : Program} {fn : Func} {R : Ending → World → Prop} {ac : Act} {W : World} {g : Nat} {t : TypeId} {x0 x1 x2 x3 x4 x5 x6 x7 y0 y1 y2 y3 y4 y5 y6 y7 v : Value} (hg : Blk W g [x0, x1, x2, x3, x4, x5, x6, x7] t) (hd : ac.defers = [])
    (hr : ∀ WE : World, WE.cell? ⟨g, 0, none⟩ = some y0 → WE.cell? ⟨g, 1, none⟩ = some y1 → WE.cell? ⟨g, 2, none⟩ = some y2 → WE.cell? ⟨g, 3, none⟩ = some y3 → WE.cell? ⟨g, 4, none⟩ = some y4 → WE.cell? ⟨g, 5, none⟩ = some y5 → WE.cell? ⟨g, 6, none⟩ = some y6 → WE.cell? ⟨g, 7, none⟩ = some y7 → (results fn ac.tmps).run P WE = .ok v WE) (hR : ∀ WE, Fr (One g) W WE → R (.returned v) WE) :
    bodyPost P fn R .ret ac ((((((((W.setCell ⟨g, 0, none⟩ y0).setCell ⟨g, 1, none⟩ y1).setCell ⟨g, 2, none⟩ y2).setCell ⟨g, 3, none⟩ y3).setCell ⟨g, 4, none⟩ y4).setCell ⟨g, 5, none⟩ y5).setCell ⟨g, 6, none⟩ y6).setCell ⟨g, 7, none⟩ y7) := by
  have hB : Blk ((((((((W.setCell ⟨g, 0, none⟩ y0).setCell ⟨g, 1, none⟩ y1).setCell ⟨g, 2, none⟩ y2).setCell ⟨g, 3, none⟩ y3).setCell ⟨g, 4, none⟩ y4).setCell ⟨g, 5, none⟩ y5).setCell ⟨g, 6, none⟩ y6).setCell ⟨g, 7, none⟩ y7) g [y0, y1, y2, y3, y4, y5, y6, y7] t :=
    (((((((hg.set 0 y0).set 1 y1).set 2 y2).set 3 y3).set 4 y4).set 5 y5).set 6 y6).set 7 y7
  exact bodyPost_ret (hr _ (hB.cell 0) (hB.cell 1) (hB.cell 2) (hB.cell 3) (hB.cell 4) (hB.cell 5) (hB.cell 6) (hB.cell 7)) hd (hR _ (((((((((Fr.refl (One g) W).setCell (p := ⟨g, 0, none⟩) (.inl rfl) y0).setCell (p := ⟨g, 1, none⟩) (.inl rfl) y1).setCell (p := ⟨g, 2, none⟩) (.inl rfl) y2).setCell (p := ⟨g, 3, none⟩) (.inl rfl) y3).setCell (p := ⟨g, 4, none⟩) (.inl rfl) y4).setCell (p := ⟨g, 5, none⟩) (.inl rfl) y5).setCell (p := ⟨g, 6, none⟩) (.inl rfl) y6).setCell (p := ⟨g, 7, none⟩) (.inl rfl) y7))
end Go.Proofs.YtldcffonfidbcaaGreatDoor

/- step.Invert: what undoes a step that was done. -/
namespace Go.Proofs.YtldcffonfidbcaaGreatDoor
open Go.RowKit
theorem cut_lhm (A : Option Addr) (n c l h m : Nat) (h1 : l ≤ h) (h2 : h ≤ m) (h3 : m ≤ c) (w : World) :
    (Instr.slice 22 (.slice A n c) (some (.int .i64 (l : Int))) (some (.int .i64 (h : Int))) (some (.int .i64 (m : Int)))).run Tryz.prog w = .ok (.slice (cutA A m l) (h - l) (m - l)) w := by
  rw [run_slice_lhm (P := Tryz.prog) (w := w) (t := 22) (a := A) (len := n) (cap := c) (ht := by rw [elemTok]; exact Tryz.underlying22) .i64 .i64 .i64 l h m (by omega) (by omega) (by omega) (by omega), elemTok, sizeTok]
  simp [Result.andThen, sliced, cutA]
theorem Rd.cut3 {M : Nat → Prop} {w : World} {A : Option Addr} {l : List Tok} (h : Rd M w A (tokC l)) (f t : Nat) : Rd M w (cutA A t f) (tokC ((l.drop f).take (t - f))) := by
  unfold cutA
  split
  · rename_i e
    rw [e, Nat.sub_self, List.take_zero]
    exact Rd.nil _ _ _
  · rw [tokC_take, tokC_drop]
    exact (h.drop _).take _
attribute [local go_sem high] cut_lh cut_h cut_l cut_lhm
/-- What Invert answers: a step, its letters in a row that is new. -/
def InvPost (w : World) (y : StepM) (e : Ending) (w' : World) : Prop := ∃ B b, e = .returned (.tuple #[.agg (y.cells (.slice B y.l.length b)).toArray, .int .i64 0]) ∧ Rd (fun k => k < w.heap.size) w' B (tokC y.l) ∧ y.l.length ≤ b ∧ Fr Nob w w'
set_option maxRecDepth 100000 in
set_option maxHeartbeats 8000000 in
theorem stepinv_rep (M M2 : Nat → Prop) (f t : Nat) (gf gt ins mk : Int) (A B : Option Addr) (x l : List Tok) (c b : Nat) (w : World) (hl : Rd M w A (tokC l)) (hx : Rd M2 w B (tokC x)) (hc : l.length ≤ c) (hb : x.length ≤ b) (h0 : applyE ⟨0, f, t, gf, gt, ins, mk, x⟩ l = 0) (hft : f ≤ t) (htl : t ≤ l.length) (hn : l.length ≤ 10000) (hnx : x.length ≤ 10000) :
    Calls Tryz.prog 47 #[.slice A l.length c, .agg #[.int .i64 0, .int .i64 f, .int .i64 t, .int .i64 gf, .int .i64 gt, .int .i64 ins, .slice B x.length b, .int .i64 mk]] w fun e w' => InvPost w ⟨0, f, f + x.length, 0, 0, 0, 0, (l.drop f).take (t - f)⟩ e w' := by
  have HRl := Lib.hid (hl.mono (M' := Nob) (fun _ h => h.elim))
  have HRx := Lib.hid (hx.mono (M' := Nob) (fun _ h => h.elim))
  have HAP := Lib.hid (fun (W : World) (h : Fr Nob w W) => apply_any Nob ⟨0, f, t, gf, gt, ins, mk, x⟩ A B l c b W (HRl.out.fr h (fun _ _ h => h)) (HRx.out.fr h (fun _ _ h => h)) hc hb (by omega))
  simp only [StepM.cells, h0] at HAP
  have hDn : ((l.drop f).take (t - f)).length = t - f := by rw [List.length_take, List.length_drop]; omega
  have HDR := Lib.hid (fun (W : World) (h : Fr Nob w W) => ((HRl.out.fr h (fun _ _ h => h)).cut3 f t))
  obtain ⟨D, hD⟩ : ∃ D, (l.drop f).take (t - f) = D := ⟨_, rfl⟩
  rw [hD] at hDn HDR ⊢
  clear hD
  have HDL := Lib.hid hDn
  have HTL := Lib.hid (show t - f ≤ 100000 by omega)
  obtain ⟨ln, hln⟩ : ∃ ln, l.length = ln := ⟨_, rfl⟩
  obtain ⟨xn, hxn⟩ : ∃ xn, x.length = xn := ⟨_, rfl⟩
  have HLN := Lib.hid hln
  have HXN := Lib.hid hxn
  have hfc : t ≤ c := by omega
  rw [hln] at hc htl hn
  rw [hxn] at hb hnx
  simp only [hln, hxn] at HAP ⊢
  clear hl hx h0 hln hxn
  go_enter Tryz.func47, Tryz.ntmps47
  go_upto_region 1 with (fail)
  obtain ⟨W, hW⟩ : ∃ W, (w.alloc (.cells #[.int .i64 0, .int .i64 f, .int .i64 t, .int .i64 gf, .int .i64 gt, .int .i64 ins, .slice B xn b, .int .i64 mk] 32)).alloc (.cells #[.int .i64 0, .int .i64 0, .int .i64 0, .int .i64 0, .int .i64 0, .int .i64 0, .slice none 0 0, .int .i64 0] 32) = W := ⟨_, rfl⟩
  have HF := Lib.hid (show Fr Nob w W by rw [← hW]; exact ((Fr.refl _ _).alloc _).alloc _)
  have HS := Lib.hid (show Blk W w.heap.size [.int .i64 0, .int .i64 f, .int .i64 t, .int .i64 gf, .int .i64 gt, .int .i64 ins, .slice B xn b, .int .i64 mk] 32 by rw [← hW]; exact (Blk.new _ _ _).alloc _)
  have HZ := Lib.hid (show Blk W (w.heap.size + 1) [.int .i64 0, .int .i64 0, .int .i64 0, .int .i64 0, .int .i64 0, .int .i64 0, .slice none 0 0, .int .i64 0] 32 by rw [← hW]; exact Blk.new_at (w.alloc _) _ _ (w.heap.size + 1) (by simp))
  rw [hW]
  clear hW
  obtain ⟨d0, d1, d2, d3, d4, d5, d6, d7, dl⟩ := HS.out.c8
  go_wp2_with fail
  clear d0 d1 d2 d3 d4 d5 d6 d7 dl
  refine (HAP.out W HF.out).mono ?_
  rintro e w1 ⟨v, rfl, hv, _, hF1⟩
  have HF1 := Lib.hid (HF.out.same hF1)
  have HS1 := Lib.hid (HS.out.fr hF1 (fun h => h))
  have HZ1 := Lib.hid (HZ.out.fr hF1 (fun h => h))
  have HV := Lib.hid ((hv trivial).old HF.out.size)
  clear hF1 hv HF HS HZ HAP
  obtain ⟨d0, d1, d2, d3, d4, d5, d6, d7, dl⟩ := HS1.out.c8
  go_upto_region 5 with (fail)
  obtain ⟨q, hq⟩ : ∃ q, w1.heap.size = q := ⟨_, rfl⟩
  have HQ := Lib.hid hq
  obtain ⟨W2, hW2⟩ : ∃ W, w1.alloc (.cells #[.int .i64 0, .int .i64 f, .int .i64 t, .int .i64 0, .int .i64 0, .int .i64 0, .slice none 0 0, .int .i64 0] 32) = W := ⟨_, rfl⟩
  have HF2 := Lib.hid (show Fr Nob w W2 by rw [← hW2]; exact HF1.out.alloc _)
  have hFa := (show Fr Nob w1 W2 by rw [← hW2]; exact (Fr.refl _ _).alloc _)
  have HS2 := Lib.hid (HS1.out.fr hFa (fun h => h))
  have HZ2 := Lib.hid (HZ1.out.fr hFa (fun h => h))
  have HB2 := Lib.hid (show Blk W2 q [.int .i64 0, .int .i64 f, .int .i64 t, .int .i64 0, .int .i64 0, .int .i64 0, .slice none 0 0, .int .i64 0] 32 by rw [← hW2]; exact Blk.new_at _ _ _ q hq.symm)
  have hqs : w.heap.size + 1 < q := by have := HZ1.out.lt; omega
  have HQS := Lib.hid hqs
  rw [hq, hW2]
  clear hW2 hFa HF1 HS1 HZ1 hq d0 d1 d2 d3 d4 d5 d6 d7 dl
  obtain ⟨d0, d1, d2, d3, d4, d5, d6, d7, dl⟩ := HS2.out.c8
  obtain ⟨b0, b1, b2, b3, b4, b5, b6, b7, bl⟩ := HB2.out.c8
  obtain ⟨z0, z1, z2, z3, z4, z5, z6, z7⟩ := HB2.out.z8
  go_upto_region 19 with (fail)
  obtain ⟨W3, hW3⟩ : ∃ W, W2.setCell ⟨q, 2, none⟩ (.int .i64 (↑f + ↑xn)) = W := ⟨_, rfl⟩
  have hF23 : Fr (One q) W2 W3 := by rw [← hW3]; exact ((Fr.refl (One q) W2).setCell (p := ⟨q, 2, none⟩) (.inl rfl) _)
  have HB3 := Lib.hid (show Blk W3 q [.int .i64 0, .int .i64 f, .int .i64 (↑f + ↑xn), .int .i64 0, .int .i64 0, .int .i64 0, .slice none 0 0, .int .i64 0] 32 by rw [← hW3]; exact (HB2.out.set 2 _))
  have HF3 := Lib.hid (HF2.out.trans hF23 (fun k hk e => by have e' : k = q := e; have := HQS.out; omega))
  have HS3 := Lib.hid (HS2.out.fr hF23 (fun e => by have e' : w.heap.size = q := e; have := HQS.out; omega))
  have HZ3 := Lib.hid (HZ2.out.fr hF23 (fun e => by have e' : w.heap.size + 1 = q := e; have := HQS.out; omega))
  rw [hW3]
  clear hW3 hF23 HF2 HS2 HZ2 HB2 d0 d1 d2 d3 d4 d5 d6 d7 dl b0 b1 b2 b3 b4 b5 b6 b7 bl z0 z1 z2 z3 z4 z5 z6 z7
  obtain ⟨d0, d1, d2, d3, d4, d5, d6, d7, dl⟩ := HS3.out.c8
  clear hDn
  go_wp2_with fail
  have HBL := Lib.hid (HB3.out.lt)
  have hseg : ∀ y ∈ [(⟨cutA A t f, t - f, D⟩ : Seg)], Rd Nob W3 y.a (tokC y.l) := fun y hy => by
    rw [List.mem_singleton] at hy
    rw [hy]
    exact HDR.out W3 HF3.out
  refine (tokens_new Nob [⟨cutA A t f, t - f, D⟩] W3 W3 22 [.slice (cutA A t f) (t - f) (t - f)] 1 (Fr.refl _ _) hseg (by simp [Seg.v, HDL.out]) rfl (by have := HTL.out; have h2 := HDL.out; simp [segsL]; omega) (by decide)).mono ?_
  rintro e w4 ⟨v', rfl, hv4, hF4⟩
  have e1 : segsL [(⟨cutA A t f, t - f, D⟩ : Seg)] = D := by simp [segsL]
  rw [e1] at hv4
  clear e1 d0 d1 d2 d3 d4 d5 d6 d7 dl
  obtain ⟨g, rfl, hg, hgb⟩ := hv4
  have HG4 := Lib.hid hg
  have HGB := Lib.hid hgb
  have HF34 := Lib.hid hF4
  have HF4 := Lib.hid (HF3.out.same hF4)
  have HS4 := Lib.hid (HS3.out.fr hF4 (fun h => h))
  have HZ4 := Lib.hid (HZ3.out.fr hF4 (fun h => h))
  have HB4 := Lib.hid (HB3.out.fr hF4 (fun h => h))
  clear hg hgb hF4 HS3 HZ3 HB3
  obtain ⟨dn, hdn⟩ : ∃ n, D.length = n := ⟨_, rfl⟩
  have HDN := Lib.hid hdn
  rw [hdn]
  clear hdn
  obtain ⟨b0, b1, b2, b3, b4, b5, b6, b7, bl⟩ := HB4.out.c8
  obtain ⟨z0, z1, z2, z3, z4, z5, z6, z7⟩ := HB4.out.z8
  go_upto_region 20 with (fail)
  obtain ⟨W5, hW5⟩ : ∃ W, w4.setCell ⟨q, 6, none⟩ (.slice (some ⟨g, 0, none⟩) dn dn) = W := ⟨_, rfl⟩
  have hF45 : Fr (One q) w4 W5 := by rw [← hW5]; exact ((Fr.refl (One q) w4).setCell (p := ⟨q, 6, none⟩) (.inl rfl) _)
  have HB5 := Lib.hid (show Blk W5 q [.int .i64 0, .int .i64 f, .int .i64 (↑f + ↑xn), .int .i64 0, .int .i64 0, .int .i64 0, .slice (some ⟨g, 0, none⟩) dn dn, .int .i64 0] 32 by rw [← hW5]; exact HB4.out.set 6 _)
  have hgq : q < g := by have := HB4.out.lt; have h2 := HG4.out; have h3 := HBL.out; omega
  have HF5 := Lib.hid (HF4.out.trans hF45 (fun k hk e => by have e' : k = q := e; have := HQS.out; omega))
  have HZ5 := Lib.hid (HZ4.out.fr hF45 (fun e => by have e' : w.heap.size + 1 = q := e; have := HQS.out; omega))
  have HS5 := Lib.hid (HS4.out.fr hF45 (fun e => by have e' : w.heap.size = q := e; have := HQS.out; omega))
  have HG5 := Lib.hid (HGB.out.fr hF45 (fun e => by have e' : g = q := e; omega))
  have HGQ := Lib.hid hgq
  rw [hW5]
  clear hW5 hF45 hgq HF4 HS4 HZ4 HB4 HGB b0 b1 b2 b3 b4 b5 b6 b7 bl z0 z1 z2 z3 z4 z5 z6 z7
  obtain ⟨b0, b1, b2, b3, b4, b5, b6, b7, bl⟩ := HB5.out.c8
  obtain ⟨d0, d1, d2, d3, d4, d5, d6, d7, dl⟩ := HZ5.out.c8
  obtain ⟨z0, z1, z2, z3, z4, z5, z6, z7⟩ := HZ5.out.z8
  go_wp2_with fail
  refine ret8m (v := .tuple #[.agg #[.int .i64 0, .int .i64 f, .int .i64 (↑f + ↑xn), .int .i64 0, .int .i64 0, .int .i64 0, .slice (some ⟨g, 0, none⟩) dn dn, .int .i64 0], .int .i64 0]) HZ5.out rfl (fun WE z0 z1 z2 z3 z4 z5 z6 z7 => by simp [results, go_sem, z0, z1, z2, z3, z4, z5, z6, z7]) (fun WE hF => ?_)
  have hbe := HG5.out.fr hF (fun e => by have e' : g = w.heap.size + 1 := e; have h1 := HGQ.out; have h2 := HQS.out; omega)
  refine ⟨some ⟨g, 0, none⟩, dn, by simp only [StepM.cells, HDN.out, HXN.out], fun _ => ⟨_, rfl, ?_, fun j u hu => ?_⟩, Nat.le_of_eq HDN.out, HF5.out.trans hF (fun k hk e => by have e' : k = w.heap.size + 1 := e; omega)⟩
  · show ¬ g < w.heap.size
    have h1 := HGQ.out
    have h2 := HQS.out
    omega
  · rw [add_lit]
    exact (hbe.cell j).trans hu
set_option maxRecDepth 100000 in
set_option maxHeartbeats 8000000 in
theorem stepinv_aro (M M2 : Nat → Prop) (f t gf gt ins : Nat) (mk : Int) (A B : Option Addr) (x l : List Tok) (c b : Nat) (w : World) (hl : Rd M w A (tokC l)) (hx : Rd M2 w B (tokC x)) (hc : l.length ≤ c) (hb : x.length ≤ b) (h0 : applyE ⟨1, f, t, gf, gt, ins, mk, x⟩ l = 0) (hft : f ≤ t) (htl : t ≤ l.length) (h1 : f ≤ gf) (h2 : gf < gt) (h3 : gt ≤ t) (h4 : ins ≤ x.length) (hn : l.length ≤ 10000) (hnx : x.length ≤ 10000) :
    Calls Tryz.prog 47 #[.slice A l.length c, .agg #[.int .i64 1, .int .i64 f, .int .i64 t, .int .i64 gf, .int .i64 gt, .int .i64 ins, .slice B x.length b, .int .i64 mk]] w fun e w' => InvPost w ⟨1, f, (f : Int) + ins + gt - gf + x.length - ins, (f : Int) + ins, (f : Int) + ins + gt - gf, (gf : Int) - f, 0, (l.drop f).take (gf - f) ++ (l.drop gt).take (t - gt)⟩ e w' := by
  have HRl := Lib.hid (hl.mono (M' := Nob) (fun _ h => h.elim))
  have HRx := Lib.hid (hx.mono (M' := Nob) (fun _ h => h.elim))
  have HAP := Lib.hid (fun (W : World) (h : Fr Nob w W) => apply_any Nob ⟨1, f, t, gf, gt, ins, mk, x⟩ A B l c b W (HRl.out.fr h (fun _ _ h => h)) (HRx.out.fr h (fun _ _ h => h)) hc hb (by omega))
  simp only [StepM.cells, h0] at HAP
  have hDn1 : ((l.drop f).take (gf - f)).length = gf - f := by rw [List.length_take, List.length_drop]; omega
  have hDn2 : ((l.drop gt).take (t - gt)).length = t - gt := by rw [List.length_take, List.length_drop]; omega
  have HDR1 := Lib.hid (fun (W : World) (h : Fr Nob w W) => ((HRl.out.fr h (fun _ _ h => h)).cut (k := f) hc (gf - f)))
  have HDR2 := Lib.hid (fun (W : World) (h : Fr Nob w W) => ((HRl.out.fr h (fun _ _ h => h)).cut (k := gt) hc (t - gt)))
  obtain ⟨D1, hD1⟩ : ∃ D, (l.drop f).take (gf - f) = D := ⟨_, rfl⟩
  obtain ⟨D2, hD2⟩ : ∃ D, (l.drop gt).take (t - gt) = D := ⟨_, rfl⟩
  rw [hD1] at hDn1 HDR1 ⊢
  rw [hD2] at hDn2 HDR2 ⊢
  clear hD1 hD2
  have HDL1 := Lib.hid hDn1
  have HDL2 := Lib.hid hDn2
  have HTL := Lib.hid (show gf - f + (t - gt) ≤ 100000 by omega)
  have hgfc : gf ≤ c := by omega
  obtain ⟨ln, hln⟩ : ∃ ln, l.length = ln := ⟨_, rfl⟩
  obtain ⟨xn, hxn⟩ : ∃ xn, x.length = xn := ⟨_, rfl⟩
  have HLN := Lib.hid hln
  have HXN := Lib.hid hxn
  have hfc : t ≤ c := by omega
  rw [hln] at hc htl hn
  rw [hxn] at hb hnx h4
  simp only [hln, hxn] at HAP ⊢
  clear hl hx h0 hln hxn
  go_enter Tryz.func47, Tryz.ntmps47
  go_upto_region 1 with (fail)
  obtain ⟨W, hW⟩ : ∃ W, (w.alloc (.cells #[.int .i64 1, .int .i64 f, .int .i64 t, .int .i64 gf, .int .i64 gt, .int .i64 ins, .slice B xn b, .int .i64 mk] 32)).alloc (.cells #[.int .i64 0, .int .i64 0, .int .i64 0, .int .i64 0, .int .i64 0, .int .i64 0, .slice none 0 0, .int .i64 0] 32) = W := ⟨_, rfl⟩
  have HF := Lib.hid (show Fr Nob w W by rw [← hW]; exact ((Fr.refl _ _).alloc _).alloc _)
  have HS := Lib.hid (show Blk W w.heap.size [.int .i64 1, .int .i64 f, .int .i64 t, .int .i64 gf, .int .i64 gt, .int .i64 ins, .slice B xn b, .int .i64 mk] 32 by rw [← hW]; exact (Blk.new _ _ _).alloc _)
  have HZ := Lib.hid (show Blk W (w.heap.size + 1) [.int .i64 0, .int .i64 0, .int .i64 0, .int .i64 0, .int .i64 0, .int .i64 0, .slice none 0 0, .int .i64 0] 32 by rw [← hW]; exact Blk.new_at (w.alloc _) _ _ (w.heap.size + 1) (by simp))
  rw [hW]
  clear hW
  obtain ⟨d0, d1, d2, d3, d4, d5, d6, d7, dl⟩ := HS.out.c8
  go_wp2_with fail
  clear d0 d1 d2 d3 d4 d5 d6 d7 dl
  refine (HAP.out W HF.out).mono ?_
  rintro e w1 ⟨v, rfl, hv, _, hF1⟩
  have HF1 := Lib.hid (HF.out.same hF1)
  have HS1 := Lib.hid (HS.out.fr hF1 (fun h => h))
  have HZ1 := Lib.hid (HZ.out.fr hF1 (fun h => h))
  have HV := Lib.hid ((hv trivial).old HF.out.size)
  clear hF1 hv HF HS HZ HAP
  obtain ⟨d0, d1, d2, d3, d4, d5, d6, d7, dl⟩ := HS1.out.c8
  go_upto_region 5 with (fail)
  obtain ⟨q, hq⟩ : ∃ q, w1.heap.size = q := ⟨_, rfl⟩
  have HQ := Lib.hid hq
  obtain ⟨W2, hW2⟩ : ∃ W, w1.alloc (.cells #[.int .i64 0, .int .i64 f, .int .i64 t, .int .i64 0, .int .i64 0, .int .i64 0, .slice none 0 0, .int .i64 0] 32) = W := ⟨_, rfl⟩
  have HF2 := Lib.hid (show Fr Nob w W2 by rw [← hW2]; exact HF1.out.alloc _)
  have hFa := (show Fr Nob w1 W2 by rw [← hW2]; exact (Fr.refl _ _).alloc _)
  have HS2 := Lib.hid (HS1.out.fr hFa (fun h => h))
  have HZ2 := Lib.hid (HZ1.out.fr hFa (fun h => h))
  have HB2 := Lib.hid (show Blk W2 q [.int .i64 0, .int .i64 f, .int .i64 t, .int .i64 0, .int .i64 0, .int .i64 0, .slice none 0 0, .int .i64 0] 32 by rw [← hW2]; exact Blk.new_at _ _ _ q hq.symm)
  have hqs : w.heap.size + 1 < q := by have := HZ1.out.lt; omega
  have HQS := Lib.hid hqs
  rw [hq, hW2]
  clear hW2 hFa HF1 HS1 HZ1 hq d0 d1 d2 d3 d4 d5 d6 d7 dl
  obtain ⟨d0, d1, d2, d3, d4, d5, d6, d7, dl⟩ := HS2.out.c8
  obtain ⟨b0, b1, b2, b3, b4, b5, b6, b7, bl⟩ := HB2.out.c8
  obtain ⟨z0, z1, z2, z3, z4, z5, z6, z7⟩ := HB2.out.z8
  clear hDn1 hDn2
  go_upto_region 14 with (fail)
  obtain ⟨W3, hW3⟩ : ∃ W, (((W2.setCell ⟨q, 0, none⟩ (.int .i64 1)).setCell ⟨q, 3, none⟩ (.int .i64 (↑f + ↑ins))).setCell ⟨q, 4, none⟩ (.int .i64 (↑f + ↑ins + ↑gt - ↑gf))).setCell ⟨q, 2, none⟩ (.int .i64 (↑f + ↑ins + ↑gt - ↑gf + ↑xn - ↑ins)) = W := ⟨_, rfl⟩
  have hF23 : Fr (One q) W2 W3 := by rw [← hW3]; exact (((((Fr.refl (One q) W2).setCell (p := ⟨q, 0, none⟩) (.inl rfl) _).setCell (p := ⟨q, 3, none⟩) (.inl rfl) _).setCell (p := ⟨q, 4, none⟩) (.inl rfl) _).setCell (p := ⟨q, 2, none⟩) (.inl rfl) _)
  have HB3 := Lib.hid (show Blk W3 q [.int .i64 1, .int .i64 f, .int .i64 (↑f + ↑ins + ↑gt - ↑gf + ↑xn - ↑ins), .int .i64 (↑f + ↑ins), .int .i64 (↑f + ↑ins + ↑gt - ↑gf), .int .i64 0, .slice none 0 0, .int .i64 0] 32 by rw [← hW3]; exact ((((HB2.out.set 0 _).set 3 _).set 4 _).set 2 _))
  have HF3 := Lib.hid (HF2.out.trans hF23 (fun k hk e => by have e' : k = q := e; have := HQS.out; omega))
  have HS3 := Lib.hid (HS2.out.fr hF23 (fun e => by have e' : w.heap.size = q := e; have := HQS.out; omega))
  have HZ3 := Lib.hid (HZ2.out.fr hF23 (fun e => by have e' : w.heap.size + 1 = q := e; have := HQS.out; omega))
  rw [hW3]
  clear hW3 hF23 HF2 HS2 HZ2 HB2 d0 d1 d2 d3 d4 d5 d6 d7 dl b0 b1 b2 b3 b4 b5 b6 b7 bl z0 z1 z2 z3 z4 z5 z6 z7
  have HBL := Lib.hid (HB3.out.lt)
  have hseg : ∀ y ∈ [(⟨cutA A c f, c - f, D1⟩ : Seg), ⟨cutA A c gt, c - gt, D2⟩], Rd Nob W3 y.a (tokC y.l) := fun y hy => by
    simp only [List.mem_cons, List.not_mem_nil, or_false] at hy
    rcases hy with rfl | rfl
    · exact HDR1.out W3 HF3.out
    · exact HDR2.out W3 HF3.out
  have HSEG := Lib.hid hseg
  clear hseg
  have KS := Lib.hid (show ∀ W' : World, Fr Nob W3 W' → (fun W' : World => W'.cell? ⟨w.heap.size, 1, none⟩ = some (.int .i64 f) ∧ W'.cell? ⟨w.heap.size, 2, none⟩ = some (.int .i64 t) ∧ W'.cell? ⟨w.heap.size, 3, none⟩ = some (.int .i64 gf) ∧ W'.cell? ⟨w.heap.size, 4, none⟩ = some (.int .i64 gt)) W' from fun W' hF' => ⟨(HS3.out.fr hF' (fun h => h)).cell 1, (HS3.out.fr hF' (fun h => h)).cell 2, (HS3.out.fr hF' (fun h => h)).cell 3, (HS3.out.fr hF' (fun h => h)).cell 4⟩)
  refine wp_region_held_drew (S := fun W' : World => W'.cell? ⟨w.heap.size, 1, none⟩ = some (.int .i64 f) ∧ W'.cell? ⟨w.heap.size, 2, none⟩ = some (.int .i64 t) ∧ W'.cell? ⟨w.heap.size, 3, none⟩ = some (.int .i64 gf) ∧ W'.cell? ⟨w.heap.size, 4, none⟩ = some (.int .i64 gt)) (by kernel_rfl) (KS.out _ (Fr.refl _ _).drew) (fun _ => ?_)
  have HFD := Lib.hid ((Fr.refl Nob W3).drew)
  generalize W3.drew = wd at HFD ⊢
  have HSD := Lib.hid (KS.out wd HFD.out)
  refine take_by (i := 0) (v := .slice A ln c) rfl HSD.out ?_
  refine take_by (i := 1) (v := .pointer (some ⟨w.heap.size, 1, none⟩)) rfl HSD.out ?_
  refine take_by (i := 2) (v := .int .i64 f) rfl HSD.out ?_
  refine take_by (i := 3) (v := .pointer (some ⟨w.heap.size, 3, none⟩)) rfl HSD.out ?_
  refine take_by (i := 4) (v := .int .i64 gf) rfl HSD.out ?_
  refine take_by (i := 5) (v := .slice (cutA A c f) (gf - f) (c - f)) rfl HSD.out ?_
  refine take_by (i := 6) (v := .slice A ln c) rfl HSD.out ?_
  refine take_by (i := 7) (v := .pointer (some ⟨w.heap.size, 4, none⟩)) rfl HSD.out ?_
  refine take_by (i := 8) (v := .int .i64 gt) rfl HSD.out ?_
  refine take_by (i := 9) (v := .pointer (some ⟨w.heap.size, 2, none⟩)) rfl HSD.out ?_
  refine take_by (i := 10) (v := .int .i64 t) rfl HSD.out ?_
  refine take_by (i := 11) (v := .slice (cutA A c gt) (t - gt) (c - gt)) rfl HSD.out ?_
  try simp only [List.getElem_toArray, List.getElem_cons_succ, List.getElem_cons_zero, Act.put, List.setIfInBounds_toArray, List.set_cons_zero, List.set_cons_succ]
  refine wpAnyH_ready (rs := [12]) (by kernel_rfl) (by simp) (AllReadyH.cons (o := _) rfl (fun K hK => ?_) AllReadyH.nil)
  go_simp
  refine hK.out _ _ (KS.out _ (HFD.out.alloc _)) (fun _ => ?_)
  clear hK K
  try simp only [List.getElem_toArray, List.getElem_cons_succ, List.getElem_cons_zero, Act.put, List.setIfInBounds_toArray, List.set_cons_zero, List.set_cons_succ]
  refine wpAnyH_ready (rs := [13]) (by kernel_rfl) (by simp) (AllReadyH.cons (o := _) rfl (fun K hK => ?_) AllReadyH.nil)
  go_simp
  refine (tokens_new Nob [(⟨cutA A c f, c - f, D1⟩ : Seg), ⟨cutA A c gt, c - gt, D2⟩] W3 wd 22 [.slice (cutA A c f) (gf - f) (c - f), .slice (cutA A c gt) (t - gt) (c - gt)] 2 HFD.out HSEG.out (by simp [Seg.v, HDL1.out, HDL2.out]) rfl (by have h1 := HTL.out; have h2 := HDL1.out; have h3 := HDL2.out; simp [segsL]; omega) (by decide)).mono ?_
  rintro e w4 ⟨v', rfl, hv4, hF4⟩
  have e1 : segsL [(⟨cutA A c f, c - f, D1⟩ : Seg), ⟨cutA A c gt, c - gt, D2⟩] = D1 ++ D2 := by simp [segsL]
  rw [e1] at hv4
  clear e1
  obtain ⟨g, rfl, hg, hgb⟩ := hv4
  have HG4 := Lib.hid hg
  have HGB := Lib.hid hgb
  have HF34 := Lib.hid hF4
  have HF4 := Lib.hid (HF3.out.same hF4)
  have HS4 := Lib.hid (HS3.out.fr hF4 (fun h => h))
  have HZ4 := Lib.hid (HZ3.out.fr hF4 (fun h => h))
  have HB4 := Lib.hid (HB3.out.fr hF4 (fun h => h))
  clear hg hgb hF4 HS3 HZ3 HB3
  obtain ⟨dn, hdn⟩ : ∃ n, (D1 ++ D2).length = n := ⟨_, rfl⟩
  have HDN := Lib.hid hdn
  rw [hdn]
  clear hdn
  obtain ⟨b0, b1, b2, b3, b4, b5, b6, b7, bl⟩ := HB4.out.c8
  obtain ⟨z0, z1, z2, z3, z4, z5, z6, z7⟩ := HB4.out.z8
  have hS4 := KS.out w4 HF34.out
  have HS4' := Lib.hid hS4
  clear hS4 b0 b1 b2 b3 b4 b5 b7 z0 z1 z2 z3 z4 z5 z7
  go_wp2_with fail
  refine hK.out _ _ HS4'.out (fun _ => ?_)
  clear hK K
  refine take_by (i := 14) (v := .pointer (some ⟨q, 6, none⟩)) rfl HS4'.out ?_
  try simp only [List.getElem_toArray, List.getElem_cons_succ, List.getElem_cons_zero, Act.put, List.setIfInBounds_toArray, List.set_cons_zero, List.set_cons_succ]
  refine wpAnyH_ready (rs := [15]) (by kernel_rfl) (by simp) (AllReadyH.cons (o := _) rfl (fun K hK => ?_) AllReadyH.nil)
  go_simp
  obtain ⟨W5, hW5⟩ : ∃ W, w4.setCell ⟨q, 6, none⟩ (.slice (some ⟨g, 0, none⟩) dn dn) = W := ⟨_, rfl⟩
  have hF45 : Fr (One q) w4 W5 := by rw [← hW5]; exact ((Fr.refl (One q) w4).setCell (p := ⟨q, 6, none⟩) (.inl rfl) _)
  have HB5 := Lib.hid (show Blk W5 q [.int .i64 1, .int .i64 f, .int .i64 (↑f + ↑ins + ↑gt - ↑gf + ↑xn - ↑ins), .int .i64 (↑f + ↑ins), .int .i64 (↑f + ↑ins + ↑gt - ↑gf), .int .i64 0, .slice (some ⟨g, 0, none⟩) dn dn, .int .i64 0] 32 by rw [← hW5]; exact HB4.out.set 6 _)
  have hgq : q < g := by have := HB4.out.lt; have h2 := HG4.out; have h3 := HBL.out; omega
  have HF5 := Lib.hid (HF4.out.trans hF45 (fun k hk e => by have e' : k = q := e; have := HQS.out; omega))
  have HZ5 := Lib.hid (HZ4.out.fr hF45 (fun e => by have e' : w.heap.size + 1 = q := e; have := HQS.out; omega))
  have HS5 := Lib.hid (HS4.out.fr hF45 (fun e => by have e' : w.heap.size = q := e; have := HQS.out; omega))
  have HG5 := Lib.hid (HGB.out.fr hF45 (fun e => by have e' : g = q := e; omega))
  have HGQ := Lib.hid hgq
  rw [hW5]
  clear hW5 hF45 hgq HF4 HS4 HZ4 HB4 HGB b6 bl z6
  refine hK.out _ _ (⟨HS5.out.cell 1, HS5.out.cell 2, HS5.out.cell 3, HS5.out.cell 4⟩) (fun _ => ?_)
  clear hK K
  try simp only [List.getElem_toArray, List.getElem_cons_succ, List.getElem_cons_zero, Act.put, List.setIfInBounds_toArray, List.set_cons_zero, List.set_cons_succ]
  refine wpAnyH_done (by kernel_rfl) ?_ _
  obtain ⟨b0, b1, b2, b3, b4, b5, b6, b7, bl⟩ := HB5.out.c8
  obtain ⟨z0, z1, z2, z3, z4, z5, z6, z7⟩ := HB5.out.z8
  obtain ⟨d0, d1, d2, d3, d4, d5, d6, d7, dl⟩ := HS5.out.c8
  go_upto_region 16 with (fail)
  obtain ⟨W6, hW6⟩ : ∃ W, W5.setCell ⟨q, 5, none⟩ (.int .i64 (↑gf - ↑f)) = W := ⟨_, rfl⟩
  have hF56 : Fr (One q) W5 W6 := by rw [← hW6]; exact ((Fr.refl (One q) W5).setCell (p := ⟨q, 5, none⟩) (.inl rfl) _)
  have HB6 := Lib.hid (show Blk W6 q [.int .i64 1, .int .i64 f, .int .i64 (↑f + ↑ins + ↑gt - ↑gf + ↑xn - ↑ins), .int .i64 (↑f + ↑ins), .int .i64 (↑f + ↑ins + ↑gt - ↑gf), .int .i64 (↑gf - ↑f), .slice (some ⟨g, 0, none⟩) dn dn, .int .i64 0] 32 by rw [← hW6]; exact HB5.out.set 5 _)
  have HF6 := Lib.hid (HF5.out.trans hF56 (fun k hk e => by have e' : k = q := e; have := HQS.out; omega))
  have HZ6 := Lib.hid (HZ5.out.fr hF56 (fun e => by have e' : w.heap.size + 1 = q := e; have := HQS.out; omega))
  have HG6 := Lib.hid (HG5.out.fr hF56 (fun e => by have e' : g = q := e; have := HGQ.out; omega))
  rw [hW6]
  clear hW6 hF56 HF5 HZ5 HS5 HB5 HG5 b0 b1 b2 b3 b4 b5 b6 b7 bl z0 z1 z2 z3 z4 z5 z6 z7 d0 d1 d2 d3 d4 d5 d6 d7 dl
  obtain ⟨b0, b1, b2, b3, b4, b5, b6, b7, bl⟩ := HB6.out.c8
  obtain ⟨d0, d1, d2, d3, d4, d5, d6, d7, dl⟩ := HZ6.out.c8
  obtain ⟨z0, z1, z2, z3, z4, z5, z6, z7⟩ := HZ6.out.z8
  go_wp2_with fail
  refine ret8m (v := .tuple #[.agg #[.int .i64 1, .int .i64 f, .int .i64 (↑f + ↑ins + ↑gt - ↑gf + ↑xn - ↑ins), .int .i64 (↑f + ↑ins), .int .i64 (↑f + ↑ins + ↑gt - ↑gf), .int .i64 (↑gf - ↑f), .slice (some ⟨g, 0, none⟩) dn dn, .int .i64 0], .int .i64 0]) HZ6.out rfl (fun WE z0 z1 z2 z3 z4 z5 z6 z7 => by simp [results, go_sem, z0, z1, z2, z3, z4, z5, z6, z7]) (fun WE hF => ?_)
  have hbe := HG6.out.fr hF (fun e => by have e' : g = w.heap.size + 1 := e; have h1 := HGQ.out; have h2 := HQS.out; omega)
  refine ⟨some ⟨g, 0, none⟩, dn, by simp only [StepM.cells, HDN.out, HXN.out], fun _ => ⟨_, rfl, ?_, fun j u hu => ?_⟩, Nat.le_of_eq HDN.out, HF6.out.trans hF (fun k hk e => by have e' : k = w.heap.size + 1 := e; omega)⟩
  · show ¬ g < w.heap.size
    have h1 := HGQ.out
    have h2 := HQS.out
    omega
  · rw [add_lit]
    exact (hbe.cell j).trans hu
end Go.Proofs.YtldcffonfidbcaaGreatDoor
