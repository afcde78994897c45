/- A part of the proof for chapter 10: HistTurn, HistUndo, HistLocal, CheckP; no conditions. -/
import Derived.Test.YtldcffonfidbcaaGreatDoorB26
import Derived.Test.YtldcffonfidbcaaGreatDoorB25
import Derived.Test.YtldcffonfidbcaaGreatDoorB19
/- History.turn: the top of a stack is done; what undoes it goes on the other one. -/
namespace Go.Proofs.YtldcffonfidbcaaGreatDoor
open Go.RowKit
attribute [local go_sem high] cut_stack
set_option maxRecDepth 100000 in
set_option maxHeartbeats 4000000 in
theorem hundo_any (N : Nat → Prop) (q p : Nat) (rs : List RuleM) (g : List Grp) (hok : SchOk rs g) (A FA TA : Option Addr) (c fc tc lost : Nat) (l : List Tok) (F T : List StepA) (y : StepA) (w : World) (h : HM N w q p rs g ⟨A, c, l, FA, fc, (F ++ [y]), TA, tc, T, lost⟩) (hn : l.length ≤ 100000) (hu : F.length ≤ 99) (ht : T.length ≤ 100) (hx : y.s.l.length ≤ 100000) (hlo : lost ≤ 100000) (hN : ∀ k, N k → k < w.heap.size) :
    Calls Tryz.prog 30 #[.pointer (some ⟨q, 0, none⟩), .pointer (some ⟨q, 2, none⟩), .pointer (some ⟨q, 3, none⟩)] w fun e w' => (Fr (One q) w w' ∧ (doE rs g y.s l = 0 → ∃ A' c' TA' tc' IB ib OB ob, e = .returned (.tuple #[.agg (y.s.cells (.slice OB y.s.l.length ob)).toArray, .int .i64 0]) ∧ Rd N w' OB (tokC y.s.l) ∧ y.s.l.length ≤ ob ∧ HM N w' q p rs g ⟨A', c', (doF y.s l), FA, F.length, F, TA', tc', (T ++ [⟨invS y.s l, IB, ib⟩]), lost⟩) ∧ (doE rs g y.s l ≠ 0 → e = .returned (.tuple #[.agg #[.int .i64 0, .int .i64 0, .int .i64 0, .int .i64 0, .int .i64 0, .int .i64 0, .slice none 0 0, .int .i64 0], .int .i64 9]) ∧ HM N w' q p rs g ⟨A, c, l, FA, F.length, F, TA, tc, T, (lost + 1)⟩)) := by
  have HP := Lib.hid (show ∀ (e : Ending) (w' : World), (Fr (One q) w w' ∧ (doE rs g y.s l = 0 → ∃ A' c' TA' tc' IB ib OB ob, e = .returned (.tuple #[.agg (y.s.cells (.slice OB y.s.l.length ob)).toArray, .int .i64 0]) ∧ Rd N w' OB (tokC y.s.l) ∧ y.s.l.length ≤ ob ∧ HM N w' q p rs g ⟨A', c', (doF y.s l), FA, F.length, F, TA', tc', (T ++ [⟨invS y.s l, IB, ib⟩]), lost⟩) ∧ (doE rs g y.s l ≠ 0 → e = .returned (.tuple #[.agg #[.int .i64 0, .int .i64 0, .int .i64 0, .int .i64 0, .int .i64 0, .int .i64 0, .slice none 0 0, .int .i64 0], .int .i64 9]) ∧ HM N w' q p rs g ⟨A, c, l, FA, F.length, F, TA, tc, T, (lost + 1)⟩)) → (fun e w' => (Fr (One q) w w' ∧ (doE rs g y.s l = 0 → ∃ A' c' TA' tc' IB ib OB ob, e = .returned (.tuple #[.agg (y.s.cells (.slice OB y.s.l.length ob)).toArray, .int .i64 0]) ∧ Rd N w' OB (tokC y.s.l) ∧ y.s.l.length ≤ ob ∧ HM N w' q p rs g ⟨A', c', (doF y.s l), FA, F.length, F, TA', tc', (T ++ [⟨invS y.s l, IB, ib⟩]), lost⟩) ∧ (doE rs g y.s l ≠ 0 → e = .returned (.tuple #[.agg #[.int .i64 0, .int .i64 0, .int .i64 0, .int .i64 0, .int .i64 0, .int .i64 0, .slice none 0 0, .int .i64 0], .int .i64 9]) ∧ HM N w' q p rs g ⟨A, c, l, FA, F.length, F, TA, tc, T, (lost + 1)⟩))) e w' from fun e w' h => h)
  obtain ⟨PO, hPO⟩ : ∃ P, (fun (e : Ending) (w' : World) => (Fr (One q) w w' ∧ (doE rs g y.s l = 0 → ∃ A' c' TA' tc' IB ib OB ob, e = .returned (.tuple #[.agg (y.s.cells (.slice OB y.s.l.length ob)).toArray, .int .i64 0]) ∧ Rd N w' OB (tokC y.s.l) ∧ y.s.l.length ≤ ob ∧ HM N w' q p rs g ⟨A', c', (doF y.s l), FA, F.length, F, TA', tc', (T ++ [⟨invS y.s l, IB, ib⟩]), lost⟩) ∧ (doE rs g y.s l ≠ 0 → e = .returned (.tuple #[.agg #[.int .i64 0, .int .i64 0, .int .i64 0, .int .i64 0, .int .i64 0, .int .i64 0, .slice none 0 0, .int .i64 0], .int .i64 9]) ∧ HM N w' q p rs g ⟨A, c, l, FA, F.length, F, TA, tc, T, (lost + 1)⟩))) = P := ⟨_, rfl⟩
  rw [hPO] at HP ⊢
  obtain ⟨N', hN'⟩ : ∃ N', (fun k => N k ∨ k = w.heap.size) = N' := ⟨_, rfl⟩
  have HNN := Lib.hid hN
  have HNQ := Lib.hid h.mem
  have HNB := Lib.hid (show ∀ k, N' k → k < w.heap.size + 1 from fun k hk => by rw [← hN'] at hk; rcases hk with hk | hk; have := hN k hk; omega; omega)
  have h := h.bound.mono (N' := N') (fun k hk => by rw [← hN'] at hk; rcases hk with hk | hk; exact .inl hk; exact .inr (Nat.le_of_eq hk.symm)) (by rw [← hN']; exact .inl h.mem)
  have HNI := Lib.hid (show N' w.heap.size by rw [← hN']; exact .inr rfl)
  have HNS := Lib.hid (show ∀ k, N k → N' k from fun k hk => by rw [← hN']; exact .inl hk)
  clear hN hN'
  have HH := Lib.hid h
  have HQ := Lib.hid h.blk.lt
  obtain ⟨q0, q1, qu, qr, q4, _, f2, f3, f4, hql⟩ := h.f5
  have hst : Stk N' w FA fc (F ++ [y]) := h.und
  obtain ⟨ad, rfl, hnb, hbl, c0, cj⟩ := Rd.elt StepA.cells_len (by omega) hst.rows.row (show F.length < (F ++ [y]).length by simp)
  have hyy : (F ++ [y])[F.length]'(by simp) = y := by simp
  simp only [hyy] at c0 cj
  clear hyy
  have c1 := cj 0 (by omega)
  have c2 := cj 1 (by omega)
  have c3 := cj 2 (by omega)
  have c4 := cj 3 (by omega)
  have c5 := cj 4 (by omega)
  have c6 := cj 5 (by omega)
  have c7 := cj 6 (by omega)
  clear cj hnb
  have HYR := Lib.hid (hst.rows.each y (by simp))
  have HYB := Lib.hid (hst.rows.cap y (by simp))
  have HSF := Lib.hid (show Stk N' w (some ad) F.length F from ⟨⟨by have h1 := hst.rows.row.take (stepC F).length; simpa [stepC] using h1, fun z hz => hst.rows.each z (by simp [hz]), fun z hz => hst.rows.cap z (by simp [hz])⟩, Nat.le_refl _, fun h => by cases h⟩)
  have HDO := Lib.hid (fun (W : World) (hM : HM N' W q p rs g ⟨A, c, l, (some ad), F.length, F, TA, tc, T, lost⟩) => hdo_any N' q p rs g hok ⟨A, c, l, (some ad), F.length, F, TA, tc, T, lost⟩ y.s y.B y.b W hM)
  simp only [DoPost] at HDO
  simp only at q0 qu qr q4 HDO
  have hap : (F ++ [y]).length = F.length + 1 := by simp
  rw [hap] at qu
  clear h hst hok hap hPO
  obtain ⟨E, hE⟩ : ∃ E, doE rs g y.s l = E := ⟨_, rfl⟩
  obtain ⟨D, hD⟩ : ∃ D, doF y.s l = D := ⟨_, rfl⟩
  obtain ⟨Y, hY⟩ : ∃ Y, invS y.s l = Y := ⟨_, rfl⟩
  simp only [hE, hD, hY] at HDO HP
  clear hE hD hY
  obtain ⟨⟨yk, yf, yt, ygf, ygt, yins, ym, yl⟩, hYY⟩ : ∃ Y', Y = Y' := ⟨_, rfl⟩
  have HYY := Lib.hid hYY
  simp only [hYY] at HDO
  clear hYY
  obtain ⟨yn, hyn⟩ : ∃ n, yl.length = n := ⟨_, rfl⟩
  have HYN := Lib.hid hyn
  obtain ⟨tn, htn⟩ : ∃ n, T.length = n := ⟨_, rfl⟩
  have HTN := Lib.hid htn
  obtain ⟨fn, hfn⟩ : ∃ n, F.length = n := ⟨_, rfl⟩
  have HFN := Lib.hid hfn
  obtain ⟨⟨k, f, t, gf, gt, ins, m, x⟩, B, b⟩ := y
  simp only [StepA.cells, StepM.cells, List.getElem?_cons_zero, List.getElem?_cons_succ, Nat.reduceAdd] at c0 c1 c2 c3 c4 c5 c6 c7 HDO HP HYR HYB hx
  obtain ⟨xn, hxn⟩ : ∃ n, x.length = n := ⟨_, rfl⟩
  have HXN := Lib.hid hxn
  simp only [hfn, htn, hxn, hyn] at c0 c1 c2 c3 c4 c5 c6 c7 HDO HP qu qr hu ht HYB hx HSF
  have HFU := Lib.hid hu
  have HTT := Lib.hid ht
  clear hyn htn hfn hxn
  have hge : ¬ ((fn : Int) < 0) := by omega
  go_enter Tryz.func30, Tryz.ntmps30
  go_upto_region 4 with (fail)
  obtain ⟨W0, hW0⟩ : ∃ W, w.alloc (.cells #[.int .i64 0, .int .i64 0, .int .i64 0, .int .i64 0, .int .i64 0, .int .i64 0, .slice none 0 0, .int .i64 0] 32) = W := ⟨_, rfl⟩
  have HF0 := Lib.hid (show Fr Nob w W0 by rw [← hW0]; exact (Fr.refl _ _).alloc _)
  have HZ0 := Lib.hid (show Blk W0 w.heap.size [.int .i64 0, .int .i64 0, .int .i64 0, .int .i64 0, .int .i64 0, .int .i64 0, .slice none 0 0, .int .i64 0] 32 by rw [← hW0]; exact Blk.new _ _ _)
  rw [hW0]
  clear hW0 q0 qu qr q4 f2 f3 f4 hql
  have hx8 : ∀ (j : Nat) v, w.cell? ⟨(ad.add (fn * 8)).block, (ad.add (fn * 8)).off + j, none⟩ = some v → W0.cell? ⟨(ad.add (fn * 8)).block, (ad.add (fn * 8)).off + j, none⟩ = some v := fun j v h => (HF0.out.cell (by show (ad.add (fn * 8)).block < _; rw [add_block]; exact hbl) (fun h => h)).trans h
  replace c0 := (HF0.out.cell (by rw [add_block]; exact hbl) (fun h => h)).trans c0
  replace c1 := hx8 _ _ c1
  replace c2 := hx8 _ _ c2
  replace c3 := hx8 _ _ c3
  replace c4 := hx8 _ _ c4
  replace c5 := hx8 _ _ c5
  replace c6 := hx8 _ _ c6
  replace c7 := hx8 _ _ c7
  clear hx8
  obtain ⟨q0, _, qu, qr, q4, _, f2, f3, f4, hql⟩ := (HH.out.fr0 HF0.out).f5
  simp only at q0 qu qr q4
  have hap : (F ++ [(⟨⟨k, f, t, gf, gt, ins, m, x⟩, B, b⟩ : StepA)]).length = fn + 1 := by rw [List.length_append, HFN.out]; rfl
  rw [hap] at qu
  rw [HTN.out] at qr
  clear hap
  have hbl0 : (ad.add (fn * 8)).block < W0.heap.size := by rw [add_block]; have := HF0.out.size; omega
  go_upto_region 5 with (fail)
  obtain ⟨sx, hsx⟩ : ∃ n, W0.heap.size = n := ⟨_, rfl⟩
  obtain ⟨Wa, hWa⟩ : ∃ W, W0.alloc (.cells #[.int .i64 k, .int .i64 f, .int .i64 t, .int .i64 gf, .int .i64 gt, .int .i64 ins, .slice B xn b, .int .i64 m] 32) = W := ⟨_, rfl⟩
  have HFa := Lib.hid (show Fr Nob w Wa by rw [← hWa]; exact HF0.out.alloc _)
  have HSa := Lib.hid (show Blk Wa sx [.int .i64 k, .int .i64 f, .int .i64 t, .int .i64 gf, .int .i64 gt, .int .i64 ins, .slice B xn b, .int .i64 m] 32 by rw [← hWa, ← hsx]; exact Blk.new _ _ _)
  have HZa := Lib.hid (show Blk Wa w.heap.size [.int .i64 0, .int .i64 0, .int .i64 0, .int .i64 0, .int .i64 0, .int .i64 0, .slice none 0 0, .int .i64 0] 32 by rw [← hWa]; exact HZ0.out.alloc _)
  have HSX := Lib.hid (show w.heap.size < sx by rw [← hsx]; exact HZ0.out.lt)
  rw [hWa, hsx]
  clear hWa hsx c0 c1 c2 c3 c4 c5 c6 c7 q0 qu qr q4 f2 f3 f4 hql hbl0
  obtain ⟨q0, _, qu, qr, q4, _, f2, f3, f4, hql⟩ := (HH.out.fr0 HFa.out).f5
  simp only at q0 qu qr q4
  have hap : (F ++ [(⟨⟨k, f, t, gf, gt, ins, m, x⟩, B, b⟩ : StepA)]).length = fn + 1 := by rw [List.length_append, HFN.out]; rfl
  rw [hap] at qu
  clear hap
  have hfc : fn ≤ fc := by have h := (HH.out.und).cap; simp only [List.length_append, HFN.out, List.length_singleton] at h; omega
  go_upto_region 6 with (fail)
  obtain ⟨W, hW⟩ : ∃ W, Wa.setCell ⟨q, 2, none⟩ (.slice (some ad) fn fn) = W := ⟨_, rfl⟩
  have HFb := Lib.hid (show Fr (One q) Wa W by rw [← hW]; exact (Fr.refl (One q) Wa).setCell (p := ⟨q, 2, none⟩) (.inl rfl) _)
  have HMW := Lib.hid (show HM N' W q p rs g ⟨A, c, l, (some ad), fn, F, TA, tc, T, lost⟩ from by
    have hm := HH.out.fr0 HFa.out
    refine ⟨?_, hm.mem, hm.sch.fr HFb.out (hm.one _), hm.doc.fr HFb.out (hm.one _), hm.cap, HSF.out.fr ((HFa.out.any).same HFb.out) (hm.one _), hm.red.fr HFb.out (hm.one _)⟩
    have h1 := hm.blk.set 2 (.slice (some ad) fn fn)
    rw [hW] at h1
    simpa [HX.cells, HFN.out] using h1)
  have HS := Lib.hid (HSa.out.fr HFb.out (fun e => by have e' : sx = q := e; have := HQ.out; have := HSX.out; omega))
  have HZ := Lib.hid (HZa.out.fr HFb.out (fun e => by have e' : w.heap.size = q := e; have := HQ.out; omega))
  have HFW := Lib.hid (show Fr (One q) w W from (HFa.out.any).same HFb.out)
  replace HYR := Lib.hid (HYR.out.fr HFW.out (HMW.out.one _))
  rw [hW]
  clear hW HFa HFb HSa HZa q0 qu qr q4 f2 f3 f4 hql hfc
  obtain ⟨d0, d1, d2, d3, d4, d5, d6, d7, dl⟩ := HS.out.c8
  go_wp2_with fail
  refine (HDO.out W HMW.out HYR.out HYB.out hn (fun k hk => by have h1 := HNB.out k hk; have h2 := HZ.out.lt; omega)).mono ?_
  clear d0 d1 d2 d3 d4 d5 d6 d7 dl
  rintro e w1 ⟨hz, hnz, hF1⟩
  have HF1q := Lib.hid hF1
  clear hF1
  by_cases h0 : E = 0
  · obtain ⟨IB, ib, A1, c1, rfl, hM1, hI, hib⟩ := hz h0
    subst h0
    clear hz hnz
    have HM1 := Lib.hid hM1
    have HPU := Lib.hid (fun (W : World) (hF : Fr Nob w1 W) => push_any N' TA tc T ⟨⟨yk, yf, yt, ygf, ygt, yins, ym, yl⟩, IB, ib⟩ 0 W ((hM1.fr0 hF).red) (hI.fr hF (fun _ _ h => h.elim)) (by rw [HYN.out]; exact hib) (.inl rfl) (by omega) (by rw [HTN.out]; omega) (fun k hk => by have h1 := HNB.out k hk; have h2 := HZ.out.lt; have h3 := HF1q.out.size; have h4 := hF.size; omega))
    simp only [StepA.cells, StepM.cells, HTN.out, HYN.out] at HPU
    clear hM1 hI hib
    go_upto_region 10 with (fail)
    obtain ⟨r, hr⟩ : ∃ r, w1.heap.size = r := ⟨_, rfl⟩
    obtain ⟨W2, hW2⟩ : ∃ W, w1.alloc (.cells #[.int .i64 yk, .int .i64 yf, .int .i64 yt, .int .i64 ygf, .int .i64 ygt, .int .i64 yins, .slice IB yn ib, .int .i64 ym] 32) = W := ⟨_, rfl⟩
    have HF2 := Lib.hid (show Fr Nob w1 W2 by rw [← hW2]; exact (Fr.refl _ _).alloc _)
    have HR2 := Lib.hid (show Blk W2 r [.int .i64 yk, .int .i64 yf, .int .i64 yt, .int .i64 ygf, .int .i64 ygt, .int .i64 yins, .slice IB yn ib, .int .i64 ym] 32 by rw [← hW2, ← hr]; exact Blk.new _ _ _)
    rw [hr, hW2]
    clear hr hW2
    have HQB := Lib.hid ((HM1.out.fr0 HF2.out).blk)
    have KS := Lib.hid (show ∀ W' : World, Fr Nob W2 W' → (W'.cell? ⟨q, 3, none⟩ = some (.slice TA tn tc) ∧ W'.cell? ⟨r, 0, none⟩ = some (.int .i64 yk) ∧ W'.cell? ⟨r, 1, none⟩ = some (.int .i64 yf) ∧ W'.cell? ⟨r, 2, none⟩ = some (.int .i64 yt) ∧ W'.cell? ⟨r, 3, none⟩ = some (.int .i64 ygf) ∧ W'.cell? ⟨r, 4, none⟩ = some (.int .i64 ygt) ∧ W'.cell? ⟨r, 5, none⟩ = some (.int .i64 yins) ∧ W'.cell? ⟨r, 6, none⟩ = some (.slice IB yn ib) ∧ W'.cell? ⟨r, 7, none⟩ = some (.int .i64 ym)) from fun W' hF' => by
      have h := HR2.out.fr hF' (fun h => h)
      have hq := (HM1.out.fr0 (HF2.out.same hF')).f5
      simp only [HTN.out] at hq
      exact ⟨hq.2.2.2.1, h.cell 0, h.cell 1, h.cell 2, h.cell 3, h.cell 4, h.cell 5, h.cell 6, h.cell 7⟩)
    refine wp_region_G 7 (S := fun W' : World => W'.cell? ⟨q, 3, none⟩ = some (.slice TA tn tc) ∧ W'.cell? ⟨r, 0, none⟩ = some (.int .i64 yk) ∧ W'.cell? ⟨r, 1, none⟩ = some (.int .i64 yf) ∧ W'.cell? ⟨r, 2, none⟩ = some (.int .i64 yt) ∧ W'.cell? ⟨r, 3, none⟩ = some (.int .i64 ygf) ∧ W'.cell? ⟨r, 4, none⟩ = some (.int .i64 ygt) ∧ W'.cell? ⟨r, 5, none⟩ = some (.int .i64 yins) ∧ W'.cell? ⟨r, 6, none⟩ = some (.slice IB yn ib) ∧ W'.cell? ⟨r, 7, none⟩ = some (.int .i64 ym)) (by kernel_rfl) ?_
    have HFD := Lib.hid ((Fr.refl Nob W2).drew)
    generalize W2.drew = wd at HFD ⊢
    have HSD := Lib.hid (KS.out wd HFD.out)
    refine take_g (i := 0) (v := .pointer (some ⟨q, 3, none⟩)) rfl HSD.out ?_
    refine take_g (i := 1) (v := .pointer (some ⟨q, 3, none⟩)) rfl HSD.out ?_
    refine take_g (i := 4) (v := .agg #[.int .i64 yk, .int .i64 yf, .int .i64 yt, .int .i64 ygf, .int .i64 ygt, .int .i64 yins, .slice IB yn ib, .int .i64 ym]) rfl HSD.out ?_
    refine take_g (i := 2) (v := .pointer (some ⟨q, 3, none⟩)) rfl HSD.out ?_
    refine take_g (i := 3) (v := .slice TA tn tc) rfl HSD.out ?_
    try simp only [List.getElem_toArray, List.getElem_cons_succ, List.getElem_cons_zero, Act.put, List.setIfInBounds_toArray, List.set_cons_zero, List.set_cons_succ]
    refine wpAnyG_ready (rs := [5]) (by kernel_rfl) (by simp) (AllReadyG.cons (o := _) rfl (fun K hK => ?_) AllReadyG.nil)
    go_simp
    refine (HPU.out wd (HF2.out.same HFD.out)).mono ?_
    rintro e w3 ⟨TA2, tc2, rfl, hst, hF3⟩
    have HST := Lib.hid hst
    have HF3 := Lib.hid (HFD.out.same hF3)
    clear hst hF3
    go_wp2_with fail
    refine hK.out _ _ (fun _ => (KS.out _ HF3.out)) ?_
    clear hK K
    try simp only [List.getElem_toArray, List.getElem_cons_succ, List.getElem_cons_zero, Act.put, List.setIfInBounds_toArray, List.set_cons_zero, List.set_cons_succ]
    refine take_g (i := 6) (v := .pointer (some ⟨q, 3, none⟩)) rfl (KS.out _ HF3.out) ?_
    try simp only [List.getElem_toArray, List.getElem_cons_succ, List.getElem_cons_zero, Act.put, List.setIfInBounds_toArray, List.set_cons_zero, List.set_cons_succ]
    refine wpAnyG_ready (rs := [7]) (by kernel_rfl) (by simp) (AllReadyG.cons (o := _) rfl (fun K hK => ?_) AllReadyG.nil)
    have HB3 := Lib.hid (HQB.out.fr HF3.out (fun h => h))
    have f1 := HB3.out.frozen 3
    have f2 := HB3.out.cell 3
    have f3 := HB3.out.lt
    simp only [HX.cells, List.getElem?_cons_zero, List.getElem?_cons_succ] at f2
    go_simp
    clear f1 f2 f3
    obtain ⟨w4, hw4⟩ : ∃ W, w3.setCell ⟨q, 3, none⟩ (.slice TA2 (tn + 1) tc2) = W := ⟨_, rfl⟩
    have HB4 := Lib.hid (show Blk w4 q _ _ from by rw [← hw4]; exact HB3.out.set 3 (.slice TA2 (tn + 1) tc2))
    have HF4 := Lib.hid (show Fr (One q) w3 w4 by rw [← hw4]; exact (Fr.refl (One q) w3).setCell (p := ⟨q, 3, none⟩) (.inl rfl) _)
    rw [hw4]
    clear hw4
    refine hK.out _ _ (late (by kernel_rfl)) ?_
    clear hK K
    try simp only [List.getElem_toArray, List.getElem_cons_succ, List.getElem_cons_zero, Act.put, List.setIfInBounds_toArray, List.set_cons_zero, List.set_cons_succ]
    try simp only [List.getElem_toArray, List.getElem_cons_succ, List.getElem_cons_zero, Act.put, List.setIfInBounds_toArray, List.set_cons_zero, List.set_cons_succ]
    refine wpAnyG_done (by kernel_rfl) ?_ _
    have hm := HM1.out.fr0 (HF2.out.same HF3.out)
    have HFQ := Lib.hid ((HF1q.out.same (HF2.out.same HF3.out).any).same HF4.out)
    have HM4 := Lib.hid (show HM N' w4 q p rs g ⟨A1, c1, D, (some ad), fn, F, TA2, tc2, (T ++ [⟨⟨yk, yf, yt, ygf, ygt, yins, ym, yl⟩, IB, ib⟩]), lost⟩ from ⟨by have h1 := HB4.out; simpa [HX.cells, HTN.out] using h1, hm.mem, hm.sch.fr HF4.out (hm.one _), hm.doc.fr HF4.out (hm.one _), hm.cap, hm.und.fr HF4.out (hm.one _), HST.out.fr HF4.out (hm.one _)⟩)
    clear hm
    have HS4 := Lib.hid (HS.out.fr HFQ.out (fun e => by have e' : sx = q := e; have := HQ.out; have := HSX.out; omega))
    have HZ4 := Lib.hid (HZ.out.fr HFQ.out (fun e => by have e' : w.heap.size = q := e; have := HQ.out; omega))
    obtain ⟨d0, d1, d2, d3, d4, d5, d6, d7, dl⟩ := HS4.out.c8
    go_wp2_with fail
    have how := hown_any N' ⟨k, f, t, gf, gt, ins, m, x⟩ B b w4 ((HYR.out.fr HFQ.out (fun k _ e => by have e' : k = q := e; rw [e']; exact HM4.out.mem))) (by have := HXN.out; simp only; omega)
    simp only [StepM.cells, HXN.out] at how
    refine how.mono ?_
    clear how d0 d1 d2 d3 d4 d5 d6 d7 dl
    rintro e w5 ⟨OB, ob, rfl, hO, hob, hF5⟩
    have HO := Lib.hid hO
    have HOB := Lib.hid hob
    have HF5 := Lib.hid hF5
    have HZ5 := Lib.hid (HZ4.out.fr hF5 (fun h => h))
    clear hO hob hF5
    obtain ⟨b0, b1, b2, b3, b4, b5, b6, b7, bl⟩ := HZ5.out.c8
    obtain ⟨z0, z1, z2, z3, z4, z5, z6, z7⟩ := HZ5.out.z8
    go_wp2_with fail
    refine ret8m (v := .tuple #[.agg #[.int .i64 k, .int .i64 f, .int .i64 t, .int .i64 gf, .int .i64 gt, .int .i64 ins, .slice OB xn ob, .int .i64 m], .int .i64 0]) HZ5.out rfl (fun WE z0 z1 z2 z3 z4 z5 z6 z7 => by simp [results, go_sem, z0, z1, z2, z3, z4, z5, z6, z7]) (fun WE hFE => ?_)
    have hq := HQ.out
    have hw4 := HFW.out.size
    have hw5 := HFQ.out.size
    have hfE : Fr (One w.heap.size) w4 WE := (HF5.out.any).same hFE
    have hfin : Fr (One q) w WE := (HFW.out.same (HFQ.out.same HF5.out.any)).trans hFE (fun k hk e => by have e' : k = w.heap.size := e; omega)
    refine HP.out _ _ ⟨hfin, fun _ => ⟨A1, c1, TA2, tc2, IB, ib, OB, ob, rfl, ?_, HOB.out, ?_⟩, fun h => absurd rfl h⟩
    · exact (HO.out.fr hFE (fun k hk e => by have e' : k = w.heap.size := e; have := HZ4.out.lt; show k < _; omega)).mono (fun k e => by have e' := HNN.out k e; show k < _; omega)
    · have h1 := (HM4.out.fr hfE (fun k _ e => by have e' : k = w.heap.size := e; rw [e']; exact HNI.out) (fun e => by have e' : q = w.heap.size := e; omega)).mono (N' := N) HNS.out HNQ.out
      rw [HYY.out]
      exact h1
  · obtain ⟨rfl, hM1⟩ := hnz h0
    have h0' : (E == 0) = false := by simpa using h0
    have HM1 := Lib.hid hM1
    clear hz hnz hM1
    have HZ1 := Lib.hid (HZ.out.fr HF1q.out (fun e => by have e' : w.heap.size = q := e; have := HQ.out; omega))
    obtain ⟨q0, _, _, _, q4, _, f2, f3, f4, hql⟩ := HM1.out.f5
    simp only at q4
    go_upto_region 9 with (fail)
    obtain ⟨w8, hw8⟩ : ∃ W, w1.setCell ⟨q, 4, none⟩ (.int .i64 ((lost : Int) + 1)) = W := ⟨_, rfl⟩
    obtain ⟨w9, hw9⟩ : ∃ W, w8.alloc (.cells #[.int .i64 0, .int .i64 0, .int .i64 0, .int .i64 0, .int .i64 0, .int .i64 0, .slice none 0 0, .int .i64 0] 32) = W := ⟨_, rfl⟩
    have HF8 := Lib.hid (show Fr (One q) w1 w8 by rw [← hw8]; exact (Fr.refl (One q) w1).setCell (p := ⟨q, 4, none⟩) (.inl rfl) _)
    have HF9 := Lib.hid (show Fr Nob w8 w9 by rw [← hw9]; exact (Fr.refl _ _).alloc _)
    have HM9 := Lib.hid (show HM N' w9 q p rs g ⟨A, c, l, (some ad), fn, F, TA, tc, T, (lost + 1)⟩ from by
      refine HM.fr0 ⟨?_, HM1.out.mem, HM1.out.sch.fr HF8.out (HM1.out.one _), HM1.out.doc.fr HF8.out (HM1.out.one _), HM1.out.cap, HM1.out.und.fr HF8.out (HM1.out.one _), HM1.out.red.fr HF8.out (HM1.out.one _)⟩ HF9.out
      rw [← hw8]
      exact HM1.out.blk.set 4 _)
    have HZ9 := Lib.hid (HZ1.out.fr (HF8.out.none HF9.out) (fun e => by have e' : w.heap.size = q := e; have := HQ.out; omega))
    rw [hw8, hw9]
    clear hw8 hw9 q0 q4 f2 f3 f4 hql
    obtain ⟨b0, b1, b2, b3, b4, b5, b6, b7, bl⟩ := HZ9.out.c8
    obtain ⟨z0, z1, z2, z3, z4, z5, z6, z7⟩ := HZ9.out.z8
    go_wp2_with fail
    refine ret8m (v := .tuple #[.agg #[.int .i64 0, .int .i64 0, .int .i64 0, .int .i64 0, .int .i64 0, .int .i64 0, .slice none 0 0, .int .i64 0], .int .i64 9]) HZ9.out rfl (fun WE z0 z1 z2 z3 z4 z5 z6 z7 => by simp [results, go_sem, z0, z1, z2, z3, z4, z5, z6, z7]) (fun WE hFE => ?_)
    have hq := HQ.out
    refine HP.out _ _ ⟨(HFW.out.same (HF1q.out.same (HF8.out.none HF9.out))).trans hFE (fun k hk e => by have e' : k = w.heap.size := e; omega), fun h => absurd h h0, fun _ => ⟨rfl, (HM9.out.fr hFE (fun k _ e => by have e' : k = w.heap.size := e; rw [e']; exact HNI.out) (fun e => by have e' : q = w.heap.size := e; omega)).mono HNS.out HNQ.out⟩⟩
set_option maxRecDepth 100000 in
set_option maxHeartbeats 4000000 in
theorem hredo_any (N : Nat → Prop) (q p : Nat) (rs : List RuleM) (g : List Grp) (hok : SchOk rs g) (A FA TA : Option Addr) (c fc tc lost : Nat) (l : List Tok) (F T : List StepA) (y : StepA) (w : World) (h : HM N w q p rs g ⟨A, c, l, TA, tc, T, FA, fc, (F ++ [y]), lost⟩) (hn : l.length ≤ 100000) (hu : F.length ≤ 99) (ht : T.length ≤ 100) (hx : y.s.l.length ≤ 100000) (hlo : lost ≤ 100000) (hN : ∀ k, N k → k < w.heap.size) :
    Calls Tryz.prog 30 #[.pointer (some ⟨q, 0, none⟩), .pointer (some ⟨q, 3, none⟩), .pointer (some ⟨q, 2, none⟩)] w fun e w' => (Fr (One q) w w' ∧ (doE rs g y.s l = 0 → ∃ A' c' TA' tc' IB ib OB ob, e = .returned (.tuple #[.agg (y.s.cells (.slice OB y.s.l.length ob)).toArray, .int .i64 0]) ∧ Rd N w' OB (tokC y.s.l) ∧ y.s.l.length ≤ ob ∧ HM N w' q p rs g ⟨A', c', (doF y.s l), TA', tc', (T ++ [⟨invS y.s l, IB, ib⟩]), FA, F.length, F, lost⟩) ∧ (doE rs g y.s l ≠ 0 → e = .returned (.tuple #[.agg #[.int .i64 0, .int .i64 0, .int .i64 0, .int .i64 0, .int .i64 0, .int .i64 0, .slice none 0 0, .int .i64 0], .int .i64 9]) ∧ HM N w' q p rs g ⟨A, c, l, TA, tc, T, FA, F.length, F, (lost + 1)⟩)) := by
  have HP := Lib.hid (show ∀ (e : Ending) (w' : World), (Fr (One q) w w' ∧ (doE rs g y.s l = 0 → ∃ A' c' TA' tc' IB ib OB ob, e = .returned (.tuple #[.agg (y.s.cells (.slice OB y.s.l.length ob)).toArray, .int .i64 0]) ∧ Rd N w' OB (tokC y.s.l) ∧ y.s.l.length ≤ ob ∧ HM N w' q p rs g ⟨A', c', (doF y.s l), TA', tc', (T ++ [⟨invS y.s l, IB, ib⟩]), FA, F.length, F, lost⟩) ∧ (doE rs g y.s l ≠ 0 → e = .returned (.tuple #[.agg #[.int .i64 0, .int .i64 0, .int .i64 0, .int .i64 0, .int .i64 0, .int .i64 0, .slice none 0 0, .int .i64 0], .int .i64 9]) ∧ HM N w' q p rs g ⟨A, c, l, TA, tc, T, FA, F.length, F, (lost + 1)⟩)) → (fun e w' => (Fr (One q) w w' ∧ (doE rs g y.s l = 0 → ∃ A' c' TA' tc' IB ib OB ob, e = .returned (.tuple #[.agg (y.s.cells (.slice OB y.s.l.length ob)).toArray, .int .i64 0]) ∧ Rd N w' OB (tokC y.s.l) ∧ y.s.l.length ≤ ob ∧ HM N w' q p rs g ⟨A', c', (doF y.s l), TA', tc', (T ++ [⟨invS y.s l, IB, ib⟩]), FA, F.length, F, lost⟩) ∧ (doE rs g y.s l ≠ 0 → e = .returned (.tuple #[.agg #[.int .i64 0, .int .i64 0, .int .i64 0, .int .i64 0, .int .i64 0, .int .i64 0, .slice none 0 0, .int .i64 0], .int .i64 9]) ∧ HM N w' q p rs g ⟨A, c, l, TA, tc, T, FA, F.length, F, (lost + 1)⟩))) e w' from fun e w' h => h)
  obtain ⟨PO, hPO⟩ : ∃ P, (fun (e : Ending) (w' : World) => (Fr (One q) w w' ∧ (doE rs g y.s l = 0 → ∃ A' c' TA' tc' IB ib OB ob, e = .returned (.tuple #[.agg (y.s.cells (.slice OB y.s.l.length ob)).toArray, .int .i64 0]) ∧ Rd N w' OB (tokC y.s.l) ∧ y.s.l.length ≤ ob ∧ HM N w' q p rs g ⟨A', c', (doF y.s l), TA', tc', (T ++ [⟨invS y.s l, IB, ib⟩]), FA, F.length, F, lost⟩) ∧ (doE rs g y.s l ≠ 0 → e = .returned (.tuple #[.agg #[.int .i64 0, .int .i64 0, .int .i64 0, .int .i64 0, .int .i64 0, .int .i64 0, .slice none 0 0, .int .i64 0], .int .i64 9]) ∧ HM N w' q p rs g ⟨A, c, l, TA, tc, T, FA, F.length, F, (lost + 1)⟩))) = P := ⟨_, rfl⟩
  rw [hPO] at HP ⊢
  obtain ⟨N', hN'⟩ : ∃ N', (fun k => N k ∨ k = w.heap.size) = N' := ⟨_, rfl⟩
  have HNN := Lib.hid hN
  have HNQ := Lib.hid h.mem
  have HNB := Lib.hid (show ∀ k, N' k → k < w.heap.size + 1 from fun k hk => by rw [← hN'] at hk; rcases hk with hk | hk; have := hN k hk; omega; omega)
  have h := h.bound.mono (N' := N') (fun k hk => by rw [← hN'] at hk; rcases hk with hk | hk; exact .inl hk; exact .inr (Nat.le_of_eq hk.symm)) (by rw [← hN']; exact .inl h.mem)
  have HNI := Lib.hid (show N' w.heap.size by rw [← hN']; exact .inr rfl)
  have HNS := Lib.hid (show ∀ k, N k → N' k from fun k hk => by rw [← hN']; exact .inl hk)
  clear hN hN'
  have HH := Lib.hid h
  have HQ := Lib.hid h.blk.lt
  obtain ⟨q0, q1, qu, qr, q4, _, f2, f3, f4, hql⟩ := h.f5
  have hst : Stk N' w FA fc (F ++ [y]) := h.red
  obtain ⟨ad, rfl, hnb, hbl, c0, cj⟩ := Rd.elt StepA.cells_len (by omega) hst.rows.row (show F.length < (F ++ [y]).length by simp)
  have hyy : (F ++ [y])[F.length]'(by simp) = y := by simp
  simp only [hyy] at c0 cj
  clear hyy
  have c1 := cj 0 (by omega)
  have c2 := cj 1 (by omega)
  have c3 := cj 2 (by omega)
  have c4 := cj 3 (by omega)
  have c5 := cj 4 (by omega)
  have c6 := cj 5 (by omega)
  have c7 := cj 6 (by omega)
  clear cj hnb
  have HYR := Lib.hid (hst.rows.each y (by simp))
  have HYB := Lib.hid (hst.rows.cap y (by simp))
  have HSF := Lib.hid (show Stk N' w (some ad) F.length F from ⟨⟨by have h1 := hst.rows.row.take (stepC F).length; simpa [stepC] using h1, fun z hz => hst.rows.each z (by simp [hz]), fun z hz => hst.rows.cap z (by simp [hz])⟩, Nat.le_refl _, fun h => by cases h⟩)
  have HDO := Lib.hid (fun (W : World) (hM : HM N' W q p rs g ⟨A, c, l, TA, tc, T, (some ad), F.length, F, lost⟩) => hdo_any N' q p rs g hok ⟨A, c, l, TA, tc, T, (some ad), F.length, F, lost⟩ y.s y.B y.b W hM)
  simp only [DoPost] at HDO
  simp only at q0 qu qr q4 HDO
  have hap : (F ++ [y]).length = F.length + 1 := by simp
  rw [hap] at qr
  clear h hst hok hap hPO
  obtain ⟨E, hE⟩ : ∃ E, doE rs g y.s l = E := ⟨_, rfl⟩
  obtain ⟨D, hD⟩ : ∃ D, doF y.s l = D := ⟨_, rfl⟩
  obtain ⟨Y, hY⟩ : ∃ Y, invS y.s l = Y := ⟨_, rfl⟩
  simp only [hE, hD, hY] at HDO HP
  clear hE hD hY
  obtain ⟨⟨yk, yf, yt, ygf, ygt, yins, ym, yl⟩, hYY⟩ : ∃ Y', Y = Y' := ⟨_, rfl⟩
  have HYY := Lib.hid hYY
  simp only [hYY] at HDO
  clear hYY
  obtain ⟨yn, hyn⟩ : ∃ n, yl.length = n := ⟨_, rfl⟩
  have HYN := Lib.hid hyn
  obtain ⟨tn, htn⟩ : ∃ n, T.length = n := ⟨_, rfl⟩
  have HTN := Lib.hid htn
  obtain ⟨fn, hfn⟩ : ∃ n, F.length = n := ⟨_, rfl⟩
  have HFN := Lib.hid hfn
  obtain ⟨⟨k, f, t, gf, gt, ins, m, x⟩, B, b⟩ := y
  simp only [StepA.cells, StepM.cells, List.getElem?_cons_zero, List.getElem?_cons_succ, Nat.reduceAdd] at c0 c1 c2 c3 c4 c5 c6 c7 HDO HP HYR HYB hx
  obtain ⟨xn, hxn⟩ : ∃ n, x.length = n := ⟨_, rfl⟩
  have HXN := Lib.hid hxn
  simp only [hfn, htn, hxn, hyn] at c0 c1 c2 c3 c4 c5 c6 c7 HDO HP qu qr hu ht HYB hx HSF
  have HFU := Lib.hid hu
  have HTT := Lib.hid ht
  clear hyn htn hfn hxn
  have hge : ¬ ((fn : Int) < 0) := by omega
  go_enter Tryz.func30, Tryz.ntmps30
  go_upto_region 4 with (fail)
  obtain ⟨W0, hW0⟩ : ∃ W, w.alloc (.cells #[.int .i64 0, .int .i64 0, .int .i64 0, .int .i64 0, .int .i64 0, .int .i64 0, .slice none 0 0, .int .i64 0] 32) = W := ⟨_, rfl⟩
  have HF0 := Lib.hid (show Fr Nob w W0 by rw [← hW0]; exact (Fr.refl _ _).alloc _)
  have HZ0 := Lib.hid (show Blk W0 w.heap.size [.int .i64 0, .int .i64 0, .int .i64 0, .int .i64 0, .int .i64 0, .int .i64 0, .slice none 0 0, .int .i64 0] 32 by rw [← hW0]; exact Blk.new _ _ _)
  rw [hW0]
  clear hW0 q0 qu qr q4 f2 f3 f4 hql
  have hx8 : ∀ (j : Nat) v, w.cell? ⟨(ad.add (fn * 8)).block, (ad.add (fn * 8)).off + j, none⟩ = some v → W0.cell? ⟨(ad.add (fn * 8)).block, (ad.add (fn * 8)).off + j, none⟩ = some v := fun j v h => (HF0.out.cell (by show (ad.add (fn * 8)).block < _; rw [add_block]; exact hbl) (fun h => h)).trans h
  replace c0 := (HF0.out.cell (by rw [add_block]; exact hbl) (fun h => h)).trans c0
  replace c1 := hx8 _ _ c1
  replace c2 := hx8 _ _ c2
  replace c3 := hx8 _ _ c3
  replace c4 := hx8 _ _ c4
  replace c5 := hx8 _ _ c5
  replace c6 := hx8 _ _ c6
  replace c7 := hx8 _ _ c7
  clear hx8
  obtain ⟨q0, _, qu, qr, q4, _, f2, f3, f4, hql⟩ := (HH.out.fr0 HF0.out).f5
  simp only at q0 qu qr q4
  have hap : (F ++ [(⟨⟨k, f, t, gf, gt, ins, m, x⟩, B, b⟩ : StepA)]).length = fn + 1 := by rw [List.length_append, HFN.out]; rfl
  rw [hap] at qr
  rw [HTN.out] at qu
  clear hap
  have hbl0 : (ad.add (fn * 8)).block < W0.heap.size := by rw [add_block]; have := HF0.out.size; omega
  go_upto_region 5 with (fail)
  obtain ⟨sx, hsx⟩ : ∃ n, W0.heap.size = n := ⟨_, rfl⟩
  obtain ⟨Wa, hWa⟩ : ∃ W, W0.alloc (.cells #[.int .i64 k, .int .i64 f, .int .i64 t, .int .i64 gf, .int .i64 gt, .int .i64 ins, .slice B xn b, .int .i64 m] 32) = W := ⟨_, rfl⟩
  have HFa := Lib.hid (show Fr Nob w Wa by rw [← hWa]; exact HF0.out.alloc _)
  have HSa := Lib.hid (show Blk Wa sx [.int .i64 k, .int .i64 f, .int .i64 t, .int .i64 gf, .int .i64 gt, .int .i64 ins, .slice B xn b, .int .i64 m] 32 by rw [← hWa, ← hsx]; exact Blk.new _ _ _)
  have HZa := Lib.hid (show Blk Wa w.heap.size [.int .i64 0, .int .i64 0, .int .i64 0, .int .i64 0, .int .i64 0, .int .i64 0, .slice none 0 0, .int .i64 0] 32 by rw [← hWa]; exact HZ0.out.alloc _)
  have HSX := Lib.hid (show w.heap.size < sx by rw [← hsx]; exact HZ0.out.lt)
  rw [hWa, hsx]
  clear hWa hsx c0 c1 c2 c3 c4 c5 c6 c7 q0 qu qr q4 f2 f3 f4 hql hbl0
  obtain ⟨q0, _, qu, qr, q4, _, f2, f3, f4, hql⟩ := (HH.out.fr0 HFa.out).f5
  simp only at q0 qu qr q4
  have hap : (F ++ [(⟨⟨k, f, t, gf, gt, ins, m, x⟩, B, b⟩ : StepA)]).length = fn + 1 := by rw [List.length_append, HFN.out]; rfl
  rw [hap] at qr
  clear hap
  have hfc : fn ≤ fc := by have h := (HH.out.red).cap; simp only [List.length_append, HFN.out, List.length_singleton] at h; omega
  go_upto_region 6 with (fail)
  obtain ⟨W, hW⟩ : ∃ W, Wa.setCell ⟨q, 3, none⟩ (.slice (some ad) fn fn) = W := ⟨_, rfl⟩
  have HFb := Lib.hid (show Fr (One q) Wa W by rw [← hW]; exact (Fr.refl (One q) Wa).setCell (p := ⟨q, 3, none⟩) (.inl rfl) _)
  have HMW := Lib.hid (show HM N' W q p rs g ⟨A, c, l, TA, tc, T, (some ad), fn, F, lost⟩ from by
    have hm := HH.out.fr0 HFa.out
    refine ⟨?_, hm.mem, hm.sch.fr HFb.out (hm.one _), hm.doc.fr HFb.out (hm.one _), hm.cap, hm.und.fr HFb.out (hm.one _), HSF.out.fr ((HFa.out.any).same HFb.out) (hm.one _)⟩
    have h1 := hm.blk.set 3 (.slice (some ad) fn fn)
    rw [hW] at h1
    simpa [HX.cells, HFN.out] using h1)
  have HS := Lib.hid (HSa.out.fr HFb.out (fun e => by have e' : sx = q := e; have := HQ.out; have := HSX.out; omega))
  have HZ := Lib.hid (HZa.out.fr HFb.out (fun e => by have e' : w.heap.size = q := e; have := HQ.out; omega))
  have HFW := Lib.hid (show Fr (One q) w W from (HFa.out.any).same HFb.out)
  replace HYR := Lib.hid (HYR.out.fr HFW.out (HMW.out.one _))
  rw [hW]
  clear hW HFa HFb HSa HZa q0 qu qr q4 f2 f3 f4 hql hfc
  obtain ⟨d0, d1, d2, d3, d4, d5, d6, d7, dl⟩ := HS.out.c8
  go_wp2_with fail
  refine (HDO.out W HMW.out HYR.out HYB.out hn (fun k hk => by have h1 := HNB.out k hk; have h2 := HZ.out.lt; omega)).mono ?_
  clear d0 d1 d2 d3 d4 d5 d6 d7 dl
  rintro e w1 ⟨hz, hnz, hF1⟩
  have HF1q := Lib.hid hF1
  clear hF1
  by_cases h0 : E = 0
  · obtain ⟨IB, ib, A1, c1, rfl, hM1, hI, hib⟩ := hz h0
    subst h0
    clear hz hnz
    have HM1 := Lib.hid hM1
    have HPU := Lib.hid (fun (W : World) (hF : Fr Nob w1 W) => push_any N' TA tc T ⟨⟨yk, yf, yt, ygf, ygt, yins, ym, yl⟩, IB, ib⟩ 0 W ((hM1.fr0 hF).und) (hI.fr hF (fun _ _ h => h.elim)) (by rw [HYN.out]; exact hib) (.inl rfl) (by omega) (by rw [HTN.out]; omega) (fun k hk => by have h1 := HNB.out k hk; have h2 := HZ.out.lt; have h3 := HF1q.out.size; have h4 := hF.size; omega))
    simp only [StepA.cells, StepM.cells, HTN.out, HYN.out] at HPU
    clear hM1 hI hib
    go_upto_region 10 with (fail)
    obtain ⟨r, hr⟩ : ∃ r, w1.heap.size = r := ⟨_, rfl⟩
    obtain ⟨W2, hW2⟩ : ∃ W, w1.alloc (.cells #[.int .i64 yk, .int .i64 yf, .int .i64 yt, .int .i64 ygf, .int .i64 ygt, .int .i64 yins, .slice IB yn ib, .int .i64 ym] 32) = W := ⟨_, rfl⟩
    have HF2 := Lib.hid (show Fr Nob w1 W2 by rw [← hW2]; exact (Fr.refl _ _).alloc _)
    have HR2 := Lib.hid (show Blk W2 r [.int .i64 yk, .int .i64 yf, .int .i64 yt, .int .i64 ygf, .int .i64 ygt, .int .i64 yins, .slice IB yn ib, .int .i64 ym] 32 by rw [← hW2, ← hr]; exact Blk.new _ _ _)
    rw [hr, hW2]
    clear hr hW2
    have HQB := Lib.hid ((HM1.out.fr0 HF2.out).blk)
    have KS := Lib.hid (show ∀ W' : World, Fr Nob W2 W' → (W'.cell? ⟨q, 2, none⟩ = some (.slice TA tn tc) ∧ W'.cell? ⟨r, 0, none⟩ = some (.int .i64 yk) ∧ W'.cell? ⟨r, 1, none⟩ = some (.int .i64 yf) ∧ W'.cell? ⟨r, 2, none⟩ = some (.int .i64 yt) ∧ W'.cell? ⟨r, 3, none⟩ = some (.int .i64 ygf) ∧ W'.cell? ⟨r, 4, none⟩ = some (.int .i64 ygt) ∧ W'.cell? ⟨r, 5, none⟩ = some (.int .i64 yins) ∧ W'.cell? ⟨r, 6, none⟩ = some (.slice IB yn ib) ∧ W'.cell? ⟨r, 7, none⟩ = some (.int .i64 ym)) from fun W' hF' => by
      have h := HR2.out.fr hF' (fun h => h)
      have hq := (HM1.out.fr0 (HF2.out.same hF')).f5
      simp only [HTN.out] at hq
      exact ⟨hq.2.2.1, h.cell 0, h.cell 1, h.cell 2, h.cell 3, h.cell 4, h.cell 5, h.cell 6, h.cell 7⟩)
    refine wp_region_G 7 (S := fun W' : World => W'.cell? ⟨q, 2, none⟩ = some (.slice TA tn tc) ∧ W'.cell? ⟨r, 0, none⟩ = some (.int .i64 yk) ∧ W'.cell? ⟨r, 1, none⟩ = some (.int .i64 yf) ∧ W'.cell? ⟨r, 2, none⟩ = some (.int .i64 yt) ∧ W'.cell? ⟨r, 3, none⟩ = some (.int .i64 ygf) ∧ W'.cell? ⟨r, 4, none⟩ = some (.int .i64 ygt) ∧ W'.cell? ⟨r, 5, none⟩ = some (.int .i64 yins) ∧ W'.cell? ⟨r, 6, none⟩ = some (.slice IB yn ib) ∧ W'.cell? ⟨r, 7, none⟩ = some (.int .i64 ym)) (by kernel_rfl) ?_
    have HFD := Lib.hid ((Fr.refl Nob W2).drew)
    generalize W2.drew = wd at HFD ⊢
    have HSD := Lib.hid (KS.out wd HFD.out)
    refine take_g (i := 0) (v := .pointer (some ⟨q, 2, none⟩)) rfl HSD.out ?_
    refine take_g (i := 1) (v := .pointer (some ⟨q, 2, none⟩)) rfl HSD.out ?_
    refine take_g (i := 4) (v := .agg #[.int .i64 yk, .int .i64 yf, .int .i64 yt, .int .i64 ygf, .int .i64 ygt, .int .i64 yins, .slice IB yn ib, .int .i64 ym]) rfl HSD.out ?_
    refine take_g (i := 2) (v := .pointer (some ⟨q, 2, none⟩)) rfl HSD.out ?_
    refine take_g (i := 3) (v := .slice TA tn tc) rfl HSD.out ?_
    try simp only [List.getElem_toArray, List.getElem_cons_succ, List.getElem_cons_zero, Act.put, List.setIfInBounds_toArray, List.set_cons_zero, List.set_cons_succ]
    refine wpAnyG_ready (rs := [5]) (by kernel_rfl) (by simp) (AllReadyG.cons (o := _) rfl (fun K hK => ?_) AllReadyG.nil)
    go_simp
    refine (HPU.out wd (HF2.out.same HFD.out)).mono ?_
    rintro e w3 ⟨TA2, tc2, rfl, hst, hF3⟩
    have HST := Lib.hid hst
    have HF3 := Lib.hid (HFD.out.same hF3)
    clear hst hF3
    go_wp2_with fail
    refine hK.out _ _ (fun _ => (KS.out _ HF3.out)) ?_
    clear hK K
    try simp only [List.getElem_toArray, List.getElem_cons_succ, List.getElem_cons_zero, Act.put, List.setIfInBounds_toArray, List.set_cons_zero, List.set_cons_succ]
    refine take_g (i := 6) (v := .pointer (some ⟨q, 2, none⟩)) rfl (KS.out _ HF3.out) ?_
    try simp only [List.getElem_toArray, List.getElem_cons_succ, List.getElem_cons_zero, Act.put, List.setIfInBounds_toArray, List.set_cons_zero, List.set_cons_succ]
    refine wpAnyG_ready (rs := [7]) (by kernel_rfl) (by simp) (AllReadyG.cons (o := _) rfl (fun K hK => ?_) AllReadyG.nil)
    have HB3 := Lib.hid (HQB.out.fr HF3.out (fun h => h))
    have f1 := HB3.out.frozen 2
    have f2 := HB3.out.cell 2
    have f3 := HB3.out.lt
    simp only [HX.cells, List.getElem?_cons_zero, List.getElem?_cons_succ] at f2
    go_simp
    clear f1 f2 f3
    obtain ⟨w4, hw4⟩ : ∃ W, w3.setCell ⟨q, 2, none⟩ (.slice TA2 (tn + 1) tc2) = W := ⟨_, rfl⟩
    have HB4 := Lib.hid (show Blk w4 q _ _ from by rw [← hw4]; exact HB3.out.set 2 (.slice TA2 (tn + 1) tc2))
    have HF4 := Lib.hid (show Fr (One q) w3 w4 by rw [← hw4]; exact (Fr.refl (One q) w3).setCell (p := ⟨q, 2, none⟩) (.inl rfl) _)
    rw [hw4]
    clear hw4
    refine hK.out _ _ (late (by kernel_rfl)) ?_
    clear hK K
    try simp only [List.getElem_toArray, List.getElem_cons_succ, List.getElem_cons_zero, Act.put, List.setIfInBounds_toArray, List.set_cons_zero, List.set_cons_succ]
    try simp only [List.getElem_toArray, List.getElem_cons_succ, List.getElem_cons_zero, Act.put, List.setIfInBounds_toArray, List.set_cons_zero, List.set_cons_succ]
    refine wpAnyG_done (by kernel_rfl) ?_ _
    have hm := HM1.out.fr0 (HF2.out.same HF3.out)
    have HFQ := Lib.hid ((HF1q.out.same (HF2.out.same HF3.out).any).same HF4.out)
    have HM4 := Lib.hid (show HM N' w4 q p rs g ⟨A1, c1, D, TA2, tc2, (T ++ [⟨⟨yk, yf, yt, ygf, ygt, yins, ym, yl⟩, IB, ib⟩]), (some ad), fn, F, lost⟩ from ⟨by have h1 := HB4.out; simpa [HX.cells, HTN.out] using h1, hm.mem, hm.sch.fr HF4.out (hm.one _), hm.doc.fr HF4.out (hm.one _), hm.cap, HST.out.fr HF4.out (hm.one _), hm.red.fr HF4.out (hm.one _)⟩)
    clear hm
    have HS4 := Lib.hid (HS.out.fr HFQ.out (fun e => by have e' : sx = q := e; have := HQ.out; have := HSX.out; omega))
    have HZ4 := Lib.hid (HZ.out.fr HFQ.out (fun e => by have e' : w.heap.size = q := e; have := HQ.out; omega))
    obtain ⟨d0, d1, d2, d3, d4, d5, d6, d7, dl⟩ := HS4.out.c8
    go_wp2_with fail
    have how := hown_any N' ⟨k, f, t, gf, gt, ins, m, x⟩ B b w4 ((HYR.out.fr HFQ.out (fun k _ e => by have e' : k = q := e; rw [e']; exact HM4.out.mem))) (by have := HXN.out; simp only; omega)
    simp only [StepM.cells, HXN.out] at how
    refine how.mono ?_
    clear how d0 d1 d2 d3 d4 d5 d6 d7 dl
    rintro e w5 ⟨OB, ob, rfl, hO, hob, hF5⟩
    have HO := Lib.hid hO
    have HOB := Lib.hid hob
    have HF5 := Lib.hid hF5
    have HZ5 := Lib.hid (HZ4.out.fr hF5 (fun h => h))
    clear hO hob hF5
    obtain ⟨b0, b1, b2, b3, b4, b5, b6, b7, bl⟩ := HZ5.out.c8
    obtain ⟨z0, z1, z2, z3, z4, z5, z6, z7⟩ := HZ5.out.z8
    go_wp2_with fail
    refine ret8m (v := .tuple #[.agg #[.int .i64 k, .int .i64 f, .int .i64 t, .int .i64 gf, .int .i64 gt, .int .i64 ins, .slice OB xn ob, .int .i64 m], .int .i64 0]) HZ5.out rfl (fun WE z0 z1 z2 z3 z4 z5 z6 z7 => by simp [results, go_sem, z0, z1, z2, z3, z4, z5, z6, z7]) (fun WE hFE => ?_)
    have hq := HQ.out
    have hw4 := HFW.out.size
    have hw5 := HFQ.out.size
    have hfE : Fr (One w.heap.size) w4 WE := (HF5.out.any).same hFE
    have hfin : Fr (One q) w WE := (HFW.out.same (HFQ.out.same HF5.out.any)).trans hFE (fun k hk e => by have e' : k = w.heap.size := e; omega)
    refine HP.out _ _ ⟨hfin, fun _ => ⟨A1, c1, TA2, tc2, IB, ib, OB, ob, rfl, ?_, HOB.out, ?_⟩, fun h => absurd rfl h⟩
    · exact (HO.out.fr hFE (fun k hk e => by have e' : k = w.heap.size := e; have := HZ4.out.lt; show k < _; omega)).mono (fun k e => by have e' := HNN.out k e; show k < _; omega)
    · have h1 := (HM4.out.fr hfE (fun k _ e => by have e' : k = w.heap.size := e; rw [e']; exact HNI.out) (fun e => by have e' : q = w.heap.size := e; omega)).mono (N' := N) HNS.out HNQ.out
      rw [HYY.out]
      exact h1
  · obtain ⟨rfl, hM1⟩ := hnz h0
    have h0' : (E == 0) = false := by simpa using h0
    have HM1 := Lib.hid hM1
    clear hz hnz hM1
    have HZ1 := Lib.hid (HZ.out.fr HF1q.out (fun e => by have e' : w.heap.size = q := e; have := HQ.out; omega))
    obtain ⟨q0, _, _, _, q4, _, f2, f3, f4, hql⟩ := HM1.out.f5
    simp only at q4
    go_upto_region 9 with (fail)
    obtain ⟨w8, hw8⟩ : ∃ W, w1.setCell ⟨q, 4, none⟩ (.int .i64 ((lost : Int) + 1)) = W := ⟨_, rfl⟩
    obtain ⟨w9, hw9⟩ : ∃ W, w8.alloc (.cells #[.int .i64 0, .int .i64 0, .int .i64 0, .int .i64 0, .int .i64 0, .int .i64 0, .slice none 0 0, .int .i64 0] 32) = W := ⟨_, rfl⟩
    have HF8 := Lib.hid (show Fr (One q) w1 w8 by rw [← hw8]; exact (Fr.refl (One q) w1).setCell (p := ⟨q, 4, none⟩) (.inl rfl) _)
    have HF9 := Lib.hid (show Fr Nob w8 w9 by rw [← hw9]; exact (Fr.refl _ _).alloc _)
    have HM9 := Lib.hid (show HM N' w9 q p rs g ⟨A, c, l, TA, tc, T, (some ad), fn, F, (lost + 1)⟩ from by
      refine HM.fr0 ⟨?_, HM1.out.mem, HM1.out.sch.fr HF8.out (HM1.out.one _), HM1.out.doc.fr HF8.out (HM1.out.one _), HM1.out.cap, HM1.out.und.fr HF8.out (HM1.out.one _), HM1.out.red.fr HF8.out (HM1.out.one _)⟩ HF9.out
      rw [← hw8]
      exact HM1.out.blk.set 4 _)
    have HZ9 := Lib.hid (HZ1.out.fr (HF8.out.none HF9.out) (fun e => by have e' : w.heap.size = q := e; have := HQ.out; omega))
    rw [hw8, hw9]
    clear hw8 hw9 q0 q4 f2 f3 f4 hql
    obtain ⟨b0, b1, b2, b3, b4, b5, b6, b7, bl⟩ := HZ9.out.c8
    obtain ⟨z0, z1, z2, z3, z4, z5, z6, z7⟩ := HZ9.out.z8
    go_wp2_with fail
    refine ret8m (v := .tuple #[.agg #[.int .i64 0, .int .i64 0, .int .i64 0, .int .i64 0, .int .i64 0, .int .i64 0, .slice none 0 0, .int .i64 0], .int .i64 9]) HZ9.out rfl (fun WE z0 z1 z2 z3 z4 z5 z6 z7 => by simp [results, go_sem, z0, z1, z2, z3, z4, z5, z6, z7]) (fun WE hFE => ?_)
    have hq := HQ.out
    refine HP.out _ _ ⟨(HFW.out.same (HF1q.out.same (HF8.out.none HF9.out))).trans hFE (fun k hk e => by have e' : k = w.heap.size := e; omega), fun h => absurd h h0, fun _ => ⟨rfl, (HM9.out.fr hFE (fun k _ e => by have e' : k = w.heap.size := e; rw [e']; exact HNI.out) (fun e => by have e' : q = w.heap.size := e; omega)).mono HNS.out HNQ.out⟩⟩
end Go.Proofs.YtldcffonfidbcaaGreatDoor

/- History.Undo, History.Redo, as plain functions. -/
namespace Go.Proofs.YtldcffonfidbcaaGreatDoor
open Go.RowKit
/-- A history, plainly: its document; what undoes, what does again, the top one last; how many were lost. -/
structure HS where
  l : List Tok
  U : List StepM
  R : List StepM
  lost : Nat
structure HP (N : Nat → Prop) (w : World) (q p : Nat) (rs : List RuleM) (g : List Grp) (s : HS) : Prop where
  ex : ∃ x, HM N w q p rs g x ∧ x.l = s.l ∧ x.U.map StepA.s = s.U ∧ x.R.map StepA.s = s.R ∧ x.lost = s.lost
theorem HP.fr0 {N : Nat → Prop} {w w' : World} {q p : Nat} {rs : List RuleM} {g : List Grp} {s : HS} (h : HP N w q p rs g s) (hf : Fr Nob w w') : HP N w' q p rs g s := by
  obtain ⟨x, h1, h2⟩ := h.ex
  exact ⟨x, h1.fr0 hf, h2⟩
theorem HP.fr {N M : Nat → Prop} {w w' : World} {q p : Nat} {rs : List RuleM} {g : List Grp} {s : HS} (h : HP N w q p rs g s) (hf : Fr M w w') (hM : ∀ k, k < w.heap.size → M k → N k) (hq : ¬ M q) : HP N w' q p rs g s := by
  obtain ⟨x, h1, h2⟩ := h.ex
  exact ⟨x, h1.fr hf hM hq, h2⟩
theorem HP.mono {N N' : Nat → Prop} {w : World} {q p : Nat} {rs : List RuleM} {g : List Grp} {s : HS} (h : HP N w q p rs g s) (hN : ∀ k, N' k → N k) (hq : N' q) : HP N' w q p rs g s := by
  obtain ⟨x, h1, h2⟩ := h.ex
  exact ⟨x, h1.mono hN hq, h2⟩
theorem HP.bound {N : Nat → Prop} {w : World} {q p : Nat} {rs : List RuleM} {g : List Grp} {s : HS} (h : HP N w q p rs g s) : HP (fun k => N k ∨ w.heap.size ≤ k) w q p rs g s := by
  obtain ⟨x, h1, h2⟩ := h.ex
  exact ⟨x, h1.bound, h2⟩
theorem HP.lt {N : Nat → Prop} {w : World} {q p : Nat} {rs : List RuleM} {g : List Grp} {s : HS} (h : HP N w q p rs g s) : q < w.heap.size := by
  obtain ⟨x, h1, _⟩ := h.ex
  exact h1.blk.lt
def stepV (y : Option StepM) (OB : Option Addr) (ob : Nat) : Value := y.elim (.agg #[.int .i64 0, .int .i64 0, .int .i64 0, .int .i64 0, .int .i64 0, .int .i64 0, .slice none 0 0, .int .i64 0]) (fun y => .agg (y.cells (.slice OB y.l.length ob)).toArray)
structure TurnP (N : Nat → Prop) (w : World) (q p : Nat) (rs : List RuleM) (g : List Grp) (r : HS × Option StepM × Int) (e : Ending) (w' : World) : Prop where
  ex : ∃ OB ob, e = .returned (.tuple #[stepV r.2.1 OB ob, .int .i64 r.2.2]) ∧ (∀ y, r.2.1 = some y → Rd N w' OB (tokC y.l) ∧ y.l.length ≤ ob)
  st : HP N w' q p rs g r.1
  fr : Fr (One q) w w'
def undoF (rs : List RuleM) (g : List Grp) (st : HS) : HS × Option StepM × Int :=
  match st.U.reverse with
  | [] => (st, none, 6)
  | y :: r => if doE rs g y st.l = 0 then ({ st with l := doF y st.l, U := r.reverse, R := st.R ++ [invS y st.l] }, some y, 0) else ({ st with U := r.reverse, lost := st.lost + 1 }, none, 9)
set_option maxRecDepth 100000 in
set_option maxHeartbeats 4000000 in
theorem undo_none (N : Nat → Prop) (q p : Nat) (rs : List RuleM) (g : List Grp) (x : HX) (w : World) (h : HM N w q p rs g x) (h0 : x.U = []) (hN : ∀ k, N k → k < w.heap.size) :
    Calls Tryz.prog 30 #[.pointer (some ⟨q, 0, none⟩), .pointer (some ⟨q, 2, none⟩), .pointer (some ⟨q, 3, none⟩)] w fun e w' => e = .returned (.tuple #[.agg #[.int .i64 0, .int .i64 0, .int .i64 0, .int .i64 0, .int .i64 0, .int .i64 0, .slice none 0 0, .int .i64 0], .int .i64 6]) ∧ HM N w' q p rs g x ∧ Fr (One q) w w' := by
  have HH := Lib.hid h
  have HNN := Lib.hid hN
  obtain ⟨q0, _, qu, qr, q4, _, _, _, _, hql⟩ := h.f5
  have e0 : x.U.length = 0 := by rw [h0]; rfl
  rw [e0] at qu
  clear h h0 e0 hN
  go_enter Tryz.func30, Tryz.ntmps30
  go_upto_region 3 with (fail)
  obtain ⟨W0, hW0⟩ : ∃ W, w.alloc (.cells #[.int .i64 0, .int .i64 0, .int .i64 0, .int .i64 0, .int .i64 0, .int .i64 0, .slice none 0 0, .int .i64 0] 32) = W := ⟨_, rfl⟩
  have HF0 := Lib.hid (show Fr Nob w W0 by rw [← hW0]; exact (Fr.refl _ _).alloc _)
  have HZ0 := Lib.hid (show Blk W0 w.heap.size [.int .i64 0, .int .i64 0, .int .i64 0, .int .i64 0, .int .i64 0, .int .i64 0, .slice none 0 0, .int .i64 0] 32 by rw [← hW0]; exact Blk.new _ _ _)
  rw [hW0]
  clear hW0
  obtain ⟨b0, b1, b2, b3, b4, b5, b6, b7, bl⟩ := HZ0.out.c8
  obtain ⟨z0, z1, z2, z3, z4, z5, z6, z7⟩ := HZ0.out.z8
  go_wp2_with fail
  refine ret8m (v := .tuple #[.agg #[.int .i64 0, .int .i64 0, .int .i64 0, .int .i64 0, .int .i64 0, .int .i64 0, .slice none 0 0, .int .i64 0], .int .i64 6]) HZ0.out rfl (fun WE z0 z1 z2 z3 z4 z5 z6 z7 => by simp [results, go_sem, z0, z1, z2, z3, z4, z5, z6, z7]) (fun WE hFE => ?_)
  have hq := hql
  have hN1 : ∀ k, N k ↔ N k := fun _ => Iff.rfl
  have h1 := HH.out.fr0 (HF0.out.trans (M := Nob) hFE (fun k hk e => by have e' : k = w.heap.size := e; omega))
  exact ⟨rfl, h1, (HF0.out.trans (M := Nob) hFE (fun k hk e => by have e' : k = w.heap.size := e; omega)).any⟩
theorem undo_turn (N : Nat → Prop) (q p : Nat) (rs : List RuleM) (g : List Grp) (hok : SchOk rs g) (st : HS) (w : World) (h : HP N w q p rs g st) (hn : st.l.length ≤ 100000) (hu : st.U.length ≤ 99) (ht : st.R.length ≤ 99) (hx : ∀ y ∈ st.U, y.l.length ≤ 100000) (hlo : st.lost ≤ 100000) (hN : ∀ k, N k → k < w.heap.size) :
    Calls Tryz.prog 30 #[.pointer (some ⟨q, 0, none⟩), .pointer (some ⟨q, 2, none⟩), .pointer (some ⟨q, 3, none⟩)] w fun e w' => TurnP N w q p rs g (undoF rs g st) e w' := by
  obtain ⟨l, U, R, lost⟩ := st
  obtain ⟨⟨A, c, l', UA, uc, UL, RA, rc, RL, lost'⟩, hm, h1, h2, h3, h4⟩ := h.ex
  simp only at h1 h2 h3 h4 hn hu ht hx hlo
  subst h1 h2 h3 h4
  rcases List.eq_nil_or_concat UL with h0 | ⟨F, y, h0⟩
  · subst h0
    refine (undo_none N q p rs g _ w hm rfl hN).mono fun e w' hp => ?_
    obtain ⟨rfl, hm', hf⟩ := hp
    exact ⟨⟨none, 0, rfl, fun y hy => by cases hy⟩, ⟨_, hm', rfl, rfl, rfl, rfl⟩, hf⟩
  · rw [List.concat_eq_append] at h0
    subst h0
    simp only [List.map_append, List.map_cons, List.map_nil, List.length_append, List.length_map, List.length_singleton] at hu ht hx
    refine (hundo_any N q p rs g hok A UA RA c uc rc lost' l' F RL y w hm hn (by omega) (by omega) (hx y.s (by simp)) hlo hN).mono fun e w' hp => ?_
    obtain ⟨hf, hz, hnz⟩ := hp
    have hrev : (List.map StepA.s (F ++ [y])).reverse = y.s :: (F.map StepA.s).reverse := by simp
    by_cases hE : doE rs g y.s l' = 0
    · obtain ⟨A', c', TA', tc', IB, ib, OB, ob, rfl, hO, hob, hm'⟩ := hz hE
      have hr : undoF rs g ⟨l', List.map StepA.s (F ++ [y]), List.map StepA.s RL, lost'⟩ = (⟨doF y.s l', F.map StepA.s, RL.map StepA.s ++ [invS y.s l'], lost'⟩, some y.s, 0) := by
        unfold undoF
        simp only [hrev, hE, if_true, List.reverse_reverse]
      rw [hr]
      exact ⟨⟨OB, ob, rfl, fun y' hy => by cases hy; exact ⟨hO, hob⟩⟩, ⟨_, hm', rfl, rfl, by simp, by simp⟩, hf⟩
    · obtain ⟨rfl, hm'⟩ := hnz hE
      have hr : undoF rs g ⟨l', List.map StepA.s (F ++ [y]), List.map StepA.s RL, lost'⟩ = (⟨l', F.map StepA.s, RL.map StepA.s, lost' + 1⟩, none, 9) := by
        unfold undoF
        simp only [hrev, hE, if_false, List.reverse_reverse]
      rw [hr]
      exact ⟨⟨none, 0, rfl, fun y' hy => by cases hy⟩, ⟨_, hm', rfl, rfl, rfl, rfl⟩, hf⟩
set_option maxRecDepth 100000 in
set_option maxHeartbeats 4000000 in
theorem hUndo_any (N : Nat → Prop) (q p : Nat) (rs : List RuleM) (g : List Grp) (hok : SchOk rs g) (st : HS) (w : World) (h : HP N w q p rs g st) (hn : st.l.length ≤ 100000) (hu : st.U.length ≤ 99) (ht : st.R.length ≤ 99) (hx : ∀ y ∈ st.U, y.l.length ≤ 100000) (hlo : st.lost ≤ 100000) (hN : ∀ k, N k → k < w.heap.size) :
    Calls Tryz.prog 13 #[.pointer (some ⟨q, 0, none⟩)] w fun e w' => TurnP N w q p rs g (undoF rs g st) e w' := by
  obtain ⟨N', hN'⟩ : ∃ N', (fun k => N k ∨ k = w.heap.size) = N' := ⟨_, rfl⟩
  have HNQ := Lib.hid (show N q by obtain ⟨x, h1, _⟩ := h.ex; exact h1.mem)
  have HNB := Lib.hid (show ∀ k, N' k → k < w.heap.size + 1 from fun k hk => by rw [← hN'] at hk; rcases hk with hk | hk; have := hN k hk; omega; omega)
  have h := h.bound.mono (N' := N') (fun k hk => by rw [← hN'] at hk; rcases hk with hk | hk; exact .inl hk; exact .inr (Nat.le_of_eq hk.symm)) (by rw [← hN']; exact .inl HNQ.out)
  have HNI := Lib.hid (show N' w.heap.size by rw [← hN']; exact .inr rfl)
  have HNS := Lib.hid (show ∀ k, N k → N' k from fun k hk => by rw [← hN']; exact .inl hk)
  clear hN hN'
  have HH := Lib.hid h
  have HQ := Lib.hid h.lt
  have HTU := Lib.hid (fun (W : World) (hF : Fr Nob w W) (hs : w.heap.size + 1 ≤ W.heap.size) => undo_turn N' q p rs g hok st W (h.fr0 hF) hn hu ht hx hlo (fun k hk => by have := HNB.out k hk; omega))
  have HN := Lib.hid (fun (W : World) (hF : Fr Nob w W) => hnone_any q p W (by obtain ⟨x, h1, _⟩ := h.ex; exact (h1.fr0 hF).f5.1))
  clear h hn hu ht hx hlo hok
  go_enter Tryz.func13, Tryz.ntmps13
  go_wp2_with fail
  obtain ⟨W0, hW0⟩ : ∃ W, w.alloc (.cells #[.int .i64 0, .int .i64 0, .int .i64 0, .int .i64 0, .int .i64 0, .int .i64 0, .slice none 0 0, .int .i64 0] 32) = W := ⟨_, rfl⟩
  have HF0 := Lib.hid (show Fr Nob w W0 by rw [← hW0]; exact (Fr.refl _ _).alloc _)
  have HZ0 := Lib.hid (show Blk W0 w.heap.size [.int .i64 0, .int .i64 0, .int .i64 0, .int .i64 0, .int .i64 0, .int .i64 0, .slice none 0 0, .int .i64 0] 32 by rw [← hW0]; exact Blk.new _ _ _)
  rw [hW0]
  clear hW0
  replace HTU := Lib.hid (fun (W : World) (hF : Fr Nob W0 W) => HTU.out W (HF0.out.same hF) (by have h1 := HZ0.out.lt; have h2 := hF.size; omega))
  refine (HN.out W0 HF0.out).mono ?_
  rintro e w0 ⟨rfl, rfl⟩
  have hq0 := HQ.out
  have hq : q < w0.heap.size := by have := HF0.out.size; omega
  clear hq0
  go_upto_region 3 with (fail)
  clear hq
  refine wp_region_held_drew (S := fun W' : World => True) (by kernel_rfl) (trivial) (fun _ => ?_)
  have HFD := Lib.hid ((Fr.refl Nob w0).drew)
  generalize w0.drew = wd at HFD ⊢
  refine take_by (i := 0) (v := .pointer (some ⟨q, 0, none⟩)) rfl trivial ?_
  refine take_by (i := 1) (v := .pointer (some ⟨q, 0, none⟩)) rfl trivial ?_
  refine take_by (i := 4) (v := .pointer (some ⟨q, 0, none⟩)) rfl trivial ?_
  refine take_by (i := 2) (v := .pointer (some ⟨q, 0, none⟩)) rfl trivial ?_
  refine take_by (i := 5) (v := .pointer (some ⟨q, 0, none⟩)) rfl trivial ?_
  refine take_by (i := 3) (v := .pointer (some ⟨q, 2, none⟩)) rfl trivial ?_
  refine take_by (i := 6) (v := .pointer (some ⟨q, 3, none⟩)) rfl trivial ?_
  try simp only [List.getElem_toArray, List.getElem_cons_succ, List.getElem_cons_zero, Act.put, List.setIfInBounds_toArray, List.set_cons_zero, List.set_cons_succ]
  refine wpAnyH_ready (rs := [7]) (by kernel_rfl) (by simp) (AllReadyH.cons (o := _) rfl (fun K hK => ?_) AllReadyH.nil)
  go_simp
  refine (HTU.out wd HFD.out).mono ?_
  rintro e w3 ⟨⟨OB, ob, rfl, hO⟩, hP, hF3⟩
  have HO := Lib.hid hO
  have HPP := Lib.hid hP
  have HF3 := Lib.hid (HFD.out.any.same hF3)
  clear hO hP hF3
  obtain ⟨er, her⟩ : ∃ n, (undoF rs g st).2.2 = n := ⟨_, rfl⟩
  obtain ⟨yo, hyo⟩ : ∃ n, (undoF rs g st).2.1 = n := ⟨_, rfl⟩
  obtain ⟨k, f, t, gf, gt, ins, SA, sn, sc, m, hsv⟩ : ∃ k f t gf gt ins SA sn sc m, stepV yo OB ob = .agg #[.int .i64 k, .int .i64 f, .int .i64 t, .int .i64 gf, .int .i64 gt, .int .i64 ins, .slice SA sn sc, .int .i64 m] := by cases yo with | none => exact ⟨0, 0, 0, 0, 0, 0, none, 0, 0, 0, rfl⟩ | some y => exact ⟨_, _, _, _, _, _, _, _, _, _, rfl⟩
  rw [her, hyo, hsv]
  have HSV := Lib.hid hsv
  have HER := Lib.hid her
  have HYO := Lib.hid hyo
  clear her hyo hsv
  go_wp2_with fail
  refine hK.out _ _ trivial (fun _ => ?_)
  clear hK K
  try simp only [List.getElem_toArray, List.getElem_cons_succ, List.getElem_cons_zero, Act.put, List.setIfInBounds_toArray, List.set_cons_zero, List.set_cons_succ]
  refine take_by (i := 8) (v := .agg #[.int .i64 k, .int .i64 f, .int .i64 t, .int .i64 gf, .int .i64 gt, .int .i64 ins, .slice SA sn sc, .int .i64 m]) rfl trivial ?_
  refine take_by (i := 9) (v := .int .i64 er) rfl trivial ?_
  try simp only [List.getElem_toArray, List.getElem_cons_succ, List.getElem_cons_zero, Act.put, List.setIfInBounds_toArray, List.set_cons_zero, List.set_cons_succ]
  refine wpAnyH_ready (rs := [10]) (by kernel_rfl) (by simp) (AllReadyH.cons (o := _) rfl (fun K hK => ?_) AllReadyH.nil)
  have HZ3 := Lib.hid (HZ0.out.fr HF3.out (fun e => by have e' : w.heap.size = q := e; have := HQ.out; omega))
  obtain ⟨z0, z1, z2, z3, z4, z5, z6, z7⟩ := HZ3.out.z8
  obtain ⟨b0, b1, b2, b3, b4, b5, b6, b7, zl⟩ := HZ3.out.c8
  go_simp
  obtain ⟨hb5, hf5⟩ := store8 HZ3.out (.int .i64 k) (.int .i64 f) (.int .i64 t) (.int .i64 gf) (.int .i64 gt) (.int .i64 ins) (.slice SA sn sc) (.int .i64 m)
  obtain ⟨w5, hw5⟩ : ∃ W, ((((((((w3.setCell ⟨w.heap.size, 0, none⟩ (.int .i64 k)).setCell ⟨w.heap.size, 1, none⟩ (.int .i64 f)).setCell ⟨w.heap.size, 2, none⟩ (.int .i64 t)).setCell ⟨w.heap.size, 3, none⟩ (.int .i64 gf)).setCell ⟨w.heap.size, 4, none⟩ (.int .i64 gt)).setCell ⟨w.heap.size, 5, none⟩ (.int .i64 ins)).setCell ⟨w.heap.size, 6, none⟩ (.slice SA sn sc)).setCell ⟨w.heap.size, 7, none⟩ (.int .i64 m)) = W := ⟨_, rfl⟩
  simp only [hw5] at hb5 hf5 ⊢
  have HB5 := Lib.hid hb5
  have HF5 := Lib.hid hf5
  clear hw5 hb5 hf5 z0 z1 z2 z3 z4 z5 z6 z7 b0 b1 b2 b3 b4 b5 b6 b7 zl
  refine hK.out _ _ trivial (fun _ => ?_)
  clear hK K
  try simp only [List.getElem_toArray, List.getElem_cons_succ, List.getElem_cons_zero, Act.put, List.setIfInBounds_toArray, List.set_cons_zero, List.set_cons_succ]
  refine take_by (i := 11) (v := .int .i64 er) rfl trivial ?_
  try simp only [List.getElem_toArray, List.getElem_cons_succ, List.getElem_cons_zero, Act.put, List.setIfInBounds_toArray, List.set_cons_zero, List.set_cons_succ]
  refine wpAnyH_done (by kernel_rfl) ?_ _
  obtain ⟨b0, b1, b2, b3, b4, b5, b6, b7, zl⟩ := HB5.out.c8
  go_wp2_with fail
  refine bodyPost_ret (v := .tuple #[.agg #[.int .i64 k, .int .i64 f, .int .i64 t, .int .i64 gf, .int .i64 gt, .int .i64 ins, .slice SA sn sc, .int .i64 m], .int .i64 er]) (by simp [results, go_sem, b0, b1, b2, b3, b4, b5, b6, b7]) rfl ?_
  have hq := HQ.out
  have hfin : Fr (One q) w w5 := (HF0.out.any.same HF3.out).trans HF5.out (fun k hk e => by have e' : k = w.heap.size := e; omega)
  refine ⟨⟨OB, ob, by rw [← HSV.out, HYO.out, HER.out], fun y hy => ?_⟩, ?_, hfin⟩
  · obtain ⟨h1, h2⟩ := HO.out y hy
    exact ⟨(h1.fr HF5.out (fun k _ e => by have e' : k = w.heap.size := e; rw [e']; exact HNI.out)).mono HNS.out, h2⟩
  · exact (HPP.out.fr HF5.out (fun k _ e => by have e' : k = w.heap.size := e; rw [e']; exact HNI.out) (fun e => by have e' : q = w.heap.size := e; omega)).mono HNS.out HNQ.out
def redoF (rs : List RuleM) (g : List Grp) (st : HS) : HS × Option StepM × Int :=
  match st.R.reverse with
  | [] => (st, none, 6)
  | y :: r => if doE rs g y st.l = 0 then ({ st with l := doF y st.l, R := r.reverse, U := st.U ++ [invS y st.l] }, some y, 0) else ({ st with R := r.reverse, lost := st.lost + 1 }, none, 9)
set_option maxRecDepth 100000 in
set_option maxHeartbeats 4000000 in
theorem redo_none (N : Nat → Prop) (q p : Nat) (rs : List RuleM) (g : List Grp) (x : HX) (w : World) (h : HM N w q p rs g x) (h0 : x.R = []) (hN : ∀ k, N k → k < w.heap.size) :
    Calls Tryz.prog 30 #[.pointer (some ⟨q, 0, none⟩), .pointer (some ⟨q, 3, none⟩), .pointer (some ⟨q, 2, none⟩)] w fun e w' => e = .returned (.tuple #[.agg #[.int .i64 0, .int .i64 0, .int .i64 0, .int .i64 0, .int .i64 0, .int .i64 0, .slice none 0 0, .int .i64 0], .int .i64 6]) ∧ HM N w' q p rs g x ∧ Fr (One q) w w' := by
  have HH := Lib.hid h
  have HNN := Lib.hid hN
  obtain ⟨q0, _, qu, qr, q4, _, _, _, _, hql⟩ := h.f5
  have e0 : x.R.length = 0 := by rw [h0]; rfl
  rw [e0] at qr
  clear h h0 e0 hN
  go_enter Tryz.func30, Tryz.ntmps30
  go_upto_region 3 with (fail)
  obtain ⟨W0, hW0⟩ : ∃ W, w.alloc (.cells #[.int .i64 0, .int .i64 0, .int .i64 0, .int .i64 0, .int .i64 0, .int .i64 0, .slice none 0 0, .int .i64 0] 32) = W := ⟨_, rfl⟩
  have HF0 := Lib.hid (show Fr Nob w W0 by rw [← hW0]; exact (Fr.refl _ _).alloc _)
  have HZ0 := Lib.hid (show Blk W0 w.heap.size [.int .i64 0, .int .i64 0, .int .i64 0, .int .i64 0, .int .i64 0, .int .i64 0, .slice none 0 0, .int .i64 0] 32 by rw [← hW0]; exact Blk.new _ _ _)
  rw [hW0]
  clear hW0
  obtain ⟨b0, b1, b2, b3, b4, b5, b6, b7, bl⟩ := HZ0.out.c8
  obtain ⟨z0, z1, z2, z3, z4, z5, z6, z7⟩ := HZ0.out.z8
  go_wp2_with fail
  refine ret8m (v := .tuple #[.agg #[.int .i64 0, .int .i64 0, .int .i64 0, .int .i64 0, .int .i64 0, .int .i64 0, .slice none 0 0, .int .i64 0], .int .i64 6]) HZ0.out rfl (fun WE z0 z1 z2 z3 z4 z5 z6 z7 => by simp [results, go_sem, z0, z1, z2, z3, z4, z5, z6, z7]) (fun WE hFE => ?_)
  have hq := hql
  have hN1 : ∀ k, N k ↔ N k := fun _ => Iff.rfl
  have h1 := HH.out.fr0 (HF0.out.trans (M := Nob) hFE (fun k hk e => by have e' : k = w.heap.size := e; omega))
  exact ⟨rfl, h1, (HF0.out.trans (M := Nob) hFE (fun k hk e => by have e' : k = w.heap.size := e; omega)).any⟩
theorem redo_turn (N : Nat → Prop) (q p : Nat) (rs : List RuleM) (g : List Grp) (hok : SchOk rs g) (st : HS) (w : World) (h : HP N w q p rs g st) (hn : st.l.length ≤ 100000) (hu : st.R.length ≤ 99) (ht : st.U.length ≤ 99) (hx : ∀ y ∈ st.R, y.l.length ≤ 100000) (hlo : st.lost ≤ 100000) (hN : ∀ k, N k → k < w.heap.size) :
    Calls Tryz.prog 30 #[.pointer (some ⟨q, 0, none⟩), .pointer (some ⟨q, 3, none⟩), .pointer (some ⟨q, 2, none⟩)] w fun e w' => TurnP N w q p rs g (redoF rs g st) e w' := by
  obtain ⟨l, U, R, lost⟩ := st
  obtain ⟨⟨A, c, l', UA, uc, UL, RA, rc, RL, lost'⟩, hm, h1, h2, h3, h4⟩ := h.ex
  simp only at h1 h2 h3 h4 hn hu ht hx hlo
  subst h1 h2 h3 h4
  rcases List.eq_nil_or_concat RL with h0 | ⟨F, y, h0⟩
  · subst h0
    refine (redo_none N q p rs g _ w hm rfl hN).mono fun e w' hp => ?_
    obtain ⟨rfl, hm', hf⟩ := hp
    exact ⟨⟨none, 0, rfl, fun y hy => by cases hy⟩, ⟨_, hm', rfl, rfl, rfl, rfl⟩, hf⟩
  · rw [List.concat_eq_append] at h0
    subst h0
    simp only [List.map_append, List.map_cons, List.map_nil, List.length_append, List.length_map, List.length_singleton] at hu ht hx
    refine (hredo_any N q p rs g hok A RA UA c rc uc lost' l' F UL y w hm hn (by omega) (by omega) (hx y.s (by simp)) hlo hN).mono fun e w' hp => ?_
    obtain ⟨hf, hz, hnz⟩ := hp
    have hrev : (List.map StepA.s (F ++ [y])).reverse = y.s :: (F.map StepA.s).reverse := by simp
    by_cases hE : doE rs g y.s l' = 0
    · obtain ⟨A', c', TA', tc', IB, ib, OB, ob, rfl, hO, hob, hm'⟩ := hz hE
      have hr : redoF rs g ⟨l', List.map StepA.s UL, List.map StepA.s (F ++ [y]), lost'⟩ = (⟨doF y.s l', UL.map StepA.s ++ [invS y.s l'], F.map StepA.s, lost'⟩, some y.s, 0) := by
        unfold redoF
        simp only [hrev, hE, if_true, List.reverse_reverse]
      rw [hr]
      exact ⟨⟨OB, ob, rfl, fun y' hy => by cases hy; exact ⟨hO, hob⟩⟩, ⟨_, hm', rfl, by simp, rfl, by simp⟩, hf⟩
    · obtain ⟨rfl, hm'⟩ := hnz hE
      have hr : redoF rs g ⟨l', List.map StepA.s UL, List.map StepA.s (F ++ [y]), lost'⟩ = (⟨l', UL.map StepA.s, F.map StepA.s, lost' + 1⟩, none, 9) := by
        unfold redoF
        simp only [hrev, hE, if_false, List.reverse_reverse]
      rw [hr]
      exact ⟨⟨none, 0, rfl, fun y' hy => by cases hy⟩, ⟨_, hm', rfl, rfl, rfl, rfl⟩, hf⟩
set_option maxRecDepth 100000 in
set_option maxHeartbeats 4000000 in
theorem hRedo_any (N : Nat → Prop) (q p : Nat) (rs : List RuleM) (g : List Grp) (hok : SchOk rs g) (st : HS) (w : World) (h : HP N w q p rs g st) (hn : st.l.length ≤ 100000) (hu : st.R.length ≤ 99) (ht : st.U.length ≤ 99) (hx : ∀ y ∈ st.R, y.l.length ≤ 100000) (hlo : st.lost ≤ 100000) (hN : ∀ k, N k → k < w.heap.size) :
    Calls Tryz.prog 15 #[.pointer (some ⟨q, 0, none⟩)] w fun e w' => TurnP N w q p rs g (redoF rs g st) e w' := by
  obtain ⟨N', hN'⟩ : ∃ N', (fun k => N k ∨ k = w.heap.size) = N' := ⟨_, rfl⟩
  have HNQ := Lib.hid (show N q by obtain ⟨x, h1, _⟩ := h.ex; exact h1.mem)
  have HNB := Lib.hid (show ∀ k, N' k → k < w.heap.size + 1 from fun k hk => by rw [← hN'] at hk; rcases hk with hk | hk; have := hN k hk; omega; omega)
  have h := h.bound.mono (N' := N') (fun k hk => by rw [← hN'] at hk; rcases hk with hk | hk; exact .inl hk; exact .inr (Nat.le_of_eq hk.symm)) (by rw [← hN']; exact .inl HNQ.out)
  have HNI := Lib.hid (show N' w.heap.size by rw [← hN']; exact .inr rfl)
  have HNS := Lib.hid (show ∀ k, N k → N' k from fun k hk => by rw [← hN']; exact .inl hk)
  clear hN hN'
  have HH := Lib.hid h
  have HQ := Lib.hid h.lt
  have HTU := Lib.hid (fun (W : World) (hF : Fr Nob w W) (hs : w.heap.size + 1 ≤ W.heap.size) => redo_turn N' q p rs g hok st W (h.fr0 hF) hn hu ht hx hlo (fun k hk => by have := HNB.out k hk; omega))
  have HN := Lib.hid (fun (W : World) (hF : Fr Nob w W) => hnone_any q p W (by obtain ⟨x, h1, _⟩ := h.ex; exact (h1.fr0 hF).f5.1))
  clear h hn hu ht hx hlo hok
  go_enter Tryz.func15, Tryz.ntmps15
  go_wp2_with fail
  obtain ⟨W0, hW0⟩ : ∃ W, w.alloc (.cells #[.int .i64 0, .int .i64 0, .int .i64 0, .int .i64 0, .int .i64 0, .int .i64 0, .slice none 0 0, .int .i64 0] 32) = W := ⟨_, rfl⟩
  have HF0 := Lib.hid (show Fr Nob w W0 by rw [← hW0]; exact (Fr.refl _ _).alloc _)
  have HZ0 := Lib.hid (show Blk W0 w.heap.size [.int .i64 0, .int .i64 0, .int .i64 0, .int .i64 0, .int .i64 0, .int .i64 0, .slice none 0 0, .int .i64 0] 32 by rw [← hW0]; exact Blk.new _ _ _)
  rw [hW0]
  clear hW0
  replace HTU := Lib.hid (fun (W : World) (hF : Fr Nob W0 W) => HTU.out W (HF0.out.same hF) (by have h1 := HZ0.out.lt; have h2 := hF.size; omega))
  refine (HN.out W0 HF0.out).mono ?_
  rintro e w0 ⟨rfl, rfl⟩
  have hq0 := HQ.out
  have hq : q < w0.heap.size := by have := HF0.out.size; omega
  clear hq0
  go_upto_region 3 with (fail)
  clear hq
  refine wp_region_held_drew (S := fun W' : World => True) (by kernel_rfl) (trivial) (fun _ => ?_)
  have HFD := Lib.hid ((Fr.refl Nob w0).drew)
  generalize w0.drew = wd at HFD ⊢
  refine take_by (i := 0) (v := .pointer (some ⟨q, 0, none⟩)) rfl trivial ?_
  refine take_by (i := 1) (v := .pointer (some ⟨q, 0, none⟩)) rfl trivial ?_
  refine take_by (i := 4) (v := .pointer (some ⟨q, 0, none⟩)) rfl trivial ?_
  refine take_by (i := 2) (v := .pointer (some ⟨q, 0, none⟩)) rfl trivial ?_
  refine take_by (i := 5) (v := .pointer (some ⟨q, 0, none⟩)) rfl trivial ?_
  refine take_by (i := 3) (v := .pointer (some ⟨q, 3, none⟩)) rfl trivial ?_
  refine take_by (i := 6) (v := .pointer (some ⟨q, 2, none⟩)) rfl trivial ?_
  try simp only [List.getElem_toArray, List.getElem_cons_succ, List.getElem_cons_zero, Act.put, List.setIfInBounds_toArray, List.set_cons_zero, List.set_cons_succ]
  refine wpAnyH_ready (rs := [7]) (by kernel_rfl) (by simp) (AllReadyH.cons (o := _) rfl (fun K hK => ?_) AllReadyH.nil)
  go_simp
  refine (HTU.out wd HFD.out).mono ?_
  rintro e w3 ⟨⟨OB, ob, rfl, hO⟩, hP, hF3⟩
  have HO := Lib.hid hO
  have HPP := Lib.hid hP
  have HF3 := Lib.hid (HFD.out.any.same hF3)
  clear hO hP hF3
  obtain ⟨er, her⟩ : ∃ n, (redoF rs g st).2.2 = n := ⟨_, rfl⟩
  obtain ⟨yo, hyo⟩ : ∃ n, (redoF rs g st).2.1 = n := ⟨_, rfl⟩
  obtain ⟨k, f, t, gf, gt, ins, SA, sn, sc, m, hsv⟩ : ∃ k f t gf gt ins SA sn sc m, stepV yo OB ob = .agg #[.int .i64 k, .int .i64 f, .int .i64 t, .int .i64 gf, .int .i64 gt, .int .i64 ins, .slice SA sn sc, .int .i64 m] := by cases yo with | none => exact ⟨0, 0, 0, 0, 0, 0, none, 0, 0, 0, rfl⟩ | some y => exact ⟨_, _, _, _, _, _, _, _, _, _, rfl⟩
  rw [her, hyo, hsv]
  have HSV := Lib.hid hsv
  have HER := Lib.hid her
  have HYO := Lib.hid hyo
  clear her hyo hsv
  go_wp2_with fail
  refine hK.out _ _ trivial (fun _ => ?_)
  clear hK K
  try simp only [List.getElem_toArray, List.getElem_cons_succ, List.getElem_cons_zero, Act.put, List.setIfInBounds_toArray, List.set_cons_zero, List.set_cons_succ]
  refine take_by (i := 8) (v := .agg #[.int .i64 k, .int .i64 f, .int .i64 t, .int .i64 gf, .int .i64 gt, .int .i64 ins, .slice SA sn sc, .int .i64 m]) rfl trivial ?_
  refine take_by (i := 9) (v := .int .i64 er) rfl trivial ?_
  try simp only [List.getElem_toArray, List.getElem_cons_succ, List.getElem_cons_zero, Act.put, List.setIfInBounds_toArray, List.set_cons_zero, List.set_cons_succ]
  refine wpAnyH_ready (rs := [10]) (by kernel_rfl) (by simp) (AllReadyH.cons (o := _) rfl (fun K hK => ?_) AllReadyH.nil)
  have HZ3 := Lib.hid (HZ0.out.fr HF3.out (fun e => by have e' : w.heap.size = q := e; have := HQ.out; omega))
  obtain ⟨z0, z1, z2, z3, z4, z5, z6, z7⟩ := HZ3.out.z8
  obtain ⟨b0, b1, b2, b3, b4, b5, b6, b7, zl⟩ := HZ3.out.c8
  go_simp
  obtain ⟨hb5, hf5⟩ := store8 HZ3.out (.int .i64 k) (.int .i64 f) (.int .i64 t) (.int .i64 gf) (.int .i64 gt) (.int .i64 ins) (.slice SA sn sc) (.int .i64 m)
  obtain ⟨w5, hw5⟩ : ∃ W, ((((((((w3.setCell ⟨w.heap.size, 0, none⟩ (.int .i64 k)).setCell ⟨w.heap.size, 1, none⟩ (.int .i64 f)).setCell ⟨w.heap.size, 2, none⟩ (.int .i64 t)).setCell ⟨w.heap.size, 3, none⟩ (.int .i64 gf)).setCell ⟨w.heap.size, 4, none⟩ (.int .i64 gt)).setCell ⟨w.heap.size, 5, none⟩ (.int .i64 ins)).setCell ⟨w.heap.size, 6, none⟩ (.slice SA sn sc)).setCell ⟨w.heap.size, 7, none⟩ (.int .i64 m)) = W := ⟨_, rfl⟩
  simp only [hw5] at hb5 hf5 ⊢
  have HB5 := Lib.hid hb5
  have HF5 := Lib.hid hf5
  clear hw5 hb5 hf5 z0 z1 z2 z3 z4 z5 z6 z7 b0 b1 b2 b3 b4 b5 b6 b7 zl
  refine hK.out _ _ trivial (fun _ => ?_)
  clear hK K
  try simp only [List.getElem_toArray, List.getElem_cons_succ, List.getElem_cons_zero, Act.put, List.setIfInBounds_toArray, List.set_cons_zero, List.set_cons_succ]
  refine take_by (i := 11) (v := .int .i64 er) rfl trivial ?_
  try simp only [List.getElem_toArray, List.getElem_cons_succ, List.getElem_cons_zero, Act.put, List.setIfInBounds_toArray, List.set_cons_zero, List.set_cons_succ]
  refine wpAnyH_done (by kernel_rfl) ?_ _
  obtain ⟨b0, b1, b2, b3, b4, b5, b6, b7, zl⟩ := HB5.out.c8
  go_wp2_with fail
  refine bodyPost_ret (v := .tuple #[.agg #[.int .i64 k, .int .i64 f, .int .i64 t, .int .i64 gf, .int .i64 gt, .int .i64 ins, .slice SA sn sc, .int .i64 m], .int .i64 er]) (by simp [results, go_sem, b0, b1, b2, b3, b4, b5, b6, b7]) rfl ?_
  have hq := HQ.out
  have hfin : Fr (One q) w w5 := (HF0.out.any.same HF3.out).trans HF5.out (fun k hk e => by have e' : k = w.heap.size := e; omega)
  refine ⟨⟨OB, ob, by rw [← HSV.out, HYO.out, HER.out], fun y hy => ?_⟩, ?_, hfin⟩
  · obtain ⟨h1, h2⟩ := HO.out y hy
    exact ⟨(h1.fr HF5.out (fun k _ e => by have e' : k = w.heap.size := e; rw [e']; exact HNI.out)).mono HNS.out, h2⟩
  · exact (HPP.out.fr HF5.out (fun k _ e => by have e' : k = w.heap.size := e; rw [e']; exact HNI.out) (fun e => by have e' : q = w.heap.size := e; omega)).mono HNS.out HNQ.out
end Go.Proofs.YtldcffonfidbcaaGreatDoor

/- History.Local: an own step. -/
namespace Go.Proofs.YtldcffonfidbcaaGreatDoor
open Go.RowKit
def LocPost (N : Nat → Prop) (w : World) (q p : Nat) (rs : List RuleM) (g : List Grp) (x : HX) (s : StepM) (e : Ending) (w' : World) : Prop :=
  e = .returned (.int .i64 (doE rs g s x.l)) ∧ Fr (One q) w w' ∧
  (doE rs g s x.l = 0 → ∃ A' c' UA' uc' IB ib, HM N w' q p rs g ⟨A', c', doF s x.l, UA', uc', x.U ++ [⟨invS s x.l, IB, ib⟩], none, 0, [], x.lost⟩) ∧
  (doE rs g s x.l ≠ 0 → HM N w' q p rs g x)
set_option maxRecDepth 100000 in
set_option maxHeartbeats 4000000 in
theorem hlocal_any (N : Nat → Prop) (q p : Nat) (rs : List RuleM) (g : List Grp) (hok : SchOk rs g) (x : HX) (s : StepM) (B : Option Addr) (b : Nat) (w : World) (h : HM N w q p rs g x) (hx : Rd N w B (tokC s.l)) (hb : s.l.length ≤ b) (hn : x.l.length ≤ 100000) (hu : x.U.length ≤ 99) (hN : ∀ k, N k → k < w.heap.size) :
    Calls Tryz.prog 9 #[.pointer (some ⟨q, 0, none⟩), .agg (s.cells (.slice B s.l.length b)).toArray] w fun e w' => LocPost N w q p rs g x s e w' := by
  have HH := Lib.hid h
  have HNN := Lib.hid hN
  have HQ := Lib.hid h.blk.lt
  have HDO := Lib.hid (fun (W : World) (hF : Fr Nob w W) => hdo_any N q p rs g hok x s B b W (h.fr0 hF) (hx.fr hF (fun _ _ h => h.elim)) hb hn (fun k hk => Nat.lt_of_lt_of_le (hN k hk) hF.size))
  have HN := Lib.hid (fun (W : World) (hF : Fr Nob w W) => hnone_any q p W (h.fr0 hF).f5.1)
  have HP := Lib.hid (show ∀ (e : Ending) (w' : World), (e = .returned (.int .i64 (doE rs g s x.l)) ∧ Fr (One q) w w' ∧
    (doE rs g s x.l = 0 → ∃ A' c' UA' uc' IB ib, HM N w' q p rs g ⟨A', c', doF s x.l, UA', uc', x.U ++ [⟨invS s x.l, IB, ib⟩], none, 0, [], x.lost⟩) ∧
    (doE rs g s x.l ≠ 0 → HM N w' q p rs g x)) → LocPost N w q p rs g x s e w' from fun e w' h => h)
  simp only [DoPost] at HDO
  clear h hx hb hn hok hN
  obtain ⟨E, hE⟩ : ∃ E, doE rs g s x.l = E := ⟨_, rfl⟩
  obtain ⟨D, hD⟩ : ∃ D, doF s x.l = D := ⟨_, rfl⟩
  obtain ⟨Y, hY⟩ : ∃ Y, invS s x.l = Y := ⟨_, rfl⟩
  simp only [hE, hD, hY] at HDO HP
  obtain ⟨PO, hPO⟩ : ∃ P, LocPost N w q p rs g x s = P := ⟨_, rfl⟩
  rw [hPO] at HP ⊢
  clear hE hD hY hPO
  obtain ⟨⟨yk, yf, yt, ygf, ygt, yins, ym, yl⟩, hYY⟩ : ∃ Y', Y = Y' := ⟨_, rfl⟩
  have HYY := Lib.hid hYY
  simp only [hYY] at HDO
  clear hYY
  obtain ⟨yn, hyn⟩ : ∃ n, yl.length = n := ⟨_, rfl⟩
  have HYN := Lib.hid hyn
  clear hyn
  obtain ⟨A, c, l, UA, uc, U, RA, rc, R, lost⟩ := x
  simp only at HH HDO HP hu
  obtain ⟨un, hun⟩ : ∃ n, U.length = n := ⟨_, rfl⟩
  have HUN := Lib.hid hun
  rw [hun] at hu
  clear hun
  obtain ⟨k, f, t, gf, gt, ins, m, x⟩ := s
  simp only [StepM.cells] at *
  obtain ⟨xn, hxn⟩ : ∃ xn, x.length = xn := ⟨_, rfl⟩
  simp only [hxn] at HDO ⊢
  clear hxn
  go_enter Tryz.func9, Tryz.ntmps9
  go_wp2_with fail
  obtain ⟨W, hW⟩ : ∃ W, w.alloc (.cells #[.int .i64 k, .int .i64 f, .int .i64 t, .int .i64 gf, .int .i64 gt, .int .i64 ins, .slice B xn b, .int .i64 m] 32) = W := ⟨_, rfl⟩
  have HF := Lib.hid (show Fr Nob w W by rw [← hW]; exact (Fr.refl _ _).alloc _)
  have HS := Lib.hid (show Blk W w.heap.size [.int .i64 k, .int .i64 f, .int .i64 t, .int .i64 gf, .int .i64 gt, .int .i64 ins, .slice B xn b, .int .i64 m] 32 by rw [← hW]; exact Blk.new _ _ _)
  rw [hW]
  clear hW
  refine (HN.out W HF.out).mono ?_
  rintro e w0 ⟨rfl, rfl⟩
  obtain ⟨d0, d1, d2, d3, d4, d5, d6, d7, dl⟩ := HS.out.c8
  go_wp2_with fail
  refine (HDO.out w0 HF.out).mono ?_
  clear d0 d1 d2 d3 d4 d5 d6 d7 dl
  rintro e w1 ⟨hz, hnz, hF1⟩
  have HF1 := Lib.hid ((HF.out.any (M := One q)).same hF1)
  clear hF1
  by_cases h0 : E = 0
  · obtain ⟨IB, ib, A1, c1, rfl, hM1, hI, hib⟩ := hz h0
    subst h0
    clear hz hnz
    have HM1 := Lib.hid hM1
    have HQ1 := Lib.hid hM1.blk.lt
    rw [HYN.out] at hib ⊢
    have HPU := Lib.hid (fun (W : World) (hF : Fr Nob w1 W) => push_any N UA uc U ⟨⟨yk, yf, yt, ygf, ygt, yins, ym, yl⟩, IB, ib⟩ 100 W ((hM1.fr0 hF).und) (hI.fr hF (fun _ _ h => h.elim)) (by rw [HYN.out]; exact hib) (.inr (by rw [HUN.out]; omega)) (by omega) (by rw [HUN.out]; omega) (fun k hk => Nat.lt_of_lt_of_le (HNN.out k hk) (Nat.le_trans HF1.out.size hF.size)))
    simp only [StepA.cells, StepM.cells, HUN.out, HYN.out] at HPU
    clear hM1 hI hib
    go_upto_region 6 with (fail)
    obtain ⟨r, hr⟩ : ∃ r, w1.heap.size = r := ⟨_, rfl⟩
    obtain ⟨W2, hW2⟩ : ∃ W, w1.alloc (.cells #[.int .i64 yk, .int .i64 yf, .int .i64 yt, .int .i64 ygf, .int .i64 ygt, .int .i64 yins, .slice IB yn ib, .int .i64 ym] 32) = W := ⟨_, rfl⟩
    have HF2 := Lib.hid (show Fr Nob w1 W2 by rw [← hW2]; exact (Fr.refl _ _).alloc _)
    have HR2 := Lib.hid (show Blk W2 r [.int .i64 yk, .int .i64 yf, .int .i64 yt, .int .i64 ygf, .int .i64 ygt, .int .i64 yins, .slice IB yn ib, .int .i64 ym] 32 by rw [← hW2, ← hr]; exact Blk.new _ _ _)
    rw [hr, hW2]
    clear hr hW2
    have HQB := Lib.hid ((HM1.out.fr0 HF2.out).blk)
    have KS := Lib.hid (show ∀ W' : World, Fr Nob W2 W' → (W'.cell? ⟨q, 2, none⟩ = some (.slice UA un uc) ∧ W'.cell? ⟨r, 0, none⟩ = some (.int .i64 yk) ∧ W'.cell? ⟨r, 1, none⟩ = some (.int .i64 yf) ∧ W'.cell? ⟨r, 2, none⟩ = some (.int .i64 yt) ∧ W'.cell? ⟨r, 3, none⟩ = some (.int .i64 ygf) ∧ W'.cell? ⟨r, 4, none⟩ = some (.int .i64 ygt) ∧ W'.cell? ⟨r, 5, none⟩ = some (.int .i64 yins) ∧ W'.cell? ⟨r, 6, none⟩ = some (.slice IB yn ib) ∧ W'.cell? ⟨r, 7, none⟩ = some (.int .i64 ym)) from fun W' hF' => by
      have h := HR2.out.fr hF' (fun h => h)
      have hq := (HM1.out.fr0 (HF2.out.same hF')).f5
      simp only [HUN.out] at hq
      exact ⟨hq.2.2.1, h.cell 0, h.cell 1, h.cell 2, h.cell 3, h.cell 4, h.cell 5, h.cell 6, h.cell 7⟩)
    refine wp_region_G 10 (S := fun W' : World => W'.cell? ⟨q, 2, none⟩ = some (.slice UA un uc) ∧ W'.cell? ⟨r, 0, none⟩ = some (.int .i64 yk) ∧ W'.cell? ⟨r, 1, none⟩ = some (.int .i64 yf) ∧ W'.cell? ⟨r, 2, none⟩ = some (.int .i64 yt) ∧ W'.cell? ⟨r, 3, none⟩ = some (.int .i64 ygf) ∧ W'.cell? ⟨r, 4, none⟩ = some (.int .i64 ygt) ∧ W'.cell? ⟨r, 5, none⟩ = some (.int .i64 yins) ∧ W'.cell? ⟨r, 6, none⟩ = some (.slice IB yn ib) ∧ W'.cell? ⟨r, 7, none⟩ = some (.int .i64 ym)) (by kernel_rfl) ?_
    have HFD := Lib.hid ((Fr.refl Nob W2).drew)
    generalize W2.drew = wd at HFD ⊢
    have HSD := Lib.hid (KS.out wd HFD.out)
    refine take_g (i := 0) (v := .pointer (some ⟨q, 0, none⟩)) rfl HSD.out ?_
    refine take_p (i := 1) (v := .pointer (some ⟨q, 0, none⟩)) rfl (fun _ => HSD.out) ?_
    refine take_g (i := 2) (v := .pointer (some ⟨q, 0, none⟩)) rfl HSD.out ?_
    refine take_g (i := 6) (v := .agg #[.int .i64 yk, .int .i64 yf, .int .i64 yt, .int .i64 ygf, .int .i64 ygt, .int .i64 yins, .slice IB yn ib, .int .i64 ym]) rfl HSD.out ?_
    refine take_g (i := 3) (v := .pointer (some ⟨q, 0, none⟩)) rfl HSD.out ?_
    refine take_g (i := 4) (v := .pointer (some ⟨q, 2, none⟩)) rfl HSD.out ?_
    refine take_g (i := 5) (v := .slice UA un uc) rfl HSD.out ?_
    try simp only [List.getElem_toArray, List.getElem_cons_succ, List.getElem_cons_zero, Act.put, List.setIfInBounds_toArray, List.set_cons_zero, List.set_cons_succ]
    refine wpAnyG_ready (rs := [7]) (by kernel_rfl) (by simp) (AllReadyG.cons (o := _) rfl (fun K hK => ?_) AllReadyG.nil)
    go_simp
    refine (HPU.out wd (HF2.out.same HFD.out)).mono ?_
    rintro e w3 ⟨UA2, uc2, rfl, hst, hF3⟩
    have HST := Lib.hid hst
    have HF3 := Lib.hid (HFD.out.same hF3)
    clear hst hF3
    go_wp2_with fail
    refine hK.out _ _ (fun _ => (KS.out _ HF3.out)) ?_
    clear hK K
    try simp only [List.getElem_toArray, List.getElem_cons_succ, List.getElem_cons_zero, Act.put, List.setIfInBounds_toArray, List.set_cons_zero, List.set_cons_succ]
    refine take_g (i := 8) (v := .pointer (some ⟨q, 0, none⟩)) rfl (KS.out _ HF3.out) ?_
    refine take_g (i := 9) (v := .pointer (some ⟨q, 2, none⟩)) rfl (KS.out _ HF3.out) ?_
    try simp only [List.getElem_toArray, List.getElem_cons_succ, List.getElem_cons_zero, Act.put, List.setIfInBounds_toArray, List.set_cons_zero, List.set_cons_succ]
    refine wpAnyG_ready (rs := [10]) (by kernel_rfl) (by simp) (AllReadyG.cons (o := _) rfl (fun K hK => ?_) AllReadyG.nil)
    have HB3 := Lib.hid (HQB.out.fr HF3.out (fun h => h))
    have f1 := HB3.out.frozen 2
    have f2 := HB3.out.cell 2
    have f3 := HB3.out.lt
    simp only [HX.cells, List.getElem?_cons_zero, List.getElem?_cons_succ] at f2
    go_simp
    clear f1 f2 f3
    obtain ⟨w4, hw4⟩ : ∃ W, w3.setCell ⟨q, 2, none⟩ (.slice UA2 (un + 1) uc2) = W := ⟨_, rfl⟩
    have HB4 := Lib.hid (show Blk w4 q _ _ from by rw [← hw4]; exact HB3.out.set 2 (.slice UA2 (un + 1) uc2))
    have HF4 := Lib.hid (show Fr (One q) w3 w4 by rw [← hw4]; exact (Fr.refl (One q) w3).setCell (p := ⟨q, 2, none⟩) (.inl rfl) _)
    rw [hw4]
    clear hw4
    refine hK.out _ _ (late (by kernel_rfl)) ?_
    clear hK K
    try simp only [List.getElem_toArray, List.getElem_cons_succ, List.getElem_cons_zero, Act.put, List.setIfInBounds_toArray, List.set_cons_zero, List.set_cons_succ]
    refine take_p (i := 11) (v := .pointer (some ⟨q, 0, none⟩)) rfl (late (by kernel_rfl)) ?_
    refine take_p (i := 12) (v := .pointer (some ⟨q, 3, none⟩)) rfl (late (by kernel_rfl)) ?_
    try simp only [List.getElem_toArray, List.getElem_cons_succ, List.getElem_cons_zero, Act.put, List.setIfInBounds_toArray, List.set_cons_zero, List.set_cons_succ]
    refine wpAnyG_ready (rs := [13]) (by kernel_rfl) (by simp) (AllReadyG.cons (o := _) rfl (fun K hK => ?_) AllReadyG.nil)
    have f1 := HB4.out.frozen 3
    have f2 := HB4.out.cell 3
    have f3 := HB4.out.lt
    simp only [HX.cells, List.set_cons_zero, List.set_cons_succ, List.getElem?_cons_zero, List.getElem?_cons_succ] at f2
    go_simp
    clear f1 f2 f3
    obtain ⟨w5, hw5⟩ : ∃ W, w4.setCell ⟨q, 3, none⟩ (.slice none 0 0) = W := ⟨_, rfl⟩
    have HB5 := Lib.hid (show Blk w5 q _ _ from by rw [← hw5]; exact HB4.out.set 3 (.slice none 0 0))
    have HF5 := Lib.hid (show Fr (One q) w3 w5 by rw [← hw5]; exact HF4.out.setCell (p := ⟨q, 3, none⟩) (.inl rfl) _)
    rw [hw5]
    clear hw5
    refine hK.out _ _ (late (by kernel_rfl)) ?_
    clear hK K
    try simp only [List.getElem_toArray, List.getElem_cons_succ, List.getElem_cons_zero, Act.put, List.setIfInBounds_toArray, List.set_cons_zero, List.set_cons_succ]
    try simp only [List.getElem_toArray, List.getElem_cons_succ, List.getElem_cons_zero, Act.put, List.setIfInBounds_toArray, List.set_cons_zero, List.set_cons_succ]
    refine wpAnyG_done (by kernel_rfl) ?_ _
    go_wp2_with fail
    have hm := HM1.out.fr0 (HF2.out.same HF3.out)
    refine HP.out _ _ ⟨rfl, (HF1.out.same (HF2.out.same HF3.out).any).same HF5.out, fun _ => ⟨A1, c1, UA2, uc2, IB, ib, ?_, hm.mem, hm.sch.fr HF5.out (hm.one _), hm.doc.fr HF5.out (hm.one _), hm.cap, ?_, Stk.none _ _⟩, fun h => absurd rfl h⟩
    · have h1 := HB5.out
      simpa [HX.cells, HUN.out] using h1
    · rw [HYY.out]
      exact HST.out.fr HF5.out (hm.one _)
  · have h1 := hnz h0
    obtain ⟨rfl, hM1⟩ := h1
    have h0' : (E == 0) = false := by simpa using h0
    have HM1 := Lib.hid hM1
    clear hz hnz hM1
    go_wp2_with fail
    have hal := HF1.out.alloc (.cells #[.int .i64 0, .int .i64 0, .int .i64 0, .int .i64 0, .int .i64 0, .int .i64 0, .slice none 0 0, .int .i64 0] 32)
    exact HP.out _ _ ⟨rfl, hal, fun h => absurd h h0, fun _ => HM1.out.fr0 ((Fr.refl _ _).alloc _)⟩
end Go.Proofs.YtldcffonfidbcaaGreatDoor

/- A document that is right is short; the document by which a law sees that the program computes at all. -/
namespace Go.Proofs.YtldcffonfidbcaaGreatDoor
open Go.RowKit
theorem checkF_flat {rs : List RuleM} {g : List Grp} {l : List Tok} (h : (checkF rs g l).2 = 0) : l.length ≤ 2048 := by
  unfold checkF at h
  split at h
  · rename_i h0; exact absurd h h0
  · rename_i h0; exact flat_short (Decidable.not_not.1 h0)
/-- The document by which a law sees that the program computes at all. -/
def awakeD : List Tok := [⟨1, 1, 0, 0⟩, ⟨2, 0, 0, 0⟩]
theorem awake_check {rs : List RuleM} (h : rs.map coreR = (wholeS ⟨#[98, 108, 111, 99, 107, 43]⟩ :: houseL).map coreS) : checkF rs (groupsF houseL houseG) awakeD = (2, 0) := by
  rw [checkF_house h]
  kernel_rfl
end Go.Proofs.YtldcffonfidbcaaGreatDoor
