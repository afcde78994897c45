/- A part of the proof for chapter 10: HistRem, HistOwn, HistTurn; no conditions. -/
import Derived.Test.YtldcffonfidbcaaGreatDoorY25
import Derived.Test.YtldcffonfidbcaaGreatDoorY32
import Derived.Test.YtldcffonfidbcaaGreatDoorY24
import Derived.Deep.RegionLawGrows
import Derived.Test.YtldcffonfidbcaaGreatDoorY31
/- History.Remote: another's step. -/
namespace Go.Proofs.YtldcffonfidbcaaGreatDoor
open Go.RowKit
def RemPost (N : Nat → Prop) (w : World) (q p : Nat) (rs : List RuleM) (g : List Grp) (x : HX) (s : StepM) (e : Ending) (w' : World) : Prop :=
  e = .returned (.int .i64 (doE rs g s x.l)) ∧ Fr (One q) w w' ∧
  (doE rs g s x.l = 0 → ∃ A' c' UA' uc' RA' rc', HM N w' q p rs g ⟨A', c', doF s x.l, UA', uc', (sendGo x.U.reverse s).1.reverse, RA', rc', (sendGo x.R.reverse s).1.reverse, x.lost + (sendGo x.U.reverse s).2 + (sendGo x.R.reverse s).2⟩) ∧
  (doE rs g s x.l ≠ 0 → HM N w' q p rs g x)
theorem idx_two0 (a b : Addr) (w : World) : (Instr.index 66 (.agg #[.pointer (some a), .pointer (some b)]) (.int .i64 0)).run Tryz.prog w = .ok (.pointer (some a)) w := by kernel_rfl
theorem idx_two1 (a b : Addr) (w : World) : (Instr.index 66 (.agg #[.pointer (some a), .pointer (some b)]) (.int .i64 1)).run Tryz.prog w = .ok (.pointer (some b)) w := by kernel_rfl
attribute [local go_sem high] idx_two0 idx_two1
set_option maxRecDepth 100000 in
set_option maxHeartbeats 4000000 in
theorem hremote_any (N : Nat → Prop) (q p : Nat) (rs : List RuleM) (g : List Grp) (hok : SchOk rs g) (x : HX) (s : StepM) (B : Option Addr) (b : Nat) (w : World) (h : HM N w q p rs g x) (hx : Rd N w B (tokC s.l)) (hb : s.l.length ≤ b) (hn : x.l.length ≤ 100000) (hu : x.U.length ≤ 1000) (hr : x.R.length ≤ 1000) (hlo : x.lost ≤ 100000) (hN : ∀ k, N k → k < w.heap.size) :
    Calls Tryz.prog 17 #[.pointer (some ⟨q, 0, none⟩), .agg (s.cells (.slice B s.l.length b)).toArray] w fun e w' => RemPost N w q p rs g x s e w' := by
  have HH := Lib.hid h
  have HXR := Lib.hid hx
  have HXB := Lib.hid hb
  have HQ := Lib.hid h.blk.lt
  have HNN := Lib.hid hN
  have HDO := Lib.hid (fun (W : World) (hF : Fr Nob w W) => hdo_any N q p rs g hok x s B b W (h.fr0 hF) (hx.fr hF (fun _ _ h => h.elim)) hb hn (fun k hk => Nat.lt_of_lt_of_le (hN k hk) hF.size))
  have HN := Lib.hid (fun (W : World) (hF : Fr Nob w W) => hnone_any q p W (h.fr0 hF).f5.1)
  have HP := Lib.hid (show ∀ (e : Ending) (w' : World), (e = .returned (.int .i64 (doE rs g s x.l)) ∧ Fr (One q) w w' ∧
    (doE rs g s x.l = 0 → ∃ A' c' UA' uc' RA' rc', HM N w' q p rs g ⟨A', c', doF s x.l, UA', uc', (sendGo x.U.reverse s).1.reverse, RA', rc', (sendGo x.R.reverse s).1.reverse, x.lost + (sendGo x.U.reverse s).2 + (sendGo x.R.reverse s).2⟩) ∧
    (doE rs g s x.l ≠ 0 → HM N w' q p rs g x)) → RemPost N w q p rs g x s e w' from fun e w' h => h)
  simp only [DoPost] at HDO
  obtain ⟨y0, hy0⟩ : ∃ y0, s = y0 := ⟨_, rfl⟩
  have HY0 := Lib.hid hy0
  clear h hx hb hn hok hN
  obtain ⟨E, hE⟩ : ∃ E, doE rs g s x.l = E := ⟨_, rfl⟩
  obtain ⟨D, hD⟩ : ∃ D, doF s x.l = D := ⟨_, rfl⟩
  obtain ⟨Y, hY⟩ : ∃ Y, invS s x.l = Y := ⟨_, rfl⟩
  simp only [hE, hD, hY] at HDO HP
  obtain ⟨PO, hPO⟩ : ∃ P, RemPost N w q p rs g x s = P := ⟨_, rfl⟩
  rw [hPO] at HP ⊢
  rw [hy0] at HP
  clear hE hD hY hPO hy0
  obtain ⟨yk, yf, yt, ygf, ygt, yins, ym, yl⟩ := Y
  obtain ⟨yn, hyn⟩ : ∃ n, yl.length = n := ⟨_, rfl⟩
  simp only [hyn] at HDO
  clear hyn
  obtain ⟨A, c, l, UA, uc, U, RA, rc, R, lost⟩ := x
  simp only at HH HDO HP hu hr hlo
  obtain ⟨un, hun⟩ : ∃ n, U.length = n := ⟨_, rfl⟩
  obtain ⟨rn, hrn⟩ : ∃ n, R.length = n := ⟨_, rfl⟩
  have HUL2 := Lib.hid hun
  have HUL3 := Lib.hid hrn
  have HUH := Lib.hid hu
  have HRH := Lib.hid hr
  have HLH := Lib.hid hlo
  clear hun hrn hu hr
  obtain ⟨k, f, t, gf, gt, ins, m, x⟩ := s
  simp only [StepM.cells] at *
  obtain ⟨xn, hxn⟩ : ∃ xn, x.length = xn := ⟨_, rfl⟩
  have HXN := Lib.hid hxn
  simp only [hxn] at HDO ⊢
  clear hxn
  go_enter Tryz.func17, Tryz.ntmps17
  go_wp2_with fail
  obtain ⟨W, hW⟩ : ∃ W, w.alloc (.cells #[.int .i64 k, .int .i64 f, .int .i64 t, .int .i64 gf, .int .i64 gt, .int .i64 ins, .slice B xn b, .int .i64 m] 32) = W := ⟨_, rfl⟩
  have HF := Lib.hid (show Fr Nob w W by rw [← hW]; exact (Fr.refl _ _).alloc _)
  have HS := Lib.hid (show Blk W w.heap.size [.int .i64 k, .int .i64 f, .int .i64 t, .int .i64 gf, .int .i64 gt, .int .i64 ins, .slice B xn b, .int .i64 m] 32 by rw [← hW]; exact Blk.new _ _ _)
  rw [hW]
  clear hW
  refine (HN.out W HF.out).mono ?_
  rintro e w0 ⟨rfl, rfl⟩
  obtain ⟨d0, d1, d2, d3, d4, d5, d6, d7, dl⟩ := HS.out.c8
  go_wp2_with fail
  refine (HDO.out w0 HF.out).mono ?_
  clear d0 d1 d2 d3 d4 d5 d6 d7 dl
  rintro e wa ⟨hz, hnz, hF1⟩
  have HFa := Lib.hid hF1
  have HF1 := Lib.hid ((HF.out.any (M := One q)).same hF1)
  clear hF1
  by_cases h0 : E = 0
  · obtain ⟨IB, ib, A1, c1, rfl, hM1, hI, hib⟩ := hz h0
    subst h0
    have HMa := Lib.hid hM1
    clear hz hnz hM1 hI hib
    go_upto_region 6 with (fail)
    obtain ⟨wq, hwq⟩ : ∃ W, wa.alloc (.cells #[.int .i64 yk, .int .i64 yf, .int .i64 yt, .int .i64 ygf, .int .i64 ygt, .int .i64 yins, .slice IB yn ib, .int .i64 ym] 32) = W := ⟨_, rfl⟩
    have HFAQ := Lib.hid (show Fr Nob wa wq by rw [← hwq]; exact (Fr.refl _ _).alloc _)
    have hql0 : q < wq.heap.size := (HMa.out.fr0 HFAQ.out).blk.lt
    rw [hwq]
    clear hwq
    go_wp2_with (go_quiet (fail))
    obtain ⟨w1, hw1⟩ : ∃ W, wq.drewN nq = W := ⟨_, rfl⟩
    have HFA1 := Lib.hid (show Fr Nob wa w1 by rw [← hw1]; exact HFAQ.out.drewN _)
    have HM1 := Lib.hid (HMa.out.fr0 HFA1.out)
    have HS1 := Lib.hid ((HS.out.fr HFa.out (fun e => by have e' : w.heap.size = q := e; have := HQ.out; omega)).fr HFA1.out (fun h => h))
    have HFW1 := Lib.hid (HF1.out.none HFA1.out)
    rw [hw1]
    clear hw1 hql0
    have hq1 : q < w1.heap.size := HM1.out.blk.lt
    have HSN2 := Lib.hid (fun (W : World) (hF : Fr Nob w1 W) => send_any N UA uc U y0 B b W ((HM1.out.fr0 hF).und) (by rw [← HY0.out]; exact (HXR.out.fr (HFW1.out.same hF.any) (HM1.out.one _))) (by rw [← HY0.out]; exact HXB.out) HUH.out (fun k hk => Nat.lt_of_lt_of_le (HNN.out k hk) (Nat.le_trans HFW1.out.size hF.size)))
    rw [← HY0.out] at HSN2
    simp only [StepM.cells, HXN.out, HUL2.out] at HSN2
    rw [HY0.out] at HSN2
    refine wp_loop_rounds 3 ?_
    rw [rounds_succ]
    go_upto_region 10 with (fail)
    have KS2 := Lib.hid (show ∀ W' : World, Fr Nob w1 W' → (W'.cell? ⟨q, 2, none⟩ = some (.slice UA un uc) ∧ W'.cell? ⟨w.heap.size, 0, none⟩ = some (.int .i64 k) ∧ W'.cell? ⟨w.heap.size, 1, none⟩ = some (.int .i64 f) ∧ W'.cell? ⟨w.heap.size, 2, none⟩ = some (.int .i64 t) ∧ W'.cell? ⟨w.heap.size, 3, none⟩ = some (.int .i64 gf) ∧ W'.cell? ⟨w.heap.size, 4, none⟩ = some (.int .i64 gt) ∧ W'.cell? ⟨w.heap.size, 5, none⟩ = some (.int .i64 ins) ∧ W'.cell? ⟨w.heap.size, 6, none⟩ = some (.slice B xn b) ∧ W'.cell? ⟨w.heap.size, 7, none⟩ = some (.int .i64 m)) from fun W' hF' => by
      have h := (HS1.out.fr hF' (fun h => h))
      have hq := (HM1.out.fr0 hF').blk.cell 2
      simp only [HX.cells, List.getElem?_cons_zero, List.getElem?_cons_succ, HUL2.out] at hq
      exact ⟨hq, h.cell 0, h.cell 1, h.cell 2, h.cell 3, h.cell 4, h.cell 5, h.cell 6, h.cell 7⟩)
    refine wp_region_held_drew (S := fun W' : World => W'.cell? ⟨q, 2, none⟩ = some (.slice UA un uc) ∧ W'.cell? ⟨w.heap.size, 0, none⟩ = some (.int .i64 k) ∧ W'.cell? ⟨w.heap.size, 1, none⟩ = some (.int .i64 f) ∧ W'.cell? ⟨w.heap.size, 2, none⟩ = some (.int .i64 t) ∧ W'.cell? ⟨w.heap.size, 3, none⟩ = some (.int .i64 gf) ∧ W'.cell? ⟨w.heap.size, 4, none⟩ = some (.int .i64 gt) ∧ W'.cell? ⟨w.heap.size, 5, none⟩ = some (.int .i64 ins) ∧ W'.cell? ⟨w.heap.size, 6, none⟩ = some (.slice B xn b) ∧ W'.cell? ⟨w.heap.size, 7, none⟩ = some (.int .i64 m)) (by kernel_rfl) (KS2.out _ (Fr.refl _ _).drew) (fun _ => ?_)
    have HFD := Lib.hid ((Fr.refl Nob w1).drew)
    generalize w1.drew = wd at HFD ⊢
    have HSD := Lib.hid (KS2.out wd HFD.out)
    refine take_by (i := 0) (v := .func (.func 31) #[] #[]) rfl HSD.out ?_
    refine take_by (i := 1) (v := .pointer (some ⟨q, 2, none⟩)) rfl HSD.out ?_
    refine take_by (i := 4) (v := .agg #[.int .i64 k, .int .i64 f, .int .i64 t, .int .i64 gf, .int .i64 gt, .int .i64 ins, .slice B xn b, .int .i64 m]) rfl HSD.out ?_
    refine take_by (i := 2) (v := .pointer (some ⟨q, 2, none⟩)) rfl HSD.out ?_
    refine take_by (i := 3) (v := .slice UA un uc) rfl HSD.out ?_
    refine ready1 5 rfl (fun K hK => ?_)
    go_simp
    refine (HSN2.out wd HFD.out).mono ?_
    rintro e w3 ⟨SA2, sc2, rfl, hst, hF3⟩
    obtain ⟨sn2, hsn⟩ : ∃ n, (sendGo U.reverse y0).1.length = n := ⟨_, rfl⟩
    obtain ⟨lo2, hlo⟩ : ∃ n, (sendGo U.reverse y0).2 = n := ⟨_, rfl⟩
    rw [hsn, hlo]
    have HSL2 := Lib.hid hsn
    have HLO2 := Lib.hid hlo
    have HST2 := Lib.hid hst
    have HF3 := Lib.hid (HFD.out.same hF3)
    clear hst hF3 hsn hlo
    go_wp2_with fail
    refine hK.out _ _ (KS2.out _ HF3.out) (fun _ => ?_)
    clear hK K
    refine take_by (i := 6) (v := .tuple #[.slice SA2 sn2 sc2, .int .i64 lo2]) rfl (KS2.out _ HF3.out) ?_
    refine take_by (i := 7) (v := .slice SA2 sn2 sc2) rfl (KS2.out _ HF3.out) ?_
    refine take_by (i := 8) (v := .int .i64 lo2) rfl (KS2.out _ HF3.out) ?_
    refine take_by (i := 9) (v := .slice SA2 sn2 sc2) rfl (KS2.out _ HF3.out) ?_
    refine take_by (i := 10) (v := .int .i64 lo2) rfl (KS2.out _ HF3.out) ?_
    refine done_by ?_
    have HM3 := Lib.hid (HM1.out.fr0 HF3.out)
    obtain ⟨q0, _, qu, qr, q4, _, f2, f3, f4, hql⟩ := HM3.out.f5
    go_upto_region 12 with (fail)
    obtain ⟨w4, hw⟩ : ∃ W, w3.setCell ⟨q, 2, none⟩ (.slice SA2 sn2 sc2) = W := ⟨_, rfl⟩
    have HF4 := Lib.hid (show Fr (One q) w3 w4 by rw [← hw]; exact (Fr.refl (One q) w3).setCell (p := ⟨q, 2, none⟩) (.inl rfl) _)
    have hlen : (sendGo U.reverse y0).1.reverse.length = sn2 := by rw [List.length_reverse]; exact HSL2.out
    have HM4 := Lib.hid (show HM N w4 q p rs g ⟨A1, c1, D, SA2, sc2, (sendGo U.reverse y0).1.reverse, RA, rc, R, lost⟩ from ⟨by rw [← hw]; simpa [HX.cells, hlen] using HM3.out.blk.set 2 (.slice SA2 sn2 sc2), HM3.out.mem, HM3.out.sch.fr HF4.out (HM3.out.one _), HM3.out.doc.fr HF4.out (HM3.out.one _), HM3.out.cap, HST2.out.fr HF4.out (HM3.out.one _), HM3.out.red.fr HF4.out (HM3.out.one _)⟩)
    have HFX2 := Lib.hid (HF3.out.any.same HF4.out)
    rw [hw]
    clear hw hlen q0 qu qr q4 f2 f3 f4 hql
    obtain ⟨q0, _, _, _, q4, _, _, _, f4, hql⟩ := HM4.out.f5
    simp only at q4
    have hlb : lo2 ≤ 1000 := by have h := sendGo_len U.reverse y0; rw [HSL2.out, HLO2.out, List.length_reverse, HUL2.out] at h; have h2 := HUL2.out; have h3 := HUH.out; omega
    have hlost := HLH.out
    have HLB2 := Lib.hid hlb
    go_wp2_with fail
    obtain ⟨w5, hw⟩ : ∃ W, w4.setCell ⟨q, 4, none⟩ (.int .i64 ((lost : Int) + (lo2 : Int))) = W := ⟨_, rfl⟩
    have HF5 := Lib.hid (show Fr (One q) w4 w5 by rw [← hw]; exact (Fr.refl (One q) w4).setCell (p := ⟨q, 4, none⟩) (.inl rfl) _)
    have HM5 := Lib.hid (show HM N w5 q p rs g ⟨A1, c1, D, SA2, sc2, (sendGo U.reverse y0).1.reverse, RA, rc, R, lost + lo2⟩ from ⟨by rw [← hw]; simpa [HX.cells] using HM4.out.blk.set 4 (.int .i64 ((lost : Int) + (lo2 : Int))), HM4.out.mem, HM4.out.sch.fr HF5.out (HM4.out.one _), HM4.out.doc.fr HF5.out (HM4.out.one _), HM4.out.cap, HM4.out.und.fr HF5.out (HM4.out.one _), HM4.out.red.fr HF5.out (HM4.out.one _)⟩)
    have HFY2 := Lib.hid (HFX2.out.same HF5.out)
    try rw [hw]
    clear hw q0 q4 f4 hql hlb hlost
    have HS5 := Lib.hid (HS1.out.fr HFY2.out (fun e => by have e' : w.heap.size = q := e; have := HQ.out; omega))
    have HSN3 := Lib.hid (fun (W : World) (hF : Fr Nob w5 W) => send_any N RA rc R y0 B b W ((HM5.out.fr0 hF).red) (by rw [← HY0.out]; exact (HXR.out.fr ((HFW1.out.same HFY2.out).same hF.any) (HM5.out.one _))) (by rw [← HY0.out]; exact HXB.out) HRH.out (fun k hk => Nat.lt_of_lt_of_le (HNN.out k hk) (Nat.le_trans (HFW1.out.same HFY2.out).size hF.size)))
    rw [← HY0.out] at HSN3
    simp only [StepM.cells, HXN.out, HUL3.out] at HSN3
    rw [HY0.out] at HSN3
    rw [rounds_succ]
    have hq5 : q < w5.heap.size := HM5.out.blk.lt
    go_upto_region 10 with (fail)
    have KS3 := Lib.hid (show ∀ W' : World, Fr Nob w5 W' → (W'.cell? ⟨q, 3, none⟩ = some (.slice RA rn rc) ∧ W'.cell? ⟨w.heap.size, 0, none⟩ = some (.int .i64 k) ∧ W'.cell? ⟨w.heap.size, 1, none⟩ = some (.int .i64 f) ∧ W'.cell? ⟨w.heap.size, 2, none⟩ = some (.int .i64 t) ∧ W'.cell? ⟨w.heap.size, 3, none⟩ = some (.int .i64 gf) ∧ W'.cell? ⟨w.heap.size, 4, none⟩ = some (.int .i64 gt) ∧ W'.cell? ⟨w.heap.size, 5, none⟩ = some (.int .i64 ins) ∧ W'.cell? ⟨w.heap.size, 6, none⟩ = some (.slice B xn b) ∧ W'.cell? ⟨w.heap.size, 7, none⟩ = some (.int .i64 m)) from fun W' hF' => by
      have h := (HS5.out.fr hF' (fun h => h))
      have hq := (HM5.out.fr0 hF').blk.cell 3
      simp only [HX.cells, List.getElem?_cons_zero, List.getElem?_cons_succ, HUL3.out] at hq
      exact ⟨hq, h.cell 0, h.cell 1, h.cell 2, h.cell 3, h.cell 4, h.cell 5, h.cell 6, h.cell 7⟩)
    refine wp_region_held_drew (S := fun W' : World => W'.cell? ⟨q, 3, none⟩ = some (.slice RA rn rc) ∧ W'.cell? ⟨w.heap.size, 0, none⟩ = some (.int .i64 k) ∧ W'.cell? ⟨w.heap.size, 1, none⟩ = some (.int .i64 f) ∧ W'.cell? ⟨w.heap.size, 2, none⟩ = some (.int .i64 t) ∧ W'.cell? ⟨w.heap.size, 3, none⟩ = some (.int .i64 gf) ∧ W'.cell? ⟨w.heap.size, 4, none⟩ = some (.int .i64 gt) ∧ W'.cell? ⟨w.heap.size, 5, none⟩ = some (.int .i64 ins) ∧ W'.cell? ⟨w.heap.size, 6, none⟩ = some (.slice B xn b) ∧ W'.cell? ⟨w.heap.size, 7, none⟩ = some (.int .i64 m)) (by kernel_rfl) (KS3.out _ (Fr.refl _ _).drew) (fun _ => ?_)
    have HFD := Lib.hid ((Fr.refl Nob w5).drew)
    generalize w5.drew = wd at HFD ⊢
    have HSD := Lib.hid (KS3.out wd HFD.out)
    refine take_by (i := 0) (v := .func (.func 31) #[] #[]) rfl HSD.out ?_
    refine take_by (i := 1) (v := .pointer (some ⟨q, 3, none⟩)) rfl HSD.out ?_
    refine take_by (i := 4) (v := .agg #[.int .i64 k, .int .i64 f, .int .i64 t, .int .i64 gf, .int .i64 gt, .int .i64 ins, .slice B xn b, .int .i64 m]) rfl HSD.out ?_
    refine take_by (i := 2) (v := .pointer (some ⟨q, 3, none⟩)) rfl HSD.out ?_
    refine take_by (i := 3) (v := .slice RA rn rc) rfl HSD.out ?_
    refine ready1 5 rfl (fun K hK => ?_)
    go_simp
    refine (HSN3.out wd HFD.out).mono ?_
    rintro e w3 ⟨SA3, sc3, rfl, hst, hF3⟩
    obtain ⟨sn3, hsn⟩ : ∃ n, (sendGo R.reverse y0).1.length = n := ⟨_, rfl⟩
    obtain ⟨lo3, hlo⟩ : ∃ n, (sendGo R.reverse y0).2 = n := ⟨_, rfl⟩
    rw [hsn, hlo]
    have HSL3 := Lib.hid hsn
    have HLO3 := Lib.hid hlo
    have HST3 := Lib.hid hst
    have HF3 := Lib.hid (HFD.out.same hF3)
    clear hst hF3 hsn hlo
    go_wp2_with fail
    refine hK.out _ _ (KS3.out _ HF3.out) (fun _ => ?_)
    clear hK K
    refine take_by (i := 6) (v := .tuple #[.slice SA3 sn3 sc3, .int .i64 lo3]) rfl (KS3.out _ HF3.out) ?_
    refine take_by (i := 7) (v := .slice SA3 sn3 sc3) rfl (KS3.out _ HF3.out) ?_
    refine take_by (i := 8) (v := .int .i64 lo3) rfl (KS3.out _ HF3.out) ?_
    refine take_by (i := 9) (v := .slice SA3 sn3 sc3) rfl (KS3.out _ HF3.out) ?_
    refine take_by (i := 10) (v := .int .i64 lo3) rfl (KS3.out _ HF3.out) ?_
    refine done_by ?_
    have HM3 := Lib.hid (HM5.out.fr0 HF3.out)
    obtain ⟨q0, _, qu, qr, q4, _, f2, f3, f4, hql⟩ := HM3.out.f5
    go_upto_region 12 with (fail)
    obtain ⟨w7, hw⟩ : ∃ W, w3.setCell ⟨q, 3, none⟩ (.slice SA3 sn3 sc3) = W := ⟨_, rfl⟩
    have HF4 := Lib.hid (show Fr (One q) w3 w7 by rw [← hw]; exact (Fr.refl (One q) w3).setCell (p := ⟨q, 3, none⟩) (.inl rfl) _)
    have hlen : (sendGo R.reverse y0).1.reverse.length = sn3 := by rw [List.length_reverse]; exact HSL3.out
    have HM4 := Lib.hid (show HM N w7 q p rs g ⟨A1, c1, D, SA2, sc2, (sendGo U.reverse y0).1.reverse, SA3, sc3, (sendGo R.reverse y0).1.reverse, lost + lo2⟩ from ⟨by rw [← hw]; simpa [HX.cells, hlen] using HM3.out.blk.set 3 (.slice SA3 sn3 sc3), HM3.out.mem, HM3.out.sch.fr HF4.out (HM3.out.one _), HM3.out.doc.fr HF4.out (HM3.out.one _), HM3.out.cap, HM3.out.und.fr HF4.out (HM3.out.one _), HST3.out.fr HF4.out (HM3.out.one _)⟩)
    have HFX3 := Lib.hid (HF3.out.any.same HF4.out)
    rw [hw]
    clear hw hlen q0 qu qr q4 f2 f3 f4 hql
    obtain ⟨q0, _, _, _, q4, _, _, _, f4, hql⟩ := HM4.out.f5
    simp only at q4
    have hlb : lo3 ≤ 1000 := by have h := sendGo_len R.reverse y0; rw [HSL3.out, HLO3.out, List.length_reverse, HUL3.out] at h; have h2 := HUL3.out; have h3 := HRH.out; omega
    have hlost := HLH.out
    have hlb2 := HLB2.out
    go_wp2_with fail
    obtain ⟨w8, hw⟩ : ∃ W, w7.setCell ⟨q, 4, none⟩ (.int .i64 ((lost : Int) + (lo2 : Int) + (lo3 : Int))) = W := ⟨_, rfl⟩
    have HF5 := Lib.hid (show Fr (One q) w7 w8 by rw [← hw]; exact (Fr.refl (One q) w7).setCell (p := ⟨q, 4, none⟩) (.inl rfl) _)
    have HM8 := Lib.hid (show HM N w8 q p rs g ⟨A1, c1, D, SA2, sc2, (sendGo U.reverse y0).1.reverse, SA3, sc3, (sendGo R.reverse y0).1.reverse, lost + lo2 + lo3⟩ from ⟨by rw [← hw]; simpa [HX.cells] using HM4.out.blk.set 4 (.int .i64 ((lost : Int) + (lo2 : Int) + (lo3 : Int))), HM4.out.mem, HM4.out.sch.fr HF5.out (HM4.out.one _), HM4.out.doc.fr HF5.out (HM4.out.one _), HM4.out.cap, HM4.out.und.fr HF5.out (HM4.out.one _), HM4.out.red.fr HF5.out (HM4.out.one _)⟩)
    have HFY3 := Lib.hid (HFX3.out.same HF5.out)
    try rw [hw]
    clear hw q0 q4 f4 hql hlb hlost
    rw [rounds_succ]
    go_wp2_with fail
    exact HP.out _ _ ⟨rfl, HFW1.out.same (HFY2.out.same HFY3.out), fun _ => ⟨A1, c1, SA2, sc2, SA3, sc3, by rw [HLO2.out, HLO3.out]; exact HM8.out⟩, fun h => absurd rfl h⟩
  · obtain ⟨rfl, hM1⟩ := hnz h0
    have h0' : (E == 0) = false := by simpa using h0
    have HM1 := Lib.hid hM1
    clear hz hnz hM1
    go_wp2_with fail
    have hal := HF1.out.alloc (.cells #[.int .i64 0, .int .i64 0, .int .i64 0, .int .i64 0, .int .i64 0, .int .i64 0, .slice none 0 0, .int .i64 0] 32)
    exact HP.out _ _ ⟨rfl, hal, fun h => absurd h h0, fun _ => HM1.out.fr0 ((Fr.refl _ _).alloc _)⟩
end Go.Proofs.YtldcffonfidbcaaGreatDoor

/- history.own: a step with its own letters; stack.push. -/
namespace Go.Proofs.YtldcffonfidbcaaGreatDoor
open Go.RowKit
set_option maxRecDepth 100000 in
set_option maxHeartbeats 4000000 in
theorem hown_any (M : Nat → Prop) (s : StepM) (B : Option Addr) (b : Nat) (w : World) (hx : Rd M w B (tokC s.l)) (hn : s.l.length ≤ 100000) :
    Calls Tryz.prog 48 #[.agg (s.cells (.slice B s.l.length b)).toArray] w fun e w' => ∃ B' b', e = .returned (.agg (s.cells (.slice B' s.l.length b')).toArray) ∧ Rd (fun k => k < w.heap.size) w' B' (tokC s.l) ∧ s.l.length ≤ b' ∧ Fr Nob w w' := by
  have HX := Lib.hid (hx.mono (M' := Nob) (fun _ h => h.elim))
  clear hx
  obtain ⟨i0, hi, hz0, hz1, hz2⟩ := info_parts infoTok
  obtain ⟨k, f, t, gf, gt, ins, m, x⟩ := s
  simp only [StepM.cells] at *
  have hTL := Lib.hid (tokC_length x)
  go_enter Tryz.func48, Tryz.ntmps48
  go_upto_region 1 with (fail)
  obtain ⟨W, hW⟩ : ∃ W, (w.alloc (.cells #[.int .i64 k, .int .i64 f, .int .i64 t, .int .i64 gf, .int .i64 gt, .int .i64 ins, .slice B x.length b, .int .i64 m] 32)).alloc (.cells #[.int .i64 0, .int .i64 0, .int .i64 0, .int .i64 0, .int .i64 0, .int .i64 0, .slice none 0 0, .int .i64 0] 32) = W := ⟨_, rfl⟩
  have HF := Lib.hid (show Fr Nob w W by rw [← hW]; exact ((Fr.refl _ _).alloc _).alloc _)
  have HS := Lib.hid (show Blk W w.heap.size [.int .i64 k, .int .i64 f, .int .i64 t, .int .i64 gf, .int .i64 gt, .int .i64 ins, .slice B x.length b, .int .i64 m] 32 by rw [← hW]; exact (Blk.new _ _ _).alloc _)
  have HZ := Lib.hid (show Blk W (w.heap.size + 1) [.int .i64 0, .int .i64 0, .int .i64 0, .int .i64 0, .int .i64 0, .int .i64 0, .slice none 0 0, .int .i64 0] 32 by rw [← hW]; exact Blk.new_at (w.alloc _) _ _ (w.heap.size + 1) (by simp))
  rw [hW]
  clear hW
  have HWL := Lib.hid HZ.out.lt
  have HXW := Lib.hid (HX.out.fr HF.out (fun _ _ h => h))
  obtain ⟨d0, d1, d2, d3, d4, d5, d6, d7, dl⟩ := HS.out.c8
  obtain ⟨z0, z1, z2, z3, z4, z5, z6, z7⟩ := HS.out.z8
  go_upto_region 2 with (at_builtin; refine wpList_append_many _ Nob rfl _ _ 22 rfl W.heap.size 40 i0 _ 4 32 Tryz.underlying22 hi hz0 hz1 hz2 rfl (by decide) (.slice none 0 0) 0 [] rfl (World.ownsRow_nil _ _ _ _) B x.length b (tokC x) rfl (by rw [hTL.out]; omega) HXW.out (tokC_one x) (by simp only [maxLen]; omega) (by omega) (Nat.le_refl _) ?_; intro v w9 hown9 hf9; obtain ⟨VA, vc, rfl, hvc, hvr⟩ := doc_of_own hown9; have HVC := Lib.hid hvc; have HVR := Lib.hid hvr; clear hvc hvr; have hf9' := hf9.mono (M' := Nob) (fun k _ e => by cases e); have HS9 := Lib.hid (HS.out.fr hf9' (fun h => h)); have HZ9 := Lib.hid (HZ.out.fr hf9' (fun h => h)); have HF9 := Lib.hid (HF.out.same hf9'); clear hown9 hf9 hf9' d0 d1 d2 d3 d4 d5 d6 d7 dl z0 z1 z2 z3 z4 z5 z6 z7; obtain ⟨d0, d1, d2, d3, d4, d5, d6, d7, dl⟩ := HS9.out.c8; obtain ⟨z0, z1, z2, z3, z4, z5, z6, z7⟩ := HS9.out.z8; clear HF HS HZ HXW)
  obtain ⟨W5, hW5⟩ : ∃ W, w9.setCell ⟨w.heap.size, 6, none⟩ (.slice VA x.length vc) = W := ⟨_, rfl⟩
  have hF95 : Fr (One w.heap.size) w9 W5 := by rw [← hW5]; exact ((Fr.refl (One w.heap.size) w9).setCell (p := ⟨w.heap.size, 6, none⟩) (.inl rfl) _)
  have HS5 := Lib.hid (show Blk W5 w.heap.size [.int .i64 k, .int .i64 f, .int .i64 t, .int .i64 gf, .int .i64 gt, .int .i64 ins, .slice VA x.length vc, .int .i64 m] 32 by rw [← hW5]; exact HS9.out.set 6 _)
  have HZ5 := Lib.hid (HZ9.out.fr hF95 (fun e => by have e' : w.heap.size + 1 = w.heap.size := e; omega))
  have HF5 := Lib.hid (HF9.out.trans hF95 (fun k hk e => by have e' : k = w.heap.size := e; omega))
  have HV5 := Lib.hid (HVR.out.fr hF95 (fun k hk e => by have e' : k = w.heap.size := e; have h2 := HWL.out; show k < _; omega))
  rw [hW5]
  clear hW5 hF95 HS9 HZ9 HF9 HVR d0 d1 d2 d3 d4 d5 d6 d7 dl z0 z1 z2 z3 z4 z5 z6 z7
  obtain ⟨d0, d1, d2, d3, d4, d5, d6, d7, dl⟩ := HS5.out.c8
  obtain ⟨b0, b1, b2, b3, b4, b5, b6, b7, bl⟩ := HZ5.out.c8
  obtain ⟨z0, z1, z2, z3, z4, z5, z6, z7⟩ := HZ5.out.z8
  go_wp2_with fail
  refine ret8m (v := .agg #[.int .i64 k, .int .i64 f, .int .i64 t, .int .i64 gf, .int .i64 gt, .int .i64 ins, .slice VA x.length vc, .int .i64 m]) HZ5.out rfl (fun WE z0 z1 z2 z3 z4 z5 z6 z7 => by simp [results, go_sem, z0, z1, z2, z3, z4, z5, z6, z7]) (fun WE hF => ?_)
  exact ⟨VA, vc, rfl, (HV5.out.fr hF (fun k hk e => by have e' : k = w.heap.size + 1 := e; have h2 := HWL.out; show k < _; omega)).mono (fun k hk => by have h2 := HWL.out; show k < _; omega), HVC.out, HF5.out.trans hF (fun k hk e => by have e' : k = w.heap.size + 1 := e; omega)⟩
end Go.Proofs.YtldcffonfidbcaaGreatDoor

/- History.turn: the top of a stack is done; what undoes it goes on the other one. -/
namespace Go.Proofs.YtldcffonfidbcaaGreatDoor
open Go.RowKit
attribute [local go_sem high] cut_stack
set_option maxRecDepth 100000 in
set_option maxHeartbeats 4000000 in
theorem hundo_any (N : Nat → Prop) (q p : Nat) (rs : List RuleM) (g : List Grp) (hok : SchOk rs g) (A FA TA : Option Addr) (c fc tc lost : Nat) (l : List Tok) (F T : List StepA) (y : StepA) (w : World) (h : HM N w q p rs g ⟨A, c, l, FA, fc, (F ++ [y]), TA, tc, T, lost⟩) (hn : l.length ≤ 100000) (hu : F.length ≤ 99) (ht : T.length ≤ 100) (hx : y.s.l.length ≤ 100000) (hlo : lost ≤ 100000) (hN : ∀ k, N k → k < w.heap.size) :
    Calls Tryz.prog 30 #[.pointer (some ⟨q, 0, none⟩), .pointer (some ⟨q, 2, none⟩), .pointer (some ⟨q, 3, none⟩)] w fun e w' => (Fr (One q) w w' ∧ (doE rs g y.s l = 0 → ∃ A' c' TA' tc' IB ib OB ob, e = .returned (.tuple #[.agg (y.s.cells (.slice OB y.s.l.length ob)).toArray, .int .i64 0]) ∧ Rd N w' OB (tokC y.s.l) ∧ y.s.l.length ≤ ob ∧ HM N w' q p rs g ⟨A', c', (doF y.s l), FA, F.length, F, TA', tc', (T ++ [⟨invS y.s l, IB, ib⟩]), lost⟩) ∧ (doE rs g y.s l ≠ 0 → e = .returned (.tuple #[.agg #[.int .i64 0, .int .i64 0, .int .i64 0, .int .i64 0, .int .i64 0, .int .i64 0, .slice none 0 0, .int .i64 0], .int .i64 9]) ∧ HM N w' q p rs g ⟨A, c, l, FA, F.length, F, TA, tc, T, (lost + 1)⟩)) := by
  have HP := Lib.hid (show ∀ (e : Ending) (w' : World), (Fr (One q) w w' ∧ (doE rs g y.s l = 0 → ∃ A' c' TA' tc' IB ib OB ob, e = .returned (.tuple #[.agg (y.s.cells (.slice OB y.s.l.length ob)).toArray, .int .i64 0]) ∧ Rd N w' OB (tokC y.s.l) ∧ y.s.l.length ≤ ob ∧ HM N w' q p rs g ⟨A', c', (doF y.s l), FA, F.length, F, TA', tc', (T ++ [⟨invS y.s l, IB, ib⟩]), lost⟩) ∧ (doE rs g y.s l ≠ 0 → e = .returned (.tuple #[.agg #[.int .i64 0, .int .i64 0, .int .i64 0, .int .i64 0, .int .i64 0, .int .i64 0, .slice none 0 0, .int .i64 0], .int .i64 9]) ∧ HM N w' q p rs g ⟨A, c, l, FA, F.length, F, TA, tc, T, (lost + 1)⟩)) → (fun e w' => (Fr (One q) w w' ∧ (doE rs g y.s l = 0 → ∃ A' c' TA' tc' IB ib OB ob, e = .returned (.tuple #[.agg (y.s.cells (.slice OB y.s.l.length ob)).toArray, .int .i64 0]) ∧ Rd N w' OB (tokC y.s.l) ∧ y.s.l.length ≤ ob ∧ HM N w' q p rs g ⟨A', c', (doF y.s l), FA, F.length, F, TA', tc', (T ++ [⟨invS y.s l, IB, ib⟩]), lost⟩) ∧ (doE rs g y.s l ≠ 0 → e = .returned (.tuple #[.agg #[.int .i64 0, .int .i64 0, .int .i64 0, .int .i64 0, .int .i64 0, .int .i64 0, .slice none 0 0, .int .i64 0], .int .i64 9]) ∧ HM N w' q p rs g ⟨A, c, l, FA, F.length, F, TA, tc, T, (lost + 1)⟩))) e w' from fun e w' h => h)
  obtain ⟨PO, hPO⟩ : ∃ P, (fun (e : Ending) (w' : World) => (Fr (One q) w w' ∧ (doE rs g y.s l = 0 → ∃ A' c' TA' tc' IB ib OB ob, e = .returned (.tuple #[.agg (y.s.cells (.slice OB y.s.l.length ob)).toArray, .int .i64 0]) ∧ Rd N w' OB (tokC y.s.l) ∧ y.s.l.length ≤ ob ∧ HM N w' q p rs g ⟨A', c', (doF y.s l), FA, F.length, F, TA', tc', (T ++ [⟨invS y.s l, IB, ib⟩]), lost⟩) ∧ (doE rs g y.s l ≠ 0 → e = .returned (.tuple #[.agg #[.int .i64 0, .int .i64 0, .int .i64 0, .int .i64 0, .int .i64 0, .int .i64 0, .slice none 0 0, .int .i64 0], .int .i64 9]) ∧ HM N w' q p rs g ⟨A, c, l, FA, F.length, F, TA, tc, T, (lost + 1)⟩))) = P := ⟨_, rfl⟩
  rw [hPO] at HP ⊢
  obtain ⟨N', hN'⟩ : ∃ N', (fun k => N k ∨ k = w.heap.size) = N' := ⟨_, rfl⟩
  have HNN := Lib.hid hN
  have HNQ := Lib.hid h.mem
  have HNB := Lib.hid (show ∀ k, N' k → k < w.heap.size + 1 from fun k hk => by rw [← hN'] at hk; rcases hk with hk | hk; have := hN k hk; omega; omega)
  have h := h.bound.mono (N' := N') (fun k hk => by rw [← hN'] at hk; rcases hk with hk | hk; exact .inl hk; exact .inr (Nat.le_of_eq hk.symm)) (by rw [← hN']; exact .inl h.mem)
  have HNI := Lib.hid (show N' w.heap.size by rw [← hN']; exact .inr rfl)
  have HNS := Lib.hid (show ∀ k, N k → N' k from fun k hk => by rw [← hN']; exact .inl hk)
  clear hN hN'
  have HH := Lib.hid h
  have HQ := Lib.hid h.blk.lt
  obtain ⟨q0, q1, qu, qr, q4, _, f2, f3, f4, hql⟩ := h.f5
  have hst : Stk N' w FA fc (F ++ [y]) := h.und
  obtain ⟨ad, rfl, hnb, hbl, c0, cj⟩ := Rd.elt StepA.cells_len (by omega) hst.rows.row (show F.length < (F ++ [y]).length by simp)
  have hyy : (F ++ [y])[F.length]'(by simp) = y := by simp
  simp only [hyy] at c0 cj
  clear hyy
  have c1 := cj 0 (by omega)
  have c2 := cj 1 (by omega)
  have c3 := cj 2 (by omega)
  have c4 := cj 3 (by omega)
  have c5 := cj 4 (by omega)
  have c6 := cj 5 (by omega)
  have c7 := cj 6 (by omega)
  clear cj hnb
  have HYR := Lib.hid (hst.rows.each y (by simp))
  have HYB := Lib.hid (hst.rows.cap y (by simp))
  have HSF := Lib.hid (show Stk N' w (some ad) F.length F from ⟨⟨by have h1 := hst.rows.row.take (stepC F).length; simpa [stepC] using h1, fun z hz => hst.rows.each z (by simp [hz]), fun z hz => hst.rows.cap z (by simp [hz])⟩, Nat.le_refl _, fun h => by cases h⟩)
  have HDO := Lib.hid (fun (W : World) (hM : HM N' W q p rs g ⟨A, c, l, (some ad), F.length, F, TA, tc, T, lost⟩) => hdo_any N' q p rs g hok ⟨A, c, l, (some ad), F.length, F, TA, tc, T, lost⟩ y.s y.B y.b W hM)
  simp only [DoPost] at HDO
  simp only at q0 qu qr q4 HDO
  have hap : (F ++ [y]).length = F.length + 1 := by simp
  rw [hap] at qu
  clear h hst hok hap hPO
  obtain ⟨E, hE⟩ : ∃ E, doE rs g y.s l = E := ⟨_, rfl⟩
  obtain ⟨D, hD⟩ : ∃ D, doF y.s l = D := ⟨_, rfl⟩
  obtain ⟨Y, hY⟩ : ∃ Y, invS y.s l = Y := ⟨_, rfl⟩
  simp only [hE, hD, hY] at HDO HP
  clear hE hD hY
  obtain ⟨⟨yk, yf, yt, ygf, ygt, yins, ym, yl⟩, hYY⟩ : ∃ Y', Y = Y' := ⟨_, rfl⟩
  have HYY := Lib.hid hYY
  simp only [hYY] at HDO
  clear hYY
  obtain ⟨yn, hyn⟩ : ∃ n, yl.length = n := ⟨_, rfl⟩
  have HYN := Lib.hid hyn
  obtain ⟨tn, htn⟩ : ∃ n, T.length = n := ⟨_, rfl⟩
  have HTN := Lib.hid htn
  obtain ⟨fn, hfn⟩ : ∃ n, F.length = n := ⟨_, rfl⟩
  have HFN := Lib.hid hfn
  obtain ⟨⟨k, f, t, gf, gt, ins, m, x⟩, B, b⟩ := y
  simp only [StepA.cells, StepM.cells, List.getElem?_cons_zero, List.getElem?_cons_succ, Nat.reduceAdd] at c0 c1 c2 c3 c4 c5 c6 c7 HDO HP HYR HYB hx
  obtain ⟨xn, hxn⟩ : ∃ n, x.length = n := ⟨_, rfl⟩
  have HXN := Lib.hid hxn
  simp only [hfn, htn, hxn, hyn] at c0 c1 c2 c3 c4 c5 c6 c7 HDO HP qu qr hu ht HYB hx HSF
  have HFU := Lib.hid hu
  have HTT := Lib.hid ht
  clear hyn htn hfn hxn
  have hge : ¬ ((fn : Int) < 0) := by omega
  go_enter Tryz.func30, Tryz.ntmps30
  go_upto_region 4 with (fail)
  obtain ⟨W0, hW0⟩ : ∃ W, w.alloc (.cells #[.int .i64 0, .int .i64 0, .int .i64 0, .int .i64 0, .int .i64 0, .int .i64 0, .slice none 0 0, .int .i64 0] 32) = W := ⟨_, rfl⟩
  have HF0 := Lib.hid (show Fr Nob w W0 by rw [← hW0]; exact (Fr.refl _ _).alloc _)
  have HZ0 := Lib.hid (show Blk W0 w.heap.size [.int .i64 0, .int .i64 0, .int .i64 0, .int .i64 0, .int .i64 0, .int .i64 0, .slice none 0 0, .int .i64 0] 32 by rw [← hW0]; exact Blk.new _ _ _)
  rw [hW0]
  clear hW0 q0 qu qr q4 f2 f3 f4 hql
  have hx8 : ∀ (j : Nat) v, w.cell? ⟨(ad.add (fn * 8)).block, (ad.add (fn * 8)).off + j, none⟩ = some v → W0.cell? ⟨(ad.add (fn * 8)).block, (ad.add (fn * 8)).off + j, none⟩ = some v := fun j v h => (HF0.out.cell (by show (ad.add (fn * 8)).block < _; rw [add_block]; exact hbl) (fun h => h)).trans h
  replace c0 := (HF0.out.cell (by rw [add_block]; exact hbl) (fun h => h)).trans c0
  replace c1 := hx8 _ _ c1
  replace c2 := hx8 _ _ c2
  replace c3 := hx8 _ _ c3
  replace c4 := hx8 _ _ c4
  replace c5 := hx8 _ _ c5
  replace c6 := hx8 _ _ c6
  replace c7 := hx8 _ _ c7
  clear hx8
  obtain ⟨q0, _, qu, qr, q4, _, f2, f3, f4, hql⟩ := (HH.out.fr0 HF0.out).f5
  simp only at q0 qu qr q4
  have hap : (F ++ [(⟨⟨k, f, t, gf, gt, ins, m, x⟩, B, b⟩ : StepA)]).length = fn + 1 := by rw [List.length_append, HFN.out]; rfl
  rw [hap] at qu
  rw [HTN.out] at qr
  clear hap
  have hbl0 : (ad.add (fn * 8)).block < W0.heap.size := by rw [add_block]; have := HF0.out.size; omega
  go_upto_region 5 with (fail)
  obtain ⟨sx, hsx⟩ : ∃ n, W0.heap.size = n := ⟨_, rfl⟩
  obtain ⟨Wa, hWa⟩ : ∃ W, W0.alloc (.cells #[.int .i64 k, .int .i64 f, .int .i64 t, .int .i64 gf, .int .i64 gt, .int .i64 ins, .slice B xn b, .int .i64 m] 32) = W := ⟨_, rfl⟩
  have HFa := Lib.hid (show Fr Nob w Wa by rw [← hWa]; exact HF0.out.alloc _)
  have HSa := Lib.hid (show Blk Wa sx [.int .i64 k, .int .i64 f, .int .i64 t, .int .i64 gf, .int .i64 gt, .int .i64 ins, .slice B xn b, .int .i64 m] 32 by rw [← hWa, ← hsx]; exact Blk.new _ _ _)
  have HZa := Lib.hid (show Blk Wa w.heap.size [.int .i64 0, .int .i64 0, .int .i64 0, .int .i64 0, .int .i64 0, .int .i64 0, .slice none 0 0, .int .i64 0] 32 by rw [← hWa]; exact HZ0.out.alloc _)
  have HSX := Lib.hid (show w.heap.size < sx by rw [← hsx]; exact HZ0.out.lt)
  rw [hWa, hsx]
  clear hWa hsx c0 c1 c2 c3 c4 c5 c6 c7 q0 qu qr q4 f2 f3 f4 hql hbl0
  obtain ⟨q0, _, qu, qr, q4, _, f2, f3, f4, hql⟩ := (HH.out.fr0 HFa.out).f5
  simp only at q0 qu qr q4
  have hap : (F ++ [(⟨⟨k, f, t, gf, gt, ins, m, x⟩, B, b⟩ : StepA)]).length = fn + 1 := by rw [List.length_append, HFN.out]; rfl
  rw [hap] at qu
  clear hap
  have hfc : fn ≤ fc := by have h := (HH.out.und).cap; simp only [List.length_append, HFN.out, List.length_singleton] at h; omega
  go_upto_region 6 with (fail)
  obtain ⟨W, hW⟩ : ∃ W, Wa.setCell ⟨q, 2, none⟩ (.slice (some ad) fn fn) = W := ⟨_, rfl⟩
  have HFb := Lib.hid (show Fr (One q) Wa W by rw [← hW]; exact (Fr.refl (One q) Wa).setCell (p := ⟨q, 2, none⟩) (.inl rfl) _)
  have HMW := Lib.hid (show HM N' W q p rs g ⟨A, c, l, (some ad), fn, F, TA, tc, T, lost⟩ from by
    have hm := HH.out.fr0 HFa.out
    refine ⟨?_, hm.mem, hm.sch.fr HFb.out (hm.one _), hm.doc.fr HFb.out (hm.one _), hm.cap, HSF.out.fr ((HFa.out.any).same HFb.out) (hm.one _), hm.red.fr HFb.out (hm.one _)⟩
    have h1 := hm.blk.set 2 (.slice (some ad) fn fn)
    rw [hW] at h1
    simpa [HX.cells, HFN.out] using h1)
  have HS := Lib.hid (HSa.out.fr HFb.out (fun e => by have e' : sx = q := e; have := HQ.out; have := HSX.out; omega))
  have HZ := Lib.hid (HZa.out.fr HFb.out (fun e => by have e' : w.heap.size = q := e; have := HQ.out; omega))
  have HFW := Lib.hid (show Fr (One q) w W from (HFa.out.any).same HFb.out)
  replace HYR := Lib.hid (HYR.out.fr HFW.out (HMW.out.one _))
  rw [hW]
  clear hW HFa HFb HSa HZa q0 qu qr q4 f2 f3 f4 hql hfc
  obtain ⟨d0, d1, d2, d3, d4, d5, d6, d7, dl⟩ := HS.out.c8
  go_wp2_with fail
  refine (HDO.out W HMW.out HYR.out HYB.out hn (fun k hk => by have h1 := HNB.out k hk; have h2 := HZ.out.lt; omega)).mono ?_
  clear d0 d1 d2 d3 d4 d5 d6 d7 dl
  rintro e w1 ⟨hz, hnz, hF1⟩
  have HF1q := Lib.hid hF1
  clear hF1
  by_cases h0 : E = 0
  · obtain ⟨IB, ib, A1, c1, rfl, hM1, hI, hib⟩ := hz h0
    subst h0
    clear hz hnz
    have HM1 := Lib.hid hM1
    have HPU := Lib.hid (fun (W : World) (hF : Fr Nob w1 W) => push_any N' TA tc T ⟨⟨yk, yf, yt, ygf, ygt, yins, ym, yl⟩, IB, ib⟩ 0 W ((hM1.fr0 hF).red) (hI.fr hF (fun _ _ h => h.elim)) (by rw [HYN.out]; exact hib) (.inl rfl) (by omega) (by rw [HTN.out]; omega) (fun k hk => by have h1 := HNB.out k hk; have h2 := HZ.out.lt; have h3 := HF1q.out.size; have h4 := hF.size; omega))
    simp only [StepA.cells, StepM.cells, HTN.out, HYN.out] at HPU
    clear hM1 hI hib
    go_upto_region 10 with (fail)
    obtain ⟨r, hr⟩ : ∃ r, w1.heap.size = r := ⟨_, rfl⟩
    obtain ⟨W2, hW2⟩ : ∃ W, w1.alloc (.cells #[.int .i64 yk, .int .i64 yf, .int .i64 yt, .int .i64 ygf, .int .i64 ygt, .int .i64 yins, .slice IB yn ib, .int .i64 ym] 32) = W := ⟨_, rfl⟩
    have HF2 := Lib.hid (show Fr Nob w1 W2 by rw [← hW2]; exact (Fr.refl _ _).alloc _)
    have HR2 := Lib.hid (show Blk W2 r [.int .i64 yk, .int .i64 yf, .int .i64 yt, .int .i64 ygf, .int .i64 ygt, .int .i64 yins, .slice IB yn ib, .int .i64 ym] 32 by rw [← hW2, ← hr]; exact Blk.new _ _ _)
    rw [hr, hW2]
    clear hr hW2
    have HQB := Lib.hid ((HM1.out.fr0 HF2.out).blk)
    have KS := Lib.hid (show ∀ W' : World, Fr Nob W2 W' → (W'.cell? ⟨q, 3, none⟩ = some (.slice TA tn tc) ∧ W'.cell? ⟨r, 0, none⟩ = some (.int .i64 yk) ∧ W'.cell? ⟨r, 1, none⟩ = some (.int .i64 yf) ∧ W'.cell? ⟨r, 2, none⟩ = some (.int .i64 yt) ∧ W'.cell? ⟨r, 3, none⟩ = some (.int .i64 ygf) ∧ W'.cell? ⟨r, 4, none⟩ = some (.int .i64 ygt) ∧ W'.cell? ⟨r, 5, none⟩ = some (.int .i64 yins) ∧ W'.cell? ⟨r, 6, none⟩ = some (.slice IB yn ib) ∧ W'.cell? ⟨r, 7, none⟩ = some (.int .i64 ym)) from fun W' hF' => by
      have h := HR2.out.fr hF' (fun h => h)
      have hq := (HM1.out.fr0 (HF2.out.same hF')).f5
      simp only [HTN.out] at hq
      exact ⟨hq.2.2.2.1, h.cell 0, h.cell 1, h.cell 2, h.cell 3, h.cell 4, h.cell 5, h.cell 6, h.cell 7⟩)
    refine wp_region_G 7 (S := fun W' : World => W'.cell? ⟨q, 3, none⟩ = some (.slice TA tn tc) ∧ W'.cell? ⟨r, 0, none⟩ = some (.int .i64 yk) ∧ W'.cell? ⟨r, 1, none⟩ = some (.int .i64 yf) ∧ W'.cell? ⟨r, 2, none⟩ = some (.int .i64 yt) ∧ W'.cell? ⟨r, 3, none⟩ = some (.int .i64 ygf) ∧ W'.cell? ⟨r, 4, none⟩ = some (.int .i64 ygt) ∧ W'.cell? ⟨r, 5, none⟩ = some (.int .i64 yins) ∧ W'.cell? ⟨r, 6, none⟩ = some (.slice IB yn ib) ∧ W'.cell? ⟨r, 7, none⟩ = some (.int .i64 ym)) (by kernel_rfl) ?_
    have HFD := Lib.hid ((Fr.refl Nob W2).drew)
    generalize W2.drew = wd at HFD ⊢
    have HSD := Lib.hid (KS.out wd HFD.out)
    refine take_g (i := 0) (v := .pointer (some ⟨q, 3, none⟩)) rfl HSD.out ?_
    refine take_g (i := 1) (v := .pointer (some ⟨q, 3, none⟩)) rfl HSD.out ?_
    refine take_g (i := 4) (v := .agg #[.int .i64 yk, .int .i64 yf, .int .i64 yt, .int .i64 ygf, .int .i64 ygt, .int .i64 yins, .slice IB yn ib, .int .i64 ym]) rfl HSD.out ?_
    refine take_g (i := 2) (v := .pointer (some ⟨q, 3, none⟩)) rfl HSD.out ?_
    refine take_g (i := 3) (v := .slice TA tn tc) rfl HSD.out ?_
    refine readyG1 5 rfl (fun K hK => ?_)
    go_simp
    refine (HPU.out wd (HF2.out.same HFD.out)).mono ?_
    rintro e w3 ⟨TA2, tc2, rfl, hst, hF3⟩
    have HST := Lib.hid hst
    have HF3 := Lib.hid (HFD.out.same hF3)
    clear hst hF3
    go_wp2_with fail
    refine hK.out _ _ (fun _ => (KS.out _ HF3.out)) ?_
    clear hK K
    refine take_g (i := 6) (v := .pointer (some ⟨q, 3, none⟩)) rfl (KS.out _ HF3.out) ?_
    refine readyG1 7 rfl (fun K hK => ?_)
    have HB3 := Lib.hid (HQB.out.fr HF3.out (fun h => h))
    have f1 := HB3.out.frozen 3
    have f2 := HB3.out.cell 3
    have f3 := HB3.out.lt
    simp only [HX.cells, List.getElem?_cons_zero, List.getElem?_cons_succ] at f2
    go_simp
    clear f1 f2 f3
    obtain ⟨w4, hw4⟩ : ∃ W, w3.setCell ⟨q, 3, none⟩ (.slice TA2 (tn + 1) tc2) = W := ⟨_, rfl⟩
    have HB4 := Lib.hid (show Blk w4 q _ _ from by rw [← hw4]; exact HB3.out.set 3 (.slice TA2 (tn + 1) tc2))
    have HF4 := Lib.hid (show Fr (One q) w3 w4 by rw [← hw4]; exact (Fr.refl (One q) w3).setCell (p := ⟨q, 3, none⟩) (.inl rfl) _)
    rw [hw4]
    clear hw4
    refine hK.out _ _ (late (by kernel_rfl)) ?_
    clear hK K
    refine doneG_by ?_
    have hm := HM1.out.fr0 (HF2.out.same HF3.out)
    have HFQ := Lib.hid ((HF1q.out.same (HF2.out.same HF3.out).any).same HF4.out)
    have HM4 := Lib.hid (show HM N' w4 q p rs g ⟨A1, c1, D, (some ad), fn, F, TA2, tc2, (T ++ [⟨⟨yk, yf, yt, ygf, ygt, yins, ym, yl⟩, IB, ib⟩]), lost⟩ from ⟨by have h1 := HB4.out; simpa [HX.cells, HTN.out] using h1, hm.mem, hm.sch.fr HF4.out (hm.one _), hm.doc.fr HF4.out (hm.one _), hm.cap, hm.und.fr HF4.out (hm.one _), HST.out.fr HF4.out (hm.one _)⟩)
    clear hm
    have HS4 := Lib.hid (HS.out.fr HFQ.out (fun e => by have e' : sx = q := e; have := HQ.out; have := HSX.out; omega))
    have HZ4 := Lib.hid (HZ.out.fr HFQ.out (fun e => by have e' : w.heap.size = q := e; have := HQ.out; omega))
    obtain ⟨d0, d1, d2, d3, d4, d5, d6, d7, dl⟩ := HS4.out.c8
    go_wp2_with fail
    have how := hown_any N' ⟨k, f, t, gf, gt, ins, m, x⟩ B b w4 ((HYR.out.fr HFQ.out (fun k _ e => by have e' : k = q := e; rw [e']; exact HM4.out.mem))) (by have := HXN.out; simp only; omega)
    simp only [StepM.cells, HXN.out] at how
    refine how.mono ?_
    clear how d0 d1 d2 d3 d4 d5 d6 d7 dl
    rintro e w5 ⟨OB, ob, rfl, hO, hob, hF5⟩
    have HO := Lib.hid hO
    have HOB := Lib.hid hob
    have HF5 := Lib.hid hF5
    have HZ5 := Lib.hid (HZ4.out.fr hF5 (fun h => h))
    clear hO hob hF5
    obtain ⟨b0, b1, b2, b3, b4, b5, b6, b7, bl⟩ := HZ5.out.c8
    obtain ⟨z0, z1, z2, z3, z4, z5, z6, z7⟩ := HZ5.out.z8
    go_wp2_with fail
    refine ret8m (v := .tuple #[.agg #[.int .i64 k, .int .i64 f, .int .i64 t, .int .i64 gf, .int .i64 gt, .int .i64 ins, .slice OB xn ob, .int .i64 m], .int .i64 0]) HZ5.out rfl (fun WE z0 z1 z2 z3 z4 z5 z6 z7 => by simp [results, go_sem, z0, z1, z2, z3, z4, z5, z6, z7]) (fun WE hFE => ?_)
    have hq := HQ.out
    have hw4 := HFW.out.size
    have hw5 := HFQ.out.size
    have hfE : Fr (One w.heap.size) w4 WE := (HF5.out.any).same hFE
    have hfin : Fr (One q) w WE := (HFW.out.same (HFQ.out.same HF5.out.any)).trans hFE (fun k hk e => by have e' : k = w.heap.size := e; omega)
    refine HP.out _ _ ⟨hfin, fun _ => ⟨A1, c1, TA2, tc2, IB, ib, OB, ob, rfl, ?_, HOB.out, ?_⟩, fun h => absurd rfl h⟩
    · exact (HO.out.fr hFE (fun k hk e => by have e' : k = w.heap.size := e; have := HZ4.out.lt; show k < _; omega)).mono (fun k e => by have e' := HNN.out k e; show k < _; omega)
    · have h1 := (HM4.out.fr hfE (fun k _ e => by have e' : k = w.heap.size := e; rw [e']; exact HNI.out) (fun e => by have e' : q = w.heap.size := e; omega)).mono (N' := N) HNS.out HNQ.out
      rw [HYY.out]
      exact h1
  · obtain ⟨rfl, hM1⟩ := hnz h0
    have h0' : (E == 0) = false := by simpa using h0
    have HM1 := Lib.hid hM1
    clear hz hnz hM1
    have HZ1 := Lib.hid (HZ.out.fr HF1q.out (fun e => by have e' : w.heap.size = q := e; have := HQ.out; omega))
    obtain ⟨q0, _, _, _, q4, _, f2, f3, f4, hql⟩ := HM1.out.f5
    simp only at q4
    go_upto_region 9 with (fail)
    obtain ⟨w8, hw8⟩ : ∃ W, w1.setCell ⟨q, 4, none⟩ (.int .i64 ((lost : Int) + 1)) = W := ⟨_, rfl⟩
    obtain ⟨w9, hw9⟩ : ∃ W, w8.alloc (.cells #[.int .i64 0, .int .i64 0, .int .i64 0, .int .i64 0, .int .i64 0, .int .i64 0, .slice none 0 0, .int .i64 0] 32) = W := ⟨_, rfl⟩
    have HF8 := Lib.hid (show Fr (One q) w1 w8 by rw [← hw8]; exact (Fr.refl (One q) w1).setCell (p := ⟨q, 4, none⟩) (.inl rfl) _)
    have HF9 := Lib.hid (show Fr Nob w8 w9 by rw [← hw9]; exact (Fr.refl _ _).alloc _)
    have HM9 := Lib.hid (show HM N' w9 q p rs g ⟨A, c, l, (some ad), fn, F, TA, tc, T, (lost + 1)⟩ from by
      refine HM.fr0 ⟨?_, HM1.out.mem, HM1.out.sch.fr HF8.out (HM1.out.one _), HM1.out.doc.fr HF8.out (HM1.out.one _), HM1.out.cap, HM1.out.und.fr HF8.out (HM1.out.one _), HM1.out.red.fr HF8.out (HM1.out.one _)⟩ HF9.out
      rw [← hw8]
      exact HM1.out.blk.set 4 _)
    have HZ9 := Lib.hid (HZ1.out.fr (HF8.out.none HF9.out) (fun e => by have e' : w.heap.size = q := e; have := HQ.out; omega))
    rw [hw8, hw9]
    clear hw8 hw9 q0 q4 f2 f3 f4 hql
    obtain ⟨b0, b1, b2, b3, b4, b5, b6, b7, bl⟩ := HZ9.out.c8
    obtain ⟨z0, z1, z2, z3, z4, z5, z6, z7⟩ := HZ9.out.z8
    go_wp2_with fail
    refine ret8m (v := .tuple #[.agg #[.int .i64 0, .int .i64 0, .int .i64 0, .int .i64 0, .int .i64 0, .int .i64 0, .slice none 0 0, .int .i64 0], .int .i64 9]) HZ9.out rfl (fun WE z0 z1 z2 z3 z4 z5 z6 z7 => by simp [results, go_sem, z0, z1, z2, z3, z4, z5, z6, z7]) (fun WE hFE => ?_)
    have hq := HQ.out
    refine HP.out _ _ ⟨(HFW.out.same (HF1q.out.same (HF8.out.none HF9.out))).trans hFE (fun k hk e => by have e' : k = w.heap.size := e; omega), fun h => absurd h h0, fun _ => ⟨rfl, (HM9.out.fr hFE (fun k _ e => by have e' : k = w.heap.size := e; rw [e']; exact HNI.out) (fun e => by have e' : q = w.heap.size := e; omega)).mono HNS.out HNQ.out⟩⟩
end Go.Proofs.YtldcffonfidbcaaGreatDoor
