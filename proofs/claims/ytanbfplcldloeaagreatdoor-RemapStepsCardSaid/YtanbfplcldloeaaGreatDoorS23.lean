/- A part of the proof for chapter 10: RefMapW; no conditions. -/
import Derived.Test.YtanbfplcldloeaaGreatDoorS22
import Derived.Test.YtanbfplcldloeaaGreatDoorS19
/- Chapter 8, the reference: a place through a map. -/
namespace Go.Proofs.YtanbfplcldloeaaGreatDoor
open Go.RowKit
theorem store4r {W : World} {g : Nat} {t : TypeId} {x0 x1 x2 x3 : Value} (hg : Blk W g [x0, x1, x2, x3] t) (a b c d : Value) :
    ∀ WE, (((W.setCell ⟨g, 0, none⟩ a).setCell ⟨g, 1, none⟩ b).setCell ⟨g, 2, none⟩ c).setCell ⟨g, 3, none⟩ d = WE →
      Blk WE g [a, b, c, d] t ∧ ∀ (M : Nat → Prop) (w0 : World), Fr M w0 W → (M g ∨ w0.heap.size ≤ g) → Fr M w0 WE := by
  rintro WE rfl
  exact ⟨(((hg.set 0 a).set 1 b).set 2 c).set 3 d, fun M w0 hF h1 => (((hF.setCell (p := ⟨g, 0, none⟩) h1 a).setCell (p := ⟨g, 1, none⟩) h1 b).setCell (p := ⟨g, 2, none⟩) h1 c).setCell (p := ⟨g, 3, none⟩) h1 d⟩
theorem refHit_R {xs : List Rng} {p side : Int} (hx : rightP xs = true) (hp : ¬ (p < 0 ∨ 65536 < p)) {R : Spot × Int} (hR : posmapF xs p side = R) : (refMapF xs p side, 0) = R := by
  rw [← hR, posmapF, if_neg hp, refMap_eq p side hx]
set_option maxRecDepth 100000 in
set_option maxHeartbeats 8000000 in
theorem ref8map_any (M : Nat → Prop) (xs : List Rng) (A : Option Addr) (c : Nat) (p side : Int) (w : World) (hr : Rd M w A (rngC xs)) (hx : rightP xs = true) :
    Calls Tryz.prog 62 #[.slice A xs.length c, .int .i64 p, .int .i64 side] w fun e w' => e = .returned (.tuple #[.agg (posmapF xs p side).1.cells.toArray, .int .i64 (posmapF xs p side).2]) ∧ Fr Nob w w' := by
  obtain ⟨R, hR⟩ : ∃ R, posmapF xs p side = R := ⟨_, rfl⟩
  have HR := Lib.hid hR
  rw [hR]
  have HRd := Lib.hid hr
  have HX := Lib.hid hx
  have HOK := Lib.hid (rightP_ok hx)
  clear hR hr hx
  go_enter Tryz.func62, Tryz.ntmps62
  go_upto_region 1 with (fail)
  obtain ⟨W, hW⟩ : ∃ W, w.alloc (.cells #[.int .i64 0, .bool false, .int .i64 0, .int .i64 0] 80) = W := ⟨_, rfl⟩
  have HF := Lib.hid (show Fr Nob w W by rw [← hW]; exact (Fr.refl _ _).alloc _)
  have HB6 := Lib.hid (show Blk W w.heap.size [.int .i64 0, .bool false, .int .i64 0, .int .i64 0] 80 by rw [← hW]; exact Blk.new _ _ _)
  rw [hW]
  clear hW
  go_wp2_with fail
  refine (ref8right_any M xs A c W (HRd.out.fr HF.out (fun _ _ h => h.elim))).mono ?_
  rintro e w1 ⟨rfl, hF1⟩
  rw [HX.out]
  have HF1 := Lib.hid (HF.out.same hF1)
  have HB1 := Lib.hid (HB6.out.fr hF1 (fun h => h))
  clear hF1 HF HB6
  by_cases hbad : p < 0 ∨ 65536 < p
  · have HRR := Lib.hid (show ((⟨0, false, 0, 0⟩ : Spot), (1 : Int)) = R by rw [← HR.out, posmapF, if_pos hbad])
    obtain ⟨c0, c1, c2, c3, f0, f1, f2, f3, l6⟩ := HB1.out.f4
    by_cases b1 : p < 0
    · go_wp2_with fail
      exact ret4 (v := .tuple #[.agg #[.int .i64 0, .bool false, .int .i64 0, .int .i64 0], .int .i64 1]) HB1.out HF1.out (Nat.le_refl _) rfl (fun WE p0 p1 p2 p3 => by simp [results, go_sem, p0, p1, p2, p3]) (fun WE hF => ⟨by rw [← HRR.out]; rfl, hF⟩)
    · have b2 : 65536 < p := by omega
      go_wp2_with fail
      exact ret4 (v := .tuple #[.agg #[.int .i64 0, .bool false, .int .i64 0, .int .i64 0], .int .i64 1]) HB1.out HF1.out (Nat.le_refl _) rfl (fun WE p0 p1 p2 p3 => by simp [results, go_sem, p0, p1, p2, p3]) (fun WE hF => ⟨by rw [← HRR.out]; rfl, hF⟩)
  · have b1 : ¬ p < 0 := by omega
    have b2 : ¬ 65536 < p := by omega
    have HRR := Lib.hid (refHit_R HX.out hbad HR.out)
    clear hbad
    obtain ⟨hit, hhit⟩ : ∃ s, refHit xs p side 0 xs = s := ⟨_, rfl⟩
    have HH0 := Lib.hid hhit
    have hrr := HRR.out
    rw [refMapF, hhit] at hrr
    have HRX := Lib.hid hrr
    clear hrr hhit HRR
    have hp0 : 0 ≤ p := by omega
    have hp1 : p ≤ 65536 := by omega
    go_wp2_with fail
    have HP := Lib.hid (And.intro hp0 hp1)
    clear hp0 hp1 b1 b2
    go_loopg [8] (xs.length) (fun n s8 wr => ∃ k : Nat, n = xs.length - k ∧ k ≤ xs.length ∧ s8 = .int .i64 k ∧ Hid (Fr Nob w wr) ∧ Hid (Blk wr w.heap.size [.int .i64 0, .bool false, .int .i64 0, .int .i64 0] 80) ∧ Hid (refHit xs p side k (xs.drop k) = hit))
    case atStart => exact ⟨0, rfl, Nat.zero_le _, rfl, HF1.out, HB1.out, HH0.out⟩
    case round =>
      obtain ⟨k, rfl, hk, rfl, HFr, HBr, HHk⟩ := hrel
      have h4 := HOK.out.1
      by_cases hlt : k < xs.length
      · have ht : ((k : Int) < (xs.length : Int)) := by omega
        obtain ⟨ad, hAd, _, hlb, q0', q'⟩ := Rd.elt Rng.cells_len (by omega) (HRd.out.fr HFr.out (fun _ _ h => h.elim)) hlt
        subst hAd
        have ho := HOK.out.2 xs[k] (List.getElem_mem _)
        have hd := dF_bound xs HOK.out.2 k (by omega)
        have hdr : xs.drop k = xs[k] :: xs.drop (k + 1) := List.drop_eq_getElem_cons hlt
        have hHk := HHk.out
        rw [hdr] at hHk
        generalize xs[k] = x at q0' q' ho hdr hHk
        have q1 := q' 0 (by omega)
        have q2 := q' 1 (by omega)
        simp only [Rng.cells, List.getElem?_cons_zero, List.getElem?_cons_succ, Nat.reduceAdd] at q0' q1 q2
        rw [refHit] at hHk
        have HHk := Lib.hid hHk
        obtain ⟨⟨ha0, ha1⟩, ⟨ho0, ho1⟩, hn0, hn1⟩ : (0 ≤ x.a ∧ x.a ≤ 65536) ∧ (0 ≤ x.o ∧ x.o ≤ 65536) ∧ 0 ≤ x.n ∧ x.n ≤ 65536 := by unfold okR at ho; omega
        obtain ⟨hp0, hp1⟩ := HP.out
        clear q' hdr hHk ho
        go_upto_region 9 with (fail)
        obtain ⟨wx, hwx⟩ : ∃ W, wr.alloc (.cells #[.int .i64 x.a, .int .i64 x.o, .int .i64 x.n] 135) = W := ⟨_, rfl⟩
        obtain ⟨B, hB⟩ : ∃ B, wr.heap.size = B := ⟨_, rfl⟩
        have HFrx := Lib.hid (show Fr Nob wr wx by rw [← hwx]; exact (Fr.refl _ _).alloc _)
        have HBx := Lib.hid (show Blk wx B [.int .i64 x.a, .int .i64 x.o, .int .i64 x.n] 135 by rw [← hwx, ← hB]; exact Blk.new _ _ _)
        have HFx := Lib.hid (HFr.out.same HFrx.out)
        have HXx := Lib.hid (HBr.out.fr HFrx.out (fun h => h))
        rw [hwx, hB]
        clear hwx hB q0' q1 q2
        obtain ⟨d0, d1, d2, dl⟩ := HBx.out.f3
        by_cases hps : p < x.a ∨ x.a + x.o < p
        · have hHk := HHk.out
          rw [if_pos hps] at hHk
          have HHn := Lib.hid hHk
          clear hHk HHk
          have HGO := Lib.hid (show True from trivial)
          by_cases hp2 : p < x.a
          · clear hps
            go_wp2_with fail
            go_roundg (xs.length - (k + 1))
            case measure => omega
            case rel => exact ⟨k + 1, rfl, by omega, by first | rfl | go_num, HFx.out, HXx.out, HHn.out⟩
          · have hp3 : x.a + x.o < p := by omega
            clear hps
            go_wp2_with fail
            go_roundg (xs.length - (k + 1))
            case measure => omega
            case rel => exact ⟨k + 1, rfl, by omega, by first | rfl | go_num, HFx.out, HXx.out, HHn.out⟩
        · have hHk := HHk.out
          rw [if_neg hps] at hHk
          subst hHk
          have hrx := HRX.out
          simp only at hrx
          obtain ⟨D, hD⟩ : ∃ D, dF xs k = D := ⟨_, rfl⟩
          have HD := Lib.hid hD
          rw [hD] at hd
          have HRX2 := Lib.hid hrx
          have hk4 : (k : Int) ≤ 3 := by omega
          have hd0 : -262144 ≤ D := by omega
          have hd1 : D ≤ 262144 := by omega
          clear hrx hD HHk HRX HH0 hd
          have KS : Hid (∀ W' : World, Fr Nob wx W' → W'.cell? ⟨B, 0, none⟩ = some (.int .i64 x.a)) := fun W' hF' => (HBx.out.fr hF' (fun h => h)).cell 0
          have KC : Hid (∀ W' : World, Fr Nob wx W' → Calls Tryz.prog 78 #[.slice (some ad) xs.length c, .int .i64 k] W' fun e w' => e = .returned (.int .i64 D) ∧ Fr Nob W' w') := fun W' hF' => by
            refine (shift_any M xs (some ad) c k W' (HRd.out.fr (HFx.out.same hF') (fun _ _ h => h.elim)) HOK.out.2 HOK.out.1 (by omega)).mono ?_
            rintro e w' ⟨rfl, m, rfl⟩
            rw [HD.out]
            exact ⟨rfl, (Fr.refl _ _).drewN m⟩
          by_cases hposz : x.o = 0
          · have hpos := True.intro
            have b1 : (p == x.a) = true := by simp; omega
            have b2 : (p == x.a + x.o) = true := by simp; omega
            have b3 : ¬ x.a < p := by omega
            have b4 : ¬ p < x.a + x.o := by omega
            have b5 : ¬ 0 < x.o := by omega
            have b6 : ¬ p < x.a := by omega
            have b7 : ¬ x.a + x.o < p := by omega
            have HPOS := Lib.hid (show x.o = 0 ∧ p = x.a by omega)
            clear hps hpos hposz
            go_upto_region 16 with (fail)
            go_cut [12] (fun s12 wy => ∃ T, s12 = .pointer (some ⟨T, 0, none⟩) ∧ Hid (Fr Nob wx wy) ∧ Hid (Blk wy T [.int .i64 (x.a + D), .bool false, .int .i64 k, .int .i64 (p - x.a)] 80) ∧ Hid (wx.heap.size ≤ T))
            case first =>
              have wk1 : IntKind.i64.wrap (p - x.a) = p - x.a := by rw [IntKind.wrap_i64]; omega
              have wk2 : IntKind.i64.wrap (x.a + D) = x.a + D := by rw [IntKind.wrap_i64]; omega
              refine wp_region_held_drew (S := fun W' : World => W'.cell? ⟨B, 0, none⟩ = some (.int .i64 x.a)) (by kernel_rfl) (KS.out _ (Fr.refl _ _).drew) (fun _ => ?_)
              have HFD := Lib.hid ((Fr.refl Nob wx).drew)
              clear d0 d1 d2 dl
              generalize wx.drew = wd at HFD ⊢
              have HSD := Lib.hid (KS.out wd HFD.out)
              refine take_by (i := 0) (v := .pointer (some ⟨B, 0, none⟩)) rfl HSD.out ?_
              refine take_by (i := 1) (v := .int .i64 x.a) rfl HSD.out ?_
              refine take_by (i := 2) (v := .slice (some ad) xs.length c) rfl HSD.out ?_
              refine take_by (i := 3) (v := .int .i64 k) rfl HSD.out ?_
              refine take_by (i := 6) (v := .int .i64 p) rfl HSD.out ?_
              refine take_by (i := 7) (v := .pointer (some ⟨B, 0, none⟩)) rfl HSD.out ?_
              refine take_by (i := 8) (v := .int .i64 x.a) rfl HSD.out ?_
              refine take_by (i := 9) (v := .bool false) rfl HSD.out ?_
              refine take_by (i := 15) (v := .int .i64 k) rfl HSD.out ?_
              refine take_by (i := 16) (v := .int .i64 p) rfl HSD.out ?_
              refine take_by (i := 17) (v := .pointer (some ⟨B, 0, none⟩)) rfl HSD.out ?_
              refine take_by (i := 18) (v := .int .i64 x.a) rfl HSD.out ?_
              refine take_by (i := 19) (v := .int .i64 (p - x.a)) rfl HSD.out ?_
              try simp only [List.getElem_toArray, List.getElem_cons_succ, List.getElem_cons_zero, Act.put, List.setIfInBounds_toArray, List.set_cons_zero, List.set_cons_succ]
              refine wpAnyH_ready (rs := [4, 21]) (by kernel_rfl) (by simp) (AllReadyH.cons (o := _) rfl (fun K hK => ?_) (AllReadyH.cons (o := _) rfl (fun K hK => ?_) AllReadyH.nil))
              · go_simp
                refine (KC.out _ HFD.out).mono ?_
                rintro e w7 ⟨rfl, hF7⟩
                have HF7 := Lib.hid (HFD.out.same hF7)
                clear hF7
                go_wp2_with fail
                refine hK.out _ _ (KS.out _ HF7.out) (fun _ => ?_)
                clear hK K
                try simp only [List.getElem_toArray, List.getElem_cons_succ, List.getElem_cons_zero, Act.put, List.setIfInBounds_toArray, List.set_cons_zero, List.set_cons_succ]
                refine take_by (i := 5) (v := .int .i64 (x.a + D)) rfl (KS.out _ HF7.out) ?_
                refine take_by (i := 10) (v := .bool false) rfl (KS.out _ HF7.out) ?_
                refine skip_by (i := 11) rfl (KS.out _ HF7.out) ?_
                refine skip_by (i := 12) rfl (KS.out _ HF7.out) ?_
                refine skip_by (i := 13) rfl (KS.out _ HF7.out) ?_
                refine take_by (i := 14) (v := .bool false) rfl (KS.out _ HF7.out) ?_
                refine take_by (i := 20) (v := .agg #[.int .i64 (x.a + D), .bool false, .int .i64 k, .int .i64 (p - x.a)]) rfl (KS.out _ HF7.out) ?_
                try simp only [List.getElem_toArray, List.getElem_cons_succ, List.getElem_cons_zero, Act.put, List.setIfInBounds_toArray, List.set_cons_zero, List.set_cons_succ]
                refine wpAnyH_ready (rs := [21]) (by kernel_rfl) (by simp) (AllReadyH.cons (o := _) rfl (fun K hK => ?_) AllReadyH.nil)
                go_simp
                refine hK.out _ _ (KS.out _ (HF7.out.alloc _)) (fun _ => ?_)
                clear hK K
                try simp only [List.getElem_toArray, List.getElem_cons_succ, List.getElem_cons_zero, Act.put, List.setIfInBounds_toArray, List.set_cons_zero, List.set_cons_succ]
                have HT7 := Lib.hid (Blk.new w7 [.int .i64 0, .bool false, .int .i64 0, .int .i64 0] 80)
                have HF8 := Lib.hid (HF7.out.alloc (.cells #[.int .i64 0, .bool false, .int .i64 0, .int .i64 0] 80))
                have HL7 := Lib.hid HF7.out.size
                generalize w7.alloc (.cells #[.int .i64 0, .bool false, .int .i64 0, .int .i64 0] 80) = w8 at HT7 HF8 ⊢
                try simp only [List.getElem_toArray, List.getElem_cons_succ, List.getElem_cons_zero, Act.put, List.setIfInBounds_toArray, List.set_cons_zero, List.set_cons_succ]
                obtain ⟨t0, t1, t2, t3, g0, g1, g2, g3, lt⟩ := HT7.out.f4
                refine wpAnyH_ready (rs := [22]) (by kernel_rfl) (by simp) (AllReadyH.cons (o := _) rfl (fun K hK => ?_) AllReadyH.nil)
                go_simp
                obtain ⟨hs, hfs⟩ := store4r HT7.out (.int .i64 (x.a + D)) (.bool false) (.int .i64 k) (.int .i64 (p - x.a)) _ rfl
                have HFT := Lib.hid (hfs _ _ HF8.out (.inr HL7.out))
                have HTT := Lib.hid hs
                clear hs hfs t0 t1 t2 t3 g0 g1 g2 g3
                refine hK.out _ _ (KS.out _ HFT.out) (fun _ => ?_)
                clear hK K
                refine wpAnyH_done (by kernel_rfl) ?_ _
                go_wp2_with (fail)
                go_meet
                exact ⟨_, rfl, HFT.out, HTT.out, HL7.out⟩
              · go_simp
                refine hK.out _ _ (KS.out _ (HFD.out.alloc _)) (fun _ => ?_)
                clear hK K
                try simp only [List.getElem_toArray, List.getElem_cons_succ, List.getElem_cons_zero, Act.put, List.setIfInBounds_toArray, List.set_cons_zero, List.set_cons_succ]
                have HT7 := Lib.hid (Blk.new wd [.int .i64 0, .bool false, .int .i64 0, .int .i64 0] 80)
                have HF8 := Lib.hid (HFD.out.alloc (.cells #[.int .i64 0, .bool false, .int .i64 0, .int .i64 0] 80))
                have HL7 := Lib.hid HFD.out.size
                generalize wd.alloc (.cells #[.int .i64 0, .bool false, .int .i64 0, .int .i64 0] 80) = w8 at HT7 HF8 ⊢
                refine wpAnyH_ready (rs := [4]) (by kernel_rfl) (by simp) (AllReadyH.cons (o := _) rfl (fun K hK => ?_) AllReadyH.nil)
                go_simp
                refine (KC.out _ HF8.out).mono ?_
                rintro e w9 ⟨rfl, hF9⟩
                have HF9 := Lib.hid (HF8.out.same hF9)
                have HT9 := Lib.hid (HT7.out.fr hF9 (fun h => h))
                clear hF9 HF8 HT7
                go_wp2_with fail
                refine hK.out _ _ (KS.out _ HF9.out) (fun _ => ?_)
                clear hK K
                try simp only [List.getElem_toArray, List.getElem_cons_succ, List.getElem_cons_zero, Act.put, List.setIfInBounds_toArray, List.set_cons_zero, List.set_cons_succ]
                refine take_by (i := 5) (v := .int .i64 (x.a + D)) rfl (KS.out _ HF9.out) ?_
                refine take_by (i := 10) (v := .bool false) rfl (KS.out _ HF9.out) ?_
                refine skip_by (i := 11) rfl (KS.out _ HF9.out) ?_
                refine skip_by (i := 12) rfl (KS.out _ HF9.out) ?_
                refine skip_by (i := 13) rfl (KS.out _ HF9.out) ?_
                refine take_by (i := 14) (v := .bool false) rfl (KS.out _ HF9.out) ?_
                refine take_by (i := 20) (v := .agg #[.int .i64 (x.a + D), .bool false, .int .i64 k, .int .i64 (p - x.a)]) rfl (KS.out _ HF9.out) ?_
                try simp only [List.getElem_toArray, List.getElem_cons_succ, List.getElem_cons_zero, Act.put, List.setIfInBounds_toArray, List.set_cons_zero, List.set_cons_succ]
                obtain ⟨t0, t1, t2, t3, g0, g1, g2, g3, lt⟩ := HT9.out.f4
                refine wpAnyH_ready (rs := [22]) (by kernel_rfl) (by simp) (AllReadyH.cons (o := _) rfl (fun K hK => ?_) AllReadyH.nil)
                go_simp
                obtain ⟨hs, hfs⟩ := store4r HT9.out (.int .i64 (x.a + D)) (.bool false) (.int .i64 k) (.int .i64 (p - x.a)) _ rfl
                have HFT := Lib.hid (hfs _ _ HF9.out (.inr HL7.out))
                have HTT := Lib.hid hs
                clear hs hfs t0 t1 t2 t3 g0 g1 g2 g3
                refine hK.out _ _ (KS.out _ HFT.out) (fun _ => ?_)
                clear hK K
                refine wpAnyH_done (by kernel_rfl) ?_ _
                go_wp2_with (fail)
                go_meet
                exact ⟨_, rfl, HFT.out, HTT.out, HL7.out⟩
            case rest =>
              obtain ⟨T, rfl, HFT, HTT, HLT⟩ := hcut
              clear d0 d1 d2 dl KS KC
              by_cases hs : side < 0
              · skip
                have hps := HPOS.out
                have e1 : (side < 0 ∧ p = x.a ∨ 0 ≤ side ∧ p = x.a + x.o) = True := eq_true (by omega)
                have e2 : (0 < x.o ∧ p = x.a + x.o) = False := eq_false (by omega)
                have e3 : (0 < x.o ∧ p = x.a) = False := eq_false (by omega)
                have e4 : (side < 0) = True := eq_true (by omega)
                have e5 : (x.a < p ∧ p < x.a + x.o) = False := eq_false (by omega)
                have HE := Lib.hid (show ((⟨(x.a + D), false, (-1), 0⟩ : Spot), (0 : Int)) = R by rw [← HRX2.out, refSpot, HD.out]; simp only [e1, if_true, if_false]; simp only [refLeft, e2, e3, if_true, if_false]; try simp only [e4, e5, decide_true, decide_false, reduceIte, Bool.false_eq_true, if_true, if_false])
                clear e1 e2 e3 e4 e5 HRX2 HD hps
                have b8 : ¬ 0 ≤ side := by omega
                rw [decide_eq_true hs]
                obtain ⟨t0, t1, t2, t3, g0, _, g2, g3, lt⟩ := HTT.out.f4
                obtain ⟨d0, _, d2, dl⟩ := (HBx.out.fr HFT.out (fun h => h)).f3
                go_upto_region 22 with (fail)
                have HT6 := Lib.hid ((HTT.out.set 2 (.int .i64 (-1))).set 3 (.int .i64 0))
                have HF6 := Lib.hid ((HFT.out.setCell (p := ⟨T, 2, none⟩) (.inr HLT.out) (.int .i64 (-1))).setCell (p := ⟨T, 3, none⟩) (.inr HLT.out) (.int .i64 0))
                generalize (wc.setCell ⟨T, 2, none⟩ (.int .i64 (-1))).setCell ⟨T, 3, none⟩ (.int .i64 0) = w6 at HT6 HF6 ⊢
                clear t0 t1 t2 t3 g0 g2 g3 lt d2 dl d0
                simp only [List.set_cons_zero, List.set_cons_succ] at HT6
                obtain ⟨t0, t1, t2, t3, g0, _, g2, g3, lt⟩ := HT6.out.f4
                obtain ⟨d0, _, d2, dl⟩ := (HBx.out.fr HF6.out (fun h => h)).f3
                have HB1 := Lib.hid (HXx.out.fr HF6.out (fun h => h))
                have HFw := Lib.hid (HFx.out.same HF6.out)
                obtain ⟨c0, c1, c2, c3, f0, f1, f2, f3, l6⟩ := HB1.out.f4
                go_wp2_with fail
                exact ret4 (v := .tuple #[.agg #[.int .i64 (x.a + D), .bool false, .int .i64 (-1), .int .i64 0], .int .i64 0]) HB1.out HFw.out (Nat.le_refl _) rfl (fun WE p0 p1 p2 p3 => by simp [results, go_sem, p0, p1, p2, p3]) (fun WE hF => ⟨by rw [← HE.out]; rfl, hF⟩)
              · skip
                have hps := HPOS.out
                have e1 : (side < 0 ∧ p = x.a ∨ 0 ≤ side ∧ p = x.a + x.o) = True := eq_true (by omega)
                have e2 : (0 < x.o ∧ p = x.a + x.o) = False := eq_false (by omega)
                have e3 : (0 < x.o ∧ p = x.a) = False := eq_false (by omega)
                have e4 : (side < 0) = False := eq_false (by omega)
                have e5 : (x.a < p ∧ p < x.a + x.o) = False := eq_false (by omega)
                have HE := Lib.hid (show ((⟨(x.a + D + x.n), false, (-1), 0⟩ : Spot), (0 : Int)) = R by rw [← HRX2.out, refSpot, HD.out]; simp only [e1, if_true, if_false]; simp only [refLeft, e2, e3, if_true, if_false]; try simp only [e4, e5, decide_true, decide_false, reduceIte, Bool.false_eq_true, if_true, if_false])
                clear e1 e2 e3 e4 e5 HRX2 HD hps
                have b8 : 0 ≤ side := by omega
                rw [decide_eq_false hs]
                obtain ⟨t0, t1, t2, t3, g0, _, g2, g3, lt⟩ := HTT.out.f4
                obtain ⟨d0, _, d2, dl⟩ := (HBx.out.fr HFT.out (fun h => h)).f3
                go_upto_region 19 with (fail)
                have HT5 := Lib.hid (HTT.out.set 0 (.int .i64 (x.a + D + x.n)))
                have HF5 := Lib.hid (HFT.out.setCell (p := ⟨T, 0, none⟩) (.inr HLT.out) (.int .i64 (x.a + D + x.n)))
                generalize wc.setCell ⟨T, 0, none⟩ (.int .i64 (x.a + D + x.n)) = w5 at HT5 HF5 ⊢
                clear t0 t1 t2 t3 g0 g2 g3 lt d2 dl d0 HFT HTT
                simp only [List.set_cons_zero, List.set_cons_succ] at HT5
                obtain ⟨t0, t1, t2, t3, g0, _, g2, g3, lt⟩ := HT5.out.f4
                obtain ⟨d0, _, d2, dl⟩ := (HBx.out.fr HF5.out (fun h => h)).f3
                go_upto_region 22 with (fail)
                have HT6 := Lib.hid ((HT5.out.set 2 (.int .i64 (-1))).set 3 (.int .i64 0))
                have HF6 := Lib.hid ((HF5.out.setCell (p := ⟨T, 2, none⟩) (.inr HLT.out) (.int .i64 (-1))).setCell (p := ⟨T, 3, none⟩) (.inr HLT.out) (.int .i64 0))
                generalize (w5.setCell ⟨T, 2, none⟩ (.int .i64 (-1))).setCell ⟨T, 3, none⟩ (.int .i64 0) = w6 at HT6 HF6 ⊢
                clear t0 t1 t2 t3 g0 g2 g3 lt d2 dl d0
                simp only [List.set_cons_zero, List.set_cons_succ] at HT6
                obtain ⟨t0, t1, t2, t3, g0, _, g2, g3, lt⟩ := HT6.out.f4
                obtain ⟨d0, _, d2, dl⟩ := (HBx.out.fr HF6.out (fun h => h)).f3
                have HB1 := Lib.hid (HXx.out.fr HF6.out (fun h => h))
                have HFw := Lib.hid (HFx.out.same HF6.out)
                obtain ⟨c0, c1, c2, c3, f0, f1, f2, f3, l6⟩ := HB1.out.f4
                go_wp2_with fail
                exact ret4 (v := .tuple #[.agg #[.int .i64 (x.a + D + x.n), .bool false, .int .i64 (-1), .int .i64 0], .int .i64 0]) HB1.out HFw.out (Nat.le_refl _) rfl (fun WE p0 p1 p2 p3 => by simp [results, go_sem, p0, p1, p2, p3]) (fun WE hF => ⟨by rw [← HE.out]; rfl, hF⟩)
          · skip
            by_cases hposa : p = x.a
            · have hpos := True.intro
              have b1 : (p == x.a) = true := by simp; omega
              have b2 : (p == x.a + x.o) = false := by simp; omega
              have b3 : ¬ x.a < p := by omega
              have b4 : p < x.a + x.o := by omega
              have b5 : 0 < x.o := by omega
              have b6 : ¬ p < x.a := by omega
              have b7 : ¬ x.a + x.o < p := by omega
              have HPOS := Lib.hid (show 0 < x.o ∧ p = x.a by omega)
              clear hps hpos hposz hposa
              go_upto_region 16 with (fail)
              go_cut [12] (fun s12 wy => ∃ T, s12 = .pointer (some ⟨T, 0, none⟩) ∧ Hid (Fr Nob wx wy) ∧ Hid (Blk wy T [.int .i64 (x.a + D), .bool false, .int .i64 k, .int .i64 (p - x.a)] 80) ∧ Hid (wx.heap.size ≤ T))
              case first =>
                have wk1 : IntKind.i64.wrap (p - x.a) = p - x.a := by rw [IntKind.wrap_i64]; omega
                have wk2 : IntKind.i64.wrap (x.a + D) = x.a + D := by rw [IntKind.wrap_i64]; omega
                refine wp_region_held_drew (S := fun W' : World => W'.cell? ⟨B, 0, none⟩ = some (.int .i64 x.a)) (by kernel_rfl) (KS.out _ (Fr.refl _ _).drew) (fun _ => ?_)
                have HFD := Lib.hid ((Fr.refl Nob wx).drew)
                clear d0 d1 d2 dl
                generalize wx.drew = wd at HFD ⊢
                have HSD := Lib.hid (KS.out wd HFD.out)
                refine take_by (i := 0) (v := .pointer (some ⟨B, 0, none⟩)) rfl HSD.out ?_
                refine take_by (i := 1) (v := .int .i64 x.a) rfl HSD.out ?_
                refine take_by (i := 2) (v := .slice (some ad) xs.length c) rfl HSD.out ?_
                refine take_by (i := 3) (v := .int .i64 k) rfl HSD.out ?_
                refine take_by (i := 6) (v := .int .i64 p) rfl HSD.out ?_
                refine take_by (i := 7) (v := .pointer (some ⟨B, 0, none⟩)) rfl HSD.out ?_
                refine take_by (i := 8) (v := .int .i64 x.a) rfl HSD.out ?_
                refine take_by (i := 9) (v := .bool false) rfl HSD.out ?_
                refine take_by (i := 15) (v := .int .i64 k) rfl HSD.out ?_
                refine take_by (i := 16) (v := .int .i64 p) rfl HSD.out ?_
                refine take_by (i := 17) (v := .pointer (some ⟨B, 0, none⟩)) rfl HSD.out ?_
                refine take_by (i := 18) (v := .int .i64 x.a) rfl HSD.out ?_
                refine take_by (i := 19) (v := .int .i64 (p - x.a)) rfl HSD.out ?_
                try simp only [List.getElem_toArray, List.getElem_cons_succ, List.getElem_cons_zero, Act.put, List.setIfInBounds_toArray, List.set_cons_zero, List.set_cons_succ]
                refine wpAnyH_ready (rs := [4, 21]) (by kernel_rfl) (by simp) (AllReadyH.cons (o := _) rfl (fun K hK => ?_) (AllReadyH.cons (o := _) rfl (fun K hK => ?_) AllReadyH.nil))
                · go_simp
                  refine (KC.out _ HFD.out).mono ?_
                  rintro e w7 ⟨rfl, hF7⟩
                  have HF7 := Lib.hid (HFD.out.same hF7)
                  clear hF7
                  go_wp2_with fail
                  refine hK.out _ _ (KS.out _ HF7.out) (fun _ => ?_)
                  clear hK K
                  try simp only [List.getElem_toArray, List.getElem_cons_succ, List.getElem_cons_zero, Act.put, List.setIfInBounds_toArray, List.set_cons_zero, List.set_cons_succ]
                  refine take_by (i := 5) (v := .int .i64 (x.a + D)) rfl (KS.out _ HF7.out) ?_
                  refine take_by (i := 10) (v := .bool false) rfl (KS.out _ HF7.out) ?_
                  refine skip_by (i := 11) rfl (KS.out _ HF7.out) ?_
                  refine skip_by (i := 12) rfl (KS.out _ HF7.out) ?_
                  refine skip_by (i := 13) rfl (KS.out _ HF7.out) ?_
                  refine take_by (i := 14) (v := .bool false) rfl (KS.out _ HF7.out) ?_
                  refine take_by (i := 20) (v := .agg #[.int .i64 (x.a + D), .bool false, .int .i64 k, .int .i64 (p - x.a)]) rfl (KS.out _ HF7.out) ?_
                  try simp only [List.getElem_toArray, List.getElem_cons_succ, List.getElem_cons_zero, Act.put, List.setIfInBounds_toArray, List.set_cons_zero, List.set_cons_succ]
                  refine wpAnyH_ready (rs := [21]) (by kernel_rfl) (by simp) (AllReadyH.cons (o := _) rfl (fun K hK => ?_) AllReadyH.nil)
                  go_simp
                  refine hK.out _ _ (KS.out _ (HF7.out.alloc _)) (fun _ => ?_)
                  clear hK K
                  try simp only [List.getElem_toArray, List.getElem_cons_succ, List.getElem_cons_zero, Act.put, List.setIfInBounds_toArray, List.set_cons_zero, List.set_cons_succ]
                  have HT7 := Lib.hid (Blk.new w7 [.int .i64 0, .bool false, .int .i64 0, .int .i64 0] 80)
                  have HF8 := Lib.hid (HF7.out.alloc (.cells #[.int .i64 0, .bool false, .int .i64 0, .int .i64 0] 80))
                  have HL7 := Lib.hid HF7.out.size
                  generalize w7.alloc (.cells #[.int .i64 0, .bool false, .int .i64 0, .int .i64 0] 80) = w8 at HT7 HF8 ⊢
                  try simp only [List.getElem_toArray, List.getElem_cons_succ, List.getElem_cons_zero, Act.put, List.setIfInBounds_toArray, List.set_cons_zero, List.set_cons_succ]
                  obtain ⟨t0, t1, t2, t3, g0, g1, g2, g3, lt⟩ := HT7.out.f4
                  refine wpAnyH_ready (rs := [22]) (by kernel_rfl) (by simp) (AllReadyH.cons (o := _) rfl (fun K hK => ?_) AllReadyH.nil)
                  go_simp
                  obtain ⟨hs, hfs⟩ := store4r HT7.out (.int .i64 (x.a + D)) (.bool false) (.int .i64 k) (.int .i64 (p - x.a)) _ rfl
                  have HFT := Lib.hid (hfs _ _ HF8.out (.inr HL7.out))
                  have HTT := Lib.hid hs
                  clear hs hfs t0 t1 t2 t3 g0 g1 g2 g3
                  refine hK.out _ _ (KS.out _ HFT.out) (fun _ => ?_)
                  clear hK K
                  refine wpAnyH_done (by kernel_rfl) ?_ _
                  go_wp2_with (fail)
                  go_meet
                  exact ⟨_, rfl, HFT.out, HTT.out, HL7.out⟩
                · go_simp
                  refine hK.out _ _ (KS.out _ (HFD.out.alloc _)) (fun _ => ?_)
                  clear hK K
                  try simp only [List.getElem_toArray, List.getElem_cons_succ, List.getElem_cons_zero, Act.put, List.setIfInBounds_toArray, List.set_cons_zero, List.set_cons_succ]
                  have HT7 := Lib.hid (Blk.new wd [.int .i64 0, .bool false, .int .i64 0, .int .i64 0] 80)
                  have HF8 := Lib.hid (HFD.out.alloc (.cells #[.int .i64 0, .bool false, .int .i64 0, .int .i64 0] 80))
                  have HL7 := Lib.hid HFD.out.size
                  generalize wd.alloc (.cells #[.int .i64 0, .bool false, .int .i64 0, .int .i64 0] 80) = w8 at HT7 HF8 ⊢
                  refine wpAnyH_ready (rs := [4]) (by kernel_rfl) (by simp) (AllReadyH.cons (o := _) rfl (fun K hK => ?_) AllReadyH.nil)
                  go_simp
                  refine (KC.out _ HF8.out).mono ?_
                  rintro e w9 ⟨rfl, hF9⟩
                  have HF9 := Lib.hid (HF8.out.same hF9)
                  have HT9 := Lib.hid (HT7.out.fr hF9 (fun h => h))
                  clear hF9 HF8 HT7
                  go_wp2_with fail
                  refine hK.out _ _ (KS.out _ HF9.out) (fun _ => ?_)
                  clear hK K
                  try simp only [List.getElem_toArray, List.getElem_cons_succ, List.getElem_cons_zero, Act.put, List.setIfInBounds_toArray, List.set_cons_zero, List.set_cons_succ]
                  refine take_by (i := 5) (v := .int .i64 (x.a + D)) rfl (KS.out _ HF9.out) ?_
                  refine take_by (i := 10) (v := .bool false) rfl (KS.out _ HF9.out) ?_
                  refine skip_by (i := 11) rfl (KS.out _ HF9.out) ?_
                  refine skip_by (i := 12) rfl (KS.out _ HF9.out) ?_
                  refine skip_by (i := 13) rfl (KS.out _ HF9.out) ?_
                  refine take_by (i := 14) (v := .bool false) rfl (KS.out _ HF9.out) ?_
                  refine take_by (i := 20) (v := .agg #[.int .i64 (x.a + D), .bool false, .int .i64 k, .int .i64 (p - x.a)]) rfl (KS.out _ HF9.out) ?_
                  try simp only [List.getElem_toArray, List.getElem_cons_succ, List.getElem_cons_zero, Act.put, List.setIfInBounds_toArray, List.set_cons_zero, List.set_cons_succ]
                  obtain ⟨t0, t1, t2, t3, g0, g1, g2, g3, lt⟩ := HT9.out.f4
                  refine wpAnyH_ready (rs := [22]) (by kernel_rfl) (by simp) (AllReadyH.cons (o := _) rfl (fun K hK => ?_) AllReadyH.nil)
                  go_simp
                  obtain ⟨hs, hfs⟩ := store4r HT9.out (.int .i64 (x.a + D)) (.bool false) (.int .i64 k) (.int .i64 (p - x.a)) _ rfl
                  have HFT := Lib.hid (hfs _ _ HF9.out (.inr HL7.out))
                  have HTT := Lib.hid hs
                  clear hs hfs t0 t1 t2 t3 g0 g1 g2 g3
                  refine hK.out _ _ (KS.out _ HFT.out) (fun _ => ?_)
                  clear hK K
                  refine wpAnyH_done (by kernel_rfl) ?_ _
                  go_wp2_with (fail)
                  go_meet
                  exact ⟨_, rfl, HFT.out, HTT.out, HL7.out⟩
              case rest =>
                obtain ⟨T, rfl, HFT, HTT, HLT⟩ := hcut
                clear d0 d1 d2 dl KS KC
                by_cases hs : side < 0
                · skip
                  have hps := HPOS.out
                  have e1 : (side < 0 ∧ p = x.a ∨ 0 ≤ side ∧ p = x.a + x.o) = True := eq_true (by omega)
                  have e2 : (0 < x.o ∧ p = x.a + x.o) = False := eq_false (by omega)
                  have e3 : (0 < x.o ∧ p = x.a) = True := eq_true (by omega)
                  have e4 : (side < 0) = True := eq_true (by omega)
                  have e5 : (x.a < p ∧ p < x.a + x.o) = False := eq_false (by omega)
                  have HE := Lib.hid (show ((⟨(x.a + D), false, (-1), 0⟩ : Spot), (0 : Int)) = R by rw [← HRX2.out, refSpot, HD.out]; simp only [e1, if_true, if_false]; simp only [refLeft, e2, e3, if_true, if_false]; try simp only [e4, e5, decide_true, decide_false, reduceIte, Bool.false_eq_true, if_true, if_false])
                  clear e1 e2 e3 e4 e5 HRX2 HD hps
                  have b8 : ¬ 0 ≤ side := by omega
                  obtain ⟨t0, t1, t2, t3, g0, _, g2, g3, lt⟩ := HTT.out.f4
                  obtain ⟨d0, _, d2, dl⟩ := (HBx.out.fr HFT.out (fun h => h)).f3
                  go_upto_region 22 with (fail)
                  have HT6 := Lib.hid ((HTT.out.set 2 (.int .i64 (-1))).set 3 (.int .i64 0))
                  have HF6 := Lib.hid ((HFT.out.setCell (p := ⟨T, 2, none⟩) (.inr HLT.out) (.int .i64 (-1))).setCell (p := ⟨T, 3, none⟩) (.inr HLT.out) (.int .i64 0))
                  generalize (wc.setCell ⟨T, 2, none⟩ (.int .i64 (-1))).setCell ⟨T, 3, none⟩ (.int .i64 0) = w6 at HT6 HF6 ⊢
                  clear t0 t1 t2 t3 g0 g2 g3 lt d2 dl d0
                  simp only [List.set_cons_zero, List.set_cons_succ] at HT6
                  obtain ⟨t0, t1, t2, t3, g0, _, g2, g3, lt⟩ := HT6.out.f4
                  obtain ⟨d0, _, d2, dl⟩ := (HBx.out.fr HF6.out (fun h => h)).f3
                  have HB1 := Lib.hid (HXx.out.fr HF6.out (fun h => h))
                  have HFw := Lib.hid (HFx.out.same HF6.out)
                  obtain ⟨c0, c1, c2, c3, f0, f1, f2, f3, l6⟩ := HB1.out.f4
                  go_wp2_with fail
                  exact ret4 (v := .tuple #[.agg #[.int .i64 (x.a + D), .bool false, .int .i64 (-1), .int .i64 0], .int .i64 0]) HB1.out HFw.out (Nat.le_refl _) rfl (fun WE p0 p1 p2 p3 => by simp [results, go_sem, p0, p1, p2, p3]) (fun WE hF => ⟨by rw [← HE.out]; rfl, hF⟩)
                · skip
                  have hps := HPOS.out
                  have e1 : (side < 0 ∧ p = x.a ∨ 0 ≤ side ∧ p = x.a + x.o) = False := eq_false (by omega)
                  have e2 : (0 < x.o ∧ p = x.a + x.o) = False := eq_false (by omega)
                  have e3 : (0 < x.o ∧ p = x.a) = True := eq_true (by omega)
                  have e4 : (side < 0) = False := eq_false (by omega)
                  have e5 : (x.a < p ∧ p < x.a + x.o) = False := eq_false (by omega)
                  have HE := Lib.hid (show ((⟨(x.a + D), false, k, (p - x.a)⟩ : Spot), (0 : Int)) = R by rw [← HRX2.out, refSpot, HD.out]; simp only [e1, if_true, if_false]; simp only [refLeft, e2, e3, if_true, if_false]; try simp only [e4, e5, decide_true, decide_false, reduceIte, Bool.false_eq_true, if_true, if_false])
                  clear e1 e2 e3 e4 e5 HRX2 HD hps
                  have b8 : 0 ≤ side := by omega
                  obtain ⟨t0, t1, t2, t3, g0, _, g2, g3, lt⟩ := HTT.out.f4
                  obtain ⟨d0, _, d2, dl⟩ := (HBx.out.fr HFT.out (fun h => h)).f3
                  go_upto_region 22 with (fail)
                  have HB1 := Lib.hid (HXx.out.fr HFT.out (fun h => h))
                  have HFw := Lib.hid (HFx.out.same HFT.out)
                  obtain ⟨c0, c1, c2, c3, f0, f1, f2, f3, l6⟩ := HB1.out.f4
                  go_wp2_with fail
                  exact ret4 (v := .tuple #[.agg #[.int .i64 (x.a + D), .bool false, .int .i64 k, .int .i64 (p - x.a)], .int .i64 0]) HB1.out HFw.out (Nat.le_refl _) rfl (fun WE p0 p1 p2 p3 => by simp [results, go_sem, p0, p1, p2, p3]) (fun WE hF => ⟨by rw [← HE.out]; rfl, hF⟩)
            · skip
              by_cases hpose : p = x.a + x.o
              · have hpos := True.intro
                have b1 : (p == x.a) = false := by simp; omega
                have b2 : (p == x.a + x.o) = true := by simp; omega
                have b3 : x.a < p := by omega
                have b4 : ¬ p < x.a + x.o := by omega
                have b5 : 0 < x.o := by omega
                have b6 : ¬ p < x.a := by omega
                have b7 : ¬ x.a + x.o < p := by omega
                have HPOS := Lib.hid (show 0 < x.o ∧ p = x.a + x.o by omega)
                clear hps hpos hposz hposa hpose
                go_upto_region 16 with (fail)
                go_cut [12] (fun s12 wy => ∃ T, s12 = .pointer (some ⟨T, 0, none⟩) ∧ Hid (Fr Nob wx wy) ∧ Hid (Blk wy T [.int .i64 (x.a + D), .bool false, .int .i64 k, .int .i64 (p - x.a)] 80) ∧ Hid (wx.heap.size ≤ T))
                case first =>
                  have wk1 : IntKind.i64.wrap (p - x.a) = p - x.a := by rw [IntKind.wrap_i64]; omega
                  have wk2 : IntKind.i64.wrap (x.a + D) = x.a + D := by rw [IntKind.wrap_i64]; omega
                  refine wp_region_held_drew (S := fun W' : World => W'.cell? ⟨B, 0, none⟩ = some (.int .i64 x.a)) (by kernel_rfl) (KS.out _ (Fr.refl _ _).drew) (fun _ => ?_)
                  have HFD := Lib.hid ((Fr.refl Nob wx).drew)
                  clear d0 d1 d2 dl
                  generalize wx.drew = wd at HFD ⊢
                  have HSD := Lib.hid (KS.out wd HFD.out)
                  refine take_by (i := 0) (v := .pointer (some ⟨B, 0, none⟩)) rfl HSD.out ?_
                  refine take_by (i := 1) (v := .int .i64 x.a) rfl HSD.out ?_
                  refine take_by (i := 2) (v := .slice (some ad) xs.length c) rfl HSD.out ?_
                  refine take_by (i := 3) (v := .int .i64 k) rfl HSD.out ?_
                  refine take_by (i := 6) (v := .int .i64 p) rfl HSD.out ?_
                  refine take_by (i := 7) (v := .pointer (some ⟨B, 0, none⟩)) rfl HSD.out ?_
                  refine take_by (i := 8) (v := .int .i64 x.a) rfl HSD.out ?_
                  refine take_by (i := 9) (v := .bool true) rfl HSD.out ?_
                  refine take_by (i := 15) (v := .int .i64 k) rfl HSD.out ?_
                  refine take_by (i := 16) (v := .int .i64 p) rfl HSD.out ?_
                  refine take_by (i := 17) (v := .pointer (some ⟨B, 0, none⟩)) rfl HSD.out ?_
                  refine take_by (i := 18) (v := .int .i64 x.a) rfl HSD.out ?_
                  refine take_by (i := 19) (v := .int .i64 (p - x.a)) rfl HSD.out ?_
                  try simp only [List.getElem_toArray, List.getElem_cons_succ, List.getElem_cons_zero, Act.put, List.setIfInBounds_toArray, List.set_cons_zero, List.set_cons_succ]
                  refine wpAnyH_ready (rs := [4, 21]) (by kernel_rfl) (by simp) (AllReadyH.cons (o := _) rfl (fun K hK => ?_) (AllReadyH.cons (o := _) rfl (fun K hK => ?_) AllReadyH.nil))
                  · go_simp
                    refine (KC.out _ HFD.out).mono ?_
                    rintro e w7 ⟨rfl, hF7⟩
                    have HF7 := Lib.hid (HFD.out.same hF7)
                    clear hF7
                    go_wp2_with fail
                    refine hK.out _ _ (KS.out _ HF7.out) (fun _ => ?_)
                    clear hK K
                    try simp only [List.getElem_toArray, List.getElem_cons_succ, List.getElem_cons_zero, Act.put, List.setIfInBounds_toArray, List.set_cons_zero, List.set_cons_succ]
                    refine take_by (i := 5) (v := .int .i64 (x.a + D)) rfl (KS.out _ HF7.out) ?_
                    refine take_by (i := 10) (v := .bool true) rfl (KS.out _ HF7.out) ?_
                    refine take_by (i := 11) (v := .int .i64 p) rfl (KS.out _ HF7.out) ?_
                    refine take_by (i := 12) (v := .int .i64 (x.a + x.o)) rfl (KS.out _ HF7.out) ?_
                    refine take_by (i := 13) (v := .bool false) rfl (KS.out _ HF7.out) ?_
                    refine take_by (i := 14) (v := .bool false) rfl (KS.out _ HF7.out) ?_
                    refine take_by (i := 20) (v := .agg #[.int .i64 (x.a + D), .bool false, .int .i64 k, .int .i64 (p - x.a)]) rfl (KS.out _ HF7.out) ?_
                    try simp only [List.getElem_toArray, List.getElem_cons_succ, List.getElem_cons_zero, Act.put, List.setIfInBounds_toArray, List.set_cons_zero, List.set_cons_succ]
                    refine wpAnyH_ready (rs := [21]) (by kernel_rfl) (by simp) (AllReadyH.cons (o := _) rfl (fun K hK => ?_) AllReadyH.nil)
                    go_simp
                    refine hK.out _ _ (KS.out _ (HF7.out.alloc _)) (fun _ => ?_)
                    clear hK K
                    try simp only [List.getElem_toArray, List.getElem_cons_succ, List.getElem_cons_zero, Act.put, List.setIfInBounds_toArray, List.set_cons_zero, List.set_cons_succ]
                    have HT7 := Lib.hid (Blk.new w7 [.int .i64 0, .bool false, .int .i64 0, .int .i64 0] 80)
                    have HF8 := Lib.hid (HF7.out.alloc (.cells #[.int .i64 0, .bool false, .int .i64 0, .int .i64 0] 80))
                    have HL7 := Lib.hid HF7.out.size
                    generalize w7.alloc (.cells #[.int .i64 0, .bool false, .int .i64 0, .int .i64 0] 80) = w8 at HT7 HF8 ⊢
                    try simp only [List.getElem_toArray, List.getElem_cons_succ, List.getElem_cons_zero, Act.put, List.setIfInBounds_toArray, List.set_cons_zero, List.set_cons_succ]
                    obtain ⟨t0, t1, t2, t3, g0, g1, g2, g3, lt⟩ := HT7.out.f4
                    refine wpAnyH_ready (rs := [22]) (by kernel_rfl) (by simp) (AllReadyH.cons (o := _) rfl (fun K hK => ?_) AllReadyH.nil)
                    go_simp
                    obtain ⟨hs, hfs⟩ := store4r HT7.out (.int .i64 (x.a + D)) (.bool false) (.int .i64 k) (.int .i64 (p - x.a)) _ rfl
                    have HFT := Lib.hid (hfs _ _ HF8.out (.inr HL7.out))
                    have HTT := Lib.hid hs
                    clear hs hfs t0 t1 t2 t3 g0 g1 g2 g3
                    refine hK.out _ _ (KS.out _ HFT.out) (fun _ => ?_)
                    clear hK K
                    refine wpAnyH_done (by kernel_rfl) ?_ _
                    go_wp2_with (fail)
                    go_meet
                    exact ⟨_, rfl, HFT.out, HTT.out, HL7.out⟩
                  · go_simp
                    refine hK.out _ _ (KS.out _ (HFD.out.alloc _)) (fun _ => ?_)
                    clear hK K
                    try simp only [List.getElem_toArray, List.getElem_cons_succ, List.getElem_cons_zero, Act.put, List.setIfInBounds_toArray, List.set_cons_zero, List.set_cons_succ]
                    have HT7 := Lib.hid (Blk.new wd [.int .i64 0, .bool false, .int .i64 0, .int .i64 0] 80)
                    have HF8 := Lib.hid (HFD.out.alloc (.cells #[.int .i64 0, .bool false, .int .i64 0, .int .i64 0] 80))
                    have HL7 := Lib.hid HFD.out.size
                    generalize wd.alloc (.cells #[.int .i64 0, .bool false, .int .i64 0, .int .i64 0] 80) = w8 at HT7 HF8 ⊢
                    refine wpAnyH_ready (rs := [4]) (by kernel_rfl) (by simp) (AllReadyH.cons (o := _) rfl (fun K hK => ?_) AllReadyH.nil)
                    go_simp
                    refine (KC.out _ HF8.out).mono ?_
                    rintro e w9 ⟨rfl, hF9⟩
                    have HF9 := Lib.hid (HF8.out.same hF9)
                    have HT9 := Lib.hid (HT7.out.fr hF9 (fun h => h))
                    clear hF9 HF8 HT7
                    go_wp2_with fail
                    refine hK.out _ _ (KS.out _ HF9.out) (fun _ => ?_)
                    clear hK K
                    try simp only [List.getElem_toArray, List.getElem_cons_succ, List.getElem_cons_zero, Act.put, List.setIfInBounds_toArray, List.set_cons_zero, List.set_cons_succ]
                    refine take_by (i := 5) (v := .int .i64 (x.a + D)) rfl (KS.out _ HF9.out) ?_
                    refine take_by (i := 10) (v := .bool true) rfl (KS.out _ HF9.out) ?_
                    refine take_by (i := 11) (v := .int .i64 p) rfl (KS.out _ HF9.out) ?_
                    refine take_by (i := 12) (v := .int .i64 (x.a + x.o)) rfl (KS.out _ HF9.out) ?_
                    refine take_by (i := 13) (v := .bool false) rfl (KS.out _ HF9.out) ?_
                    refine take_by (i := 14) (v := .bool false) rfl (KS.out _ HF9.out) ?_
                    refine take_by (i := 20) (v := .agg #[.int .i64 (x.a + D), .bool false, .int .i64 k, .int .i64 (p - x.a)]) rfl (KS.out _ HF9.out) ?_
                    try simp only [List.getElem_toArray, List.getElem_cons_succ, List.getElem_cons_zero, Act.put, List.setIfInBounds_toArray, List.set_cons_zero, List.set_cons_succ]
                    obtain ⟨t0, t1, t2, t3, g0, g1, g2, g3, lt⟩ := HT9.out.f4
                    refine wpAnyH_ready (rs := [22]) (by kernel_rfl) (by simp) (AllReadyH.cons (o := _) rfl (fun K hK => ?_) AllReadyH.nil)
                    go_simp
                    obtain ⟨hs, hfs⟩ := store4r HT9.out (.int .i64 (x.a + D)) (.bool false) (.int .i64 k) (.int .i64 (p - x.a)) _ rfl
                    have HFT := Lib.hid (hfs _ _ HF9.out (.inr HL7.out))
                    have HTT := Lib.hid hs
                    clear hs hfs t0 t1 t2 t3 g0 g1 g2 g3
                    refine hK.out _ _ (KS.out _ HFT.out) (fun _ => ?_)
                    clear hK K
                    refine wpAnyH_done (by kernel_rfl) ?_ _
                    go_wp2_with (fail)
                    go_meet
                    exact ⟨_, rfl, HFT.out, HTT.out, HL7.out⟩
                case rest =>
                  obtain ⟨T, rfl, HFT, HTT, HLT⟩ := hcut
                  clear d0 d1 d2 dl KS KC
                  by_cases hs : side < 0
                  · skip
                    have hps := HPOS.out
                    have e1 : (side < 0 ∧ p = x.a ∨ 0 ≤ side ∧ p = x.a + x.o) = False := eq_false (by omega)
                    have e2 : (0 < x.o ∧ p = x.a + x.o) = True := eq_true (by omega)
                    have e3 : (0 < x.o ∧ p = x.a) = False := eq_false (by omega)
                    have e4 : (side < 0) = True := eq_true (by omega)
                    have e5 : (x.a < p ∧ p < x.a + x.o) = False := eq_false (by omega)
                    have HE := Lib.hid (show ((⟨(x.a + D + x.n), false, k, (p - x.a)⟩ : Spot), (0 : Int)) = R by rw [← HRX2.out, refSpot, HD.out]; simp only [e1, if_true, if_false]; simp only [refLeft, e2, e3, if_true, if_false]; try simp only [e4, e5, decide_true, decide_false, reduceIte, Bool.false_eq_true, if_true, if_false])
                    clear e1 e2 e3 e4 e5 HRX2 HD hps
                    have b8 : ¬ 0 ≤ side := by omega
                    obtain ⟨t0, t1, t2, t3, g0, _, g2, g3, lt⟩ := HTT.out.f4
                    obtain ⟨d0, _, d2, dl⟩ := (HBx.out.fr HFT.out (fun h => h)).f3
                    go_upto_region 19 with (fail)
                    have HT5 := Lib.hid (HTT.out.set 0 (.int .i64 (x.a + D + x.n)))
                    have HF5 := Lib.hid (HFT.out.setCell (p := ⟨T, 0, none⟩) (.inr HLT.out) (.int .i64 (x.a + D + x.n)))
                    generalize wc.setCell ⟨T, 0, none⟩ (.int .i64 (x.a + D + x.n)) = w5 at HT5 HF5 ⊢
                    clear t0 t1 t2 t3 g0 g2 g3 lt d2 dl d0 HFT HTT
                    simp only [List.set_cons_zero, List.set_cons_succ] at HT5
                    obtain ⟨t0, t1, t2, t3, g0, _, g2, g3, lt⟩ := HT5.out.f4
                    obtain ⟨d0, _, d2, dl⟩ := (HBx.out.fr HF5.out (fun h => h)).f3
                    go_upto_region 22 with (fail)
                    have HB1 := Lib.hid (HXx.out.fr HF5.out (fun h => h))
                    have HFw := Lib.hid (HFx.out.same HF5.out)
                    obtain ⟨c0, c1, c2, c3, f0, f1, f2, f3, l6⟩ := HB1.out.f4
                    go_wp2_with fail
                    exact ret4 (v := .tuple #[.agg #[.int .i64 (x.a + D + x.n), .bool false, .int .i64 k, .int .i64 (p - x.a)], .int .i64 0]) HB1.out HFw.out (Nat.le_refl _) rfl (fun WE p0 p1 p2 p3 => by simp [results, go_sem, p0, p1, p2, p3]) (fun WE hF => ⟨by rw [← HE.out]; rfl, hF⟩)
                  · skip
                    have hps := HPOS.out
                    have e1 : (side < 0 ∧ p = x.a ∨ 0 ≤ side ∧ p = x.a + x.o) = True := eq_true (by omega)
                    have e2 : (0 < x.o ∧ p = x.a + x.o) = True := eq_true (by omega)
                    have e3 : (0 < x.o ∧ p = x.a) = False := eq_false (by omega)
                    have e4 : (side < 0) = False := eq_false (by omega)
                    have e5 : (x.a < p ∧ p < x.a + x.o) = False := eq_false (by omega)
                    have HE := Lib.hid (show ((⟨(x.a + D + x.n), false, (-1), 0⟩ : Spot), (0 : Int)) = R by rw [← HRX2.out, refSpot, HD.out]; simp only [e1, if_true, if_false]; simp only [refLeft, e2, e3, if_true, if_false]; try simp only [e4, e5, decide_true, decide_false, reduceIte, Bool.false_eq_true, if_true, if_false])
                    clear e1 e2 e3 e4 e5 HRX2 HD hps
                    have b8 : 0 ≤ side := by omega
                    obtain ⟨t0, t1, t2, t3, g0, _, g2, g3, lt⟩ := HTT.out.f4
                    obtain ⟨d0, _, d2, dl⟩ := (HBx.out.fr HFT.out (fun h => h)).f3
                    go_upto_region 19 with (fail)
                    have HT5 := Lib.hid (HTT.out.set 0 (.int .i64 (x.a + D + x.n)))
                    have HF5 := Lib.hid (HFT.out.setCell (p := ⟨T, 0, none⟩) (.inr HLT.out) (.int .i64 (x.a + D + x.n)))
                    generalize wc.setCell ⟨T, 0, none⟩ (.int .i64 (x.a + D + x.n)) = w5 at HT5 HF5 ⊢
                    clear t0 t1 t2 t3 g0 g2 g3 lt d2 dl d0 HFT HTT
                    simp only [List.set_cons_zero, List.set_cons_succ] at HT5
                    obtain ⟨t0, t1, t2, t3, g0, _, g2, g3, lt⟩ := HT5.out.f4
                    obtain ⟨d0, _, d2, dl⟩ := (HBx.out.fr HF5.out (fun h => h)).f3
                    go_upto_region 22 with (fail)
                    have HT6 := Lib.hid ((HT5.out.set 2 (.int .i64 (-1))).set 3 (.int .i64 0))
                    have HF6 := Lib.hid ((HF5.out.setCell (p := ⟨T, 2, none⟩) (.inr HLT.out) (.int .i64 (-1))).setCell (p := ⟨T, 3, none⟩) (.inr HLT.out) (.int .i64 0))
                    generalize (w5.setCell ⟨T, 2, none⟩ (.int .i64 (-1))).setCell ⟨T, 3, none⟩ (.int .i64 0) = w6 at HT6 HF6 ⊢
                    clear t0 t1 t2 t3 g0 g2 g3 lt d2 dl d0
                    simp only [List.set_cons_zero, List.set_cons_succ] at HT6
                    obtain ⟨t0, t1, t2, t3, g0, _, g2, g3, lt⟩ := HT6.out.f4
                    obtain ⟨d0, _, d2, dl⟩ := (HBx.out.fr HF6.out (fun h => h)).f3
                    have HB1 := Lib.hid (HXx.out.fr HF6.out (fun h => h))
                    have HFw := Lib.hid (HFx.out.same HF6.out)
                    obtain ⟨c0, c1, c2, c3, f0, f1, f2, f3, l6⟩ := HB1.out.f4
                    go_wp2_with fail
                    exact ret4 (v := .tuple #[.agg #[.int .i64 (x.a + D + x.n), .bool false, .int .i64 (-1), .int .i64 0], .int .i64 0]) HB1.out HFw.out (Nat.le_refl _) rfl (fun WE p0 p1 p2 p3 => by simp [results, go_sem, p0, p1, p2, p3]) (fun WE hF => ⟨by rw [← HE.out]; rfl, hF⟩)
              · skip
                have hpos := True.intro
                have b1 : (p == x.a) = false := by simp; omega
                have b2 : (p == x.a + x.o) = false := by simp; omega
                have b3 : x.a < p := by omega
                have b4 : p < x.a + x.o := by omega
                have b5 : 0 < x.o := by omega
                have b6 : ¬ p < x.a := by omega
                have b7 : ¬ x.a + x.o < p := by omega
                have HPOS := Lib.hid (show x.a < p ∧ p < x.a + x.o by omega)
                clear hps hpos hposz hposa hpose
                go_upto_region 16 with (fail)
                go_cut [12] (fun s12 wy => ∃ T, s12 = .pointer (some ⟨T, 0, none⟩) ∧ Hid (Fr Nob wx wy) ∧ Hid (Blk wy T [.int .i64 (x.a + D), .bool true, .int .i64 k, .int .i64 (p - x.a)] 80) ∧ Hid (wx.heap.size ≤ T))
                case first =>
                  have wk1 : IntKind.i64.wrap (p - x.a) = p - x.a := by rw [IntKind.wrap_i64]; omega
                  have wk2 : IntKind.i64.wrap (x.a + D) = x.a + D := by rw [IntKind.wrap_i64]; omega
                  refine wp_region_held_drew (S := fun W' : World => W'.cell? ⟨B, 0, none⟩ = some (.int .i64 x.a)) (by kernel_rfl) (KS.out _ (Fr.refl _ _).drew) (fun _ => ?_)
                  have HFD := Lib.hid ((Fr.refl Nob wx).drew)
                  clear d0 d1 d2 dl
                  generalize wx.drew = wd at HFD ⊢
                  have HSD := Lib.hid (KS.out wd HFD.out)
                  refine take_by (i := 0) (v := .pointer (some ⟨B, 0, none⟩)) rfl HSD.out ?_
                  refine take_by (i := 1) (v := .int .i64 x.a) rfl HSD.out ?_
                  refine take_by (i := 2) (v := .slice (some ad) xs.length c) rfl HSD.out ?_
                  refine take_by (i := 3) (v := .int .i64 k) rfl HSD.out ?_
                  refine take_by (i := 6) (v := .int .i64 p) rfl HSD.out ?_
                  refine take_by (i := 7) (v := .pointer (some ⟨B, 0, none⟩)) rfl HSD.out ?_
                  refine take_by (i := 8) (v := .int .i64 x.a) rfl HSD.out ?_
                  refine take_by (i := 9) (v := .bool true) rfl HSD.out ?_
                  refine take_by (i := 15) (v := .int .i64 k) rfl HSD.out ?_
                  refine take_by (i := 16) (v := .int .i64 p) rfl HSD.out ?_
                  refine take_by (i := 17) (v := .pointer (some ⟨B, 0, none⟩)) rfl HSD.out ?_
                  refine take_by (i := 18) (v := .int .i64 x.a) rfl HSD.out ?_
                  refine take_by (i := 19) (v := .int .i64 (p - x.a)) rfl HSD.out ?_
                  try simp only [List.getElem_toArray, List.getElem_cons_succ, List.getElem_cons_zero, Act.put, List.setIfInBounds_toArray, List.set_cons_zero, List.set_cons_succ]
                  refine wpAnyH_ready (rs := [4, 21]) (by kernel_rfl) (by simp) (AllReadyH.cons (o := _) rfl (fun K hK => ?_) (AllReadyH.cons (o := _) rfl (fun K hK => ?_) AllReadyH.nil))
                  · go_simp
                    refine (KC.out _ HFD.out).mono ?_
                    rintro e w7 ⟨rfl, hF7⟩
                    have HF7 := Lib.hid (HFD.out.same hF7)
                    clear hF7
                    go_wp2_with fail
                    refine hK.out _ _ (KS.out _ HF7.out) (fun _ => ?_)
                    clear hK K
                    try simp only [List.getElem_toArray, List.getElem_cons_succ, List.getElem_cons_zero, Act.put, List.setIfInBounds_toArray, List.set_cons_zero, List.set_cons_succ]
                    refine take_by (i := 5) (v := .int .i64 (x.a + D)) rfl (KS.out _ HF7.out) ?_
                    refine take_by (i := 10) (v := .bool true) rfl (KS.out _ HF7.out) ?_
                    refine take_by (i := 11) (v := .int .i64 p) rfl (KS.out _ HF7.out) ?_
                    refine take_by (i := 12) (v := .int .i64 (x.a + x.o)) rfl (KS.out _ HF7.out) ?_
                    refine take_by (i := 13) (v := .bool true) rfl (KS.out _ HF7.out) ?_
                    refine take_by (i := 14) (v := .bool true) rfl (KS.out _ HF7.out) ?_
                    refine take_by (i := 20) (v := .agg #[.int .i64 (x.a + D), .bool true, .int .i64 k, .int .i64 (p - x.a)]) rfl (KS.out _ HF7.out) ?_
                    try simp only [List.getElem_toArray, List.getElem_cons_succ, List.getElem_cons_zero, Act.put, List.setIfInBounds_toArray, List.set_cons_zero, List.set_cons_succ]
                    refine wpAnyH_ready (rs := [21]) (by kernel_rfl) (by simp) (AllReadyH.cons (o := _) rfl (fun K hK => ?_) AllReadyH.nil)
                    go_simp
                    refine hK.out _ _ (KS.out _ (HF7.out.alloc _)) (fun _ => ?_)
                    clear hK K
                    try simp only [List.getElem_toArray, List.getElem_cons_succ, List.getElem_cons_zero, Act.put, List.setIfInBounds_toArray, List.set_cons_zero, List.set_cons_succ]
                    have HT7 := Lib.hid (Blk.new w7 [.int .i64 0, .bool false, .int .i64 0, .int .i64 0] 80)
                    have HF8 := Lib.hid (HF7.out.alloc (.cells #[.int .i64 0, .bool false, .int .i64 0, .int .i64 0] 80))
                    have HL7 := Lib.hid HF7.out.size
                    generalize w7.alloc (.cells #[.int .i64 0, .bool false, .int .i64 0, .int .i64 0] 80) = w8 at HT7 HF8 ⊢
                    try simp only [List.getElem_toArray, List.getElem_cons_succ, List.getElem_cons_zero, Act.put, List.setIfInBounds_toArray, List.set_cons_zero, List.set_cons_succ]
                    obtain ⟨t0, t1, t2, t3, g0, g1, g2, g3, lt⟩ := HT7.out.f4
                    refine wpAnyH_ready (rs := [22]) (by kernel_rfl) (by simp) (AllReadyH.cons (o := _) rfl (fun K hK => ?_) AllReadyH.nil)
                    go_simp
                    obtain ⟨hs, hfs⟩ := store4r HT7.out (.int .i64 (x.a + D)) (.bool true) (.int .i64 k) (.int .i64 (p - x.a)) _ rfl
                    have HFT := Lib.hid (hfs _ _ HF8.out (.inr HL7.out))
                    have HTT := Lib.hid hs
                    clear hs hfs t0 t1 t2 t3 g0 g1 g2 g3
                    refine hK.out _ _ (KS.out _ HFT.out) (fun _ => ?_)
                    clear hK K
                    refine wpAnyH_done (by kernel_rfl) ?_ _
                    go_wp2_with (fail)
                    go_meet
                    exact ⟨_, rfl, HFT.out, HTT.out, HL7.out⟩
                  · go_simp
                    refine hK.out _ _ (KS.out _ (HFD.out.alloc _)) (fun _ => ?_)
                    clear hK K
                    try simp only [List.getElem_toArray, List.getElem_cons_succ, List.getElem_cons_zero, Act.put, List.setIfInBounds_toArray, List.set_cons_zero, List.set_cons_succ]
                    have HT7 := Lib.hid (Blk.new wd [.int .i64 0, .bool false, .int .i64 0, .int .i64 0] 80)
                    have HF8 := Lib.hid (HFD.out.alloc (.cells #[.int .i64 0, .bool false, .int .i64 0, .int .i64 0] 80))
                    have HL7 := Lib.hid HFD.out.size
                    generalize wd.alloc (.cells #[.int .i64 0, .bool false, .int .i64 0, .int .i64 0] 80) = w8 at HT7 HF8 ⊢
                    refine wpAnyH_ready (rs := [4]) (by kernel_rfl) (by simp) (AllReadyH.cons (o := _) rfl (fun K hK => ?_) AllReadyH.nil)
                    go_simp
                    refine (KC.out _ HF8.out).mono ?_
                    rintro e w9 ⟨rfl, hF9⟩
                    have HF9 := Lib.hid (HF8.out.same hF9)
                    have HT9 := Lib.hid (HT7.out.fr hF9 (fun h => h))
                    clear hF9 HF8 HT7
                    go_wp2_with fail
                    refine hK.out _ _ (KS.out _ HF9.out) (fun _ => ?_)
                    clear hK K
                    try simp only [List.getElem_toArray, List.getElem_cons_succ, List.getElem_cons_zero, Act.put, List.setIfInBounds_toArray, List.set_cons_zero, List.set_cons_succ]
                    refine take_by (i := 5) (v := .int .i64 (x.a + D)) rfl (KS.out _ HF9.out) ?_
                    refine take_by (i := 10) (v := .bool true) rfl (KS.out _ HF9.out) ?_
                    refine take_by (i := 11) (v := .int .i64 p) rfl (KS.out _ HF9.out) ?_
                    refine take_by (i := 12) (v := .int .i64 (x.a + x.o)) rfl (KS.out _ HF9.out) ?_
                    refine take_by (i := 13) (v := .bool true) rfl (KS.out _ HF9.out) ?_
                    refine take_by (i := 14) (v := .bool true) rfl (KS.out _ HF9.out) ?_
                    refine take_by (i := 20) (v := .agg #[.int .i64 (x.a + D), .bool true, .int .i64 k, .int .i64 (p - x.a)]) rfl (KS.out _ HF9.out) ?_
                    try simp only [List.getElem_toArray, List.getElem_cons_succ, List.getElem_cons_zero, Act.put, List.setIfInBounds_toArray, List.set_cons_zero, List.set_cons_succ]
                    obtain ⟨t0, t1, t2, t3, g0, g1, g2, g3, lt⟩ := HT9.out.f4
                    refine wpAnyH_ready (rs := [22]) (by kernel_rfl) (by simp) (AllReadyH.cons (o := _) rfl (fun K hK => ?_) AllReadyH.nil)
                    go_simp
                    obtain ⟨hs, hfs⟩ := store4r HT9.out (.int .i64 (x.a + D)) (.bool true) (.int .i64 k) (.int .i64 (p - x.a)) _ rfl
                    have HFT := Lib.hid (hfs _ _ HF9.out (.inr HL7.out))
                    have HTT := Lib.hid hs
                    clear hs hfs t0 t1 t2 t3 g0 g1 g2 g3
                    refine hK.out _ _ (KS.out _ HFT.out) (fun _ => ?_)
                    clear hK K
                    refine wpAnyH_done (by kernel_rfl) ?_ _
                    go_wp2_with (fail)
                    go_meet
                    exact ⟨_, rfl, HFT.out, HTT.out, HL7.out⟩
                case rest =>
                  obtain ⟨T, rfl, HFT, HTT, HLT⟩ := hcut
                  clear d0 d1 d2 dl KS KC
                  by_cases hs : side < 0
                  · skip
                    have hps := HPOS.out
                    have e1 : (side < 0 ∧ p = x.a ∨ 0 ≤ side ∧ p = x.a + x.o) = False := eq_false (by omega)
                    have e2 : (0 < x.o ∧ p = x.a + x.o) = False := eq_false (by omega)
                    have e3 : (0 < x.o ∧ p = x.a) = False := eq_false (by omega)
                    have e4 : (side < 0) = True := eq_true (by omega)
                    have e5 : (x.a < p ∧ p < x.a + x.o) = True := eq_true (by omega)
                    have HE := Lib.hid (show ((⟨(x.a + D), true, k, (p - x.a)⟩ : Spot), (0 : Int)) = R by rw [← HRX2.out, refSpot, HD.out]; simp only [e1, if_true, if_false]; simp only [refLeft, e2, e3, if_true, if_false]; try simp only [e4, e5, decide_true, decide_false, reduceIte, Bool.false_eq_true, if_true, if_false])
                    clear e1 e2 e3 e4 e5 HRX2 HD hps
                    have b8 : ¬ 0 ≤ side := by omega
                    rw [decide_eq_true hs]
                    obtain ⟨t0, t1, t2, t3, g0, _, g2, g3, lt⟩ := HTT.out.f4
                    obtain ⟨d0, _, d2, dl⟩ := (HBx.out.fr HFT.out (fun h => h)).f3
                    go_upto_region 22 with (fail)
                    have HB1 := Lib.hid (HXx.out.fr HFT.out (fun h => h))
                    have HFw := Lib.hid (HFx.out.same HFT.out)
                    obtain ⟨c0, c1, c2, c3, f0, f1, f2, f3, l6⟩ := HB1.out.f4
                    go_wp2_with fail
                    exact ret4 (v := .tuple #[.agg #[.int .i64 (x.a + D), .bool true, .int .i64 k, .int .i64 (p - x.a)], .int .i64 0]) HB1.out HFw.out (Nat.le_refl _) rfl (fun WE p0 p1 p2 p3 => by simp [results, go_sem, p0, p1, p2, p3]) (fun WE hF => ⟨by rw [← HE.out]; rfl, hF⟩)
                  · skip
                    have hps := HPOS.out
                    have e1 : (side < 0 ∧ p = x.a ∨ 0 ≤ side ∧ p = x.a + x.o) = False := eq_false (by omega)
                    have e2 : (0 < x.o ∧ p = x.a + x.o) = False := eq_false (by omega)
                    have e3 : (0 < x.o ∧ p = x.a) = False := eq_false (by omega)
                    have e4 : (side < 0) = False := eq_false (by omega)
                    have e5 : (x.a < p ∧ p < x.a + x.o) = True := eq_true (by omega)
                    have HE := Lib.hid (show ((⟨(x.a + D + x.n), true, k, (p - x.a)⟩ : Spot), (0 : Int)) = R by rw [← HRX2.out, refSpot, HD.out]; simp only [e1, if_true, if_false]; simp only [refLeft, e2, e3, if_true, if_false]; try simp only [e4, e5, decide_true, decide_false, reduceIte, Bool.false_eq_true, if_true, if_false])
                    clear e1 e2 e3 e4 e5 HRX2 HD hps
                    have b8 : 0 ≤ side := by omega
                    rw [decide_eq_false hs]
                    obtain ⟨t0, t1, t2, t3, g0, _, g2, g3, lt⟩ := HTT.out.f4
                    obtain ⟨d0, _, d2, dl⟩ := (HBx.out.fr HFT.out (fun h => h)).f3
                    go_upto_region 19 with (fail)
                    have HT5 := Lib.hid (HTT.out.set 0 (.int .i64 (x.a + D + x.n)))
                    have HF5 := Lib.hid (HFT.out.setCell (p := ⟨T, 0, none⟩) (.inr HLT.out) (.int .i64 (x.a + D + x.n)))
                    generalize wc.setCell ⟨T, 0, none⟩ (.int .i64 (x.a + D + x.n)) = w5 at HT5 HF5 ⊢
                    clear t0 t1 t2 t3 g0 g2 g3 lt d2 dl d0 HFT HTT
                    simp only [List.set_cons_zero, List.set_cons_succ] at HT5
                    obtain ⟨t0, t1, t2, t3, g0, _, g2, g3, lt⟩ := HT5.out.f4
                    obtain ⟨d0, _, d2, dl⟩ := (HBx.out.fr HF5.out (fun h => h)).f3
                    go_upto_region 22 with (fail)
                    have HB1 := Lib.hid (HXx.out.fr HF5.out (fun h => h))
                    have HFw := Lib.hid (HFx.out.same HF5.out)
                    obtain ⟨c0, c1, c2, c3, f0, f1, f2, f3, l6⟩ := HB1.out.f4
                    go_wp2_with fail
                    exact ret4 (v := .tuple #[.agg #[.int .i64 (x.a + D + x.n), .bool true, .int .i64 k, .int .i64 (p - x.a)], .int .i64 0]) HB1.out HFw.out (Nat.le_refl _) rfl (fun WE p0 p1 p2 p3 => by simp [results, go_sem, p0, p1, p2, p3]) (fun WE hF => ⟨by rw [← HE.out]; rfl, hF⟩)
      · have ht : ¬ ((k : Int) < (xs.length : Int)) := by omega
        obtain rfl : k = xs.length := by omega
        have hHk := HHk.out
        rw [List.drop_length, refHit] at hHk
        subst hHk
        have hrx := HRX.out
        simp only at hrx
        have HRX2 := Lib.hid hrx
        clear hrx HRX HHk HH0
        obtain ⟨N, hN⟩ : ∃ n, refCnt p xs = n := ⟨_, rfl⟩
        have HN := Lib.hid hN
        rw [hN] at HRX2
        clear hN
        go_wp2_with fail
        go_loopg [13] (xs.length) (fun n s13 wz => ∃ k : Nat, n = xs.length - k ∧ k ≤ xs.length ∧ s13 = .int .i64 k ∧ Hid (Fr Nob w wz) ∧ Hid (Blk wz w.heap.size [.int .i64 0, .bool false, .int .i64 0, .int .i64 0] 80) ∧ Hid (k + refCnt p (xs.drop k) = N))
        case atStart => exact ⟨0, rfl, Nat.zero_le _, rfl, HFr.out, HBr.out, by rw [List.drop_zero, Nat.zero_add]; exact HN.out⟩
        case round =>
          obtain ⟨k, rfl, hk, rfl, HFz, HBz, HCz⟩ := hrel
          have FIN : Hid (∀ j : Nat, j = N → j ≤ xs.length → (⟨p + dF xs j, false, -1, 0⟩, 0) = R) := fun j e _ => by rw [e]; exact HRX2.out
          by_cases hlt : k < xs.length
          · have ht : ((k : Int) < (xs.length : Int)) := by omega
            obtain ⟨ad, hAd, _, hlb, q0', q'⟩ := Rd.elt Rng.cells_len (by omega) (HRd.out.fr HFz.out (fun _ _ h => h.elim)) hlt
            subst hAd
            have hdr : xs.drop k = xs[k] :: xs.drop (k + 1) := List.drop_eq_getElem_cons hlt
            have hcz := HCz.out
            rw [hdr, refCnt] at hcz
            generalize xs[k] = x at q0' hcz
            simp only [Rng.cells, List.getElem?_cons_zero] at q0'
            clear q' hdr
            by_cases hap : x.a < p
            · rw [if_pos hap] at hcz
              have HCC := Lib.hid (show k + 1 + refCnt p (xs.drop (k + 1)) = N by omega)
              clear hcz
              go_wp2_with fail
              go_roundg (xs.length - (k + 1))
              case measure => omega
              case rel => exact ⟨k + 1, rfl, by omega, by first | rfl | go_num, HFz.out, HBz.out, HCC.out⟩
            · rw [if_neg hap, Nat.add_zero] at hcz
              have HE := Lib.hid (FIN.out k hcz hk)
              have hd := dF_bound xs HOK.out.2 k (by omega)
              clear hcz
              obtain ⟨hp0, hp1⟩ := HP.out
              obtain ⟨D, hD⟩ : ∃ D, dF xs k = D := ⟨_, rfl⟩
              have HD := Lib.hid hD
              rw [hD] at hd HE
              have hd0 : -262144 ≤ D := by omega
              have hd1 : D ≤ 262144 := by omega
              clear hD hd
              go_upto_region 26 with (fail)
              have KC : Hid (∀ n, Calls Tryz.prog 78 #[.slice (some ad) xs.length c, .int .i64 k] (wr.drewN n) fun e w' => e = .returned (.int .i64 D) ∧ ∃ m, w' = (wr.drewN n).drewN m) := fun n => by
                have h := shift_any M xs (some ad) c k (wr.drewN n) (HRd.out.fr (HFz.out.drewN n) (fun _ _ h => h.elim)) HOK.out.2 HOK.out.1 hk
                rw [HD.out] at h
                exact h
              go_wp2_with (fail)
              refine (KC.out 0).mono ?_
              rintro e w9 ⟨rfl, m, rfl⟩
              have HFw := Lib.hid ((HFz.out.drewN 0).drewN m)
              have HB1 := Lib.hid ((HBz.out.drewN 0).drewN m)
              generalize (wr.drewN 0).drewN m = w9 at HFw HB1 ⊢
              obtain ⟨c0, c1, c2, c3, f0, f1, f2, f3, l6⟩ := HB1.out.f4
              go_wp2_with fail
              exact ret4 (v := .tuple #[.agg #[.int .i64 (p + D), .bool false, .int .i64 (-1), .int .i64 0], .int .i64 0]) HB1.out HFw.out (Nat.le_refl _) rfl (fun WE p0 p1 p2 p3 => by simp [results, go_sem, p0, p1, p2, p3]) (fun WE hF => ⟨by rw [← HE.out]; rfl, hF⟩)
          · have ht : ¬ ((k : Int) < (xs.length : Int)) := by omega
            obtain rfl : k = xs.length := by omega
            have hcz := HCz.out
            rw [List.drop_length, refCnt, Nat.add_zero] at hcz
            have HE := Lib.hid (FIN.out xs.length hcz hk)
            have hd := dF_bound xs HOK.out.2 xs.length (Nat.le_refl _)
            clear hcz
            obtain ⟨hp0, hp1⟩ := HP.out
            obtain ⟨D, hD⟩ : ∃ D, dF xs xs.length = D := ⟨_, rfl⟩
            have HD := Lib.hid hD
            rw [hD] at hd HE
            have hd0 : -262144 ≤ D := by omega
            have hd1 : D ≤ 262144 := by omega
            clear hD hd
            go_upto_region 26 with (fail)
            have KC : Hid (∀ n, Calls Tryz.prog 78 #[.slice A xs.length c, .int .i64 xs.length] (wr.drewN n) fun e w' => e = .returned (.int .i64 D) ∧ ∃ m, w' = (wr.drewN n).drewN m) := fun n => by
              have h := shift_any M xs A c xs.length (wr.drewN n) (HRd.out.fr (HFz.out.drewN n) (fun _ _ h => h.elim)) HOK.out.2 HOK.out.1 hk
              rw [HD.out] at h
              exact h
            go_wp2_with (fail)
            refine (KC.out 0).mono ?_
            rintro e w9 ⟨rfl, m, rfl⟩
            have HFw := Lib.hid ((HFz.out.drewN 0).drewN m)
            have HB1 := Lib.hid ((HBz.out.drewN 0).drewN m)
            generalize (wr.drewN 0).drewN m = w9 at HFw HB1 ⊢
            obtain ⟨c0, c1, c2, c3, f0, f1, f2, f3, l6⟩ := HB1.out.f4
            go_wp2_with fail
            exact ret4 (v := .tuple #[.agg #[.int .i64 (p + D), .bool false, .int .i64 (-1), .int .i64 0], .int .i64 0]) HB1.out HFw.out (Nat.le_refl _) rfl (fun WE p0 p1 p2 p3 => by simp [results, go_sem, p0, p1, p2, p3]) (fun WE hF => ⟨by rw [← HE.out]; rfl, hF⟩)
end Go.Proofs.YtanbfplcldloeaaGreatDoor
