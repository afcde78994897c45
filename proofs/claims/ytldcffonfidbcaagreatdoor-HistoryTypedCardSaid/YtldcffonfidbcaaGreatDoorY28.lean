/- A part of the proof for chapter 10: Mapping; no conditions. -/
import Derived.Test.YtldcffonfidbcaaGreatDoorY08
import Derived.Test.YtldcffonfidbcaaGreatDoorY27
import Derived.Deep.RegionHeld3
/- Chapter 8: a place through all maps from one on. -/
namespace Go.Proofs.YtldcffonfidbcaaGreatDoor
open Go.RowKit
def lAt (ms : List OneM) (j : Int) : List Rng := (ms[j.toNat]?.map OneM.l).getD []
def nAt (l : List Rng) (i : Int) : Int := (l[i.toNat]?.getD ⟨0, 0, 0⟩).n
def mpGo (ms : List OneM) (side : Int) : Nat → Nat → Int → Bool → Spot × Int
  | 0, _, a, g => (⟨a, g, -1, 0⟩, 0)
  | f + 1, i, a, g =>
    match ms[i]? with
    | none => if 65536 < a then (⟨0, false, 0, 0⟩, 1) else (⟨a, g, -1, 0⟩, 0)
    | some x =>
      if (posmapF x.l a side).2 ≠ 0 then (⟨0, false, 0, 0⟩, 1)
      else if 0 ≤ (posmapF x.l a side).1.i ∧ (i : Int) < x.mir ∧ (posmapF x.l a side).1.i < ((lAt ms x.mir).length : Int) then
        mpGo ms side f (x.mir.toNat + 1) (recF (lAt ms x.mir) (posmapF x.l a side).1.i (min (posmapF x.l a side).1.o (nAt (lAt ms x.mir) (posmapF x.l a side).1.i))).1 g
      else mpGo ms side f (i + 1) (posmapF x.l a side).1.a (g || (posmapF x.l a side).1.g)
/-- 'Mapping.Map'. -/
def mapsF (ms : List OneM) (start p side : Int) : Spot × Int :=
  if start < 0 ∨ (ms.length : Int) < start ∨ p < 0 ∨ 65536 < p then (⟨0, false, 0, 0⟩, 1) else mpGo ms side (ms.length - start.toNat + 1) start.toNat p false
theorem store4 {W : World} {g : Nat} {t : TypeId} {x0 x1 x2 x3 : Value} (hg : Blk W g [x0, x1, x2, x3] t) (a b c d : Value) :
    ∀ WE, (((W.setCell ⟨g, 0, none⟩ a).setCell ⟨g, 1, none⟩ b).setCell ⟨g, 2, none⟩ c).setCell ⟨g, 3, none⟩ d = WE →
      Blk WE g [a, b, c, d] t ∧ ∀ (M : Nat → Prop) (w0 : World), Fr M w0 W → (M g ∨ w0.heap.size ≤ g) → Fr M w0 WE := by
  rintro WE rfl
  exact ⟨(((hg.set 0 a).set 1 b).set 2 c).set 3 d, fun M w0 hF h1 => (((hF.setCell (p := ⟨g, 0, none⟩) h1 a).setCell (p := ⟨g, 1, none⟩) h1 b).setCell (p := ⟨g, 2, none⟩) h1 c).setCell (p := ⟨g, 3, none⟩) h1 d⟩
set_option maxRecDepth 100000 in
set_option maxHeartbeats 4000000 in
theorem mapping_any (N : Nat → Prop) (base m : Nat) (v : Value) (ms : List OneM) (start p side : Int) (w : World) (hm : Mp N base w m v ms) (hn : ms.length ≤ 4096) :
    Calls Tryz.prog 116 #[.pointer (some ⟨m, 0, none⟩), .int .i64 start, .int .i64 p, .int .i64 side] w fun e w' => e = .returned (.tuple #[.agg (mapsF ms start p side).1.cells.toArray, .int .i64 (mapsF ms start p side).2]) ∧ Fr Nob w w' := by
  obtain ⟨R, hR⟩ : ∃ R, mapsF ms start p side = R := ⟨_, rfl⟩
  have HR := Lib.hid hR
  rw [hR]
  clear hR
  obtain ⟨VA, vc, rfl, hvc, hrv⟩ := Rd.of_own (M := Nob) hm.own (fun _ _ h => h)
  have HM := Lib.hid hm
  have d1 := hm.blk.cell 1
  have lm := hm.blk.lt
  simp only [List.getElem?_cons_zero, List.getElem?_cons_succ] at d1
  have HRV := Lib.hid hrv
  clear hm hrv
  go_enter Tryz.func116, Tryz.ntmps116
  go_upto_region 1 with (fail)
  obtain ⟨W, hW⟩ : ∃ W, w.alloc (.cells #[.int .i64 0, .bool false, .int .i64 0, .int .i64 0] 214) = W := ⟨_, rfl⟩
  have HF := Lib.hid (show Fr Nob w W by rw [← hW]; exact (Fr.refl _ _).alloc _)
  have HB8 := Lib.hid (show Blk W w.heap.size [.int .i64 0, .bool false, .int .i64 0, .int .i64 0] 214 by rw [← hW]; exact Blk.new _ _ _)
  rw [hW]
  clear hW d1 lm
  have HMW := Lib.hid (HM.out.fr0 HF.out)
  have HNO := Lib.hid (posnone_any m W (HMW.out.blk.cell 1))
  go_wp2_with fail
  refine HNO.out.mono ?_
  rintro e W ⟨rfl, rfl⟩
  have d0 := HMW.out.blk.cell 0
  have lm := HMW.out.blk.lt
  have l8 := HB8.out.lt
  have c0 := HB8.out.cell 0
  have c1 := HB8.out.cell 1
  have c2 := HB8.out.cell 2
  have c3 := HB8.out.cell 3
  have f0 := HB8.out.frozen 0
  have f1 := HB8.out.frozen 1
  have f2 := HB8.out.frozen 2
  have f3 := HB8.out.frozen 3
  simp only [List.getElem?_cons_zero, List.getElem?_cons_succ] at d0 c0 c1 c2 c3
  by_cases hbad : start < 0 ∨ (ms.length : Int) < start ∨ p < 0 ∨ 65536 < p
  · have HRR := Lib.hid (show (⟨0, false, 0, 0⟩, 1) = R by rw [← HR.out, mapsF, if_pos hbad])
    have HGO := HRR
    have HB8 := HB8
    by_cases b1 : start < 0
    · go_wp2_with fail
      obtain ⟨hw, hfr⟩ := store4 HB8.out (.int .i64 0) (.bool false) (.int .i64 0) (.int .i64 0) _ rfl
      have HFE := Lib.hid (hfr _ _ HF.out (.inr (Nat.le_refl _)))
      have p0 := hw.cell 0
      have p1 := hw.cell 1
      have p2 := hw.cell 2
      have p3 := hw.cell 3
      simp only [List.getElem?_cons_zero, List.getElem?_cons_succ] at p0 p1 p2 p3
      clear hw hfr
      generalize (((W.setCell ⟨w.heap.size, 0, none⟩ (.int .i64 0)).setCell ⟨w.heap.size, 1, none⟩ (.bool false)).setCell ⟨w.heap.size, 2, none⟩ (.int .i64 0)).setCell ⟨w.heap.size, 3, none⟩ (.int .i64 0) = WE at HFE p0 p1 p2 p3 ⊢
      exact bodyPost_ret (v := .tuple #[.agg #[.int .i64 0, .bool false, .int .i64 0, .int .i64 0], .int .i64 1]) (by simp [results, go_sem, p0, p1, p2, p3]) rfl ⟨by rw [← HGO.out]; rfl, HFE.out⟩
    · by_cases b2 : (ms.length : Int) < start
      · go_wp2_with fail
        obtain ⟨hw, hfr⟩ := store4 HB8.out (.int .i64 0) (.bool false) (.int .i64 0) (.int .i64 0) _ rfl
        have HFE := Lib.hid (hfr _ _ HF.out (.inr (Nat.le_refl _)))
        have p0 := hw.cell 0
        have p1 := hw.cell 1
        have p2 := hw.cell 2
        have p3 := hw.cell 3
        simp only [List.getElem?_cons_zero, List.getElem?_cons_succ] at p0 p1 p2 p3
        clear hw hfr
        generalize (((W.setCell ⟨w.heap.size, 0, none⟩ (.int .i64 0)).setCell ⟨w.heap.size, 1, none⟩ (.bool false)).setCell ⟨w.heap.size, 2, none⟩ (.int .i64 0)).setCell ⟨w.heap.size, 3, none⟩ (.int .i64 0) = WE at HFE p0 p1 p2 p3 ⊢
        exact bodyPost_ret (v := .tuple #[.agg #[.int .i64 0, .bool false, .int .i64 0, .int .i64 0], .int .i64 1]) (by simp [results, go_sem, p0, p1, p2, p3]) rfl ⟨by rw [← HGO.out]; rfl, HFE.out⟩
      · by_cases b3 : p < 0
        · go_wp2_with fail
          obtain ⟨hw, hfr⟩ := store4 HB8.out (.int .i64 0) (.bool false) (.int .i64 0) (.int .i64 0) _ rfl
          have HFE := Lib.hid (hfr _ _ HF.out (.inr (Nat.le_refl _)))
          have p0 := hw.cell 0
          have p1 := hw.cell 1
          have p2 := hw.cell 2
          have p3 := hw.cell 3
          simp only [List.getElem?_cons_zero, List.getElem?_cons_succ] at p0 p1 p2 p3
          clear hw hfr
          generalize (((W.setCell ⟨w.heap.size, 0, none⟩ (.int .i64 0)).setCell ⟨w.heap.size, 1, none⟩ (.bool false)).setCell ⟨w.heap.size, 2, none⟩ (.int .i64 0)).setCell ⟨w.heap.size, 3, none⟩ (.int .i64 0) = WE at HFE p0 p1 p2 p3 ⊢
          exact bodyPost_ret (v := .tuple #[.agg #[.int .i64 0, .bool false, .int .i64 0, .int .i64 0], .int .i64 1]) (by simp [results, go_sem, p0, p1, p2, p3]) rfl ⟨by rw [← HGO.out]; rfl, HFE.out⟩
        · have b4 : 65536 < p := by omega
          go_wp2_with fail
          obtain ⟨hw, hfr⟩ := store4 HB8.out (.int .i64 0) (.bool false) (.int .i64 0) (.int .i64 0) _ rfl
          have HFE := Lib.hid (hfr _ _ HF.out (.inr (Nat.le_refl _)))
          have p0 := hw.cell 0
          have p1 := hw.cell 1
          have p2 := hw.cell 2
          have p3 := hw.cell 3
          simp only [List.getElem?_cons_zero, List.getElem?_cons_succ] at p0 p1 p2 p3
          clear hw hfr
          generalize (((W.setCell ⟨w.heap.size, 0, none⟩ (.int .i64 0)).setCell ⟨w.heap.size, 1, none⟩ (.bool false)).setCell ⟨w.heap.size, 2, none⟩ (.int .i64 0)).setCell ⟨w.heap.size, 3, none⟩ (.int .i64 0) = WE at HFE p0 p1 p2 p3 ⊢
          exact bodyPost_ret (v := .tuple #[.agg #[.int .i64 0, .bool false, .int .i64 0, .int .i64 0], .int .i64 1]) (by simp [results, go_sem, p0, p1, p2, p3]) rfl ⟨by rw [← HGO.out]; rfl, HFE.out⟩
  · have b1 : ¬ start < 0 := by omega
    have b2 : ¬ (ms.length : Int) < start := by omega
    have b3 : ¬ p < 0 := by omega
    have b4 : ¬ 65536 < p := by omega
    have HRR := Lib.hid (show mpGo ms side (ms.length - start.toNat + 1) start.toNat p false = R by rw [← HR.out, mapsF, if_neg hbad])
    obtain ⟨st, rfl⟩ := Int.eq_ofNat_of_zero_le (show 0 ≤ start by omega)
    clear hbad
    go_upto_region 9 with (fail)
    obtain ⟨W2, hW2⟩ : ∃ W2, W.alloc (.cells #[.int .i64 p, .bool false, .int .i64 (-1), .int .i64 0] 214) = W2 := ⟨_, rfl⟩
    obtain ⟨B, hB⟩ : ∃ B, B = W.heap.size := ⟨_, rfl⟩
    have HF2 := Lib.hid (show Fr Nob w W2 by rw [← hW2]; exact HF.out.alloc _)
    have HB10 := Lib.hid (show Blk W2 B [.int .i64 p, .bool false, .int .i64 (-1), .int .i64 0] 214 by rw [← hW2, hB]; exact Blk.new _ _ _)
    have HB82 := Lib.hid (show Blk W2 w.heap.size [.int .i64 0, .bool false, .int .i64 0, .int .i64 0] 214 by rw [← hW2]; exact HB8.out.alloc _)
    have hB8B : w.heap.size < B := by rw [hB]; exact l8
    have HBL := Lib.hid hB8B
    have HMS := Lib.hid HM.out.blk.lt
    rw [hW2, ← hB]
    clear hW2 hB d0 lm l8 c0 c1 c2 c3 f0 f1 f2 f3 b1 b3 b4
    go_wp2_with fail
    rename (0 : Int) ≤ (st : Int) => hq1
    rename ¬ ms.length < st => hq2
    rename (0 : Int) ≤ p => hq3
    rename p ≤ 65536 => hq4
    have HST := Lib.hid (show st ≤ ms.length by omega)
    clear hq1 hq2 hq3 hq4 b2
    go_loopg [11] (ms.length + 1 - st) (fun n s11 wx => ∃ (fu i : Nat) (a : Int) (gg : Bool), n = ms.length + 1 - i ∧ i ≤ ms.length ∧ s11 = .int .i64 i ∧ Hid (Fr Nob w wx) ∧ Hid (Blk wx w.heap.size [.int .i64 0, .bool false, .int .i64 0, .int .i64 0] 214) ∧ Hid (Blk wx B [.int .i64 a, .bool gg, .int .i64 (-1), .int .i64 0] 214) ∧ ms.length - i + 1 ≤ fu ∧ Hid (mpGo ms side fu i a gg = R))
    case atStart => exact ⟨_, st, p, false, rfl, HST.out, rfl, HF2.out, HB82.out, HB10.out, by simp, HRR.out⟩
    case round =>
      obtain ⟨fu, i, a, gg, rfl, hi, rfl, HF, HB8, HB, hfu, HG⟩ := hrel
      obtain ⟨fu, rfl⟩ : ∃ k, fu = k + 1 := ⟨fu - 1, by omega⟩
      have HMr := Lib.hid (HM.out.fr0 HF.out)
      have d0 := HMr.out.blk.cell 0
      have lm := HMr.out.blk.lt
      have e0 := HB.out.cell 0
      have e1 := HB.out.cell 1
      have e2 := HB.out.cell 2
      have e3 := HB.out.cell 3
      have fe0 := HB.out.frozen 0
      have fe1 := HB.out.frozen 1
      have le := HB.out.lt
      simp only [List.getElem?_cons_zero, List.getElem?_cons_succ] at d0 e0 e1 e2 e3
      by_cases hlt : i < ms.length
      · have ht : ((i : Int) < (ms.length : Int)) := by omega
        have hx := List.getElem_mem hlt
        have HX := Lib.hid (HMr.out.rows _ hx)
        have HXR := Lib.hid (HMr.out.right _ hx)
        have HXM := Lib.hid (HMr.out.mirs _ hx)
        obtain ⟨ad, hA, _, hlb, q0, q⟩ := Rd.elt OneM.cells_len (by omega) (HRV.out.fr HF.out (fun _ _ h => h)) hlt
        subst hA
        have q1 := q 0 (by omega)
        clear q hx
        have hgo := HG.out
        rw [mpGo, List.getElem?_eq_getElem hlt] at hgo
        obtain ⟨x, hxx⟩ : ∃ x, ms[i] = x := ⟨_, rfl⟩
        have HXE := Lib.hid hxx
        rw [hxx] at HX HXR HXM q0 q1 hgo
        simp only at hgo
        simp only [OneM.cells, List.getElem?_cons_zero, List.getElem?_cons_succ, Nat.reduceAdd] at q0 q1
        have HGO := Lib.hid hgo
        clear hgo hxx HG
        obtain ⟨⟨sp, er⟩, hpm⟩ : ∃ r, posmapF x.l a side = r := ⟨_, rfl⟩
        have HPM := Lib.hid hpm
        obtain ⟨sa, sg, si, so⟩ := sp
        have HGO2 := Lib.hid (by have h := HGO.out; rw [hpm] at h; exact h)
        clear hpm HGO
        have KS : Hid (∀ W' : World, Fr Nob wr W' → W'.cell? ⟨m, 0, none⟩ = some (.slice (some ad) ms.length vc) ∧ W'.cell? (ad.add (i * 2)) = some (.slice x.A x.l.length x.c) ∧ W'.cell? ⟨B, 0, none⟩ = some (.int .i64 a)) := fun W' hF' => by
          obtain ⟨ad', e, _, _, q0', _⟩ := Rd.elt OneM.cells_len (by omega) ((HRV.out.fr HF.out (fun _ _ h => h)).fr hF' (fun _ _ h => h)) hlt
          injection e with e
          subst e
          refine ⟨(HMr.out.fr0 hF').blk.cell 0, ?_, (HB.out.fr hF' (fun h => h)).cell 0⟩
          rw [HXE.out] at q0'
          exact q0'
        have KC : Hid (∀ W' : World, Fr Nob wr W' → Calls Tryz.prog 152 #[.slice x.A x.l.length x.c, .int .i64 a, .int .i64 side] W' fun e w' => e = .returned (.tuple #[.agg #[.int .i64 sa, .bool sg, .int .i64 si, .int .i64 so], .int .i64 er]) ∧ Fr Nob W' w') := fun W' hF' => by
          have h := posmap_any N x.l x.A x.c a side W' (HX.out.fr hF' (fun _ _ h => h.elim)) HXR.out
          rw [HPM.out] at h
          exact h
        go_upto_region 12 with (fail)
        clear e1 e2 e3 fe0 fe1 q1 d0 q0 e0
        go_cut [12, 13] (fun s12 s13 wx => ∃ T, s12 = .pointer (some ⟨T, 0, none⟩) ∧ s13 = .int .i64 er ∧ Hid (Fr Nob wr wx) ∧ Hid (Blk wx T [.int .i64 sa, .bool sg, .int .i64 si, .int .i64 so] 214) ∧ Hid (wr.heap.size ≤ T))
        case first =>
          refine wp_region_held_drew (S := fun W' : World => W'.cell? ⟨m, 0, none⟩ = some (.slice (some ad) ms.length vc) ∧ W'.cell? (ad.add (i * 2)) = some (.slice x.A x.l.length x.c) ∧ W'.cell? ⟨B, 0, none⟩ = some (.int .i64 a)) (by kernel_rfl) (KS.out _ (Fr.refl _ _).drew) (fun _ => ?_)
          have HFD := Lib.hid ((Fr.refl Nob wr).drew)
          generalize wr.drew = wd at HFD ⊢
          have HSD := Lib.hid (KS.out wd HFD.out)
          refine take_by (i := 0) (v := .pointer (some ⟨m, 0, none⟩)) rfl HSD.out ?_
          refine take_by (i := 1) (v := .pointer (some ⟨m, 0, none⟩)) rfl HSD.out ?_
          refine take_by (i := 2) (v := .pointer (some ⟨m, 0, none⟩)) rfl HSD.out ?_
          refine take_by (i := 3) (v := .slice (some ad) ms.length vc) rfl HSD.out ?_
          refine take_by (i := 4) (v := .int .i64 i) rfl HSD.out ?_
          refine take_by (i := 5) (v := .pointer (some (ad.add (i * 2)))) rfl HSD.out ?_
          refine take_by (i := 6) (v := .pointer (some (ad.add (i * 2)))) rfl HSD.out ?_
          refine take_by (i := 7) (v := .slice x.A x.l.length x.c) rfl HSD.out ?_
          refine take_by (i := 8) (v := .pointer (some ⟨B, 0, none⟩)) rfl HSD.out ?_
          refine take_by (i := 9) (v := .int .i64 a) rfl HSD.out ?_
          refine take_by (i := 10) (v := .int .i64 side) rfl HSD.out ?_
          refine ready2 11 15 rfl rfl (fun K hK => ?_) (fun K hK => ?_)
          · go_simp
            refine (KC.out _ HFD.out).mono ?_
            rintro e w7 ⟨rfl, hF7⟩
            have HF7 := Lib.hid (HFD.out.same hF7)
            go_wp2_with fail
            refine hK.out _ _ (KS.out _ HF7.out) (fun _ => ?_)
            clear hK K
            try simp only [List.getElem_toArray, List.getElem_cons_succ, List.getElem_cons_zero, Act.put, List.setIfInBounds_toArray, List.set_cons_zero, List.set_cons_succ]
            refine take_by (i := 12) (v := .tuple #[.agg #[.int .i64 sa, .bool sg, .int .i64 si, .int .i64 so], .int .i64 er]) rfl (KS.out _ HF7.out) ?_
            refine take_by (i := 13) (v := .agg #[.int .i64 sa, .bool sg, .int .i64 si, .int .i64 so]) rfl (KS.out _ HF7.out) ?_
            refine take_by (i := 14) (v := .int .i64 er) rfl (KS.out _ HF7.out) ?_
            refine ready1 15 rfl (fun K hK => ?_)
            go_simp
            refine hK.out _ _ (KS.out _ (HF7.out.alloc _)) (fun _ => ?_)
            clear hK K
            try simp only [List.getElem_toArray, List.getElem_cons_succ, List.getElem_cons_zero, Act.put, List.setIfInBounds_toArray, List.set_cons_zero, List.set_cons_succ]
            have HT7 := Lib.hid (Blk.new w7 [.int .i64 0, .bool false, .int .i64 0, .int .i64 0] 214)
            have HF8 := Lib.hid (HF7.out.alloc (.cells #[.int .i64 0, .bool false, .int .i64 0, .int .i64 0] 214))
            have HL7 := Lib.hid HF7.out.size
            have HNW : Hid (w7.heap.size = w7.heap.size) := rfl
            generalize w7.alloc (.cells #[.int .i64 0, .bool false, .int .i64 0, .int .i64 0] 214) = w8 at HT7 HF8 ⊢
            have t0 := HT7.out.cell 0
            have t1 := HT7.out.cell 1
            have t2 := HT7.out.cell 2
            have t3 := HT7.out.cell 3
            have g0 := HT7.out.frozen 0
            have g1 := HT7.out.frozen 1
            have g2 := HT7.out.frozen 2
            have g3 := HT7.out.frozen 3
            have lt := HT7.out.lt
            simp only [List.getElem?_cons_zero, List.getElem?_cons_succ] at t0 t1 t2 t3
            refine ready1 16 rfl (fun K hK => ?_)
            go_simp
            obtain ⟨ht, hft⟩ := store4 HT7.out (.int .i64 sa) (.bool sg) (.int .i64 si) (.int .i64 so) _ rfl
            have HFT := Lib.hid (hft _ _ HF8.out (.inr HL7.out))
            have HTT := Lib.hid ht
            clear ht hft
            generalize (((w8.setCell ⟨w7.heap.size, 0, none⟩ (.int .i64 sa)).setCell ⟨w7.heap.size, 1, none⟩ (.bool sg)).setCell ⟨w7.heap.size, 2, none⟩ (.int .i64 si)).setCell ⟨w7.heap.size, 3, none⟩ (.int .i64 so) = w9 at hK HFT HTT ⊢
            refine hK.out _ _ (KS.out _ HFT.out) (fun _ => ?_)
            clear hK K
            try simp only [List.getElem_toArray, List.getElem_cons_succ, List.getElem_cons_zero, Act.put, List.setIfInBounds_toArray, List.set_cons_zero, List.set_cons_succ]
            clear t0 t1 t2 t3 g0 g1 g2 g3 lt
            refine ready1 17 rfl (fun K hK => ?_)
            go_simp
            refine hK.out _ _ (KS.out _ HFT.out) (fun _ => ?_)
            clear hK K
            refine done_by ?_
            go_wp2_with fail
            go_meet
            exact ⟨_, rfl, rfl, HFT.out, HTT.out, HL7.out⟩
          · go_simp
            refine hK.out _ _ (KS.out _ (HFD.out.alloc _)) (fun _ => ?_)
            clear hK K
            try simp only [List.getElem_toArray, List.getElem_cons_succ, List.getElem_cons_zero, Act.put, List.setIfInBounds_toArray, List.set_cons_zero, List.set_cons_succ]
            have HT8 := Lib.hid (Blk.new wd [.int .i64 0, .bool false, .int .i64 0, .int .i64 0] 214)
            have HF8 := Lib.hid (HFD.out.alloc (.cells #[.int .i64 0, .bool false, .int .i64 0, .int .i64 0] 214))
            have HL7 := Lib.hid HFD.out.size
            generalize wd.alloc (.cells #[.int .i64 0, .bool false, .int .i64 0, .int .i64 0] 214) = w8 at HT8 HF8 ⊢
            refine ready1 11 rfl (fun K hK => ?_)
            go_simp
            refine (KC.out _ HF8.out).mono ?_
            rintro e w7 ⟨rfl, hF7⟩
            have HF7 := Lib.hid (HF8.out.same hF7)
            have HT7 := Lib.hid (HT8.out.fr hF7 (fun h => h))
            clear hF7
            go_wp2_with fail
            refine hK.out _ _ (KS.out _ HF7.out) (fun _ => ?_)
            clear hK K
            try simp only [List.getElem_toArray, List.getElem_cons_succ, List.getElem_cons_zero, Act.put, List.setIfInBounds_toArray, List.set_cons_zero, List.set_cons_succ]
            refine take_by (i := 12) (v := .tuple #[.agg #[.int .i64 sa, .bool sg, .int .i64 si, .int .i64 so], .int .i64 er]) rfl (KS.out _ HF7.out) ?_
            refine take_by (i := 13) (v := .agg #[.int .i64 sa, .bool sg, .int .i64 si, .int .i64 so]) rfl (KS.out _ HF7.out) ?_
            refine take_by (i := 14) (v := .int .i64 er) rfl (KS.out _ HF7.out) ?_
            try simp only [List.getElem_toArray, List.getElem_cons_succ, List.getElem_cons_zero, Act.put, List.setIfInBounds_toArray, List.set_cons_zero, List.set_cons_succ]
            have t0 := HT7.out.cell 0
            have t1 := HT7.out.cell 1
            have t2 := HT7.out.cell 2
            have t3 := HT7.out.cell 3
            have g0 := HT7.out.frozen 0
            have g1 := HT7.out.frozen 1
            have g2 := HT7.out.frozen 2
            have g3 := HT7.out.frozen 3
            have lt := HT7.out.lt
            simp only [List.getElem?_cons_zero, List.getElem?_cons_succ] at t0 t1 t2 t3
            refine ready1 16 rfl (fun K hK => ?_)
            go_simp
            obtain ⟨ht, hft⟩ := store4 HT7.out (.int .i64 sa) (.bool sg) (.int .i64 si) (.int .i64 so) _ rfl
            have HFT := Lib.hid (hft _ _ HF7.out (.inr HL7.out))
            have HTT := Lib.hid ht
            clear ht hft
            generalize (((w7.setCell ⟨wd.heap.size, 0, none⟩ (.int .i64 sa)).setCell ⟨wd.heap.size, 1, none⟩ (.bool sg)).setCell ⟨wd.heap.size, 2, none⟩ (.int .i64 si)).setCell ⟨wd.heap.size, 3, none⟩ (.int .i64 so) = w9 at hK HFT HTT ⊢
            refine hK.out _ _ (KS.out _ HFT.out) (fun _ => ?_)
            clear hK K
            try simp only [List.getElem_toArray, List.getElem_cons_succ, List.getElem_cons_zero, Act.put, List.setIfInBounds_toArray, List.set_cons_zero, List.set_cons_succ]
            clear t0 t1 t2 t3 g0 g1 g2 g3 lt
            refine ready1 17 rfl (fun K hK => ?_)
            go_simp
            refine hK.out _ _ (KS.out _ HFT.out) (fun _ => ?_)
            clear hK K
            refine done_by ?_
            go_wp2_with fail
            go_meet
            exact ⟨_, rfl, rfl, HFT.out, HTT.out, HL7.out⟩
        case rest =>
          obtain ⟨T, rfl, rfl, HF3, HT, HTL⟩ := hcut
          have HFW := Lib.hid (HF.out.same HF3.out)
          have HB8c := Lib.hid (HB8.out.fr HF3.out (fun h => h))
          have HBc := Lib.hid (HB.out.fr HF3.out (fun h => h))
          have HMc := Lib.hid (HMr.out.fr0 HF3.out)
          by_cases her : er = 0
          · subst her
            have hgo := HGO2.out
            rw [if_neg (by simp)] at hgo
            simp only at hgo
            have HGO := Lib.hid hgo
            clear hgo
            have d0 := HMc.out.blk.cell 0
            have lm := HMc.out.blk.lt
            have t0 := HT.out.cell 0
            have t1 := HT.out.cell 1
            have t2 := HT.out.cell 2
            have t3 := HT.out.cell 3
            have lt := HT.out.lt
            obtain ⟨ad', eA, _, _, _, q⟩ := Rd.elt OneM.cells_len (by omega) ((HRV.out.fr HF.out (fun _ _ h => h)).fr HF3.out (fun _ _ h => h)) hlt
            injection eA with eA
            subst eA
            have q1 := q 0 (by omega)
            clear q
            rw [HXE.out] at q1
            simp only [OneM.cells, List.getElem?_cons_zero, List.getElem?_cons_succ, Nat.reduceAdd] at d0 t0 t1 t2 t3 q1
            obtain ⟨mj, hmj⟩ : ∃ mj, x.mir = mj := ⟨_, rfl⟩
            rw [hmj] at q1
            have HMJ := Lib.hid hmj
            clear hmj
            go_wp2_with fail
            go_cut [93] (fun s93 wx => s93 = .bool (decide (0 ≤ si ∧ (i : Int) < mj ∧ si < ((lAt ms mj).length : Int))) ∧ Hid (Fr Nob wr wx) ∧ Hid (Blk wx T [.int .i64 sa, .bool sg, .int .i64 si, .int .i64 so] 214))
            case first =>
              have HF4 := Lib.hid HF3.out.drew
              have HT4 := Lib.hid HT.out.drew
              by_cases h1 : 0 ≤ si
              · by_cases h2 : (i : Int) < mj
                · obtain ⟨jn, rfl⟩ := Int.eq_ofNat_of_zero_le (show 0 ≤ mj by omega)
                  have hjl : jn < ms.length := by have := HXM.out; rw [HMJ.out] at this; omega
                  have hjl' : ((jn : Int) < (ms.length : Int)) := by omega
                  obtain ⟨ad', eA, _, _, k0, _⟩ := Rd.elt OneM.cells_len (by omega) ((HRV.out.fr HF.out (fun _ _ h => h)).fr HF3.out (fun _ _ h => h)) hjl
                  injection eA with eA
                  subst eA
                  have HLA := Lib.hid (show lAt ms (jn : Int) = ms[jn].l by simp [lAt, hjl])
                  generalize ms[jn] = y at k0 HLA
                  simp only [OneM.cells, List.getElem?_cons_zero] at k0
                  by_cases h3 : si < (y.l.length : Int)
                  · have HC := Lib.hid (show (decide (0 ≤ si ∧ (i : Int) < (jn : Int) ∧ si < ((lAt ms (jn : Int)).length : Int))) = true by rw [HLA.out]; exact decide_eq_true ⟨h1, h2, h3⟩)
                    refine wp_region_still_lit (by kernel_rfl) (by kernel_rfl) (StillW.out ?_)
                    refine .step (fun K hK => ?_)
                    go_simp
                    refine hK _ ?_
                    clear hK K
                    refine .step (fun K hK => ?_)
                    go_simp
                    refine hK _ ?_
                    clear hK K
                    refine .step (fun K hK => ?_)
                    go_simp
                    refine hK _ ?_
                    clear hK K
                    refine .move (.bool true) rfl (by kernel_rfl) rfl ?_
                    simp only [Act.put, List.setIfInBounds_toArray, List.set_cons_zero, List.set_cons_succ]
                    refine .want (by kernel_rfl) (fun K hK => ?_)
                    go_simp
                    refine hK _ ?_
                    clear hK K
                    refine .want (by kernel_rfl) (fun K hK => ?_)
                    go_simp
                    refine hK _ ?_
                    clear hK K
                    refine .want (by kernel_rfl) (fun K hK => ?_)
                    go_simp
                    refine hK _ ?_
                    clear hK K
                    refine .pick true (.bool true) rfl (by kernel_rfl) rfl rfl ?_
                    simp only [Act.put, List.setIfInBounds_toArray, List.set_cons_zero, List.set_cons_succ]
                    refine .move (.bool true) rfl (by kernel_rfl) rfl ?_
                    simp only [Act.put, List.setIfInBounds_toArray, List.set_cons_zero, List.set_cons_succ]
                    refine .want (by kernel_rfl) (fun K hK => ?_)
                    go_simp
                    refine hK _ ?_
                    clear hK K
                    refine .want (by kernel_rfl) (fun K hK => ?_)
                    go_simp
                    refine hK _ ?_
                    clear hK K
                    refine .want (by kernel_rfl) (fun K hK => ?_)
                    go_simp
                    refine hK _ ?_
                    clear hK K
                    refine .want (by kernel_rfl) (fun K hK => ?_)
                    go_simp
                    refine hK _ ?_
                    clear hK K
                    refine .want (by kernel_rfl) (fun K hK => ?_)
                    go_simp
                    refine hK _ ?_
                    clear hK K
                    refine .want (by kernel_rfl) (fun K hK => ?_)
                    go_simp
                    refine hK _ ?_
                    clear hK K
                    refine .want (by kernel_rfl) (fun K hK => ?_)
                    go_simp
                    refine hK _ ?_
                    clear hK K
                    refine .want (by kernel_rfl) (fun K hK => ?_)
                    go_simp
                    refine hK _ ?_
                    clear hK K
                    refine .want (by kernel_rfl) (fun K hK => ?_)
                    go_simp
                    refine hK _ ?_
                    clear hK K
                    refine .want (by kernel_rfl) (fun K hK => ?_)
                    go_simp
                    refine hK _ ?_
                    clear hK K
                    refine .want (by kernel_rfl) (fun K hK => ?_)
                    go_simp
                    refine hK _ ?_
                    clear hK K
                    refine .want (by kernel_rfl) (fun K hK => ?_)
                    go_simp
                    refine hK _ ?_
                    clear hK K
                    refine .pick true (.bool true) rfl (by kernel_rfl) rfl rfl ?_
                    simp only [Act.put, List.setIfInBounds_toArray, List.set_cons_zero, List.set_cons_succ]
                    refine .nil ?_
                    go_wp2_with fail
                    go_meet
                    exact ⟨by rw [HC.out], HF4.out, HT4.out⟩
                  · have HC := Lib.hid (show (decide (0 ≤ si ∧ (i : Int) < (jn : Int) ∧ si < ((lAt ms (jn : Int)).length : Int))) = false by rw [HLA.out]; exact decide_eq_false (fun h => h3 h.2.2))
                    refine wp_region_still_lit (by kernel_rfl) (by kernel_rfl) (StillW.out ?_)
                    refine .step (fun K hK => ?_)
                    go_simp
                    refine hK _ ?_
                    clear hK K
                    refine .step (fun K hK => ?_)
                    go_simp
                    refine hK _ ?_
                    clear hK K
                    refine .step (fun K hK => ?_)
                    go_simp
                    refine hK _ ?_
                    clear hK K
                    refine .move (.bool true) rfl (by kernel_rfl) rfl ?_
                    simp only [Act.put, List.setIfInBounds_toArray, List.set_cons_zero, List.set_cons_succ]
                    refine .want (by kernel_rfl) (fun K hK => ?_)
                    go_simp
                    refine hK _ ?_
                    clear hK K
                    refine .want (by kernel_rfl) (fun K hK => ?_)
                    go_simp
                    refine hK _ ?_
                    clear hK K
                    refine .want (by kernel_rfl) (fun K hK => ?_)
                    go_simp
                    refine hK _ ?_
                    clear hK K
                    refine .pick true (.bool true) rfl (by kernel_rfl) rfl rfl ?_
                    simp only [Act.put, List.setIfInBounds_toArray, List.set_cons_zero, List.set_cons_succ]
                    refine .move (.bool true) rfl (by kernel_rfl) rfl ?_
                    simp only [Act.put, List.setIfInBounds_toArray, List.set_cons_zero, List.set_cons_succ]
                    refine .want (by kernel_rfl) (fun K hK => ?_)
                    go_simp
                    refine hK _ ?_
                    clear hK K
                    refine .want (by kernel_rfl) (fun K hK => ?_)
                    go_simp
                    refine hK _ ?_
                    clear hK K
                    refine .want (by kernel_rfl) (fun K hK => ?_)
                    go_simp
                    refine hK _ ?_
                    clear hK K
                    refine .want (by kernel_rfl) (fun K hK => ?_)
                    go_simp
                    refine hK _ ?_
                    clear hK K
                    refine .want (by kernel_rfl) (fun K hK => ?_)
                    go_simp
                    refine hK _ ?_
                    clear hK K
                    refine .want (by kernel_rfl) (fun K hK => ?_)
                    go_simp
                    refine hK _ ?_
                    clear hK K
                    refine .want (by kernel_rfl) (fun K hK => ?_)
                    go_simp
                    refine hK _ ?_
                    clear hK K
                    refine .want (by kernel_rfl) (fun K hK => ?_)
                    go_simp
                    refine hK _ ?_
                    clear hK K
                    refine .want (by kernel_rfl) (fun K hK => ?_)
                    go_simp
                    refine hK _ ?_
                    clear hK K
                    refine .want (by kernel_rfl) (fun K hK => ?_)
                    go_simp
                    refine hK _ ?_
                    clear hK K
                    refine .want (by kernel_rfl) (fun K hK => ?_)
                    go_simp
                    refine hK _ ?_
                    clear hK K
                    refine .want (by kernel_rfl) (fun K hK => ?_)
                    go_simp
                    refine hK _ ?_
                    clear hK K
                    refine .pick true (.bool false) rfl (by kernel_rfl) rfl rfl ?_
                    simp only [Act.put, List.setIfInBounds_toArray, List.set_cons_zero, List.set_cons_succ]
                    refine .nil ?_
                    go_wp2_with fail
                    go_meet
                    exact ⟨by rw [HC.out], HF4.out, HT4.out⟩
                · have HC := Lib.hid (show (decide (0 ≤ si ∧ (i : Int) < mj ∧ si < ((lAt ms mj).length : Int))) = false from decide_eq_false (fun h => h2 h.2.1))
                  refine wp_region_still_lit (by kernel_rfl) (by kernel_rfl) (StillW.out ?_)
                  refine .step (fun K hK => ?_)
                  go_simp
                  refine hK _ ?_
                  clear hK K
                  refine .step (fun K hK => ?_)
                  go_simp
                  refine hK _ ?_
                  clear hK K
                  refine .step (fun K hK => ?_)
                  go_simp
                  refine hK _ ?_
                  clear hK K
                  refine .move (.bool true) rfl (by kernel_rfl) rfl ?_
                  simp only [Act.put, List.setIfInBounds_toArray, List.set_cons_zero, List.set_cons_succ]
                  refine .want (by kernel_rfl) (fun K hK => ?_)
                  go_simp
                  refine hK _ ?_
                  clear hK K
                  refine .want (by kernel_rfl) (fun K hK => ?_)
                  go_simp
                  refine hK _ ?_
                  clear hK K
                  refine .want (by kernel_rfl) (fun K hK => ?_)
                  go_simp
                  refine hK _ ?_
                  clear hK K
                  refine .pick true (.bool false) rfl (by kernel_rfl) rfl rfl ?_
                  simp only [Act.put, List.setIfInBounds_toArray, List.set_cons_zero, List.set_cons_succ]
                  refine .move (.bool false) rfl (by kernel_rfl) rfl ?_
                  simp only [Act.put, List.setIfInBounds_toArray, List.set_cons_zero, List.set_cons_succ]
                  refine .skip (by kernel_rfl) ?_
                  simp only [Act.put, List.setIfInBounds_toArray, List.set_cons_zero, List.set_cons_succ]
                  refine .skip (by kernel_rfl) ?_
                  simp only [Act.put, List.setIfInBounds_toArray, List.set_cons_zero, List.set_cons_succ]
                  refine .skip (by kernel_rfl) ?_
                  simp only [Act.put, List.setIfInBounds_toArray, List.set_cons_zero, List.set_cons_succ]
                  refine .skip (by kernel_rfl) ?_
                  simp only [Act.put, List.setIfInBounds_toArray, List.set_cons_zero, List.set_cons_succ]
                  refine .skip (by kernel_rfl) ?_
                  simp only [Act.put, List.setIfInBounds_toArray, List.set_cons_zero, List.set_cons_succ]
                  refine .skip (by kernel_rfl) ?_
                  simp only [Act.put, List.setIfInBounds_toArray, List.set_cons_zero, List.set_cons_succ]
                  refine .skip (by kernel_rfl) ?_
                  simp only [Act.put, List.setIfInBounds_toArray, List.set_cons_zero, List.set_cons_succ]
                  refine .skip (by kernel_rfl) ?_
                  simp only [Act.put, List.setIfInBounds_toArray, List.set_cons_zero, List.set_cons_succ]
                  refine .skip (by kernel_rfl) ?_
                  simp only [Act.put, List.setIfInBounds_toArray, List.set_cons_zero, List.set_cons_succ]
                  refine .skip (by kernel_rfl) ?_
                  simp only [Act.put, List.setIfInBounds_toArray, List.set_cons_zero, List.set_cons_succ]
                  refine .skip (by kernel_rfl) ?_
                  simp only [Act.put, List.setIfInBounds_toArray, List.set_cons_zero, List.set_cons_succ]
                  refine .skip (by kernel_rfl) ?_
                  simp only [Act.put, List.setIfInBounds_toArray, List.set_cons_zero, List.set_cons_succ]
                  refine .pick false (.bool false) rfl (by kernel_rfl) rfl rfl ?_
                  simp only [Act.put, List.setIfInBounds_toArray, List.set_cons_zero, List.set_cons_succ]
                  refine .nil ?_
                  go_wp2_with fail
                  go_meet
                  exact ⟨by rw [HC.out], HF4.out, HT4.out⟩
              · have HC := Lib.hid (show (decide (0 ≤ si ∧ (i : Int) < mj ∧ si < ((lAt ms mj).length : Int))) = false from decide_eq_false (fun h => h1 h.1))
                refine wp_region_still_lit (by kernel_rfl) (by kernel_rfl) (StillW.out ?_)
                refine .step (fun K hK => ?_)
                go_simp
                refine hK _ ?_
                clear hK K
                refine .step (fun K hK => ?_)
                go_simp
                refine hK _ ?_
                clear hK K
                refine .step (fun K hK => ?_)
                go_simp
                refine hK _ ?_
                clear hK K
                refine .move (.bool false) rfl (by kernel_rfl) rfl ?_
                simp only [Act.put, List.setIfInBounds_toArray, List.set_cons_zero, List.set_cons_succ]
                refine .skip (by kernel_rfl) ?_
                simp only [Act.put, List.setIfInBounds_toArray, List.set_cons_zero, List.set_cons_succ]
                refine .skip (by kernel_rfl) ?_
                simp only [Act.put, List.setIfInBounds_toArray, List.set_cons_zero, List.set_cons_succ]
                refine .skip (by kernel_rfl) ?_
                simp only [Act.put, List.setIfInBounds_toArray, List.set_cons_zero, List.set_cons_succ]
                refine .pick false (.bool false) rfl (by kernel_rfl) rfl rfl ?_
                simp only [Act.put, List.setIfInBounds_toArray, List.set_cons_zero, List.set_cons_succ]
                refine .move (.bool false) rfl (by kernel_rfl) rfl ?_
                simp only [Act.put, List.setIfInBounds_toArray, List.set_cons_zero, List.set_cons_succ]
                refine .skip (by kernel_rfl) ?_
                simp only [Act.put, List.setIfInBounds_toArray, List.set_cons_zero, List.set_cons_succ]
                refine .skip (by kernel_rfl) ?_
                simp only [Act.put, List.setIfInBounds_toArray, List.set_cons_zero, List.set_cons_succ]
                refine .skip (by kernel_rfl) ?_
                simp only [Act.put, List.setIfInBounds_toArray, List.set_cons_zero, List.set_cons_succ]
                refine .skip (by kernel_rfl) ?_
                simp only [Act.put, List.setIfInBounds_toArray, List.set_cons_zero, List.set_cons_succ]
                refine .skip (by kernel_rfl) ?_
                simp only [Act.put, List.setIfInBounds_toArray, List.set_cons_zero, List.set_cons_succ]
                refine .skip (by kernel_rfl) ?_
                simp only [Act.put, List.setIfInBounds_toArray, List.set_cons_zero, List.set_cons_succ]
                refine .skip (by kernel_rfl) ?_
                simp only [Act.put, List.setIfInBounds_toArray, List.set_cons_zero, List.set_cons_succ]
                refine .skip (by kernel_rfl) ?_
                simp only [Act.put, List.setIfInBounds_toArray, List.set_cons_zero, List.set_cons_succ]
                refine .skip (by kernel_rfl) ?_
                simp only [Act.put, List.setIfInBounds_toArray, List.set_cons_zero, List.set_cons_succ]
                refine .skip (by kernel_rfl) ?_
                simp only [Act.put, List.setIfInBounds_toArray, List.set_cons_zero, List.set_cons_succ]
                refine .skip (by kernel_rfl) ?_
                simp only [Act.put, List.setIfInBounds_toArray, List.set_cons_zero, List.set_cons_succ]
                refine .skip (by kernel_rfl) ?_
                simp only [Act.put, List.setIfInBounds_toArray, List.set_cons_zero, List.set_cons_succ]
                refine .pick false (.bool false) rfl (by kernel_rfl) rfl rfl ?_
                simp only [Act.put, List.setIfInBounds_toArray, List.set_cons_zero, List.set_cons_succ]
                refine .nil ?_
                go_wp2_with fail
                go_meet
                exact ⟨by rw [HC.out], HF4.out, HT4.out⟩
            case rest =>
              obtain ⟨rfl, HF4, HT4⟩ := hcut
              have HFW := Lib.hid (HF.out.same HF4.out)
              have HB8c := Lib.hid (HB8.out.fr HF4.out (fun h => h))
              have HBc := Lib.hid (HB.out.fr HF4.out (fun h => h))
              have HMc := Lib.hid (HMr.out.fr0 HF4.out)
              clear d0 lm t0 t1 t2 t3 lt q1
              have HBT := Lib.hid (show B < T by have := HTL.out; omega)
              have HRB : Hid (Rd (fun k => w.heap.size ≤ k) w (some ad) (oneC ms)) := HRV.out.bound.mono (fun _ h => .inr h)
              by_cases hc : 0 ≤ si ∧ (i : Int) < mj ∧ si < ((lAt ms mj).length : Int)
              · rw [decide_eq_true (show 0 ≤ si ∧ (i : Int) < mj ∧ si < ((lAt ms mj).length : Int) from hc)]
                obtain ⟨h1, h2, h3⟩ := hc
                have hgo := HGO.out
                rw [HMJ.out, if_pos ⟨h1, h2, h3⟩] at hgo
                obtain ⟨jn, rfl⟩ := Int.eq_ofNat_of_zero_le (show 0 ≤ mj by omega)
                obtain ⟨sn, rfl⟩ := Int.eq_ofNat_of_zero_le h1
                have hjl : jn < ms.length := by have := HXM.out; rw [HMJ.out] at this; omega
                have hjl' : ((jn : Int) < (ms.length : Int)) := by omega
                have hLA : lAt ms (jn : Int) = ms[jn].l := by simp [lAt, hjl]
                rw [hLA] at h3 hgo
                have hym := List.getElem_mem hjl
                have HY0 := Lib.hid ((HM.out.rows _ hym).bound.mono (M' := fun k => w.heap.size ≤ k) (fun _ h => .inr h))
                have HYR := Lib.hid (HM.out.right _ hym)
                have HJ0 : Hid (∀ W' : World, Fr (fun k => k = B) wc W' → W'.cell? (ad.add (jn * 2)) = some (.slice ms[jn].A ms[jn].l.length ms[jn].c)) := fun W' hF' => by
                  obtain ⟨ad', eA, _, _, k0, _⟩ := Rd.elt OneM.cells_len (by omega) ((HRB.out.fr HFW.out (fun _ _ h => h.elim)).fr hF' (fun k _ e => by subst e; exact Nat.le_of_lt HBL.out)) hjl
                  injection eA with eA
                  subst eA
                  exact k0
                generalize ms[jn] = y at h3 hgo HY0 HYR HJ0
                have h3n : sn < y.l.length := by omega
                have h3' : ((sn : Int) < (y.l.length : Int)) := by omega
                have hnat : nAt y.l (sn : Int) = y.l[sn].n := by simp [nAt, h3n]
                rw [hnat, Int.toNat_natCast] at hgo
                have HGO3 := Lib.hid hgo
                have HY1 : Hid (∀ W' : World, Fr (fun k => k = B) wc W' → ∃ ya, y.A = some ya ∧ ya.block < W'.heap.size ∧ W'.cell? ⟨(ya.add (sn * 3)).block, (ya.add (sn * 3)).off + 2, none⟩ = some (.int .i64 y.l[sn].n)) := fun W' hF' => by
                  obtain ⟨ya, eA, _, hl, _, q⟩ := Rd.elt Rng.cells_len (by omega) ((HY0.out.fr HFW.out (fun _ _ h => h.elim)).fr hF' (fun k _ e => by subst e; exact Nat.le_of_lt HBL.out)) h3n
                  exact ⟨ya, eA, hl, q 1 (by omega)⟩
                obtain ⟨ya, hya, _⟩ := HY1.out wc (Fr.refl _ _)
                have KS0 : ∀ W' : World, Fr (fun k => k = B) wc W' → W'.cell? ⟨m, 0, none⟩ = some (.slice (some ad) ms.length vc) ∧ W'.cell? (ad.add (jn * 2)) = some (.slice (some ya) y.l.length y.c) ∧ W'.cell? ⟨T, 2, none⟩ = some (.int .i64 sn) ∧ W'.cell? ⟨T, 3, none⟩ = some (.int .i64 so) ∧ W'.cell? ⟨(ya.add (sn * 3)).block, (ya.add (sn * 3)).off + 2, none⟩ = some (.int .i64 y.l[sn].n) := fun W' hF' => by
                  obtain ⟨ya', e1, _, e2⟩ := HY1.out W' hF'
                  rw [hya] at e1
                  injection e1 with e1
                  subst e1
                  have hj := HJ0.out W' hF'
                  rw [hya] at hj
                  refine ⟨(HMc.out.blk.fr hF' (fun h => ?_)).cell 0, hj, (HT4.out.fr hF' (fun h => ?_)).cell 2, (HT4.out.fr hF' (fun h => ?_)).cell 3, e2⟩
                  · have : m = B := h
                    have := HBL.out
                    have := HMS.out
                    omega
                  · have : T = B := h
                    have := HBT.out
                    omega
                  · have : T = B := h
                    have := HBT.out
                    omega
                have KS := Lib.hid KS0
                clear KS0
                have HY2 : Hid (Rd (fun k => w.heap.size ≤ k) w (some ya) (rngC y.l)) := by have h := HY0.out; rw [hya] at h; exact h
                generalize hrg : y.l[sn] = rg at HGO3 KS
                clear hgo hnat hLA hym hrg HJ0 HY1 hya
                go_upto_region 17 with (fail)
                refine wp_region_held_drew (S := fun W' : World => W'.cell? ⟨m, 0, none⟩ = some (.slice (some ad) ms.length vc) ∧ W'.cell? (ad.add (jn * 2)) = some (.slice (some ya) y.l.length y.c) ∧ W'.cell? ⟨T, 2, none⟩ = some (.int .i64 sn) ∧ W'.cell? ⟨T, 3, none⟩ = some (.int .i64 so) ∧ W'.cell? ⟨(ya.add (sn * 3)).block, (ya.add (sn * 3)).off + 2, none⟩ = some (.int .i64 rg.n)) (by kernel_rfl) (KS.out _ (Fr.refl _ _).drew) (fun _ => ?_)
                have HFD : Hid (Fr (fun k => k = B) wc wc.drew) := (Fr.refl _ _).drew
                have HFN : Hid (Fr Nob w wc.drew) := HFW.out.drew
                have HBD : Hid (Blk wc.drew B [.int .i64 a, .bool gg, .int .i64 (-1), .int .i64 0] 214) := HBc.out.drew
                have HB8D : Hid (Blk wc.drew w.heap.size [.int .i64 0, .bool false, .int .i64 0, .int .i64 0] 214) := HB8c.out.drew
                generalize wc.drew = wd at HFD HFN HBD HB8D ⊢
                have HSD := Lib.hid (KS.out wd HFD.out)
                refine take_by (i := 0) (v := .pointer (some ⟨m, 0, none⟩)) rfl HSD.out ?_
                refine take_by (i := 1) (v := .pointer (some ⟨m, 0, none⟩)) rfl HSD.out ?_
                refine take_by (i := 2) (v := .pointer (some ⟨m, 0, none⟩)) rfl HSD.out ?_
                refine take_by (i := 3) (v := .slice (some ad) ms.length vc) rfl HSD.out ?_
                refine take_by (i := 4) (v := .int .i64 jn) rfl HSD.out ?_
                refine take_by (i := 5) (v := .pointer (some (ad.add (jn * 2)))) rfl HSD.out ?_
                refine take_by (i := 6) (v := .pointer (some (ad.add (jn * 2)))) rfl HSD.out ?_
                refine take_by (i := 7) (v := .slice (some ya) y.l.length y.c) rfl HSD.out ?_
                refine take_by (i := 8) (v := .pointer (some ⟨T, 2, none⟩)) rfl HSD.out ?_
                refine take_by (i := 9) (v := .int .i64 sn) rfl HSD.out ?_
                refine take_by (i := 10) (v := .pointer (some ⟨T, 3, none⟩)) rfl HSD.out ?_
                refine take_by (i := 11) (v := .int .i64 so) rfl HSD.out ?_
                refine take_by (i := 12) (v := .pointer (some ⟨m, 0, none⟩)) rfl HSD.out ?_
                refine take_by (i := 13) (v := .pointer (some ⟨m, 0, none⟩)) rfl HSD.out ?_
                refine take_by (i := 14) (v := .pointer (some ⟨m, 0, none⟩)) rfl HSD.out ?_
                refine take_by (i := 15) (v := .slice (some ad) ms.length vc) rfl HSD.out ?_
                refine take_by (i := 16) (v := .int .i64 jn) rfl HSD.out ?_
                refine take_by (i := 17) (v := .pointer (some (ad.add (jn * 2)))) rfl HSD.out ?_
                refine take_by (i := 18) (v := .pointer (some (ad.add (jn * 2)))) rfl HSD.out ?_
                refine take_by (i := 19) (v := .slice (some ya) y.l.length y.c) rfl HSD.out ?_
                refine take_by (i := 20) (v := .pointer (some ⟨T, 2, none⟩)) rfl HSD.out ?_
                refine take_by (i := 21) (v := .int .i64 sn) rfl HSD.out ?_
                refine take_by (i := 22) (v := .pointer (some (ya.add (sn * 3)))) rfl HSD.out ?_
                refine take_by (i := 23) (v := .pointer (some ⟨(ya.add (sn * 3)).block, (ya.add (sn * 3)).off + 2, none⟩)) rfl HSD.out ?_
                refine take_by (i := 24) (v := .int .i64 rg.n) rfl HSD.out ?_
                refine wpAnyH_take (i := 25) (v := .int .i64 (min so rg.n)) rfl (by kernel_rfl) (by kernel_rfl) (by kernel_rfl) (fun _ _ _ h => h) (Or.inl ⟨by rfl, fun w hSw => by (try dsimp only at hSw); go_simp; rw [Int.min_def]; split <;> split <;> omega⟩) HSD.out ?_
                refine ready1 26 rfl (fun K hK => ?_)
                go_simp
                have hrc := recover_any _ y.l (some ya) y.c sn (min so rg.n) wd (HY2.out.fr HFN.out (fun _ _ h => h.elim)) HYR.out
                refine hrc.mono ?_
                clear hrc
                rintro e w7 ⟨rfl, hF7⟩
                obtain ⟨⟨rv, re⟩, hre⟩ : ∃ r, recF y.l sn (min so rg.n) = r := ⟨_, rfl⟩
                have HRE := Lib.hid hre
                rw [hre]
                clear hre
                simp only
                have HF7 := Lib.hid (HFD.out.none hF7)
                have HFN7 := Lib.hid (HFN.out.same hF7)
                have HB7 := Lib.hid (HBD.out.fr hF7 (fun h => h))
                have HB87 := Lib.hid (HB8D.out.fr hF7 (fun h => h))
                clear hF7
                go_wp2_with fail
                refine hK.out _ _ (KS.out _ HF7.out) (fun _ => ?_)
                clear hK K
                try simp only [List.getElem_toArray, List.getElem_cons_succ, List.getElem_cons_zero, Act.put, List.setIfInBounds_toArray, List.set_cons_zero, List.set_cons_succ]
                refine take_by (i := 27) (v := .tuple #[.int .i64 rv, .int .i64 re]) rfl (KS.out _ HF7.out) ?_
                refine take_by (i := 28) (v := .int .i64 rv) rfl (KS.out _ HF7.out) ?_
                refine take_by (i := 29) (v := .int .i64 re) rfl (KS.out _ HF7.out) ?_
                refine take_by (i := 30) (v := .pointer (some ⟨B, 0, none⟩)) rfl (KS.out _ HF7.out) ?_
                try simp only [List.getElem_toArray, List.getElem_cons_succ, List.getElem_cons_zero, Act.put, List.setIfInBounds_toArray, List.set_cons_zero, List.set_cons_succ]
                have b0 := HB7.out.cell 0
                have fb := HB7.out.frozen 0
                have lb := HB7.out.lt
                simp only [List.getElem?_cons_zero] at b0
                refine ready1 31 rfl (fun K hK => ?_)
                go_simp
                have HF8 := Lib.hid (HF7.out.setCell (p := ⟨B, 0, none⟩) (.inl rfl) (.int .i64 rv))
                have HFN8 := Lib.hid (HFN7.out.setCell (p := ⟨B, 0, none⟩) (.inr (Nat.le_of_lt HBL.out)) (.int .i64 rv))
                have HB9 := Lib.hid (HB7.out.set 0 (.int .i64 rv))
                have HB89 := Lib.hid (HB87.out.far (p := ⟨B, 0, none⟩) (Nat.ne_of_lt HBL.out) (.int .i64 rv))
                generalize w7.setCell ⟨B, 0, none⟩ (.int .i64 rv) = w9 at hK HF8 HFN8 HB9 HB89 ⊢
                refine hK.out _ _ (KS.out _ HF8.out) (fun _ => ?_)
                clear hK K
                try simp only [List.getElem_toArray, List.getElem_cons_succ, List.getElem_cons_zero, Act.put, List.setIfInBounds_toArray, List.set_cons_zero, List.set_cons_succ]
                clear b0 fb lb
                refine done_by ?_
                go_wp2_with fail
                go_roundg (ms.length + 1 - (jn + 1))
                case measure => omega
                case rel => exact ⟨fu, jn + 1, rv, gg, rfl, by omega, by first | rfl | go_num, HFN8.out, HB89.out, HB9.out, by omega, by have h := HGO3.out; rw [HRE.out] at h; exact h⟩
              · rw [decide_eq_false hc]
                have hgo := HGO.out
                rw [HMJ.out, if_neg hc] at hgo
                have HGO3 := Lib.hid hgo
                clear hgo
                have t0 := HT4.out.cell 0
                have t1 := HT4.out.cell 1
                have b0 := HBc.out.cell 0
                have b1 := HBc.out.cell 1
                have g0 := HBc.out.frozen 0
                have g1 := HBc.out.frozen 1
                have lt := HT4.out.lt
                have lb := HBc.out.lt
                have hBT := HBT.out
                have hne1 : T ≠ B := by omega
                have hne2 : B ≠ T := by omega
                simp only [List.getElem?_cons_zero, List.getElem?_cons_succ] at t0 t1 b0 b1
                cases gg
                · go_upto_region 19 with (fail)
                  go_region
                  have HF8 : Hid (Fr Nob w ((wc.setCell ⟨B, 0, none⟩ (.int .i64 sa)).setCell ⟨B, 1, none⟩ (.bool sg)).drew) := ((HFW.out.setCell (p := ⟨B, 0, none⟩) (.inr (Nat.le_of_lt HBL.out)) _).setCell (p := ⟨B, 1, none⟩) (.inr (Nat.le_of_lt HBL.out)) _).drew
                  have HB9 : Hid (Blk ((wc.setCell ⟨B, 0, none⟩ (.int .i64 sa)).setCell ⟨B, 1, none⟩ (.bool sg)).drew B [.int .i64 sa, .bool sg, .int .i64 (-1), .int .i64 0] 214) := ((HBc.out.set 0 (.int .i64 sa)).set 1 (.bool sg)).drew
                  have HB89 : Hid (Blk ((wc.setCell ⟨B, 0, none⟩ (.int .i64 sa)).setCell ⟨B, 1, none⟩ (.bool sg)).drew w.heap.size [.int .i64 0, .bool false, .int .i64 0, .int .i64 0] 214) := ((HB8c.out.far (p := ⟨B, 0, none⟩) (Nat.ne_of_lt HBL.out) _).far (p := ⟨B, 1, none⟩) (Nat.ne_of_lt HBL.out) _).drew
                  generalize ((wc.setCell ⟨B, 0, none⟩ (.int .i64 sa)).setCell ⟨B, 1, none⟩ (.bool sg)).drew = w9 at HF8 HB9 HB89 ⊢
                  clear t0 t1 b0 b1 g0 g1 lt lb
                  go_wp2_with fail
                  go_roundg (ms.length + 1 - (i + 1))
                  case measure => omega
                  case rel => exact ⟨fu, i + 1, sa, sg, rfl, by omega, by first | rfl | go_num, HF8.out, HB89.out, HB9.out, by omega, Lib.hid (by have h := HGO3.out; simpa using h)⟩
                · go_upto_region 19 with (fail)
                  go_region
                  have HF8 : Hid (Fr Nob w ((wc.setCell ⟨B, 0, none⟩ (.int .i64 sa)).setCell ⟨B, 1, none⟩ (.bool true)).drew) := ((HFW.out.setCell (p := ⟨B, 0, none⟩) (.inr (Nat.le_of_lt HBL.out)) _).setCell (p := ⟨B, 1, none⟩) (.inr (Nat.le_of_lt HBL.out)) _).drew
                  have HB9 : Hid (Blk ((wc.setCell ⟨B, 0, none⟩ (.int .i64 sa)).setCell ⟨B, 1, none⟩ (.bool true)).drew B [.int .i64 sa, .bool true, .int .i64 (-1), .int .i64 0] 214) := ((HBc.out.set 0 (.int .i64 sa)).set 1 (.bool true)).drew
                  have HB89 : Hid (Blk ((wc.setCell ⟨B, 0, none⟩ (.int .i64 sa)).setCell ⟨B, 1, none⟩ (.bool true)).drew w.heap.size [.int .i64 0, .bool false, .int .i64 0, .int .i64 0] 214) := ((HB8c.out.far (p := ⟨B, 0, none⟩) (Nat.ne_of_lt HBL.out) _).far (p := ⟨B, 1, none⟩) (Nat.ne_of_lt HBL.out) _).drew
                  generalize ((wc.setCell ⟨B, 0, none⟩ (.int .i64 sa)).setCell ⟨B, 1, none⟩ (.bool true)).drew = w9 at HF8 HB9 HB89 ⊢
                  clear t0 t1 b0 b1 g0 g1 lt lb
                  go_wp2_with fail
                  go_roundg (ms.length + 1 - (i + 1))
                  case measure => omega
                  case rel => exact ⟨fu, i + 1, sa, true, rfl, by omega, by first | rfl | go_num, HF8.out, HB89.out, HB9.out, by omega, Lib.hid (by have h := HGO3.out; simpa using h)⟩
          · have her2 : (er != 0) = true := by simpa using her
            have hgo := HGO2.out
            rw [if_pos (by simpa using her)] at hgo
            have HGO := Lib.hid hgo
            clear hgo
            have c0 := HB8c.out.cell 0
            have c1 := HB8c.out.cell 1
            have c2 := HB8c.out.cell 2
            have c3 := HB8c.out.cell 3
            have f0 := HB8c.out.frozen 0
            have f1 := HB8c.out.frozen 1
            have f2 := HB8c.out.frozen 2
            have f3 := HB8c.out.frozen 3
            have l8 := HB8c.out.lt
            simp only [List.getElem?_cons_zero, List.getElem?_cons_succ] at c0 c1 c2 c3
            go_wp2_with fail
            obtain ⟨hw, hfr⟩ := store4 HB8c.out (.int .i64 0) (.bool false) (.int .i64 0) (.int .i64 0) _ rfl
            have HFE := Lib.hid (hfr _ _ HFW.out (.inr (Nat.le_refl _)))
            have p0 := hw.cell 0
            have p1 := hw.cell 1
            have p2 := hw.cell 2
            have p3 := hw.cell 3
            simp only [List.getElem?_cons_zero, List.getElem?_cons_succ] at p0 p1 p2 p3
            clear hw hfr
            generalize (((wc.setCell ⟨w.heap.size, 0, none⟩ (.int .i64 0)).setCell ⟨w.heap.size, 1, none⟩ (.bool false)).setCell ⟨w.heap.size, 2, none⟩ (.int .i64 0)).setCell ⟨w.heap.size, 3, none⟩ (.int .i64 0) = WE at HFE p0 p1 p2 p3 ⊢
            exact bodyPost_ret (v := .tuple #[.agg #[.int .i64 0, .bool false, .int .i64 0, .int .i64 0], .int .i64 1]) (by simp [results, go_sem, p0, p1, p2, p3]) rfl ⟨by rw [← HGO.out]; rfl, HFE.out⟩
      · have ht : ¬ ((i : Int) < (ms.length : Int)) := by omega
        obtain rfl : i = ms.length := by omega
        have hgo := HG.out
        rw [mpGo, List.getElem?_eq_none (Nat.le_refl _)] at hgo
        simp only at hgo
        have c0 := HB8.out.cell 0
        have c1 := HB8.out.cell 1
        have c2 := HB8.out.cell 2
        have c3 := HB8.out.cell 3
        have f0 := HB8.out.frozen 0
        have f1 := HB8.out.frozen 1
        have f2 := HB8.out.frozen 2
        have f3 := HB8.out.frozen 3
        have l8 := HB8.out.lt
        simp only [List.getElem?_cons_zero, List.getElem?_cons_succ] at c0 c1 c2 c3
        by_cases hbig : 65536 < a
        · rw [if_pos hbig] at hgo
          have HGO := Lib.hid hgo
          clear hgo
          go_wp2_with fail
          obtain ⟨hw, hfr⟩ := store4 HB8.out (.int .i64 0) (.bool false) (.int .i64 0) (.int .i64 0) _ rfl
          have HFE := Lib.hid (hfr _ _ HF.out (.inr (Nat.le_refl _)))
          have p0 := hw.cell 0
          have p1 := hw.cell 1
          have p2 := hw.cell 2
          have p3 := hw.cell 3
          simp only [List.getElem?_cons_zero, List.getElem?_cons_succ] at p0 p1 p2 p3
          clear hw hfr
          generalize (((wr.setCell ⟨w.heap.size, 0, none⟩ (.int .i64 0)).setCell ⟨w.heap.size, 1, none⟩ (.bool false)).setCell ⟨w.heap.size, 2, none⟩ (.int .i64 0)).setCell ⟨w.heap.size, 3, none⟩ (.int .i64 0) = WE at HFE p0 p1 p2 p3 ⊢
          exact bodyPost_ret (v := .tuple #[.agg #[.int .i64 0, .bool false, .int .i64 0, .int .i64 0], .int .i64 1]) (by simp [results, go_sem, p0, p1, p2, p3]) rfl ⟨by rw [← HGO.out]; rfl, HFE.out⟩
        · rw [if_neg hbig] at hgo
          have HGO := Lib.hid hgo
          clear hgo
          go_wp2_with fail
          obtain ⟨hw, hfr⟩ := store4 HB8.out (.int .i64 a) (.bool gg) (.int .i64 (-1)) (.int .i64 0) _ rfl
          have HFE := Lib.hid (hfr _ _ HF.out (.inr (Nat.le_refl _)))
          have p0 := hw.cell 0
          have p1 := hw.cell 1
          have p2 := hw.cell 2
          have p3 := hw.cell 3
          simp only [List.getElem?_cons_zero, List.getElem?_cons_succ] at p0 p1 p2 p3
          clear hw hfr
          generalize (((wr.setCell ⟨w.heap.size, 0, none⟩ (.int .i64 a)).setCell ⟨w.heap.size, 1, none⟩ (.bool gg)).setCell ⟨w.heap.size, 2, none⟩ (.int .i64 (-1))).setCell ⟨w.heap.size, 3, none⟩ (.int .i64 0) = WE at HFE p0 p1 p2 p3 ⊢
          exact bodyPost_ret (v := .tuple #[.agg #[.int .i64 a, .bool gg, .int .i64 (-1), .int .i64 0], .int .i64 0]) (by simp [results, go_sem, p0, p1, p2, p3]) rfl ⟨by rw [← HGO.out]; rfl, HFE.out⟩
end Go.Proofs.YtldcffonfidbcaaGreatDoor
