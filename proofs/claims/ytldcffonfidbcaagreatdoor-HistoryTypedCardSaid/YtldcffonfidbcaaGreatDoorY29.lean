/- A part of the proof for chapter 10: RemTo; no conditions. -/
import Derived.Test.YtldcffonfidbcaaGreatDoorY20
import Derived.Test.YtldcffonfidbcaaGreatDoorY28
/- Chapter 10: a place through maps, by the step's own function. -/
namespace Go.Proofs.YtldcffonfidbcaaGreatDoor
open Go.RowKit
set_option maxRecDepth 100000 in
set_option maxHeartbeats 4000000 in
theorem to_any (N : Nat → Prop) (base m : Nat) (v : Value) (ms : List OneM) (X Y Z : Nat) (fr p side : Int) (fine : Bool) (w : World) (hm : Mp N base w m v ms) (hn : ms.length ≤ 4096)
    (hX : Blk w X [.func (.func 116) #[.pointer (some ⟨m, 0, none⟩)] #[]] 212) (hY : Blk w Y [.int .i64 fr] 3) (hZ : Blk w Z [.bool fine] 4) :
    Calls Tryz.prog 117 #[.int .i64 p, .int .i64 side, .pointer (some ⟨X, 0, none⟩), .pointer (some ⟨Y, 0, none⟩), .pointer (some ⟨Z, 0, none⟩)] w fun e w' => e = .returned (.agg (mapsF ms fr p side).1.cells.toArray) ∧ Blk w' Z [.bool (fine && (mapsF ms fr p side).2 == 0)] 4 ∧ Fr (One Z) w w' := by
  obtain ⟨R, hR⟩ : ∃ R, mapsF ms fr p side = R := ⟨_, rfl⟩
  have HR := Lib.hid hR
  rw [hR]
  clear hR
  obtain ⟨W, hW⟩ : ∃ W, w.alloc (.cells #[.int .i64 0, .bool false, .int .i64 0, .int .i64 0] 214) = W := ⟨_, rfl⟩
  have HF := Lib.hid (show Fr Nob w W by rw [← hW]; exact (Fr.refl _ _).alloc _)
  have HB := Lib.hid (show Blk W w.heap.size [.int .i64 0, .bool false, .int .i64 0, .int .i64 0] 214 by rw [← hW]; exact Blk.new _ _ _)
  have HX := Lib.hid (hX.fr HF.out (fun h => h))
  have HY := Lib.hid (hY.fr HF.out (fun h => h))
  have HZ := Lib.hid (hZ.fr HF.out (fun h => h))
  have HM := Lib.hid (hm.fr0 HF.out)
  have HZl := Lib.hid hZ.lt
  clear hm hX hY hZ
  go_enter Tryz.func117, Tryz.ntmps117
  go_upto_region 1 with (fail)
  clear hW
  have x0 := HX.out.cell 0
  have y0 := HY.out.cell 0
  have xl := HX.out.lt
  have yl := HY.out.lt
  simp only [List.getElem?_cons_zero, List.getElem?_cons_succ] at x0 y0
  have HMP := Lib.hid (mapping_any N base m v ms fr p side W HM.out hn)
  rw [HR.out] at HMP
  go_wp2_with fail
  refine HMP.out.mono ?_
  rintro e w1 ⟨rfl, hF1⟩
  clear x0 y0 xl yl
  obtain ⟨⟨sa, sg, si, so⟩, re⟩ := R
  simp only [Spot.cells, spotC] at *
  have HF1 := Lib.hid (HF.out.same hF1)
  have HB1 := Lib.hid (HB.out.fr hF1 (fun h => h))
  have HZ1 := Lib.hid (HZ.out.fr hF1 (fun h => h))
  clear hF1
  go_upto_region 2 with (fail)
  obtain ⟨W2, hW2⟩ : ∃ W2, w1.alloc (.cells #[.int .i64 sa, .bool sg, .int .i64 si, .int .i64 so] 214) = W2 := ⟨_, rfl⟩
  have HF2 := Lib.hid (show Fr Nob w W2 by rw [← hW2]; exact HF1.out.alloc _)
  have HS2 := Lib.hid (show Blk W2 w1.heap.size [.int .i64 sa, .bool sg, .int .i64 si, .int .i64 so] 214 by rw [← hW2]; exact Blk.new _ _ _)
  have HB2 := Lib.hid (show Blk W2 w.heap.size [.int .i64 0, .bool false, .int .i64 0, .int .i64 0] 214 by rw [← hW2]; exact HB1.out.alloc _)
  have HZ2 := Lib.hid (show Blk W2 Z [.bool fine] 4 by rw [← hW2]; exact HZ1.out.alloc _)
  rw [hW2]
  clear hW2
  have FIN : Hid (∀ b : Bool, b = (fine && re == 0) → ∀ W3, W2.setCell ⟨Z, 0, none⟩ (.bool b) = W3 →
      Blk W3 w1.heap.size [.int .i64 sa, .bool sg, .int .i64 si, .int .i64 so] 214 ∧ Blk W3 w.heap.size [.int .i64 0, .bool false, .int .i64 0, .int .i64 0] 214 ∧ Blk W3 Z [.bool (fine && re == 0)] 4 ∧ Fr (One Z) w W3) := fun b hb W3 hW3 => by
    rw [← hW3, ← hb]
    have hz := HZl.out
    have h1 := HF1.out.size
    exact ⟨HS2.out.far (show w1.heap.size ≠ Z by omega) _, HB2.out.far (show w.heap.size ≠ Z by omega) _, HZ2.out.set 0 _, Fr.setCell (M := One Z) (p := ⟨Z, 0, none⟩) HF2.out.any (.inl rfl) _⟩
  have z0 := HZ2.out.cell 0
  have zf := HZ2.out.frozen 0
  have zl := HZ2.out.lt
  have s0 := HS2.out.lt
  simp only [List.getElem?_cons_zero, List.getElem?_cons_succ] at z0
  obtain ⟨q, hq⟩ : ∃ q, (re == 0) = q := ⟨_, rfl⟩
  have HQ := Lib.hid hq
  cases fine <;> cases q
  · go_upto_region 3 with (fail)
    obtain ⟨W3, hW3⟩ : ∃ W3, W2.setCell ⟨Z, 0, none⟩ (.bool false) = W3 := ⟨_, rfl⟩
    obtain ⟨hs3, hb3, hz3, hf3⟩ := FIN.out false (by rw [HQ.out]; rfl) W3 hW3
    rw [hW3]
    clear hW3 z0 zf zl s0
    have HB3 := Lib.hid hb3
    have HZ3 := Lib.hid hz3
    have HF3 := Lib.hid hf3
    have s0 := hs3.cell 0
    have s1 := hs3.cell 1
    have s2 := hs3.cell 2
    have s3 := hs3.cell 3
    have sl := hs3.lt
    have y0 := hb3.frozen 0
    have y1 := hb3.frozen 1
    have y2 := hb3.frozen 2
    have y3 := hb3.frozen 3
    have yl := hb3.lt
    have e0 := hb3.cell 0
    have e1 := hb3.cell 1
    have e2 := hb3.cell 2
    have e3 := hb3.cell 3
    simp only [List.getElem?_cons_zero, List.getElem?_cons_succ] at s0 s1 s2 s3 e0 e1 e2 e3
    clear hs3 hb3 hz3 hf3
    go_wp2_with fail
    obtain ⟨hb9, hfr⟩ := store4 HB3.out (.int .i64 sa) (.bool sg) (.int .i64 si) (.int .i64 so) _ rfl
    have hf9 := hfr (One Z) w HF3.out (.inr (Nat.le_refl _))
    have hz9 : Blk ((((W3.setCell ⟨w.heap.size, 0, none⟩ (.int .i64 sa)).setCell ⟨w.heap.size, 1, none⟩ (.bool sg)).setCell ⟨w.heap.size, 2, none⟩ (.int .i64 si)).setCell ⟨w.heap.size, 3, none⟩ (.int .i64 so)) Z [.bool (false && re == 0)] 4 := by
      have hz := HZl.out
      exact (((HZ3.out.far (show Z ≠ w.heap.size by omega) _).far (show Z ≠ w.heap.size by omega) _).far (show Z ≠ w.heap.size by omega) _).far (show Z ≠ w.heap.size by omega) _
    clear s0 s1 s2 s3 sl y0 y1 y2 y3 yl e0 e1 e2 e3 hfr
    generalize ((((W3.setCell ⟨w.heap.size, 0, none⟩ (.int .i64 sa)).setCell ⟨w.heap.size, 1, none⟩ (.bool sg)).setCell ⟨w.heap.size, 2, none⟩ (.int .i64 si)).setCell ⟨w.heap.size, 3, none⟩ (.int .i64 so)) = W9 at hb9 hf9 hz9 ⊢
    have e0 := hb9.cell 0
    have e1 := hb9.cell 1
    have e2 := hb9.cell 2
    have e3 := hb9.cell 3
    simp only [List.getElem?_cons_zero, List.getElem?_cons_succ] at e0 e1 e2 e3
    exact bodyPost_ret (v := .agg #[.int .i64 sa, .bool sg, .int .i64 si, .int .i64 so]) (by simp [results, go_sem, e0, e1, e2, e3]) rfl ⟨rfl, by rw [HQ.out] at hz9; exact hz9, hf9⟩
  · go_upto_region 3 with (fail)
    obtain ⟨W3, hW3⟩ : ∃ W3, W2.setCell ⟨Z, 0, none⟩ (.bool false) = W3 := ⟨_, rfl⟩
    obtain ⟨hs3, hb3, hz3, hf3⟩ := FIN.out false (by rw [HQ.out]; rfl) W3 hW3
    rw [hW3]
    clear hW3 z0 zf zl s0
    have HB3 := Lib.hid hb3
    have HZ3 := Lib.hid hz3
    have HF3 := Lib.hid hf3
    have s0 := hs3.cell 0
    have s1 := hs3.cell 1
    have s2 := hs3.cell 2
    have s3 := hs3.cell 3
    have sl := hs3.lt
    have y0 := hb3.frozen 0
    have y1 := hb3.frozen 1
    have y2 := hb3.frozen 2
    have y3 := hb3.frozen 3
    have yl := hb3.lt
    have e0 := hb3.cell 0
    have e1 := hb3.cell 1
    have e2 := hb3.cell 2
    have e3 := hb3.cell 3
    simp only [List.getElem?_cons_zero, List.getElem?_cons_succ] at s0 s1 s2 s3 e0 e1 e2 e3
    clear hs3 hb3 hz3 hf3
    go_wp2_with fail
    obtain ⟨hb9, hfr⟩ := store4 HB3.out (.int .i64 sa) (.bool sg) (.int .i64 si) (.int .i64 so) _ rfl
    have hf9 := hfr (One Z) w HF3.out (.inr (Nat.le_refl _))
    have hz9 : Blk ((((W3.setCell ⟨w.heap.size, 0, none⟩ (.int .i64 sa)).setCell ⟨w.heap.size, 1, none⟩ (.bool sg)).setCell ⟨w.heap.size, 2, none⟩ (.int .i64 si)).setCell ⟨w.heap.size, 3, none⟩ (.int .i64 so)) Z [.bool (false && re == 0)] 4 := by
      have hz := HZl.out
      exact (((HZ3.out.far (show Z ≠ w.heap.size by omega) _).far (show Z ≠ w.heap.size by omega) _).far (show Z ≠ w.heap.size by omega) _).far (show Z ≠ w.heap.size by omega) _
    clear s0 s1 s2 s3 sl y0 y1 y2 y3 yl e0 e1 e2 e3 hfr
    generalize ((((W3.setCell ⟨w.heap.size, 0, none⟩ (.int .i64 sa)).setCell ⟨w.heap.size, 1, none⟩ (.bool sg)).setCell ⟨w.heap.size, 2, none⟩ (.int .i64 si)).setCell ⟨w.heap.size, 3, none⟩ (.int .i64 so)) = W9 at hb9 hf9 hz9 ⊢
    have e0 := hb9.cell 0
    have e1 := hb9.cell 1
    have e2 := hb9.cell 2
    have e3 := hb9.cell 3
    simp only [List.getElem?_cons_zero, List.getElem?_cons_succ] at e0 e1 e2 e3
    exact bodyPost_ret (v := .agg #[.int .i64 sa, .bool sg, .int .i64 si, .int .i64 so]) (by simp [results, go_sem, e0, e1, e2, e3]) rfl ⟨rfl, by rw [HQ.out] at hz9; exact hz9, hf9⟩
  · go_upto_region 3 with (fail)
    obtain ⟨W3, hW3⟩ : ∃ W3, W2.setCell ⟨Z, 0, none⟩ (.bool false) = W3 := ⟨_, rfl⟩
    obtain ⟨hs3, hb3, hz3, hf3⟩ := FIN.out false (by rw [HQ.out]; rfl) W3 hW3
    rw [hW3]
    clear hW3 z0 zf zl s0
    have HB3 := Lib.hid hb3
    have HZ3 := Lib.hid hz3
    have HF3 := Lib.hid hf3
    have s0 := hs3.cell 0
    have s1 := hs3.cell 1
    have s2 := hs3.cell 2
    have s3 := hs3.cell 3
    have sl := hs3.lt
    have y0 := hb3.frozen 0
    have y1 := hb3.frozen 1
    have y2 := hb3.frozen 2
    have y3 := hb3.frozen 3
    have yl := hb3.lt
    have e0 := hb3.cell 0
    have e1 := hb3.cell 1
    have e2 := hb3.cell 2
    have e3 := hb3.cell 3
    simp only [List.getElem?_cons_zero, List.getElem?_cons_succ] at s0 s1 s2 s3 e0 e1 e2 e3
    clear hs3 hb3 hz3 hf3
    go_wp2_with fail
    obtain ⟨hb9, hfr⟩ := store4 HB3.out (.int .i64 sa) (.bool sg) (.int .i64 si) (.int .i64 so) _ rfl
    have hf9 := hfr (One Z) w HF3.out (.inr (Nat.le_refl _))
    have hz9 : Blk ((((W3.setCell ⟨w.heap.size, 0, none⟩ (.int .i64 sa)).setCell ⟨w.heap.size, 1, none⟩ (.bool sg)).setCell ⟨w.heap.size, 2, none⟩ (.int .i64 si)).setCell ⟨w.heap.size, 3, none⟩ (.int .i64 so)) Z [.bool (true && re == 0)] 4 := by
      have hz := HZl.out
      exact (((HZ3.out.far (show Z ≠ w.heap.size by omega) _).far (show Z ≠ w.heap.size by omega) _).far (show Z ≠ w.heap.size by omega) _).far (show Z ≠ w.heap.size by omega) _
    clear s0 s1 s2 s3 sl y0 y1 y2 y3 yl e0 e1 e2 e3 hfr
    generalize ((((W3.setCell ⟨w.heap.size, 0, none⟩ (.int .i64 sa)).setCell ⟨w.heap.size, 1, none⟩ (.bool sg)).setCell ⟨w.heap.size, 2, none⟩ (.int .i64 si)).setCell ⟨w.heap.size, 3, none⟩ (.int .i64 so)) = W9 at hb9 hf9 hz9 ⊢
    have e0 := hb9.cell 0
    have e1 := hb9.cell 1
    have e2 := hb9.cell 2
    have e3 := hb9.cell 3
    simp only [List.getElem?_cons_zero, List.getElem?_cons_succ] at e0 e1 e2 e3
    exact bodyPost_ret (v := .agg #[.int .i64 sa, .bool sg, .int .i64 si, .int .i64 so]) (by simp [results, go_sem, e0, e1, e2, e3]) rfl ⟨rfl, by rw [HQ.out] at hz9; exact hz9, hf9⟩
  · go_upto_region 3 with (fail)
    obtain ⟨W3, hW3⟩ : ∃ W3, W2.setCell ⟨Z, 0, none⟩ (.bool true) = W3 := ⟨_, rfl⟩
    obtain ⟨hs3, hb3, hz3, hf3⟩ := FIN.out true (by rw [HQ.out]; rfl) W3 hW3
    rw [hW3]
    clear hW3 z0 zf zl s0
    have HB3 := Lib.hid hb3
    have HZ3 := Lib.hid hz3
    have HF3 := Lib.hid hf3
    have s0 := hs3.cell 0
    have s1 := hs3.cell 1
    have s2 := hs3.cell 2
    have s3 := hs3.cell 3
    have sl := hs3.lt
    have y0 := hb3.frozen 0
    have y1 := hb3.frozen 1
    have y2 := hb3.frozen 2
    have y3 := hb3.frozen 3
    have yl := hb3.lt
    have e0 := hb3.cell 0
    have e1 := hb3.cell 1
    have e2 := hb3.cell 2
    have e3 := hb3.cell 3
    simp only [List.getElem?_cons_zero, List.getElem?_cons_succ] at s0 s1 s2 s3 e0 e1 e2 e3
    clear hs3 hb3 hz3 hf3
    go_wp2_with fail
    obtain ⟨hb9, hfr⟩ := store4 HB3.out (.int .i64 sa) (.bool sg) (.int .i64 si) (.int .i64 so) _ rfl
    have hf9 := hfr (One Z) w HF3.out (.inr (Nat.le_refl _))
    have hz9 : Blk ((((W3.setCell ⟨w.heap.size, 0, none⟩ (.int .i64 sa)).setCell ⟨w.heap.size, 1, none⟩ (.bool sg)).setCell ⟨w.heap.size, 2, none⟩ (.int .i64 si)).setCell ⟨w.heap.size, 3, none⟩ (.int .i64 so)) Z [.bool (true && re == 0)] 4 := by
      have hz := HZl.out
      exact (((HZ3.out.far (show Z ≠ w.heap.size by omega) _).far (show Z ≠ w.heap.size by omega) _).far (show Z ≠ w.heap.size by omega) _).far (show Z ≠ w.heap.size by omega) _
    clear s0 s1 s2 s3 sl y0 y1 y2 y3 yl e0 e1 e2 e3 hfr
    generalize ((((W3.setCell ⟨w.heap.size, 0, none⟩ (.int .i64 sa)).setCell ⟨w.heap.size, 1, none⟩ (.bool sg)).setCell ⟨w.heap.size, 2, none⟩ (.int .i64 si)).setCell ⟨w.heap.size, 3, none⟩ (.int .i64 so)) = W9 at hb9 hf9 hz9 ⊢
    have e0 := hb9.cell 0
    have e1 := hb9.cell 1
    have e2 := hb9.cell 2
    have e3 := hb9.cell 3
    simp only [List.getElem?_cons_zero, List.getElem?_cons_succ] at e0 e1 e2 e3
    exact bodyPost_ret (v := .agg #[.int .i64 sa, .bool sg, .int .i64 si, .int .i64 so]) (by simp [results, go_sem, e0, e1, e2, e3]) rfl ⟨rfl, by rw [HQ.out] at hz9; exact hz9, hf9⟩
end Go.Proofs.YtldcffonfidbcaaGreatDoor
