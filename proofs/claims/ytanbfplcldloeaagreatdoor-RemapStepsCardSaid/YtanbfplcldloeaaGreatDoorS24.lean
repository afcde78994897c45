/- A part of the proof for chapter 10: Mirror; no conditions. -/
import Derived.Test.YtanbfplcldloeaaGreatDoorS22
/- Chapter 8: two maps undo one another. -/
namespace Go.Proofs.YtanbfplcldloeaaGreatDoor
open Go.RowKit
def mirL (ms : List OneM) (i j : Nat) : List OneM := (ms.modify i fun x => { x with mir := j }).modify j fun x => { x with mir := i }
theorem oneC_set (ms : List OneM) (i : Nat) (hi : i < ms.length) (u : Int) : (oneC ms).set (i * 2 + 1) (.int .i64 u) = oneC (ms.modify i fun x => { x with mir := u }) := by
  induction ms generalizing i with
  | nil => simp at hi
  | cons x l ih =>
    cases i with
    | zero => rfl
    | succ i =>
      have h := ih i (by simpa using hi)
      have e : (i + 1) * 2 + 1 = (i * 2 + 1) + 1 + 1 := by omega
      rw [e]
      simp only [oneC, List.flatMap_cons, OneM.cells, List.cons_append, List.nil_append, List.set_cons_succ, List.modify_succ_cons] at h ⊢
      rw [h]
theorem oneC_get (ms : List OneM) (i j : Nat) (hi : i < ms.length) (hj : j < 2) : (oneC ms)[i * 2 + j]? = ms[i].cells[j]? := flat_get OneM.cells_len ms i j hi hj
set_option maxRecDepth 100000 in
set_option maxHeartbeats 4000000 in
theorem mirror_any (N : Nat → Prop) (base m : Nat) (v : Value) (ms : List OneM) (i j : Nat) (w : World) (hm : Mp N base w m v ms) (hij : i < j) (hj : j < ms.length) (hi0 : ms[i].mir < 0) (hj0 : ms[j].mir < 0) (hn : ms.length ≤ 4096) :
    Calls Tryz.prog 41 #[.pointer (some ⟨m, 0, none⟩), .int .i64 i, .int .i64 j] w fun e w' => e = .returned (.int .i64 0) ∧ Mp N base w' m v (mirL ms i j) ∧ Fr (MB m v) w w' := by
  obtain ⟨g, cap, rfl, hbg, hgl⟩ := hm.own.form (by omega)
  have HM := Lib.hid hm
  have d0 := hm.blk.cell 0
  have d1 := hm.blk.cell 1
  have lm := hm.blk.lt
  simp only [List.getElem?_cons_zero, List.getElem?_cons_succ] at d0 d1
  have HNO := Lib.hid (posnone_any m w d1)
  have c1 := hm.own.cellAt (i * 2 + 1) (by omega)
  have c2 := hm.own.cellAt (j * 2 + 1) (by omega)
  rw [oneC_get ms i 1 (by omega) (by omega)] at c1
  rw [oneC_get ms j 1 (by omega) (by omega)] at c2
  simp only [OneM.cells, List.getElem?_cons_zero, List.getElem?_cons_succ] at c1 c2
  have hgm : g ≠ m := fun e => hm.ne (by rw [e]; rfl)
  obtain ⟨n, hnn⟩ : ∃ n, ms.length = n := ⟨_, rfl⟩
  have HN := Lib.hid hnn
  rw [hnn] at d0 hj hn
  have hi1 : ¬ (i : Int) < 0 := by omega
  have hi2 : ¬ (j : Int) ≤ i := by omega
  have hi3 : ¬ (n : Int) ≤ j := by omega
  have hi4 : ¬ 0 ≤ ms[i].mir := by omega
  have hi5 : ¬ 0 ≤ ms[j].mir := by omega
  have hin : i < n := by omega
  have HI0 := Lib.hid hi0
  have HJ0 := Lib.hid hj0
  generalize ms[i].mir = mi at c1 hi4
  generalize ms[j].mir = mj at c2 hi5
  clear hm hi0 hj0
  go_enter Tryz.func41, Tryz.ntmps41
  go_wp2_with fail
  refine HNO.out.mono ?_
  rintro e w ⟨rfl, rfl⟩
  go_wp2_with fail
  have HS := Lib.hid (fun (u : World) (h : Blk u m [.slice (some ⟨g, 0, none⟩) n cap, .bool true] 71) => (show u.cell? ⟨m, 0, none⟩ = some (.slice (some ⟨g, 0, none⟩) n cap) from h.cell 0))
  refine wp_region_held_drew (S := fun u : World => u.cell? ⟨m, 0, none⟩ = some (.slice (some ⟨g, 0, none⟩) n cap)) (by kernel_rfl) d0 (fun _ => ?_)
  have HMD := Lib.hid (HM.out.fr0 (Fr.refl Nob w).drew)
  have HFD := Lib.hid (((Fr.refl Nob w).drew).any (M := MB m (.slice (some ⟨g, 0, none⟩) n cap)))
  rw [hnn] at HMD
  clear d0 d1 lm c1 c2 hgl
  generalize w.drew = wd at HMD HFD ⊢
  have HSD := Lib.hid (HS.out wd HMD.out.blk)
  refine wpAnyH_take (i := 0) (v := .pointer (some ⟨m, 0, none⟩)) rfl (by kernel_rfl) (by kernel_rfl) (by kernel_rfl) (fun _ _ _ h => h) (Or.inl ⟨by rfl, fun w hSw => by (try dsimp only at hSw); go_simp⟩) HSD.out ?_
  try simp only [List.getElem_toArray, List.getElem_cons_succ, List.getElem_cons_zero, Act.put, List.setIfInBounds_toArray, List.set_cons_zero, List.set_cons_succ]
  refine wpAnyH_take (i := 1) (v := .pointer (some ⟨m, 0, none⟩)) rfl (by kernel_rfl) (by kernel_rfl) (by kernel_rfl) (fun _ _ _ h => h) (Or.inl ⟨by rfl, fun w hSw => by (try dsimp only at hSw); go_simp⟩) HSD.out ?_
  try simp only [List.getElem_toArray, List.getElem_cons_succ, List.getElem_cons_zero, Act.put, List.setIfInBounds_toArray, List.set_cons_zero, List.set_cons_succ]
  refine wpAnyH_take (i := 2) (v := .pointer (some ⟨m, 0, none⟩)) rfl (by kernel_rfl) (by kernel_rfl) (by kernel_rfl) (fun _ _ _ h => h) (Or.inl ⟨by rfl, fun w hSw => by (try dsimp only at hSw); go_simp⟩) HSD.out ?_
  try simp only [List.getElem_toArray, List.getElem_cons_succ, List.getElem_cons_zero, Act.put, List.setIfInBounds_toArray, List.set_cons_zero, List.set_cons_succ]
  refine wpAnyH_take (i := 3) (v := .slice (some ⟨g, 0, none⟩) n cap) rfl (by kernel_rfl) (by kernel_rfl) (by kernel_rfl) (fun _ _ _ h => h) (Or.inl ⟨by rfl, fun w hSw => by (try dsimp only at hSw); go_simp⟩) HSD.out ?_
  try simp only [List.getElem_toArray, List.getElem_cons_succ, List.getElem_cons_zero, Act.put, List.setIfInBounds_toArray, List.set_cons_zero, List.set_cons_succ]
  refine wpAnyH_take (i := 4) (v := .int .i64 i) rfl (by kernel_rfl) (by kernel_rfl) (by kernel_rfl) (fun _ _ _ h => h) (Or.inl ⟨by rfl, fun w hSw => by (try dsimp only at hSw); go_simp⟩) HSD.out ?_
  try simp only [List.getElem_toArray, List.getElem_cons_succ, List.getElem_cons_zero, Act.put, List.setIfInBounds_toArray, List.set_cons_zero, List.set_cons_succ]
  refine wpAnyH_take (i := 5) (v := .pointer (some ⟨m, 0, none⟩)) rfl (by kernel_rfl) (by kernel_rfl) (by kernel_rfl) (fun _ _ _ h => h) (Or.inl ⟨by rfl, fun w hSw => by (try dsimp only at hSw); go_simp⟩) HSD.out ?_
  try simp only [List.getElem_toArray, List.getElem_cons_succ, List.getElem_cons_zero, Act.put, List.setIfInBounds_toArray, List.set_cons_zero, List.set_cons_succ]
  refine wpAnyH_take (i := 6) (v := .pointer (some ⟨m, 0, none⟩)) rfl (by kernel_rfl) (by kernel_rfl) (by kernel_rfl) (fun _ _ _ h => h) (Or.inl ⟨by rfl, fun w hSw => by (try dsimp only at hSw); go_simp⟩) HSD.out ?_
  try simp only [List.getElem_toArray, List.getElem_cons_succ, List.getElem_cons_zero, Act.put, List.setIfInBounds_toArray, List.set_cons_zero, List.set_cons_succ]
  refine wpAnyH_take (i := 7) (v := .pointer (some ⟨m, 0, none⟩)) rfl (by kernel_rfl) (by kernel_rfl) (by kernel_rfl) (fun _ _ _ h => h) (Or.inl ⟨by rfl, fun w hSw => by (try dsimp only at hSw); go_simp⟩) HSD.out ?_
  try simp only [List.getElem_toArray, List.getElem_cons_succ, List.getElem_cons_zero, Act.put, List.setIfInBounds_toArray, List.set_cons_zero, List.set_cons_succ]
  refine wpAnyH_take (i := 8) (v := .slice (some ⟨g, 0, none⟩) n cap) rfl (by kernel_rfl) (by kernel_rfl) (by kernel_rfl) (fun _ _ _ h => h) (Or.inl ⟨by rfl, fun w hSw => by (try dsimp only at hSw); go_simp⟩) HSD.out ?_
  try simp only [List.getElem_toArray, List.getElem_cons_succ, List.getElem_cons_zero, Act.put, List.setIfInBounds_toArray, List.set_cons_zero, List.set_cons_succ]
  refine wpAnyH_take (i := 9) (v := .int .i64 j) rfl (by kernel_rfl) (by kernel_rfl) (by kernel_rfl) (fun _ _ _ h => h) (Or.inl ⟨by rfl, fun w hSw => by (try dsimp only at hSw); go_simp⟩) HSD.out ?_
  try simp only [List.getElem_toArray, List.getElem_cons_succ, List.getElem_cons_zero, Act.put, List.setIfInBounds_toArray, List.set_cons_zero, List.set_cons_succ]
  refine wpAnyH_take (i := 10) (v := .int .i64 j) rfl (by kernel_rfl) (by kernel_rfl) (by kernel_rfl) (fun _ _ _ h => h) (Or.inl ⟨by rfl, fun w hSw => by (try dsimp only at hSw); go_simp⟩) HSD.out ?_
  try simp only [List.getElem_toArray, List.getElem_cons_succ, List.getElem_cons_zero, Act.put, List.setIfInBounds_toArray, List.set_cons_zero, List.set_cons_succ]
  refine wpAnyH_take (i := 11) (v := .int .i64 i) rfl (by kernel_rfl) (by kernel_rfl) (by kernel_rfl) (fun _ _ _ h => h) (Or.inl ⟨by rfl, fun w hSw => by (try dsimp only at hSw); go_simp⟩) HSD.out ?_
  try simp only [List.getElem_toArray, List.getElem_cons_succ, List.getElem_cons_zero, Act.put, List.setIfInBounds_toArray, List.set_cons_zero, List.set_cons_succ]
  refine wpAnyH_take (i := 12) (v := .pointer (some ⟨g, i * 2, none⟩)) rfl (by kernel_rfl) (by kernel_rfl) (by kernel_rfl) (fun _ _ _ h => h) (Or.inl ⟨by rfl, fun w hSw => by (try dsimp only at hSw); go_simp⟩) HSD.out ?_
  try simp only [List.getElem_toArray, List.getElem_cons_succ, List.getElem_cons_zero, Act.put, List.setIfInBounds_toArray, List.set_cons_zero, List.set_cons_succ]
  refine wpAnyH_take (i := 13) (v := .pointer (some ⟨g, i * 2 + 1, none⟩)) rfl (by kernel_rfl) (by kernel_rfl) (by kernel_rfl) (fun _ _ _ h => h) (Or.inl ⟨by rfl, fun w hSw => by (try dsimp only at hSw); go_simp⟩) HSD.out ?_
  try simp only [List.getElem_toArray, List.getElem_cons_succ, List.getElem_cons_zero, Act.put, List.setIfInBounds_toArray, List.set_cons_zero, List.set_cons_succ]
  have hnl := HN.out
  have hod := HMD.out.own
  rw [hnl] at hod
  have c1 := hod.cellAt (i * 2 + 1) (show i * 2 + 1 < n * 2 by omega)
  have f1 := hod.frozenAt (i * 2 + 1)
  have lg := (World.ownsRow.lt hod g rfl).2
  have hs1 := hod.stored (i * 2 + 1) (.int .i64 (j : Int))
  have hb1 := HMD.out.blk.far (p := ⟨g, i * 2 + 1, none⟩) hgm.symm (.int .i64 (j : Int))
  rw [oneC_get ms i 1 (by omega) (by omega)] at c1
  simp only [OneM.cells, List.getElem?_cons_zero, List.getElem?_cons_succ] at c1
  have HO1 := Lib.hid hs1.1
  have HB1 := Lib.hid hb1
  clear hs1 hb1 hod
  refine wpAnyH_ready (rs := [14]) (by kernel_rfl) (by simp) (AllReadyH.cons (o := _) rfl (fun K hK => ?_) AllReadyH.nil)
  go_simp
  refine hK.out _ _ (HS.out _ HB1.out) (fun _ => ?_)
  clear hK K c1 f1 lg
  try simp only [List.getElem_toArray, List.getElem_cons_succ, List.getElem_cons_zero, Act.put, List.setIfInBounds_toArray, List.set_cons_zero, List.set_cons_succ]
  refine wpAnyH_take (i := 15) (v := .pointer (some ⟨g, j * 2, none⟩)) rfl (by kernel_rfl) (by kernel_rfl) (by kernel_rfl) (fun _ _ _ h => h) (Or.inl ⟨by rfl, fun w hSw => by (try dsimp only at hSw); go_simp⟩) (HS.out _ HB1.out) ?_
  try simp only [List.getElem_toArray, List.getElem_cons_succ, List.getElem_cons_zero, Act.put, List.setIfInBounds_toArray, List.set_cons_zero, List.set_cons_succ]
  refine wpAnyH_take (i := 16) (v := .pointer (some ⟨g, j * 2 + 1, none⟩)) rfl (by kernel_rfl) (by kernel_rfl) (by kernel_rfl) (fun _ _ _ h => h) (Or.inl ⟨by rfl, fun w hSw => by (try dsimp only at hSw); go_simp⟩) (HS.out _ HB1.out) ?_
  try simp only [List.getElem_toArray, List.getElem_cons_succ, List.getElem_cons_zero, Act.put, List.setIfInBounds_toArray, List.set_cons_zero, List.set_cons_succ]
  have HW1 := Lib.hid (HFD.out.setCell (p := ⟨g, i * 2 + 1, none⟩) (.inl (.inr rfl)) (.int .i64 (j : Int)))
  generalize wd.setCell ⟨g, i * 2 + 1, none⟩ (.int .i64 (j : Int)) = w5 at HO1 HB1 HW1 ⊢
  have hse := oneC_set ms i (by omega) j
  have HO2 := Lib.hid (by have h := HO1.out; rw [hse] at h; exact h)
  have hlen : (ms.modify i fun x => { x with mir := (j : Int) }).length = n := by rw [List.length_modify]; exact hnl
  have c2 := HO2.out.cellAt (j * 2 + 1) (show j * 2 + 1 < n * 2 by omega)
  have f2 := HO2.out.frozenAt (j * 2 + 1)
  have lg := (World.ownsRow.lt HO2.out g rfl).2
  rw [oneC_get _ j 1 (by omega) (by omega)] at c2
  simp only [OneM.cells, List.getElem?_cons_zero, List.getElem?_cons_succ] at c2
  have hs2 := HO2.out.stored (j * 2 + 1) (.int .i64 (i : Int))
  have HO3 := Lib.hid (by have h := hs2.1; rw [oneC_set _ j (by omega) i] at h; exact h)
  have HB3 := Lib.hid (HB1.out.far (p := ⟨g, j * 2 + 1, none⟩) hgm.symm (.int .i64 (i : Int)))
  have HW3 := Lib.hid (HW1.out.setCell (p := ⟨g, j * 2 + 1, none⟩) (.inl (.inr rfl)) (.int .i64 (i : Int)))
  clear hse hs2
  refine wpAnyH_ready (rs := [17]) (by kernel_rfl) (by simp) (AllReadyH.cons (o := _) rfl (fun K hK => ?_) AllReadyH.nil)
  go_simp
  refine hK.out _ _ (HS.out _ HB3.out) (fun _ => ?_)
  clear hK K c2 f2 lg
  try simp only [List.getElem_toArray, List.getElem_cons_succ, List.getElem_cons_zero, Act.put, List.setIfInBounds_toArray, List.set_cons_zero, List.set_cons_succ]
  refine wpAnyH_done (by kernel_rfl) ?_ _
  generalize w5.setCell ⟨g, j * 2 + 1, none⟩ (.int .i64 (i : Int)) = w6 at HO3 HB3 HW3 ⊢
  go_wp2_with fail
  go_ret
  have hl2 : (mirL ms i j).length = n := by simp [mirL, hnl]
  refine ⟨rfl, ⟨by rw [hnl]; exact HB3.out, HM.out.lo, by rw [hl2, hnl]; exact HO3.out, HM.out.ne, HM.out.mine, ?_, ?_, ?_⟩, HW3.out⟩
  · intro x hx
    have hold : ∀ y ∈ ms, Rd N w6 y.A (rngC y.l) := fun y hy => (HM.out.rows y hy).fr HW3.out (fun k _ h => HM.out.mine k h)
    obtain ⟨k, hk, rfl⟩ := List.mem_iff_getElem.1 hx
    have hk' : k < ms.length := by simpa [mirL] using hk
    have h := hold ms[k] (List.getElem_mem _)
    simp only [mirL, List.getElem_modify]
    split <;> split <;> exact h
  · intro x hx
    obtain ⟨k, hk, rfl⟩ := List.mem_iff_getElem.1 hx
    have hk' : k < ms.length := by simpa [mirL] using hk
    have h := HM.out.right ms[k] (List.getElem_mem _)
    simp only [mirL, List.getElem_modify]
    split <;> split <;> exact h
  · intro x hx
    obtain ⟨k, hk, rfl⟩ := List.mem_iff_getElem.1 hx
    have hk' : k < ms.length := by simpa [mirL] using hk
    have h := HM.out.mirs ms[k] (List.getElem_mem _)
    have hl3 : (mirL ms i j).length = n := hl2
    rw [hl3]
    simp only [mirL, List.getElem_modify]
    split
    · show (i : Int) < n; omega
    · split
      · show (j : Int) < n; omega
      · omega
end Go.Proofs.YtanbfplcldloeaaGreatDoor
