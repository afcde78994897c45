/- A part of the proof for chapter 10: Add, RefRng, RefMapP, Blk; no conditions. -/
import Derived.Test.YtanbfplcldloeaaGreatDoorS21
import Derived.Test.YtanbfplcldloeaaGreatDoorS20
import Derived.BigQuiet
import Derived.Test.YtanbfplcldloeaaGreatDoorS07
import Derived.Deep.RegionHeld3
/- Chapter 8: one map more. -/
namespace Go.Proofs.YtanbfplcldloeaaGreatDoor
open Go.RowKit
set_option maxRecDepth 100000 in
set_option maxHeartbeats 4000000 in
theorem posadd_any (N M : Nat → Prop) (base m : Nat) (v : Value) (ms : List OneM) (xs : List Rng) (A : Option Addr) (c : Nat) (w : World) (hm : Mp N base w m v ms) (hr : Rd M w A (rngC xs)) (hx : rightP xs = true) (hn : ms.length < 4096) :
    Calls Tryz.prog 10 #[.pointer (some ⟨m, 0, none⟩), .slice A xs.length c] w fun e w' => e = .returned (.int .i64 0) ∧ ∃ v' A' c', Mp (fun k => N k ∧ k < w.heap.size ∨ v'.ownBlock = some k) base w' m v' (ms ++ [⟨xs, -1, A', c'⟩]) ∧ Fr (MB m v) w w' ∧ (v'.ownBlock = v.ownBlock ∨ ∃ g, v'.ownBlock = some g ∧ w.heap.size ≤ g) := by
  obtain ⟨VA, vc, rfl, hvc, hrv⟩ := Rd.of_own (M := Nob) hm.own (fun _ _ h => h)
  have HM := Lib.hid hm
  have HR := Lib.hid hr
  have HX := Lib.hid hx
  have d0 := hm.blk.cell 0
  have d1 := hm.blk.cell 1
  have f0 := hm.blk.frozen 0
  have lm := hm.blk.lt
  simp only [List.getElem?_cons_zero, List.getElem?_cons_succ] at d0 d1
  obtain ⟨h4, _⟩ := rightP_ok hx
  have hn' : ¬ (4096 ≤ (ms.length : Int)) := by omega
  have HNO := Lib.hid (posnone_any m w d1)
  clear hrv hm hr hx
  go_enter Tryz.func10, Tryz.ntmps10
  go_wp2_with fail
  refine HNO.out.mono ?_
  rintro e w ⟨rfl, rfl⟩
  go_wp2_with fail
  refine (posright_any M xs A c w HR.out (by omega)).mono ?_
  rintro e w1 ⟨rfl, hF1⟩
  rw [HX.out]
  have HM1 := Lib.hid (HM.out.fr0 hF1)
  have HR1 := Lib.hid (HR.out.fr hF1 (fun _ _ h => h.elim))
  have HF1 := Lib.hid hF1
  clear hF1 d0 d1 f0 lm
  have d0 := HM1.out.blk.cell 0
  have lm := HM1.out.blk.lt
  simp only [List.getElem?_cons_zero] at d0
  obtain ⟨i0, hi, hz0, hz1, hz2⟩ := info_parts infoOne
  go_wp2_with fail
  refine wp_region_held_drew (S := fun _ : World => True) (by kernel_rfl) trivial (fun _ => ?_)
  have HMD := Lib.hid (HM1.out.fr0 (Fr.refl Nob w1).drew)
  have HRD := Lib.hid (HR1.out.fr (Fr.refl Nob w1).drew (fun _ _ h => h.elim))
  have HFD := Lib.hid (HF1.out.same (Fr.refl Nob w1).drew)
  clear d0 lm
  generalize w1.drew = wd at HMD HRD HFD ⊢
  have FIN : Hid (∀ (w6 : World) (A6 : Option Addr) (c6 : Nat), Fr Nob wd w6 → Rd (fun k => k < wd.heap.size) w6 A6 (rngC xs) → ∀ (g cap : Nat) (w9 : World), w9.ownsRow base 74 2 (.slice (some ⟨g, 0, none⟩) (ms.length + 1) cap) (ms.length + 1) (oneC ms ++ [.slice A6 xs.length c6, .int .i64 (-1)]) →
      (((w6.alloc (.cells #[.slice A6 xs.length c6, .int .i64 (-1)] 74)).grownBy w9 none ∧ (w6.alloc (.cells #[.slice A6 xs.length c6, .int .i64 (-1)] 74)).heap.size ≤ g) ∨ (∃ cap0, (.slice VA ms.length vc : Value) = .slice (some ⟨g, 0, none⟩) ms.length cap0 ∧ ms.length + 1 ≤ cap0 ∧ (w6.alloc (.cells #[.slice A6 xs.length c6, .int .i64 (-1)] 74)).grownBy w9 (some g))) →
      Blk w9 m [.slice VA ms.length vc, .bool true] 71 ∧ (∃ v' A' c', Mp (fun k => N k ∧ k < w.heap.size ∨ v'.ownBlock = some k) base (w9.setCell ⟨m, 0, none⟩ (.slice (some ⟨g, 0, none⟩) (ms.length + 1) cap)) m v' (ms ++ [⟨xs, -1, A', c'⟩]) ∧ Fr (MB m (.slice VA ms.length vc)) w (w9.setCell ⟨m, 0, none⟩ (.slice (some ⟨g, 0, none⟩) (ms.length + 1) cap)) ∧ (v'.ownBlock = (Value.slice VA ms.length vc).ownBlock ∨ ∃ g, v'.ownBlock = some g ∧ w.heap.size ≤ g))) := fun w6 A6 c6 hF6 hR6 g cap w9 hown9 htwo => by
    have hM6 := HMD.out.fr0 hF6
    have hsz : (w6.alloc (.cells #[.slice A6 xs.length c6, .int .i64 (-1)] 74)).heap.size = w6.heap.size + 1 := by simp
    have hwd := HFD.out.size
    have h6 := hF6.size
    have hmlt := hM6.blk.lt
    have hne := hM6.ne
    obtain ⟨row, hg, hrow, hgw⟩ : ∃ row, (w6.alloc (.cells #[.slice A6 xs.length c6, .int .i64 (-1)] 74)).grownBy w9 row ∧ (∀ k, some k = row → (Value.slice VA ms.length vc).ownBlock = some k) ∧ ((Value.slice VA ms.length vc).ownBlock = some g ∨ w6.heap.size + 1 ≤ g) := by
      rcases htwo with ⟨h, hgl⟩ | ⟨cap0, e, _, h⟩
      · exact ⟨_, h, fun k e => (by cases e), .inr (by omega)⟩
      · exact ⟨_, h, fun k e' => (by cases e'; rw [e]; rfl), .inl (by rw [e]; rfl)⟩
    have hgm : g ≠ m := by
      rintro rfl
      rcases hgw with h | h
      · exact hne h
      · omega
    have hF9 : Fr (MB m (.slice VA ms.length vc)) w6 w9 := ((Fr.refl _ w6).alloc _).trans (Fr.of_grown hg) (fun k _ e => .inr (hrow k e))
    have hB9 : Blk w9 m [.slice VA ms.length vc, .bool true] 71 := (hM6.blk.alloc _).fr (Fr.of_grown hg) (fun e => hne (hrow m e))
    have hFE : Fr (MB m (.slice VA ms.length vc)) w6 (w9.setCell ⟨m, 0, none⟩ (.slice (some ⟨g, 0, none⟩) (ms.length + 1) cap)) := hF9.setCell (p := ⟨m, 0, none⟩) (.inl (.inl rfl)) _
    refine ⟨hB9, .slice (some ⟨g, 0, none⟩) (ms.length + 1) cap, A6, c6, ⟨hB9.set 0 _, hM6.lo, ?_, ?_, ?_, ?_, ?_, ?_⟩, ?_, ?_⟩
    · have h := own_fr hown9 ((Fr.refl (One m) w9).setCell (p := ⟨m, 0, none⟩) (.inl rfl) (.slice (some ⟨g, 0, none⟩) (ms.length + 1) cap)) (fun k e h => by cases e; exact hgm h)
      rw [List.length_append]
      simpa [oneC, OneM.cells] using h
    · intro e
      exact hgm (by cases e; rfl)
    · rintro k (rfl | h)
      · exact .inl ⟨hM6.mine _ (.inl rfl), HM.out.blk.lt⟩
      · exact .inr h
    · intro x hx
      rcases List.mem_append.1 hx with hx | hx
      · have h := ((hM6.rows x hx).bound).fr hFE (fun k _ h => .inl (hM6.mine k h))
        refine h.mono (fun k hk => ?_)
        rcases hk with hk | hk
        · exact .inl hk.1
        · have hk' : g = k := by cases hk; rfl
          subst hk'
          rcases hgw with h | h
          · exact .inl (hM6.mine _ (.inr h))
          · exact .inr (by omega)
      · rw [List.mem_singleton.1 hx]
        intro hne6
        have h6lt := hR6
        obtain ⟨ad, e6, hn6, hc6⟩ := hR6 hne6
        subst e6
        have hlt6 := Rd.lt h6lt hne6
        have hold : ∀ k, MB m (.slice VA ms.length vc) k → k < wd.heap.size := fun k hk => by
          rcases hk with rfl | h
          · exact HMD.out.blk.lt
          · exact (World.ownsRow.lt HMD.out.own k h).2
        have hnm : ¬ MB m (.slice VA ms.length vc) ad.block := fun h => hn6 (hold _ h)
        refine ⟨ad, rfl, fun hk => ?_, fun j u hu => ?_⟩
        · rcases hk with hk | hk
          · omega
          · have hk' : g = ad.block := by cases hk; rfl
            rcases hgw with h | h
            · exact hnm (.inr (by rw [h, hk']))
            · omega
        · exact (hFE.cell (p := ad.add j) (by rw [add_block]; exact hlt6) (by rw [add_block]; exact hnm)).trans (hc6 j u hu)
    · intro x hx
      rcases List.mem_append.1 hx with hx | hx
      · exact hM6.right x hx
      · rw [List.mem_singleton.1 hx]; exact HX.out
    · intro x hx
      rw [List.length_append, List.length_singleton]
      rcases List.mem_append.1 hx with hx | hx
      · have := HM.out.mirs x hx
        omega
      · rw [List.mem_singleton.1 hx]; show (-1 : Int) < _; omega
    · exact (HFD.out.any.trans hF6 (fun _ _ h => h.elim)).trans hFE (fun _ _ h => h)
    · rcases hgw with h | h
      · exact .inl h.symm
      · exact .inr ⟨g, rfl, by omega⟩
  refine wpAnyH_take (i := 0) (v := .pointer (some ⟨m, 0, none⟩)) rfl (by kernel_rfl) (by kernel_rfl) (by kernel_rfl) (fun _ _ _ h => h) (Or.inl ⟨by rfl, fun w hSw => by (try dsimp only at hSw); go_simp⟩) trivial ?_
  try simp only [List.getElem_toArray, List.getElem_cons_succ, List.getElem_cons_zero, Act.put, List.setIfInBounds_toArray, List.set_cons_zero, List.set_cons_succ]
  refine wpAnyH_take (i := 1) (v := .pointer (some ⟨m, 0, none⟩)) rfl (by kernel_rfl) (by kernel_rfl) (by kernel_rfl) (fun _ _ _ h => h) (Or.inl ⟨by rfl, fun w hSw => by (try dsimp only at hSw); go_simp⟩) trivial ?_
  try simp only [List.getElem_toArray, List.getElem_cons_succ, List.getElem_cons_zero, Act.put, List.setIfInBounds_toArray, List.set_cons_zero, List.set_cons_succ]
  refine wpAnyH_take (i := 2) (v := .pointer (some ⟨m, 0, none⟩)) rfl (by kernel_rfl) (by kernel_rfl) (by kernel_rfl) (fun _ _ _ h => h) (Or.inl ⟨by rfl, fun w hSw => by (try dsimp only at hSw); go_simp⟩) trivial ?_
  try simp only [List.getElem_toArray, List.getElem_cons_succ, List.getElem_cons_zero, Act.put, List.setIfInBounds_toArray, List.set_cons_zero, List.set_cons_succ]
  refine wpAnyH_take (i := 3) (v := .pointer (some ⟨m, 0, none⟩)) rfl (by kernel_rfl) (by kernel_rfl) (by kernel_rfl) (fun _ _ _ h => h) (Or.inl ⟨by rfl, fun w hSw => by (try dsimp only at hSw); go_simp⟩) trivial ?_
  try simp only [List.getElem_toArray, List.getElem_cons_succ, List.getElem_cons_zero, Act.put, List.setIfInBounds_toArray, List.set_cons_zero, List.set_cons_succ]
  refine wpAnyH_take (i := 5) (v := .slice A xs.length c) rfl (by kernel_rfl) (by kernel_rfl) (by kernel_rfl) (fun _ _ _ h => h) (Or.inl ⟨by rfl, fun w hSw => by (try dsimp only at hSw); go_simp⟩) trivial ?_
  try simp only [List.getElem_toArray, List.getElem_cons_succ, List.getElem_cons_zero, Act.put, List.setIfInBounds_toArray, List.set_cons_zero, List.set_cons_succ]
  refine wpAnyH_ready (rs := [4, 6]) (by kernel_rfl) (by simp) (AllReadyH.cons (o := _) rfl (fun K hK => ?_) (AllReadyH.cons (o := _) rfl (fun K hK => ?_) AllReadyH.nil))
  · have dX := HMD.out.blk.cell 0
    simp only [List.getElem?_cons_zero] at dX
    go_simp
    clear dX
    refine hK.out _ _ trivial (fun _ => ?_)
    clear hK K
    try simp only [List.getElem_toArray, List.getElem_cons_succ, List.getElem_cons_zero, Act.put, List.setIfInBounds_toArray, List.set_cons_zero, List.set_cons_succ]
    refine wpAnyH_ready (rs := [6]) (by kernel_rfl) (by simp) (AllReadyH.cons (o := _) rfl (fun K hK => ?_) AllReadyH.nil)
    refine step_append_rngs _ M rfl _ _ rfl rfl A c xs rfl (HRD.out) (by omega) ?_
    intro A6 c6 w6 hF6 hR6
    have HF6 := Lib.hid hF6
    have HR6 := Lib.hid hR6
    clear hF6 hR6
    refine hK.out _ _ trivial (fun _ => ?_)
    clear hK K
    try simp only [List.getElem_toArray, List.getElem_cons_succ, List.getElem_cons_zero, Act.put, List.setIfInBounds_toArray, List.set_cons_zero, List.set_cons_succ]
    refine wpAnyH_take (i := 7) (v := .agg #[.slice A6 xs.length c6, .int .i64 (-1)]) rfl (by kernel_rfl) (by kernel_rfl) (by kernel_rfl) (fun _ _ _ h => h) (Or.inl ⟨by rfl, fun w hSw => by (try dsimp only at hSw); go_simp⟩) trivial ?_
    try simp only [List.getElem_toArray, List.getElem_cons_succ, List.getElem_cons_zero, Act.put, List.setIfInBounds_toArray, List.set_cons_zero, List.set_cons_succ]
    refine wpAnyH_ready (rs := [8]) (by kernel_rfl) (by simp) (AllReadyH.cons (o := _) rfl (fun K hK => ?_) AllReadyH.nil)
    go_simp
    refine hK.out _ _ trivial (fun _ => ?_)
    clear hK K
    try simp only [List.getElem_toArray, List.getElem_cons_succ, List.getElem_cons_zero, Act.put, List.setIfInBounds_toArray, List.set_cons_zero, List.set_cons_succ]
    refine wpAnyH_ready (rs := [9]) (by kernel_rfl) (by simp) (AllReadyH.cons (o := _) rfl (fun K hK => ?_) AllReadyH.nil)
    refine step_append_two _ rfl _ _ 69 rfl base 74 i0 _ 2 32 Tryz.underlying69 hi hz0 hz1 hz2 rfl (by decide) (.slice VA ms.length vc) ms.length _ rfl ((HMD.out.fr0 HF6.out).own.alloc _) ⟨w6.heap.size, 0, none⟩ 1 1 [.slice A6 xs.length c6, .int .i64 (-1)] rfl rfl (fun j u hu => by rw [add_lit]; exact ((Blk.new w6 [.slice A6 xs.length c6, .int .i64 (-1)] 74).cell j).trans hu) (by simp [Value.oneCell']) (by omega) (by simp only [maxLen]; omega) (by omega) (by have := HMD.out.lo; have := HMD.out.blk.lt; have := HF6.out.size; simp; omega) ?_
    intro g cap w9 hown9 htwo
    obtain ⟨hB9, hEND⟩ := FIN.out w6 A6 c6 HF6.out HR6.out g cap w9 hown9 htwo
    have HEND := Lib.hid hEND
    clear hEND hown9 htwo
    refine hK.out _ _ trivial (fun _ => ?_)
    clear hK K
    try simp only [List.getElem_toArray, List.getElem_cons_succ, List.getElem_cons_zero, Act.put, List.setIfInBounds_toArray, List.set_cons_zero, List.set_cons_succ]
    refine wpAnyH_take (i := 10) (v := .pointer (some ⟨m, 0, none⟩)) rfl (by kernel_rfl) (by kernel_rfl) (by kernel_rfl) (fun _ _ _ h => h) (Or.inl ⟨by rfl, fun w hSw => by (try dsimp only at hSw); go_simp⟩) trivial ?_
    try simp only [List.getElem_toArray, List.getElem_cons_succ, List.getElem_cons_zero, Act.put, List.setIfInBounds_toArray, List.set_cons_zero, List.set_cons_succ]
    refine wpAnyH_take (i := 11) (v := .pointer (some ⟨m, 0, none⟩)) rfl (by kernel_rfl) (by kernel_rfl) (by kernel_rfl) (fun _ _ _ h => h) (Or.inl ⟨by rfl, fun w hSw => by (try dsimp only at hSw); go_simp⟩) trivial ?_
    try simp only [List.getElem_toArray, List.getElem_cons_succ, List.getElem_cons_zero, Act.put, List.setIfInBounds_toArray, List.set_cons_zero, List.set_cons_succ]
    have da := hB9.cell 0
    have fa := hB9.frozen 0
    have la := hB9.lt
    simp only [List.getElem?_cons_zero] at da
    refine wpAnyH_ready (rs := [12]) (by kernel_rfl) (by simp) (AllReadyH.cons (o := _) rfl (fun K hK => ?_) AllReadyH.nil)
    go_simp
    refine hK.out _ _ trivial (fun _ => ?_)
    clear hK K
    try simp only [List.getElem_toArray, List.getElem_cons_succ, List.getElem_cons_zero, Act.put, List.setIfInBounds_toArray, List.set_cons_zero, List.set_cons_succ]
    refine wpAnyH_done (by kernel_rfl) ?_ _
    clear da fa la hB9
    generalize w9.setCell ⟨m, 0, none⟩ (.slice (some ⟨g, 0, none⟩) (ms.length + 1) cap) = wE at HEND ⊢
    go_wp2_with fail
    go_ret
    exact ⟨rfl, HEND.out⟩
  · refine step_append_rngs _ M rfl _ _ rfl rfl A c xs rfl (HRD.out) (by omega) ?_
    intro A6 c6 w6 hF6 hR6
    have HF6 := Lib.hid hF6
    have HR6 := Lib.hid hR6
    clear hF6 hR6
    refine hK.out _ _ trivial (fun _ => ?_)
    clear hK K
    try simp only [List.getElem_toArray, List.getElem_cons_succ, List.getElem_cons_zero, Act.put, List.setIfInBounds_toArray, List.set_cons_zero, List.set_cons_succ]
    refine wpAnyH_take (i := 7) (v := .agg #[.slice A6 xs.length c6, .int .i64 (-1)]) rfl (by kernel_rfl) (by kernel_rfl) (by kernel_rfl) (fun _ _ _ h => h) (Or.inl ⟨by rfl, fun w hSw => by (try dsimp only at hSw); go_simp⟩) trivial ?_
    try simp only [List.getElem_toArray, List.getElem_cons_succ, List.getElem_cons_zero, Act.put, List.setIfInBounds_toArray, List.set_cons_zero, List.set_cons_succ]
    refine wpAnyH_ready (rs := [4, 8]) (by kernel_rfl) (by simp) (AllReadyH.cons (o := _) rfl (fun K hK => ?_) (AllReadyH.cons (o := _) rfl (fun K hK => ?_) AllReadyH.nil))
    · have dX := (HMD.out.fr0 HF6.out).blk.cell 0
      simp only [List.getElem?_cons_zero] at dX
      go_simp
      clear dX
      refine hK.out _ _ trivial (fun _ => ?_)
      clear hK K
      try simp only [List.getElem_toArray, List.getElem_cons_succ, List.getElem_cons_zero, Act.put, List.setIfInBounds_toArray, List.set_cons_zero, List.set_cons_succ]
      refine wpAnyH_ready (rs := [8]) (by kernel_rfl) (by simp) (AllReadyH.cons (o := _) rfl (fun K hK => ?_) AllReadyH.nil)
      go_simp
      refine hK.out _ _ trivial (fun _ => ?_)
      clear hK K
      try simp only [List.getElem_toArray, List.getElem_cons_succ, List.getElem_cons_zero, Act.put, List.setIfInBounds_toArray, List.set_cons_zero, List.set_cons_succ]
      refine wpAnyH_ready (rs := [9]) (by kernel_rfl) (by simp) (AllReadyH.cons (o := _) rfl (fun K hK => ?_) AllReadyH.nil)
      refine step_append_two _ rfl _ _ 69 rfl base 74 i0 _ 2 32 Tryz.underlying69 hi hz0 hz1 hz2 rfl (by decide) (.slice VA ms.length vc) ms.length _ rfl ((HMD.out.fr0 HF6.out).own.alloc _) ⟨w6.heap.size, 0, none⟩ 1 1 [.slice A6 xs.length c6, .int .i64 (-1)] rfl rfl (fun j u hu => by rw [add_lit]; exact ((Blk.new w6 [.slice A6 xs.length c6, .int .i64 (-1)] 74).cell j).trans hu) (by simp [Value.oneCell']) (by omega) (by simp only [maxLen]; omega) (by omega) (by have := HMD.out.lo; have := HMD.out.blk.lt; have := HF6.out.size; simp; omega) ?_
      intro g cap w9 hown9 htwo
      obtain ⟨hB9, hEND⟩ := FIN.out w6 A6 c6 HF6.out HR6.out g cap w9 hown9 htwo
      have HEND := Lib.hid hEND
      clear hEND hown9 htwo
      refine hK.out _ _ trivial (fun _ => ?_)
      clear hK K
      try simp only [List.getElem_toArray, List.getElem_cons_succ, List.getElem_cons_zero, Act.put, List.setIfInBounds_toArray, List.set_cons_zero, List.set_cons_succ]
      refine wpAnyH_take (i := 10) (v := .pointer (some ⟨m, 0, none⟩)) rfl (by kernel_rfl) (by kernel_rfl) (by kernel_rfl) (fun _ _ _ h => h) (Or.inl ⟨by rfl, fun w hSw => by (try dsimp only at hSw); go_simp⟩) trivial ?_
      try simp only [List.getElem_toArray, List.getElem_cons_succ, List.getElem_cons_zero, Act.put, List.setIfInBounds_toArray, List.set_cons_zero, List.set_cons_succ]
      refine wpAnyH_take (i := 11) (v := .pointer (some ⟨m, 0, none⟩)) rfl (by kernel_rfl) (by kernel_rfl) (by kernel_rfl) (fun _ _ _ h => h) (Or.inl ⟨by rfl, fun w hSw => by (try dsimp only at hSw); go_simp⟩) trivial ?_
      try simp only [List.getElem_toArray, List.getElem_cons_succ, List.getElem_cons_zero, Act.put, List.setIfInBounds_toArray, List.set_cons_zero, List.set_cons_succ]
      have da := hB9.cell 0
      have fa := hB9.frozen 0
      have la := hB9.lt
      simp only [List.getElem?_cons_zero] at da
      refine wpAnyH_ready (rs := [12]) (by kernel_rfl) (by simp) (AllReadyH.cons (o := _) rfl (fun K hK => ?_) AllReadyH.nil)
      go_simp
      refine hK.out _ _ trivial (fun _ => ?_)
      clear hK K
      try simp only [List.getElem_toArray, List.getElem_cons_succ, List.getElem_cons_zero, Act.put, List.setIfInBounds_toArray, List.set_cons_zero, List.set_cons_succ]
      refine wpAnyH_done (by kernel_rfl) ?_ _
      clear da fa la hB9
      generalize w9.setCell ⟨m, 0, none⟩ (.slice (some ⟨g, 0, none⟩) (ms.length + 1) cap) = wE at HEND ⊢
      go_wp2_with fail
      go_ret
      exact ⟨rfl, HEND.out⟩
    · go_simp
      refine hK.out _ _ trivial (fun _ => ?_)
      clear hK K
      try simp only [List.getElem_toArray, List.getElem_cons_succ, List.getElem_cons_zero, Act.put, List.setIfInBounds_toArray, List.set_cons_zero, List.set_cons_succ]
      refine wpAnyH_ready (rs := [4]) (by kernel_rfl) (by simp) (AllReadyH.cons (o := _) rfl (fun K hK => ?_) AllReadyH.nil)
      have dX := ((HMD.out.fr0 HF6.out).blk.alloc (.cells #[.slice A6 xs.length c6, .int .i64 (-1)] 74)).cell 0
      simp only [List.getElem?_cons_zero] at dX
      go_simp
      clear dX
      refine hK.out _ _ trivial (fun _ => ?_)
      clear hK K
      try simp only [List.getElem_toArray, List.getElem_cons_succ, List.getElem_cons_zero, Act.put, List.setIfInBounds_toArray, List.set_cons_zero, List.set_cons_succ]
      refine wpAnyH_ready (rs := [9]) (by kernel_rfl) (by simp) (AllReadyH.cons (o := _) rfl (fun K hK => ?_) AllReadyH.nil)
      refine step_append_two _ rfl _ _ 69 rfl base 74 i0 _ 2 32 Tryz.underlying69 hi hz0 hz1 hz2 rfl (by decide) (.slice VA ms.length vc) ms.length _ rfl ((HMD.out.fr0 HF6.out).own.alloc _) ⟨w6.heap.size, 0, none⟩ 1 1 [.slice A6 xs.length c6, .int .i64 (-1)] rfl rfl (fun j u hu => by rw [add_lit]; exact ((Blk.new w6 [.slice A6 xs.length c6, .int .i64 (-1)] 74).cell j).trans hu) (by simp [Value.oneCell']) (by omega) (by simp only [maxLen]; omega) (by omega) (by have := HMD.out.lo; have := HMD.out.blk.lt; have := HF6.out.size; simp; omega) ?_
      intro g cap w9 hown9 htwo
      obtain ⟨hB9, hEND⟩ := FIN.out w6 A6 c6 HF6.out HR6.out g cap w9 hown9 htwo
      have HEND := Lib.hid hEND
      clear hEND hown9 htwo
      refine hK.out _ _ trivial (fun _ => ?_)
      clear hK K
      try simp only [List.getElem_toArray, List.getElem_cons_succ, List.getElem_cons_zero, Act.put, List.setIfInBounds_toArray, List.set_cons_zero, List.set_cons_succ]
      refine wpAnyH_take (i := 10) (v := .pointer (some ⟨m, 0, none⟩)) rfl (by kernel_rfl) (by kernel_rfl) (by kernel_rfl) (fun _ _ _ h => h) (Or.inl ⟨by rfl, fun w hSw => by (try dsimp only at hSw); go_simp⟩) trivial ?_
      try simp only [List.getElem_toArray, List.getElem_cons_succ, List.getElem_cons_zero, Act.put, List.setIfInBounds_toArray, List.set_cons_zero, List.set_cons_succ]
      refine wpAnyH_take (i := 11) (v := .pointer (some ⟨m, 0, none⟩)) rfl (by kernel_rfl) (by kernel_rfl) (by kernel_rfl) (fun _ _ _ h => h) (Or.inl ⟨by rfl, fun w hSw => by (try dsimp only at hSw); go_simp⟩) trivial ?_
      try simp only [List.getElem_toArray, List.getElem_cons_succ, List.getElem_cons_zero, Act.put, List.setIfInBounds_toArray, List.set_cons_zero, List.set_cons_succ]
      have da := hB9.cell 0
      have fa := hB9.frozen 0
      have la := hB9.lt
      simp only [List.getElem?_cons_zero] at da
      refine wpAnyH_ready (rs := [12]) (by kernel_rfl) (by simp) (AllReadyH.cons (o := _) rfl (fun K hK => ?_) AllReadyH.nil)
      go_simp
      refine hK.out _ _ trivial (fun _ => ?_)
      clear hK K
      try simp only [List.getElem_toArray, List.getElem_cons_succ, List.getElem_cons_zero, Act.put, List.setIfInBounds_toArray, List.set_cons_zero, List.set_cons_succ]
      refine wpAnyH_done (by kernel_rfl) ?_ _
      clear da fa la hB9
      generalize w9.setCell ⟨m, 0, none⟩ (.slice (some ⟨g, 0, none⟩) (ms.length + 1) cap) = wE at HEND ⊢
      go_wp2_with fail
      go_ret
      exact ⟨rfl, HEND.out⟩
end Go.Proofs.YtanbfplcldloeaaGreatDoor

/- Chapter 8, the reference: may a map be; how far places have moved. -/
namespace Go.Proofs.YtanbfplcldloeaaGreatDoor
open Go.RowKit
set_option maxRecDepth 100000 in
set_option maxHeartbeats 2000000 in
theorem ref8right_any (M : Nat → Prop) (l : List Rng) (A : Option Addr) (c : Nat) (w : World) (hr : Rd M w A (rngC l)) :
    Calls Tryz.prog 28 #[.slice A l.length c] w fun e w' => e = .returned (.bool (rightP l)) ∧ Fr Nob w w' := by
  obtain ⟨r, hrr⟩ : ∃ r, rightP l = r := ⟨_, rfl⟩
  rw [hrr]
  have HR0 := Lib.hid hrr
  have HRd := Lib.hid hr
  clear hrr hr
  by_cases h4 : l.length ≤ 4
  · have h4' : ¬ (4 < (l.length : Int)) := by omega
    obtain ⟨q0, hq0⟩ : ∃ q0, rightF l 0 = q0 := ⟨_, rfl⟩
    have HQ0 := Lib.hid hq0
    have HQR := Lib.hid (show q0 = r by rw [← HR0.out, rightP, hq0, decide_eq_true h4, Bool.and_true])
    have H4 := Lib.hid h4
    clear hq0 h4
    go_enter Tryz.func28, Tryz.ntmps28
    go_wp2_with fail
    clear h4'
    go_loopg [3, 4] (l.length) (fun n la i wr => ∃ (k : Nat) (last : Int), n = l.length - k ∧ k ≤ l.length ∧ la = .int .i64 last ∧ i = .int .i64 k ∧ 0 ≤ last ∧ last ≤ 131072 ∧ Hid (Fr Nob w wr) ∧ Hid (rightF (l.drop k) last = q0))
    case atStart => exact ⟨0, 0, rfl, Nat.zero_le _, rfl, rfl, by omega, by omega, Fr.refl _ _, HQ0.out⟩
    case round =>
      obtain ⟨k, last, rfl, hk, rfl, rfl, hl0, hl1, HF, HC⟩ := hrel
      have h4 := H4.out
      by_cases hlt : k < l.length
      · have ht : ((k : Int) < (l.length : Int)) := by omega
        obtain ⟨ad, rfl, _, hlb, q0', q⟩ := Rd.elt Rng.cells_len (by omega) (HRd.out.fr HF.out (fun _ _ h => h.elim)) hlt
        have hdr : l.drop k = l[k] :: l.drop (k + 1) := List.drop_eq_getElem_cons hlt
        generalize l[k] = x at q0' q hdr
        have q1 := q 0 (by omega)
        have q2 := q 1 (by omega)
        simp only [Rng.cells, List.getElem?_cons_zero, List.getElem?_cons_succ, Nat.reduceAdd] at q0' q1 q2
        have hcc := HC.out
        rw [hdr, rightF] at hcc
        have HCC := Lib.hid hcc
        have hff : Fr Nob w (wr.alloc (.cells #[.int .i64 x.a, .int .i64 x.o, .int .i64 x.n] 135)) := HF.out.alloc _
        have HFF := Lib.hid hff
        clear q hdr HC hcc hff
        go_wp2_with fail
        all_goals first
          | (have hb : x.a < last ∨ 65536 < x.a ∨ 65536 < x.o ∨ 65536 < x.n ∨ x.o < 0 ∨ x.n < 0 := by omega
             have HE := Lib.hid (show false = r by rw [← HQR.out, ← HCC.out, if_pos ((badR_iff x last).2 hb)])
             go_ret
             exact ⟨by rw [← HE.out]; rfl, HFF.out⟩)
          | (have hb : ¬ (x.a < last ∨ 65536 < x.a ∨ 65536 < x.o ∨ 65536 < x.n ∨ x.o < 0 ∨ x.n < 0) := by omega
             have hcc := HCC.out
             rw [if_neg (fun h => hb ((badR_iff x last).1 h))] at hcc
             have HE := Lib.hid hcc
             clear hcc
             go_roundg (l.length - (k + 1))
             case measure => omega
             case rel => exact ⟨k + 1, x.a + x.o, rfl, by omega, by first | rfl | go_num, by first | rfl | go_num, by omega, by omega, HFF.out, HE.out⟩)
      · have ht : ¬ ((k : Int) < (l.length : Int)) := by omega
        have hcc := HC.out
        rw [List.drop_eq_nil_of_le (by omega), rightF] at hcc
        have HE := Lib.hid (show true = r by rw [← HQR.out, ← hcc])
        clear hcc HC
        go_wp2_with fail
        go_ret
        exact ⟨by rw [← HE.out]; rfl, HF.out⟩
  · have h4' : 4 < (l.length : Int) := by omega
    have HE := Lib.hid (show false = r by rw [← HR0.out, rightP, decide_eq_false h4, Bool.and_false])
    clear h4
    go_enter Tryz.func28, Tryz.ntmps28
    go_wp2_with fail
    go_ret
    exact ⟨by rw [← HE.out]; rfl, Fr.refl _ _⟩
set_option maxRecDepth 100000 in
set_option maxHeartbeats 2000000 in
/-- How far places have moved: it only reads. -/
theorem shift_any (M : Nat → Prop) (xs : List Rng) (A : Option Addr) (c : Nat) (n : Nat) (w : World) (hr : Rd M w A (rngC xs)) (hx : ∀ x ∈ xs, okR x) (h4 : xs.length ≤ 4) (hn : n ≤ xs.length) :
    Calls Tryz.prog 78 #[.slice A xs.length c, .int .i64 n] w fun e w' => e = .returned (.int .i64 (dF xs n)) ∧ ∃ m, w' = w.drewN m := by
  have HRd := Lib.hid hr
  have HX := Lib.hid hx
  have H4 := Lib.hid h4
  have HN := Lib.hid hn
  clear hr hx h4 hn
  go_enter Tryz.func78, Tryz.ntmps78
  go_wp2_with fail
  go_loopg [5, 6] n (fun m d i wr => ∃ (k : Nat), m = n - k ∧ k ≤ n ∧ d = .int .i64 (dF xs k) ∧ i = .int .i64 k ∧ Hid (∃ q, wr = w.drewN q))
  case atStart => exact ⟨0, rfl, Nat.zero_le _, rfl, rfl, 0, rfl⟩
  case round =>
    obtain ⟨k, rfl, hk, rfl, rfl, HQ⟩ := hrel
    have HF := Lib.hid (show Fr Nob w wr by obtain ⟨q, e⟩ := HQ.out; rw [e]; exact (Fr.refl Nob w).drewN q)
    have h4 := H4.out
    have hn := HN.out
    by_cases hlt : k < n
    · have ht : ((k : Int) < (n : Int)) := by omega
      have hkl : k < xs.length := by omega
      obtain ⟨ad, rfl, _, hlb, q0', q'⟩ := Rd.elt Rng.cells_len (by omega) (HRd.out.fr HF.out (fun _ _ h => h.elim)) hkl
      have hd := dF_succ xs k hkl
      have hb := dF_bound xs HX.out k (by omega)
      have ho := HX.out xs[k] (List.getElem_mem _)
      generalize xs[k] = x at q0' q' hd ho
      have q1 := q' 0 (by omega)
      have q2 := q' 1 (by omega)
      simp only [Rng.cells, List.getElem?_cons_zero, List.getElem?_cons_succ, Nat.reduceAdd] at q0' q1 q2
      have HD := Lib.hid hd
      clear q' hd
      unfold okR at ho
      generalize dF xs k = D at hb HD ⊢
      go_wp2_with (fail)
      go_quiet (fail)
      go_wp2_with (fail)
      go_roundg (n - (k + 1))
      case measure => omega
      case rel =>
        exact ⟨k + 1, rfl, by omega, by rw [HD.out]; first | rfl | (congr 1; go_num), by first | rfl | go_num, by obtain ⟨q, e⟩ := HQ.out; exact ⟨_, by rw [e, World.drewN_drewN]⟩⟩
    · have ht : ¬ ((k : Int) < (n : Int)) := by omega
      obtain rfl : k = n := by omega
      go_wp2_with fail
      go_ret
      exact ⟨rfl, HQ.out⟩
end Go.Proofs.YtanbfplcldloeaaGreatDoor

/- Chapter 8, the reference: a place through a map, by definition; it is the program's. -/
namespace Go.Proofs.YtanbfplcldloeaaGreatDoor
open Go.RowKit
/-- Where a place comes to lie that stands in a range, by definition. -/
def refLeft (r : Rng) (p side : Int) : Bool := if 0 < r.o ∧ p = r.a + r.o then false else if 0 < r.o ∧ p = r.a then true else decide (side < 0)
def refSpot (xs : List Rng) (p side : Int) (k : Nat) (r : Rng) : Spot :=
  if side < 0 ∧ p = r.a ∨ 0 ≤ side ∧ p = r.a + r.o then ⟨if refLeft r p side = true then r.a + dF xs k else r.a + dF xs k + r.n, decide (r.a < p ∧ p < r.a + r.o), -1, 0⟩
  else ⟨if refLeft r p side = true then r.a + dF xs k else r.a + dF xs k + r.n, decide (r.a < p ∧ p < r.a + r.o), k, p - r.a⟩
def refHit (xs : List Rng) (p side : Int) : Nat → List Rng → Option Spot
  | _, [] => none
  | k, r :: rest => if p < r.a ∨ r.a + r.o < p then refHit xs p side (k + 1) rest else some (refSpot xs p side k r)
/-- How many begin ahead of a place. -/
def refCnt (p : Int) : List Rng → Nat
  | [] => 0
  | r :: rest => if r.a < p then refCnt p rest + 1 else 0
def refMapF (xs : List Rng) (p side : Int) : Spot := match refHit xs p side 0 xs with | some s => s | none => ⟨p + dF xs (refCnt p xs), false, -1, 0⟩
theorem refSpot_eq (xs : List Rng) (p side : Int) (k : Nat) (hk : k < xs.length) (h1 : okR xs[k]) (hp : xs[k].a ≤ p ∧ p ≤ xs[k].a + xs[k].o) : refSpot xs p side k xs[k] = spotF (begF xs k) p side k xs[k] := by
  have hb : begF xs k = xs[k].a + dF xs k := by unfold begF; rw [List.getElem?_eq_getElem hk]; rfl
  rw [hb]
  generalize xs[k] = r at h1 hp
  obtain ⟨a, o, n⟩ := r
  unfold okR at h1
  simp only at h1 hp
  have hL : refLeft ⟨a, o, n⟩ p side = withinL ⟨a, o, n⟩ p side := by
    unfold refLeft withinL
    simp only
    by_cases h0 : o = 0
    · rw [if_neg (by omega), if_neg (by omega), if_pos h0]
    · by_cases ha : p = a
      · rw [if_neg (by omega), if_pos (by omega), if_neg h0, if_pos ha]
      · by_cases he : p = a + o
        · rw [if_pos (by omega), if_neg h0, if_neg ha, if_pos he]
        · rw [if_neg (by omega), if_neg (by omega), if_neg h0, if_neg ha, if_neg he]
  have hG : decide (a < p ∧ p < a + o) = withinG ⟨a, o, n⟩ p := by
    unfold withinG
    simp only
    by_cases h0 : o = 0
    · rw [if_pos h0, decide_eq_false (by omega)]
    · by_cases ha : p = a
      · rw [if_neg h0, if_pos ha, decide_eq_false (by omega)]
      · by_cases he : p = a + o
        · rw [if_neg h0, if_neg ha, if_pos he, decide_eq_false (by omega)]
        · rw [if_neg h0, if_neg ha, if_neg he, decide_eq_true (by omega)]
  unfold refSpot spotF
  rw [hL]
  simp only
  rw [hG]
  by_cases hc : side < 0 ∧ p = a ∨ 0 ≤ side ∧ p = a + o
  · rw [if_pos hc, if_neg (show ¬ (side < 0 ∧ p ≠ a ∨ 0 ≤ side ∧ p ≠ a + o) by omega)]
  · rw [if_neg hc, if_pos (show side < 0 ∧ p ≠ a ∨ 0 ≤ side ∧ p ≠ a + o by omega)]
/-- Ranges that stand behind a place: it is in none of them, and none begins ahead of it. -/
theorem refHit_behind (xs : List Rng) (p side : Int) : ∀ (l : List Rng) (k : Nat) (last : Int), p < last → 0 ≤ last → rightF l last = true → refHit xs p side k l = none
  | [], _, _, _, _, _ => rfl
  | r :: l, k, last, hp, h0, h => by
    rw [rightF] at h
    split at h
    · cases h
    · rename_i hb
      rw [badR_iff] at hb
      rw [refHit, if_pos (by omega)]
      exact refHit_behind xs p side l (k + 1) (r.a + r.o) (by omega) (by omega) h
theorem refMap_go (xs : List Rng) (p side : Int) (hx : ∀ x ∈ xs, okR x) : ∀ (n k : Nat) (last : Int), n = xs.length - k → k ≤ xs.length → 0 ≤ last → rightF (xs.drop k) last = true →
    (match refHit xs p side k (xs.drop k) with | some s => s | none => (⟨p + dF xs (k + refCnt p (xs.drop k)), false, -1, 0⟩ : Spot)) = mapGo xs p side k (xs.drop k)
  | 0, k, _, hn, hk, _, _ => by
    rw [List.drop_eq_nil_of_le (by omega)]
    rfl
  | n + 1, k, last, hn, hk, h0, h => by
    have hlt : k < xs.length := by omega
    have hdr : xs.drop k = xs[k] :: xs.drop (k + 1) := List.drop_eq_getElem_cons hlt
    rw [hdr, rightF] at h
    split at h
    · cases h
    · rename_i hb
      rw [badR_iff] at hb
      have ho := hx xs[k] (List.getElem_mem _)
      have hs := refSpot_eq xs p side k hlt ho
      have ih := refMap_go xs p side hx n (k + 1) (xs[k].a + xs[k].o) (by omega) (by omega) (by omega) h
      have hbe := refHit_behind xs p side (xs.drop (k + 1)) (k + 1) (xs[k].a + xs[k].o)
      rw [hdr]
      by_cases hp : p < xs[k].a
      · rw [refHit, if_pos (.inl hp), hbe (by omega) (by omega) h, mapGo, if_pos hp, refCnt, if_neg (by omega), Nat.add_zero]
      · by_cases hq : p ≤ xs[k].a + xs[k].o
        · rw [refHit, if_neg (by omega), mapGo, if_neg hp, if_pos hq, hs (by omega)]
        · rw [refHit, if_pos (by omega), mapGo, if_neg hp, if_neg hq, ← ih, refCnt, if_pos (by unfold okR at ho; omega), show k + (refCnt p (xs.drop (k + 1)) + 1) = k + 1 + refCnt p (xs.drop (k + 1)) by omega]
theorem refMap_eq {xs : List Rng} (p side : Int) (hx : rightP xs = true) : refMapF xs p side = mapGo xs p side 0 xs := by
  have h := rightP_ok hx
  rw [rightP, Bool.and_eq_true] at hx
  have := refMap_go xs p side h.2 xs.length 0 0 rfl (by omega) (by omega) hx.1
  rw [List.drop_zero, Nat.zero_add] at this
  exact this
end Go.Proofs.YtanbfplcldloeaaGreatDoor

/- Blocks of three, four, eight cells: all their cells at once; ways to return what such a block holds; a step of a drawn region, with what the kernel finds by itself left out. -/
namespace Go.Proofs.YtanbfplcldloeaaGreatDoor
open Go.RowKit
theorem Blk.f3 {w : World} {g : Nat} {t : TypeId} {a b c : Value} (h : Blk w g [a, b, c] t) : w.cell? ⟨g, 0, none⟩ = some a ∧ w.cell? ⟨g, 1, none⟩ = some b ∧ w.cell? ⟨g, 2, none⟩ = some c ∧ g < w.heap.size := ⟨h.cell 0, h.cell 1, h.cell 2, h.lt⟩
theorem Blk.f4 {w : World} {g : Nat} {t : TypeId} {a b c d : Value} (h : Blk w g [a, b, c, d] t) : w.cell? ⟨g, 0, none⟩ = some a ∧ w.cell? ⟨g, 1, none⟩ = some b ∧ w.cell? ⟨g, 2, none⟩ = some c ∧ w.cell? ⟨g, 3, none⟩ = some d ∧
    w.frozen? ⟨g, 0, none⟩ = false ∧ w.frozen? ⟨g, 1, none⟩ = false ∧ w.frozen? ⟨g, 2, none⟩ = false ∧ w.frozen? ⟨g, 3, none⟩ = false ∧ g < w.heap.size := ⟨h.cell 0, h.cell 1, h.cell 2, h.cell 3, h.frozen 0, h.frozen 1, h.frozen 2, h.frozen 3, h.lt⟩
theorem Blk.c8 {w : World} {g : Nat} {t : TypeId} {x0 x1 x2 x3 x4 x5 x6 x7 : Value} (h : Blk w g [x0, x1, x2, x3, x4, x5, x6, x7] t) : w.cell? ⟨g, 0, none⟩ = some x0 ∧ w.cell? ⟨g, 1, none⟩ = some x1 ∧ w.cell? ⟨g, 2, none⟩ = some x2 ∧ w.cell? ⟨g, 3, none⟩ = some x3 ∧
    w.cell? ⟨g, 4, none⟩ = some x4 ∧ w.cell? ⟨g, 5, none⟩ = some x5 ∧ w.cell? ⟨g, 6, none⟩ = some x6 ∧ w.cell? ⟨g, 7, none⟩ = some x7 ∧ g < w.heap.size := ⟨h.cell 0, h.cell 1, h.cell 2, h.cell 3, h.cell 4, h.cell 5, h.cell 6, h.cell 7, h.lt⟩
theorem Blk.z8 {w : World} {g : Nat} {t : TypeId} {x0 x1 x2 x3 x4 x5 x6 x7 : Value} (h : Blk w g [x0, x1, x2, x3, x4, x5, x6, x7] t) : w.frozen? ⟨g, 0, none⟩ = false ∧ w.frozen? ⟨g, 1, none⟩ = false ∧ w.frozen? ⟨g, 2, none⟩ = false ∧ w.frozen? ⟨g, 3, none⟩ = false ∧
    w.frozen? ⟨g, 4, none⟩ = false ∧ w.frozen? ⟨g, 5, none⟩ = false ∧ w.frozen? ⟨g, 6, none⟩ = false ∧ w.frozen? ⟨g, 7, none⟩ = false := ⟨h.frozen 0, h.frozen 1, h.frozen 2, h.frozen 3, h.frozen 4, h.frozen 5, h.frozen 6, h.frozen 7⟩
theorem ret4 {P : Program} {fn : Func} {R : Ending → World → Prop} {ac : Act} {W w0 : World} {g : Nat} {t : TypeId} {x0 x1 x2 x3 a b c d v : Value} (hg : Blk W g [x0, x1, x2, x3] t) (hF : Fr Nob w0 W) (hl : w0.heap.size ≤ g) (hd : ac.defers = [])
    (hr : ∀ WE : World, WE.cell? ⟨g, 0, none⟩ = some a → WE.cell? ⟨g, 1, none⟩ = some b → WE.cell? ⟨g, 2, none⟩ = some c → WE.cell? ⟨g, 3, none⟩ = some d → (results fn ac.tmps).run P WE = .ok v WE) (hR : ∀ WE, Fr Nob w0 WE → R (.returned v) WE) :
    bodyPost P fn R .ret ac ((((W.setCell ⟨g, 0, none⟩ a).setCell ⟨g, 1, none⟩ b).setCell ⟨g, 2, none⟩ c).setCell ⟨g, 3, none⟩ d) := by
  have hB : Blk ((((W.setCell ⟨g, 0, none⟩ a).setCell ⟨g, 1, none⟩ b).setCell ⟨g, 2, none⟩ c).setCell ⟨g, 3, none⟩ d) g [a, b, c, d] t := (((hg.set 0 a).set 1 b).set 2 c).set 3 d
  exact bodyPost_ret (hr _ (hB.cell 0) (hB.cell 1) (hB.cell 2) (hB.cell 3)) hd (hR _ ((((hF.setCell (p := ⟨g, 0, none⟩) (.inr hl) a).setCell (p := ⟨g, 1, none⟩) (.inr hl) b).setCell (p := ⟨g, 2, none⟩) (.inr hl) c).setCell (p := ⟨g, 3, none⟩) (.inr hl) d))
theorem ret8 {P : Program} {fn : Func} {R : Ending → World → Prop} {ac : Act} {W w0 : World} {g : Nat} {t : TypeId} {x0 x1 x2 x3 x4 x5 x6 x7 y0 y1 y2 y3 y4 y5 y6 y7 v : Value} (hg : Blk W g [x0, x1, x2, x3, x4, x5, x6, x7] t) (hF : Fr Nob w0 W) (hl : w0.heap.size ≤ g) (hd : ac.defers = [])
    (hr : ∀ WE : World, WE.cell? ⟨g, 0, none⟩ = some y0 → WE.cell? ⟨g, 1, none⟩ = some y1 → WE.cell? ⟨g, 2, none⟩ = some y2 → WE.cell? ⟨g, 3, none⟩ = some y3 → WE.cell? ⟨g, 4, none⟩ = some y4 → WE.cell? ⟨g, 5, none⟩ = some y5 → WE.cell? ⟨g, 6, none⟩ = some y6 → WE.cell? ⟨g, 7, none⟩ = some y7 → (results fn ac.tmps).run P WE = .ok v WE) (hR : ∀ WE, Fr Nob w0 WE → R (.returned v) WE) :
    bodyPost P fn R .ret ac ((((((((W.setCell ⟨g, 0, none⟩ y0).setCell ⟨g, 1, none⟩ y1).setCell ⟨g, 2, none⟩ y2).setCell ⟨g, 3, none⟩ y3).setCell ⟨g, 4, none⟩ y4).setCell ⟨g, 5, none⟩ y5).setCell ⟨g, 6, none⟩ y6).setCell ⟨g, 7, none⟩ y7) := by
  have hB : Blk ((((((((W.setCell ⟨g, 0, none⟩ y0).setCell ⟨g, 1, none⟩ y1).setCell ⟨g, 2, none⟩ y2).setCell ⟨g, 3, none⟩ y3).setCell ⟨g, 4, none⟩ y4).setCell ⟨g, 5, none⟩ y5).setCell ⟨g, 6, none⟩ y6).setCell ⟨g, 7, none⟩ y7) g [y0, y1, y2, y3, y4, y5, y6, y7] t :=
    (((((((hg.set 0 y0).set 1 y1).set 2 y2).set 3 y3).set 4 y4).set 5 y5).set 6 y6).set 7 y7
  exact bodyPost_ret (hr _ (hB.cell 0) (hB.cell 1) (hB.cell 2) (hB.cell 3) (hB.cell 4) (hB.cell 5) (hB.cell 6) (hB.cell 7)) hd (hR _ ((((((((hF.setCell (p := ⟨g, 0, none⟩) (.inr hl) y0).setCell (p := ⟨g, 1, none⟩) (.inr hl) y1).setCell (p := ⟨g, 2, none⟩) (.inr hl) y2).setCell (p := ⟨g, 3, none⟩) (.inr hl) y3).setCell (p := ⟨g, 4, none⟩) (.inr hl) y4).setCell (p := ⟨g, 5, none⟩) (.inr hl) y5).setCell (p := ⟨g, 6, none⟩) (.inr hl) y6).setCell (p := ⟨g, 7, none⟩) (.inr hl) y7))
section
variable {P : Program} {md : Region.Mode} {ops : Array Oper} {Q : Exit → Act → World → Prop} {S : World → Prop}
/-- A step of a drawn region that yields v in every world of S. -/
theorem take_by {i : Nat} {oi : Oper} {v : Value} {fuel : Nat} {listed : Array Bool} {a : Act} {w : World} (hi : ops[i]? = some oi) (hS : S w)
    (h : wpAnyH P md ops Q S fuel (listed.setIfInBounds i true) (a.put oi.dst v) w)
    (hs : Region.noSelect ops = true := by kernel_rfl) (hf : Region.free md ops listed i = true := by kernel_rfl) (hr : (Region.ready md ops listed).contains i = true := by kernel_rfl)
    (hQ : ∀ c a w, Q (.panic c) (a.put oi.dst v) w → Q (.panic c) a w := by exact fun _ _ _ h => h)
    (hy : YieldsIf P ops S oi v a := by exact Or.inl ⟨by rfl, fun w hSw => by (try dsimp only at hSw); go_simp⟩) : wpAnyH P md ops Q S (fuel + 1) listed a w :=
  wpAnyH_take hi hs hf hr hQ hy hS h
/-- .. one that is passed over. -/
theorem skip_by {i : Nat} {oi : Oper} {fuel : Nat} {listed : Array Bool} {a : Act} {w : World} (hi : ops[i]? = some oi) (hS : S w)
    (h : wpAnyH P md ops Q S fuel (listed.setIfInBounds i true) (a.put oi.dst undef) w)
    (hs : Region.noSelect ops = true := by kernel_rfl) (hf : Region.free md ops listed i = true := by kernel_rfl) (hr : (Region.ready md ops listed).contains i = true := by kernel_rfl)
    (hQ : ∀ c a w, Q (.panic c) (a.put oi.dst undef) w → Q (.panic c) a w := by exact fun _ _ _ h => h)
    (hy : YieldsIf P ops S oi undef a := by exact Or.inr ⟨by kernel_rfl, rfl⟩) : wpAnyH P md ops Q S (fuel + 1) listed a w :=
  wpAnyH_take hi hs hf hr hQ hy hS h
end
end Go.Proofs.YtanbfplcldloeaaGreatDoor
