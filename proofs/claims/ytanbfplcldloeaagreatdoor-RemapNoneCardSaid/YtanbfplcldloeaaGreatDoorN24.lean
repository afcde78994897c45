/- A part of the proof for chapter 10: Add, Mirror; no conditions. -/
import Derived.Test.YtanbfplcldloeaaGreatDoorN23
/- Chapter 8: one map more. -/
namespace Go.Proofs.YtanbfplcldloeaaGreatDoor
open Go.RowKit
set_option maxRecDepth 100000 in
set_option maxHeartbeats 4000000 in
theorem posadd_any (N M : Nat → Prop) (base m : Nat) (v : Value) (ms : List OneM) (xs : List Rng) (A : Option Addr) (c : Nat) (w : World) (hm : Mp N base w m v ms) (hr : Rd M w A (rngC xs)) (hx : rightP xs = true) (hn : ms.length < 4096) :
    Calls Tryz.prog 10 #[.pointer (some ⟨m, 0, none⟩), .slice A xs.length c] w fun e w' => e = .returned (.int .i64 0) ∧ ∃ v' A' c', Mp (fun k => N k ∧ k < w.heap.size ∨ v'.ownBlock = some k) base w' m v' (ms ++ [⟨xs, -1, A', c'⟩]) ∧ Fr (MB m v) w w' ∧ (v'.ownBlock = v.ownBlock ∨ ∃ g, v'.ownBlock = some g ∧ w.heap.size ≤ g) := by
  obtain ⟨VA, vc, rfl, hvc, hrv⟩ := Rd.of_own (M := Nob) hm.own (fun _ _ h => h)
  have HM := Lib.hid hm
  have HR := Lib.hid hr
  have HX := Lib.hid hx
  have d0 := hm.blk.cell 0
  have d1 := hm.blk.cell 1
  have f0 := hm.blk.frozen 0
  have lm := hm.blk.lt
  simp only [List.getElem?_cons_zero, List.getElem?_cons_succ] at d0 d1
  obtain ⟨h4, _⟩ := rightP_ok hx
  have hn' : ¬ (4096 ≤ (ms.length : Int)) := by omega
  have HNO := Lib.hid (posnone_any m w d1)
  clear hrv hm hr hx
  go_enter Tryz.func10, Tryz.ntmps10
  go_wp2_with fail
  refine HNO.out.mono ?_
  rintro e w ⟨rfl, rfl⟩
  go_wp2_with fail
  refine (posright_any M xs A c w HR.out (by omega)).mono ?_
  rintro e w1 ⟨rfl, hF1⟩
  rw [HX.out]
  have HM1 := Lib.hid (HM.out.fr0 hF1)
  have HR1 := Lib.hid (HR.out.fr hF1 (fun _ _ h => h.elim))
  have HF1 := Lib.hid hF1
  clear hF1 d0 d1 f0 lm
  have d0 := HM1.out.blk.cell 0
  have lm := HM1.out.blk.lt
  simp only [List.getElem?_cons_zero] at d0
  obtain ⟨i0, hi, hz0, hz1, hz2⟩ := info_parts infoOne
  go_wp2_with fail
  refine wp_region_held_drew (S := fun _ : World => True) (by kernel_rfl) trivial (fun _ => ?_)
  have HMD := Lib.hid (HM1.out.fr0 (Fr.refl Nob w1).drew)
  have HRD := Lib.hid (HR1.out.fr (Fr.refl Nob w1).drew (fun _ _ h => h.elim))
  have HFD := Lib.hid (HF1.out.same (Fr.refl Nob w1).drew)
  clear d0 lm
  generalize w1.drew = wd at HMD HRD HFD ⊢
  have FIN : Hid (∀ (w6 : World) (A6 : Option Addr) (c6 : Nat), Fr Nob wd w6 → Rd (fun k => k < wd.heap.size) w6 A6 (rngC xs) → ∀ (g cap : Nat) (w9 : World), w9.ownsRow base 74 2 (.slice (some ⟨g, 0, none⟩) (ms.length + 1) cap) (ms.length + 1) (oneC ms ++ [.slice A6 xs.length c6, .int .i64 (-1)]) →
      (((w6.alloc (.cells #[.slice A6 xs.length c6, .int .i64 (-1)] 74)).grownBy w9 none ∧ (w6.alloc (.cells #[.slice A6 xs.length c6, .int .i64 (-1)] 74)).heap.size ≤ g) ∨ (∃ cap0, (.slice VA ms.length vc : Value) = .slice (some ⟨g, 0, none⟩) ms.length cap0 ∧ ms.length + 1 ≤ cap0 ∧ (w6.alloc (.cells #[.slice A6 xs.length c6, .int .i64 (-1)] 74)).grownBy w9 (some g))) →
      Blk w9 m [.slice VA ms.length vc, .bool true] 71 ∧ (∃ v' A' c', Mp (fun k => N k ∧ k < w.heap.size ∨ v'.ownBlock = some k) base (w9.setCell ⟨m, 0, none⟩ (.slice (some ⟨g, 0, none⟩) (ms.length + 1) cap)) m v' (ms ++ [⟨xs, -1, A', c'⟩]) ∧ Fr (MB m (.slice VA ms.length vc)) w (w9.setCell ⟨m, 0, none⟩ (.slice (some ⟨g, 0, none⟩) (ms.length + 1) cap)) ∧ (v'.ownBlock = (Value.slice VA ms.length vc).ownBlock ∨ ∃ g, v'.ownBlock = some g ∧ w.heap.size ≤ g))) := fun w6 A6 c6 hF6 hR6 g cap w9 hown9 htwo => by
    have hM6 := HMD.out.fr0 hF6
    have hsz : (w6.alloc (.cells #[.slice A6 xs.length c6, .int .i64 (-1)] 74)).heap.size = w6.heap.size + 1 := by simp
    have hwd := HFD.out.size
    have h6 := hF6.size
    have hmlt := hM6.blk.lt
    have hne := hM6.ne
    obtain ⟨row, hg, hrow, hgw⟩ : ∃ row, (w6.alloc (.cells #[.slice A6 xs.length c6, .int .i64 (-1)] 74)).grownBy w9 row ∧ (∀ k, some k = row → (Value.slice VA ms.length vc).ownBlock = some k) ∧ ((Value.slice VA ms.length vc).ownBlock = some g ∨ w6.heap.size + 1 ≤ g) := by
      rcases htwo with ⟨h, hgl⟩ | ⟨cap0, e, _, h⟩
      · exact ⟨_, h, fun k e => (by cases e), .inr (by omega)⟩
      · exact ⟨_, h, fun k e' => (by cases e'; rw [e]; rfl), .inl (by rw [e]; rfl)⟩
    have hgm : g ≠ m := by
      rintro rfl
      rcases hgw with h | h
      · exact hne h
      · omega
    have hF9 : Fr (MB m (.slice VA ms.length vc)) w6 w9 := ((Fr.refl _ w6).alloc _).trans (Fr.of_grown hg) (fun k _ e => .inr (hrow k e))
    have hB9 : Blk w9 m [.slice VA ms.length vc, .bool true] 71 := (hM6.blk.alloc _).fr (Fr.of_grown hg) (fun e => hne (hrow m e))
    have hFE : Fr (MB m (.slice VA ms.length vc)) w6 (w9.setCell ⟨m, 0, none⟩ (.slice (some ⟨g, 0, none⟩) (ms.length + 1) cap)) := hF9.setCell (p := ⟨m, 0, none⟩) (.inl (.inl rfl)) _
    refine ⟨hB9, .slice (some ⟨g, 0, none⟩) (ms.length + 1) cap, A6, c6, ⟨hB9.set 0 _, hM6.lo, ?_, ?_, ?_, ?_, ?_, ?_⟩, ?_, ?_⟩
    · have h := own_fr hown9 ((Fr.refl (One m) w9).setCell (p := ⟨m, 0, none⟩) (.inl rfl) (.slice (some ⟨g, 0, none⟩) (ms.length + 1) cap)) (fun k e h => by cases e; exact hgm h)
      rw [List.length_append]
      simpa [oneC, OneM.cells] using h
    · intro e
      exact hgm (by cases e; rfl)
    · rintro k (rfl | h)
      · exact .inl ⟨hM6.mine _ (.inl rfl), HM.out.blk.lt⟩
      · exact .inr h
    · intro x hx
      rcases List.mem_append.1 hx with hx | hx
      · have h := ((hM6.rows x hx).bound).fr hFE (fun k _ h => .inl (hM6.mine k h))
        refine h.mono (fun k hk => ?_)
        rcases hk with hk | hk
        · exact .inl hk.1
        · have hk' : g = k := by cases hk; rfl
          subst hk'
          rcases hgw with h | h
          · exact .inl (hM6.mine _ (.inr h))
          · exact .inr (by omega)
      · rw [List.mem_singleton.1 hx]
        intro hne6
        have h6lt := hR6
        obtain ⟨ad, e6, hn6, hc6⟩ := hR6 hne6
        subst e6
        have hlt6 := Rd.lt h6lt hne6
        have hold : ∀ k, MB m (.slice VA ms.length vc) k → k < wd.heap.size := fun k hk => by
          rcases hk with rfl | h
          · exact HMD.out.blk.lt
          · exact (World.ownsRow.lt HMD.out.own k h).2
        have hnm : ¬ MB m (.slice VA ms.length vc) ad.block := fun h => hn6 (hold _ h)
        refine ⟨ad, rfl, fun hk => ?_, fun j u hu => ?_⟩
        · rcases hk with hk | hk
          · omega
          · have hk' : g = ad.block := by cases hk; rfl
            rcases hgw with h | h
            · exact hnm (.inr (by rw [h, hk']))
            · omega
        · exact (hFE.cell (p := ad.add j) (by rw [add_block]; exact hlt6) (by rw [add_block]; exact hnm)).trans (hc6 j u hu)
    · intro x hx
      rcases List.mem_append.1 hx with hx | hx
      · exact hM6.right x hx
      · rw [List.mem_singleton.1 hx]; exact HX.out
    · intro x hx
      rw [List.length_append, List.length_singleton]
      rcases List.mem_append.1 hx with hx | hx
      · have := HM.out.mirs x hx
        omega
      · rw [List.mem_singleton.1 hx]; show (-1 : Int) < _; omega
    · exact (HFD.out.any.trans hF6 (fun _ _ h => h.elim)).trans hFE (fun _ _ h => h)
    · rcases hgw with h | h
      · exact .inl h.symm
      · exact .inr ⟨g, rfl, by omega⟩
  refine wpAnyH_take (i := 0) (v := .pointer (some ⟨m, 0, none⟩)) rfl (by kernel_rfl) (by kernel_rfl) (by kernel_rfl) (fun _ _ _ h => h) (Or.inl ⟨by rfl, fun w hSw => by (try dsimp only at hSw); go_simp⟩) trivial ?_
  try simp only [List.getElem_toArray, List.getElem_cons_succ, List.getElem_cons_zero, Act.put, List.setIfInBounds_toArray, List.set_cons_zero, List.set_cons_succ]
  refine wpAnyH_take (i := 1) (v := .pointer (some ⟨m, 0, none⟩)) rfl (by kernel_rfl) (by kernel_rfl) (by kernel_rfl) (fun _ _ _ h => h) (Or.inl ⟨by rfl, fun w hSw => by (try dsimp only at hSw); go_simp⟩) trivial ?_
  try simp only [List.getElem_toArray, List.getElem_cons_succ, List.getElem_cons_zero, Act.put, List.setIfInBounds_toArray, List.set_cons_zero, List.set_cons_succ]
  refine wpAnyH_take (i := 2) (v := .pointer (some ⟨m, 0, none⟩)) rfl (by kernel_rfl) (by kernel_rfl) (by kernel_rfl) (fun _ _ _ h => h) (Or.inl ⟨by rfl, fun w hSw => by (try dsimp only at hSw); go_simp⟩) trivial ?_
  try simp only [List.getElem_toArray, List.getElem_cons_succ, List.getElem_cons_zero, Act.put, List.setIfInBounds_toArray, List.set_cons_zero, List.set_cons_succ]
  refine wpAnyH_take (i := 3) (v := .pointer (some ⟨m, 0, none⟩)) rfl (by kernel_rfl) (by kernel_rfl) (by kernel_rfl) (fun _ _ _ h => h) (Or.inl ⟨by rfl, fun w hSw => by (try dsimp only at hSw); go_simp⟩) trivial ?_
  try simp only [List.getElem_toArray, List.getElem_cons_succ, List.getElem_cons_zero, Act.put, List.setIfInBounds_toArray, List.set_cons_zero, List.set_cons_succ]
  refine wpAnyH_take (i := 5) (v := .slice A xs.length c) rfl (by kernel_rfl) (by kernel_rfl) (by kernel_rfl) (fun _ _ _ h => h) (Or.inl ⟨by rfl, fun w hSw => by (try dsimp only at hSw); go_simp⟩) trivial ?_
  try simp only [List.getElem_toArray, List.getElem_cons_succ, List.getElem_cons_zero, Act.put, List.setIfInBounds_toArray, List.set_cons_zero, List.set_cons_succ]
  refine wpAnyH_ready (rs := [4, 6]) (by kernel_rfl) (by simp) (AllReadyH.cons (o := _) rfl (fun K hK => ?_) (AllReadyH.cons (o := _) rfl (fun K hK => ?_) AllReadyH.nil))
  · have dX := HMD.out.blk.cell 0
    simp only [List.getElem?_cons_zero] at dX
    go_simp
    clear dX
    refine hK.out _ _ trivial (fun _ => ?_)
    clear hK K
    try simp only [List.getElem_toArray, List.getElem_cons_succ, List.getElem_cons_zero, Act.put, List.setIfInBounds_toArray, List.set_cons_zero, List.set_cons_succ]
    refine wpAnyH_ready (rs := [6]) (by kernel_rfl) (by simp) (AllReadyH.cons (o := _) rfl (fun K hK => ?_) AllReadyH.nil)
    refine step_append_rngs _ M rfl _ _ rfl rfl A c xs rfl (HRD.out) (by omega) ?_
    intro A6 c6 w6 hF6 hR6
    have HF6 := Lib.hid hF6
    have HR6 := Lib.hid hR6
    clear hF6 hR6
    refine hK.out _ _ trivial (fun _ => ?_)
    clear hK K
    try simp only [List.getElem_toArray, List.getElem_cons_succ, List.getElem_cons_zero, Act.put, List.setIfInBounds_toArray, List.set_cons_zero, List.set_cons_succ]
    refine wpAnyH_take (i := 7) (v := .agg #[.slice A6 xs.length c6, .int .i64 (-1)]) rfl (by kernel_rfl) (by kernel_rfl) (by kernel_rfl) (fun _ _ _ h => h) (Or.inl ⟨by rfl, fun w hSw => by (try dsimp only at hSw); go_simp⟩) trivial ?_
    try simp only [List.getElem_toArray, List.getElem_cons_succ, List.getElem_cons_zero, Act.put, List.setIfInBounds_toArray, List.set_cons_zero, List.set_cons_succ]
    refine wpAnyH_ready (rs := [8]) (by kernel_rfl) (by simp) (AllReadyH.cons (o := _) rfl (fun K hK => ?_) AllReadyH.nil)
    go_simp
    refine hK.out _ _ trivial (fun _ => ?_)
    clear hK K
    try simp only [List.getElem_toArray, List.getElem_cons_succ, List.getElem_cons_zero, Act.put, List.setIfInBounds_toArray, List.set_cons_zero, List.set_cons_succ]
    refine wpAnyH_ready (rs := [9]) (by kernel_rfl) (by simp) (AllReadyH.cons (o := _) rfl (fun K hK => ?_) AllReadyH.nil)
    refine step_append_two _ rfl _ _ 69 rfl base 74 i0 _ 2 32 Tryz.underlying69 hi hz0 hz1 hz2 rfl (by decide) (.slice VA ms.length vc) ms.length _ rfl ((HMD.out.fr0 HF6.out).own.alloc _) ⟨w6.heap.size, 0, none⟩ 1 1 [.slice A6 xs.length c6, .int .i64 (-1)] rfl rfl (fun j u hu => by rw [add_lit]; exact ((Blk.new w6 [.slice A6 xs.length c6, .int .i64 (-1)] 74).cell j).trans hu) (by simp [Value.oneCell']) (by omega) (by simp only [maxLen]; omega) (by omega) (by have := HMD.out.lo; have := HMD.out.blk.lt; have := HF6.out.size; simp; omega) ?_
    intro g cap w9 hown9 htwo
    obtain ⟨hB9, hEND⟩ := FIN.out w6 A6 c6 HF6.out HR6.out g cap w9 hown9 htwo
    have HEND := Lib.hid hEND
    clear hEND hown9 htwo
    refine hK.out _ _ trivial (fun _ => ?_)
    clear hK K
    try simp only [List.getElem_toArray, List.getElem_cons_succ, List.getElem_cons_zero, Act.put, List.setIfInBounds_toArray, List.set_cons_zero, List.set_cons_succ]
    refine wpAnyH_take (i := 10) (v := .pointer (some ⟨m, 0, none⟩)) rfl (by kernel_rfl) (by kernel_rfl) (by kernel_rfl) (fun _ _ _ h => h) (Or.inl ⟨by rfl, fun w hSw => by (try dsimp only at hSw); go_simp⟩) trivial ?_
    try simp only [List.getElem_toArray, List.getElem_cons_succ, List.getElem_cons_zero, Act.put, List.setIfInBounds_toArray, List.set_cons_zero, List.set_cons_succ]
    refine wpAnyH_take (i := 11) (v := .pointer (some ⟨m, 0, none⟩)) rfl (by kernel_rfl) (by kernel_rfl) (by kernel_rfl) (fun _ _ _ h => h) (Or.inl ⟨by rfl, fun w hSw => by (try dsimp only at hSw); go_simp⟩) trivial ?_
    try simp only [List.getElem_toArray, List.getElem_cons_succ, List.getElem_cons_zero, Act.put, List.setIfInBounds_toArray, List.set_cons_zero, List.set_cons_succ]
    have da := hB9.cell 0
    have fa := hB9.frozen 0
    have la := hB9.lt
    simp only [List.getElem?_cons_zero] at da
    refine wpAnyH_ready (rs := [12]) (by kernel_rfl) (by simp) (AllReadyH.cons (o := _) rfl (fun K hK => ?_) AllReadyH.nil)
    go_simp
    refine hK.out _ _ trivial (fun _ => ?_)
    clear hK K
    try simp only [List.getElem_toArray, List.getElem_cons_succ, List.getElem_cons_zero, Act.put, List.setIfInBounds_toArray, List.set_cons_zero, List.set_cons_succ]
    refine wpAnyH_done (by kernel_rfl) ?_ _
    clear da fa la hB9
    generalize w9.setCell ⟨m, 0, none⟩ (.slice (some ⟨g, 0, none⟩) (ms.length + 1) cap) = wE at HEND ⊢
    go_wp2_with fail
    go_ret
    exact ⟨rfl, HEND.out⟩
  · refine step_append_rngs _ M rfl _ _ rfl rfl A c xs rfl (HRD.out) (by omega) ?_
    intro A6 c6 w6 hF6 hR6
    have HF6 := Lib.hid hF6
    have HR6 := Lib.hid hR6
    clear hF6 hR6
    refine hK.out _ _ trivial (fun _ => ?_)
    clear hK K
    try simp only [List.getElem_toArray, List.getElem_cons_succ, List.getElem_cons_zero, Act.put, List.setIfInBounds_toArray, List.set_cons_zero, List.set_cons_succ]
    refine wpAnyH_take (i := 7) (v := .agg #[.slice A6 xs.length c6, .int .i64 (-1)]) rfl (by kernel_rfl) (by kernel_rfl) (by kernel_rfl) (fun _ _ _ h => h) (Or.inl ⟨by rfl, fun w hSw => by (try dsimp only at hSw); go_simp⟩) trivial ?_
    try simp only [List.getElem_toArray, List.getElem_cons_succ, List.getElem_cons_zero, Act.put, List.setIfInBounds_toArray, List.set_cons_zero, List.set_cons_succ]
    refine wpAnyH_ready (rs := [4, 8]) (by kernel_rfl) (by simp) (AllReadyH.cons (o := _) rfl (fun K hK => ?_) (AllReadyH.cons (o := _) rfl (fun K hK => ?_) AllReadyH.nil))
    · have dX := (HMD.out.fr0 HF6.out).blk.cell 0
      simp only [List.getElem?_cons_zero] at dX
      go_simp
      clear dX
      refine hK.out _ _ trivial (fun _ => ?_)
      clear hK K
      try simp only [List.getElem_toArray, List.getElem_cons_succ, List.getElem_cons_zero, Act.put, List.setIfInBounds_toArray, List.set_cons_zero, List.set_cons_succ]
      refine wpAnyH_ready (rs := [8]) (by kernel_rfl) (by simp) (AllReadyH.cons (o := _) rfl (fun K hK => ?_) AllReadyH.nil)
      go_simp
      refine hK.out _ _ trivial (fun _ => ?_)
      clear hK K
      try simp only [List.getElem_toArray, List.getElem_cons_succ, List.getElem_cons_zero, Act.put, List.setIfInBounds_toArray, List.set_cons_zero, List.set_cons_succ]
      refine wpAnyH_ready (rs := [9]) (by kernel_rfl) (by simp) (AllReadyH.cons (o := _) rfl (fun K hK => ?_) AllReadyH.nil)
      refine step_append_two _ rfl _ _ 69 rfl base 74 i0 _ 2 32 Tryz.underlying69 hi hz0 hz1 hz2 rfl (by decide) (.slice VA ms.length vc) ms.length _ rfl ((HMD.out.fr0 HF6.out).own.alloc _) ⟨w6.heap.size, 0, none⟩ 1 1 [.slice A6 xs.length c6, .int .i64 (-1)] rfl rfl (fun j u hu => by rw [add_lit]; exact ((Blk.new w6 [.slice A6 xs.length c6, .int .i64 (-1)] 74).cell j).trans hu) (by simp [Value.oneCell']) (by omega) (by simp only [maxLen]; omega) (by omega) (by have := HMD.out.lo; have := HMD.out.blk.lt; have := HF6.out.size; simp; omega) ?_
      intro g cap w9 hown9 htwo
      obtain ⟨hB9, hEND⟩ := FIN.out w6 A6 c6 HF6.out HR6.out g cap w9 hown9 htwo
      have HEND := Lib.hid hEND
      clear hEND hown9 htwo
      refine hK.out _ _ trivial (fun _ => ?_)
      clear hK K
      try simp only [List.getElem_toArray, List.getElem_cons_succ, List.getElem_cons_zero, Act.put, List.setIfInBounds_toArray, List.set_cons_zero, List.set_cons_succ]
      refine wpAnyH_take (i := 10) (v := .pointer (some ⟨m, 0, none⟩)) rfl (by kernel_rfl) (by kernel_rfl) (by kernel_rfl) (fun _ _ _ h => h) (Or.inl ⟨by rfl, fun w hSw => by (try dsimp only at hSw); go_simp⟩) trivial ?_
      try simp only [List.getElem_toArray, List.getElem_cons_succ, List.getElem_cons_zero, Act.put, List.setIfInBounds_toArray, List.set_cons_zero, List.set_cons_succ]
      refine wpAnyH_take (i := 11) (v := .pointer (some ⟨m, 0, none⟩)) rfl (by kernel_rfl) (by kernel_rfl) (by kernel_rfl) (fun _ _ _ h => h) (Or.inl ⟨by rfl, fun w hSw => by (try dsimp only at hSw); go_simp⟩) trivial ?_
      try simp only [List.getElem_toArray, List.getElem_cons_succ, List.getElem_cons_zero, Act.put, List.setIfInBounds_toArray, List.set_cons_zero, List.set_cons_succ]
      have da := hB9.cell 0
      have fa := hB9.frozen 0
      have la := hB9.lt
      simp only [List.getElem?_cons_zero] at da
      refine wpAnyH_ready (rs := [12]) (by kernel_rfl) (by simp) (AllReadyH.cons (o := _) rfl (fun K hK => ?_) AllReadyH.nil)
      go_simp
      refine hK.out _ _ trivial (fun _ => ?_)
      clear hK K
      try simp only [List.getElem_toArray, List.getElem_cons_succ, List.getElem_cons_zero, Act.put, List.setIfInBounds_toArray, List.set_cons_zero, List.set_cons_succ]
      refine wpAnyH_done (by kernel_rfl) ?_ _
      clear da fa la hB9
      generalize w9.setCell ⟨m, 0, none⟩ (.slice (some ⟨g, 0, none⟩) (ms.length + 1) cap) = wE at HEND ⊢
      go_wp2_with fail
      go_ret
      exact ⟨rfl, HEND.out⟩
    · go_simp
      refine hK.out _ _ trivial (fun _ => ?_)
      clear hK K
      try simp only [List.getElem_toArray, List.getElem_cons_succ, List.getElem_cons_zero, Act.put, List.setIfInBounds_toArray, List.set_cons_zero, List.set_cons_succ]
      refine wpAnyH_ready (rs := [4]) (by kernel_rfl) (by simp) (AllReadyH.cons (o := _) rfl (fun K hK => ?_) AllReadyH.nil)
      have dX := ((HMD.out.fr0 HF6.out).blk.alloc (.cells #[.slice A6 xs.length c6, .int .i64 (-1)] 74)).cell 0
      simp only [List.getElem?_cons_zero] at dX
      go_simp
      clear dX
      refine hK.out _ _ trivial (fun _ => ?_)
      clear hK K
      try simp only [List.getElem_toArray, List.getElem_cons_succ, List.getElem_cons_zero, Act.put, List.setIfInBounds_toArray, List.set_cons_zero, List.set_cons_succ]
      refine wpAnyH_ready (rs := [9]) (by kernel_rfl) (by simp) (AllReadyH.cons (o := _) rfl (fun K hK => ?_) AllReadyH.nil)
      refine step_append_two _ rfl _ _ 69 rfl base 74 i0 _ 2 32 Tryz.underlying69 hi hz0 hz1 hz2 rfl (by decide) (.slice VA ms.length vc) ms.length _ rfl ((HMD.out.fr0 HF6.out).own.alloc _) ⟨w6.heap.size, 0, none⟩ 1 1 [.slice A6 xs.length c6, .int .i64 (-1)] rfl rfl (fun j u hu => by rw [add_lit]; exact ((Blk.new w6 [.slice A6 xs.length c6, .int .i64 (-1)] 74).cell j).trans hu) (by simp [Value.oneCell']) (by omega) (by simp only [maxLen]; omega) (by omega) (by have := HMD.out.lo; have := HMD.out.blk.lt; have := HF6.out.size; simp; omega) ?_
      intro g cap w9 hown9 htwo
      obtain ⟨hB9, hEND⟩ := FIN.out w6 A6 c6 HF6.out HR6.out g cap w9 hown9 htwo
      have HEND := Lib.hid hEND
      clear hEND hown9 htwo
      refine hK.out _ _ trivial (fun _ => ?_)
      clear hK K
      try simp only [List.getElem_toArray, List.getElem_cons_succ, List.getElem_cons_zero, Act.put, List.setIfInBounds_toArray, List.set_cons_zero, List.set_cons_succ]
      refine wpAnyH_take (i := 10) (v := .pointer (some ⟨m, 0, none⟩)) rfl (by kernel_rfl) (by kernel_rfl) (by kernel_rfl) (fun _ _ _ h => h) (Or.inl ⟨by rfl, fun w hSw => by (try dsimp only at hSw); go_simp⟩) trivial ?_
      try simp only [List.getElem_toArray, List.getElem_cons_succ, List.getElem_cons_zero, Act.put, List.setIfInBounds_toArray, List.set_cons_zero, List.set_cons_succ]
      refine wpAnyH_take (i := 11) (v := .pointer (some ⟨m, 0, none⟩)) rfl (by kernel_rfl) (by kernel_rfl) (by kernel_rfl) (fun _ _ _ h => h) (Or.inl ⟨by rfl, fun w hSw => by (try dsimp only at hSw); go_simp⟩) trivial ?_
      try simp only [List.getElem_toArray, List.getElem_cons_succ, List.getElem_cons_zero, Act.put, List.setIfInBounds_toArray, List.set_cons_zero, List.set_cons_succ]
      have da := hB9.cell 0
      have fa := hB9.frozen 0
      have la := hB9.lt
      simp only [List.getElem?_cons_zero] at da
      refine wpAnyH_ready (rs := [12]) (by kernel_rfl) (by simp) (AllReadyH.cons (o := _) rfl (fun K hK => ?_) AllReadyH.nil)
      go_simp
      refine hK.out _ _ trivial (fun _ => ?_)
      clear hK K
      try simp only [List.getElem_toArray, List.getElem_cons_succ, List.getElem_cons_zero, Act.put, List.setIfInBounds_toArray, List.set_cons_zero, List.set_cons_succ]
      refine wpAnyH_done (by kernel_rfl) ?_ _
      clear da fa la hB9
      generalize w9.setCell ⟨m, 0, none⟩ (.slice (some ⟨g, 0, none⟩) (ms.length + 1) cap) = wE at HEND ⊢
      go_wp2_with fail
      go_ret
      exact ⟨rfl, HEND.out⟩
end Go.Proofs.YtanbfplcldloeaaGreatDoor

/- Chapter 8: two maps undo one another. -/
namespace Go.Proofs.YtanbfplcldloeaaGreatDoor
open Go.RowKit
def mirL (ms : List OneM) (i j : Nat) : List OneM := (ms.modify i fun x => { x with mir := j }).modify j fun x => { x with mir := i }
theorem oneC_set (ms : List OneM) (i : Nat) (hi : i < ms.length) (u : Int) : (oneC ms).set (i * 2 + 1) (.int .i64 u) = oneC (ms.modify i fun x => { x with mir := u }) := by
  induction ms generalizing i with
  | nil => simp at hi
  | cons x l ih =>
    cases i with
    | zero => rfl
    | succ i =>
      have h := ih i (by simpa using hi)
      have e : (i + 1) * 2 + 1 = (i * 2 + 1) + 1 + 1 := by omega
      rw [e]
      simp only [oneC, List.flatMap_cons, OneM.cells, List.cons_append, List.nil_append, List.set_cons_succ, List.modify_succ_cons] at h ⊢
      rw [h]
theorem oneC_get (ms : List OneM) (i j : Nat) (hi : i < ms.length) (hj : j < 2) : (oneC ms)[i * 2 + j]? = ms[i].cells[j]? := flat_get OneM.cells_len ms i j hi hj
set_option maxRecDepth 100000 in
set_option maxHeartbeats 4000000 in
theorem mirror_any (N : Nat → Prop) (base m : Nat) (v : Value) (ms : List OneM) (i j : Nat) (w : World) (hm : Mp N base w m v ms) (hij : i < j) (hj : j < ms.length) (hi0 : ms[i].mir < 0) (hj0 : ms[j].mir < 0) (hn : ms.length ≤ 4096) :
    Calls Tryz.prog 41 #[.pointer (some ⟨m, 0, none⟩), .int .i64 i, .int .i64 j] w fun e w' => e = .returned (.int .i64 0) ∧ Mp N base w' m v (mirL ms i j) ∧ Fr (MB m v) w w' := by
  obtain ⟨g, cap, rfl, hbg, hgl⟩ := hm.own.form (by omega)
  have HM := Lib.hid hm
  have d0 := hm.blk.cell 0
  have d1 := hm.blk.cell 1
  have lm := hm.blk.lt
  simp only [List.getElem?_cons_zero, List.getElem?_cons_succ] at d0 d1
  have HNO := Lib.hid (posnone_any m w d1)
  have c1 := hm.own.cellAt (i * 2 + 1) (by omega)
  have c2 := hm.own.cellAt (j * 2 + 1) (by omega)
  rw [oneC_get ms i 1 (by omega) (by omega)] at c1
  rw [oneC_get ms j 1 (by omega) (by omega)] at c2
  simp only [OneM.cells, List.getElem?_cons_zero, List.getElem?_cons_succ] at c1 c2
  have hgm : g ≠ m := fun e => hm.ne (by rw [e]; rfl)
  obtain ⟨n, hnn⟩ : ∃ n, ms.length = n := ⟨_, rfl⟩
  have HN := Lib.hid hnn
  rw [hnn] at d0 hj hn
  have hi1 : ¬ (i : Int) < 0 := by omega
  have hi2 : ¬ (j : Int) ≤ i := by omega
  have hi3 : ¬ (n : Int) ≤ j := by omega
  have hi4 : ¬ 0 ≤ ms[i].mir := by omega
  have hi5 : ¬ 0 ≤ ms[j].mir := by omega
  have hin : i < n := by omega
  have HI0 := Lib.hid hi0
  have HJ0 := Lib.hid hj0
  generalize ms[i].mir = mi at c1 hi4
  generalize ms[j].mir = mj at c2 hi5
  clear hm hi0 hj0
  go_enter Tryz.func41, Tryz.ntmps41
  go_wp2_with fail
  refine HNO.out.mono ?_
  rintro e w ⟨rfl, rfl⟩
  go_wp2_with fail
  have HS := Lib.hid (fun (u : World) (h : Blk u m [.slice (some ⟨g, 0, none⟩) n cap, .bool true] 71) => (show u.cell? ⟨m, 0, none⟩ = some (.slice (some ⟨g, 0, none⟩) n cap) from h.cell 0))
  refine wp_region_held_drew (S := fun u : World => u.cell? ⟨m, 0, none⟩ = some (.slice (some ⟨g, 0, none⟩) n cap)) (by kernel_rfl) d0 (fun _ => ?_)
  have HMD := Lib.hid (HM.out.fr0 (Fr.refl Nob w).drew)
  have HFD := Lib.hid (((Fr.refl Nob w).drew).any (M := MB m (.slice (some ⟨g, 0, none⟩) n cap)))
  rw [hnn] at HMD
  clear d0 d1 lm c1 c2 hgl
  generalize w.drew = wd at HMD HFD ⊢
  have HSD := Lib.hid (HS.out wd HMD.out.blk)
  refine wpAnyH_take (i := 0) (v := .pointer (some ⟨m, 0, none⟩)) rfl (by kernel_rfl) (by kernel_rfl) (by kernel_rfl) (fun _ _ _ h => h) (Or.inl ⟨by rfl, fun w hSw => by (try dsimp only at hSw); go_simp⟩) HSD.out ?_
  try simp only [List.getElem_toArray, List.getElem_cons_succ, List.getElem_cons_zero, Act.put, List.setIfInBounds_toArray, List.set_cons_zero, List.set_cons_succ]
  refine wpAnyH_take (i := 1) (v := .pointer (some ⟨m, 0, none⟩)) rfl (by kernel_rfl) (by kernel_rfl) (by kernel_rfl) (fun _ _ _ h => h) (Or.inl ⟨by rfl, fun w hSw => by (try dsimp only at hSw); go_simp⟩) HSD.out ?_
  try simp only [List.getElem_toArray, List.getElem_cons_succ, List.getElem_cons_zero, Act.put, List.setIfInBounds_toArray, List.set_cons_zero, List.set_cons_succ]
  refine wpAnyH_take (i := 2) (v := .pointer (some ⟨m, 0, none⟩)) rfl (by kernel_rfl) (by kernel_rfl) (by kernel_rfl) (fun _ _ _ h => h) (Or.inl ⟨by rfl, fun w hSw => by (try dsimp only at hSw); go_simp⟩) HSD.out ?_
  try simp only [List.getElem_toArray, List.getElem_cons_succ, List.getElem_cons_zero, Act.put, List.setIfInBounds_toArray, List.set_cons_zero, List.set_cons_succ]
  refine wpAnyH_take (i := 3) (v := .slice (some ⟨g, 0, none⟩) n cap) rfl (by kernel_rfl) (by kernel_rfl) (by kernel_rfl) (fun _ _ _ h => h) (Or.inl ⟨by rfl, fun w hSw => by (try dsimp only at hSw); go_simp⟩) HSD.out ?_
  try simp only [List.getElem_toArray, List.getElem_cons_succ, List.getElem_cons_zero, Act.put, List.setIfInBounds_toArray, List.set_cons_zero, List.set_cons_succ]
  refine wpAnyH_take (i := 4) (v := .int .i64 i) rfl (by kernel_rfl) (by kernel_rfl) (by kernel_rfl) (fun _ _ _ h => h) (Or.inl ⟨by rfl, fun w hSw => by (try dsimp only at hSw); go_simp⟩) HSD.out ?_
  try simp only [List.getElem_toArray, List.getElem_cons_succ, List.getElem_cons_zero, Act.put, List.setIfInBounds_toArray, List.set_cons_zero, List.set_cons_succ]
  refine wpAnyH_take (i := 5) (v := .pointer (some ⟨m, 0, none⟩)) rfl (by kernel_rfl) (by kernel_rfl) (by kernel_rfl) (fun _ _ _ h => h) (Or.inl ⟨by rfl, fun w hSw => by (try dsimp only at hSw); go_simp⟩) HSD.out ?_
  try simp only [List.getElem_toArray, List.getElem_cons_succ, List.getElem_cons_zero, Act.put, List.setIfInBounds_toArray, List.set_cons_zero, List.set_cons_succ]
  refine wpAnyH_take (i := 6) (v := .pointer (some ⟨m, 0, none⟩)) rfl (by kernel_rfl) (by kernel_rfl) (by kernel_rfl) (fun _ _ _ h => h) (Or.inl ⟨by rfl, fun w hSw => by (try dsimp only at hSw); go_simp⟩) HSD.out ?_
  try simp only [List.getElem_toArray, List.getElem_cons_succ, List.getElem_cons_zero, Act.put, List.setIfInBounds_toArray, List.set_cons_zero, List.set_cons_succ]
  refine wpAnyH_take (i := 7) (v := .pointer (some ⟨m, 0, none⟩)) rfl (by kernel_rfl) (by kernel_rfl) (by kernel_rfl) (fun _ _ _ h => h) (Or.inl ⟨by rfl, fun w hSw => by (try dsimp only at hSw); go_simp⟩) HSD.out ?_
  try simp only [List.getElem_toArray, List.getElem_cons_succ, List.getElem_cons_zero, Act.put, List.setIfInBounds_toArray, List.set_cons_zero, List.set_cons_succ]
  refine wpAnyH_take (i := 8) (v := .slice (some ⟨g, 0, none⟩) n cap) rfl (by kernel_rfl) (by kernel_rfl) (by kernel_rfl) (fun _ _ _ h => h) (Or.inl ⟨by rfl, fun w hSw => by (try dsimp only at hSw); go_simp⟩) HSD.out ?_
  try simp only [List.getElem_toArray, List.getElem_cons_succ, List.getElem_cons_zero, Act.put, List.setIfInBounds_toArray, List.set_cons_zero, List.set_cons_succ]
  refine wpAnyH_take (i := 9) (v := .int .i64 j) rfl (by kernel_rfl) (by kernel_rfl) (by kernel_rfl) (fun _ _ _ h => h) (Or.inl ⟨by rfl, fun w hSw => by (try dsimp only at hSw); go_simp⟩) HSD.out ?_
  try simp only [List.getElem_toArray, List.getElem_cons_succ, List.getElem_cons_zero, Act.put, List.setIfInBounds_toArray, List.set_cons_zero, List.set_cons_succ]
  refine wpAnyH_take (i := 10) (v := .int .i64 j) rfl (by kernel_rfl) (by kernel_rfl) (by kernel_rfl) (fun _ _ _ h => h) (Or.inl ⟨by rfl, fun w hSw => by (try dsimp only at hSw); go_simp⟩) HSD.out ?_
  try simp only [List.getElem_toArray, List.getElem_cons_succ, List.getElem_cons_zero, Act.put, List.setIfInBounds_toArray, List.set_cons_zero, List.set_cons_succ]
  refine wpAnyH_take (i := 11) (v := .int .i64 i) rfl (by kernel_rfl) (by kernel_rfl) (by kernel_rfl) (fun _ _ _ h => h) (Or.inl ⟨by rfl, fun w hSw => by (try dsimp only at hSw); go_simp⟩) HSD.out ?_
  try simp only [List.getElem_toArray, List.getElem_cons_succ, List.getElem_cons_zero, Act.put, List.setIfInBounds_toArray, List.set_cons_zero, List.set_cons_succ]
  refine wpAnyH_take (i := 12) (v := .pointer (some ⟨g, i * 2, none⟩)) rfl (by kernel_rfl) (by kernel_rfl) (by kernel_rfl) (fun _ _ _ h => h) (Or.inl ⟨by rfl, fun w hSw => by (try dsimp only at hSw); go_simp⟩) HSD.out ?_
  try simp only [List.getElem_toArray, List.getElem_cons_succ, List.getElem_cons_zero, Act.put, List.setIfInBounds_toArray, List.set_cons_zero, List.set_cons_succ]
  refine wpAnyH_take (i := 13) (v := .pointer (some ⟨g, i * 2 + 1, none⟩)) rfl (by kernel_rfl) (by kernel_rfl) (by kernel_rfl) (fun _ _ _ h => h) (Or.inl ⟨by rfl, fun w hSw => by (try dsimp only at hSw); go_simp⟩) HSD.out ?_
  try simp only [List.getElem_toArray, List.getElem_cons_succ, List.getElem_cons_zero, Act.put, List.setIfInBounds_toArray, List.set_cons_zero, List.set_cons_succ]
  have hnl := HN.out
  have hod := HMD.out.own
  rw [hnl] at hod
  have c1 := hod.cellAt (i * 2 + 1) (show i * 2 + 1 < n * 2 by omega)
  have f1 := hod.frozenAt (i * 2 + 1)
  have lg := (World.ownsRow.lt hod g rfl).2
  have hs1 := hod.stored (i * 2 + 1) (.int .i64 (j : Int))
  have hb1 := HMD.out.blk.far (p := ⟨g, i * 2 + 1, none⟩) hgm.symm (.int .i64 (j : Int))
  rw [oneC_get ms i 1 (by omega) (by omega)] at c1
  simp only [OneM.cells, List.getElem?_cons_zero, List.getElem?_cons_succ] at c1
  have HO1 := Lib.hid hs1.1
  have HB1 := Lib.hid hb1
  clear hs1 hb1 hod
  refine wpAnyH_ready (rs := [14]) (by kernel_rfl) (by simp) (AllReadyH.cons (o := _) rfl (fun K hK => ?_) AllReadyH.nil)
  go_simp
  refine hK.out _ _ (HS.out _ HB1.out) (fun _ => ?_)
  clear hK K c1 f1 lg
  try simp only [List.getElem_toArray, List.getElem_cons_succ, List.getElem_cons_zero, Act.put, List.setIfInBounds_toArray, List.set_cons_zero, List.set_cons_succ]
  refine wpAnyH_take (i := 15) (v := .pointer (some ⟨g, j * 2, none⟩)) rfl (by kernel_rfl) (by kernel_rfl) (by kernel_rfl) (fun _ _ _ h => h) (Or.inl ⟨by rfl, fun w hSw => by (try dsimp only at hSw); go_simp⟩) (HS.out _ HB1.out) ?_
  try simp only [List.getElem_toArray, List.getElem_cons_succ, List.getElem_cons_zero, Act.put, List.setIfInBounds_toArray, List.set_cons_zero, List.set_cons_succ]
  refine wpAnyH_take (i := 16) (v := .pointer (some ⟨g, j * 2 + 1, none⟩)) rfl (by kernel_rfl) (by kernel_rfl) (by kernel_rfl) (fun _ _ _ h => h) (Or.inl ⟨by rfl, fun w hSw => by (try dsimp only at hSw); go_simp⟩) (HS.out _ HB1.out) ?_
  try simp only [List.getElem_toArray, List.getElem_cons_succ, List.getElem_cons_zero, Act.put, List.setIfInBounds_toArray, List.set_cons_zero, List.set_cons_succ]
  have HW1 := Lib.hid (HFD.out.setCell (p := ⟨g, i * 2 + 1, none⟩) (.inl (.inr rfl)) (.int .i64 (j : Int)))
  generalize wd.setCell ⟨g, i * 2 + 1, none⟩ (.int .i64 (j : Int)) = w5 at HO1 HB1 HW1 ⊢
  have hse := oneC_set ms i (by omega) j
  have HO2 := Lib.hid (by have h := HO1.out; rw [hse] at h; exact h)
  have hlen : (ms.modify i fun x => { x with mir := (j : Int) }).length = n := by rw [List.length_modify]; exact hnl
  have c2 := HO2.out.cellAt (j * 2 + 1) (show j * 2 + 1 < n * 2 by omega)
  have f2 := HO2.out.frozenAt (j * 2 + 1)
  have lg := (World.ownsRow.lt HO2.out g rfl).2
  rw [oneC_get _ j 1 (by omega) (by omega)] at c2
  simp only [OneM.cells, List.getElem?_cons_zero, List.getElem?_cons_succ] at c2
  have hs2 := HO2.out.stored (j * 2 + 1) (.int .i64 (i : Int))
  have HO3 := Lib.hid (by have h := hs2.1; rw [oneC_set _ j (by omega) i] at h; exact h)
  have HB3 := Lib.hid (HB1.out.far (p := ⟨g, j * 2 + 1, none⟩) hgm.symm (.int .i64 (i : Int)))
  have HW3 := Lib.hid (HW1.out.setCell (p := ⟨g, j * 2 + 1, none⟩) (.inl (.inr rfl)) (.int .i64 (i : Int)))
  clear hse hs2
  refine wpAnyH_ready (rs := [17]) (by kernel_rfl) (by simp) (AllReadyH.cons (o := _) rfl (fun K hK => ?_) AllReadyH.nil)
  go_simp
  refine hK.out _ _ (HS.out _ HB3.out) (fun _ => ?_)
  clear hK K c2 f2 lg
  try simp only [List.getElem_toArray, List.getElem_cons_succ, List.getElem_cons_zero, Act.put, List.setIfInBounds_toArray, List.set_cons_zero, List.set_cons_succ]
  refine wpAnyH_done (by kernel_rfl) ?_ _
  generalize w5.setCell ⟨g, j * 2 + 1, none⟩ (.int .i64 (i : Int)) = w6 at HO3 HB3 HW3 ⊢
  go_wp2_with fail
  go_ret
  have hl2 : (mirL ms i j).length = n := by simp [mirL, hnl]
  refine ⟨rfl, ⟨by rw [hnl]; exact HB3.out, HM.out.lo, by rw [hl2, hnl]; exact HO3.out, HM.out.ne, HM.out.mine, ?_, ?_, ?_⟩, HW3.out⟩
  · intro x hx
    have hold : ∀ y ∈ ms, Rd N w6 y.A (rngC y.l) := fun y hy => (HM.out.rows y hy).fr HW3.out (fun k _ h => HM.out.mine k h)
    obtain ⟨k, hk, rfl⟩ := List.mem_iff_getElem.1 hx
    have hk' : k < ms.length := by simpa [mirL] using hk
    have h := hold ms[k] (List.getElem_mem _)
    simp only [mirL, List.getElem_modify]
    split <;> split <;> exact h
  · intro x hx
    obtain ⟨k, hk, rfl⟩ := List.mem_iff_getElem.1 hx
    have hk' : k < ms.length := by simpa [mirL] using hk
    have h := HM.out.right ms[k] (List.getElem_mem _)
    simp only [mirL, List.getElem_modify]
    split <;> split <;> exact h
  · intro x hx
    obtain ⟨k, hk, rfl⟩ := List.mem_iff_getElem.1 hx
    have hk' : k < ms.length := by simpa [mirL] using hk
    have h := HM.out.mirs ms[k] (List.getElem_mem _)
    have hl3 : (mirL ms i j).length = n := hl2
    rw [hl3]
    simp only [mirL, List.getElem_modify]
    split
    · show (i : Int) < n; omega
    · split
      · show (j : Int) < n; omega
      · omega
end Go.Proofs.YtanbfplcldloeaaGreatDoor
