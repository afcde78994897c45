/- A part of the proof for chapter 10: Add, MirP; no conditions. -/
import Derived.Test.YtldcffonfidbcaaGreatDoorV27
/- Chapter 8: one map more. -/
namespace Go.Proofs.YtldcffonfidbcaaGreatDoor
open Go.RowKit
set_option maxRecDepth 100000 in
set_option maxHeartbeats 4000000 in
theorem posadd_any (N M : Nat → Prop) (base m : Nat) (v : Value) (ms : List OneM) (xs : List Rng) (A : Option Addr) (c : Nat) (w : World) (hm : Mp N base w m v ms) (hr : Rd M w A (rngC xs)) (hx : rightP xs = true) (hn : ms.length < 4096) :
    Calls Tryz.prog 80 #[.pointer (some ⟨m, 0, none⟩), .slice A xs.length c] w fun e w' => e = .returned (.int .i64 0) ∧ ∃ v' A' c', Mp (fun k => N k ∧ k < w.heap.size ∨ v'.ownBlock = some k) base w' m v' (ms ++ [⟨xs, -1, A', c'⟩]) ∧ Fr (MB m v) w w' ∧ (v'.ownBlock = v.ownBlock ∨ ∃ g, v'.ownBlock = some g ∧ w.heap.size ≤ g) := by
  obtain ⟨VA, vc, rfl, hvc, hrv⟩ := Rd.of_own (M := Nob) hm.own (fun _ _ h => h)
  have HM := Lib.hid hm
  have HR := Lib.hid hr
  have HX := Lib.hid hx
  have d0 := hm.blk.cell 0
  have d1 := hm.blk.cell 1
  have f0 := hm.blk.frozen 0
  have lm := hm.blk.lt
  simp only [List.getElem?_cons_zero, List.getElem?_cons_succ] at d0 d1
  obtain ⟨h4, _⟩ := rightP_ok hx
  have hn' : ¬ (4096 ≤ (ms.length : Int)) := by omega
  have HNO := Lib.hid (posnone_any m w d1)
  clear hrv hm hr hx
  go_enter Tryz.func80, Tryz.ntmps80
  go_wp2_with fail
  refine HNO.out.mono ?_
  rintro e w ⟨rfl, rfl⟩
  go_wp2_with fail
  refine (posright_any M xs A c w HR.out (by omega)).mono ?_
  rintro e w1 ⟨rfl, hF1⟩
  rw [HX.out]
  have HM1 := Lib.hid (HM.out.fr0 hF1)
  have HR1 := Lib.hid (HR.out.fr hF1 (fun _ _ h => h.elim))
  have HF1 := Lib.hid hF1
  clear hF1 d0 d1 f0 lm
  have d0 := HM1.out.blk.cell 0
  have lm := HM1.out.blk.lt
  simp only [List.getElem?_cons_zero] at d0
  obtain ⟨i0, hi, hz0, hz1, hz2⟩ := info_parts infoOne
  go_wp2_with fail
  refine wp_region_held_drew (S := fun _ : World => True) (by kernel_rfl) trivial (fun _ => ?_)
  have HMD := Lib.hid (HM1.out.fr0 (Fr.refl Nob w1).drew)
  have HRD := Lib.hid (HR1.out.fr (Fr.refl Nob w1).drew (fun _ _ h => h.elim))
  have HFD := Lib.hid (HF1.out.same (Fr.refl Nob w1).drew)
  clear d0 lm
  generalize w1.drew = wd at HMD HRD HFD ⊢
  have FIN : Hid (∀ (w6 : World) (A6 : Option Addr) (c6 : Nat), Fr Nob wd w6 → Rd (fun k => k < wd.heap.size) w6 A6 (rngC xs) → ∀ (g cap : Nat) (w9 : World), w9.ownsRow base 211 2 (.slice (some ⟨g, 0, none⟩) (ms.length + 1) cap) (ms.length + 1) (oneC ms ++ [.slice A6 xs.length c6, .int .i64 (-1)]) →
      (((w6.alloc (.cells #[.slice A6 xs.length c6, .int .i64 (-1)] 211)).grownBy w9 none ∧ (w6.alloc (.cells #[.slice A6 xs.length c6, .int .i64 (-1)] 211)).heap.size ≤ g) ∨ (∃ cap0, (.slice VA ms.length vc : Value) = .slice (some ⟨g, 0, none⟩) ms.length cap0 ∧ ms.length + 1 ≤ cap0 ∧ (w6.alloc (.cells #[.slice A6 xs.length c6, .int .i64 (-1)] 211)).grownBy w9 (some g))) →
      Blk w9 m [.slice VA ms.length vc, .bool true] 208 ∧ (∃ v' A' c', Mp (fun k => N k ∧ k < w.heap.size ∨ v'.ownBlock = some k) base (w9.setCell ⟨m, 0, none⟩ (.slice (some ⟨g, 0, none⟩) (ms.length + 1) cap)) m v' (ms ++ [⟨xs, -1, A', c'⟩]) ∧ Fr (MB m (.slice VA ms.length vc)) w (w9.setCell ⟨m, 0, none⟩ (.slice (some ⟨g, 0, none⟩) (ms.length + 1) cap)) ∧ (v'.ownBlock = (Value.slice VA ms.length vc).ownBlock ∨ ∃ g, v'.ownBlock = some g ∧ w.heap.size ≤ g))) := fun w6 A6 c6 hF6 hR6 g cap w9 hown9 htwo => by
    have hM6 := HMD.out.fr0 hF6
    have hsz : (w6.alloc (.cells #[.slice A6 xs.length c6, .int .i64 (-1)] 211)).heap.size = w6.heap.size + 1 := by simp
    have hwd := HFD.out.size
    have h6 := hF6.size
    have hmlt := hM6.blk.lt
    have hne := hM6.ne
    obtain ⟨row, hg, hrow, hgw⟩ : ∃ row, (w6.alloc (.cells #[.slice A6 xs.length c6, .int .i64 (-1)] 211)).grownBy w9 row ∧ (∀ k, some k = row → (Value.slice VA ms.length vc).ownBlock = some k) ∧ ((Value.slice VA ms.length vc).ownBlock = some g ∨ w6.heap.size + 1 ≤ g) := by
      rcases htwo with ⟨h, hgl⟩ | ⟨cap0, e, _, h⟩
      · exact ⟨_, h, fun k e => (by cases e), .inr (by omega)⟩
      · exact ⟨_, h, fun k e' => (by cases e'; rw [e]; rfl), .inl (by rw [e]; rfl)⟩
    have hgm : g ≠ m := by
      rintro rfl
      rcases hgw with h | h
      · exact hne h
      · omega
    have hF9 : Fr (MB m (.slice VA ms.length vc)) w6 w9 := ((Fr.refl _ w6).alloc _).trans (Fr.of_grown hg) (fun k _ e => .inr (hrow k e))
    have hB9 : Blk w9 m [.slice VA ms.length vc, .bool true] 208 := (hM6.blk.alloc _).fr (Fr.of_grown hg) (fun e => hne (hrow m e))
    have hFE : Fr (MB m (.slice VA ms.length vc)) w6 (w9.setCell ⟨m, 0, none⟩ (.slice (some ⟨g, 0, none⟩) (ms.length + 1) cap)) := hF9.setCell (p := ⟨m, 0, none⟩) (.inl (.inl rfl)) _
    refine ⟨hB9, .slice (some ⟨g, 0, none⟩) (ms.length + 1) cap, A6, c6, ⟨hB9.set 0 _, hM6.lo, ?_, ?_, ?_, ?_, ?_, ?_⟩, ?_, ?_⟩
    · have h := own_fr hown9 ((Fr.refl (One m) w9).setCell (p := ⟨m, 0, none⟩) (.inl rfl) (.slice (some ⟨g, 0, none⟩) (ms.length + 1) cap)) (fun k e h => by cases e; exact hgm h)
      rw [List.length_append]
      simpa [oneC, OneM.cells] using h
    · intro e
      exact hgm (by cases e; rfl)
    · rintro k (rfl | h)
      · exact .inl ⟨hM6.mine _ (.inl rfl), HM.out.blk.lt⟩
      · exact .inr h
    · intro x hx
      rcases List.mem_append.1 hx with hx | hx
      · have h := ((hM6.rows x hx).bound).fr hFE (fun k _ h => .inl (hM6.mine k h))
        refine h.mono (fun k hk => ?_)
        rcases hk with hk | hk
        · exact .inl hk.1
        · have hk' : g = k := by cases hk; rfl
          subst hk'
          rcases hgw with h | h
          · exact .inl (hM6.mine _ (.inr h))
          · exact .inr (by omega)
      · rw [List.mem_singleton.1 hx]
        intro hne6
        have h6lt := hR6
        obtain ⟨ad, e6, hn6, hc6⟩ := hR6 hne6
        subst e6
        have hlt6 := Rd.lt h6lt hne6
        have hold : ∀ k, MB m (.slice VA ms.length vc) k → k < wd.heap.size := fun k hk => by
          rcases hk with rfl | h
          · exact HMD.out.blk.lt
          · exact (World.ownsRow.lt HMD.out.own k h).2
        have hnm : ¬ MB m (.slice VA ms.length vc) ad.block := fun h => hn6 (hold _ h)
        refine ⟨ad, rfl, fun hk => ?_, fun j u hu => ?_⟩
        · rcases hk with hk | hk
          · omega
          · have hk' : g = ad.block := by cases hk; rfl
            rcases hgw with h | h
            · exact hnm (.inr (by rw [h, hk']))
            · omega
        · exact (hFE.cell (p := ad.add j) (by rw [add_block]; exact hlt6) (by rw [add_block]; exact hnm)).trans (hc6 j u hu)
    · intro x hx
      rcases List.mem_append.1 hx with hx | hx
      · exact hM6.right x hx
      · rw [List.mem_singleton.1 hx]; exact HX.out
    · intro x hx
      rw [List.length_append, List.length_singleton]
      rcases List.mem_append.1 hx with hx | hx
      · have := HM.out.mirs x hx
        omega
      · rw [List.mem_singleton.1 hx]; show (-1 : Int) < _; omega
    · exact (HFD.out.any.trans hF6 (fun _ _ h => h.elim)).trans hFE (fun _ _ h => h)
    · rcases hgw with h | h
      · exact .inl h.symm
      · exact .inr ⟨g, rfl, by omega⟩
  refine wpAnyH_take (i := 0) (v := .pointer (some ⟨m, 0, none⟩)) rfl (by kernel_rfl) (by kernel_rfl) (by kernel_rfl) (fun _ _ _ h => h) (Or.inl ⟨by rfl, fun w hSw => by (try dsimp only at hSw); go_simp⟩) trivial ?_
  try simp only [List.getElem_toArray, List.getElem_cons_succ, List.getElem_cons_zero, Act.put, List.setIfInBounds_toArray, List.set_cons_zero, List.set_cons_succ]
  refine wpAnyH_take (i := 1) (v := .pointer (some ⟨m, 0, none⟩)) rfl (by kernel_rfl) (by kernel_rfl) (by kernel_rfl) (fun _ _ _ h => h) (Or.inl ⟨by rfl, fun w hSw => by (try dsimp only at hSw); go_simp⟩) trivial ?_
  try simp only [List.getElem_toArray, List.getElem_cons_succ, List.getElem_cons_zero, Act.put, List.setIfInBounds_toArray, List.set_cons_zero, List.set_cons_succ]
  refine wpAnyH_take (i := 2) (v := .pointer (some ⟨m, 0, none⟩)) rfl (by kernel_rfl) (by kernel_rfl) (by kernel_rfl) (fun _ _ _ h => h) (Or.inl ⟨by rfl, fun w hSw => by (try dsimp only at hSw); go_simp⟩) trivial ?_
  try simp only [List.getElem_toArray, List.getElem_cons_succ, List.getElem_cons_zero, Act.put, List.setIfInBounds_toArray, List.set_cons_zero, List.set_cons_succ]
  refine wpAnyH_take (i := 3) (v := .pointer (some ⟨m, 0, none⟩)) rfl (by kernel_rfl) (by kernel_rfl) (by kernel_rfl) (fun _ _ _ h => h) (Or.inl ⟨by rfl, fun w hSw => by (try dsimp only at hSw); go_simp⟩) trivial ?_
  try simp only [List.getElem_toArray, List.getElem_cons_succ, List.getElem_cons_zero, Act.put, List.setIfInBounds_toArray, List.set_cons_zero, List.set_cons_succ]
  refine wpAnyH_take (i := 5) (v := .slice A xs.length c) rfl (by kernel_rfl) (by kernel_rfl) (by kernel_rfl) (fun _ _ _ h => h) (Or.inl ⟨by rfl, fun w hSw => by (try dsimp only at hSw); go_simp⟩) trivial ?_
  try simp only [List.getElem_toArray, List.getElem_cons_succ, List.getElem_cons_zero, Act.put, List.setIfInBounds_toArray, List.set_cons_zero, List.set_cons_succ]
  refine wpAnyH_ready (rs := [4, 6]) (by kernel_rfl) (by simp) (AllReadyH.cons (o := _) rfl (fun K hK => ?_) (AllReadyH.cons (o := _) rfl (fun K hK => ?_) AllReadyH.nil))
  · have dX := HMD.out.blk.cell 0
    simp only [List.getElem?_cons_zero] at dX
    go_simp
    clear dX
    refine hK.out _ _ trivial (fun _ => ?_)
    clear hK K
    try simp only [List.getElem_toArray, List.getElem_cons_succ, List.getElem_cons_zero, Act.put, List.setIfInBounds_toArray, List.set_cons_zero, List.set_cons_succ]
    refine wpAnyH_ready (rs := [6]) (by kernel_rfl) (by simp) (AllReadyH.cons (o := _) rfl (fun K hK => ?_) AllReadyH.nil)
    refine step_append_rngs _ M rfl _ _ rfl rfl A c xs rfl (HRD.out) (by omega) ?_
    intro A6 c6 w6 hF6 hR6
    have HF6 := Lib.hid hF6
    have HR6 := Lib.hid hR6
    clear hF6 hR6
    refine hK.out _ _ trivial (fun _ => ?_)
    clear hK K
    try simp only [List.getElem_toArray, List.getElem_cons_succ, List.getElem_cons_zero, Act.put, List.setIfInBounds_toArray, List.set_cons_zero, List.set_cons_succ]
    refine wpAnyH_take (i := 7) (v := .agg #[.slice A6 xs.length c6, .int .i64 (-1)]) rfl (by kernel_rfl) (by kernel_rfl) (by kernel_rfl) (fun _ _ _ h => h) (Or.inl ⟨by rfl, fun w hSw => by (try dsimp only at hSw); go_simp⟩) trivial ?_
    try simp only [List.getElem_toArray, List.getElem_cons_succ, List.getElem_cons_zero, Act.put, List.setIfInBounds_toArray, List.set_cons_zero, List.set_cons_succ]
    refine wpAnyH_ready (rs := [8]) (by kernel_rfl) (by simp) (AllReadyH.cons (o := _) rfl (fun K hK => ?_) AllReadyH.nil)
    go_simp
    refine hK.out _ _ trivial (fun _ => ?_)
    clear hK K
    try simp only [List.getElem_toArray, List.getElem_cons_succ, List.getElem_cons_zero, Act.put, List.setIfInBounds_toArray, List.set_cons_zero, List.set_cons_succ]
    refine wpAnyH_ready (rs := [9]) (by kernel_rfl) (by simp) (AllReadyH.cons (o := _) rfl (fun K hK => ?_) AllReadyH.nil)
    refine step_append_two _ rfl _ _ 206 rfl base 211 i0 _ 2 32 Tryz.underlying206 hi hz0 hz1 hz2 rfl (by decide) (.slice VA ms.length vc) ms.length _ rfl ((HMD.out.fr0 HF6.out).own.alloc _) ⟨w6.heap.size, 0, none⟩ 1 1 [.slice A6 xs.length c6, .int .i64 (-1)] rfl rfl (fun j u hu => by rw [add_lit]; exact ((Blk.new w6 [.slice A6 xs.length c6, .int .i64 (-1)] 211).cell j).trans hu) (by simp [Value.oneCell']) (by omega) (by simp only [maxLen]; omega) (by omega) (by have := HMD.out.lo; have := HMD.out.blk.lt; have := HF6.out.size; simp; omega) ?_
    intro g cap w9 hown9 htwo
    obtain ⟨hB9, hEND⟩ := FIN.out w6 A6 c6 HF6.out HR6.out g cap w9 hown9 htwo
    have HEND := Lib.hid hEND
    clear hEND hown9 htwo
    refine hK.out _ _ trivial (fun _ => ?_)
    clear hK K
    try simp only [List.getElem_toArray, List.getElem_cons_succ, List.getElem_cons_zero, Act.put, List.setIfInBounds_toArray, List.set_cons_zero, List.set_cons_succ]
    refine wpAnyH_take (i := 10) (v := .pointer (some ⟨m, 0, none⟩)) rfl (by kernel_rfl) (by kernel_rfl) (by kernel_rfl) (fun _ _ _ h => h) (Or.inl ⟨by rfl, fun w hSw => by (try dsimp only at hSw); go_simp⟩) trivial ?_
    try simp only [List.getElem_toArray, List.getElem_cons_succ, List.getElem_cons_zero, Act.put, List.setIfInBounds_toArray, List.set_cons_zero, List.set_cons_succ]
    refine wpAnyH_take (i := 11) (v := .pointer (some ⟨m, 0, none⟩)) rfl (by kernel_rfl) (by kernel_rfl) (by kernel_rfl) (fun _ _ _ h => h) (Or.inl ⟨by rfl, fun w hSw => by (try dsimp only at hSw); go_simp⟩) trivial ?_
    try simp only [List.getElem_toArray, List.getElem_cons_succ, List.getElem_cons_zero, Act.put, List.setIfInBounds_toArray, List.set_cons_zero, List.set_cons_succ]
    have da := hB9.cell 0
    have fa := hB9.frozen 0
    have la := hB9.lt
    simp only [List.getElem?_cons_zero] at da
    refine wpAnyH_ready (rs := [12]) (by kernel_rfl) (by simp) (AllReadyH.cons (o := _) rfl (fun K hK => ?_) AllReadyH.nil)
    go_simp
    refine hK.out _ _ trivial (fun _ => ?_)
    clear hK K
    try simp only [List.getElem_toArray, List.getElem_cons_succ, List.getElem_cons_zero, Act.put, List.setIfInBounds_toArray, List.set_cons_zero, List.set_cons_succ]
    refine wpAnyH_done (by kernel_rfl) ?_ _
    clear da fa la hB9
    generalize w9.setCell ⟨m, 0, none⟩ (.slice (some ⟨g, 0, none⟩) (ms.length + 1) cap) = wE at HEND ⊢
    go_wp2_with fail
    go_ret
    exact ⟨rfl, HEND.out⟩
  · refine step_append_rngs _ M rfl _ _ rfl rfl A c xs rfl (HRD.out) (by omega) ?_
    intro A6 c6 w6 hF6 hR6
    have HF6 := Lib.hid hF6
    have HR6 := Lib.hid hR6
    clear hF6 hR6
    refine hK.out _ _ trivial (fun _ => ?_)
    clear hK K
    try simp only [List.getElem_toArray, List.getElem_cons_succ, List.getElem_cons_zero, Act.put, List.setIfInBounds_toArray, List.set_cons_zero, List.set_cons_succ]
    refine wpAnyH_take (i := 7) (v := .agg #[.slice A6 xs.length c6, .int .i64 (-1)]) rfl (by kernel_rfl) (by kernel_rfl) (by kernel_rfl) (fun _ _ _ h => h) (Or.inl ⟨by rfl, fun w hSw => by (try dsimp only at hSw); go_simp⟩) trivial ?_
    try simp only [List.getElem_toArray, List.getElem_cons_succ, List.getElem_cons_zero, Act.put, List.setIfInBounds_toArray, List.set_cons_zero, List.set_cons_succ]
    refine wpAnyH_ready (rs := [4, 8]) (by kernel_rfl) (by simp) (AllReadyH.cons (o := _) rfl (fun K hK => ?_) (AllReadyH.cons (o := _) rfl (fun K hK => ?_) AllReadyH.nil))
    · have dX := (HMD.out.fr0 HF6.out).blk.cell 0
      simp only [List.getElem?_cons_zero] at dX
      go_simp
      clear dX
      refine hK.out _ _ trivial (fun _ => ?_)
      clear hK K
      try simp only [List.getElem_toArray, List.getElem_cons_succ, List.getElem_cons_zero, Act.put, List.setIfInBounds_toArray, List.set_cons_zero, List.set_cons_succ]
      refine wpAnyH_ready (rs := [8]) (by kernel_rfl) (by simp) (AllReadyH.cons (o := _) rfl (fun K hK => ?_) AllReadyH.nil)
      go_simp
      refine hK.out _ _ trivial (fun _ => ?_)
      clear hK K
      try simp only [List.getElem_toArray, List.getElem_cons_succ, List.getElem_cons_zero, Act.put, List.setIfInBounds_toArray, List.set_cons_zero, List.set_cons_succ]
      refine wpAnyH_ready (rs := [9]) (by kernel_rfl) (by simp) (AllReadyH.cons (o := _) rfl (fun K hK => ?_) AllReadyH.nil)
      refine step_append_two _ rfl _ _ 206 rfl base 211 i0 _ 2 32 Tryz.underlying206 hi hz0 hz1 hz2 rfl (by decide) (.slice VA ms.length vc) ms.length _ rfl ((HMD.out.fr0 HF6.out).own.alloc _) ⟨w6.heap.size, 0, none⟩ 1 1 [.slice A6 xs.length c6, .int .i64 (-1)] rfl rfl (fun j u hu => by rw [add_lit]; exact ((Blk.new w6 [.slice A6 xs.length c6, .int .i64 (-1)] 211).cell j).trans hu) (by simp [Value.oneCell']) (by omega) (by simp only [maxLen]; omega) (by omega) (by have := HMD.out.lo; have := HMD.out.blk.lt; have := HF6.out.size; simp; omega) ?_
      intro g cap w9 hown9 htwo
      obtain ⟨hB9, hEND⟩ := FIN.out w6 A6 c6 HF6.out HR6.out g cap w9 hown9 htwo
      have HEND := Lib.hid hEND
      clear hEND hown9 htwo
      refine hK.out _ _ trivial (fun _ => ?_)
      clear hK K
      try simp only [List.getElem_toArray, List.getElem_cons_succ, List.getElem_cons_zero, Act.put, List.setIfInBounds_toArray, List.set_cons_zero, List.set_cons_succ]
      refine wpAnyH_take (i := 10) (v := .pointer (some ⟨m, 0, none⟩)) rfl (by kernel_rfl) (by kernel_rfl) (by kernel_rfl) (fun _ _ _ h => h) (Or.inl ⟨by rfl, fun w hSw => by (try dsimp only at hSw); go_simp⟩) trivial ?_
      try simp only [List.getElem_toArray, List.getElem_cons_succ, List.getElem_cons_zero, Act.put, List.setIfInBounds_toArray, List.set_cons_zero, List.set_cons_succ]
      refine wpAnyH_take (i := 11) (v := .pointer (some ⟨m, 0, none⟩)) rfl (by kernel_rfl) (by kernel_rfl) (by kernel_rfl) (fun _ _ _ h => h) (Or.inl ⟨by rfl, fun w hSw => by (try dsimp only at hSw); go_simp⟩) trivial ?_
      try simp only [List.getElem_toArray, List.getElem_cons_succ, List.getElem_cons_zero, Act.put, List.setIfInBounds_toArray, List.set_cons_zero, List.set_cons_succ]
      have da := hB9.cell 0
      have fa := hB9.frozen 0
      have la := hB9.lt
      simp only [List.getElem?_cons_zero] at da
      refine wpAnyH_ready (rs := [12]) (by kernel_rfl) (by simp) (AllReadyH.cons (o := _) rfl (fun K hK => ?_) AllReadyH.nil)
      go_simp
      refine hK.out _ _ trivial (fun _ => ?_)
      clear hK K
      try simp only [List.getElem_toArray, List.getElem_cons_succ, List.getElem_cons_zero, Act.put, List.setIfInBounds_toArray, List.set_cons_zero, List.set_cons_succ]
      refine wpAnyH_done (by kernel_rfl) ?_ _
      clear da fa la hB9
      generalize w9.setCell ⟨m, 0, none⟩ (.slice (some ⟨g, 0, none⟩) (ms.length + 1) cap) = wE at HEND ⊢
      go_wp2_with fail
      go_ret
      exact ⟨rfl, HEND.out⟩
    · go_simp
      refine hK.out _ _ trivial (fun _ => ?_)
      clear hK K
      try simp only [List.getElem_toArray, List.getElem_cons_succ, List.getElem_cons_zero, Act.put, List.setIfInBounds_toArray, List.set_cons_zero, List.set_cons_succ]
      refine wpAnyH_ready (rs := [4]) (by kernel_rfl) (by simp) (AllReadyH.cons (o := _) rfl (fun K hK => ?_) AllReadyH.nil)
      have dX := ((HMD.out.fr0 HF6.out).blk.alloc (.cells #[.slice A6 xs.length c6, .int .i64 (-1)] 211)).cell 0
      simp only [List.getElem?_cons_zero] at dX
      go_simp
      clear dX
      refine hK.out _ _ trivial (fun _ => ?_)
      clear hK K
      try simp only [List.getElem_toArray, List.getElem_cons_succ, List.getElem_cons_zero, Act.put, List.setIfInBounds_toArray, List.set_cons_zero, List.set_cons_succ]
      refine wpAnyH_ready (rs := [9]) (by kernel_rfl) (by simp) (AllReadyH.cons (o := _) rfl (fun K hK => ?_) AllReadyH.nil)
      refine step_append_two _ rfl _ _ 206 rfl base 211 i0 _ 2 32 Tryz.underlying206 hi hz0 hz1 hz2 rfl (by decide) (.slice VA ms.length vc) ms.length _ rfl ((HMD.out.fr0 HF6.out).own.alloc _) ⟨w6.heap.size, 0, none⟩ 1 1 [.slice A6 xs.length c6, .int .i64 (-1)] rfl rfl (fun j u hu => by rw [add_lit]; exact ((Blk.new w6 [.slice A6 xs.length c6, .int .i64 (-1)] 211).cell j).trans hu) (by simp [Value.oneCell']) (by omega) (by simp only [maxLen]; omega) (by omega) (by have := HMD.out.lo; have := HMD.out.blk.lt; have := HF6.out.size; simp; omega) ?_
      intro g cap w9 hown9 htwo
      obtain ⟨hB9, hEND⟩ := FIN.out w6 A6 c6 HF6.out HR6.out g cap w9 hown9 htwo
      have HEND := Lib.hid hEND
      clear hEND hown9 htwo
      refine hK.out _ _ trivial (fun _ => ?_)
      clear hK K
      try simp only [List.getElem_toArray, List.getElem_cons_succ, List.getElem_cons_zero, Act.put, List.setIfInBounds_toArray, List.set_cons_zero, List.set_cons_succ]
      refine wpAnyH_take (i := 10) (v := .pointer (some ⟨m, 0, none⟩)) rfl (by kernel_rfl) (by kernel_rfl) (by kernel_rfl) (fun _ _ _ h => h) (Or.inl ⟨by rfl, fun w hSw => by (try dsimp only at hSw); go_simp⟩) trivial ?_
      try simp only [List.getElem_toArray, List.getElem_cons_succ, List.getElem_cons_zero, Act.put, List.setIfInBounds_toArray, List.set_cons_zero, List.set_cons_succ]
      refine wpAnyH_take (i := 11) (v := .pointer (some ⟨m, 0, none⟩)) rfl (by kernel_rfl) (by kernel_rfl) (by kernel_rfl) (fun _ _ _ h => h) (Or.inl ⟨by rfl, fun w hSw => by (try dsimp only at hSw); go_simp⟩) trivial ?_
      try simp only [List.getElem_toArray, List.getElem_cons_succ, List.getElem_cons_zero, Act.put, List.setIfInBounds_toArray, List.set_cons_zero, List.set_cons_succ]
      have da := hB9.cell 0
      have fa := hB9.frozen 0
      have la := hB9.lt
      simp only [List.getElem?_cons_zero] at da
      refine wpAnyH_ready (rs := [12]) (by kernel_rfl) (by simp) (AllReadyH.cons (o := _) rfl (fun K hK => ?_) AllReadyH.nil)
      go_simp
      refine hK.out _ _ trivial (fun _ => ?_)
      clear hK K
      try simp only [List.getElem_toArray, List.getElem_cons_succ, List.getElem_cons_zero, Act.put, List.setIfInBounds_toArray, List.set_cons_zero, List.set_cons_succ]
      refine wpAnyH_done (by kernel_rfl) ?_ _
      clear da fa la hB9
      generalize w9.setCell ⟨m, 0, none⟩ (.slice (some ⟨g, 0, none⟩) (ms.length + 1) cap) = wE at HEND ⊢
      go_wp2_with fail
      go_ret
      exact ⟨rfl, HEND.out⟩
end Go.Proofs.YtldcffonfidbcaaGreatDoor

/- Chapter 8: two maps undo one another: the plain law. -/
namespace Go.Proofs.YtldcffonfidbcaaGreatDoor
open Go.RowKit
end Go.Proofs.YtldcffonfidbcaaGreatDoor
