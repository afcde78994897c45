/- A part of the proof for chapter 10: ApartW; no conditions. -/
import Derived.Test.YtanbfplcldloeaaGreatDoorH20
import Derived.Test.YtanbfplcldloeaaGreatDoorH18
/- Chapter 10: two texts put in two blocks, by one and by another: the walk. -/
namespace Go.Proofs.YtanbfplcldloeaaGreatDoor
open Go.RowKit
def stepV (p : Int) (sv : Value) : List Value := [.int .i64 0, .int .i64 p, .int .i64 p, .int .i64 0, .int .i64 0, .int .i64 0, sv, .int .i64 0]
/-- A step whose letters come one by one: N: the blocks that are its own. -/
structure GrowS (base X : Nat) (p : Int) (N0 N : Nat → Prop) (W0 w : World) (sv : Value) (u : List Tok) : Prop where
  blk : Blk w X (stepV p sv) 24
  own : w.ownsRow base 65 4 sv u.length (tokC u)
  ns : sv.ownBlock ≠ some X
  mine : ∀ k, (k = X ∨ sv.ownBlock = some k) → N k
  lt : ∀ k, N k → k < w.heap.size
  fw : Fr N0 W0 w
  lat : Later N0 W0 N
theorem GrowS.fr0 {base X : Nat} {p : Int} {N0 N : Nat → Prop} {W0 w w' : World} {sv : Value} {u : List Tok} (h : GrowS base X p N0 N W0 w sv u) (hf : Fr Nob w w') : GrowS base X p N0 N W0 w' sv u :=
  ⟨h.blk.fr hf (fun h => h), own_fr h.own hf (fun _ _ h => h), h.ns, h.mine, fun k hk => Nat.lt_of_lt_of_le (h.lt k hk) hf.size, h.fw.trans hf (fun _ _ h => h.elim), h.lat⟩
theorem GrowS.app {base X : Nat} {p : Int} {N0 N : Nat → Prop} {W0 w w' WE : World} {sv : Value} {u : List Tok} {x : Tok} (h : GrowS base X p N0 N W0 w sv u) {g cap : Nat}
    (hown : w'.ownsRow base 65 4 (.slice (some ⟨g, 0, none⟩) (u.length + 1) cap) (u.length + 1) (tokC u ++ x.cells))
    (htwo : (w.grownBy w' none ∧ w.heap.size ≤ g) ∨ (∃ cap0, sv = .slice (some ⟨g, 0, none⟩) u.length cap0 ∧ u.length + 1 ≤ cap0 ∧ w.grownBy w' (some g)))
    (hWE : w'.setCell ⟨X, 6, none⟩ (.slice (some ⟨g, 0, none⟩) (u.length + 1) cap) = WE) :
    GrowS base X p N0 (fun k => N k ∨ k = g) W0 WE (.slice (some ⟨g, 0, none⟩) (u.length + 1) cap) (u ++ [x]) := by
  subst hWE
  have hf : Fr (fun k => sv.ownBlock = some k) w w' := (two_row htwo).1
  have hg : sv.ownBlock = some g ∨ w.heap.size ≤ g := (two_row htwo).2
  have hgX : g ≠ X := by
    rcases hg with h1 | h1
    · exact fun e => h.ns (e ▸ h1)
    · have := h.blk.lt; omega
  have hb' := h.blk.fr hf (fun e => h.ns e)
  have hfE : Fr (One X) w' (w'.setCell ⟨X, 6, none⟩ (.slice (some ⟨g, 0, none⟩) (u.length + 1) cap)) := (Fr.refl (One X) w').setCell (p := ⟨X, 6, none⟩) (.inl rfl) _
  have hfa : Fr (fun k => k = X ∨ sv.ownBlock = some k) w (w'.setCell ⟨X, 6, none⟩ (.slice (some ⟨g, 0, none⟩) (u.length + 1) cap)) :=
    (hf.mono (fun k _ e => .inr e)).trans hfE (fun k _ e => .inl e)
  refine ⟨hb'.set 6 _, ?_, ?_, ?_, ?_, ?_, ?_⟩
  · rw [List.length_append, tokC_append]
    have e : tokC [x] = x.cells := by simp [tokC]
    rw [e]
    exact own_fr hown hfE (fun k e e2 => by
      have h1 : g = k := by cases e; rfl
      have h2 : k = X := e2
      exact hgX (h1.trans h2))
  · intro e
    injection e with e
    exact hgX e
  · rintro k (rfl | e)
    · exact .inl (h.mine _ (.inl rfl))
    · have h1 : g = k := by cases e; rfl
      exact .inr h1.symm
  · rintro k (h1 | rfl)
    · exact Nat.lt_of_lt_of_le (h.lt k h1) hfa.size
    · exact Nat.lt_of_lt_of_le (World.ownsRow.lt hown _ rfl).2 hfE.size
  · exact h.fw.later h.lat (hfa.mono (fun k _ e => h.mine k e))
  · refine h.lat.trans (fun k hk => ?_) h.fw.size
    rcases hk with h1 | rfl
    · exact .inl h1
    · rcases hg with h1 | h1
      · exact .inl (h.mine _ (.inr h1))
      · exact .inr h1
theorem GrowS.start {base X : Nat} {p : Int} {W : World} (hb : Blk W X (stepV p (.slice none 0 0)) 24) : GrowS base X p (fun k => k = X) (fun k => k = X) W W (.slice none 0 0) [] :=
  ⟨hb, World.ownsRow_nil _ _ _ _, by simp [Value.ownBlock], fun k hk => hk.elim id (fun h => by cases h), fun k hk => (by have h1 : k = X := hk; subst h1; exact hb.lt), Fr.refl _ _, Later.refl _ _⟩
/-- The letter that a byte is put as. -/
def letT (z : Int) : Tok := runeT (97 + Int.tmod z 26)
theorem let_rune {z : Int} (h : 0 ≤ z ∧ z < 256) : Rune (letT z) := by
  have h1 := Int.tmod_nonneg (b := 26) h.1
  have h2 := Int.tmod_lt_of_pos z (show (0 : Int) < 26 by decide)
  refine ⟨?_, rfl, rfl, rfl, ?_⟩
  · unfold letT runeT okT
    rw [if_pos rfl]
    unfold pointB
    have a1 : decide ((0 : Int) ≤ 97 + Int.tmod z 26) = true := decide_eq_true (by omega)
    have a2 : decide (97 + Int.tmod z 26 ≤ 1114111) = true := decide_eq_true (by omega)
    have a3 : decide (55296 ≤ 97 + Int.tmod z 26) = false := decide_eq_false (by omega)
    simp only [a1, a2, a3]
    rfl
  · show (97 + Int.tmod z 26 : Int) ≠ 10
    omega
theorem lets_rune {zs : List Int} (h : ∀ z ∈ zs, 0 ≤ z ∧ z < 256) : ∀ x ∈ zs.map letT, Rune x := fun x hx => by
  obtain ⟨z, hz, rfl⟩ := List.mem_map.1 hx
  exact let_rune (h z hz)
theorem text_steps {M : Nat → Prop} {W : World} {b p c : Nat} {A : Option Addr} {u : List Tok} (hM : ¬ M b) (hb : Blk W b (stepV p (.slice A u.length c)) 24) (hx : Rd M W A (tokC u)) (hc : u.length ≤ c) : StepsM M W (some ⟨b, 0, none⟩) [⟨textS1 p u, A, c⟩] := by
  refine ⟨fun _ => ⟨_, rfl, hM, fun j v hv => ?_⟩, fun y hy => ?_, fun y hy => ?_⟩
  · rw [stepC, List.flatMap_cons, List.flatMap_nil, List.append_nil] at hv
    rw [add_lit]
    exact (hb.cell j).trans hv
  · obtain rfl := List.mem_singleton.1 hy
    exact hx
  · obtain rfl := List.mem_singleton.1 hy
    exact hc
theorem apart_call (pp : Nat) (rs : List RuleM) (hC : rs.map coreR = (wholeS ⟨#[98, 108, 111, 99, 107, 43]⟩ :: houseL).map coreS) (n : Int) (p q : Nat) (u v l3 : List Tok) (S' : StepM) (hreb : rebaseF houseR gH (apartD n [] []) [textS1 p u] [textS1 q v] = (⟨l3, [S'], [0]⟩, 0)) (g cap b1 b2 c1 c2 : Nat) (A1 A2 : Option Addr) (W : World)
    (hS : Sch Nob W pp rs (groupsF houseL houseG)) (hd : Rd Nob W (some ⟨g, 0, none⟩) (tokC (apartD n [] []))) (hdc : 5 ≤ cap)
    (h1 : Blk W b1 (stepV p (.slice A1 u.length c1)) 24) (h2 : Blk W b2 (stepV q (.slice A2 v.length c2)) 24)
    (hx : Rd Nob W A1 (tokC u)) (hy : Rd Nob W A2 (tokC v)) (hc1 : u.length ≤ c1) (hc2 : v.length ≤ c2) :
    Calls Tryz.prog 17 #[.pointer (some ⟨pp, 0, none⟩), .slice (some ⟨g, 0, none⟩) 5 cap, .slice (some ⟨b1, 0, none⟩) 1 1, .slice (some ⟨b2, 0, none⟩) 1 1] W fun e w' => ∃ DA dc SA sc KA kc, e = .returned (.tuple #[.agg #[.slice DA l3.length dc, .slice SA 1 sc, .slice KA 1 kc], .int .i64 0]) ∧ Rd Nob w' DA (tokC l3) ∧ Fr Nob W w' := by
  have hl : (apartD n [] []).length = 5 := apart_len n [] []
  have h := rebase_any Nob pp rs (groupsF houseL houseG) (house_schok hC) [⟨textS1 p u, A1, c1⟩] [⟨textS1 q v, A2, c2⟩] (some ⟨b1, 0, none⟩) (some ⟨b2, 0, none⟩) 1 1 (.slice (some ⟨g, 0, none⟩) 5 cap) (apartD n [] []) W (fun _ h => h.elim) hS ⟨_, _, by rw [hl], by rw [hl]; exact hdc, hd⟩ (text_steps (fun h => h) h1 hx hc1) (text_steps (fun h => h) h2 hy hc2) (by rw [hl]; decide) ⟨by simp, by simp⟩
  have e : rebaseF rs (groupsF houseL houseG) (apartD n [] []) (([⟨textS1 p u, A1, c1⟩] : List StepA).map StepA.s) (([⟨textS1 q v, A2, c2⟩] : List StepA).map StepA.s) = (⟨l3, [S'], [0]⟩, 0) :=
    (rebaseF_congr (fun l => checkF_house hC _ l) _ _ _).trans hreb
  rw [e] at h
  refine h.mono ?_
  rintro e w' ⟨dv, sv, kv, rfl, hv, hF⟩
  obtain ⟨⟨DA, dc, rfl, _, hdr⟩, ⟨SA, sc, L, rfl, _, hL⟩, ⟨KA, kc, rfl, _⟩⟩ := hv
  have hL1 : L.length = 1 := by
    have := congrArg List.length hL
    simpa using this
  refine ⟨DA, dc, SA, sc, KA, kc, ?_, hdr, hF⟩
  rw [hL1]
  rfl
set_option maxRecDepth 100000 in
set_option maxHeartbeats 4000000 in
theorem apart_walk (za zb : List Int) (n0 : Int) (aA bA : Option Addr) (an bn ac bc : Nat) (hza : za.length = an) (hzb : zb.length = bn) (h0 : 0 ≤ n0 ∧ n0 < 256) (w : World) (hG : HG w) (hra : Rd Nob w aA (za.map (Value.int .u8))) (hrb : Rd Nob w bA (zb.map (Value.int .u8))) (ha : ∀ z ∈ za, 0 ≤ z ∧ z < 256) (hb : ∀ z ∈ zb, 0 ≤ z ∧ z < 256) :
    Calls Tryz.prog 8 #[.slice aA an ac, .slice bA bn bc, .int .u8 n0] w fun e w' => e = .returned (.bool true) ∧ Fr Nob w w' := by
  have HHG := Lib.hid hG
  have HZA := Lib.hid hza
  have HZB := Lib.hid hzb
  have HRA := Lib.hid hra
  have HRB := Lib.hid hrb
  have HA := Lib.hid ha
  have HB := Lib.hid hb
  clear hG hza hzb hra hrb ha hb
  obtain ⟨N, hN⟩ : ∃ N : Int, Int.tmod n0 6 = N := ⟨_, rfl⟩
  have hN6 : 0 ≤ N ∧ N < 6 := by
    have h1 := Int.tmod_nonneg (b := 6) h0.1
    have h2 := Int.tmod_lt_of_pos n0 (show (0 : Int) < 6 by decide)
    omega
  obtain ⟨iT, hiT, hzT0, hzT1, hzT2⟩ := info_parts infoTok
  go_enter Tryz.func8, Tryz.ntmps8
  by_cases h1 : an ≤ 50 ∧ bn ≤ 50
  · have ta : ¬ ((50 : Int) < (an : Int)) := by omega
    have tb : ¬ ((50 : Int) < (bn : Int)) := by omega
    go_upto_region 6 with (fail)
    obtain ⟨g0, hg0⟩ : ∃ b, w.heap.size = b := ⟨_, rfl⟩
    obtain ⟨X, hX⟩ : ∃ b, w.heap.size + 1 = b := ⟨_, rfl⟩
    obtain ⟨Y, hY⟩ : ∃ b, w.heap.size + 1 + 1 = b := ⟨_, rfl⟩
    obtain ⟨V1, hV1⟩ : ∃ W, w.alloc (.cells #[.int .i64 1, .int .i64 1, .int .i64 0, .int .i64 0, .int .i64 2, .int .i64 0, .int .i64 0, .int .i64 0, .int .i64 3, .int .i64 7, .int .i64 0, .int .i64 0, .int .i64 1, .int .i64 2, .int .i64 (1 + N), .int .i64 0, .int .i64 2, .int .i64 0, .int .i64 0, .int .i64 0] 65) = W := ⟨_, rfl⟩
    have hz1 : V1.heap.size = X := by rw [← hV1, ← hX]; simp
    have hf1 : Fr Nob w V1 := by rw [← hV1]; exact (Fr.refl _ _).alloc _
    have hB1 : Blk V1 g0 (tokC (apartD (1 + N) [] [])) 65 := by rw [← hV1, ← hg0]; exact Blk.new _ _ _
    rw [hV1]
    obtain ⟨V2, hV2⟩ : ∃ W, V1.alloc (.cells #[.int .i64 0, .int .i64 1, .int .i64 1, .int .i64 0, .int .i64 0, .int .i64 0, .slice none 0 0, .int .i64 0] 24) = W := ⟨_, rfl⟩
    have hz2 : V2.heap.size = Y := by rw [← hV2, ← hY]; simp; omega
    have hf2 : Fr Nob V1 V2 := by rw [← hV2]; exact (Fr.refl _ _).alloc _
    have hB2 : Blk V2 X (stepV 1 (.slice none 0 0)) 24 := by rw [← hV2]; exact Blk.new_at _ _ _ _ hz1.symm
    rw [hV2]
    obtain ⟨W5, hW5⟩ : ∃ W, V2.alloc (.cells #[.int .i64 0, .int .i64 4, .int .i64 4, .int .i64 0, .int .i64 0, .int .i64 0, .slice none 0 0, .int .i64 0] 24) = W := ⟨_, rfl⟩
    have hf3 : Fr Nob V2 W5 := by rw [← hW5]; exact (Fr.refl _ _).alloc _
    have hB3 : Blk W5 Y (stepV 4 (.slice none 0 0)) 24 := by rw [← hW5]; exact Blk.new_at _ _ _ _ hz2.symm
    rw [hW5]
    have HD5 := Lib.hid ((hB1.fr hf2 (fun h => h)).fr hf3 (fun h => h))
    have HG0X := Lib.hid (GrowS.start (base := w.heap.size) (hB2.fr hf3 (fun h => h)))
    have HY5 := Lib.hid hB3
    have HF0X := Lib.hid ((hf1.same hf2).same hf3)
    have HFW0X := HF0X
    have HXWX := Lib.hid (show w.heap.size < X by omega)
    have HW0X := Lib.hid HF0X.out.size
    have HGXY := Lib.hid (show g0 = w.heap.size ∧ X = w.heap.size + 1 ∧ Y = w.heap.size + 1 + 1 from ⟨hg0.symm, hX.symm, hY.symm⟩)
    try rw [hY]
    try rw [hX]
    try rw [hg0]
    clear hV1 hV2 hW5 hz1 hz2 hf1 hf2 hf3 hB1 hB2 hB3 hY hX hg0
    go_wp2_with fail
    go_loopg [10] (an) (fun n s10 wr => ∃ (k : Nat) (N' : Nat → Prop) (sv : Value), n = an - k ∧ k ≤ an ∧ s10 = .int .i64 k ∧ Hid (GrowS w.heap.size X 1 (fun k => k = X) N' W5 wr sv ((za.take k).map letT)) ∧ Hid (Fr Nob w wr))
    case atStart => exact ⟨0, _, _, rfl, Nat.zero_le _, rfl, HG0X.out, HF0X.out⟩
    case round =>
      obtain ⟨k, N', sv, rfl, hk, rfl, HGR, HFR⟩ := hrel
      by_cases hlt : k < an
      · have ht : ((k : Int) < (an : Int)) := by omega
        have hlt' : k < za.length := by rw [HZA.out]; exact hlt
        obtain ⟨aad, rfl, _, hcz⟩ := (HRA.out.fr HFR.out (fun _ _ h => h.elim)).at_ (j := k) (by rw [List.length_map]; exact hlt')
        have haw := cell_lt ((Rd.at_ HRA.out (j := k) (by rw [List.length_map]; exact hlt')).choose_spec.2.2)
        have hae := (Rd.at_ HRA.out (j := k) (by rw [List.length_map]; exact hlt')).choose_spec.1
        injection hae with hae
        rw [← hae, add_block] at haw
        rw [List.getElem_map] at hcz
        have HTK := Lib.hid (show (za.take (k + 1)).map letT = (za.take k).map letT ++ [letT za[k]] by rw [List.take_succ_eq_append_getElem hlt', List.map_append]; rfl)
        have hbd := HA.out _ (List.getElem_mem hlt')
        generalize za[k] = z at hcz HTK hbd
        obtain ⟨m, hm⟩ : ∃ m : Int, Int.tmod z 26 = m := ⟨_, rfl⟩
        have hm26 : 0 ≤ m ∧ m < 26 := by
          have q1 := Int.tmod_nonneg (b := 26) hbd.1
          have q2 := Int.tmod_lt_of_pos z (show (0 : Int) < 26 by decide)
          omega
        have HTK2 := Lib.hid (show (za.take (k + 1)).map letT = (za.take k).map letT ++ [runeT (97 + m)] by rw [HTK.out, letT, hm])
        obtain ⟨uu, huu⟩ : ∃ uu, (za.take k).map letT = uu := ⟨_, rfl⟩
        have HUL := Lib.hid (show uu.length ≤ 50 by rw [← huu, List.length_map, List.length_take]; omega)
        rw [huu] at HGR HTK2
        have HCZ := Lib.hid hcz
        have HAW := Lib.hid (show ¬ N' (aad.add k).block from fun e => by
          rw [add_block] at e
          rcases HGR.out.lat _ e with h | h
          · have h' : aad.block = X := h
            have := HXWX.out
            omega
          · have := HW0X.out
            omega)
        clear hcz huu HTK haw hae
        go_upto_region 9 with (fail)
        refine wp_region_F 13 (S := fun W => W.cell? ⟨X, 6, none⟩ = some sv ∧ W.cell? (aad.add k) = some (.int .u8 z)) (by kernel_rfl) ?_
        have HGd := Lib.hid (HGR.out.fr0 ((Fr.refl Nob wr).drew))
        have HFd := Lib.hid (HFR.out.drew)
        have HCd := Lib.hid (show wr.drew.cell? (aad.add k) = some (.int .u8 z) from HCZ.out)
        generalize wr.drew = wd at HGd HFd HCd ⊢
        refine wpAnyF_take (i := 0) (v := .pointer (some ⟨X, 6, none⟩)) rfl (by kernel_rfl) (by kernel_rfl) (by kernel_rfl) (fun _ _ _ h => h) (Or.inl ⟨by rfl, fun w hSw => by (try dsimp only at hSw); obtain ⟨s1, s2⟩ := hSw; go_simp⟩) ⟨HGd.out.blk.cell 6, HCd.out⟩ ?_
        try simp only [List.getElem_toArray, List.getElem_cons_succ, List.getElem_cons_zero, Act.put, List.setIfInBounds_toArray, List.set_cons_zero, List.set_cons_succ]
        refine wpAnyF_take (i := 1) (v := sv) rfl (by kernel_rfl) (by kernel_rfl) (by kernel_rfl) (fun _ _ _ h => h) (Or.inl ⟨by rfl, fun w hSw => by (try dsimp only at hSw); obtain ⟨s1, s2⟩ := hSw; go_simp⟩) ⟨HGd.out.blk.cell 6, HCd.out⟩ ?_
        try simp only [List.getElem_toArray, List.getElem_cons_succ, List.getElem_cons_zero, Act.put, List.setIfInBounds_toArray, List.set_cons_zero, List.set_cons_succ]
        refine wpAnyF_take (i := 2) (v := .slice (some aad) an ac) rfl (by kernel_rfl) (by kernel_rfl) (by kernel_rfl) (fun _ _ _ h => h) (Or.inl ⟨by rfl, fun w hSw => by (try dsimp only at hSw); obtain ⟨s1, s2⟩ := hSw; go_simp⟩) ⟨HGd.out.blk.cell 6, HCd.out⟩ ?_
        try simp only [List.getElem_toArray, List.getElem_cons_succ, List.getElem_cons_zero, Act.put, List.setIfInBounds_toArray, List.set_cons_zero, List.set_cons_succ]
        refine wpAnyF_take (i := 3) (v := .int .i64 (k : Int)) rfl (by kernel_rfl) (by kernel_rfl) (by kernel_rfl) (fun _ _ _ h => h) (Or.inl ⟨by rfl, fun w hSw => by (try dsimp only at hSw); obtain ⟨s1, s2⟩ := hSw; go_simp⟩) ⟨HGd.out.blk.cell 6, HCd.out⟩ ?_
        try simp only [List.getElem_toArray, List.getElem_cons_succ, List.getElem_cons_zero, Act.put, List.setIfInBounds_toArray, List.set_cons_zero, List.set_cons_succ]
        refine wpAnyF_take (i := 4) (v := .pointer (some (aad.add k))) rfl (by kernel_rfl) (by kernel_rfl) (by kernel_rfl) (fun _ _ _ h => h) (Or.inl ⟨by rfl, fun w hSw => by (try dsimp only at hSw); obtain ⟨s1, s2⟩ := hSw; go_simp⟩) ⟨HGd.out.blk.cell 6, HCd.out⟩ ?_
        try simp only [List.getElem_toArray, List.getElem_cons_succ, List.getElem_cons_zero, Act.put, List.setIfInBounds_toArray, List.set_cons_zero, List.set_cons_succ]
        refine wpAnyF_take (i := 5) (v := .int .u8 z) rfl (by kernel_rfl) (by kernel_rfl) (by kernel_rfl) (fun _ _ _ h => h) (Or.inl ⟨by rfl, fun w hSw => by (try dsimp only at hSw); obtain ⟨s1, s2⟩ := hSw; go_simp⟩) ⟨HGd.out.blk.cell 6, HCd.out⟩ ?_
        try simp only [List.getElem_toArray, List.getElem_cons_succ, List.getElem_cons_zero, Act.put, List.setIfInBounds_toArray, List.set_cons_zero, List.set_cons_succ]
        refine wpAnyF_take (i := 6) (v := .int .u8 m) rfl (by kernel_rfl) (by kernel_rfl) (by kernel_rfl) (fun _ _ _ h => h) (Or.inl ⟨by rfl, fun w hSw => by (try dsimp only at hSw); obtain ⟨s1, s2⟩ := hSw; go_simp⟩) ⟨HGd.out.blk.cell 6, HCd.out⟩ ?_
        try simp only [List.getElem_toArray, List.getElem_cons_succ, List.getElem_cons_zero, Act.put, List.setIfInBounds_toArray, List.set_cons_zero, List.set_cons_succ]
        refine wpAnyF_take (i := 7) (v := .int .i64 m) rfl (by kernel_rfl) (by kernel_rfl) (by kernel_rfl) (fun _ _ _ h => h) (Or.inl ⟨by rfl, fun w hSw => by (try dsimp only at hSw); obtain ⟨s1, s2⟩ := hSw; go_simp; rw [IntKind.wrap_i64]; omega⟩) ⟨HGd.out.blk.cell 6, HCd.out⟩ ?_
        try simp only [List.getElem_toArray, List.getElem_cons_succ, List.getElem_cons_zero, Act.put, List.setIfInBounds_toArray, List.set_cons_zero, List.set_cons_succ]
        refine wpAnyF_take (i := 8) (v := .int .i64 (97 + m)) rfl (by kernel_rfl) (by kernel_rfl) (by kernel_rfl) (fun _ _ _ h => h) (Or.inl ⟨by rfl, fun w hSw => by (try dsimp only at hSw); obtain ⟨s1, s2⟩ := hSw; go_simp; rw [IntKind.wrap_i64]; omega⟩) ⟨HGd.out.blk.cell 6, HCd.out⟩ ?_
        try simp only [List.getElem_toArray, List.getElem_cons_succ, List.getElem_cons_zero, Act.put, List.setIfInBounds_toArray, List.set_cons_zero, List.set_cons_succ]
        refine wpAnyF_take (i := 9) (v := .agg #[.int .i64 0, .int .i64 0, .int .i64 (97 + m), .int .i64 0]) rfl (by kernel_rfl) (by kernel_rfl) (by kernel_rfl) (fun _ _ _ h => h) (Or.inl ⟨by rfl, fun w hSw => by (try dsimp only at hSw); obtain ⟨s1, s2⟩ := hSw; go_simp⟩) ⟨HGd.out.blk.cell 6, HCd.out⟩ ?_
        try simp only [List.getElem_toArray, List.getElem_cons_succ, List.getElem_cons_zero, Act.put, List.setIfInBounds_toArray, List.set_cons_zero, List.set_cons_succ]
        refine wpAnyF_ready (rs := [10]) (by kernel_rfl) (by simp) (AllReadyF.cons (o := _) rfl (fun K hK => ?_) AllReadyF.nil)
        go_simp
        obtain ⟨b2, hb2⟩ : ∃ b, wd.heap.size = b := ⟨_, rfl⟩
        obtain ⟨W2, hW2⟩ : ∃ W, wd.alloc (.cells #[.int .i64 0, .int .i64 0, .int .i64 (97 + m), .int .i64 0] 65) = W := ⟨_, rfl⟩
        have HF2 := Lib.hid (show Fr Nob wd W2 by rw [← hW2]; exact (Fr.refl _ _).alloc _)
        have HT2 := Lib.hid (show Blk W2 b2 [.int .i64 0, .int .i64 0, .int .i64 (97 + m), .int .i64 0] 65 by rw [← hW2, ← hb2]; exact Blk.new _ _ _)
        rw [hW2, hb2]
        clear hW2 hb2
        have HG2 := Lib.hid (HGd.out.fr0 HF2.out)
        have HC2 := Lib.hid (HF2.out.cell0 HCd.out)
        refine hK.out _ _ (fun _ => ⟨HG2.out.blk.cell 6, HC2.out⟩) ?_
        clear hK K
        try simp only [List.getElem_toArray, List.getElem_cons_succ, List.getElem_cons_zero, Act.put, List.setIfInBounds_toArray, List.set_cons_zero, List.set_cons_succ]
        refine wpAnyF_ready (rs := [11]) (by kernel_rfl) (by simp) (AllReadyF.cons (o := _) rfl (fun K hK => ?_) AllReadyF.nil)
        refine step_append_two _ rfl _ _ 22 rfl w.heap.size 65 iT _ 4 32 Tryz.underlying22 hiT hzT0 hzT1 hzT2 rfl (by decide) sv uu.length (tokC uu) rfl HG2.out.own ⟨b2, 0, none⟩ 1 1 [.int .i64 0, .int .i64 0, .int .i64 (97 + m), .int .i64 0] rfl rfl (fun j u hu => by rw [add_lit]; exact (HT2.out.cell j).trans hu) (fun u hu => by simp only [List.mem_cons, List.not_mem_nil, or_false] at hu; rcases hu with rfl | rfl | rfl | rfl <;> rfl) (by omega) (by simp only [maxLen]; have := HUL.out; omega) (by have := HUL.out; omega) (by have h1 := HFd.out.size; have h2 := HF2.out.size; omega) ?_
        intro g3 cap3 W3 hown3 htwo3
        obtain ⟨WE, hWE⟩ : ∃ WE, W3.setCell ⟨X, 6, none⟩ (.slice (some ⟨g3, 0, none⟩) (uu.length + 1) cap3) = WE := ⟨_, rfl⟩
        have HAP := Lib.hid (HG2.out.app (x := runeT (97 + m)) hown3 htwo3 hWE)
        have HF3 := Lib.hid ((two_row htwo3).1)
        have HB3 := Lib.hid (HG2.out.blk.fr HF3.out (fun e => HG2.out.ns e))
        have HC3 := Lib.hid (HF3.out.cellM HC2.out (fun e => HAW.out (HG2.out.mine _ (.inr e))))
        clear hown3 htwo3
        refine hK.out _ _ (fun _ => ⟨HB3.out.cell 6, HC3.out⟩) ?_
        clear hK K
        try simp only [List.getElem_toArray, List.getElem_cons_succ, List.getElem_cons_zero, Act.put, List.setIfInBounds_toArray, List.set_cons_zero, List.set_cons_succ]
        refine wpAnyF_take (i := 12) (v := .pointer (some ⟨X, 6, none⟩)) rfl (by kernel_rfl) (by kernel_rfl) (by kernel_rfl) (fun _ _ _ h => h) (Or.inl ⟨by rfl, fun w hSw => by (try dsimp only at hSw); obtain ⟨s1, s2⟩ := hSw; go_simp⟩) ⟨HB3.out.cell 6, HC3.out⟩ ?_
        try simp only [List.getElem_toArray, List.getElem_cons_succ, List.getElem_cons_zero, Act.put, List.setIfInBounds_toArray, List.set_cons_zero, List.set_cons_succ]
        refine wpAnyF_ready (rs := [13]) (by kernel_rfl) (by simp) (AllReadyF.cons (o := _) rfl (fun K hK => ?_) AllReadyF.nil)
        have x0 := HB3.out.cell 6
        have f0 := HB3.out.frozen 6
        have xl := HB3.out.lt
        simp only [stepV, List.getElem?_cons_zero, List.getElem?_cons_succ] at x0
        go_simp
        clear x0 f0 xl hWE
        refine hK.out _ _ (fun h => absurd rfl h) ?_
        clear hK K
        try simp only [List.getElem_toArray, List.getElem_cons_succ, List.getElem_cons_zero, Act.put, List.setIfInBounds_toArray, List.set_cons_zero, List.set_cons_succ]
        refine wpAnyF_done (by kernel_rfl) ?_ _
        have HG4 := Lib.hid (show GrowS w.heap.size X 1 (fun k => k = X) (fun k => N' k ∨ k = g3) W5 WE (.slice (some ⟨g3, 0, none⟩) (uu.length + 1) cap3) ((za.take (k + 1)).map letT) by rw [HTK2.out]; exact HAP.out)
        have HF4 := Lib.hid (show Fr Nob w WE from HFW0X.out.trans HG4.out.fw (fun i hi e => by have h1 : i = X := e; have := HXWX.out; omega))
        clear HAP HF3 HB3 HC3 HG2 HC2 HF2 HT2 HGd HFd HCd HGR HFR HCZ HTK2 hm hbd HUL HAW
        go_wp2_with fail
        go_roundg (an - (k + 1))
        case measure => omega
        case rel => exact ⟨k + 1, _, _, rfl, by omega, by first | rfl | go_num, HG4.out, HF4.out⟩
      · have ht : ¬ ((k : Int) < (an : Int)) := by omega
        have HFA := Lib.hid HFR.out
        have HGA := Lib.hid (show GrowS w.heap.size X 1 (fun k => k = X) N' W5 wr sv (za.map letT) by
          have h := HGR.out
          rwa [List.take_of_length_le (by rw [HZA.out]; omega)] at h)
        have hnX : ¬ N' Y := fun e => by
          have h1 := HGXY.out
          rcases HGA.out.lat _ e with h | h
          · have h' : Y = X := h
            omega
          · have := HY5.out.lt
            omega
        have hnG : ¬ N' g0 := fun e => by
          have h1 := HGXY.out
          rcases HGA.out.lat _ e with h | h
          · have h' : g0 = X := h
            omega
          · have := HD5.out.lt
            omega
        have HD6 := Lib.hid (HD5.out.fr HGA.out.fw (fun h => by have h1 := HGXY.out; have h' : g0 = X := h; omega))
        have HG0Y := Lib.hid (GrowS.start (base := w.heap.size) (HY5.out.fr HGA.out.fw (fun h => by have h1 := HGXY.out; have h' : Y = X := h; omega)))
        obtain ⟨A1, c1, rfl, hc1, hr1⟩ := Rd.of_own (M := fun k => k = Y) HGA.out.own (fun k e h => hnX (h ▸ HGA.out.mine k (.inr e)))
        have HR1 := Lib.hid hr1
        have HC1 := Lib.hid hc1
        have HX6 := Lib.hid HGA.out.blk
        have HF0Y := HFA
        have HFW0Y := HFA
        have HXWY := Lib.hid (show w.heap.size < Y by have h1 := HGXY.out; omega)
        have HW0Y := Lib.hid HFA.out.size
        generalize wr = W6 at HFA HGA HD6 HG0Y HR1 HX6 HF0Y HFW0Y HW0Y ⊢
        clear HFR HGR hr1 hc1 hnX hnG
        go_wp2_with fail
        go_loopg [11] (bn) (fun n s11 wr => ∃ (k : Nat) (N' : Nat → Prop) (sv : Value), n = bn - k ∧ k ≤ bn ∧ s11 = .int .i64 k ∧ Hid (GrowS w.heap.size Y 4 (fun k => k = Y) N' W6 wr sv ((zb.take k).map letT)) ∧ Hid (Fr Nob w wr))
        case atStart => exact ⟨0, _, _, rfl, Nat.zero_le _, rfl, HG0Y.out, HF0Y.out⟩
        case round =>
          obtain ⟨k, N', sv, rfl, hk, rfl, HGR, HFR⟩ := hrel
          by_cases hlt : k < bn
          · have ht : ((k : Int) < (bn : Int)) := by omega
            have hlt' : k < zb.length := by rw [HZB.out]; exact hlt
            obtain ⟨aad, rfl, _, hcz⟩ := (HRB.out.fr HFR.out (fun _ _ h => h.elim)).at_ (j := k) (by rw [List.length_map]; exact hlt')
            have haw := cell_lt ((Rd.at_ HRB.out (j := k) (by rw [List.length_map]; exact hlt')).choose_spec.2.2)
            have hae := (Rd.at_ HRB.out (j := k) (by rw [List.length_map]; exact hlt')).choose_spec.1
            injection hae with hae
            rw [← hae, add_block] at haw
            rw [List.getElem_map] at hcz
            have HTK := Lib.hid (show (zb.take (k + 1)).map letT = (zb.take k).map letT ++ [letT zb[k]] by rw [List.take_succ_eq_append_getElem hlt', List.map_append]; rfl)
            have hbd := HB.out _ (List.getElem_mem hlt')
            generalize zb[k] = z at hcz HTK hbd
            obtain ⟨m, hm⟩ : ∃ m : Int, Int.tmod z 26 = m := ⟨_, rfl⟩
            have hm26 : 0 ≤ m ∧ m < 26 := by
              have q1 := Int.tmod_nonneg (b := 26) hbd.1
              have q2 := Int.tmod_lt_of_pos z (show (0 : Int) < 26 by decide)
              omega
            have HTK2 := Lib.hid (show (zb.take (k + 1)).map letT = (zb.take k).map letT ++ [runeT (97 + m)] by rw [HTK.out, letT, hm])
            obtain ⟨uu, huu⟩ : ∃ uu, (zb.take k).map letT = uu := ⟨_, rfl⟩
            have HUL := Lib.hid (show uu.length ≤ 50 by rw [← huu, List.length_map, List.length_take]; omega)
            rw [huu] at HGR HTK2
            have HCZ := Lib.hid hcz
            have HAW := Lib.hid (show ¬ N' (aad.add k).block from fun e => by
              rw [add_block] at e
              rcases HGR.out.lat _ e with h | h
              · have h' : aad.block = Y := h
                have := HXWY.out
                omega
              · have := HW0Y.out
                omega)
            clear hcz huu HTK haw hae
            go_upto_region 13 with (fail)
            refine wp_region_F 13 (S := fun W => W.cell? ⟨Y, 6, none⟩ = some sv ∧ W.cell? (aad.add k) = some (.int .u8 z)) (by kernel_rfl) ?_
            have HGd := Lib.hid (HGR.out.fr0 ((Fr.refl Nob wr).drew))
            have HFd := Lib.hid (HFR.out.drew)
            have HCd := Lib.hid (show wr.drew.cell? (aad.add k) = some (.int .u8 z) from HCZ.out)
            generalize wr.drew = wd at HGd HFd HCd ⊢
            refine wpAnyF_take (i := 0) (v := .pointer (some ⟨Y, 6, none⟩)) rfl (by kernel_rfl) (by kernel_rfl) (by kernel_rfl) (fun _ _ _ h => h) (Or.inl ⟨by rfl, fun w hSw => by (try dsimp only at hSw); obtain ⟨s1, s2⟩ := hSw; go_simp⟩) ⟨HGd.out.blk.cell 6, HCd.out⟩ ?_
            try simp only [List.getElem_toArray, List.getElem_cons_succ, List.getElem_cons_zero, Act.put, List.setIfInBounds_toArray, List.set_cons_zero, List.set_cons_succ]
            refine wpAnyF_take (i := 1) (v := sv) rfl (by kernel_rfl) (by kernel_rfl) (by kernel_rfl) (fun _ _ _ h => h) (Or.inl ⟨by rfl, fun w hSw => by (try dsimp only at hSw); obtain ⟨s1, s2⟩ := hSw; go_simp⟩) ⟨HGd.out.blk.cell 6, HCd.out⟩ ?_
            try simp only [List.getElem_toArray, List.getElem_cons_succ, List.getElem_cons_zero, Act.put, List.setIfInBounds_toArray, List.set_cons_zero, List.set_cons_succ]
            refine wpAnyF_take (i := 2) (v := .slice (some aad) bn bc) rfl (by kernel_rfl) (by kernel_rfl) (by kernel_rfl) (fun _ _ _ h => h) (Or.inl ⟨by rfl, fun w hSw => by (try dsimp only at hSw); obtain ⟨s1, s2⟩ := hSw; go_simp⟩) ⟨HGd.out.blk.cell 6, HCd.out⟩ ?_
            try simp only [List.getElem_toArray, List.getElem_cons_succ, List.getElem_cons_zero, Act.put, List.setIfInBounds_toArray, List.set_cons_zero, List.set_cons_succ]
            refine wpAnyF_take (i := 3) (v := .int .i64 (k : Int)) rfl (by kernel_rfl) (by kernel_rfl) (by kernel_rfl) (fun _ _ _ h => h) (Or.inl ⟨by rfl, fun w hSw => by (try dsimp only at hSw); obtain ⟨s1, s2⟩ := hSw; go_simp⟩) ⟨HGd.out.blk.cell 6, HCd.out⟩ ?_
            try simp only [List.getElem_toArray, List.getElem_cons_succ, List.getElem_cons_zero, Act.put, List.setIfInBounds_toArray, List.set_cons_zero, List.set_cons_succ]
            refine wpAnyF_take (i := 4) (v := .pointer (some (aad.add k))) rfl (by kernel_rfl) (by kernel_rfl) (by kernel_rfl) (fun _ _ _ h => h) (Or.inl ⟨by rfl, fun w hSw => by (try dsimp only at hSw); obtain ⟨s1, s2⟩ := hSw; go_simp⟩) ⟨HGd.out.blk.cell 6, HCd.out⟩ ?_
            try simp only [List.getElem_toArray, List.getElem_cons_succ, List.getElem_cons_zero, Act.put, List.setIfInBounds_toArray, List.set_cons_zero, List.set_cons_succ]
            refine wpAnyF_take (i := 5) (v := .int .u8 z) rfl (by kernel_rfl) (by kernel_rfl) (by kernel_rfl) (fun _ _ _ h => h) (Or.inl ⟨by rfl, fun w hSw => by (try dsimp only at hSw); obtain ⟨s1, s2⟩ := hSw; go_simp⟩) ⟨HGd.out.blk.cell 6, HCd.out⟩ ?_
            try simp only [List.getElem_toArray, List.getElem_cons_succ, List.getElem_cons_zero, Act.put, List.setIfInBounds_toArray, List.set_cons_zero, List.set_cons_succ]
            refine wpAnyF_take (i := 6) (v := .int .u8 m) rfl (by kernel_rfl) (by kernel_rfl) (by kernel_rfl) (fun _ _ _ h => h) (Or.inl ⟨by rfl, fun w hSw => by (try dsimp only at hSw); obtain ⟨s1, s2⟩ := hSw; go_simp⟩) ⟨HGd.out.blk.cell 6, HCd.out⟩ ?_
            try simp only [List.getElem_toArray, List.getElem_cons_succ, List.getElem_cons_zero, Act.put, List.setIfInBounds_toArray, List.set_cons_zero, List.set_cons_succ]
            refine wpAnyF_take (i := 7) (v := .int .i64 m) rfl (by kernel_rfl) (by kernel_rfl) (by kernel_rfl) (fun _ _ _ h => h) (Or.inl ⟨by rfl, fun w hSw => by (try dsimp only at hSw); obtain ⟨s1, s2⟩ := hSw; go_simp; rw [IntKind.wrap_i64]; omega⟩) ⟨HGd.out.blk.cell 6, HCd.out⟩ ?_
            try simp only [List.getElem_toArray, List.getElem_cons_succ, List.getElem_cons_zero, Act.put, List.setIfInBounds_toArray, List.set_cons_zero, List.set_cons_succ]
            refine wpAnyF_take (i := 8) (v := .int .i64 (97 + m)) rfl (by kernel_rfl) (by kernel_rfl) (by kernel_rfl) (fun _ _ _ h => h) (Or.inl ⟨by rfl, fun w hSw => by (try dsimp only at hSw); obtain ⟨s1, s2⟩ := hSw; go_simp; rw [IntKind.wrap_i64]; omega⟩) ⟨HGd.out.blk.cell 6, HCd.out⟩ ?_
            try simp only [List.getElem_toArray, List.getElem_cons_succ, List.getElem_cons_zero, Act.put, List.setIfInBounds_toArray, List.set_cons_zero, List.set_cons_succ]
            refine wpAnyF_take (i := 9) (v := .agg #[.int .i64 0, .int .i64 0, .int .i64 (97 + m), .int .i64 0]) rfl (by kernel_rfl) (by kernel_rfl) (by kernel_rfl) (fun _ _ _ h => h) (Or.inl ⟨by rfl, fun w hSw => by (try dsimp only at hSw); obtain ⟨s1, s2⟩ := hSw; go_simp⟩) ⟨HGd.out.blk.cell 6, HCd.out⟩ ?_
            try simp only [List.getElem_toArray, List.getElem_cons_succ, List.getElem_cons_zero, Act.put, List.setIfInBounds_toArray, List.set_cons_zero, List.set_cons_succ]
            refine wpAnyF_ready (rs := [10]) (by kernel_rfl) (by simp) (AllReadyF.cons (o := _) rfl (fun K hK => ?_) AllReadyF.nil)
            go_simp
            obtain ⟨b2, hb2⟩ : ∃ b, wd.heap.size = b := ⟨_, rfl⟩
            obtain ⟨W2, hW2⟩ : ∃ W, wd.alloc (.cells #[.int .i64 0, .int .i64 0, .int .i64 (97 + m), .int .i64 0] 65) = W := ⟨_, rfl⟩
            have HF2 := Lib.hid (show Fr Nob wd W2 by rw [← hW2]; exact (Fr.refl _ _).alloc _)
            have HT2 := Lib.hid (show Blk W2 b2 [.int .i64 0, .int .i64 0, .int .i64 (97 + m), .int .i64 0] 65 by rw [← hW2, ← hb2]; exact Blk.new _ _ _)
            rw [hW2, hb2]
            clear hW2 hb2
            have HG2 := Lib.hid (HGd.out.fr0 HF2.out)
            have HC2 := Lib.hid (HF2.out.cell0 HCd.out)
            refine hK.out _ _ (fun _ => ⟨HG2.out.blk.cell 6, HC2.out⟩) ?_
            clear hK K
            try simp only [List.getElem_toArray, List.getElem_cons_succ, List.getElem_cons_zero, Act.put, List.setIfInBounds_toArray, List.set_cons_zero, List.set_cons_succ]
            refine wpAnyF_ready (rs := [11]) (by kernel_rfl) (by simp) (AllReadyF.cons (o := _) rfl (fun K hK => ?_) AllReadyF.nil)
            refine step_append_two _ rfl _ _ 22 rfl w.heap.size 65 iT _ 4 32 Tryz.underlying22 hiT hzT0 hzT1 hzT2 rfl (by decide) sv uu.length (tokC uu) rfl HG2.out.own ⟨b2, 0, none⟩ 1 1 [.int .i64 0, .int .i64 0, .int .i64 (97 + m), .int .i64 0] rfl rfl (fun j u hu => by rw [add_lit]; exact (HT2.out.cell j).trans hu) (fun u hu => by simp only [List.mem_cons, List.not_mem_nil, or_false] at hu; rcases hu with rfl | rfl | rfl | rfl <;> rfl) (by omega) (by simp only [maxLen]; have := HUL.out; omega) (by have := HUL.out; omega) (by have h1 := HFd.out.size; have h2 := HF2.out.size; omega) ?_
            intro g3 cap3 W3 hown3 htwo3
            obtain ⟨WE, hWE⟩ : ∃ WE, W3.setCell ⟨Y, 6, none⟩ (.slice (some ⟨g3, 0, none⟩) (uu.length + 1) cap3) = WE := ⟨_, rfl⟩
            have HAP := Lib.hid (HG2.out.app (x := runeT (97 + m)) hown3 htwo3 hWE)
            have HF3 := Lib.hid ((two_row htwo3).1)
            have HB3 := Lib.hid (HG2.out.blk.fr HF3.out (fun e => HG2.out.ns e))
            have HC3 := Lib.hid (HF3.out.cellM HC2.out (fun e => HAW.out (HG2.out.mine _ (.inr e))))
            clear hown3 htwo3
            refine hK.out _ _ (fun _ => ⟨HB3.out.cell 6, HC3.out⟩) ?_
            clear hK K
            try simp only [List.getElem_toArray, List.getElem_cons_succ, List.getElem_cons_zero, Act.put, List.setIfInBounds_toArray, List.set_cons_zero, List.set_cons_succ]
            refine wpAnyF_take (i := 12) (v := .pointer (some ⟨Y, 6, none⟩)) rfl (by kernel_rfl) (by kernel_rfl) (by kernel_rfl) (fun _ _ _ h => h) (Or.inl ⟨by rfl, fun w hSw => by (try dsimp only at hSw); obtain ⟨s1, s2⟩ := hSw; go_simp⟩) ⟨HB3.out.cell 6, HC3.out⟩ ?_
            try simp only [List.getElem_toArray, List.getElem_cons_succ, List.getElem_cons_zero, Act.put, List.setIfInBounds_toArray, List.set_cons_zero, List.set_cons_succ]
            refine wpAnyF_ready (rs := [13]) (by kernel_rfl) (by simp) (AllReadyF.cons (o := _) rfl (fun K hK => ?_) AllReadyF.nil)
            have x0 := HB3.out.cell 6
            have f0 := HB3.out.frozen 6
            have xl := HB3.out.lt
            simp only [stepV, List.getElem?_cons_zero, List.getElem?_cons_succ] at x0
            go_simp
            clear x0 f0 xl hWE
            refine hK.out _ _ (fun h => absurd rfl h) ?_
            clear hK K
            try simp only [List.getElem_toArray, List.getElem_cons_succ, List.getElem_cons_zero, Act.put, List.setIfInBounds_toArray, List.set_cons_zero, List.set_cons_succ]
            refine wpAnyF_done (by kernel_rfl) ?_ _
            have HG4 := Lib.hid (show GrowS w.heap.size Y 4 (fun k => k = Y) (fun k => N' k ∨ k = g3) W6 WE (.slice (some ⟨g3, 0, none⟩) (uu.length + 1) cap3) ((zb.take (k + 1)).map letT) by rw [HTK2.out]; exact HAP.out)
            have HF4 := Lib.hid (show Fr Nob w WE from HFW0Y.out.trans HG4.out.fw (fun i hi e => by have h1 : i = Y := e; have := HXWY.out; omega))
            clear HAP HF3 HB3 HC3 HG2 HC2 HF2 HT2 HGd HFd HCd HGR HFR HCZ HTK2 hm hbd HUL HAW
            go_wp2_with fail
            go_roundg (bn - (k + 1))
            case measure => omega
            case rel => exact ⟨k + 1, _, _, rfl, by omega, by first | rfl | go_num, HG4.out, HF4.out⟩
          · have ht : ¬ ((k : Int) < (bn : Int)) := by omega
            have HFB := Lib.hid HFR.out
            have HGB := Lib.hid (show GrowS w.heap.size Y 4 (fun k => k = Y) N' W6 wr sv (zb.map letT) by
              have h := HGR.out
              rwa [List.take_of_length_le (by rw [HZB.out]; omega)] at h)
            have hla : (za.map letT).length = an := by rw [List.length_map, HZA.out]
            have hlb : (zb.map letT).length = bn := by rw [List.length_map, HZB.out]
            have HLA := Lib.hid hla
            have HLB := Lib.hid hlb
            obtain ⟨A2, c2, rfl, hc2, hr2⟩ := Rd.of_own (M := Nob) HGB.out.own (fun _ _ h => h)
            have HX7 := Lib.hid (HX6.out.fr HGB.out.fw (fun h => by have h1 := HGXY.out; have h' : X = Y := h; omega))
            have HY7 := Lib.hid HGB.out.blk
            have HR1' := Lib.hid ((HR1.out.fr HGB.out.fw (fun k _ h => h)).mono (M' := Nob) (fun _ h => h.elim))
            have HR2' := Lib.hid hr2
            have HC2 := Lib.hid hc2
            have HD7 := Lib.hid (HD6.out.fr HGB.out.fw (fun h => by have h1 := HGXY.out; have h' : g0 = Y := h; omega))
            rw [hla] at HX7 HC1
            rw [hlb] at HY7 HC2
            clear HFR HGR hr2 hc2 hla hlb HX6 HR1 HD6 HG0Y HY5 HD5 HG0X HGA HGB HFA HF0X HF0Y HFW0X HFW0Y HXWX HXWY HW0X HW0Y
            go_wp2_with fail
            refine (house_any wr (HHG.out.fr HFB.out (fun h => h))).mono ?_
            rintro e w8 ⟨⟨pp, rs, rfl, hS, hC⟩, hF8⟩
            have HS := Lib.hid (hS.mono (M' := Nob) (fun _ h => h.elim))
            have HCR := Lib.hid hC
            have HF8 := Lib.hid (HFB.out.same hF8)
            have HX8 := Lib.hid (HX7.out.fr hF8 (fun h => h))
            have HY8 := Lib.hid (HY7.out.fr hF8 (fun h => h))
            have HR18 := Lib.hid (HR1'.out.fr hF8 (fun _ _ h => h.elim))
            have HR28 := Lib.hid (HR2'.out.fr hF8 (fun _ _ h => h.elim))
            have HD8 := Lib.hid (HD7.out.fr hF8 (fun h => h))
            clear hS hC hF8 HX7 HY7 HR1' HR2' HD7 HFB
            have hN6' : HeadN (1 + N) := ⟨by omega, by omega⟩
            have HBO := Lib.hid (apart_both hN6' (lets_rune HA.out) (lets_rune HB.out) (by rw [HLA.out]; omega) (by rw [HLB.out]; omega))
            obtain ⟨dlen, hdlen⟩ : ∃ n, (apartD (1 + N) (za.map letT) (zb.map letT)).length = n := ⟨_, rfl⟩
            have HDL := Lib.hid hdlen
            have HDL2 := Lib.hid (show dlen = an + bn + 5 by rw [← hdlen, apart_len, HLA.out, HLB.out])
            clear hdlen
            have x0 := HX8.out.cell 0
            have x1 := HX8.out.cell 1
            have x2 := HX8.out.cell 2
            have x3 := HX8.out.cell 3
            have x4 := HX8.out.cell 4
            have x5 := HX8.out.cell 5
            have x6 := HX8.out.cell 6
            have x7 := HX8.out.cell 7
            have y0 := HY8.out.cell 0
            have y1 := HY8.out.cell 1
            have y2 := HY8.out.cell 2
            have y3 := HY8.out.cell 3
            have y4 := HY8.out.cell 4
            have y5 := HY8.out.cell 5
            have y6 := HY8.out.cell 6
            have y7 := HY8.out.cell 7
            have xl := HX8.out.lt
            have yl := HY8.out.lt
            simp only [stepV, List.getElem?_cons_zero, List.getElem?_cons_succ] at x0 x1 x2 x3 x4 x5 x6 x7 y0 y1 y2 y3 y4 y5 y6 y7
            go_wp2_with fail
            clear x0 x1 x2 x3 x4 x5 x6 x7 y0 y1 y2 y3 y4 y5 y6 y7 xl yl
            obtain ⟨e1, he1⟩ : ∃ b, w8.heap.size = b := ⟨_, rfl⟩
            obtain ⟨e2, he2⟩ : ∃ b, w8.heap.size + 1 = b := ⟨_, rfl⟩
            obtain ⟨Q1, hQ1⟩ : ∃ W, w8.alloc (.cells #[.int .i64 0, .int .i64 1, .int .i64 1, .int .i64 0, .int .i64 0, .int .i64 0, .slice A1 an c1, .int .i64 0] 24) = W := ⟨_, rfl⟩
            have hq1 : Q1.heap.size = e2 := by rw [← hQ1, ← he2]; simp
            have hqf1 : Fr Nob w8 Q1 := by rw [← hQ1]; exact (Fr.refl _ _).alloc _
            have hqb1 : Blk Q1 e1 (stepV 1 (.slice A1 an c1)) 24 := by rw [← hQ1, ← he1]; exact Blk.new _ _ _
            obtain ⟨Q2, hQ2⟩ : ∃ W, Q1.alloc (.cells #[.int .i64 0, .int .i64 4, .int .i64 4, .int .i64 0, .int .i64 0, .int .i64 0, .slice A2 bn c2, .int .i64 0] 24) = W := ⟨_, rfl⟩
            have hqf2 : Fr Nob Q1 Q2 := by rw [← hQ2]; exact (Fr.refl _ _).alloc _
            have hqb2 : Blk Q2 e2 (stepV 4 (.slice A2 bn c2)) 24 := by rw [← hQ2]; exact Blk.new_at _ _ _ _ hq1.symm
            have hqf : Fr Nob w8 Q2 := hqf1.same hqf2
            have hcl := apart_call pp rs HCR.out (1 + N) 1 4 (za.map letT) (zb.map letT) _ _ (HBO.out.1) g0 5 e1 e2 c1 c2 A1 A2 Q2 (HS.out.fr0 hqf) (fun _ => ⟨_, rfl, fun h => h, fun j u hu => by rw [add_lit]; exact ((HD8.out.fr hqf (fun h => h)).cell j).trans hu⟩) (Nat.le_refl 5) (by rw [HLA.out]; exact hqb1.fr hqf2 (fun h => h)) (by rw [HLB.out]; exact hqb2) (HR18.out.fr hqf (fun _ _ h => h.elim)) (HR28.out.fr hqf (fun _ _ h => h.elim)) (by rw [HLA.out]; exact HC1.out) (by rw [HLB.out]; exact HC2.out)
            try rw [he2]
            try rw [he1]
            rw [hQ1, hQ2]
            refine hcl.mono ?_
            clear hcl
            rintro e U1 ⟨DA1, dc1, SA1, sc1, KA1, kc1, rfl, hD, hFU⟩
            have HDo1 := Lib.hid hD
            have HFU := Lib.hid (hqf.same hFU)
            clear hQ1 hQ2 hq1 hqf1 hqf2 hqb1 hqb2 hqf hD hFU he1 he2
            rw [HDL.out]
            go_upto_region 16 with (fail)
            obtain ⟨Z1, hZ1⟩ : ∃ b, U1.heap.size = b := ⟨_, rfl⟩
            obtain ⟨T1, hT1⟩ : ∃ W, U1.alloc (.cells #[.slice DA1 dlen dc1, .slice SA1 1 sc1, .slice KA1 1 kc1] 46) = W := ⟨_, rfl⟩
            have hft : Fr Nob U1 T1 := by rw [← hT1]; exact (Fr.refl _ _).alloc _
            have HZ1 := Lib.hid (show Blk T1 Z1 [.slice DA1 dlen dc1, .slice SA1 1 sc1, .slice KA1 1 kc1] 46 by rw [← hT1, ← hZ1]; exact Blk.new _ _ _)
            have HDp1 := Lib.hid (HDo1.out.fr hft (fun _ _ h => h.elim))
            have HFT1 := Lib.hid (HFU.out.same hft)
            rw [hT1, hZ1]
            clear hT1 hZ1 hft HFU HDo1
            have HF9 := Lib.hid (HF8.out.same HFT1.out)
            have HS9 := Lib.hid (HS.out.fr0 HFT1.out)
            have HX9 := Lib.hid (HX8.out.fr HFT1.out (fun h => h))
            have HY9 := Lib.hid (HY8.out.fr HFT1.out (fun h => h))
            have HR19 := Lib.hid (HR18.out.fr HFT1.out (fun _ _ h => h.elim))
            have HR29 := Lib.hid (HR28.out.fr HFT1.out (fun _ _ h => h.elim))
            have HD9 := Lib.hid (HD8.out.fr HFT1.out (fun h => h))
            clear HS HX8 HY8 HR18 HR28 HD8 HF8
            have HS := HS9
            have HX8 := HX9
            have HY8 := HY9
            have HR18 := HR19
            have HR28 := HR29
            have HD8 := HD9
            clear HS9 HX9 HY9 HR19 HR29 HD9
            have x0 := HX8.out.cell 0
            have x1 := HX8.out.cell 1
            have x2 := HX8.out.cell 2
            have x3 := HX8.out.cell 3
            have x4 := HX8.out.cell 4
            have x5 := HX8.out.cell 5
            have x6 := HX8.out.cell 6
            have x7 := HX8.out.cell 7
            have y0 := HY8.out.cell 0
            have y1 := HY8.out.cell 1
            have y2 := HY8.out.cell 2
            have y3 := HY8.out.cell 3
            have y4 := HY8.out.cell 4
            have y5 := HY8.out.cell 5
            have y6 := HY8.out.cell 6
            have y7 := HY8.out.cell 7
            have xl := HX8.out.lt
            have yl := HY8.out.lt
            simp only [stepV, List.getElem?_cons_zero, List.getElem?_cons_succ] at x0 x1 x2 x3 x4 x5 x6 x7 y0 y1 y2 y3 y4 y5 y6 y7
            go_wp2_with fail
            clear x0 x1 x2 x3 x4 x5 x6 x7 y0 y1 y2 y3 y4 y5 y6 y7 xl yl
            obtain ⟨e1, he1⟩ : ∃ b, T1.heap.size = b := ⟨_, rfl⟩
            obtain ⟨e2, he2⟩ : ∃ b, T1.heap.size + 1 = b := ⟨_, rfl⟩
            obtain ⟨Q1, hQ1⟩ : ∃ W, T1.alloc (.cells #[.int .i64 0, .int .i64 4, .int .i64 4, .int .i64 0, .int .i64 0, .int .i64 0, .slice A2 bn c2, .int .i64 0] 24) = W := ⟨_, rfl⟩
            have hq1 : Q1.heap.size = e2 := by rw [← hQ1, ← he2]; simp
            have hqf1 : Fr Nob T1 Q1 := by rw [← hQ1]; exact (Fr.refl _ _).alloc _
            have hqb1 : Blk Q1 e1 (stepV 4 (.slice A2 bn c2)) 24 := by rw [← hQ1, ← he1]; exact Blk.new _ _ _
            obtain ⟨Q2, hQ2⟩ : ∃ W, Q1.alloc (.cells #[.int .i64 0, .int .i64 1, .int .i64 1, .int .i64 0, .int .i64 0, .int .i64 0, .slice A1 an c1, .int .i64 0] 24) = W := ⟨_, rfl⟩
            have hqf2 : Fr Nob Q1 Q2 := by rw [← hQ2]; exact (Fr.refl _ _).alloc _
            have hqb2 : Blk Q2 e2 (stepV 1 (.slice A1 an c1)) 24 := by rw [← hQ2]; exact Blk.new_at _ _ _ _ hq1.symm
            have hqf : Fr Nob T1 Q2 := hqf1.same hqf2
            have hcl := apart_call pp rs HCR.out (1 + N) 4 1 (zb.map letT) (za.map letT) _ _ (HBO.out.2) g0 5 e1 e2 c2 c1 A2 A1 Q2 (HS.out.fr0 hqf) (fun _ => ⟨_, rfl, fun h => h, fun j u hu => by rw [add_lit]; exact ((HD8.out.fr hqf (fun h => h)).cell j).trans hu⟩) (Nat.le_refl 5) (by rw [HLB.out]; exact hqb1.fr hqf2 (fun h => h)) (by rw [HLA.out]; exact hqb2) (HR28.out.fr hqf (fun _ _ h => h.elim)) (HR18.out.fr hqf (fun _ _ h => h.elim)) (by rw [HLB.out]; exact HC2.out) (by rw [HLA.out]; exact HC1.out)
            try rw [he2]
            try rw [he1]
            rw [hQ1, hQ2]
            refine hcl.mono ?_
            clear hcl
            rintro e U2 ⟨DA2, dc2, SA2, sc2, KA2, kc2, rfl, hD, hFU⟩
            have HDo2 := Lib.hid hD
            have HFU := Lib.hid (hqf.same hFU)
            clear hQ1 hQ2 hq1 hqf1 hqf2 hqb1 hqb2 hqf hD hFU he1 he2
            rw [HDL.out]
            go_upto_region 17 with (fail)
            obtain ⟨Z2, hZ2⟩ : ∃ b, U2.heap.size = b := ⟨_, rfl⟩
            obtain ⟨T2, hT2⟩ : ∃ W, U2.alloc (.cells #[.slice DA2 dlen dc2, .slice SA2 1 sc2, .slice KA2 1 kc2] 46) = W := ⟨_, rfl⟩
            have hft : Fr Nob U2 T2 := by rw [← hT2]; exact (Fr.refl _ _).alloc _
            have HZ2 := Lib.hid (show Blk T2 Z2 [.slice DA2 dlen dc2, .slice SA2 1 sc2, .slice KA2 1 kc2] 46 by rw [← hT2, ← hZ2]; exact Blk.new _ _ _)
            have HDp2 := Lib.hid (HDo2.out.fr hft (fun _ _ h => h.elim))
            have HFT2 := Lib.hid (HFU.out.same hft)
            rw [hT2, hZ2]
            clear hT2 hZ2 hft HFU HDo2
            have HZ1' := Lib.hid (HZ1.out.fr HFT2.out (fun h => h))
            have HDp1' := Lib.hid (HDp1.out.fr HFT2.out (fun _ _ h => h.elim))
            have HFE := Lib.hid (HF9.out.same HFT2.out)
            have hal := alike_same Nob Nob (apartD (1 + N) (za.map letT) (zb.map letT)) DA1 DA2 dc1 dc2 T2 (by rw [HDL.out]; have := HDL2.out; omega) HDp1'.out HDp2.out
            rw [HDL.out] at hal
            have HAL := Lib.hid hal
            clear hal
            have z0 := HZ1'.out.cell 0
            have z1 := HZ1'.out.cell 1
            have zl := HZ1'.out.lt
            have v0 := HZ2.out.cell 0
            have v1 := HZ2.out.cell 1
            have vl := HZ2.out.lt
            simp only [List.getElem?_cons_zero, List.getElem?_cons_succ] at z0 z1 v0 v1
            go_wp2_with fail
            refine HAL.out.mono ?_
            rintro e T3 ⟨rfl, hF3⟩
            have HF3 := Lib.hid (HFE.out.same hF3)
            clear z0 z1 zl v0 v1 vl
            have z0 := (HZ1'.out.fr hF3 (fun h => h)).cell 0
            have z1 := (HZ1'.out.fr hF3 (fun h => h)).cell 1
            have zl := (HZ1'.out.fr hF3 (fun h => h)).lt
            have v1 := (HZ2.out.fr hF3 (fun h => h)).cell 1
            have vl := (HZ2.out.fr hF3 (fun h => h)).lt
            simp only [List.getElem?_cons_zero, List.getElem?_cons_succ] at z0 z1 v1
            have hdd : (dlen : Int) = 5 + (an : Int) + (bn : Int) := by have := HDL2.out; omega
            clear hF3
            go_wp2_with fail
            refine (awake_any T3 (HHG.out.fr HF3.out (fun h => h))).mono ?_
            rintro e T4 ⟨rfl, hF4⟩
            go_wp2_with fail
            go_ret
            exact ⟨rfl, HF3.out.same hF4⟩
  · by_cases h2 : an ≤ 50
    · have ta : ¬ ((50 : Int) < (an : Int)) := by omega
      have tb : ((50 : Int) < (bn : Int)) := by omega
      go_wp2_with fail
      refine (awake_any w HHG.out).mono ?_
      rintro e w1 ⟨rfl, hF⟩
      go_wp2_with fail
      go_ret
      exact ⟨rfl, hF⟩
    · have ta : ((50 : Int) < (an : Int)) := by omega
      go_wp2_with fail
      refine (awake_any w HHG.out).mono ?_
      rintro e w1 ⟨rfl, hF⟩
      go_wp2_with fail
      go_ret
      exact ⟨rfl, hF⟩
end Go.Proofs.YtanbfplcldloeaaGreatDoor
