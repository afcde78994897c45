/- A part of the proof for chapter 10: TextsW; no conditions. -/
import Derived.Test.YtanbfplcldloeaaGreatDoorT20
/- Chapter 10: letters put at two places of a text, by one and by another: the walk. -/
namespace Go.Proofs.YtanbfplcldloeaaGreatDoor
open Go.RowKit
theorem dots_succ (j : Nat) : tokC (openT :: dotsU (j + 1)) = tokC (openT :: dotsU j) ++ [.int .i64 0, .int .i64 0, .int .i64 46, .int .i64 0] := by
  have h : dotsU (j + 1) = dotsU j ++ [runeT 46] := List.replicate_succ'
  rw [h, ← List.cons_append, tokC_append]
  rfl
theorem put_cells (p : Nat) (c : Int) (b : Nat) : (⟨putS (p + 1) c, some ⟨b, 0, none⟩, 1⟩ : StepA).cells = [.int .i64 0, .int .i64 (1 + (p : Int)), .int .i64 (1 + (p : Int)), .int .i64 0, .int .i64 0, .int .i64 0, .slice (some ⟨b, 0, none⟩) 1 1, .int .i64 0] := by
  have e : ((p + 1 : Nat) : Int) = 1 + (p : Int) := by omega
  simp only [StepA.cells, StepM.cells, putS, e]
  rfl
theorem put_steps {W : World} {b bx p : Nat} {c : Int} (hb : Blk W b [.int .i64 0, .int .i64 (1 + (p : Int)), .int .i64 (1 + (p : Int)), .int .i64 0, .int .i64 0, .int .i64 0, .slice (some ⟨bx, 0, none⟩) 1 1, .int .i64 0] 24)
    (hx : Blk W bx [.int .i64 0, .int .i64 0, .int .i64 c, .int .i64 0] 65) : StepsM Nob W (some ⟨b, 0, none⟩) [⟨putS (p + 1) c, some ⟨bx, 0, none⟩, 1⟩] := by
  refine ⟨fun _ => ⟨_, rfl, fun h => h, fun j u hu => ?_⟩, fun y hy => ?_, fun y hy => ?_⟩
  · rw [stepC, List.flatMap_cons, List.flatMap_nil, List.append_nil, put_cells] at hu
    rw [add_lit]
    exact (hb.cell j).trans hu
  · obtain rfl := List.mem_singleton.1 hy
    exact fun _ => ⟨_, rfl, fun h => h, fun j u hu => by rw [add_lit]; exact (hx.cell j).trans hu⟩
  · obtain rfl := List.mem_singleton.1 hy
    exact Nat.le_refl 1
theorem texts_call (pp : Nat) (rs : List RuleM) (hC : rs.map coreR = (wholeS ⟨#[98, 108, 111, 99, 107, 43]⟩ :: houseL).map coreS) (k p q : Nat) (hp : p ≤ k) (hq : q ≤ k) (hk : k < 40) (g cap dl : Nat) (hdl : 1 + k + 1 = dl) (b1 b2 bx by' : Nat) (W : World)
    (hS : Sch Nob W pp rs (groupsF houseL houseG)) (hd : Rd Nob W (some ⟨g, 0, none⟩) (tokC (paraD (dotsU k)))) (hdc : dl ≤ cap)
    (h1 : Blk W b1 [.int .i64 0, .int .i64 (1 + (p : Int)), .int .i64 (1 + (p : Int)), .int .i64 0, .int .i64 0, .int .i64 0, .slice (some ⟨bx, 0, none⟩) 1 1, .int .i64 0] 24)
    (h2 : Blk W b2 [.int .i64 0, .int .i64 (1 + (q : Int)), .int .i64 (1 + (q : Int)), .int .i64 0, .int .i64 0, .int .i64 0, .slice (some ⟨by', 0, none⟩) 1 1, .int .i64 0] 24)
    (hx : Blk W bx [.int .i64 0, .int .i64 0, .int .i64 120, .int .i64 0] 65) (hy : Blk W by' [.int .i64 0, .int .i64 0, .int .i64 121, .int .i64 0] 65) :
    Calls Tryz.prog 17 #[.pointer (some ⟨pp, 0, none⟩), .slice (some ⟨g, 0, none⟩) dl cap, .slice (some ⟨b1, 0, none⟩) 1 1, .slice (some ⟨b2, 0, none⟩) 1 1] W fun e w' => ∃ DA dc SA sc KA kc, e = .returned (.tuple #[.agg #[.slice DA (k + 4) dc, .slice SA 1 sc, .slice KA 1 kc], .int .i64 0]) ∧ Rd Nob w' DA (tokC (paraD (textsU k p q))) ∧ Fr Nob W w' := by
  have hl : (paraD (dotsU k)).length = dl := by
    have : (dotsU k).length = k := List.length_replicate
    simp [paraD, this]
    omega
  have h := rebase_any Nob pp rs (groupsF houseL houseG) (house_schok hC) [⟨putS (p + 1) 120, some ⟨bx, 0, none⟩, 1⟩] [⟨putS (q + 1) 121, some ⟨by', 0, none⟩, 1⟩] (some ⟨b1, 0, none⟩) (some ⟨b2, 0, none⟩) 1 1 (.slice (some ⟨g, 0, none⟩) dl cap) (paraD (dotsU k)) W (fun _ h => h.elim) hS ⟨_, _, by rw [hl], by rw [hl]; exact hdc, hd⟩ (put_steps h1 hx) (put_steps h2 hy) (by rw [hl]; omega) ⟨by simp, by simp⟩
  have e : rebaseF rs (groupsF houseL houseG) (paraD (dotsU k)) (([⟨putS (p + 1) 120, some ⟨bx, 0, none⟩, 1⟩] : List StepA).map StepA.s) (([⟨putS (q + 1) 121, some ⟨by', 0, none⟩, 1⟩] : List StepA).map StepA.s) = (⟨paraD (textsU k p q), [putS (atX (p + 1) (q + 1)) 120], [0]⟩, 0) :=
    (rebaseF_congr (fun l => checkF_house hC _ l) _ _ _).trans (texts_rebase hk hp hq)
  rw [e] at h
  refine h.mono ?_
  rintro e w' ⟨dv, sv, kv, rfl, hv, hF⟩
  obtain ⟨⟨DA, dc, rfl, _, hdr⟩, ⟨SA, sc, L, rfl, _, hL⟩, ⟨KA, kc, rfl, _⟩⟩ := hv
  have hL1 : L.length = 1 := by
    have := congrArg List.length hL
    simpa using this
  have hD1 := texts_len hp hq
  refine ⟨DA, dc, SA, sc, KA, kc, ?_, hdr, hF⟩
  rw [hL1]
  simp only [hD1]
  rfl
theorem rune_at {U : World} {DA : Option Addr} {D : List Tok} (h : Rd Nob U DA (tokC D)) {i : Nat} {c : Int} (hi : D[i]? = some (runeT c)) : ∃ ad, DA = some ad ∧ U.cell? ⟨(ad.add (i * 4)).block, (ad.add (i * 4)).off + 2, none⟩ = some (.int .i64 c) := by
  obtain ⟨hlt, he⟩ := List.getElem?_eq_some_iff.1 hi
  obtain ⟨ad, rfl, _, _, _, hj⟩ := Rd.elt Tok.cells_len (by omega) h hlt
  refine ⟨ad, rfl, ?_⟩
  have h1 := hj 1 (by omega)
  rw [he] at h1
  exact h1
/-- A document is not where three slices lie. -/
theorem texts_doc {U U' : World} {DA : Option Addr} {u : List Tok} {X : Nat} {t : TypeId} (hD : Rd Nob U DA (tokC (paraD u))) (hX : Blk U X [.slice none 0 0, .slice none 0 0, .slice none 0 0] t) (hf : Fr (One X) U U') : Rd Nob U' DA (tokC (paraD u)) := by
  have hne : tokC (paraD u) ≠ [] := by simp [paraD, tokC, Tok.cells]
  obtain ⟨ad, rfl, _, hc⟩ := hD hne
  have h0 := hc 0 (.int .i64 1) rfl
  have hb : ad.block ≠ X := fun e => by
    have e2 : (ad.add 0).block = X := by rw [add_block]; exact e
    have h1 : U.heap[(ad.add 0).block]? = some (.cells #[.slice none 0 0, .slice none 0 0, .slice none 0 0] t (0, 0)) := by rw [e2]; exact hX
    unfold World.cell? at h0
    rw [h1] at h0
    simp only at h0
    split at h0
    · cases h0
    · match (ad.add 0).off, h0 with
      | 0, h0 => cases h0
      | 1, h0 => cases h0
      | 2, h0 => cases h0
      | n + 3, h0 => simp at h0
  exact (Rd.fr (M := fun k => k = X) (fun _ => ⟨ad, rfl, hb, hc⟩) hf (fun k _ e => e)).mono (fun k h => h.elim)
set_option maxRecDepth 100000 in
set_option maxHeartbeats 20000000 in
theorem texts_walk (n0 n1 n2 : Int) (h0 : 0 ≤ n0 ∧ n0 < 256) (h1 : 0 ≤ n1 ∧ n1 < 256) (h2 : 0 ≤ n2 ∧ n2 < 256) (w : World) (hG : HG w) :
    Calls Tryz.prog 7 #[.int .u8 n0, .int .u8 n1, .int .u8 n2] w fun e w' => e = .returned (.bool true) ∧ Fr Nob w w' := by
  have HHG := Lib.hid hG
  clear hG
  obtain ⟨k, hk⟩ : ∃ k : Nat, Int.tmod n0 40 = (k : Int) := ⟨(Int.tmod n0 40).toNat, by have := Int.tmod_nonneg (b := 40) h0.1; omega⟩
  have hk40 : k < 40 := by
    have := Int.tmod_lt_of_pos n0 (show (0 : Int) < 40 by decide)
    omega
  obtain ⟨p, hp⟩ : ∃ p : Nat, Int.tmod n1 ((k : Int) + 1) = (p : Int) := ⟨(Int.tmod n1 ((k : Int) + 1)).toNat, by have := Int.tmod_nonneg (b := (k : Int) + 1) h1.1; omega⟩
  have hpk : p ≤ k := by
    have := Int.tmod_lt_of_pos n1 (show (0 : Int) < (k : Int) + 1 by omega)
    omega
  obtain ⟨q, hq⟩ : ∃ q : Nat, Int.tmod n2 ((k : Int) + 1) = (q : Int) := ⟨(Int.tmod n2 ((k : Int) + 1)).toNat, by have := Int.tmod_nonneg (b := (k : Int) + 1) h2.1; omega⟩
  have hqk : q ≤ k := by
    have := Int.tmod_lt_of_pos n2 (show (0 : Int) < (k : Int) + 1 by omega)
    omega
  obtain ⟨iT, hiT, hzT0, hzT1, hzT2⟩ := info_parts infoTok
  obtain ⟨W, hW⟩ : ∃ W, w.alloc (.cells #[.int .i64 1, .int .i64 1, .int .i64 0, .int .i64 0] 65) = W := ⟨_, rfl⟩
  have HF1 := Lib.hid (show Fr Nob w W by rw [← hW]; exact (Fr.refl _ _).alloc _)
  have HOW := Lib.hid (show W.ownsRow w.heap.size 65 4 (.slice (some ⟨w.heap.size, 0, none⟩) 1 1) (1 + 0) (tokC (openT :: dotsU 0)) by rw [← hW]; exact World.ownsRow_lit (e := 65) (size := 4) (base := w.heap.size) w #[.int .i64 1, .int .i64 1, .int .i64 0, .int .i64 0] 1 (Nat.le_refl _) (by decide) rfl)
  go_enter Tryz.func7, Tryz.ntmps7
  go_upto_region 3 with (fail)
  clear hW
  go_wp2_with fail
  go_loopg [7, 9] (k) (fun n s7 s9 wr => ∃ (j : Nat), n = k - j ∧ j ≤ k ∧ s9 = .int .i64 j ∧ Hid (wr.ownsRow w.heap.size 65 4 s7 (1 + j) (tokC (openT :: dotsU j))) ∧ Hid (Fr Nob w wr))
  case atStart => exact ⟨0, rfl, Nat.zero_le _, rfl, HOW.out, HF1.out⟩
  case round =>
    obtain ⟨j, rfl, hj, rfl, HO, HF⟩ := hrel
    by_cases hlt : j < k
    · have ht : ((j : Int) < (k : Int)) := by omega
      obtain ⟨VA, vc, rfl, hvc, _⟩ := Rd.of_own (M := Nob) HO.out (fun _ _ h => h)
      have HM := Lib.hid (show 1 + j + 1 ≤ maxLen ∧ (1 + j + 1) * 32 ≤ 140737488355328 ∧ w.heap.size ≤ (wr.alloc (.cells #[.int .i64 0, .int .i64 0, .int .i64 46, .int .i64 0] 65)).heap.size from ⟨by simp only [maxLen]; omega, by omega, by have := HF.out.size; simp; omega⟩)
      have HCC := Lib.hid (show ∀ (i : Nat) (u : Value), [Value.int .i64 0, .int .i64 0, .int .i64 46, .int .i64 0][i]? = some u → (wr.alloc (.cells #[.int .i64 0, .int .i64 0, .int .i64 46, .int .i64 0] 65)).cell? ((⟨wr.heap.size, 0, none⟩ : Addr).add i) = some u from fun i u hu => by
        rw [add_lit]
        exact ((Blk.new wr [.int .i64 0, .int .i64 0, .int .i64 46, .int .i64 0] 65).cell i).trans hu)
      obtain ⟨xs, hxs⟩ : ∃ xs, tokC (openT :: dotsU j) = xs := ⟨_, rfl⟩
      have HXS := Lib.hid hxs
      have HO1 := Lib.hid (show (wr.alloc (.cells #[.int .i64 0, .int .i64 0, .int .i64 46, .int .i64 0] 65)).ownsRow w.heap.size 65 4 (.slice VA (1 + j) vc) (1 + j) xs by rw [← hxs]; exact HO.out.alloc _)
      have HONE := Lib.hid (show ∀ u ∈ [Value.int .i64 0, .int .i64 0, .int .i64 46, .int .i64 0], u.oneCell' = true from fun u hu => by
        simp only [List.mem_cons, List.not_mem_nil, or_false] at hu
        rcases hu with rfl | rfl | rfl | rfl <;> rfl)
      clear hxs
      go_wp2_with (at_builtin; refine wpList_append_lies _ rfl _ _ 22 rfl w.heap.size 65 iT _ 4 32 Tryz.underlying22 hiT hzT0 hzT1 hzT2 rfl (by decide) (.slice VA (1 + j) vc) (1 + j) xs rfl HO1.out ⟨wr.heap.size, 0, none⟩ 1 1 [.int .i64 0, .int .i64 0, .int .i64 46, .int .i64 0] rfl rfl HCC.out HONE.out (by omega) HM.out.1 HM.out.2.1 HM.out.2.2 _ rfl ?_; intro g2 cap2 w2 hown2 hg2 hga2 hgl2)
      have HO2 := Lib.hid (show w2.ownsRow w.heap.size 65 4 (.slice (some ⟨g2, 0, none⟩) (1 + j + 1) cap2) (1 + (j + 1)) (tokC (openT :: dotsU (j + 1))) by
        rw [dots_succ, HXS.out]
        exact hown2)
      have HF2 := Lib.hid (show Fr Nob w w2 from (HF.out.alloc _).trans (Fr.of_grown hg2) (fun i hi e => by
        have h1 := (World.ownsRow.lt HO1.out i e.symm).1
        omega))
      clear hown2 hg2 hga2 hgl2 HO1 HO HF HXS HCC HM HONE
      go_roundg (k - (j + 1))
      case measure => omega
      case rel => exact ⟨j + 1, rfl, by omega, by first | rfl | go_num, HO2.out, HF2.out⟩
    · have ht : ¬ ((j : Int) < (k : Int)) := by omega
      have hjk : j = k := by omega
      subst hjk
      obtain ⟨VA, vc, rfl, hvc, _⟩ := Rd.of_own (M := Nob) HO.out (fun _ _ h => h)
      have HM := Lib.hid (show 1 + j + 1 ≤ maxLen ∧ (1 + j + 1) * 32 ≤ 140737488355328 ∧ w.heap.size ≤ (wr.alloc (.cells #[.int .i64 2, .int .i64 0, .int .i64 0, .int .i64 0] 65)).heap.size from ⟨by simp only [maxLen]; omega, by omega, by have := HF.out.size; simp; omega⟩)
      have HCC := Lib.hid (show ∀ (i : Nat) (u : Value), [Value.int .i64 2, .int .i64 0, .int .i64 0, .int .i64 0][i]? = some u → (wr.alloc (.cells #[.int .i64 2, .int .i64 0, .int .i64 0, .int .i64 0] 65)).cell? ((⟨wr.heap.size, 0, none⟩ : Addr).add i) = some u from fun i u hu => by
        rw [add_lit]
        exact ((Blk.new wr [.int .i64 2, .int .i64 0, .int .i64 0, .int .i64 0] 65).cell i).trans hu)
      obtain ⟨xs, hxs⟩ : ∃ xs, tokC (openT :: dotsU j) = xs := ⟨_, rfl⟩
      have HXS := Lib.hid hxs
      have HO1 := Lib.hid (show (wr.alloc (.cells #[.int .i64 2, .int .i64 0, .int .i64 0, .int .i64 0] 65)).ownsRow w.heap.size 65 4 (.slice VA (1 + j) vc) (1 + j) xs by rw [← hxs]; exact HO.out.alloc _)
      have HONE := Lib.hid (show ∀ u ∈ [Value.int .i64 2, .int .i64 0, .int .i64 0, .int .i64 0], u.oneCell' = true from fun u hu => by
        simp only [List.mem_cons, List.not_mem_nil, or_false] at hu
        rcases hu with rfl | rfl | rfl | rfl <;> rfl)
      clear hxs
      go_upto_region 8 with (at_builtin; refine wpList_append_lies _ rfl _ _ 22 rfl w.heap.size 65 iT _ 4 32 Tryz.underlying22 hiT hzT0 hzT1 hzT2 rfl (by decide) (.slice VA (1 + j) vc) (1 + j) xs rfl HO1.out ⟨wr.heap.size, 0, none⟩ 1 1 [.int .i64 2, .int .i64 0, .int .i64 0, .int .i64 0] rfl rfl HCC.out HONE.out (by omega) HM.out.1 HM.out.2.1 HM.out.2.2 _ rfl ?_; intro g2 cap2 w2 hown2 hg2 hga2 hgl2)
      have HD2 := Lib.hid (show Rd Nob w2 (some ⟨g2, 0, none⟩) (tokC (paraD (dotsU j))) ∧ 1 + j + 1 ≤ cap2 by
        obtain ⟨A, c, e, hc, hr⟩ := Rd.of_own (M := Nob) hown2 (fun _ _ h => h)
        cases e
        refine ⟨?_, hc⟩
        have e : tokC (paraD (dotsU j)) = xs ++ [.int .i64 2, .int .i64 0, .int .i64 0, .int .i64 0] := by
          unfold paraD
          rw [← List.cons_append, tokC_append, HXS.out]
          rfl
        rw [e]
        exact hr)
      have HF2 := Lib.hid (show Fr Nob w w2 from (HF.out.alloc _).trans (Fr.of_grown hg2) (fun i hi e => by
        have h1 := (World.ownsRow.lt HO1.out i e.symm).1
        omega))
      clear hown2 hg2 hga2 hgl2 HO1 HO HF HXS HCC HM HONE hvc
      obtain ⟨dl, hdl⟩ : ∃ n, 1 + j + 1 = n := ⟨_, rfl⟩
      have HDL := Lib.hid hdl
      try simp only [hdl]
      rw [hdl] at HD2
      clear hdl
      go_upto_region 12 with (fail)
      obtain ⟨bx, hbx⟩ : ∃ b, w2.heap.size = b := ⟨_, rfl⟩
      obtain ⟨s1, hs1⟩ : ∃ b, w2.heap.size + 1 = b := ⟨_, rfl⟩
      obtain ⟨by', hby⟩ : ∃ b, w2.heap.size + 1 + 1 = b := ⟨_, rfl⟩
      obtain ⟨s2, hs2⟩ : ∃ b, w2.heap.size + 1 + 1 + 1 = b := ⟨_, rfl⟩
      try rw [hs2]
      try rw [hby]
      try rw [hs1]
      try rw [hbx]
      obtain ⟨V1, hV1⟩ : ∃ W, w2.alloc (.cells #[.int .i64 0, .int .i64 0, .int .i64 120, .int .i64 0] 65) = W := ⟨_, rfl⟩
      have hz1 : V1.heap.size = s1 := by rw [← hV1, ← hs1]; simp
      have hf1 : Fr Nob w2 V1 := by rw [← hV1]; exact (Fr.refl _ _).alloc _
      have hB1 : Blk V1 bx [.int .i64 0, .int .i64 0, .int .i64 120, .int .i64 0] 65 := by rw [← hV1]; exact Blk.new_at _ _ _ _ hbx.symm
      rw [hV1]
      obtain ⟨V2, hV2⟩ : ∃ W, V1.alloc (.cells #[.int .i64 0, .int .i64 (1 + (p : Int)), .int .i64 (1 + (p : Int)), .int .i64 0, .int .i64 0, .int .i64 0, .slice (some ⟨bx, 0, none⟩) 1 1, .int .i64 0] 24) = W := ⟨_, rfl⟩
      have hz2 : V2.heap.size = by' := by rw [← hV2, ← hby]; simp; omega
      have hf2 : Fr Nob V1 V2 := by rw [← hV2]; exact (Fr.refl _ _).alloc _
      have hB2 : Blk V2 s1 [.int .i64 0, .int .i64 (1 + (p : Int)), .int .i64 (1 + (p : Int)), .int .i64 0, .int .i64 0, .int .i64 0, .slice (some ⟨bx, 0, none⟩) 1 1, .int .i64 0] 24 := by rw [← hV2]; exact Blk.new_at _ _ _ _ hz1.symm
      rw [hV2]
      obtain ⟨V3, hV3⟩ : ∃ W, V2.alloc (.cells #[.int .i64 0, .int .i64 0, .int .i64 121, .int .i64 0] 65) = W := ⟨_, rfl⟩
      have hz3 : V3.heap.size = s2 := by rw [← hV3, ← hs2]; simp; omega
      have hf3 : Fr Nob V2 V3 := by rw [← hV3]; exact (Fr.refl _ _).alloc _
      have hB3 : Blk V3 by' [.int .i64 0, .int .i64 0, .int .i64 121, .int .i64 0] 65 := by rw [← hV3]; exact Blk.new_at _ _ _ _ hz2.symm
      rw [hV3]
      obtain ⟨W5, hW5⟩ : ∃ W, V3.alloc (.cells #[.int .i64 0, .int .i64 (1 + (q : Int)), .int .i64 (1 + (q : Int)), .int .i64 0, .int .i64 0, .int .i64 0, .slice (some ⟨by', 0, none⟩) 1 1, .int .i64 0] 24) = W := ⟨_, rfl⟩
      have hf4 : Fr Nob V3 W5 := by rw [← hW5]; exact (Fr.refl _ _).alloc _
      have hB4 : Blk W5 s2 [.int .i64 0, .int .i64 (1 + (q : Int)), .int .i64 (1 + (q : Int)), .int .i64 0, .int .i64 0, .int .i64 0, .slice (some ⟨by', 0, none⟩) 1 1, .int .i64 0] 24 := by rw [← hW5]; exact Blk.new_at _ _ _ _ hz3.symm
      rw [hW5]
      have HBX := Lib.hid (((hB1.fr hf2 (fun h => h)).fr hf3 (fun h => h)).fr hf4 (fun h => h))
      have HBY := Lib.hid (hB3.fr hf4 (fun h => h))
      have HB1 := Lib.hid ((hB2.fr hf3 (fun h => h)).fr hf4 (fun h => h))
      have HB2 := Lib.hid hB4
      have HD5 := Lib.hid ((((HD2.out.1.fr hf1 (fun _ _ h => h.elim)).fr hf2 (fun _ _ h => h.elim)).fr hf3 (fun _ _ h => h.elim)).fr hf4 (fun _ _ h => h.elim))
      have HDC := Lib.hid HD2.out.2
      have HFw := Lib.hid ((((HF2.out.same hf1).same hf2).same hf3).same hf4)
      clear hV1 hV2 hV3 hW5 hz1 hz2 hz3 hf1 hf2 hf3 hf4 hB1 hB2 hB3 hB4 hbx hs1 hby hs2
      have HSS := Lib.hid (show ∀ W, Fr Nob W5 W → (fun W => W.cell? ⟨s1, 0, none⟩ = some (.int .i64 0) ∧ W.cell? ⟨s1, 1, none⟩ = some (.int .i64 (1 + (p : Int))) ∧ W.cell? ⟨s1, 2, none⟩ = some (.int .i64 (1 + (p : Int))) ∧ W.cell? ⟨s1, 3, none⟩ = some (.int .i64 0) ∧ W.cell? ⟨s1, 4, none⟩ = some (.int .i64 0) ∧ W.cell? ⟨s1, 5, none⟩ = some (.int .i64 0) ∧ W.cell? ⟨s1, 6, none⟩ = some (.slice (some ⟨bx, 0, none⟩) 1 1) ∧ W.cell? ⟨s1, 7, none⟩ = some (.int .i64 0) ∧ W.cell? ⟨s2, 0, none⟩ = some (.int .i64 0) ∧ W.cell? ⟨s2, 1, none⟩ = some (.int .i64 (1 + (q : Int))) ∧ W.cell? ⟨s2, 2, none⟩ = some (.int .i64 (1 + (q : Int))) ∧ W.cell? ⟨s2, 3, none⟩ = some (.int .i64 0) ∧ W.cell? ⟨s2, 4, none⟩ = some (.int .i64 0) ∧ W.cell? ⟨s2, 5, none⟩ = some (.int .i64 0) ∧ W.cell? ⟨s2, 6, none⟩ = some (.slice (some ⟨by', 0, none⟩) 1 1) ∧ W.cell? ⟨s2, 7, none⟩ = some (.int .i64 0)) W from fun W hf => ⟨(HB1.out.fr hf (fun h => h)).cell 0, (HB1.out.fr hf (fun h => h)).cell 1, (HB1.out.fr hf (fun h => h)).cell 2, (HB1.out.fr hf (fun h => h)).cell 3, (HB1.out.fr hf (fun h => h)).cell 4, (HB1.out.fr hf (fun h => h)).cell 5, (HB1.out.fr hf (fun h => h)).cell 6, (HB1.out.fr hf (fun h => h)).cell 7, (HB2.out.fr hf (fun h => h)).cell 0, (HB2.out.fr hf (fun h => h)).cell 1, (HB2.out.fr hf (fun h => h)).cell 2, (HB2.out.fr hf (fun h => h)).cell 3, (HB2.out.fr hf (fun h => h)).cell 4, (HB2.out.fr hf (fun h => h)).cell 5, (HB2.out.fr hf (fun h => h)).cell 6, (HB2.out.fr hf (fun h => h)).cell 7⟩)
      go_cut [14, 15] from 58 to 67 (fun v14 v15 wx => ∃ X DA dc SA sc KA kc, v14 = .pointer (some ⟨X, 0, none⟩) ∧ v15 = .int .i64 0 ∧ Blk wx X [.slice DA (j + 4) dc, .slice SA 1 sc, .slice KA 1 kc] 46 ∧ Rd Nob wx DA (tokC (paraD (textsU j p q))) ∧ Fr Nob w wx)
      case first =>
        refine wp_region_held_drew (S := fun W => W.cell? ⟨s1, 0, none⟩ = some (.int .i64 0) ∧ W.cell? ⟨s1, 1, none⟩ = some (.int .i64 (1 + (p : Int))) ∧ W.cell? ⟨s1, 2, none⟩ = some (.int .i64 (1 + (p : Int))) ∧ W.cell? ⟨s1, 3, none⟩ = some (.int .i64 0) ∧ W.cell? ⟨s1, 4, none⟩ = some (.int .i64 0) ∧ W.cell? ⟨s1, 5, none⟩ = some (.int .i64 0) ∧ W.cell? ⟨s1, 6, none⟩ = some (.slice (some ⟨bx, 0, none⟩) 1 1) ∧ W.cell? ⟨s1, 7, none⟩ = some (.int .i64 0) ∧ W.cell? ⟨s2, 0, none⟩ = some (.int .i64 0) ∧ W.cell? ⟨s2, 1, none⟩ = some (.int .i64 (1 + (q : Int))) ∧ W.cell? ⟨s2, 2, none⟩ = some (.int .i64 (1 + (q : Int))) ∧ W.cell? ⟨s2, 3, none⟩ = some (.int .i64 0) ∧ W.cell? ⟨s2, 4, none⟩ = some (.int .i64 0) ∧ W.cell? ⟨s2, 5, none⟩ = some (.int .i64 0) ∧ W.cell? ⟨s2, 6, none⟩ = some (.slice (some ⟨by', 0, none⟩) 1 1) ∧ W.cell? ⟨s2, 7, none⟩ = some (.int .i64 0)) (by kernel_rfl) (HSS.out _ ((Fr.refl Nob W5).drew)) (fun _ => ?_)
        have HF0 := Lib.hid (show Fr Nob W5 W5.drew from (Fr.refl Nob W5).drew)
        generalize W5.drew = wd at HF0 ⊢
        refine wpAnyH_take (i := 1) (v := .slice (some ⟨g2, 0, none⟩) dl cap2) rfl (by kernel_rfl) (by kernel_rfl) (by kernel_rfl) (fun _ _ _ h => h) (Or.inl ⟨by rfl, fun w hSw => by (try dsimp only at hSw); obtain ⟨k0, k1, k2, k3, k4, k5, k6, k7, k8, k9, k10, k11, k12, k13, k14, k15⟩ := hSw; go_simp⟩) (HSS.out _ HF0.out) ?_
        try simp only [List.getElem_toArray, List.getElem_cons_succ, List.getElem_cons_zero, Act.put, List.setIfInBounds_toArray, List.set_cons_zero, List.set_cons_succ]
        refine wpAnyH_take (i := 2) (v := .agg #[.int .i64 0, .int .i64 (1 + (p : Int)), .int .i64 (1 + (p : Int)), .int .i64 0, .int .i64 0, .int .i64 0, .slice (some ⟨bx, 0, none⟩) 1 1, .int .i64 0]) rfl (by kernel_rfl) (by kernel_rfl) (by kernel_rfl) (fun _ _ _ h => h) (Or.inl ⟨by rfl, fun w hSw => by (try dsimp only at hSw); obtain ⟨k0, k1, k2, k3, k4, k5, k6, k7, k8, k9, k10, k11, k12, k13, k14, k15⟩ := hSw; go_simp⟩) (HSS.out _ HF0.out) ?_
        try simp only [List.getElem_toArray, List.getElem_cons_succ, List.getElem_cons_zero, Act.put, List.setIfInBounds_toArray, List.set_cons_zero, List.set_cons_succ]
        refine wpAnyH_take (i := 4) (v := .agg #[.int .i64 0, .int .i64 (1 + (q : Int)), .int .i64 (1 + (q : Int)), .int .i64 0, .int .i64 0, .int .i64 0, .slice (some ⟨by', 0, none⟩) 1 1, .int .i64 0]) rfl (by kernel_rfl) (by kernel_rfl) (by kernel_rfl) (fun _ _ _ h => h) (Or.inl ⟨by rfl, fun w hSw => by (try dsimp only at hSw); obtain ⟨k0, k1, k2, k3, k4, k5, k6, k7, k8, k9, k10, k11, k12, k13, k14, k15⟩ := hSw; go_simp⟩) (HSS.out _ HF0.out) ?_
        try simp only [List.getElem_toArray, List.getElem_cons_succ, List.getElem_cons_zero, Act.put, List.setIfInBounds_toArray, List.set_cons_zero, List.set_cons_succ]
        refine wpAnyH_ready (rs := [0, 3, 5, 10]) (by kernel_rfl) (by simp) (AllReadyH.cons (o := _) rfl (fun K hK => ?_) (AllReadyH.cons (o := _) rfl (fun K hK => ?_) (AllReadyH.cons (o := _) rfl (fun K hK => ?_) (AllReadyH.cons (o := _) rfl (fun K hK => ?_) AllReadyH.nil))))
        · go_simp
          refine (house_any wd (HHG.out.fr (HFw.out.same HF0.out) (fun h => h))).mono ?_
          rintro e V1 ⟨⟨pp1, rs1, rfl, hS1, hC1⟩, hF1⟩
          have HS_1 := Lib.hid (hS1.mono (M' := Nob) (fun _ h => h.elim))
          have HC_1 := Lib.hid hC1
          have HX_1 := Lib.hid hF1
          have HF_1 := Lib.hid (HF0.out.same hF1)
          clear hS1 hC1 hF1
          go_wp2_with fail
          refine hK.out _ _ (HSS.out _ HF_1.out) (fun _ => ?_)
          clear hK K
          try simp only [List.getElem_toArray, List.getElem_cons_succ, List.getElem_cons_zero, Act.put, List.setIfInBounds_toArray, List.set_cons_zero, List.set_cons_succ]
          refine wpAnyH_ready (rs := [3, 5, 10]) (by kernel_rfl) (by simp) (AllReadyH.cons (o := _) rfl (fun K hK => ?_) (AllReadyH.cons (o := _) rfl (fun K hK => ?_) (AllReadyH.cons (o := _) rfl (fun K hK => ?_) AllReadyH.nil)))
          · go_simp
            obtain ⟨c2, hc2⟩ : ∃ b, V1.heap.size = b := ⟨_, rfl⟩
            obtain ⟨V2, hV2⟩ : ∃ W, V1.alloc (.cells #[.int .i64 0, .int .i64 (1 + (p : Int)), .int .i64 (1 + (p : Int)), .int .i64 0, .int .i64 0, .int .i64 0, .slice (some ⟨bx, 0, none⟩) 1 1, .int .i64 0] 24) = W := ⟨_, rfl⟩
            have HX_2 := Lib.hid (show Fr Nob V1 V2 by rw [← hV2]; exact (Fr.refl _ _).alloc _)
            have HB_2 := Lib.hid (show Blk V2 c2 [.int .i64 0, .int .i64 (1 + (p : Int)), .int .i64 (1 + (p : Int)), .int .i64 0, .int .i64 0, .int .i64 0, .slice (some ⟨bx, 0, none⟩) 1 1, .int .i64 0] 24 by rw [← hV2, ← hc2]; exact Blk.new _ _ _)
            have HF_2 := Lib.hid (HF_1.out.same HX_2.out)
            rw [hV2, hc2]
            clear hV2 hc2
            refine hK.out _ _ (HSS.out _ HF_2.out) (fun _ => ?_)
            clear hK K
            try simp only [List.getElem_toArray, List.getElem_cons_succ, List.getElem_cons_zero, Act.put, List.setIfInBounds_toArray, List.set_cons_zero, List.set_cons_succ]
            refine wpAnyH_ready (rs := [5, 10]) (by kernel_rfl) (by simp) (AllReadyH.cons (o := _) rfl (fun K hK => ?_) (AllReadyH.cons (o := _) rfl (fun K hK => ?_) AllReadyH.nil))
            · go_simp
              obtain ⟨c3, hc3⟩ : ∃ b, V2.heap.size = b := ⟨_, rfl⟩
              obtain ⟨V3, hV3⟩ : ∃ W, V2.alloc (.cells #[.int .i64 0, .int .i64 (1 + (q : Int)), .int .i64 (1 + (q : Int)), .int .i64 0, .int .i64 0, .int .i64 0, .slice (some ⟨by', 0, none⟩) 1 1, .int .i64 0] 24) = W := ⟨_, rfl⟩
              have HX_3 := Lib.hid (show Fr Nob V2 V3 by rw [← hV3]; exact (Fr.refl _ _).alloc _)
              have HB_3 := Lib.hid (show Blk V3 c3 [.int .i64 0, .int .i64 (1 + (q : Int)), .int .i64 (1 + (q : Int)), .int .i64 0, .int .i64 0, .int .i64 0, .slice (some ⟨by', 0, none⟩) 1 1, .int .i64 0] 24 by rw [← hV3, ← hc3]; exact Blk.new _ _ _)
              have HF_3 := Lib.hid (HF_2.out.same HX_3.out)
              rw [hV3, hc3]
              clear hV3 hc3
              refine hK.out _ _ (HSS.out _ HF_3.out) (fun _ => ?_)
              clear hK K
              try simp only [List.getElem_toArray, List.getElem_cons_succ, List.getElem_cons_zero, Act.put, List.setIfInBounds_toArray, List.set_cons_zero, List.set_cons_succ]
              refine wpAnyH_ready (rs := [6, 10]) (by kernel_rfl) (by simp) (AllReadyH.cons (o := _) rfl (fun K hK => ?_) (AllReadyH.cons (o := _) rfl (fun K hK => ?_) AllReadyH.nil))
              · go_simp
                refine (texts_call pp1 rs1 HC_1.out j p q hpk hqk hk40 g2 cap2 dl HDL.out c2 c3 bx by' V3 ((HS_1.out.fr0 HX_2.out).fr0 HX_3.out) (HD5.out.fr HF_3.out (fun _ _ h => h.elim)) HDC.out (HB_2.out.fr HX_3.out (fun h => h)) HB_3.out (HBX.out.fr HF_3.out (fun h => h)) (HBY.out.fr HF_3.out (fun h => h))).mono ?_
                rintro e V4 ⟨DA, dc, SA, sc, KA, kc, rfl, hD4, hFU4⟩
                have HX_4 := Lib.hid hFU4
                have HD_4 := Lib.hid hD4
                have HF_4 := Lib.hid (HF_3.out.same hFU4)
                clear hD4 hFU4
                go_wp2_with fail
                refine hK.out _ _ (HSS.out _ HF_4.out) (fun _ => ?_)
                clear hK K
                try simp only [List.getElem_toArray, List.getElem_cons_succ, List.getElem_cons_zero, Act.put, List.setIfInBounds_toArray, List.set_cons_zero, List.set_cons_succ]
                refine wpAnyH_take (i := 7) (v := .tuple #[.agg #[.slice DA (j + 4) dc, .slice SA 1 sc, .slice KA 1 kc], .int .i64 0]) rfl (by kernel_rfl) (by kernel_rfl) (by kernel_rfl) (fun _ _ _ h => h) (Or.inl ⟨by rfl, fun _ _ => by go_simp⟩) (HSS.out _ HF_4.out) ?_
                refine wpAnyH_take (i := 8) (v := .agg #[.slice DA (j + 4) dc, .slice SA 1 sc, .slice KA 1 kc]) rfl (by kernel_rfl) (by kernel_rfl) (by kernel_rfl) (fun _ _ _ h => h) (Or.inl ⟨by rfl, fun _ _ => by go_simp⟩) (HSS.out _ HF_4.out) ?_
                refine wpAnyH_take (i := 9) (v := .int .i64 0) rfl (by kernel_rfl) (by kernel_rfl) (by kernel_rfl) (fun _ _ _ h => h) (Or.inl ⟨by rfl, fun _ _ => by go_simp⟩) (HSS.out _ HF_4.out) ?_
                try simp only [List.getElem_toArray, List.getElem_cons_succ, List.getElem_cons_zero, Act.put, List.setIfInBounds_toArray, List.set_cons_zero, List.set_cons_succ]
                refine wpAnyH_ready (rs := [10]) (by kernel_rfl) (by simp) (AllReadyH.cons (o := _) rfl (fun K hK => ?_) AllReadyH.nil)
                go_simp
                obtain ⟨c5, hc5⟩ : ∃ b, V4.heap.size = b := ⟨_, rfl⟩
                obtain ⟨V5, hV5⟩ : ∃ W, V4.alloc (.cells #[.slice none 0 0, .slice none 0 0, .slice none 0 0] 46) = W := ⟨_, rfl⟩
                have HX_5 := Lib.hid (show Fr Nob V4 V5 by rw [← hV5]; exact (Fr.refl _ _).alloc _)
                have HB_5 := Lib.hid (show Blk V5 c5 [.slice none 0 0, .slice none 0 0, .slice none 0 0] 46 by rw [← hV5, ← hc5]; exact Blk.new _ _ _)
                have HF_5 := Lib.hid (HF_4.out.same HX_5.out)
                have HL_5 := Lib.hid (show W5.heap.size ≤ c5 by rw [← hc5]; exact HF_4.out.size)
                rw [hV5, hc5]
                clear hV5 hc5
                refine hK.out _ _ (HSS.out _ HF_5.out) (fun _ => ?_)
                clear hK K
                try simp only [List.getElem_toArray, List.getElem_cons_succ, List.getElem_cons_zero, Act.put, List.setIfInBounds_toArray, List.set_cons_zero, List.set_cons_succ]
                refine wpAnyH_ready (rs := [11]) (by kernel_rfl) (by simp) (AllReadyH.cons (o := _) rfl (fun K hK => ?_) AllReadyH.nil)
                have x0 := HB_5.out.cell 0
                have x1 := HB_5.out.cell 1
                have x2 := HB_5.out.cell 2
                have f0 := HB_5.out.frozen 0
                have f1 := HB_5.out.frozen 1
                have f2 := HB_5.out.frozen 2
                have xl := HB_5.out.lt
                simp only [List.getElem?_cons_zero, List.getElem?_cons_succ] at x0 x1 x2
                go_simp
                clear x0 x1 x2 f0 f1 f2 xl
                obtain ⟨V6, hV6⟩ : ∃ W, ((V5.setCell ⟨c5, 0, none⟩ (.slice DA (j + 4) dc)).setCell ⟨c5, 1, none⟩ (.slice SA 1 sc)).setCell ⟨c5, 2, none⟩ (.slice KA 1 kc) = W := ⟨_, rfl⟩
                have HZ_6 := Lib.hid (store3 HB_5.out _ _ _ V6 hV6)
                have HF_6 := Lib.hid (show Fr Nob W5 V6 from HF_5.out.trans HZ_6.out.2 (fun i hi e => by have h1 : i = c5 := e; have := HL_5.out; omega))
                rw [hV6]
                clear hV6
                refine hK.out _ _ (HSS.out _ HF_6.out) (fun _ => ?_)
                clear hK K
                try simp only [List.getElem_toArray, List.getElem_cons_succ, List.getElem_cons_zero, Act.put, List.setIfInBounds_toArray, List.set_cons_zero, List.set_cons_succ]
                refine wpAnyH_take (i := 12) (v := .int .i64 0) rfl (by kernel_rfl) (by kernel_rfl) (by kernel_rfl) (fun _ _ _ h => h) (Or.inl ⟨by rfl, fun _ _ => by go_simp⟩) (HSS.out _ HF_6.out) ?_
                refine wpAnyH_done (by kernel_rfl) ?_ _
                go_wp2_with fail
                go_meet
                exact ⟨_, DA, dc, SA, sc, KA, kc, rfl, rfl, HZ_6.out.1, texts_doc (HD_4.out.fr HX_5.out (fun _ _ h => h.elim)) HB_5.out HZ_6.out.2, HFw.out.same HF_6.out⟩
              · go_simp
                obtain ⟨c7, hc7⟩ : ∃ b, V3.heap.size = b := ⟨_, rfl⟩
                obtain ⟨V7, hV7⟩ : ∃ W, V3.alloc (.cells #[.slice none 0 0, .slice none 0 0, .slice none 0 0] 46) = W := ⟨_, rfl⟩
                have HX_7 := Lib.hid (show Fr Nob V3 V7 by rw [← hV7]; exact (Fr.refl _ _).alloc _)
                have HB_7 := Lib.hid (show Blk V7 c7 [.slice none 0 0, .slice none 0 0, .slice none 0 0] 46 by rw [← hV7, ← hc7]; exact Blk.new _ _ _)
                have HF_7 := Lib.hid (HF_3.out.same HX_7.out)
                have HL_7 := Lib.hid (show W5.heap.size ≤ c7 by rw [← hc7]; exact HF_3.out.size)
                rw [hV7, hc7]
                clear hV7 hc7
                refine hK.out _ _ (HSS.out _ HF_7.out) (fun _ => ?_)
                clear hK K
                try simp only [List.getElem_toArray, List.getElem_cons_succ, List.getElem_cons_zero, Act.put, List.setIfInBounds_toArray, List.set_cons_zero, List.set_cons_succ]
                refine wpAnyH_ready (rs := [6]) (by kernel_rfl) (by simp) (AllReadyH.cons (o := _) rfl (fun K hK => ?_) AllReadyH.nil)
                go_simp
                refine (texts_call pp1 rs1 HC_1.out j p q hpk hqk hk40 g2 cap2 dl HDL.out c2 c3 bx by' V7 (((HS_1.out.fr0 HX_2.out).fr0 HX_3.out).fr0 HX_7.out) (HD5.out.fr HF_7.out (fun _ _ h => h.elim)) HDC.out ((HB_2.out.fr HX_3.out (fun h => h)).fr HX_7.out (fun h => h)) (HB_3.out.fr HX_7.out (fun h => h)) (HBX.out.fr HF_7.out (fun h => h)) (HBY.out.fr HF_7.out (fun h => h))).mono ?_
                rintro e V8 ⟨DA, dc, SA, sc, KA, kc, rfl, hD8, hFU8⟩
                have HX_8 := Lib.hid hFU8
                have HD_8 := Lib.hid hD8
                have HF_8 := Lib.hid (HF_7.out.same hFU8)
                clear hD8 hFU8
                go_wp2_with fail
                refine hK.out _ _ (HSS.out _ HF_8.out) (fun _ => ?_)
                clear hK K
                try simp only [List.getElem_toArray, List.getElem_cons_succ, List.getElem_cons_zero, Act.put, List.setIfInBounds_toArray, List.set_cons_zero, List.set_cons_succ]
                refine wpAnyH_take (i := 7) (v := .tuple #[.agg #[.slice DA (j + 4) dc, .slice SA 1 sc, .slice KA 1 kc], .int .i64 0]) rfl (by kernel_rfl) (by kernel_rfl) (by kernel_rfl) (fun _ _ _ h => h) (Or.inl ⟨by rfl, fun _ _ => by go_simp⟩) (HSS.out _ HF_8.out) ?_
                refine wpAnyH_take (i := 8) (v := .agg #[.slice DA (j + 4) dc, .slice SA 1 sc, .slice KA 1 kc]) rfl (by kernel_rfl) (by kernel_rfl) (by kernel_rfl) (fun _ _ _ h => h) (Or.inl ⟨by rfl, fun _ _ => by go_simp⟩) (HSS.out _ HF_8.out) ?_
                refine wpAnyH_take (i := 9) (v := .int .i64 0) rfl (by kernel_rfl) (by kernel_rfl) (by kernel_rfl) (fun _ _ _ h => h) (Or.inl ⟨by rfl, fun _ _ => by go_simp⟩) (HSS.out _ HF_8.out) ?_
                try simp only [List.getElem_toArray, List.getElem_cons_succ, List.getElem_cons_zero, Act.put, List.setIfInBounds_toArray, List.set_cons_zero, List.set_cons_succ]
                refine wpAnyH_ready (rs := [11]) (by kernel_rfl) (by simp) (AllReadyH.cons (o := _) rfl (fun K hK => ?_) AllReadyH.nil)
                have x0 := (HB_7.out.fr HX_8.out (fun h => h)).cell 0
                have x1 := (HB_7.out.fr HX_8.out (fun h => h)).cell 1
                have x2 := (HB_7.out.fr HX_8.out (fun h => h)).cell 2
                have f0 := (HB_7.out.fr HX_8.out (fun h => h)).frozen 0
                have f1 := (HB_7.out.fr HX_8.out (fun h => h)).frozen 1
                have f2 := (HB_7.out.fr HX_8.out (fun h => h)).frozen 2
                have xl := (HB_7.out.fr HX_8.out (fun h => h)).lt
                simp only [List.getElem?_cons_zero, List.getElem?_cons_succ] at x0 x1 x2
                go_simp
                clear x0 x1 x2 f0 f1 f2 xl
                obtain ⟨V9, hV9⟩ : ∃ W, ((V8.setCell ⟨c7, 0, none⟩ (.slice DA (j + 4) dc)).setCell ⟨c7, 1, none⟩ (.slice SA 1 sc)).setCell ⟨c7, 2, none⟩ (.slice KA 1 kc) = W := ⟨_, rfl⟩
                have HZ_9 := Lib.hid (store3 (HB_7.out.fr HX_8.out (fun h => h)) _ _ _ V9 hV9)
                have HF_9 := Lib.hid (show Fr Nob W5 V9 from HF_8.out.trans HZ_9.out.2 (fun i hi e => by have h1 : i = c7 := e; have := HL_7.out; omega))
                rw [hV9]
                clear hV9
                refine hK.out _ _ (HSS.out _ HF_9.out) (fun _ => ?_)
                clear hK K
                try simp only [List.getElem_toArray, List.getElem_cons_succ, List.getElem_cons_zero, Act.put, List.setIfInBounds_toArray, List.set_cons_zero, List.set_cons_succ]
                refine wpAnyH_take (i := 12) (v := .int .i64 0) rfl (by kernel_rfl) (by kernel_rfl) (by kernel_rfl) (fun _ _ _ h => h) (Or.inl ⟨by rfl, fun _ _ => by go_simp⟩) (HSS.out _ HF_9.out) ?_
                refine wpAnyH_done (by kernel_rfl) ?_ _
                go_wp2_with fail
                go_meet
                exact ⟨_, DA, dc, SA, sc, KA, kc, rfl, rfl, HZ_9.out.1, texts_doc HD_8.out (HB_7.out.fr HX_8.out (fun h => h)) HZ_9.out.2, HFw.out.same HF_9.out⟩
            · go_simp
              obtain ⟨c10, hc10⟩ : ∃ b, V2.heap.size = b := ⟨_, rfl⟩
              obtain ⟨V10, hV10⟩ : ∃ W, V2.alloc (.cells #[.slice none 0 0, .slice none 0 0, .slice none 0 0] 46) = W := ⟨_, rfl⟩
              have HX_10 := Lib.hid (show Fr Nob V2 V10 by rw [← hV10]; exact (Fr.refl _ _).alloc _)
              have HB_10 := Lib.hid (show Blk V10 c10 [.slice none 0 0, .slice none 0 0, .slice none 0 0] 46 by rw [← hV10, ← hc10]; exact Blk.new _ _ _)
              have HF_10 := Lib.hid (HF_2.out.same HX_10.out)
              have HL_10 := Lib.hid (show W5.heap.size ≤ c10 by rw [← hc10]; exact HF_2.out.size)
              rw [hV10, hc10]
              clear hV10 hc10
              refine hK.out _ _ (HSS.out _ HF_10.out) (fun _ => ?_)
              clear hK K
              try simp only [List.getElem_toArray, List.getElem_cons_succ, List.getElem_cons_zero, Act.put, List.setIfInBounds_toArray, List.set_cons_zero, List.set_cons_succ]
              refine wpAnyH_ready (rs := [5]) (by kernel_rfl) (by simp) (AllReadyH.cons (o := _) rfl (fun K hK => ?_) AllReadyH.nil)
              go_simp
              obtain ⟨c11, hc11⟩ : ∃ b, V10.heap.size = b := ⟨_, rfl⟩
              obtain ⟨V11, hV11⟩ : ∃ W, V10.alloc (.cells #[.int .i64 0, .int .i64 (1 + (q : Int)), .int .i64 (1 + (q : Int)), .int .i64 0, .int .i64 0, .int .i64 0, .slice (some ⟨by', 0, none⟩) 1 1, .int .i64 0] 24) = W := ⟨_, rfl⟩
              have HX_11 := Lib.hid (show Fr Nob V10 V11 by rw [← hV11]; exact (Fr.refl _ _).alloc _)
              have HB_11 := Lib.hid (show Blk V11 c11 [.int .i64 0, .int .i64 (1 + (q : Int)), .int .i64 (1 + (q : Int)), .int .i64 0, .int .i64 0, .int .i64 0, .slice (some ⟨by', 0, none⟩) 1 1, .int .i64 0] 24 by rw [← hV11, ← hc11]; exact Blk.new _ _ _)
              have HF_11 := Lib.hid (HF_10.out.same HX_11.out)
              rw [hV11, hc11]
              clear hV11 hc11
              refine hK.out _ _ (HSS.out _ HF_11.out) (fun _ => ?_)
              clear hK K
              try simp only [List.getElem_toArray, List.getElem_cons_succ, List.getElem_cons_zero, Act.put, List.setIfInBounds_toArray, List.set_cons_zero, List.set_cons_succ]
              refine wpAnyH_ready (rs := [6]) (by kernel_rfl) (by simp) (AllReadyH.cons (o := _) rfl (fun K hK => ?_) AllReadyH.nil)
              go_simp
              refine (texts_call pp1 rs1 HC_1.out j p q hpk hqk hk40 g2 cap2 dl HDL.out c2 c11 bx by' V11 (((HS_1.out.fr0 HX_2.out).fr0 HX_10.out).fr0 HX_11.out) (HD5.out.fr HF_11.out (fun _ _ h => h.elim)) HDC.out ((HB_2.out.fr HX_10.out (fun h => h)).fr HX_11.out (fun h => h)) HB_11.out (HBX.out.fr HF_11.out (fun h => h)) (HBY.out.fr HF_11.out (fun h => h))).mono ?_
              rintro e V12 ⟨DA, dc, SA, sc, KA, kc, rfl, hD12, hFU12⟩
              have HX_12 := Lib.hid hFU12
              have HD_12 := Lib.hid hD12
              have HF_12 := Lib.hid (HF_11.out.same hFU12)
              clear hD12 hFU12
              go_wp2_with fail
              refine hK.out _ _ (HSS.out _ HF_12.out) (fun _ => ?_)
              clear hK K
              try simp only [List.getElem_toArray, List.getElem_cons_succ, List.getElem_cons_zero, Act.put, List.setIfInBounds_toArray, List.set_cons_zero, List.set_cons_succ]
              refine wpAnyH_take (i := 7) (v := .tuple #[.agg #[.slice DA (j + 4) dc, .slice SA 1 sc, .slice KA 1 kc], .int .i64 0]) rfl (by kernel_rfl) (by kernel_rfl) (by kernel_rfl) (fun _ _ _ h => h) (Or.inl ⟨by rfl, fun _ _ => by go_simp⟩) (HSS.out _ HF_12.out) ?_
              refine wpAnyH_take (i := 8) (v := .agg #[.slice DA (j + 4) dc, .slice SA 1 sc, .slice KA 1 kc]) rfl (by kernel_rfl) (by kernel_rfl) (by kernel_rfl) (fun _ _ _ h => h) (Or.inl ⟨by rfl, fun _ _ => by go_simp⟩) (HSS.out _ HF_12.out) ?_
              refine wpAnyH_take (i := 9) (v := .int .i64 0) rfl (by kernel_rfl) (by kernel_rfl) (by kernel_rfl) (fun _ _ _ h => h) (Or.inl ⟨by rfl, fun _ _ => by go_simp⟩) (HSS.out _ HF_12.out) ?_
              try simp only [List.getElem_toArray, List.getElem_cons_succ, List.getElem_cons_zero, Act.put, List.setIfInBounds_toArray, List.set_cons_zero, List.set_cons_succ]
              refine wpAnyH_ready (rs := [11]) (by kernel_rfl) (by simp) (AllReadyH.cons (o := _) rfl (fun K hK => ?_) AllReadyH.nil)
              have x0 := ((HB_10.out.fr HX_11.out (fun h => h)).fr HX_12.out (fun h => h)).cell 0
              have x1 := ((HB_10.out.fr HX_11.out (fun h => h)).fr HX_12.out (fun h => h)).cell 1
              have x2 := ((HB_10.out.fr HX_11.out (fun h => h)).fr HX_12.out (fun h => h)).cell 2
              have f0 := ((HB_10.out.fr HX_11.out (fun h => h)).fr HX_12.out (fun h => h)).frozen 0
              have f1 := ((HB_10.out.fr HX_11.out (fun h => h)).fr HX_12.out (fun h => h)).frozen 1
              have f2 := ((HB_10.out.fr HX_11.out (fun h => h)).fr HX_12.out (fun h => h)).frozen 2
              have xl := ((HB_10.out.fr HX_11.out (fun h => h)).fr HX_12.out (fun h => h)).lt
              simp only [List.getElem?_cons_zero, List.getElem?_cons_succ] at x0 x1 x2
              go_simp
              clear x0 x1 x2 f0 f1 f2 xl
              obtain ⟨V13, hV13⟩ : ∃ W, ((V12.setCell ⟨c10, 0, none⟩ (.slice DA (j + 4) dc)).setCell ⟨c10, 1, none⟩ (.slice SA 1 sc)).setCell ⟨c10, 2, none⟩ (.slice KA 1 kc) = W := ⟨_, rfl⟩
              have HZ_13 := Lib.hid (store3 ((HB_10.out.fr HX_11.out (fun h => h)).fr HX_12.out (fun h => h)) _ _ _ V13 hV13)
              have HF_13 := Lib.hid (show Fr Nob W5 V13 from HF_12.out.trans HZ_13.out.2 (fun i hi e => by have h1 : i = c10 := e; have := HL_10.out; omega))
              rw [hV13]
              clear hV13
              refine hK.out _ _ (HSS.out _ HF_13.out) (fun _ => ?_)
              clear hK K
              try simp only [List.getElem_toArray, List.getElem_cons_succ, List.getElem_cons_zero, Act.put, List.setIfInBounds_toArray, List.set_cons_zero, List.set_cons_succ]
              refine wpAnyH_take (i := 12) (v := .int .i64 0) rfl (by kernel_rfl) (by kernel_rfl) (by kernel_rfl) (fun _ _ _ h => h) (Or.inl ⟨by rfl, fun _ _ => by go_simp⟩) (HSS.out _ HF_13.out) ?_
              refine wpAnyH_done (by kernel_rfl) ?_ _
              go_wp2_with fail
              go_meet
              exact ⟨_, DA, dc, SA, sc, KA, kc, rfl, rfl, HZ_13.out.1, texts_doc HD_12.out ((HB_10.out.fr HX_11.out (fun h => h)).fr HX_12.out (fun h => h)) HZ_13.out.2, HFw.out.same HF_13.out⟩
          · go_simp
            obtain ⟨c14, hc14⟩ : ∃ b, V1.heap.size = b := ⟨_, rfl⟩
            obtain ⟨V14, hV14⟩ : ∃ W, V1.alloc (.cells #[.int .i64 0, .int .i64 (1 + (q : Int)), .int .i64 (1 + (q : Int)), .int .i64 0, .int .i64 0, .int .i64 0, .slice (some ⟨by', 0, none⟩) 1 1, .int .i64 0] 24) = W := ⟨_, rfl⟩
            have HX_14 := Lib.hid (show Fr Nob V1 V14 by rw [← hV14]; exact (Fr.refl _ _).alloc _)
            have HB_14 := Lib.hid (show Blk V14 c14 [.int .i64 0, .int .i64 (1 + (q : Int)), .int .i64 (1 + (q : Int)), .int .i64 0, .int .i64 0, .int .i64 0, .slice (some ⟨by', 0, none⟩) 1 1, .int .i64 0] 24 by rw [← hV14, ← hc14]; exact Blk.new _ _ _)
            have HF_14 := Lib.hid (HF_1.out.same HX_14.out)
            rw [hV14, hc14]
            clear hV14 hc14
            refine hK.out _ _ (HSS.out _ HF_14.out) (fun _ => ?_)
            clear hK K
            try simp only [List.getElem_toArray, List.getElem_cons_succ, List.getElem_cons_zero, Act.put, List.setIfInBounds_toArray, List.set_cons_zero, List.set_cons_succ]
            refine wpAnyH_ready (rs := [3, 10]) (by kernel_rfl) (by simp) (AllReadyH.cons (o := _) rfl (fun K hK => ?_) (AllReadyH.cons (o := _) rfl (fun K hK => ?_) AllReadyH.nil))
            · go_simp
              obtain ⟨c15, hc15⟩ : ∃ b, V14.heap.size = b := ⟨_, rfl⟩
              obtain ⟨V15, hV15⟩ : ∃ W, V14.alloc (.cells #[.int .i64 0, .int .i64 (1 + (p : Int)), .int .i64 (1 + (p : Int)), .int .i64 0, .int .i64 0, .int .i64 0, .slice (some ⟨bx, 0, none⟩) 1 1, .int .i64 0] 24) = W := ⟨_, rfl⟩
              have HX_15 := Lib.hid (show Fr Nob V14 V15 by rw [← hV15]; exact (Fr.refl _ _).alloc _)
              have HB_15 := Lib.hid (show Blk V15 c15 [.int .i64 0, .int .i64 (1 + (p : Int)), .int .i64 (1 + (p : Int)), .int .i64 0, .int .i64 0, .int .i64 0, .slice (some ⟨bx, 0, none⟩) 1 1, .int .i64 0] 24 by rw [← hV15, ← hc15]; exact Blk.new _ _ _)
              have HF_15 := Lib.hid (HF_14.out.same HX_15.out)
              rw [hV15, hc15]
              clear hV15 hc15
              refine hK.out _ _ (HSS.out _ HF_15.out) (fun _ => ?_)
              clear hK K
              try simp only [List.getElem_toArray, List.getElem_cons_succ, List.getElem_cons_zero, Act.put, List.setIfInBounds_toArray, List.set_cons_zero, List.set_cons_succ]
              refine wpAnyH_ready (rs := [6, 10]) (by kernel_rfl) (by simp) (AllReadyH.cons (o := _) rfl (fun K hK => ?_) (AllReadyH.cons (o := _) rfl (fun K hK => ?_) AllReadyH.nil))
              · go_simp
                refine (texts_call pp1 rs1 HC_1.out j p q hpk hqk hk40 g2 cap2 dl HDL.out c15 c14 bx by' V15 ((HS_1.out.fr0 HX_14.out).fr0 HX_15.out) (HD5.out.fr HF_15.out (fun _ _ h => h.elim)) HDC.out HB_15.out (HB_14.out.fr HX_15.out (fun h => h)) (HBX.out.fr HF_15.out (fun h => h)) (HBY.out.fr HF_15.out (fun h => h))).mono ?_
                rintro e V16 ⟨DA, dc, SA, sc, KA, kc, rfl, hD16, hFU16⟩
                have HX_16 := Lib.hid hFU16
                have HD_16 := Lib.hid hD16
                have HF_16 := Lib.hid (HF_15.out.same hFU16)
                clear hD16 hFU16
                go_wp2_with fail
                refine hK.out _ _ (HSS.out _ HF_16.out) (fun _ => ?_)
                clear hK K
                try simp only [List.getElem_toArray, List.getElem_cons_succ, List.getElem_cons_zero, Act.put, List.setIfInBounds_toArray, List.set_cons_zero, List.set_cons_succ]
                refine wpAnyH_take (i := 7) (v := .tuple #[.agg #[.slice DA (j + 4) dc, .slice SA 1 sc, .slice KA 1 kc], .int .i64 0]) rfl (by kernel_rfl) (by kernel_rfl) (by kernel_rfl) (fun _ _ _ h => h) (Or.inl ⟨by rfl, fun _ _ => by go_simp⟩) (HSS.out _ HF_16.out) ?_
                refine wpAnyH_take (i := 8) (v := .agg #[.slice DA (j + 4) dc, .slice SA 1 sc, .slice KA 1 kc]) rfl (by kernel_rfl) (by kernel_rfl) (by kernel_rfl) (fun _ _ _ h => h) (Or.inl ⟨by rfl, fun _ _ => by go_simp⟩) (HSS.out _ HF_16.out) ?_
                refine wpAnyH_take (i := 9) (v := .int .i64 0) rfl (by kernel_rfl) (by kernel_rfl) (by kernel_rfl) (fun _ _ _ h => h) (Or.inl ⟨by rfl, fun _ _ => by go_simp⟩) (HSS.out _ HF_16.out) ?_
                try simp only [List.getElem_toArray, List.getElem_cons_succ, List.getElem_cons_zero, Act.put, List.setIfInBounds_toArray, List.set_cons_zero, List.set_cons_succ]
                refine wpAnyH_ready (rs := [10]) (by kernel_rfl) (by simp) (AllReadyH.cons (o := _) rfl (fun K hK => ?_) AllReadyH.nil)
                go_simp
                obtain ⟨c17, hc17⟩ : ∃ b, V16.heap.size = b := ⟨_, rfl⟩
                obtain ⟨V17, hV17⟩ : ∃ W, V16.alloc (.cells #[.slice none 0 0, .slice none 0 0, .slice none 0 0] 46) = W := ⟨_, rfl⟩
                have HX_17 := Lib.hid (show Fr Nob V16 V17 by rw [← hV17]; exact (Fr.refl _ _).alloc _)
                have HB_17 := Lib.hid (show Blk V17 c17 [.slice none 0 0, .slice none 0 0, .slice none 0 0] 46 by rw [← hV17, ← hc17]; exact Blk.new _ _ _)
                have HF_17 := Lib.hid (HF_16.out.same HX_17.out)
                have HL_17 := Lib.hid (show W5.heap.size ≤ c17 by rw [← hc17]; exact HF_16.out.size)
                rw [hV17, hc17]
                clear hV17 hc17
                refine hK.out _ _ (HSS.out _ HF_17.out) (fun _ => ?_)
                clear hK K
                try simp only [List.getElem_toArray, List.getElem_cons_succ, List.getElem_cons_zero, Act.put, List.setIfInBounds_toArray, List.set_cons_zero, List.set_cons_succ]
                refine wpAnyH_ready (rs := [11]) (by kernel_rfl) (by simp) (AllReadyH.cons (o := _) rfl (fun K hK => ?_) AllReadyH.nil)
                have x0 := HB_17.out.cell 0
                have x1 := HB_17.out.cell 1
                have x2 := HB_17.out.cell 2
                have f0 := HB_17.out.frozen 0
                have f1 := HB_17.out.frozen 1
                have f2 := HB_17.out.frozen 2
                have xl := HB_17.out.lt
                simp only [List.getElem?_cons_zero, List.getElem?_cons_succ] at x0 x1 x2
                go_simp
                clear x0 x1 x2 f0 f1 f2 xl
                obtain ⟨V18, hV18⟩ : ∃ W, ((V17.setCell ⟨c17, 0, none⟩ (.slice DA (j + 4) dc)).setCell ⟨c17, 1, none⟩ (.slice SA 1 sc)).setCell ⟨c17, 2, none⟩ (.slice KA 1 kc) = W := ⟨_, rfl⟩
                have HZ_18 := Lib.hid (store3 HB_17.out _ _ _ V18 hV18)
                have HF_18 := Lib.hid (show Fr Nob W5 V18 from HF_17.out.trans HZ_18.out.2 (fun i hi e => by have h1 : i = c17 := e; have := HL_17.out; omega))
                rw [hV18]
                clear hV18
                refine hK.out _ _ (HSS.out _ HF_18.out) (fun _ => ?_)
                clear hK K
                try simp only [List.getElem_toArray, List.getElem_cons_succ, List.getElem_cons_zero, Act.put, List.setIfInBounds_toArray, List.set_cons_zero, List.set_cons_succ]
                refine wpAnyH_take (i := 12) (v := .int .i64 0) rfl (by kernel_rfl) (by kernel_rfl) (by kernel_rfl) (fun _ _ _ h => h) (Or.inl ⟨by rfl, fun _ _ => by go_simp⟩) (HSS.out _ HF_18.out) ?_
                refine wpAnyH_done (by kernel_rfl) ?_ _
                go_wp2_with fail
                go_meet
                exact ⟨_, DA, dc, SA, sc, KA, kc, rfl, rfl, HZ_18.out.1, texts_doc (HD_16.out.fr HX_17.out (fun _ _ h => h.elim)) HB_17.out HZ_18.out.2, HFw.out.same HF_18.out⟩
              · go_simp
                obtain ⟨c19, hc19⟩ : ∃ b, V15.heap.size = b := ⟨_, rfl⟩
                obtain ⟨V19, hV19⟩ : ∃ W, V15.alloc (.cells #[.slice none 0 0, .slice none 0 0, .slice none 0 0] 46) = W := ⟨_, rfl⟩
                have HX_19 := Lib.hid (show Fr Nob V15 V19 by rw [← hV19]; exact (Fr.refl _ _).alloc _)
                have HB_19 := Lib.hid (show Blk V19 c19 [.slice none 0 0, .slice none 0 0, .slice none 0 0] 46 by rw [← hV19, ← hc19]; exact Blk.new _ _ _)
                have HF_19 := Lib.hid (HF_15.out.same HX_19.out)
                have HL_19 := Lib.hid (show W5.heap.size ≤ c19 by rw [← hc19]; exact HF_15.out.size)
                rw [hV19, hc19]
                clear hV19 hc19
                refine hK.out _ _ (HSS.out _ HF_19.out) (fun _ => ?_)
                clear hK K
                try simp only [List.getElem_toArray, List.getElem_cons_succ, List.getElem_cons_zero, Act.put, List.setIfInBounds_toArray, List.set_cons_zero, List.set_cons_succ]
                refine wpAnyH_ready (rs := [6]) (by kernel_rfl) (by simp) (AllReadyH.cons (o := _) rfl (fun K hK => ?_) AllReadyH.nil)
                go_simp
                refine (texts_call pp1 rs1 HC_1.out j p q hpk hqk hk40 g2 cap2 dl HDL.out c15 c14 bx by' V19 (((HS_1.out.fr0 HX_14.out).fr0 HX_15.out).fr0 HX_19.out) (HD5.out.fr HF_19.out (fun _ _ h => h.elim)) HDC.out (HB_15.out.fr HX_19.out (fun h => h)) ((HB_14.out.fr HX_15.out (fun h => h)).fr HX_19.out (fun h => h)) (HBX.out.fr HF_19.out (fun h => h)) (HBY.out.fr HF_19.out (fun h => h))).mono ?_
                rintro e V20 ⟨DA, dc, SA, sc, KA, kc, rfl, hD20, hFU20⟩
                have HX_20 := Lib.hid hFU20
                have HD_20 := Lib.hid hD20
                have HF_20 := Lib.hid (HF_19.out.same hFU20)
                clear hD20 hFU20
                go_wp2_with fail
                refine hK.out _ _ (HSS.out _ HF_20.out) (fun _ => ?_)
                clear hK K
                try simp only [List.getElem_toArray, List.getElem_cons_succ, List.getElem_cons_zero, Act.put, List.setIfInBounds_toArray, List.set_cons_zero, List.set_cons_succ]
                refine wpAnyH_take (i := 7) (v := .tuple #[.agg #[.slice DA (j + 4) dc, .slice SA 1 sc, .slice KA 1 kc], .int .i64 0]) rfl (by kernel_rfl) (by kernel_rfl) (by kernel_rfl) (fun _ _ _ h => h) (Or.inl ⟨by rfl, fun _ _ => by go_simp⟩) (HSS.out _ HF_20.out) ?_
                refine wpAnyH_take (i := 8) (v := .agg #[.slice DA (j + 4) dc, .slice SA 1 sc, .slice KA 1 kc]) rfl (by kernel_rfl) (by kernel_rfl) (by kernel_rfl) (fun _ _ _ h => h) (Or.inl ⟨by rfl, fun _ _ => by go_simp⟩) (HSS.out _ HF_20.out) ?_
                refine wpAnyH_take (i := 9) (v := .int .i64 0) rfl (by kernel_rfl) (by kernel_rfl) (by kernel_rfl) (fun _ _ _ h => h) (Or.inl ⟨by rfl, fun _ _ => by go_simp⟩) (HSS.out _ HF_20.out) ?_
                try simp only [List.getElem_toArray, List.getElem_cons_succ, List.getElem_cons_zero, Act.put, List.setIfInBounds_toArray, List.set_cons_zero, List.set_cons_succ]
                refine wpAnyH_ready (rs := [11]) (by kernel_rfl) (by simp) (AllReadyH.cons (o := _) rfl (fun K hK => ?_) AllReadyH.nil)
                have x0 := (HB_19.out.fr HX_20.out (fun h => h)).cell 0
                have x1 := (HB_19.out.fr HX_20.out (fun h => h)).cell 1
                have x2 := (HB_19.out.fr HX_20.out (fun h => h)).cell 2
                have f0 := (HB_19.out.fr HX_20.out (fun h => h)).frozen 0
                have f1 := (HB_19.out.fr HX_20.out (fun h => h)).frozen 1
                have f2 := (HB_19.out.fr HX_20.out (fun h => h)).frozen 2
                have xl := (HB_19.out.fr HX_20.out (fun h => h)).lt
                simp only [List.getElem?_cons_zero, List.getElem?_cons_succ] at x0 x1 x2
                go_simp
                clear x0 x1 x2 f0 f1 f2 xl
                obtain ⟨V21, hV21⟩ : ∃ W, ((V20.setCell ⟨c19, 0, none⟩ (.slice DA (j + 4) dc)).setCell ⟨c19, 1, none⟩ (.slice SA 1 sc)).setCell ⟨c19, 2, none⟩ (.slice KA 1 kc) = W := ⟨_, rfl⟩
                have HZ_21 := Lib.hid (store3 (HB_19.out.fr HX_20.out (fun h => h)) _ _ _ V21 hV21)
                have HF_21 := Lib.hid (show Fr Nob W5 V21 from HF_20.out.trans HZ_21.out.2 (fun i hi e => by have h1 : i = c19 := e; have := HL_19.out; omega))
                rw [hV21]
                clear hV21
                refine hK.out _ _ (HSS.out _ HF_21.out) (fun _ => ?_)
                clear hK K
                try simp only [List.getElem_toArray, List.getElem_cons_succ, List.getElem_cons_zero, Act.put, List.setIfInBounds_toArray, List.set_cons_zero, List.set_cons_succ]
                refine wpAnyH_take (i := 12) (v := .int .i64 0) rfl (by kernel_rfl) (by kernel_rfl) (by kernel_rfl) (fun _ _ _ h => h) (Or.inl ⟨by rfl, fun _ _ => by go_simp⟩) (HSS.out _ HF_21.out) ?_
                refine wpAnyH_done (by kernel_rfl) ?_ _
                go_wp2_with fail
                go_meet
                exact ⟨_, DA, dc, SA, sc, KA, kc, rfl, rfl, HZ_21.out.1, texts_doc HD_20.out (HB_19.out.fr HX_20.out (fun h => h)) HZ_21.out.2, HFw.out.same HF_21.out⟩
            · go_simp
              obtain ⟨c22, hc22⟩ : ∃ b, V14.heap.size = b := ⟨_, rfl⟩
              obtain ⟨V22, hV22⟩ : ∃ W, V14.alloc (.cells #[.slice none 0 0, .slice none 0 0, .slice none 0 0] 46) = W := ⟨_, rfl⟩
              have HX_22 := Lib.hid (show Fr Nob V14 V22 by rw [← hV22]; exact (Fr.refl _ _).alloc _)
              have HB_22 := Lib.hid (show Blk V22 c22 [.slice none 0 0, .slice none 0 0, .slice none 0 0] 46 by rw [← hV22, ← hc22]; exact Blk.new _ _ _)
              have HF_22 := Lib.hid (HF_14.out.same HX_22.out)
              have HL_22 := Lib.hid (show W5.heap.size ≤ c22 by rw [← hc22]; exact HF_14.out.size)
              rw [hV22, hc22]
              clear hV22 hc22
              refine hK.out _ _ (HSS.out _ HF_22.out) (fun _ => ?_)
              clear hK K
              try simp only [List.getElem_toArray, List.getElem_cons_succ, List.getElem_cons_zero, Act.put, List.setIfInBounds_toArray, List.set_cons_zero, List.set_cons_succ]
              refine wpAnyH_ready (rs := [3]) (by kernel_rfl) (by simp) (AllReadyH.cons (o := _) rfl (fun K hK => ?_) AllReadyH.nil)
              go_simp
              obtain ⟨c23, hc23⟩ : ∃ b, V22.heap.size = b := ⟨_, rfl⟩
              obtain ⟨V23, hV23⟩ : ∃ W, V22.alloc (.cells #[.int .i64 0, .int .i64 (1 + (p : Int)), .int .i64 (1 + (p : Int)), .int .i64 0, .int .i64 0, .int .i64 0, .slice (some ⟨bx, 0, none⟩) 1 1, .int .i64 0] 24) = W := ⟨_, rfl⟩
              have HX_23 := Lib.hid (show Fr Nob V22 V23 by rw [← hV23]; exact (Fr.refl _ _).alloc _)
              have HB_23 := Lib.hid (show Blk V23 c23 [.int .i64 0, .int .i64 (1 + (p : Int)), .int .i64 (1 + (p : Int)), .int .i64 0, .int .i64 0, .int .i64 0, .slice (some ⟨bx, 0, none⟩) 1 1, .int .i64 0] 24 by rw [← hV23, ← hc23]; exact Blk.new _ _ _)
              have HF_23 := Lib.hid (HF_22.out.same HX_23.out)
              rw [hV23, hc23]
              clear hV23 hc23
              refine hK.out _ _ (HSS.out _ HF_23.out) (fun _ => ?_)
              clear hK K
              try simp only [List.getElem_toArray, List.getElem_cons_succ, List.getElem_cons_zero, Act.put, List.setIfInBounds_toArray, List.set_cons_zero, List.set_cons_succ]
              refine wpAnyH_ready (rs := [6]) (by kernel_rfl) (by simp) (AllReadyH.cons (o := _) rfl (fun K hK => ?_) AllReadyH.nil)
              go_simp
              refine (texts_call pp1 rs1 HC_1.out j p q hpk hqk hk40 g2 cap2 dl HDL.out c23 c14 bx by' V23 (((HS_1.out.fr0 HX_14.out).fr0 HX_22.out).fr0 HX_23.out) (HD5.out.fr HF_23.out (fun _ _ h => h.elim)) HDC.out HB_23.out ((HB_14.out.fr HX_22.out (fun h => h)).fr HX_23.out (fun h => h)) (HBX.out.fr HF_23.out (fun h => h)) (HBY.out.fr HF_23.out (fun h => h))).mono ?_
              rintro e V24 ⟨DA, dc, SA, sc, KA, kc, rfl, hD24, hFU24⟩
              have HX_24 := Lib.hid hFU24
              have HD_24 := Lib.hid hD24
              have HF_24 := Lib.hid (HF_23.out.same hFU24)
              clear hD24 hFU24
              go_wp2_with fail
              refine hK.out _ _ (HSS.out _ HF_24.out) (fun _ => ?_)
              clear hK K
              try simp only [List.getElem_toArray, List.getElem_cons_succ, List.getElem_cons_zero, Act.put, List.setIfInBounds_toArray, List.set_cons_zero, List.set_cons_succ]
              refine wpAnyH_take (i := 7) (v := .tuple #[.agg #[.slice DA (j + 4) dc, .slice SA 1 sc, .slice KA 1 kc], .int .i64 0]) rfl (by kernel_rfl) (by kernel_rfl) (by kernel_rfl) (fun _ _ _ h => h) (Or.inl ⟨by rfl, fun _ _ => by go_simp⟩) (HSS.out _ HF_24.out) ?_
              refine wpAnyH_take (i := 8) (v := .agg #[.slice DA (j + 4) dc, .slice SA 1 sc, .slice KA 1 kc]) rfl (by kernel_rfl) (by kernel_rfl) (by kernel_rfl) (fun _ _ _ h => h) (Or.inl ⟨by rfl, fun _ _ => by go_simp⟩) (HSS.out _ HF_24.out) ?_
              refine wpAnyH_take (i := 9) (v := .int .i64 0) rfl (by kernel_rfl) (by kernel_rfl) (by kernel_rfl) (fun _ _ _ h => h) (Or.inl ⟨by rfl, fun _ _ => by go_simp⟩) (HSS.out _ HF_24.out) ?_
              try simp only [List.getElem_toArray, List.getElem_cons_succ, List.getElem_cons_zero, Act.put, List.setIfInBounds_toArray, List.set_cons_zero, List.set_cons_succ]
              refine wpAnyH_ready (rs := [11]) (by kernel_rfl) (by simp) (AllReadyH.cons (o := _) rfl (fun K hK => ?_) AllReadyH.nil)
              have x0 := ((HB_22.out.fr HX_23.out (fun h => h)).fr HX_24.out (fun h => h)).cell 0
              have x1 := ((HB_22.out.fr HX_23.out (fun h => h)).fr HX_24.out (fun h => h)).cell 1
              have x2 := ((HB_22.out.fr HX_23.out (fun h => h)).fr HX_24.out (fun h => h)).cell 2
              have f0 := ((HB_22.out.fr HX_23.out (fun h => h)).fr HX_24.out (fun h => h)).frozen 0
              have f1 := ((HB_22.out.fr HX_23.out (fun h => h)).fr HX_24.out (fun h => h)).frozen 1
              have f2 := ((HB_22.out.fr HX_23.out (fun h => h)).fr HX_24.out (fun h => h)).frozen 2
              have xl := ((HB_22.out.fr HX_23.out (fun h => h)).fr HX_24.out (fun h => h)).lt
              simp only [List.getElem?_cons_zero, List.getElem?_cons_succ] at x0 x1 x2
              go_simp
              clear x0 x1 x2 f0 f1 f2 xl
              obtain ⟨V25, hV25⟩ : ∃ W, ((V24.setCell ⟨c22, 0, none⟩ (.slice DA (j + 4) dc)).setCell ⟨c22, 1, none⟩ (.slice SA 1 sc)).setCell ⟨c22, 2, none⟩ (.slice KA 1 kc) = W := ⟨_, rfl⟩
              have HZ_25 := Lib.hid (store3 ((HB_22.out.fr HX_23.out (fun h => h)).fr HX_24.out (fun h => h)) _ _ _ V25 hV25)
              have HF_25 := Lib.hid (show Fr Nob W5 V25 from HF_24.out.trans HZ_25.out.2 (fun i hi e => by have h1 : i = c22 := e; have := HL_22.out; omega))
              rw [hV25]
              clear hV25
              refine hK.out _ _ (HSS.out _ HF_25.out) (fun _ => ?_)
              clear hK K
              try simp only [List.getElem_toArray, List.getElem_cons_succ, List.getElem_cons_zero, Act.put, List.setIfInBounds_toArray, List.set_cons_zero, List.set_cons_succ]
              refine wpAnyH_take (i := 12) (v := .int .i64 0) rfl (by kernel_rfl) (by kernel_rfl) (by kernel_rfl) (fun _ _ _ h => h) (Or.inl ⟨by rfl, fun _ _ => by go_simp⟩) (HSS.out _ HF_25.out) ?_
              refine wpAnyH_done (by kernel_rfl) ?_ _
              go_wp2_with fail
              go_meet
              exact ⟨_, DA, dc, SA, sc, KA, kc, rfl, rfl, HZ_25.out.1, texts_doc HD_24.out ((HB_22.out.fr HX_23.out (fun h => h)).fr HX_24.out (fun h => h)) HZ_25.out.2, HFw.out.same HF_25.out⟩
          · go_simp
            obtain ⟨c26, hc26⟩ : ∃ b, V1.heap.size = b := ⟨_, rfl⟩
            obtain ⟨V26, hV26⟩ : ∃ W, V1.alloc (.cells #[.slice none 0 0, .slice none 0 0, .slice none 0 0] 46) = W := ⟨_, rfl⟩
            have HX_26 := Lib.hid (show Fr Nob V1 V26 by rw [← hV26]; exact (Fr.refl _ _).alloc _)
            have HB_26 := Lib.hid (show Blk V26 c26 [.slice none 0 0, .slice none 0 0, .slice none 0 0] 46 by rw [← hV26, ← hc26]; exact Blk.new _ _ _)
            have HF_26 := Lib.hid (HF_1.out.same HX_26.out)
            have HL_26 := Lib.hid (show W5.heap.size ≤ c26 by rw [← hc26]; exact HF_1.out.size)
            rw [hV26, hc26]
            clear hV26 hc26
            refine hK.out _ _ (HSS.out _ HF_26.out) (fun _ => ?_)
            clear hK K
            try simp only [List.getElem_toArray, List.getElem_cons_succ, List.getElem_cons_zero, Act.put, List.setIfInBounds_toArray, List.set_cons_zero, List.set_cons_succ]
            refine wpAnyH_ready (rs := [3, 5]) (by kernel_rfl) (by simp) (AllReadyH.cons (o := _) rfl (fun K hK => ?_) (AllReadyH.cons (o := _) rfl (fun K hK => ?_) AllReadyH.nil))
            · go_simp
              obtain ⟨c27, hc27⟩ : ∃ b, V26.heap.size = b := ⟨_, rfl⟩
              obtain ⟨V27, hV27⟩ : ∃ W, V26.alloc (.cells #[.int .i64 0, .int .i64 (1 + (p : Int)), .int .i64 (1 + (p : Int)), .int .i64 0, .int .i64 0, .int .i64 0, .slice (some ⟨bx, 0, none⟩) 1 1, .int .i64 0] 24) = W := ⟨_, rfl⟩
              have HX_27 := Lib.hid (show Fr Nob V26 V27 by rw [← hV27]; exact (Fr.refl _ _).alloc _)
              have HB_27 := Lib.hid (show Blk V27 c27 [.int .i64 0, .int .i64 (1 + (p : Int)), .int .i64 (1 + (p : Int)), .int .i64 0, .int .i64 0, .int .i64 0, .slice (some ⟨bx, 0, none⟩) 1 1, .int .i64 0] 24 by rw [← hV27, ← hc27]; exact Blk.new _ _ _)
              have HF_27 := Lib.hid (HF_26.out.same HX_27.out)
              rw [hV27, hc27]
              clear hV27 hc27
              refine hK.out _ _ (HSS.out _ HF_27.out) (fun _ => ?_)
              clear hK K
              try simp only [List.getElem_toArray, List.getElem_cons_succ, List.getElem_cons_zero, Act.put, List.setIfInBounds_toArray, List.set_cons_zero, List.set_cons_succ]
              refine wpAnyH_ready (rs := [5]) (by kernel_rfl) (by simp) (AllReadyH.cons (o := _) rfl (fun K hK => ?_) AllReadyH.nil)
              go_simp
              obtain ⟨c28, hc28⟩ : ∃ b, V27.heap.size = b := ⟨_, rfl⟩
              obtain ⟨V28, hV28⟩ : ∃ W, V27.alloc (.cells #[.int .i64 0, .int .i64 (1 + (q : Int)), .int .i64 (1 + (q : Int)), .int .i64 0, .int .i64 0, .int .i64 0, .slice (some ⟨by', 0, none⟩) 1 1, .int .i64 0] 24) = W := ⟨_, rfl⟩
              have HX_28 := Lib.hid (show Fr Nob V27 V28 by rw [← hV28]; exact (Fr.refl _ _).alloc _)
              have HB_28 := Lib.hid (show Blk V28 c28 [.int .i64 0, .int .i64 (1 + (q : Int)), .int .i64 (1 + (q : Int)), .int .i64 0, .int .i64 0, .int .i64 0, .slice (some ⟨by', 0, none⟩) 1 1, .int .i64 0] 24 by rw [← hV28, ← hc28]; exact Blk.new _ _ _)
              have HF_28 := Lib.hid (HF_27.out.same HX_28.out)
              rw [hV28, hc28]
              clear hV28 hc28
              refine hK.out _ _ (HSS.out _ HF_28.out) (fun _ => ?_)
              clear hK K
              try simp only [List.getElem_toArray, List.getElem_cons_succ, List.getElem_cons_zero, Act.put, List.setIfInBounds_toArray, List.set_cons_zero, List.set_cons_succ]
              refine wpAnyH_ready (rs := [6]) (by kernel_rfl) (by simp) (AllReadyH.cons (o := _) rfl (fun K hK => ?_) AllReadyH.nil)
              go_simp
              refine (texts_call pp1 rs1 HC_1.out j p q hpk hqk hk40 g2 cap2 dl HDL.out c27 c28 bx by' V28 (((HS_1.out.fr0 HX_26.out).fr0 HX_27.out).fr0 HX_28.out) (HD5.out.fr HF_28.out (fun _ _ h => h.elim)) HDC.out (HB_27.out.fr HX_28.out (fun h => h)) HB_28.out (HBX.out.fr HF_28.out (fun h => h)) (HBY.out.fr HF_28.out (fun h => h))).mono ?_
              rintro e V29 ⟨DA, dc, SA, sc, KA, kc, rfl, hD29, hFU29⟩
              have HX_29 := Lib.hid hFU29
              have HD_29 := Lib.hid hD29
              have HF_29 := Lib.hid (HF_28.out.same hFU29)
              clear hD29 hFU29
              go_wp2_with fail
              refine hK.out _ _ (HSS.out _ HF_29.out) (fun _ => ?_)
              clear hK K
              try simp only [List.getElem_toArray, List.getElem_cons_succ, List.getElem_cons_zero, Act.put, List.setIfInBounds_toArray, List.set_cons_zero, List.set_cons_succ]
              refine wpAnyH_take (i := 7) (v := .tuple #[.agg #[.slice DA (j + 4) dc, .slice SA 1 sc, .slice KA 1 kc], .int .i64 0]) rfl (by kernel_rfl) (by kernel_rfl) (by kernel_rfl) (fun _ _ _ h => h) (Or.inl ⟨by rfl, fun _ _ => by go_simp⟩) (HSS.out _ HF_29.out) ?_
              refine wpAnyH_take (i := 8) (v := .agg #[.slice DA (j + 4) dc, .slice SA 1 sc, .slice KA 1 kc]) rfl (by kernel_rfl) (by kernel_rfl) (by kernel_rfl) (fun _ _ _ h => h) (Or.inl ⟨by rfl, fun _ _ => by go_simp⟩) (HSS.out _ HF_29.out) ?_
              refine wpAnyH_take (i := 9) (v := .int .i64 0) rfl (by kernel_rfl) (by kernel_rfl) (by kernel_rfl) (fun _ _ _ h => h) (Or.inl ⟨by rfl, fun _ _ => by go_simp⟩) (HSS.out _ HF_29.out) ?_
              try simp only [List.getElem_toArray, List.getElem_cons_succ, List.getElem_cons_zero, Act.put, List.setIfInBounds_toArray, List.set_cons_zero, List.set_cons_succ]
              refine wpAnyH_ready (rs := [11]) (by kernel_rfl) (by simp) (AllReadyH.cons (o := _) rfl (fun K hK => ?_) AllReadyH.nil)
              have x0 := (((HB_26.out.fr HX_27.out (fun h => h)).fr HX_28.out (fun h => h)).fr HX_29.out (fun h => h)).cell 0
              have x1 := (((HB_26.out.fr HX_27.out (fun h => h)).fr HX_28.out (fun h => h)).fr HX_29.out (fun h => h)).cell 1
              have x2 := (((HB_26.out.fr HX_27.out (fun h => h)).fr HX_28.out (fun h => h)).fr HX_29.out (fun h => h)).cell 2
              have f0 := (((HB_26.out.fr HX_27.out (fun h => h)).fr HX_28.out (fun h => h)).fr HX_29.out (fun h => h)).frozen 0
              have f1 := (((HB_26.out.fr HX_27.out (fun h => h)).fr HX_28.out (fun h => h)).fr HX_29.out (fun h => h)).frozen 1
              have f2 := (((HB_26.out.fr HX_27.out (fun h => h)).fr HX_28.out (fun h => h)).fr HX_29.out (fun h => h)).frozen 2
              have xl := (((HB_26.out.fr HX_27.out (fun h => h)).fr HX_28.out (fun h => h)).fr HX_29.out (fun h => h)).lt
              simp only [List.getElem?_cons_zero, List.getElem?_cons_succ] at x0 x1 x2
              go_simp
              clear x0 x1 x2 f0 f1 f2 xl
              obtain ⟨V30, hV30⟩ : ∃ W, ((V29.setCell ⟨c26, 0, none⟩ (.slice DA (j + 4) dc)).setCell ⟨c26, 1, none⟩ (.slice SA 1 sc)).setCell ⟨c26, 2, none⟩ (.slice KA 1 kc) = W := ⟨_, rfl⟩
              have HZ_30 := Lib.hid (store3 (((HB_26.out.fr HX_27.out (fun h => h)).fr HX_28.out (fun h => h)).fr HX_29.out (fun h => h)) _ _ _ V30 hV30)
              have HF_30 := Lib.hid (show Fr Nob W5 V30 from HF_29.out.trans HZ_30.out.2 (fun i hi e => by have h1 : i = c26 := e; have := HL_26.out; omega))
              rw [hV30]
              clear hV30
              refine hK.out _ _ (HSS.out _ HF_30.out) (fun _ => ?_)
              clear hK K
              try simp only [List.getElem_toArray, List.getElem_cons_succ, List.getElem_cons_zero, Act.put, List.setIfInBounds_toArray, List.set_cons_zero, List.set_cons_succ]
              refine wpAnyH_take (i := 12) (v := .int .i64 0) rfl (by kernel_rfl) (by kernel_rfl) (by kernel_rfl) (fun _ _ _ h => h) (Or.inl ⟨by rfl, fun _ _ => by go_simp⟩) (HSS.out _ HF_30.out) ?_
              refine wpAnyH_done (by kernel_rfl) ?_ _
              go_wp2_with fail
              go_meet
              exact ⟨_, DA, dc, SA, sc, KA, kc, rfl, rfl, HZ_30.out.1, texts_doc HD_29.out (((HB_26.out.fr HX_27.out (fun h => h)).fr HX_28.out (fun h => h)).fr HX_29.out (fun h => h)) HZ_30.out.2, HFw.out.same HF_30.out⟩
            · go_simp
              obtain ⟨c31, hc31⟩ : ∃ b, V26.heap.size = b := ⟨_, rfl⟩
              obtain ⟨V31, hV31⟩ : ∃ W, V26.alloc (.cells #[.int .i64 0, .int .i64 (1 + (q : Int)), .int .i64 (1 + (q : Int)), .int .i64 0, .int .i64 0, .int .i64 0, .slice (some ⟨by', 0, none⟩) 1 1, .int .i64 0] 24) = W := ⟨_, rfl⟩
              have HX_31 := Lib.hid (show Fr Nob V26 V31 by rw [← hV31]; exact (Fr.refl _ _).alloc _)
              have HB_31 := Lib.hid (show Blk V31 c31 [.int .i64 0, .int .i64 (1 + (q : Int)), .int .i64 (1 + (q : Int)), .int .i64 0, .int .i64 0, .int .i64 0, .slice (some ⟨by', 0, none⟩) 1 1, .int .i64 0] 24 by rw [← hV31, ← hc31]; exact Blk.new _ _ _)
              have HF_31 := Lib.hid (HF_26.out.same HX_31.out)
              rw [hV31, hc31]
              clear hV31 hc31
              refine hK.out _ _ (HSS.out _ HF_31.out) (fun _ => ?_)
              clear hK K
              try simp only [List.getElem_toArray, List.getElem_cons_succ, List.getElem_cons_zero, Act.put, List.setIfInBounds_toArray, List.set_cons_zero, List.set_cons_succ]
              refine wpAnyH_ready (rs := [3]) (by kernel_rfl) (by simp) (AllReadyH.cons (o := _) rfl (fun K hK => ?_) AllReadyH.nil)
              go_simp
              obtain ⟨c32, hc32⟩ : ∃ b, V31.heap.size = b := ⟨_, rfl⟩
              obtain ⟨V32, hV32⟩ : ∃ W, V31.alloc (.cells #[.int .i64 0, .int .i64 (1 + (p : Int)), .int .i64 (1 + (p : Int)), .int .i64 0, .int .i64 0, .int .i64 0, .slice (some ⟨bx, 0, none⟩) 1 1, .int .i64 0] 24) = W := ⟨_, rfl⟩
              have HX_32 := Lib.hid (show Fr Nob V31 V32 by rw [← hV32]; exact (Fr.refl _ _).alloc _)
              have HB_32 := Lib.hid (show Blk V32 c32 [.int .i64 0, .int .i64 (1 + (p : Int)), .int .i64 (1 + (p : Int)), .int .i64 0, .int .i64 0, .int .i64 0, .slice (some ⟨bx, 0, none⟩) 1 1, .int .i64 0] 24 by rw [← hV32, ← hc32]; exact Blk.new _ _ _)
              have HF_32 := Lib.hid (HF_31.out.same HX_32.out)
              rw [hV32, hc32]
              clear hV32 hc32
              refine hK.out _ _ (HSS.out _ HF_32.out) (fun _ => ?_)
              clear hK K
              try simp only [List.getElem_toArray, List.getElem_cons_succ, List.getElem_cons_zero, Act.put, List.setIfInBounds_toArray, List.set_cons_zero, List.set_cons_succ]
              refine wpAnyH_ready (rs := [6]) (by kernel_rfl) (by simp) (AllReadyH.cons (o := _) rfl (fun K hK => ?_) AllReadyH.nil)
              go_simp
              refine (texts_call pp1 rs1 HC_1.out j p q hpk hqk hk40 g2 cap2 dl HDL.out c32 c31 bx by' V32 (((HS_1.out.fr0 HX_26.out).fr0 HX_31.out).fr0 HX_32.out) (HD5.out.fr HF_32.out (fun _ _ h => h.elim)) HDC.out HB_32.out (HB_31.out.fr HX_32.out (fun h => h)) (HBX.out.fr HF_32.out (fun h => h)) (HBY.out.fr HF_32.out (fun h => h))).mono ?_
              rintro e V33 ⟨DA, dc, SA, sc, KA, kc, rfl, hD33, hFU33⟩
              have HX_33 := Lib.hid hFU33
              have HD_33 := Lib.hid hD33
              have HF_33 := Lib.hid (HF_32.out.same hFU33)
              clear hD33 hFU33
              go_wp2_with fail
              refine hK.out _ _ (HSS.out _ HF_33.out) (fun _ => ?_)
              clear hK K
              try simp only [List.getElem_toArray, List.getElem_cons_succ, List.getElem_cons_zero, Act.put, List.setIfInBounds_toArray, List.set_cons_zero, List.set_cons_succ]
              refine wpAnyH_take (i := 7) (v := .tuple #[.agg #[.slice DA (j + 4) dc, .slice SA 1 sc, .slice KA 1 kc], .int .i64 0]) rfl (by kernel_rfl) (by kernel_rfl) (by kernel_rfl) (fun _ _ _ h => h) (Or.inl ⟨by rfl, fun _ _ => by go_simp⟩) (HSS.out _ HF_33.out) ?_
              refine wpAnyH_take (i := 8) (v := .agg #[.slice DA (j + 4) dc, .slice SA 1 sc, .slice KA 1 kc]) rfl (by kernel_rfl) (by kernel_rfl) (by kernel_rfl) (fun _ _ _ h => h) (Or.inl ⟨by rfl, fun _ _ => by go_simp⟩) (HSS.out _ HF_33.out) ?_
              refine wpAnyH_take (i := 9) (v := .int .i64 0) rfl (by kernel_rfl) (by kernel_rfl) (by kernel_rfl) (fun _ _ _ h => h) (Or.inl ⟨by rfl, fun _ _ => by go_simp⟩) (HSS.out _ HF_33.out) ?_
              try simp only [List.getElem_toArray, List.getElem_cons_succ, List.getElem_cons_zero, Act.put, List.setIfInBounds_toArray, List.set_cons_zero, List.set_cons_succ]
              refine wpAnyH_ready (rs := [11]) (by kernel_rfl) (by simp) (AllReadyH.cons (o := _) rfl (fun K hK => ?_) AllReadyH.nil)
              have x0 := (((HB_26.out.fr HX_31.out (fun h => h)).fr HX_32.out (fun h => h)).fr HX_33.out (fun h => h)).cell 0
              have x1 := (((HB_26.out.fr HX_31.out (fun h => h)).fr HX_32.out (fun h => h)).fr HX_33.out (fun h => h)).cell 1
              have x2 := (((HB_26.out.fr HX_31.out (fun h => h)).fr HX_32.out (fun h => h)).fr HX_33.out (fun h => h)).cell 2
              have f0 := (((HB_26.out.fr HX_31.out (fun h => h)).fr HX_32.out (fun h => h)).fr HX_33.out (fun h => h)).frozen 0
              have f1 := (((HB_26.out.fr HX_31.out (fun h => h)).fr HX_32.out (fun h => h)).fr HX_33.out (fun h => h)).frozen 1
              have f2 := (((HB_26.out.fr HX_31.out (fun h => h)).fr HX_32.out (fun h => h)).fr HX_33.out (fun h => h)).frozen 2
              have xl := (((HB_26.out.fr HX_31.out (fun h => h)).fr HX_32.out (fun h => h)).fr HX_33.out (fun h => h)).lt
              simp only [List.getElem?_cons_zero, List.getElem?_cons_succ] at x0 x1 x2
              go_simp
              clear x0 x1 x2 f0 f1 f2 xl
              obtain ⟨V34, hV34⟩ : ∃ W, ((V33.setCell ⟨c26, 0, none⟩ (.slice DA (j + 4) dc)).setCell ⟨c26, 1, none⟩ (.slice SA 1 sc)).setCell ⟨c26, 2, none⟩ (.slice KA 1 kc) = W := ⟨_, rfl⟩
              have HZ_34 := Lib.hid (store3 (((HB_26.out.fr HX_31.out (fun h => h)).fr HX_32.out (fun h => h)).fr HX_33.out (fun h => h)) _ _ _ V34 hV34)
              have HF_34 := Lib.hid (show Fr Nob W5 V34 from HF_33.out.trans HZ_34.out.2 (fun i hi e => by have h1 : i = c26 := e; have := HL_26.out; omega))
              rw [hV34]
              clear hV34
              refine hK.out _ _ (HSS.out _ HF_34.out) (fun _ => ?_)
              clear hK K
              try simp only [List.getElem_toArray, List.getElem_cons_succ, List.getElem_cons_zero, Act.put, List.setIfInBounds_toArray, List.set_cons_zero, List.set_cons_succ]
              refine wpAnyH_take (i := 12) (v := .int .i64 0) rfl (by kernel_rfl) (by kernel_rfl) (by kernel_rfl) (fun _ _ _ h => h) (Or.inl ⟨by rfl, fun _ _ => by go_simp⟩) (HSS.out _ HF_34.out) ?_
              refine wpAnyH_done (by kernel_rfl) ?_ _
              go_wp2_with fail
              go_meet
              exact ⟨_, DA, dc, SA, sc, KA, kc, rfl, rfl, HZ_34.out.1, texts_doc HD_33.out (((HB_26.out.fr HX_31.out (fun h => h)).fr HX_32.out (fun h => h)).fr HX_33.out (fun h => h)) HZ_34.out.2, HFw.out.same HF_34.out⟩
        · go_simp
          obtain ⟨c35, hc35⟩ : ∃ b, wd.heap.size = b := ⟨_, rfl⟩
          obtain ⟨V35, hV35⟩ : ∃ W, wd.alloc (.cells #[.int .i64 0, .int .i64 (1 + (p : Int)), .int .i64 (1 + (p : Int)), .int .i64 0, .int .i64 0, .int .i64 0, .slice (some ⟨bx, 0, none⟩) 1 1, .int .i64 0] 24) = W := ⟨_, rfl⟩
          have HX_35 := Lib.hid (show Fr Nob wd V35 by rw [← hV35]; exact (Fr.refl _ _).alloc _)
          have HB_35 := Lib.hid (show Blk V35 c35 [.int .i64 0, .int .i64 (1 + (p : Int)), .int .i64 (1 + (p : Int)), .int .i64 0, .int .i64 0, .int .i64 0, .slice (some ⟨bx, 0, none⟩) 1 1, .int .i64 0] 24 by rw [← hV35, ← hc35]; exact Blk.new _ _ _)
          have HF_35 := Lib.hid (HF0.out.same HX_35.out)
          rw [hV35, hc35]
          clear hV35 hc35
          refine hK.out _ _ (HSS.out _ HF_35.out) (fun _ => ?_)
          clear hK K
          try simp only [List.getElem_toArray, List.getElem_cons_succ, List.getElem_cons_zero, Act.put, List.setIfInBounds_toArray, List.set_cons_zero, List.set_cons_succ]
          refine wpAnyH_ready (rs := [0, 5, 10]) (by kernel_rfl) (by simp) (AllReadyH.cons (o := _) rfl (fun K hK => ?_) (AllReadyH.cons (o := _) rfl (fun K hK => ?_) (AllReadyH.cons (o := _) rfl (fun K hK => ?_) AllReadyH.nil)))
          · go_simp
            refine (house_any V35 (HHG.out.fr (HFw.out.same HF_35.out) (fun h => h))).mono ?_
            rintro e V36 ⟨⟨pp36, rs36, rfl, hS36, hC36⟩, hF36⟩
            have HS_36 := Lib.hid (hS36.mono (M' := Nob) (fun _ h => h.elim))
            have HC_36 := Lib.hid hC36
            have HX_36 := Lib.hid hF36
            have HF_36 := Lib.hid (HF_35.out.same hF36)
            clear hS36 hC36 hF36
            go_wp2_with fail
            refine hK.out _ _ (HSS.out _ HF_36.out) (fun _ => ?_)
            clear hK K
            try simp only [List.getElem_toArray, List.getElem_cons_succ, List.getElem_cons_zero, Act.put, List.setIfInBounds_toArray, List.set_cons_zero, List.set_cons_succ]
            refine wpAnyH_ready (rs := [5, 10]) (by kernel_rfl) (by simp) (AllReadyH.cons (o := _) rfl (fun K hK => ?_) (AllReadyH.cons (o := _) rfl (fun K hK => ?_) AllReadyH.nil))
            · go_simp
              obtain ⟨c37, hc37⟩ : ∃ b, V36.heap.size = b := ⟨_, rfl⟩
              obtain ⟨V37, hV37⟩ : ∃ W, V36.alloc (.cells #[.int .i64 0, .int .i64 (1 + (q : Int)), .int .i64 (1 + (q : Int)), .int .i64 0, .int .i64 0, .int .i64 0, .slice (some ⟨by', 0, none⟩) 1 1, .int .i64 0] 24) = W := ⟨_, rfl⟩
              have HX_37 := Lib.hid (show Fr Nob V36 V37 by rw [← hV37]; exact (Fr.refl _ _).alloc _)
              have HB_37 := Lib.hid (show Blk V37 c37 [.int .i64 0, .int .i64 (1 + (q : Int)), .int .i64 (1 + (q : Int)), .int .i64 0, .int .i64 0, .int .i64 0, .slice (some ⟨by', 0, none⟩) 1 1, .int .i64 0] 24 by rw [← hV37, ← hc37]; exact Blk.new _ _ _)
              have HF_37 := Lib.hid (HF_36.out.same HX_37.out)
              rw [hV37, hc37]
              clear hV37 hc37
              refine hK.out _ _ (HSS.out _ HF_37.out) (fun _ => ?_)
              clear hK K
              try simp only [List.getElem_toArray, List.getElem_cons_succ, List.getElem_cons_zero, Act.put, List.setIfInBounds_toArray, List.set_cons_zero, List.set_cons_succ]
              refine wpAnyH_ready (rs := [6, 10]) (by kernel_rfl) (by simp) (AllReadyH.cons (o := _) rfl (fun K hK => ?_) (AllReadyH.cons (o := _) rfl (fun K hK => ?_) AllReadyH.nil))
              · go_simp
                refine (texts_call pp36 rs36 HC_36.out j p q hpk hqk hk40 g2 cap2 dl HDL.out c35 c37 bx by' V37 (HS_36.out.fr0 HX_37.out) (HD5.out.fr HF_37.out (fun _ _ h => h.elim)) HDC.out ((HB_35.out.fr HX_36.out (fun h => h)).fr HX_37.out (fun h => h)) HB_37.out (HBX.out.fr HF_37.out (fun h => h)) (HBY.out.fr HF_37.out (fun h => h))).mono ?_
                rintro e V38 ⟨DA, dc, SA, sc, KA, kc, rfl, hD38, hFU38⟩
                have HX_38 := Lib.hid hFU38
                have HD_38 := Lib.hid hD38
                have HF_38 := Lib.hid (HF_37.out.same hFU38)
                clear hD38 hFU38
                go_wp2_with fail
                refine hK.out _ _ (HSS.out _ HF_38.out) (fun _ => ?_)
                clear hK K
                try simp only [List.getElem_toArray, List.getElem_cons_succ, List.getElem_cons_zero, Act.put, List.setIfInBounds_toArray, List.set_cons_zero, List.set_cons_succ]
                refine wpAnyH_take (i := 7) (v := .tuple #[.agg #[.slice DA (j + 4) dc, .slice SA 1 sc, .slice KA 1 kc], .int .i64 0]) rfl (by kernel_rfl) (by kernel_rfl) (by kernel_rfl) (fun _ _ _ h => h) (Or.inl ⟨by rfl, fun _ _ => by go_simp⟩) (HSS.out _ HF_38.out) ?_
                refine wpAnyH_take (i := 8) (v := .agg #[.slice DA (j + 4) dc, .slice SA 1 sc, .slice KA 1 kc]) rfl (by kernel_rfl) (by kernel_rfl) (by kernel_rfl) (fun _ _ _ h => h) (Or.inl ⟨by rfl, fun _ _ => by go_simp⟩) (HSS.out _ HF_38.out) ?_
                refine wpAnyH_take (i := 9) (v := .int .i64 0) rfl (by kernel_rfl) (by kernel_rfl) (by kernel_rfl) (fun _ _ _ h => h) (Or.inl ⟨by rfl, fun _ _ => by go_simp⟩) (HSS.out _ HF_38.out) ?_
                try simp only [List.getElem_toArray, List.getElem_cons_succ, List.getElem_cons_zero, Act.put, List.setIfInBounds_toArray, List.set_cons_zero, List.set_cons_succ]
                refine wpAnyH_ready (rs := [10]) (by kernel_rfl) (by simp) (AllReadyH.cons (o := _) rfl (fun K hK => ?_) AllReadyH.nil)
                go_simp
                obtain ⟨c39, hc39⟩ : ∃ b, V38.heap.size = b := ⟨_, rfl⟩
                obtain ⟨V39, hV39⟩ : ∃ W, V38.alloc (.cells #[.slice none 0 0, .slice none 0 0, .slice none 0 0] 46) = W := ⟨_, rfl⟩
                have HX_39 := Lib.hid (show Fr Nob V38 V39 by rw [← hV39]; exact (Fr.refl _ _).alloc _)
                have HB_39 := Lib.hid (show Blk V39 c39 [.slice none 0 0, .slice none 0 0, .slice none 0 0] 46 by rw [← hV39, ← hc39]; exact Blk.new _ _ _)
                have HF_39 := Lib.hid (HF_38.out.same HX_39.out)
                have HL_39 := Lib.hid (show W5.heap.size ≤ c39 by rw [← hc39]; exact HF_38.out.size)
                rw [hV39, hc39]
                clear hV39 hc39
                refine hK.out _ _ (HSS.out _ HF_39.out) (fun _ => ?_)
                clear hK K
                try simp only [List.getElem_toArray, List.getElem_cons_succ, List.getElem_cons_zero, Act.put, List.setIfInBounds_toArray, List.set_cons_zero, List.set_cons_succ]
                refine wpAnyH_ready (rs := [11]) (by kernel_rfl) (by simp) (AllReadyH.cons (o := _) rfl (fun K hK => ?_) AllReadyH.nil)
                have x0 := HB_39.out.cell 0
                have x1 := HB_39.out.cell 1
                have x2 := HB_39.out.cell 2
                have f0 := HB_39.out.frozen 0
                have f1 := HB_39.out.frozen 1
                have f2 := HB_39.out.frozen 2
                have xl := HB_39.out.lt
                simp only [List.getElem?_cons_zero, List.getElem?_cons_succ] at x0 x1 x2
                go_simp
                clear x0 x1 x2 f0 f1 f2 xl
                obtain ⟨V40, hV40⟩ : ∃ W, ((V39.setCell ⟨c39, 0, none⟩ (.slice DA (j + 4) dc)).setCell ⟨c39, 1, none⟩ (.slice SA 1 sc)).setCell ⟨c39, 2, none⟩ (.slice KA 1 kc) = W := ⟨_, rfl⟩
                have HZ_40 := Lib.hid (store3 HB_39.out _ _ _ V40 hV40)
                have HF_40 := Lib.hid (show Fr Nob W5 V40 from HF_39.out.trans HZ_40.out.2 (fun i hi e => by have h1 : i = c39 := e; have := HL_39.out; omega))
                rw [hV40]
                clear hV40
                refine hK.out _ _ (HSS.out _ HF_40.out) (fun _ => ?_)
                clear hK K
                try simp only [List.getElem_toArray, List.getElem_cons_succ, List.getElem_cons_zero, Act.put, List.setIfInBounds_toArray, List.set_cons_zero, List.set_cons_succ]
                refine wpAnyH_take (i := 12) (v := .int .i64 0) rfl (by kernel_rfl) (by kernel_rfl) (by kernel_rfl) (fun _ _ _ h => h) (Or.inl ⟨by rfl, fun _ _ => by go_simp⟩) (HSS.out _ HF_40.out) ?_
                refine wpAnyH_done (by kernel_rfl) ?_ _
                go_wp2_with fail
                go_meet
                exact ⟨_, DA, dc, SA, sc, KA, kc, rfl, rfl, HZ_40.out.1, texts_doc (HD_38.out.fr HX_39.out (fun _ _ h => h.elim)) HB_39.out HZ_40.out.2, HFw.out.same HF_40.out⟩
              · go_simp
                obtain ⟨c41, hc41⟩ : ∃ b, V37.heap.size = b := ⟨_, rfl⟩
                obtain ⟨V41, hV41⟩ : ∃ W, V37.alloc (.cells #[.slice none 0 0, .slice none 0 0, .slice none 0 0] 46) = W := ⟨_, rfl⟩
                have HX_41 := Lib.hid (show Fr Nob V37 V41 by rw [← hV41]; exact (Fr.refl _ _).alloc _)
                have HB_41 := Lib.hid (show Blk V41 c41 [.slice none 0 0, .slice none 0 0, .slice none 0 0] 46 by rw [← hV41, ← hc41]; exact Blk.new _ _ _)
                have HF_41 := Lib.hid (HF_37.out.same HX_41.out)
                have HL_41 := Lib.hid (show W5.heap.size ≤ c41 by rw [← hc41]; exact HF_37.out.size)
                rw [hV41, hc41]
                clear hV41 hc41
                refine hK.out _ _ (HSS.out _ HF_41.out) (fun _ => ?_)
                clear hK K
                try simp only [List.getElem_toArray, List.getElem_cons_succ, List.getElem_cons_zero, Act.put, List.setIfInBounds_toArray, List.set_cons_zero, List.set_cons_succ]
                refine wpAnyH_ready (rs := [6]) (by kernel_rfl) (by simp) (AllReadyH.cons (o := _) rfl (fun K hK => ?_) AllReadyH.nil)
                go_simp
                refine (texts_call pp36 rs36 HC_36.out j p q hpk hqk hk40 g2 cap2 dl HDL.out c35 c37 bx by' V41 ((HS_36.out.fr0 HX_37.out).fr0 HX_41.out) (HD5.out.fr HF_41.out (fun _ _ h => h.elim)) HDC.out (((HB_35.out.fr HX_36.out (fun h => h)).fr HX_37.out (fun h => h)).fr HX_41.out (fun h => h)) (HB_37.out.fr HX_41.out (fun h => h)) (HBX.out.fr HF_41.out (fun h => h)) (HBY.out.fr HF_41.out (fun h => h))).mono ?_
                rintro e V42 ⟨DA, dc, SA, sc, KA, kc, rfl, hD42, hFU42⟩
                have HX_42 := Lib.hid hFU42
                have HD_42 := Lib.hid hD42
                have HF_42 := Lib.hid (HF_41.out.same hFU42)
                clear hD42 hFU42
                go_wp2_with fail
                refine hK.out _ _ (HSS.out _ HF_42.out) (fun _ => ?_)
                clear hK K
                try simp only [List.getElem_toArray, List.getElem_cons_succ, List.getElem_cons_zero, Act.put, List.setIfInBounds_toArray, List.set_cons_zero, List.set_cons_succ]
                refine wpAnyH_take (i := 7) (v := .tuple #[.agg #[.slice DA (j + 4) dc, .slice SA 1 sc, .slice KA 1 kc], .int .i64 0]) rfl (by kernel_rfl) (by kernel_rfl) (by kernel_rfl) (fun _ _ _ h => h) (Or.inl ⟨by rfl, fun _ _ => by go_simp⟩) (HSS.out _ HF_42.out) ?_
                refine wpAnyH_take (i := 8) (v := .agg #[.slice DA (j + 4) dc, .slice SA 1 sc, .slice KA 1 kc]) rfl (by kernel_rfl) (by kernel_rfl) (by kernel_rfl) (fun _ _ _ h => h) (Or.inl ⟨by rfl, fun _ _ => by go_simp⟩) (HSS.out _ HF_42.out) ?_
                refine wpAnyH_take (i := 9) (v := .int .i64 0) rfl (by kernel_rfl) (by kernel_rfl) (by kernel_rfl) (fun _ _ _ h => h) (Or.inl ⟨by rfl, fun _ _ => by go_simp⟩) (HSS.out _ HF_42.out) ?_
                try simp only [List.getElem_toArray, List.getElem_cons_succ, List.getElem_cons_zero, Act.put, List.setIfInBounds_toArray, List.set_cons_zero, List.set_cons_succ]
                refine wpAnyH_ready (rs := [11]) (by kernel_rfl) (by simp) (AllReadyH.cons (o := _) rfl (fun K hK => ?_) AllReadyH.nil)
                have x0 := (HB_41.out.fr HX_42.out (fun h => h)).cell 0
                have x1 := (HB_41.out.fr HX_42.out (fun h => h)).cell 1
                have x2 := (HB_41.out.fr HX_42.out (fun h => h)).cell 2
                have f0 := (HB_41.out.fr HX_42.out (fun h => h)).frozen 0
                have f1 := (HB_41.out.fr HX_42.out (fun h => h)).frozen 1
                have f2 := (HB_41.out.fr HX_42.out (fun h => h)).frozen 2
                have xl := (HB_41.out.fr HX_42.out (fun h => h)).lt
                simp only [List.getElem?_cons_zero, List.getElem?_cons_succ] at x0 x1 x2
                go_simp
                clear x0 x1 x2 f0 f1 f2 xl
                obtain ⟨V43, hV43⟩ : ∃ W, ((V42.setCell ⟨c41, 0, none⟩ (.slice DA (j + 4) dc)).setCell ⟨c41, 1, none⟩ (.slice SA 1 sc)).setCell ⟨c41, 2, none⟩ (.slice KA 1 kc) = W := ⟨_, rfl⟩
                have HZ_43 := Lib.hid (store3 (HB_41.out.fr HX_42.out (fun h => h)) _ _ _ V43 hV43)
                have HF_43 := Lib.hid (show Fr Nob W5 V43 from HF_42.out.trans HZ_43.out.2 (fun i hi e => by have h1 : i = c41 := e; have := HL_41.out; omega))
                rw [hV43]
                clear hV43
                refine hK.out _ _ (HSS.out _ HF_43.out) (fun _ => ?_)
                clear hK K
                try simp only [List.getElem_toArray, List.getElem_cons_succ, List.getElem_cons_zero, Act.put, List.setIfInBounds_toArray, List.set_cons_zero, List.set_cons_succ]
                refine wpAnyH_take (i := 12) (v := .int .i64 0) rfl (by kernel_rfl) (by kernel_rfl) (by kernel_rfl) (fun _ _ _ h => h) (Or.inl ⟨by rfl, fun _ _ => by go_simp⟩) (HSS.out _ HF_43.out) ?_
                refine wpAnyH_done (by kernel_rfl) ?_ _
                go_wp2_with fail
                go_meet
                exact ⟨_, DA, dc, SA, sc, KA, kc, rfl, rfl, HZ_43.out.1, texts_doc HD_42.out (HB_41.out.fr HX_42.out (fun h => h)) HZ_43.out.2, HFw.out.same HF_43.out⟩
            · go_simp
              obtain ⟨c44, hc44⟩ : ∃ b, V36.heap.size = b := ⟨_, rfl⟩
              obtain ⟨V44, hV44⟩ : ∃ W, V36.alloc (.cells #[.slice none 0 0, .slice none 0 0, .slice none 0 0] 46) = W := ⟨_, rfl⟩
              have HX_44 := Lib.hid (show Fr Nob V36 V44 by rw [← hV44]; exact (Fr.refl _ _).alloc _)
              have HB_44 := Lib.hid (show Blk V44 c44 [.slice none 0 0, .slice none 0 0, .slice none 0 0] 46 by rw [← hV44, ← hc44]; exact Blk.new _ _ _)
              have HF_44 := Lib.hid (HF_36.out.same HX_44.out)
              have HL_44 := Lib.hid (show W5.heap.size ≤ c44 by rw [← hc44]; exact HF_36.out.size)
              rw [hV44, hc44]
              clear hV44 hc44
              refine hK.out _ _ (HSS.out _ HF_44.out) (fun _ => ?_)
              clear hK K
              try simp only [List.getElem_toArray, List.getElem_cons_succ, List.getElem_cons_zero, Act.put, List.setIfInBounds_toArray, List.set_cons_zero, List.set_cons_succ]
              refine wpAnyH_ready (rs := [5]) (by kernel_rfl) (by simp) (AllReadyH.cons (o := _) rfl (fun K hK => ?_) AllReadyH.nil)
              go_simp
              obtain ⟨c45, hc45⟩ : ∃ b, V44.heap.size = b := ⟨_, rfl⟩
              obtain ⟨V45, hV45⟩ : ∃ W, V44.alloc (.cells #[.int .i64 0, .int .i64 (1 + (q : Int)), .int .i64 (1 + (q : Int)), .int .i64 0, .int .i64 0, .int .i64 0, .slice (some ⟨by', 0, none⟩) 1 1, .int .i64 0] 24) = W := ⟨_, rfl⟩
              have HX_45 := Lib.hid (show Fr Nob V44 V45 by rw [← hV45]; exact (Fr.refl _ _).alloc _)
              have HB_45 := Lib.hid (show Blk V45 c45 [.int .i64 0, .int .i64 (1 + (q : Int)), .int .i64 (1 + (q : Int)), .int .i64 0, .int .i64 0, .int .i64 0, .slice (some ⟨by', 0, none⟩) 1 1, .int .i64 0] 24 by rw [← hV45, ← hc45]; exact Blk.new _ _ _)
              have HF_45 := Lib.hid (HF_44.out.same HX_45.out)
              rw [hV45, hc45]
              clear hV45 hc45
              refine hK.out _ _ (HSS.out _ HF_45.out) (fun _ => ?_)
              clear hK K
              try simp only [List.getElem_toArray, List.getElem_cons_succ, List.getElem_cons_zero, Act.put, List.setIfInBounds_toArray, List.set_cons_zero, List.set_cons_succ]
              refine wpAnyH_ready (rs := [6]) (by kernel_rfl) (by simp) (AllReadyH.cons (o := _) rfl (fun K hK => ?_) AllReadyH.nil)
              go_simp
              refine (texts_call pp36 rs36 HC_36.out j p q hpk hqk hk40 g2 cap2 dl HDL.out c35 c45 bx by' V45 ((HS_36.out.fr0 HX_44.out).fr0 HX_45.out) (HD5.out.fr HF_45.out (fun _ _ h => h.elim)) HDC.out (((HB_35.out.fr HX_36.out (fun h => h)).fr HX_44.out (fun h => h)).fr HX_45.out (fun h => h)) HB_45.out (HBX.out.fr HF_45.out (fun h => h)) (HBY.out.fr HF_45.out (fun h => h))).mono ?_
              rintro e V46 ⟨DA, dc, SA, sc, KA, kc, rfl, hD46, hFU46⟩
              have HX_46 := Lib.hid hFU46
              have HD_46 := Lib.hid hD46
              have HF_46 := Lib.hid (HF_45.out.same hFU46)
              clear hD46 hFU46
              go_wp2_with fail
              refine hK.out _ _ (HSS.out _ HF_46.out) (fun _ => ?_)
              clear hK K
              try simp only [List.getElem_toArray, List.getElem_cons_succ, List.getElem_cons_zero, Act.put, List.setIfInBounds_toArray, List.set_cons_zero, List.set_cons_succ]
              refine wpAnyH_take (i := 7) (v := .tuple #[.agg #[.slice DA (j + 4) dc, .slice SA 1 sc, .slice KA 1 kc], .int .i64 0]) rfl (by kernel_rfl) (by kernel_rfl) (by kernel_rfl) (fun _ _ _ h => h) (Or.inl ⟨by rfl, fun _ _ => by go_simp⟩) (HSS.out _ HF_46.out) ?_
              refine wpAnyH_take (i := 8) (v := .agg #[.slice DA (j + 4) dc, .slice SA 1 sc, .slice KA 1 kc]) rfl (by kernel_rfl) (by kernel_rfl) (by kernel_rfl) (fun _ _ _ h => h) (Or.inl ⟨by rfl, fun _ _ => by go_simp⟩) (HSS.out _ HF_46.out) ?_
              refine wpAnyH_take (i := 9) (v := .int .i64 0) rfl (by kernel_rfl) (by kernel_rfl) (by kernel_rfl) (fun _ _ _ h => h) (Or.inl ⟨by rfl, fun _ _ => by go_simp⟩) (HSS.out _ HF_46.out) ?_
              try simp only [List.getElem_toArray, List.getElem_cons_succ, List.getElem_cons_zero, Act.put, List.setIfInBounds_toArray, List.set_cons_zero, List.set_cons_succ]
              refine wpAnyH_ready (rs := [11]) (by kernel_rfl) (by simp) (AllReadyH.cons (o := _) rfl (fun K hK => ?_) AllReadyH.nil)
              have x0 := ((HB_44.out.fr HX_45.out (fun h => h)).fr HX_46.out (fun h => h)).cell 0
              have x1 := ((HB_44.out.fr HX_45.out (fun h => h)).fr HX_46.out (fun h => h)).cell 1
              have x2 := ((HB_44.out.fr HX_45.out (fun h => h)).fr HX_46.out (fun h => h)).cell 2
              have f0 := ((HB_44.out.fr HX_45.out (fun h => h)).fr HX_46.out (fun h => h)).frozen 0
              have f1 := ((HB_44.out.fr HX_45.out (fun h => h)).fr HX_46.out (fun h => h)).frozen 1
              have f2 := ((HB_44.out.fr HX_45.out (fun h => h)).fr HX_46.out (fun h => h)).frozen 2
              have xl := ((HB_44.out.fr HX_45.out (fun h => h)).fr HX_46.out (fun h => h)).lt
              simp only [List.getElem?_cons_zero, List.getElem?_cons_succ] at x0 x1 x2
              go_simp
              clear x0 x1 x2 f0 f1 f2 xl
              obtain ⟨V47, hV47⟩ : ∃ W, ((V46.setCell ⟨c44, 0, none⟩ (.slice DA (j + 4) dc)).setCell ⟨c44, 1, none⟩ (.slice SA 1 sc)).setCell ⟨c44, 2, none⟩ (.slice KA 1 kc) = W := ⟨_, rfl⟩
              have HZ_47 := Lib.hid (store3 ((HB_44.out.fr HX_45.out (fun h => h)).fr HX_46.out (fun h => h)) _ _ _ V47 hV47)
              have HF_47 := Lib.hid (show Fr Nob W5 V47 from HF_46.out.trans HZ_47.out.2 (fun i hi e => by have h1 : i = c44 := e; have := HL_44.out; omega))
              rw [hV47]
              clear hV47
              refine hK.out _ _ (HSS.out _ HF_47.out) (fun _ => ?_)
              clear hK K
              try simp only [List.getElem_toArray, List.getElem_cons_succ, List.getElem_cons_zero, Act.put, List.setIfInBounds_toArray, List.set_cons_zero, List.set_cons_succ]
              refine wpAnyH_take (i := 12) (v := .int .i64 0) rfl (by kernel_rfl) (by kernel_rfl) (by kernel_rfl) (fun _ _ _ h => h) (Or.inl ⟨by rfl, fun _ _ => by go_simp⟩) (HSS.out _ HF_47.out) ?_
              refine wpAnyH_done (by kernel_rfl) ?_ _
              go_wp2_with fail
              go_meet
              exact ⟨_, DA, dc, SA, sc, KA, kc, rfl, rfl, HZ_47.out.1, texts_doc HD_46.out ((HB_44.out.fr HX_45.out (fun h => h)).fr HX_46.out (fun h => h)) HZ_47.out.2, HFw.out.same HF_47.out⟩
          · go_simp
            obtain ⟨c48, hc48⟩ : ∃ b, V35.heap.size = b := ⟨_, rfl⟩
            obtain ⟨V48, hV48⟩ : ∃ W, V35.alloc (.cells #[.int .i64 0, .int .i64 (1 + (q : Int)), .int .i64 (1 + (q : Int)), .int .i64 0, .int .i64 0, .int .i64 0, .slice (some ⟨by', 0, none⟩) 1 1, .int .i64 0] 24) = W := ⟨_, rfl⟩
            have HX_48 := Lib.hid (show Fr Nob V35 V48 by rw [← hV48]; exact (Fr.refl _ _).alloc _)
            have HB_48 := Lib.hid (show Blk V48 c48 [.int .i64 0, .int .i64 (1 + (q : Int)), .int .i64 (1 + (q : Int)), .int .i64 0, .int .i64 0, .int .i64 0, .slice (some ⟨by', 0, none⟩) 1 1, .int .i64 0] 24 by rw [← hV48, ← hc48]; exact Blk.new _ _ _)
            have HF_48 := Lib.hid (HF_35.out.same HX_48.out)
            rw [hV48, hc48]
            clear hV48 hc48
            refine hK.out _ _ (HSS.out _ HF_48.out) (fun _ => ?_)
            clear hK K
            try simp only [List.getElem_toArray, List.getElem_cons_succ, List.getElem_cons_zero, Act.put, List.setIfInBounds_toArray, List.set_cons_zero, List.set_cons_succ]
            refine wpAnyH_ready (rs := [0, 10]) (by kernel_rfl) (by simp) (AllReadyH.cons (o := _) rfl (fun K hK => ?_) (AllReadyH.cons (o := _) rfl (fun K hK => ?_) AllReadyH.nil))
            · go_simp
              refine (house_any V48 (HHG.out.fr (HFw.out.same HF_48.out) (fun h => h))).mono ?_
              rintro e V49 ⟨⟨pp49, rs49, rfl, hS49, hC49⟩, hF49⟩
              have HS_49 := Lib.hid (hS49.mono (M' := Nob) (fun _ h => h.elim))
              have HC_49 := Lib.hid hC49
              have HX_49 := Lib.hid hF49
              have HF_49 := Lib.hid (HF_48.out.same hF49)
              clear hS49 hC49 hF49
              go_wp2_with fail
              refine hK.out _ _ (HSS.out _ HF_49.out) (fun _ => ?_)
              clear hK K
              try simp only [List.getElem_toArray, List.getElem_cons_succ, List.getElem_cons_zero, Act.put, List.setIfInBounds_toArray, List.set_cons_zero, List.set_cons_succ]
              refine wpAnyH_ready (rs := [6, 10]) (by kernel_rfl) (by simp) (AllReadyH.cons (o := _) rfl (fun K hK => ?_) (AllReadyH.cons (o := _) rfl (fun K hK => ?_) AllReadyH.nil))
              · go_simp
                refine (texts_call pp49 rs49 HC_49.out j p q hpk hqk hk40 g2 cap2 dl HDL.out c35 c48 bx by' V49 HS_49.out (HD5.out.fr HF_49.out (fun _ _ h => h.elim)) HDC.out ((HB_35.out.fr HX_48.out (fun h => h)).fr HX_49.out (fun h => h)) (HB_48.out.fr HX_49.out (fun h => h)) (HBX.out.fr HF_49.out (fun h => h)) (HBY.out.fr HF_49.out (fun h => h))).mono ?_
                rintro e V50 ⟨DA, dc, SA, sc, KA, kc, rfl, hD50, hFU50⟩
                have HX_50 := Lib.hid hFU50
                have HD_50 := Lib.hid hD50
                have HF_50 := Lib.hid (HF_49.out.same hFU50)
                clear hD50 hFU50
                go_wp2_with fail
                refine hK.out _ _ (HSS.out _ HF_50.out) (fun _ => ?_)
                clear hK K
                try simp only [List.getElem_toArray, List.getElem_cons_succ, List.getElem_cons_zero, Act.put, List.setIfInBounds_toArray, List.set_cons_zero, List.set_cons_succ]
                refine wpAnyH_take (i := 7) (v := .tuple #[.agg #[.slice DA (j + 4) dc, .slice SA 1 sc, .slice KA 1 kc], .int .i64 0]) rfl (by kernel_rfl) (by kernel_rfl) (by kernel_rfl) (fun _ _ _ h => h) (Or.inl ⟨by rfl, fun _ _ => by go_simp⟩) (HSS.out _ HF_50.out) ?_
                refine wpAnyH_take (i := 8) (v := .agg #[.slice DA (j + 4) dc, .slice SA 1 sc, .slice KA 1 kc]) rfl (by kernel_rfl) (by kernel_rfl) (by kernel_rfl) (fun _ _ _ h => h) (Or.inl ⟨by rfl, fun _ _ => by go_simp⟩) (HSS.out _ HF_50.out) ?_
                refine wpAnyH_take (i := 9) (v := .int .i64 0) rfl (by kernel_rfl) (by kernel_rfl) (by kernel_rfl) (fun _ _ _ h => h) (Or.inl ⟨by rfl, fun _ _ => by go_simp⟩) (HSS.out _ HF_50.out) ?_
                try simp only [List.getElem_toArray, List.getElem_cons_succ, List.getElem_cons_zero, Act.put, List.setIfInBounds_toArray, List.set_cons_zero, List.set_cons_succ]
                refine wpAnyH_ready (rs := [10]) (by kernel_rfl) (by simp) (AllReadyH.cons (o := _) rfl (fun K hK => ?_) AllReadyH.nil)
                go_simp
                obtain ⟨c51, hc51⟩ : ∃ b, V50.heap.size = b := ⟨_, rfl⟩
                obtain ⟨V51, hV51⟩ : ∃ W, V50.alloc (.cells #[.slice none 0 0, .slice none 0 0, .slice none 0 0] 46) = W := ⟨_, rfl⟩
                have HX_51 := Lib.hid (show Fr Nob V50 V51 by rw [← hV51]; exact (Fr.refl _ _).alloc _)
                have HB_51 := Lib.hid (show Blk V51 c51 [.slice none 0 0, .slice none 0 0, .slice none 0 0] 46 by rw [← hV51, ← hc51]; exact Blk.new _ _ _)
                have HF_51 := Lib.hid (HF_50.out.same HX_51.out)
                have HL_51 := Lib.hid (show W5.heap.size ≤ c51 by rw [← hc51]; exact HF_50.out.size)
                rw [hV51, hc51]
                clear hV51 hc51
                refine hK.out _ _ (HSS.out _ HF_51.out) (fun _ => ?_)
                clear hK K
                try simp only [List.getElem_toArray, List.getElem_cons_succ, List.getElem_cons_zero, Act.put, List.setIfInBounds_toArray, List.set_cons_zero, List.set_cons_succ]
                refine wpAnyH_ready (rs := [11]) (by kernel_rfl) (by simp) (AllReadyH.cons (o := _) rfl (fun K hK => ?_) AllReadyH.nil)
                have x0 := HB_51.out.cell 0
                have x1 := HB_51.out.cell 1
                have x2 := HB_51.out.cell 2
                have f0 := HB_51.out.frozen 0
                have f1 := HB_51.out.frozen 1
                have f2 := HB_51.out.frozen 2
                have xl := HB_51.out.lt
                simp only [List.getElem?_cons_zero, List.getElem?_cons_succ] at x0 x1 x2
                go_simp
                clear x0 x1 x2 f0 f1 f2 xl
                obtain ⟨V52, hV52⟩ : ∃ W, ((V51.setCell ⟨c51, 0, none⟩ (.slice DA (j + 4) dc)).setCell ⟨c51, 1, none⟩ (.slice SA 1 sc)).setCell ⟨c51, 2, none⟩ (.slice KA 1 kc) = W := ⟨_, rfl⟩
                have HZ_52 := Lib.hid (store3 HB_51.out _ _ _ V52 hV52)
                have HF_52 := Lib.hid (show Fr Nob W5 V52 from HF_51.out.trans HZ_52.out.2 (fun i hi e => by have h1 : i = c51 := e; have := HL_51.out; omega))
                rw [hV52]
                clear hV52
                refine hK.out _ _ (HSS.out _ HF_52.out) (fun _ => ?_)
                clear hK K
                try simp only [List.getElem_toArray, List.getElem_cons_succ, List.getElem_cons_zero, Act.put, List.setIfInBounds_toArray, List.set_cons_zero, List.set_cons_succ]
                refine wpAnyH_take (i := 12) (v := .int .i64 0) rfl (by kernel_rfl) (by kernel_rfl) (by kernel_rfl) (fun _ _ _ h => h) (Or.inl ⟨by rfl, fun _ _ => by go_simp⟩) (HSS.out _ HF_52.out) ?_
                refine wpAnyH_done (by kernel_rfl) ?_ _
                go_wp2_with fail
                go_meet
                exact ⟨_, DA, dc, SA, sc, KA, kc, rfl, rfl, HZ_52.out.1, texts_doc (HD_50.out.fr HX_51.out (fun _ _ h => h.elim)) HB_51.out HZ_52.out.2, HFw.out.same HF_52.out⟩
              · go_simp
                obtain ⟨c53, hc53⟩ : ∃ b, V49.heap.size = b := ⟨_, rfl⟩
                obtain ⟨V53, hV53⟩ : ∃ W, V49.alloc (.cells #[.slice none 0 0, .slice none 0 0, .slice none 0 0] 46) = W := ⟨_, rfl⟩
                have HX_53 := Lib.hid (show Fr Nob V49 V53 by rw [← hV53]; exact (Fr.refl _ _).alloc _)
                have HB_53 := Lib.hid (show Blk V53 c53 [.slice none 0 0, .slice none 0 0, .slice none 0 0] 46 by rw [← hV53, ← hc53]; exact Blk.new _ _ _)
                have HF_53 := Lib.hid (HF_49.out.same HX_53.out)
                have HL_53 := Lib.hid (show W5.heap.size ≤ c53 by rw [← hc53]; exact HF_49.out.size)
                rw [hV53, hc53]
                clear hV53 hc53
                refine hK.out _ _ (HSS.out _ HF_53.out) (fun _ => ?_)
                clear hK K
                try simp only [List.getElem_toArray, List.getElem_cons_succ, List.getElem_cons_zero, Act.put, List.setIfInBounds_toArray, List.set_cons_zero, List.set_cons_succ]
                refine wpAnyH_ready (rs := [6]) (by kernel_rfl) (by simp) (AllReadyH.cons (o := _) rfl (fun K hK => ?_) AllReadyH.nil)
                go_simp
                refine (texts_call pp49 rs49 HC_49.out j p q hpk hqk hk40 g2 cap2 dl HDL.out c35 c48 bx by' V53 (HS_49.out.fr0 HX_53.out) (HD5.out.fr HF_53.out (fun _ _ h => h.elim)) HDC.out (((HB_35.out.fr HX_48.out (fun h => h)).fr HX_49.out (fun h => h)).fr HX_53.out (fun h => h)) ((HB_48.out.fr HX_49.out (fun h => h)).fr HX_53.out (fun h => h)) (HBX.out.fr HF_53.out (fun h => h)) (HBY.out.fr HF_53.out (fun h => h))).mono ?_
                rintro e V54 ⟨DA, dc, SA, sc, KA, kc, rfl, hD54, hFU54⟩
                have HX_54 := Lib.hid hFU54
                have HD_54 := Lib.hid hD54
                have HF_54 := Lib.hid (HF_53.out.same hFU54)
                clear hD54 hFU54
                go_wp2_with fail
                refine hK.out _ _ (HSS.out _ HF_54.out) (fun _ => ?_)
                clear hK K
                try simp only [List.getElem_toArray, List.getElem_cons_succ, List.getElem_cons_zero, Act.put, List.setIfInBounds_toArray, List.set_cons_zero, List.set_cons_succ]
                refine wpAnyH_take (i := 7) (v := .tuple #[.agg #[.slice DA (j + 4) dc, .slice SA 1 sc, .slice KA 1 kc], .int .i64 0]) rfl (by kernel_rfl) (by kernel_rfl) (by kernel_rfl) (fun _ _ _ h => h) (Or.inl ⟨by rfl, fun _ _ => by go_simp⟩) (HSS.out _ HF_54.out) ?_
                refine wpAnyH_take (i := 8) (v := .agg #[.slice DA (j + 4) dc, .slice SA 1 sc, .slice KA 1 kc]) rfl (by kernel_rfl) (by kernel_rfl) (by kernel_rfl) (fun _ _ _ h => h) (Or.inl ⟨by rfl, fun _ _ => by go_simp⟩) (HSS.out _ HF_54.out) ?_
                refine wpAnyH_take (i := 9) (v := .int .i64 0) rfl (by kernel_rfl) (by kernel_rfl) (by kernel_rfl) (fun _ _ _ h => h) (Or.inl ⟨by rfl, fun _ _ => by go_simp⟩) (HSS.out _ HF_54.out) ?_
                try simp only [List.getElem_toArray, List.getElem_cons_succ, List.getElem_cons_zero, Act.put, List.setIfInBounds_toArray, List.set_cons_zero, List.set_cons_succ]
                refine wpAnyH_ready (rs := [11]) (by kernel_rfl) (by simp) (AllReadyH.cons (o := _) rfl (fun K hK => ?_) AllReadyH.nil)
                have x0 := (HB_53.out.fr HX_54.out (fun h => h)).cell 0
                have x1 := (HB_53.out.fr HX_54.out (fun h => h)).cell 1
                have x2 := (HB_53.out.fr HX_54.out (fun h => h)).cell 2
                have f0 := (HB_53.out.fr HX_54.out (fun h => h)).frozen 0
                have f1 := (HB_53.out.fr HX_54.out (fun h => h)).frozen 1
                have f2 := (HB_53.out.fr HX_54.out (fun h => h)).frozen 2
                have xl := (HB_53.out.fr HX_54.out (fun h => h)).lt
                simp only [List.getElem?_cons_zero, List.getElem?_cons_succ] at x0 x1 x2
                go_simp
                clear x0 x1 x2 f0 f1 f2 xl
                obtain ⟨V55, hV55⟩ : ∃ W, ((V54.setCell ⟨c53, 0, none⟩ (.slice DA (j + 4) dc)).setCell ⟨c53, 1, none⟩ (.slice SA 1 sc)).setCell ⟨c53, 2, none⟩ (.slice KA 1 kc) = W := ⟨_, rfl⟩
                have HZ_55 := Lib.hid (store3 (HB_53.out.fr HX_54.out (fun h => h)) _ _ _ V55 hV55)
                have HF_55 := Lib.hid (show Fr Nob W5 V55 from HF_54.out.trans HZ_55.out.2 (fun i hi e => by have h1 : i = c53 := e; have := HL_53.out; omega))
                rw [hV55]
                clear hV55
                refine hK.out _ _ (HSS.out _ HF_55.out) (fun _ => ?_)
                clear hK K
                try simp only [List.getElem_toArray, List.getElem_cons_succ, List.getElem_cons_zero, Act.put, List.setIfInBounds_toArray, List.set_cons_zero, List.set_cons_succ]
                refine wpAnyH_take (i := 12) (v := .int .i64 0) rfl (by kernel_rfl) (by kernel_rfl) (by kernel_rfl) (fun _ _ _ h => h) (Or.inl ⟨by rfl, fun _ _ => by go_simp⟩) (HSS.out _ HF_55.out) ?_
                refine wpAnyH_done (by kernel_rfl) ?_ _
                go_wp2_with fail
                go_meet
                exact ⟨_, DA, dc, SA, sc, KA, kc, rfl, rfl, HZ_55.out.1, texts_doc HD_54.out (HB_53.out.fr HX_54.out (fun h => h)) HZ_55.out.2, HFw.out.same HF_55.out⟩
            · go_simp
              obtain ⟨c56, hc56⟩ : ∃ b, V48.heap.size = b := ⟨_, rfl⟩
              obtain ⟨V56, hV56⟩ : ∃ W, V48.alloc (.cells #[.slice none 0 0, .slice none 0 0, .slice none 0 0] 46) = W := ⟨_, rfl⟩
              have HX_56 := Lib.hid (show Fr Nob V48 V56 by rw [← hV56]; exact (Fr.refl _ _).alloc _)
              have HB_56 := Lib.hid (show Blk V56 c56 [.slice none 0 0, .slice none 0 0, .slice none 0 0] 46 by rw [← hV56, ← hc56]; exact Blk.new _ _ _)
              have HF_56 := Lib.hid (HF_48.out.same HX_56.out)
              have HL_56 := Lib.hid (show W5.heap.size ≤ c56 by rw [← hc56]; exact HF_48.out.size)
              rw [hV56, hc56]
              clear hV56 hc56
              refine hK.out _ _ (HSS.out _ HF_56.out) (fun _ => ?_)
              clear hK K
              try simp only [List.getElem_toArray, List.getElem_cons_succ, List.getElem_cons_zero, Act.put, List.setIfInBounds_toArray, List.set_cons_zero, List.set_cons_succ]
              refine wpAnyH_ready (rs := [0]) (by kernel_rfl) (by simp) (AllReadyH.cons (o := _) rfl (fun K hK => ?_) AllReadyH.nil)
              go_simp
              refine (house_any V56 (HHG.out.fr (HFw.out.same HF_56.out) (fun h => h))).mono ?_
              rintro e V57 ⟨⟨pp57, rs57, rfl, hS57, hC57⟩, hF57⟩
              have HS_57 := Lib.hid (hS57.mono (M' := Nob) (fun _ h => h.elim))
              have HC_57 := Lib.hid hC57
              have HX_57 := Lib.hid hF57
              have HF_57 := Lib.hid (HF_56.out.same hF57)
              clear hS57 hC57 hF57
              go_wp2_with fail
              refine hK.out _ _ (HSS.out _ HF_57.out) (fun _ => ?_)
              clear hK K
              try simp only [List.getElem_toArray, List.getElem_cons_succ, List.getElem_cons_zero, Act.put, List.setIfInBounds_toArray, List.set_cons_zero, List.set_cons_succ]
              refine wpAnyH_ready (rs := [6]) (by kernel_rfl) (by simp) (AllReadyH.cons (o := _) rfl (fun K hK => ?_) AllReadyH.nil)
              go_simp
              refine (texts_call pp57 rs57 HC_57.out j p q hpk hqk hk40 g2 cap2 dl HDL.out c35 c48 bx by' V57 HS_57.out (HD5.out.fr HF_57.out (fun _ _ h => h.elim)) HDC.out (((HB_35.out.fr HX_48.out (fun h => h)).fr HX_56.out (fun h => h)).fr HX_57.out (fun h => h)) ((HB_48.out.fr HX_56.out (fun h => h)).fr HX_57.out (fun h => h)) (HBX.out.fr HF_57.out (fun h => h)) (HBY.out.fr HF_57.out (fun h => h))).mono ?_
              rintro e V58 ⟨DA, dc, SA, sc, KA, kc, rfl, hD58, hFU58⟩
              have HX_58 := Lib.hid hFU58
              have HD_58 := Lib.hid hD58
              have HF_58 := Lib.hid (HF_57.out.same hFU58)
              clear hD58 hFU58
              go_wp2_with fail
              refine hK.out _ _ (HSS.out _ HF_58.out) (fun _ => ?_)
              clear hK K
              try simp only [List.getElem_toArray, List.getElem_cons_succ, List.getElem_cons_zero, Act.put, List.setIfInBounds_toArray, List.set_cons_zero, List.set_cons_succ]
              refine wpAnyH_take (i := 7) (v := .tuple #[.agg #[.slice DA (j + 4) dc, .slice SA 1 sc, .slice KA 1 kc], .int .i64 0]) rfl (by kernel_rfl) (by kernel_rfl) (by kernel_rfl) (fun _ _ _ h => h) (Or.inl ⟨by rfl, fun _ _ => by go_simp⟩) (HSS.out _ HF_58.out) ?_
              refine wpAnyH_take (i := 8) (v := .agg #[.slice DA (j + 4) dc, .slice SA 1 sc, .slice KA 1 kc]) rfl (by kernel_rfl) (by kernel_rfl) (by kernel_rfl) (fun _ _ _ h => h) (Or.inl ⟨by rfl, fun _ _ => by go_simp⟩) (HSS.out _ HF_58.out) ?_
              refine wpAnyH_take (i := 9) (v := .int .i64 0) rfl (by kernel_rfl) (by kernel_rfl) (by kernel_rfl) (fun _ _ _ h => h) (Or.inl ⟨by rfl, fun _ _ => by go_simp⟩) (HSS.out _ HF_58.out) ?_
              try simp only [List.getElem_toArray, List.getElem_cons_succ, List.getElem_cons_zero, Act.put, List.setIfInBounds_toArray, List.set_cons_zero, List.set_cons_succ]
              refine wpAnyH_ready (rs := [11]) (by kernel_rfl) (by simp) (AllReadyH.cons (o := _) rfl (fun K hK => ?_) AllReadyH.nil)
              have x0 := ((HB_56.out.fr HX_57.out (fun h => h)).fr HX_58.out (fun h => h)).cell 0
              have x1 := ((HB_56.out.fr HX_57.out (fun h => h)).fr HX_58.out (fun h => h)).cell 1
              have x2 := ((HB_56.out.fr HX_57.out (fun h => h)).fr HX_58.out (fun h => h)).cell 2
              have f0 := ((HB_56.out.fr HX_57.out (fun h => h)).fr HX_58.out (fun h => h)).frozen 0
              have f1 := ((HB_56.out.fr HX_57.out (fun h => h)).fr HX_58.out (fun h => h)).frozen 1
              have f2 := ((HB_56.out.fr HX_57.out (fun h => h)).fr HX_58.out (fun h => h)).frozen 2
              have xl := ((HB_56.out.fr HX_57.out (fun h => h)).fr HX_58.out (fun h => h)).lt
              simp only [List.getElem?_cons_zero, List.getElem?_cons_succ] at x0 x1 x2
              go_simp
              clear x0 x1 x2 f0 f1 f2 xl
              obtain ⟨V59, hV59⟩ : ∃ W, ((V58.setCell ⟨c56, 0, none⟩ (.slice DA (j + 4) dc)).setCell ⟨c56, 1, none⟩ (.slice SA 1 sc)).setCell ⟨c56, 2, none⟩ (.slice KA 1 kc) = W := ⟨_, rfl⟩
              have HZ_59 := Lib.hid (store3 ((HB_56.out.fr HX_57.out (fun h => h)).fr HX_58.out (fun h => h)) _ _ _ V59 hV59)
              have HF_59 := Lib.hid (show Fr Nob W5 V59 from HF_58.out.trans HZ_59.out.2 (fun i hi e => by have h1 : i = c56 := e; have := HL_56.out; omega))
              rw [hV59]
              clear hV59
              refine hK.out _ _ (HSS.out _ HF_59.out) (fun _ => ?_)
              clear hK K
              try simp only [List.getElem_toArray, List.getElem_cons_succ, List.getElem_cons_zero, Act.put, List.setIfInBounds_toArray, List.set_cons_zero, List.set_cons_succ]
              refine wpAnyH_take (i := 12) (v := .int .i64 0) rfl (by kernel_rfl) (by kernel_rfl) (by kernel_rfl) (fun _ _ _ h => h) (Or.inl ⟨by rfl, fun _ _ => by go_simp⟩) (HSS.out _ HF_59.out) ?_
              refine wpAnyH_done (by kernel_rfl) ?_ _
              go_wp2_with fail
              go_meet
              exact ⟨_, DA, dc, SA, sc, KA, kc, rfl, rfl, HZ_59.out.1, texts_doc HD_58.out ((HB_56.out.fr HX_57.out (fun h => h)).fr HX_58.out (fun h => h)) HZ_59.out.2, HFw.out.same HF_59.out⟩
          · go_simp
            obtain ⟨c60, hc60⟩ : ∃ b, V35.heap.size = b := ⟨_, rfl⟩
            obtain ⟨V60, hV60⟩ : ∃ W, V35.alloc (.cells #[.slice none 0 0, .slice none 0 0, .slice none 0 0] 46) = W := ⟨_, rfl⟩
            have HX_60 := Lib.hid (show Fr Nob V35 V60 by rw [← hV60]; exact (Fr.refl _ _).alloc _)
            have HB_60 := Lib.hid (show Blk V60 c60 [.slice none 0 0, .slice none 0 0, .slice none 0 0] 46 by rw [← hV60, ← hc60]; exact Blk.new _ _ _)
            have HF_60 := Lib.hid (HF_35.out.same HX_60.out)
            have HL_60 := Lib.hid (show W5.heap.size ≤ c60 by rw [← hc60]; exact HF_35.out.size)
            rw [hV60, hc60]
            clear hV60 hc60
            refine hK.out _ _ (HSS.out _ HF_60.out) (fun _ => ?_)
            clear hK K
            try simp only [List.getElem_toArray, List.getElem_cons_succ, List.getElem_cons_zero, Act.put, List.setIfInBounds_toArray, List.set_cons_zero, List.set_cons_succ]
            refine wpAnyH_ready (rs := [0, 5]) (by kernel_rfl) (by simp) (AllReadyH.cons (o := _) rfl (fun K hK => ?_) (AllReadyH.cons (o := _) rfl (fun K hK => ?_) AllReadyH.nil))
            · go_simp
              refine (house_any V60 (HHG.out.fr (HFw.out.same HF_60.out) (fun h => h))).mono ?_
              rintro e V61 ⟨⟨pp61, rs61, rfl, hS61, hC61⟩, hF61⟩
              have HS_61 := Lib.hid (hS61.mono (M' := Nob) (fun _ h => h.elim))
              have HC_61 := Lib.hid hC61
              have HX_61 := Lib.hid hF61
              have HF_61 := Lib.hid (HF_60.out.same hF61)
              clear hS61 hC61 hF61
              go_wp2_with fail
              refine hK.out _ _ (HSS.out _ HF_61.out) (fun _ => ?_)
              clear hK K
              try simp only [List.getElem_toArray, List.getElem_cons_succ, List.getElem_cons_zero, Act.put, List.setIfInBounds_toArray, List.set_cons_zero, List.set_cons_succ]
              refine wpAnyH_ready (rs := [5]) (by kernel_rfl) (by simp) (AllReadyH.cons (o := _) rfl (fun K hK => ?_) AllReadyH.nil)
              go_simp
              obtain ⟨c62, hc62⟩ : ∃ b, V61.heap.size = b := ⟨_, rfl⟩
              obtain ⟨V62, hV62⟩ : ∃ W, V61.alloc (.cells #[.int .i64 0, .int .i64 (1 + (q : Int)), .int .i64 (1 + (q : Int)), .int .i64 0, .int .i64 0, .int .i64 0, .slice (some ⟨by', 0, none⟩) 1 1, .int .i64 0] 24) = W := ⟨_, rfl⟩
              have HX_62 := Lib.hid (show Fr Nob V61 V62 by rw [← hV62]; exact (Fr.refl _ _).alloc _)
              have HB_62 := Lib.hid (show Blk V62 c62 [.int .i64 0, .int .i64 (1 + (q : Int)), .int .i64 (1 + (q : Int)), .int .i64 0, .int .i64 0, .int .i64 0, .slice (some ⟨by', 0, none⟩) 1 1, .int .i64 0] 24 by rw [← hV62, ← hc62]; exact Blk.new _ _ _)
              have HF_62 := Lib.hid (HF_61.out.same HX_62.out)
              rw [hV62, hc62]
              clear hV62 hc62
              refine hK.out _ _ (HSS.out _ HF_62.out) (fun _ => ?_)
              clear hK K
              try simp only [List.getElem_toArray, List.getElem_cons_succ, List.getElem_cons_zero, Act.put, List.setIfInBounds_toArray, List.set_cons_zero, List.set_cons_succ]
              refine wpAnyH_ready (rs := [6]) (by kernel_rfl) (by simp) (AllReadyH.cons (o := _) rfl (fun K hK => ?_) AllReadyH.nil)
              go_simp
              refine (texts_call pp61 rs61 HC_61.out j p q hpk hqk hk40 g2 cap2 dl HDL.out c35 c62 bx by' V62 (HS_61.out.fr0 HX_62.out) (HD5.out.fr HF_62.out (fun _ _ h => h.elim)) HDC.out (((HB_35.out.fr HX_60.out (fun h => h)).fr HX_61.out (fun h => h)).fr HX_62.out (fun h => h)) HB_62.out (HBX.out.fr HF_62.out (fun h => h)) (HBY.out.fr HF_62.out (fun h => h))).mono ?_
              rintro e V63 ⟨DA, dc, SA, sc, KA, kc, rfl, hD63, hFU63⟩
              have HX_63 := Lib.hid hFU63
              have HD_63 := Lib.hid hD63
              have HF_63 := Lib.hid (HF_62.out.same hFU63)
              clear hD63 hFU63
              go_wp2_with fail
              refine hK.out _ _ (HSS.out _ HF_63.out) (fun _ => ?_)
              clear hK K
              try simp only [List.getElem_toArray, List.getElem_cons_succ, List.getElem_cons_zero, Act.put, List.setIfInBounds_toArray, List.set_cons_zero, List.set_cons_succ]
              refine wpAnyH_take (i := 7) (v := .tuple #[.agg #[.slice DA (j + 4) dc, .slice SA 1 sc, .slice KA 1 kc], .int .i64 0]) rfl (by kernel_rfl) (by kernel_rfl) (by kernel_rfl) (fun _ _ _ h => h) (Or.inl ⟨by rfl, fun _ _ => by go_simp⟩) (HSS.out _ HF_63.out) ?_
              refine wpAnyH_take (i := 8) (v := .agg #[.slice DA (j + 4) dc, .slice SA 1 sc, .slice KA 1 kc]) rfl (by kernel_rfl) (by kernel_rfl) (by kernel_rfl) (fun _ _ _ h => h) (Or.inl ⟨by rfl, fun _ _ => by go_simp⟩) (HSS.out _ HF_63.out) ?_
              refine wpAnyH_take (i := 9) (v := .int .i64 0) rfl (by kernel_rfl) (by kernel_rfl) (by kernel_rfl) (fun _ _ _ h => h) (Or.inl ⟨by rfl, fun _ _ => by go_simp⟩) (HSS.out _ HF_63.out) ?_
              try simp only [List.getElem_toArray, List.getElem_cons_succ, List.getElem_cons_zero, Act.put, List.setIfInBounds_toArray, List.set_cons_zero, List.set_cons_succ]
              refine wpAnyH_ready (rs := [11]) (by kernel_rfl) (by simp) (AllReadyH.cons (o := _) rfl (fun K hK => ?_) AllReadyH.nil)
              have x0 := (((HB_60.out.fr HX_61.out (fun h => h)).fr HX_62.out (fun h => h)).fr HX_63.out (fun h => h)).cell 0
              have x1 := (((HB_60.out.fr HX_61.out (fun h => h)).fr HX_62.out (fun h => h)).fr HX_63.out (fun h => h)).cell 1
              have x2 := (((HB_60.out.fr HX_61.out (fun h => h)).fr HX_62.out (fun h => h)).fr HX_63.out (fun h => h)).cell 2
              have f0 := (((HB_60.out.fr HX_61.out (fun h => h)).fr HX_62.out (fun h => h)).fr HX_63.out (fun h => h)).frozen 0
              have f1 := (((HB_60.out.fr HX_61.out (fun h => h)).fr HX_62.out (fun h => h)).fr HX_63.out (fun h => h)).frozen 1
              have f2 := (((HB_60.out.fr HX_61.out (fun h => h)).fr HX_62.out (fun h => h)).fr HX_63.out (fun h => h)).frozen 2
              have xl := (((HB_60.out.fr HX_61.out (fun h => h)).fr HX_62.out (fun h => h)).fr HX_63.out (fun h => h)).lt
              simp only [List.getElem?_cons_zero, List.getElem?_cons_succ] at x0 x1 x2
              go_simp
              clear x0 x1 x2 f0 f1 f2 xl
              obtain ⟨V64, hV64⟩ : ∃ W, ((V63.setCell ⟨c60, 0, none⟩ (.slice DA (j + 4) dc)).setCell ⟨c60, 1, none⟩ (.slice SA 1 sc)).setCell ⟨c60, 2, none⟩ (.slice KA 1 kc) = W := ⟨_, rfl⟩
              have HZ_64 := Lib.hid (store3 (((HB_60.out.fr HX_61.out (fun h => h)).fr HX_62.out (fun h => h)).fr HX_63.out (fun h => h)) _ _ _ V64 hV64)
              have HF_64 := Lib.hid (show Fr Nob W5 V64 from HF_63.out.trans HZ_64.out.2 (fun i hi e => by have h1 : i = c60 := e; have := HL_60.out; omega))
              rw [hV64]
              clear hV64
              refine hK.out _ _ (HSS.out _ HF_64.out) (fun _ => ?_)
              clear hK K
              try simp only [List.getElem_toArray, List.getElem_cons_succ, List.getElem_cons_zero, Act.put, List.setIfInBounds_toArray, List.set_cons_zero, List.set_cons_succ]
              refine wpAnyH_take (i := 12) (v := .int .i64 0) rfl (by kernel_rfl) (by kernel_rfl) (by kernel_rfl) (fun _ _ _ h => h) (Or.inl ⟨by rfl, fun _ _ => by go_simp⟩) (HSS.out _ HF_64.out) ?_
              refine wpAnyH_done (by kernel_rfl) ?_ _
              go_wp2_with fail
              go_meet
              exact ⟨_, DA, dc, SA, sc, KA, kc, rfl, rfl, HZ_64.out.1, texts_doc HD_63.out (((HB_60.out.fr HX_61.out (fun h => h)).fr HX_62.out (fun h => h)).fr HX_63.out (fun h => h)) HZ_64.out.2, HFw.out.same HF_64.out⟩
            · go_simp
              obtain ⟨c65, hc65⟩ : ∃ b, V60.heap.size = b := ⟨_, rfl⟩
              obtain ⟨V65, hV65⟩ : ∃ W, V60.alloc (.cells #[.int .i64 0, .int .i64 (1 + (q : Int)), .int .i64 (1 + (q : Int)), .int .i64 0, .int .i64 0, .int .i64 0, .slice (some ⟨by', 0, none⟩) 1 1, .int .i64 0] 24) = W := ⟨_, rfl⟩
              have HX_65 := Lib.hid (show Fr Nob V60 V65 by rw [← hV65]; exact (Fr.refl _ _).alloc _)
              have HB_65 := Lib.hid (show Blk V65 c65 [.int .i64 0, .int .i64 (1 + (q : Int)), .int .i64 (1 + (q : Int)), .int .i64 0, .int .i64 0, .int .i64 0, .slice (some ⟨by', 0, none⟩) 1 1, .int .i64 0] 24 by rw [← hV65, ← hc65]; exact Blk.new _ _ _)
              have HF_65 := Lib.hid (HF_60.out.same HX_65.out)
              rw [hV65, hc65]
              clear hV65 hc65
              refine hK.out _ _ (HSS.out _ HF_65.out) (fun _ => ?_)
              clear hK K
              try simp only [List.getElem_toArray, List.getElem_cons_succ, List.getElem_cons_zero, Act.put, List.setIfInBounds_toArray, List.set_cons_zero, List.set_cons_succ]
              refine wpAnyH_ready (rs := [0]) (by kernel_rfl) (by simp) (AllReadyH.cons (o := _) rfl (fun K hK => ?_) AllReadyH.nil)
              go_simp
              refine (house_any V65 (HHG.out.fr (HFw.out.same HF_65.out) (fun h => h))).mono ?_
              rintro e V66 ⟨⟨pp66, rs66, rfl, hS66, hC66⟩, hF66⟩
              have HS_66 := Lib.hid (hS66.mono (M' := Nob) (fun _ h => h.elim))
              have HC_66 := Lib.hid hC66
              have HX_66 := Lib.hid hF66
              have HF_66 := Lib.hid (HF_65.out.same hF66)
              clear hS66 hC66 hF66
              go_wp2_with fail
              refine hK.out _ _ (HSS.out _ HF_66.out) (fun _ => ?_)
              clear hK K
              try simp only [List.getElem_toArray, List.getElem_cons_succ, List.getElem_cons_zero, Act.put, List.setIfInBounds_toArray, List.set_cons_zero, List.set_cons_succ]
              refine wpAnyH_ready (rs := [6]) (by kernel_rfl) (by simp) (AllReadyH.cons (o := _) rfl (fun K hK => ?_) AllReadyH.nil)
              go_simp
              refine (texts_call pp66 rs66 HC_66.out j p q hpk hqk hk40 g2 cap2 dl HDL.out c35 c65 bx by' V66 HS_66.out (HD5.out.fr HF_66.out (fun _ _ h => h.elim)) HDC.out (((HB_35.out.fr HX_60.out (fun h => h)).fr HX_65.out (fun h => h)).fr HX_66.out (fun h => h)) (HB_65.out.fr HX_66.out (fun h => h)) (HBX.out.fr HF_66.out (fun h => h)) (HBY.out.fr HF_66.out (fun h => h))).mono ?_
              rintro e V67 ⟨DA, dc, SA, sc, KA, kc, rfl, hD67, hFU67⟩
              have HX_67 := Lib.hid hFU67
              have HD_67 := Lib.hid hD67
              have HF_67 := Lib.hid (HF_66.out.same hFU67)
              clear hD67 hFU67
              go_wp2_with fail
              refine hK.out _ _ (HSS.out _ HF_67.out) (fun _ => ?_)
              clear hK K
              try simp only [List.getElem_toArray, List.getElem_cons_succ, List.getElem_cons_zero, Act.put, List.setIfInBounds_toArray, List.set_cons_zero, List.set_cons_succ]
              refine wpAnyH_take (i := 7) (v := .tuple #[.agg #[.slice DA (j + 4) dc, .slice SA 1 sc, .slice KA 1 kc], .int .i64 0]) rfl (by kernel_rfl) (by kernel_rfl) (by kernel_rfl) (fun _ _ _ h => h) (Or.inl ⟨by rfl, fun _ _ => by go_simp⟩) (HSS.out _ HF_67.out) ?_
              refine wpAnyH_take (i := 8) (v := .agg #[.slice DA (j + 4) dc, .slice SA 1 sc, .slice KA 1 kc]) rfl (by kernel_rfl) (by kernel_rfl) (by kernel_rfl) (fun _ _ _ h => h) (Or.inl ⟨by rfl, fun _ _ => by go_simp⟩) (HSS.out _ HF_67.out) ?_
              refine wpAnyH_take (i := 9) (v := .int .i64 0) rfl (by kernel_rfl) (by kernel_rfl) (by kernel_rfl) (fun _ _ _ h => h) (Or.inl ⟨by rfl, fun _ _ => by go_simp⟩) (HSS.out _ HF_67.out) ?_
              try simp only [List.getElem_toArray, List.getElem_cons_succ, List.getElem_cons_zero, Act.put, List.setIfInBounds_toArray, List.set_cons_zero, List.set_cons_succ]
              refine wpAnyH_ready (rs := [11]) (by kernel_rfl) (by simp) (AllReadyH.cons (o := _) rfl (fun K hK => ?_) AllReadyH.nil)
              have x0 := (((HB_60.out.fr HX_65.out (fun h => h)).fr HX_66.out (fun h => h)).fr HX_67.out (fun h => h)).cell 0
              have x1 := (((HB_60.out.fr HX_65.out (fun h => h)).fr HX_66.out (fun h => h)).fr HX_67.out (fun h => h)).cell 1
              have x2 := (((HB_60.out.fr HX_65.out (fun h => h)).fr HX_66.out (fun h => h)).fr HX_67.out (fun h => h)).cell 2
              have f0 := (((HB_60.out.fr HX_65.out (fun h => h)).fr HX_66.out (fun h => h)).fr HX_67.out (fun h => h)).frozen 0
              have f1 := (((HB_60.out.fr HX_65.out (fun h => h)).fr HX_66.out (fun h => h)).fr HX_67.out (fun h => h)).frozen 1
              have f2 := (((HB_60.out.fr HX_65.out (fun h => h)).fr HX_66.out (fun h => h)).fr HX_67.out (fun h => h)).frozen 2
              have xl := (((HB_60.out.fr HX_65.out (fun h => h)).fr HX_66.out (fun h => h)).fr HX_67.out (fun h => h)).lt
              simp only [List.getElem?_cons_zero, List.getElem?_cons_succ] at x0 x1 x2
              go_simp
              clear x0 x1 x2 f0 f1 f2 xl
              obtain ⟨V68, hV68⟩ : ∃ W, ((V67.setCell ⟨c60, 0, none⟩ (.slice DA (j + 4) dc)).setCell ⟨c60, 1, none⟩ (.slice SA 1 sc)).setCell ⟨c60, 2, none⟩ (.slice KA 1 kc) = W := ⟨_, rfl⟩
              have HZ_68 := Lib.hid (store3 (((HB_60.out.fr HX_65.out (fun h => h)).fr HX_66.out (fun h => h)).fr HX_67.out (fun h => h)) _ _ _ V68 hV68)
              have HF_68 := Lib.hid (show Fr Nob W5 V68 from HF_67.out.trans HZ_68.out.2 (fun i hi e => by have h1 : i = c60 := e; have := HL_60.out; omega))
              rw [hV68]
              clear hV68
              refine hK.out _ _ (HSS.out _ HF_68.out) (fun _ => ?_)
              clear hK K
              try simp only [List.getElem_toArray, List.getElem_cons_succ, List.getElem_cons_zero, Act.put, List.setIfInBounds_toArray, List.set_cons_zero, List.set_cons_succ]
              refine wpAnyH_take (i := 12) (v := .int .i64 0) rfl (by kernel_rfl) (by kernel_rfl) (by kernel_rfl) (fun _ _ _ h => h) (Or.inl ⟨by rfl, fun _ _ => by go_simp⟩) (HSS.out _ HF_68.out) ?_
              refine wpAnyH_done (by kernel_rfl) ?_ _
              go_wp2_with fail
              go_meet
              exact ⟨_, DA, dc, SA, sc, KA, kc, rfl, rfl, HZ_68.out.1, texts_doc HD_67.out (((HB_60.out.fr HX_65.out (fun h => h)).fr HX_66.out (fun h => h)).fr HX_67.out (fun h => h)) HZ_68.out.2, HFw.out.same HF_68.out⟩
        · go_simp
          obtain ⟨c69, hc69⟩ : ∃ b, wd.heap.size = b := ⟨_, rfl⟩
          obtain ⟨V69, hV69⟩ : ∃ W, wd.alloc (.cells #[.int .i64 0, .int .i64 (1 + (q : Int)), .int .i64 (1 + (q : Int)), .int .i64 0, .int .i64 0, .int .i64 0, .slice (some ⟨by', 0, none⟩) 1 1, .int .i64 0] 24) = W := ⟨_, rfl⟩
          have HX_69 := Lib.hid (show Fr Nob wd V69 by rw [← hV69]; exact (Fr.refl _ _).alloc _)
          have HB_69 := Lib.hid (show Blk V69 c69 [.int .i64 0, .int .i64 (1 + (q : Int)), .int .i64 (1 + (q : Int)), .int .i64 0, .int .i64 0, .int .i64 0, .slice (some ⟨by', 0, none⟩) 1 1, .int .i64 0] 24 by rw [← hV69, ← hc69]; exact Blk.new _ _ _)
          have HF_69 := Lib.hid (HF0.out.same HX_69.out)
          rw [hV69, hc69]
          clear hV69 hc69
          refine hK.out _ _ (HSS.out _ HF_69.out) (fun _ => ?_)
          clear hK K
          try simp only [List.getElem_toArray, List.getElem_cons_succ, List.getElem_cons_zero, Act.put, List.setIfInBounds_toArray, List.set_cons_zero, List.set_cons_succ]
          refine wpAnyH_ready (rs := [0, 3, 10]) (by kernel_rfl) (by simp) (AllReadyH.cons (o := _) rfl (fun K hK => ?_) (AllReadyH.cons (o := _) rfl (fun K hK => ?_) (AllReadyH.cons (o := _) rfl (fun K hK => ?_) AllReadyH.nil)))
          · go_simp
            refine (house_any V69 (HHG.out.fr (HFw.out.same HF_69.out) (fun h => h))).mono ?_
            rintro e V70 ⟨⟨pp70, rs70, rfl, hS70, hC70⟩, hF70⟩
            have HS_70 := Lib.hid (hS70.mono (M' := Nob) (fun _ h => h.elim))
            have HC_70 := Lib.hid hC70
            have HX_70 := Lib.hid hF70
            have HF_70 := Lib.hid (HF_69.out.same hF70)
            clear hS70 hC70 hF70
            go_wp2_with fail
            refine hK.out _ _ (HSS.out _ HF_70.out) (fun _ => ?_)
            clear hK K
            try simp only [List.getElem_toArray, List.getElem_cons_succ, List.getElem_cons_zero, Act.put, List.setIfInBounds_toArray, List.set_cons_zero, List.set_cons_succ]
            refine wpAnyH_ready (rs := [3, 10]) (by kernel_rfl) (by simp) (AllReadyH.cons (o := _) rfl (fun K hK => ?_) (AllReadyH.cons (o := _) rfl (fun K hK => ?_) AllReadyH.nil))
            · go_simp
              obtain ⟨c71, hc71⟩ : ∃ b, V70.heap.size = b := ⟨_, rfl⟩
              obtain ⟨V71, hV71⟩ : ∃ W, V70.alloc (.cells #[.int .i64 0, .int .i64 (1 + (p : Int)), .int .i64 (1 + (p : Int)), .int .i64 0, .int .i64 0, .int .i64 0, .slice (some ⟨bx, 0, none⟩) 1 1, .int .i64 0] 24) = W := ⟨_, rfl⟩
              have HX_71 := Lib.hid (show Fr Nob V70 V71 by rw [← hV71]; exact (Fr.refl _ _).alloc _)
              have HB_71 := Lib.hid (show Blk V71 c71 [.int .i64 0, .int .i64 (1 + (p : Int)), .int .i64 (1 + (p : Int)), .int .i64 0, .int .i64 0, .int .i64 0, .slice (some ⟨bx, 0, none⟩) 1 1, .int .i64 0] 24 by rw [← hV71, ← hc71]; exact Blk.new _ _ _)
              have HF_71 := Lib.hid (HF_70.out.same HX_71.out)
              rw [hV71, hc71]
              clear hV71 hc71
              refine hK.out _ _ (HSS.out _ HF_71.out) (fun _ => ?_)
              clear hK K
              try simp only [List.getElem_toArray, List.getElem_cons_succ, List.getElem_cons_zero, Act.put, List.setIfInBounds_toArray, List.set_cons_zero, List.set_cons_succ]
              refine wpAnyH_ready (rs := [6, 10]) (by kernel_rfl) (by simp) (AllReadyH.cons (o := _) rfl (fun K hK => ?_) (AllReadyH.cons (o := _) rfl (fun K hK => ?_) AllReadyH.nil))
              · go_simp
                refine (texts_call pp70 rs70 HC_70.out j p q hpk hqk hk40 g2 cap2 dl HDL.out c71 c69 bx by' V71 (HS_70.out.fr0 HX_71.out) (HD5.out.fr HF_71.out (fun _ _ h => h.elim)) HDC.out HB_71.out ((HB_69.out.fr HX_70.out (fun h => h)).fr HX_71.out (fun h => h)) (HBX.out.fr HF_71.out (fun h => h)) (HBY.out.fr HF_71.out (fun h => h))).mono ?_
                rintro e V72 ⟨DA, dc, SA, sc, KA, kc, rfl, hD72, hFU72⟩
                have HX_72 := Lib.hid hFU72
                have HD_72 := Lib.hid hD72
                have HF_72 := Lib.hid (HF_71.out.same hFU72)
                clear hD72 hFU72
                go_wp2_with fail
                refine hK.out _ _ (HSS.out _ HF_72.out) (fun _ => ?_)
                clear hK K
                try simp only [List.getElem_toArray, List.getElem_cons_succ, List.getElem_cons_zero, Act.put, List.setIfInBounds_toArray, List.set_cons_zero, List.set_cons_succ]
                refine wpAnyH_take (i := 7) (v := .tuple #[.agg #[.slice DA (j + 4) dc, .slice SA 1 sc, .slice KA 1 kc], .int .i64 0]) rfl (by kernel_rfl) (by kernel_rfl) (by kernel_rfl) (fun _ _ _ h => h) (Or.inl ⟨by rfl, fun _ _ => by go_simp⟩) (HSS.out _ HF_72.out) ?_
                refine wpAnyH_take (i := 8) (v := .agg #[.slice DA (j + 4) dc, .slice SA 1 sc, .slice KA 1 kc]) rfl (by kernel_rfl) (by kernel_rfl) (by kernel_rfl) (fun _ _ _ h => h) (Or.inl ⟨by rfl, fun _ _ => by go_simp⟩) (HSS.out _ HF_72.out) ?_
                refine wpAnyH_take (i := 9) (v := .int .i64 0) rfl (by kernel_rfl) (by kernel_rfl) (by kernel_rfl) (fun _ _ _ h => h) (Or.inl ⟨by rfl, fun _ _ => by go_simp⟩) (HSS.out _ HF_72.out) ?_
                try simp only [List.getElem_toArray, List.getElem_cons_succ, List.getElem_cons_zero, Act.put, List.setIfInBounds_toArray, List.set_cons_zero, List.set_cons_succ]
                refine wpAnyH_ready (rs := [10]) (by kernel_rfl) (by simp) (AllReadyH.cons (o := _) rfl (fun K hK => ?_) AllReadyH.nil)
                go_simp
                obtain ⟨c73, hc73⟩ : ∃ b, V72.heap.size = b := ⟨_, rfl⟩
                obtain ⟨V73, hV73⟩ : ∃ W, V72.alloc (.cells #[.slice none 0 0, .slice none 0 0, .slice none 0 0] 46) = W := ⟨_, rfl⟩
                have HX_73 := Lib.hid (show Fr Nob V72 V73 by rw [← hV73]; exact (Fr.refl _ _).alloc _)
                have HB_73 := Lib.hid (show Blk V73 c73 [.slice none 0 0, .slice none 0 0, .slice none 0 0] 46 by rw [← hV73, ← hc73]; exact Blk.new _ _ _)
                have HF_73 := Lib.hid (HF_72.out.same HX_73.out)
                have HL_73 := Lib.hid (show W5.heap.size ≤ c73 by rw [← hc73]; exact HF_72.out.size)
                rw [hV73, hc73]
                clear hV73 hc73
                refine hK.out _ _ (HSS.out _ HF_73.out) (fun _ => ?_)
                clear hK K
                try simp only [List.getElem_toArray, List.getElem_cons_succ, List.getElem_cons_zero, Act.put, List.setIfInBounds_toArray, List.set_cons_zero, List.set_cons_succ]
                refine wpAnyH_ready (rs := [11]) (by kernel_rfl) (by simp) (AllReadyH.cons (o := _) rfl (fun K hK => ?_) AllReadyH.nil)
                have x0 := HB_73.out.cell 0
                have x1 := HB_73.out.cell 1
                have x2 := HB_73.out.cell 2
                have f0 := HB_73.out.frozen 0
                have f1 := HB_73.out.frozen 1
                have f2 := HB_73.out.frozen 2
                have xl := HB_73.out.lt
                simp only [List.getElem?_cons_zero, List.getElem?_cons_succ] at x0 x1 x2
                go_simp
                clear x0 x1 x2 f0 f1 f2 xl
                obtain ⟨V74, hV74⟩ : ∃ W, ((V73.setCell ⟨c73, 0, none⟩ (.slice DA (j + 4) dc)).setCell ⟨c73, 1, none⟩ (.slice SA 1 sc)).setCell ⟨c73, 2, none⟩ (.slice KA 1 kc) = W := ⟨_, rfl⟩
                have HZ_74 := Lib.hid (store3 HB_73.out _ _ _ V74 hV74)
                have HF_74 := Lib.hid (show Fr Nob W5 V74 from HF_73.out.trans HZ_74.out.2 (fun i hi e => by have h1 : i = c73 := e; have := HL_73.out; omega))
                rw [hV74]
                clear hV74
                refine hK.out _ _ (HSS.out _ HF_74.out) (fun _ => ?_)
                clear hK K
                try simp only [List.getElem_toArray, List.getElem_cons_succ, List.getElem_cons_zero, Act.put, List.setIfInBounds_toArray, List.set_cons_zero, List.set_cons_succ]
                refine wpAnyH_take (i := 12) (v := .int .i64 0) rfl (by kernel_rfl) (by kernel_rfl) (by kernel_rfl) (fun _ _ _ h => h) (Or.inl ⟨by rfl, fun _ _ => by go_simp⟩) (HSS.out _ HF_74.out) ?_
                refine wpAnyH_done (by kernel_rfl) ?_ _
                go_wp2_with fail
                go_meet
                exact ⟨_, DA, dc, SA, sc, KA, kc, rfl, rfl, HZ_74.out.1, texts_doc (HD_72.out.fr HX_73.out (fun _ _ h => h.elim)) HB_73.out HZ_74.out.2, HFw.out.same HF_74.out⟩
              · go_simp
                obtain ⟨c75, hc75⟩ : ∃ b, V71.heap.size = b := ⟨_, rfl⟩
                obtain ⟨V75, hV75⟩ : ∃ W, V71.alloc (.cells #[.slice none 0 0, .slice none 0 0, .slice none 0 0] 46) = W := ⟨_, rfl⟩
                have HX_75 := Lib.hid (show Fr Nob V71 V75 by rw [← hV75]; exact (Fr.refl _ _).alloc _)
                have HB_75 := Lib.hid (show Blk V75 c75 [.slice none 0 0, .slice none 0 0, .slice none 0 0] 46 by rw [← hV75, ← hc75]; exact Blk.new _ _ _)
                have HF_75 := Lib.hid (HF_71.out.same HX_75.out)
                have HL_75 := Lib.hid (show W5.heap.size ≤ c75 by rw [← hc75]; exact HF_71.out.size)
                rw [hV75, hc75]
                clear hV75 hc75
                refine hK.out _ _ (HSS.out _ HF_75.out) (fun _ => ?_)
                clear hK K
                try simp only [List.getElem_toArray, List.getElem_cons_succ, List.getElem_cons_zero, Act.put, List.setIfInBounds_toArray, List.set_cons_zero, List.set_cons_succ]
                refine wpAnyH_ready (rs := [6]) (by kernel_rfl) (by simp) (AllReadyH.cons (o := _) rfl (fun K hK => ?_) AllReadyH.nil)
                go_simp
                refine (texts_call pp70 rs70 HC_70.out j p q hpk hqk hk40 g2 cap2 dl HDL.out c71 c69 bx by' V75 ((HS_70.out.fr0 HX_71.out).fr0 HX_75.out) (HD5.out.fr HF_75.out (fun _ _ h => h.elim)) HDC.out (HB_71.out.fr HX_75.out (fun h => h)) (((HB_69.out.fr HX_70.out (fun h => h)).fr HX_71.out (fun h => h)).fr HX_75.out (fun h => h)) (HBX.out.fr HF_75.out (fun h => h)) (HBY.out.fr HF_75.out (fun h => h))).mono ?_
                rintro e V76 ⟨DA, dc, SA, sc, KA, kc, rfl, hD76, hFU76⟩
                have HX_76 := Lib.hid hFU76
                have HD_76 := Lib.hid hD76
                have HF_76 := Lib.hid (HF_75.out.same hFU76)
                clear hD76 hFU76
                go_wp2_with fail
                refine hK.out _ _ (HSS.out _ HF_76.out) (fun _ => ?_)
                clear hK K
                try simp only [List.getElem_toArray, List.getElem_cons_succ, List.getElem_cons_zero, Act.put, List.setIfInBounds_toArray, List.set_cons_zero, List.set_cons_succ]
                refine wpAnyH_take (i := 7) (v := .tuple #[.agg #[.slice DA (j + 4) dc, .slice SA 1 sc, .slice KA 1 kc], .int .i64 0]) rfl (by kernel_rfl) (by kernel_rfl) (by kernel_rfl) (fun _ _ _ h => h) (Or.inl ⟨by rfl, fun _ _ => by go_simp⟩) (HSS.out _ HF_76.out) ?_
                refine wpAnyH_take (i := 8) (v := .agg #[.slice DA (j + 4) dc, .slice SA 1 sc, .slice KA 1 kc]) rfl (by kernel_rfl) (by kernel_rfl) (by kernel_rfl) (fun _ _ _ h => h) (Or.inl ⟨by rfl, fun _ _ => by go_simp⟩) (HSS.out _ HF_76.out) ?_
                refine wpAnyH_take (i := 9) (v := .int .i64 0) rfl (by kernel_rfl) (by kernel_rfl) (by kernel_rfl) (fun _ _ _ h => h) (Or.inl ⟨by rfl, fun _ _ => by go_simp⟩) (HSS.out _ HF_76.out) ?_
                try simp only [List.getElem_toArray, List.getElem_cons_succ, List.getElem_cons_zero, Act.put, List.setIfInBounds_toArray, List.set_cons_zero, List.set_cons_succ]
                refine wpAnyH_ready (rs := [11]) (by kernel_rfl) (by simp) (AllReadyH.cons (o := _) rfl (fun K hK => ?_) AllReadyH.nil)
                have x0 := (HB_75.out.fr HX_76.out (fun h => h)).cell 0
                have x1 := (HB_75.out.fr HX_76.out (fun h => h)).cell 1
                have x2 := (HB_75.out.fr HX_76.out (fun h => h)).cell 2
                have f0 := (HB_75.out.fr HX_76.out (fun h => h)).frozen 0
                have f1 := (HB_75.out.fr HX_76.out (fun h => h)).frozen 1
                have f2 := (HB_75.out.fr HX_76.out (fun h => h)).frozen 2
                have xl := (HB_75.out.fr HX_76.out (fun h => h)).lt
                simp only [List.getElem?_cons_zero, List.getElem?_cons_succ] at x0 x1 x2
                go_simp
                clear x0 x1 x2 f0 f1 f2 xl
                obtain ⟨V77, hV77⟩ : ∃ W, ((V76.setCell ⟨c75, 0, none⟩ (.slice DA (j + 4) dc)).setCell ⟨c75, 1, none⟩ (.slice SA 1 sc)).setCell ⟨c75, 2, none⟩ (.slice KA 1 kc) = W := ⟨_, rfl⟩
                have HZ_77 := Lib.hid (store3 (HB_75.out.fr HX_76.out (fun h => h)) _ _ _ V77 hV77)
                have HF_77 := Lib.hid (show Fr Nob W5 V77 from HF_76.out.trans HZ_77.out.2 (fun i hi e => by have h1 : i = c75 := e; have := HL_75.out; omega))
                rw [hV77]
                clear hV77
                refine hK.out _ _ (HSS.out _ HF_77.out) (fun _ => ?_)
                clear hK K
                try simp only [List.getElem_toArray, List.getElem_cons_succ, List.getElem_cons_zero, Act.put, List.setIfInBounds_toArray, List.set_cons_zero, List.set_cons_succ]
                refine wpAnyH_take (i := 12) (v := .int .i64 0) rfl (by kernel_rfl) (by kernel_rfl) (by kernel_rfl) (fun _ _ _ h => h) (Or.inl ⟨by rfl, fun _ _ => by go_simp⟩) (HSS.out _ HF_77.out) ?_
                refine wpAnyH_done (by kernel_rfl) ?_ _
                go_wp2_with fail
                go_meet
                exact ⟨_, DA, dc, SA, sc, KA, kc, rfl, rfl, HZ_77.out.1, texts_doc HD_76.out (HB_75.out.fr HX_76.out (fun h => h)) HZ_77.out.2, HFw.out.same HF_77.out⟩
            · go_simp
              obtain ⟨c78, hc78⟩ : ∃ b, V70.heap.size = b := ⟨_, rfl⟩
              obtain ⟨V78, hV78⟩ : ∃ W, V70.alloc (.cells #[.slice none 0 0, .slice none 0 0, .slice none 0 0] 46) = W := ⟨_, rfl⟩
              have HX_78 := Lib.hid (show Fr Nob V70 V78 by rw [← hV78]; exact (Fr.refl _ _).alloc _)
              have HB_78 := Lib.hid (show Blk V78 c78 [.slice none 0 0, .slice none 0 0, .slice none 0 0] 46 by rw [← hV78, ← hc78]; exact Blk.new _ _ _)
              have HF_78 := Lib.hid (HF_70.out.same HX_78.out)
              have HL_78 := Lib.hid (show W5.heap.size ≤ c78 by rw [← hc78]; exact HF_70.out.size)
              rw [hV78, hc78]
              clear hV78 hc78
              refine hK.out _ _ (HSS.out _ HF_78.out) (fun _ => ?_)
              clear hK K
              try simp only [List.getElem_toArray, List.getElem_cons_succ, List.getElem_cons_zero, Act.put, List.setIfInBounds_toArray, List.set_cons_zero, List.set_cons_succ]
              refine wpAnyH_ready (rs := [3]) (by kernel_rfl) (by simp) (AllReadyH.cons (o := _) rfl (fun K hK => ?_) AllReadyH.nil)
              go_simp
              obtain ⟨c79, hc79⟩ : ∃ b, V78.heap.size = b := ⟨_, rfl⟩
              obtain ⟨V79, hV79⟩ : ∃ W, V78.alloc (.cells #[.int .i64 0, .int .i64 (1 + (p : Int)), .int .i64 (1 + (p : Int)), .int .i64 0, .int .i64 0, .int .i64 0, .slice (some ⟨bx, 0, none⟩) 1 1, .int .i64 0] 24) = W := ⟨_, rfl⟩
              have HX_79 := Lib.hid (show Fr Nob V78 V79 by rw [← hV79]; exact (Fr.refl _ _).alloc _)
              have HB_79 := Lib.hid (show Blk V79 c79 [.int .i64 0, .int .i64 (1 + (p : Int)), .int .i64 (1 + (p : Int)), .int .i64 0, .int .i64 0, .int .i64 0, .slice (some ⟨bx, 0, none⟩) 1 1, .int .i64 0] 24 by rw [← hV79, ← hc79]; exact Blk.new _ _ _)
              have HF_79 := Lib.hid (HF_78.out.same HX_79.out)
              rw [hV79, hc79]
              clear hV79 hc79
              refine hK.out _ _ (HSS.out _ HF_79.out) (fun _ => ?_)
              clear hK K
              try simp only [List.getElem_toArray, List.getElem_cons_succ, List.getElem_cons_zero, Act.put, List.setIfInBounds_toArray, List.set_cons_zero, List.set_cons_succ]
              refine wpAnyH_ready (rs := [6]) (by kernel_rfl) (by simp) (AllReadyH.cons (o := _) rfl (fun K hK => ?_) AllReadyH.nil)
              go_simp
              refine (texts_call pp70 rs70 HC_70.out j p q hpk hqk hk40 g2 cap2 dl HDL.out c79 c69 bx by' V79 ((HS_70.out.fr0 HX_78.out).fr0 HX_79.out) (HD5.out.fr HF_79.out (fun _ _ h => h.elim)) HDC.out HB_79.out (((HB_69.out.fr HX_70.out (fun h => h)).fr HX_78.out (fun h => h)).fr HX_79.out (fun h => h)) (HBX.out.fr HF_79.out (fun h => h)) (HBY.out.fr HF_79.out (fun h => h))).mono ?_
              rintro e V80 ⟨DA, dc, SA, sc, KA, kc, rfl, hD80, hFU80⟩
              have HX_80 := Lib.hid hFU80
              have HD_80 := Lib.hid hD80
              have HF_80 := Lib.hid (HF_79.out.same hFU80)
              clear hD80 hFU80
              go_wp2_with fail
              refine hK.out _ _ (HSS.out _ HF_80.out) (fun _ => ?_)
              clear hK K
              try simp only [List.getElem_toArray, List.getElem_cons_succ, List.getElem_cons_zero, Act.put, List.setIfInBounds_toArray, List.set_cons_zero, List.set_cons_succ]
              refine wpAnyH_take (i := 7) (v := .tuple #[.agg #[.slice DA (j + 4) dc, .slice SA 1 sc, .slice KA 1 kc], .int .i64 0]) rfl (by kernel_rfl) (by kernel_rfl) (by kernel_rfl) (fun _ _ _ h => h) (Or.inl ⟨by rfl, fun _ _ => by go_simp⟩) (HSS.out _ HF_80.out) ?_
              refine wpAnyH_take (i := 8) (v := .agg #[.slice DA (j + 4) dc, .slice SA 1 sc, .slice KA 1 kc]) rfl (by kernel_rfl) (by kernel_rfl) (by kernel_rfl) (fun _ _ _ h => h) (Or.inl ⟨by rfl, fun _ _ => by go_simp⟩) (HSS.out _ HF_80.out) ?_
              refine wpAnyH_take (i := 9) (v := .int .i64 0) rfl (by kernel_rfl) (by kernel_rfl) (by kernel_rfl) (fun _ _ _ h => h) (Or.inl ⟨by rfl, fun _ _ => by go_simp⟩) (HSS.out _ HF_80.out) ?_
              try simp only [List.getElem_toArray, List.getElem_cons_succ, List.getElem_cons_zero, Act.put, List.setIfInBounds_toArray, List.set_cons_zero, List.set_cons_succ]
              refine wpAnyH_ready (rs := [11]) (by kernel_rfl) (by simp) (AllReadyH.cons (o := _) rfl (fun K hK => ?_) AllReadyH.nil)
              have x0 := ((HB_78.out.fr HX_79.out (fun h => h)).fr HX_80.out (fun h => h)).cell 0
              have x1 := ((HB_78.out.fr HX_79.out (fun h => h)).fr HX_80.out (fun h => h)).cell 1
              have x2 := ((HB_78.out.fr HX_79.out (fun h => h)).fr HX_80.out (fun h => h)).cell 2
              have f0 := ((HB_78.out.fr HX_79.out (fun h => h)).fr HX_80.out (fun h => h)).frozen 0
              have f1 := ((HB_78.out.fr HX_79.out (fun h => h)).fr HX_80.out (fun h => h)).frozen 1
              have f2 := ((HB_78.out.fr HX_79.out (fun h => h)).fr HX_80.out (fun h => h)).frozen 2
              have xl := ((HB_78.out.fr HX_79.out (fun h => h)).fr HX_80.out (fun h => h)).lt
              simp only [List.getElem?_cons_zero, List.getElem?_cons_succ] at x0 x1 x2
              go_simp
              clear x0 x1 x2 f0 f1 f2 xl
              obtain ⟨V81, hV81⟩ : ∃ W, ((V80.setCell ⟨c78, 0, none⟩ (.slice DA (j + 4) dc)).setCell ⟨c78, 1, none⟩ (.slice SA 1 sc)).setCell ⟨c78, 2, none⟩ (.slice KA 1 kc) = W := ⟨_, rfl⟩
              have HZ_81 := Lib.hid (store3 ((HB_78.out.fr HX_79.out (fun h => h)).fr HX_80.out (fun h => h)) _ _ _ V81 hV81)
              have HF_81 := Lib.hid (show Fr Nob W5 V81 from HF_80.out.trans HZ_81.out.2 (fun i hi e => by have h1 : i = c78 := e; have := HL_78.out; omega))
              rw [hV81]
              clear hV81
              refine hK.out _ _ (HSS.out _ HF_81.out) (fun _ => ?_)
              clear hK K
              try simp only [List.getElem_toArray, List.getElem_cons_succ, List.getElem_cons_zero, Act.put, List.setIfInBounds_toArray, List.set_cons_zero, List.set_cons_succ]
              refine wpAnyH_take (i := 12) (v := .int .i64 0) rfl (by kernel_rfl) (by kernel_rfl) (by kernel_rfl) (fun _ _ _ h => h) (Or.inl ⟨by rfl, fun _ _ => by go_simp⟩) (HSS.out _ HF_81.out) ?_
              refine wpAnyH_done (by kernel_rfl) ?_ _
              go_wp2_with fail
              go_meet
              exact ⟨_, DA, dc, SA, sc, KA, kc, rfl, rfl, HZ_81.out.1, texts_doc HD_80.out ((HB_78.out.fr HX_79.out (fun h => h)).fr HX_80.out (fun h => h)) HZ_81.out.2, HFw.out.same HF_81.out⟩
          · go_simp
            obtain ⟨c82, hc82⟩ : ∃ b, V69.heap.size = b := ⟨_, rfl⟩
            obtain ⟨V82, hV82⟩ : ∃ W, V69.alloc (.cells #[.int .i64 0, .int .i64 (1 + (p : Int)), .int .i64 (1 + (p : Int)), .int .i64 0, .int .i64 0, .int .i64 0, .slice (some ⟨bx, 0, none⟩) 1 1, .int .i64 0] 24) = W := ⟨_, rfl⟩
            have HX_82 := Lib.hid (show Fr Nob V69 V82 by rw [← hV82]; exact (Fr.refl _ _).alloc _)
            have HB_82 := Lib.hid (show Blk V82 c82 [.int .i64 0, .int .i64 (1 + (p : Int)), .int .i64 (1 + (p : Int)), .int .i64 0, .int .i64 0, .int .i64 0, .slice (some ⟨bx, 0, none⟩) 1 1, .int .i64 0] 24 by rw [← hV82, ← hc82]; exact Blk.new _ _ _)
            have HF_82 := Lib.hid (HF_69.out.same HX_82.out)
            rw [hV82, hc82]
            clear hV82 hc82
            refine hK.out _ _ (HSS.out _ HF_82.out) (fun _ => ?_)
            clear hK K
            try simp only [List.getElem_toArray, List.getElem_cons_succ, List.getElem_cons_zero, Act.put, List.setIfInBounds_toArray, List.set_cons_zero, List.set_cons_succ]
            refine wpAnyH_ready (rs := [0, 10]) (by kernel_rfl) (by simp) (AllReadyH.cons (o := _) rfl (fun K hK => ?_) (AllReadyH.cons (o := _) rfl (fun K hK => ?_) AllReadyH.nil))
            · go_simp
              refine (house_any V82 (HHG.out.fr (HFw.out.same HF_82.out) (fun h => h))).mono ?_
              rintro e V83 ⟨⟨pp83, rs83, rfl, hS83, hC83⟩, hF83⟩
              have HS_83 := Lib.hid (hS83.mono (M' := Nob) (fun _ h => h.elim))
              have HC_83 := Lib.hid hC83
              have HX_83 := Lib.hid hF83
              have HF_83 := Lib.hid (HF_82.out.same hF83)
              clear hS83 hC83 hF83
              go_wp2_with fail
              refine hK.out _ _ (HSS.out _ HF_83.out) (fun _ => ?_)
              clear hK K
              try simp only [List.getElem_toArray, List.getElem_cons_succ, List.getElem_cons_zero, Act.put, List.setIfInBounds_toArray, List.set_cons_zero, List.set_cons_succ]
              refine wpAnyH_ready (rs := [6, 10]) (by kernel_rfl) (by simp) (AllReadyH.cons (o := _) rfl (fun K hK => ?_) (AllReadyH.cons (o := _) rfl (fun K hK => ?_) AllReadyH.nil))
              · go_simp
                refine (texts_call pp83 rs83 HC_83.out j p q hpk hqk hk40 g2 cap2 dl HDL.out c82 c69 bx by' V83 HS_83.out (HD5.out.fr HF_83.out (fun _ _ h => h.elim)) HDC.out (HB_82.out.fr HX_83.out (fun h => h)) ((HB_69.out.fr HX_82.out (fun h => h)).fr HX_83.out (fun h => h)) (HBX.out.fr HF_83.out (fun h => h)) (HBY.out.fr HF_83.out (fun h => h))).mono ?_
                rintro e V84 ⟨DA, dc, SA, sc, KA, kc, rfl, hD84, hFU84⟩
                have HX_84 := Lib.hid hFU84
                have HD_84 := Lib.hid hD84
                have HF_84 := Lib.hid (HF_83.out.same hFU84)
                clear hD84 hFU84
                go_wp2_with fail
                refine hK.out _ _ (HSS.out _ HF_84.out) (fun _ => ?_)
                clear hK K
                try simp only [List.getElem_toArray, List.getElem_cons_succ, List.getElem_cons_zero, Act.put, List.setIfInBounds_toArray, List.set_cons_zero, List.set_cons_succ]
                refine wpAnyH_take (i := 7) (v := .tuple #[.agg #[.slice DA (j + 4) dc, .slice SA 1 sc, .slice KA 1 kc], .int .i64 0]) rfl (by kernel_rfl) (by kernel_rfl) (by kernel_rfl) (fun _ _ _ h => h) (Or.inl ⟨by rfl, fun _ _ => by go_simp⟩) (HSS.out _ HF_84.out) ?_
                refine wpAnyH_take (i := 8) (v := .agg #[.slice DA (j + 4) dc, .slice SA 1 sc, .slice KA 1 kc]) rfl (by kernel_rfl) (by kernel_rfl) (by kernel_rfl) (fun _ _ _ h => h) (Or.inl ⟨by rfl, fun _ _ => by go_simp⟩) (HSS.out _ HF_84.out) ?_
                refine wpAnyH_take (i := 9) (v := .int .i64 0) rfl (by kernel_rfl) (by kernel_rfl) (by kernel_rfl) (fun _ _ _ h => h) (Or.inl ⟨by rfl, fun _ _ => by go_simp⟩) (HSS.out _ HF_84.out) ?_
                try simp only [List.getElem_toArray, List.getElem_cons_succ, List.getElem_cons_zero, Act.put, List.setIfInBounds_toArray, List.set_cons_zero, List.set_cons_succ]
                refine wpAnyH_ready (rs := [10]) (by kernel_rfl) (by simp) (AllReadyH.cons (o := _) rfl (fun K hK => ?_) AllReadyH.nil)
                go_simp
                obtain ⟨c85, hc85⟩ : ∃ b, V84.heap.size = b := ⟨_, rfl⟩
                obtain ⟨V85, hV85⟩ : ∃ W, V84.alloc (.cells #[.slice none 0 0, .slice none 0 0, .slice none 0 0] 46) = W := ⟨_, rfl⟩
                have HX_85 := Lib.hid (show Fr Nob V84 V85 by rw [← hV85]; exact (Fr.refl _ _).alloc _)
                have HB_85 := Lib.hid (show Blk V85 c85 [.slice none 0 0, .slice none 0 0, .slice none 0 0] 46 by rw [← hV85, ← hc85]; exact Blk.new _ _ _)
                have HF_85 := Lib.hid (HF_84.out.same HX_85.out)
                have HL_85 := Lib.hid (show W5.heap.size ≤ c85 by rw [← hc85]; exact HF_84.out.size)
                rw [hV85, hc85]
                clear hV85 hc85
                refine hK.out _ _ (HSS.out _ HF_85.out) (fun _ => ?_)
                clear hK K
                try simp only [List.getElem_toArray, List.getElem_cons_succ, List.getElem_cons_zero, Act.put, List.setIfInBounds_toArray, List.set_cons_zero, List.set_cons_succ]
                refine wpAnyH_ready (rs := [11]) (by kernel_rfl) (by simp) (AllReadyH.cons (o := _) rfl (fun K hK => ?_) AllReadyH.nil)
                have x0 := HB_85.out.cell 0
                have x1 := HB_85.out.cell 1
                have x2 := HB_85.out.cell 2
                have f0 := HB_85.out.frozen 0
                have f1 := HB_85.out.frozen 1
                have f2 := HB_85.out.frozen 2
                have xl := HB_85.out.lt
                simp only [List.getElem?_cons_zero, List.getElem?_cons_succ] at x0 x1 x2
                go_simp
                clear x0 x1 x2 f0 f1 f2 xl
                obtain ⟨V86, hV86⟩ : ∃ W, ((V85.setCell ⟨c85, 0, none⟩ (.slice DA (j + 4) dc)).setCell ⟨c85, 1, none⟩ (.slice SA 1 sc)).setCell ⟨c85, 2, none⟩ (.slice KA 1 kc) = W := ⟨_, rfl⟩
                have HZ_86 := Lib.hid (store3 HB_85.out _ _ _ V86 hV86)
                have HF_86 := Lib.hid (show Fr Nob W5 V86 from HF_85.out.trans HZ_86.out.2 (fun i hi e => by have h1 : i = c85 := e; have := HL_85.out; omega))
                rw [hV86]
                clear hV86
                refine hK.out _ _ (HSS.out _ HF_86.out) (fun _ => ?_)
                clear hK K
                try simp only [List.getElem_toArray, List.getElem_cons_succ, List.getElem_cons_zero, Act.put, List.setIfInBounds_toArray, List.set_cons_zero, List.set_cons_succ]
                refine wpAnyH_take (i := 12) (v := .int .i64 0) rfl (by kernel_rfl) (by kernel_rfl) (by kernel_rfl) (fun _ _ _ h => h) (Or.inl ⟨by rfl, fun _ _ => by go_simp⟩) (HSS.out _ HF_86.out) ?_
                refine wpAnyH_done (by kernel_rfl) ?_ _
                go_wp2_with fail
                go_meet
                exact ⟨_, DA, dc, SA, sc, KA, kc, rfl, rfl, HZ_86.out.1, texts_doc (HD_84.out.fr HX_85.out (fun _ _ h => h.elim)) HB_85.out HZ_86.out.2, HFw.out.same HF_86.out⟩
              · go_simp
                obtain ⟨c87, hc87⟩ : ∃ b, V83.heap.size = b := ⟨_, rfl⟩
                obtain ⟨V87, hV87⟩ : ∃ W, V83.alloc (.cells #[.slice none 0 0, .slice none 0 0, .slice none 0 0] 46) = W := ⟨_, rfl⟩
                have HX_87 := Lib.hid (show Fr Nob V83 V87 by rw [← hV87]; exact (Fr.refl _ _).alloc _)
                have HB_87 := Lib.hid (show Blk V87 c87 [.slice none 0 0, .slice none 0 0, .slice none 0 0] 46 by rw [← hV87, ← hc87]; exact Blk.new _ _ _)
                have HF_87 := Lib.hid (HF_83.out.same HX_87.out)
                have HL_87 := Lib.hid (show W5.heap.size ≤ c87 by rw [← hc87]; exact HF_83.out.size)
                rw [hV87, hc87]
                clear hV87 hc87
                refine hK.out _ _ (HSS.out _ HF_87.out) (fun _ => ?_)
                clear hK K
                try simp only [List.getElem_toArray, List.getElem_cons_succ, List.getElem_cons_zero, Act.put, List.setIfInBounds_toArray, List.set_cons_zero, List.set_cons_succ]
                refine wpAnyH_ready (rs := [6]) (by kernel_rfl) (by simp) (AllReadyH.cons (o := _) rfl (fun K hK => ?_) AllReadyH.nil)
                go_simp
                refine (texts_call pp83 rs83 HC_83.out j p q hpk hqk hk40 g2 cap2 dl HDL.out c82 c69 bx by' V87 (HS_83.out.fr0 HX_87.out) (HD5.out.fr HF_87.out (fun _ _ h => h.elim)) HDC.out ((HB_82.out.fr HX_83.out (fun h => h)).fr HX_87.out (fun h => h)) (((HB_69.out.fr HX_82.out (fun h => h)).fr HX_83.out (fun h => h)).fr HX_87.out (fun h => h)) (HBX.out.fr HF_87.out (fun h => h)) (HBY.out.fr HF_87.out (fun h => h))).mono ?_
                rintro e V88 ⟨DA, dc, SA, sc, KA, kc, rfl, hD88, hFU88⟩
                have HX_88 := Lib.hid hFU88
                have HD_88 := Lib.hid hD88
                have HF_88 := Lib.hid (HF_87.out.same hFU88)
                clear hD88 hFU88
                go_wp2_with fail
                refine hK.out _ _ (HSS.out _ HF_88.out) (fun _ => ?_)
                clear hK K
                try simp only [List.getElem_toArray, List.getElem_cons_succ, List.getElem_cons_zero, Act.put, List.setIfInBounds_toArray, List.set_cons_zero, List.set_cons_succ]
                refine wpAnyH_take (i := 7) (v := .tuple #[.agg #[.slice DA (j + 4) dc, .slice SA 1 sc, .slice KA 1 kc], .int .i64 0]) rfl (by kernel_rfl) (by kernel_rfl) (by kernel_rfl) (fun _ _ _ h => h) (Or.inl ⟨by rfl, fun _ _ => by go_simp⟩) (HSS.out _ HF_88.out) ?_
                refine wpAnyH_take (i := 8) (v := .agg #[.slice DA (j + 4) dc, .slice SA 1 sc, .slice KA 1 kc]) rfl (by kernel_rfl) (by kernel_rfl) (by kernel_rfl) (fun _ _ _ h => h) (Or.inl ⟨by rfl, fun _ _ => by go_simp⟩) (HSS.out _ HF_88.out) ?_
                refine wpAnyH_take (i := 9) (v := .int .i64 0) rfl (by kernel_rfl) (by kernel_rfl) (by kernel_rfl) (fun _ _ _ h => h) (Or.inl ⟨by rfl, fun _ _ => by go_simp⟩) (HSS.out _ HF_88.out) ?_
                try simp only [List.getElem_toArray, List.getElem_cons_succ, List.getElem_cons_zero, Act.put, List.setIfInBounds_toArray, List.set_cons_zero, List.set_cons_succ]
                refine wpAnyH_ready (rs := [11]) (by kernel_rfl) (by simp) (AllReadyH.cons (o := _) rfl (fun K hK => ?_) AllReadyH.nil)
                have x0 := (HB_87.out.fr HX_88.out (fun h => h)).cell 0
                have x1 := (HB_87.out.fr HX_88.out (fun h => h)).cell 1
                have x2 := (HB_87.out.fr HX_88.out (fun h => h)).cell 2
                have f0 := (HB_87.out.fr HX_88.out (fun h => h)).frozen 0
                have f1 := (HB_87.out.fr HX_88.out (fun h => h)).frozen 1
                have f2 := (HB_87.out.fr HX_88.out (fun h => h)).frozen 2
                have xl := (HB_87.out.fr HX_88.out (fun h => h)).lt
                simp only [List.getElem?_cons_zero, List.getElem?_cons_succ] at x0 x1 x2
                go_simp
                clear x0 x1 x2 f0 f1 f2 xl
                obtain ⟨V89, hV89⟩ : ∃ W, ((V88.setCell ⟨c87, 0, none⟩ (.slice DA (j + 4) dc)).setCell ⟨c87, 1, none⟩ (.slice SA 1 sc)).setCell ⟨c87, 2, none⟩ (.slice KA 1 kc) = W := ⟨_, rfl⟩
                have HZ_89 := Lib.hid (store3 (HB_87.out.fr HX_88.out (fun h => h)) _ _ _ V89 hV89)
                have HF_89 := Lib.hid (show Fr Nob W5 V89 from HF_88.out.trans HZ_89.out.2 (fun i hi e => by have h1 : i = c87 := e; have := HL_87.out; omega))
                rw [hV89]
                clear hV89
                refine hK.out _ _ (HSS.out _ HF_89.out) (fun _ => ?_)
                clear hK K
                try simp only [List.getElem_toArray, List.getElem_cons_succ, List.getElem_cons_zero, Act.put, List.setIfInBounds_toArray, List.set_cons_zero, List.set_cons_succ]
                refine wpAnyH_take (i := 12) (v := .int .i64 0) rfl (by kernel_rfl) (by kernel_rfl) (by kernel_rfl) (fun _ _ _ h => h) (Or.inl ⟨by rfl, fun _ _ => by go_simp⟩) (HSS.out _ HF_89.out) ?_
                refine wpAnyH_done (by kernel_rfl) ?_ _
                go_wp2_with fail
                go_meet
                exact ⟨_, DA, dc, SA, sc, KA, kc, rfl, rfl, HZ_89.out.1, texts_doc HD_88.out (HB_87.out.fr HX_88.out (fun h => h)) HZ_89.out.2, HFw.out.same HF_89.out⟩
            · go_simp
              obtain ⟨c90, hc90⟩ : ∃ b, V82.heap.size = b := ⟨_, rfl⟩
              obtain ⟨V90, hV90⟩ : ∃ W, V82.alloc (.cells #[.slice none 0 0, .slice none 0 0, .slice none 0 0] 46) = W := ⟨_, rfl⟩
              have HX_90 := Lib.hid (show Fr Nob V82 V90 by rw [← hV90]; exact (Fr.refl _ _).alloc _)
              have HB_90 := Lib.hid (show Blk V90 c90 [.slice none 0 0, .slice none 0 0, .slice none 0 0] 46 by rw [← hV90, ← hc90]; exact Blk.new _ _ _)
              have HF_90 := Lib.hid (HF_82.out.same HX_90.out)
              have HL_90 := Lib.hid (show W5.heap.size ≤ c90 by rw [← hc90]; exact HF_82.out.size)
              rw [hV90, hc90]
              clear hV90 hc90
              refine hK.out _ _ (HSS.out _ HF_90.out) (fun _ => ?_)
              clear hK K
              try simp only [List.getElem_toArray, List.getElem_cons_succ, List.getElem_cons_zero, Act.put, List.setIfInBounds_toArray, List.set_cons_zero, List.set_cons_succ]
              refine wpAnyH_ready (rs := [0]) (by kernel_rfl) (by simp) (AllReadyH.cons (o := _) rfl (fun K hK => ?_) AllReadyH.nil)
              go_simp
              refine (house_any V90 (HHG.out.fr (HFw.out.same HF_90.out) (fun h => h))).mono ?_
              rintro e V91 ⟨⟨pp91, rs91, rfl, hS91, hC91⟩, hF91⟩
              have HS_91 := Lib.hid (hS91.mono (M' := Nob) (fun _ h => h.elim))
              have HC_91 := Lib.hid hC91
              have HX_91 := Lib.hid hF91
              have HF_91 := Lib.hid (HF_90.out.same hF91)
              clear hS91 hC91 hF91
              go_wp2_with fail
              refine hK.out _ _ (HSS.out _ HF_91.out) (fun _ => ?_)
              clear hK K
              try simp only [List.getElem_toArray, List.getElem_cons_succ, List.getElem_cons_zero, Act.put, List.setIfInBounds_toArray, List.set_cons_zero, List.set_cons_succ]
              refine wpAnyH_ready (rs := [6]) (by kernel_rfl) (by simp) (AllReadyH.cons (o := _) rfl (fun K hK => ?_) AllReadyH.nil)
              go_simp
              refine (texts_call pp91 rs91 HC_91.out j p q hpk hqk hk40 g2 cap2 dl HDL.out c82 c69 bx by' V91 HS_91.out (HD5.out.fr HF_91.out (fun _ _ h => h.elim)) HDC.out ((HB_82.out.fr HX_90.out (fun h => h)).fr HX_91.out (fun h => h)) (((HB_69.out.fr HX_82.out (fun h => h)).fr HX_90.out (fun h => h)).fr HX_91.out (fun h => h)) (HBX.out.fr HF_91.out (fun h => h)) (HBY.out.fr HF_91.out (fun h => h))).mono ?_
              rintro e V92 ⟨DA, dc, SA, sc, KA, kc, rfl, hD92, hFU92⟩
              have HX_92 := Lib.hid hFU92
              have HD_92 := Lib.hid hD92
              have HF_92 := Lib.hid (HF_91.out.same hFU92)
              clear hD92 hFU92
              go_wp2_with fail
              refine hK.out _ _ (HSS.out _ HF_92.out) (fun _ => ?_)
              clear hK K
              try simp only [List.getElem_toArray, List.getElem_cons_succ, List.getElem_cons_zero, Act.put, List.setIfInBounds_toArray, List.set_cons_zero, List.set_cons_succ]
              refine wpAnyH_take (i := 7) (v := .tuple #[.agg #[.slice DA (j + 4) dc, .slice SA 1 sc, .slice KA 1 kc], .int .i64 0]) rfl (by kernel_rfl) (by kernel_rfl) (by kernel_rfl) (fun _ _ _ h => h) (Or.inl ⟨by rfl, fun _ _ => by go_simp⟩) (HSS.out _ HF_92.out) ?_
              refine wpAnyH_take (i := 8) (v := .agg #[.slice DA (j + 4) dc, .slice SA 1 sc, .slice KA 1 kc]) rfl (by kernel_rfl) (by kernel_rfl) (by kernel_rfl) (fun _ _ _ h => h) (Or.inl ⟨by rfl, fun _ _ => by go_simp⟩) (HSS.out _ HF_92.out) ?_
              refine wpAnyH_take (i := 9) (v := .int .i64 0) rfl (by kernel_rfl) (by kernel_rfl) (by kernel_rfl) (fun _ _ _ h => h) (Or.inl ⟨by rfl, fun _ _ => by go_simp⟩) (HSS.out _ HF_92.out) ?_
              try simp only [List.getElem_toArray, List.getElem_cons_succ, List.getElem_cons_zero, Act.put, List.setIfInBounds_toArray, List.set_cons_zero, List.set_cons_succ]
              refine wpAnyH_ready (rs := [11]) (by kernel_rfl) (by simp) (AllReadyH.cons (o := _) rfl (fun K hK => ?_) AllReadyH.nil)
              have x0 := ((HB_90.out.fr HX_91.out (fun h => h)).fr HX_92.out (fun h => h)).cell 0
              have x1 := ((HB_90.out.fr HX_91.out (fun h => h)).fr HX_92.out (fun h => h)).cell 1
              have x2 := ((HB_90.out.fr HX_91.out (fun h => h)).fr HX_92.out (fun h => h)).cell 2
              have f0 := ((HB_90.out.fr HX_91.out (fun h => h)).fr HX_92.out (fun h => h)).frozen 0
              have f1 := ((HB_90.out.fr HX_91.out (fun h => h)).fr HX_92.out (fun h => h)).frozen 1
              have f2 := ((HB_90.out.fr HX_91.out (fun h => h)).fr HX_92.out (fun h => h)).frozen 2
              have xl := ((HB_90.out.fr HX_91.out (fun h => h)).fr HX_92.out (fun h => h)).lt
              simp only [List.getElem?_cons_zero, List.getElem?_cons_succ] at x0 x1 x2
              go_simp
              clear x0 x1 x2 f0 f1 f2 xl
              obtain ⟨V93, hV93⟩ : ∃ W, ((V92.setCell ⟨c90, 0, none⟩ (.slice DA (j + 4) dc)).setCell ⟨c90, 1, none⟩ (.slice SA 1 sc)).setCell ⟨c90, 2, none⟩ (.slice KA 1 kc) = W := ⟨_, rfl⟩
              have HZ_93 := Lib.hid (store3 ((HB_90.out.fr HX_91.out (fun h => h)).fr HX_92.out (fun h => h)) _ _ _ V93 hV93)
              have HF_93 := Lib.hid (show Fr Nob W5 V93 from HF_92.out.trans HZ_93.out.2 (fun i hi e => by have h1 : i = c90 := e; have := HL_90.out; omega))
              rw [hV93]
              clear hV93
              refine hK.out _ _ (HSS.out _ HF_93.out) (fun _ => ?_)
              clear hK K
              try simp only [List.getElem_toArray, List.getElem_cons_succ, List.getElem_cons_zero, Act.put, List.setIfInBounds_toArray, List.set_cons_zero, List.set_cons_succ]
              refine wpAnyH_take (i := 12) (v := .int .i64 0) rfl (by kernel_rfl) (by kernel_rfl) (by kernel_rfl) (fun _ _ _ h => h) (Or.inl ⟨by rfl, fun _ _ => by go_simp⟩) (HSS.out _ HF_93.out) ?_
              refine wpAnyH_done (by kernel_rfl) ?_ _
              go_wp2_with fail
              go_meet
              exact ⟨_, DA, dc, SA, sc, KA, kc, rfl, rfl, HZ_93.out.1, texts_doc HD_92.out ((HB_90.out.fr HX_91.out (fun h => h)).fr HX_92.out (fun h => h)) HZ_93.out.2, HFw.out.same HF_93.out⟩
          · go_simp
            obtain ⟨c94, hc94⟩ : ∃ b, V69.heap.size = b := ⟨_, rfl⟩
            obtain ⟨V94, hV94⟩ : ∃ W, V69.alloc (.cells #[.slice none 0 0, .slice none 0 0, .slice none 0 0] 46) = W := ⟨_, rfl⟩
            have HX_94 := Lib.hid (show Fr Nob V69 V94 by rw [← hV94]; exact (Fr.refl _ _).alloc _)
            have HB_94 := Lib.hid (show Blk V94 c94 [.slice none 0 0, .slice none 0 0, .slice none 0 0] 46 by rw [← hV94, ← hc94]; exact Blk.new _ _ _)
            have HF_94 := Lib.hid (HF_69.out.same HX_94.out)
            have HL_94 := Lib.hid (show W5.heap.size ≤ c94 by rw [← hc94]; exact HF_69.out.size)
            rw [hV94, hc94]
            clear hV94 hc94
            refine hK.out _ _ (HSS.out _ HF_94.out) (fun _ => ?_)
            clear hK K
            try simp only [List.getElem_toArray, List.getElem_cons_succ, List.getElem_cons_zero, Act.put, List.setIfInBounds_toArray, List.set_cons_zero, List.set_cons_succ]
            refine wpAnyH_ready (rs := [0, 3]) (by kernel_rfl) (by simp) (AllReadyH.cons (o := _) rfl (fun K hK => ?_) (AllReadyH.cons (o := _) rfl (fun K hK => ?_) AllReadyH.nil))
            · go_simp
              refine (house_any V94 (HHG.out.fr (HFw.out.same HF_94.out) (fun h => h))).mono ?_
              rintro e V95 ⟨⟨pp95, rs95, rfl, hS95, hC95⟩, hF95⟩
              have HS_95 := Lib.hid (hS95.mono (M' := Nob) (fun _ h => h.elim))
              have HC_95 := Lib.hid hC95
              have HX_95 := Lib.hid hF95
              have HF_95 := Lib.hid (HF_94.out.same hF95)
              clear hS95 hC95 hF95
              go_wp2_with fail
              refine hK.out _ _ (HSS.out _ HF_95.out) (fun _ => ?_)
              clear hK K
              try simp only [List.getElem_toArray, List.getElem_cons_succ, List.getElem_cons_zero, Act.put, List.setIfInBounds_toArray, List.set_cons_zero, List.set_cons_succ]
              refine wpAnyH_ready (rs := [3]) (by kernel_rfl) (by simp) (AllReadyH.cons (o := _) rfl (fun K hK => ?_) AllReadyH.nil)
              go_simp
              obtain ⟨c96, hc96⟩ : ∃ b, V95.heap.size = b := ⟨_, rfl⟩
              obtain ⟨V96, hV96⟩ : ∃ W, V95.alloc (.cells #[.int .i64 0, .int .i64 (1 + (p : Int)), .int .i64 (1 + (p : Int)), .int .i64 0, .int .i64 0, .int .i64 0, .slice (some ⟨bx, 0, none⟩) 1 1, .int .i64 0] 24) = W := ⟨_, rfl⟩
              have HX_96 := Lib.hid (show Fr Nob V95 V96 by rw [← hV96]; exact (Fr.refl _ _).alloc _)
              have HB_96 := Lib.hid (show Blk V96 c96 [.int .i64 0, .int .i64 (1 + (p : Int)), .int .i64 (1 + (p : Int)), .int .i64 0, .int .i64 0, .int .i64 0, .slice (some ⟨bx, 0, none⟩) 1 1, .int .i64 0] 24 by rw [← hV96, ← hc96]; exact Blk.new _ _ _)
              have HF_96 := Lib.hid (HF_95.out.same HX_96.out)
              rw [hV96, hc96]
              clear hV96 hc96
              refine hK.out _ _ (HSS.out _ HF_96.out) (fun _ => ?_)
              clear hK K
              try simp only [List.getElem_toArray, List.getElem_cons_succ, List.getElem_cons_zero, Act.put, List.setIfInBounds_toArray, List.set_cons_zero, List.set_cons_succ]
              refine wpAnyH_ready (rs := [6]) (by kernel_rfl) (by simp) (AllReadyH.cons (o := _) rfl (fun K hK => ?_) AllReadyH.nil)
              go_simp
              refine (texts_call pp95 rs95 HC_95.out j p q hpk hqk hk40 g2 cap2 dl HDL.out c96 c69 bx by' V96 (HS_95.out.fr0 HX_96.out) (HD5.out.fr HF_96.out (fun _ _ h => h.elim)) HDC.out HB_96.out (((HB_69.out.fr HX_94.out (fun h => h)).fr HX_95.out (fun h => h)).fr HX_96.out (fun h => h)) (HBX.out.fr HF_96.out (fun h => h)) (HBY.out.fr HF_96.out (fun h => h))).mono ?_
              rintro e V97 ⟨DA, dc, SA, sc, KA, kc, rfl, hD97, hFU97⟩
              have HX_97 := Lib.hid hFU97
              have HD_97 := Lib.hid hD97
              have HF_97 := Lib.hid (HF_96.out.same hFU97)
              clear hD97 hFU97
              go_wp2_with fail
              refine hK.out _ _ (HSS.out _ HF_97.out) (fun _ => ?_)
              clear hK K
              try simp only [List.getElem_toArray, List.getElem_cons_succ, List.getElem_cons_zero, Act.put, List.setIfInBounds_toArray, List.set_cons_zero, List.set_cons_succ]
              refine wpAnyH_take (i := 7) (v := .tuple #[.agg #[.slice DA (j + 4) dc, .slice SA 1 sc, .slice KA 1 kc], .int .i64 0]) rfl (by kernel_rfl) (by kernel_rfl) (by kernel_rfl) (fun _ _ _ h => h) (Or.inl ⟨by rfl, fun _ _ => by go_simp⟩) (HSS.out _ HF_97.out) ?_
              refine wpAnyH_take (i := 8) (v := .agg #[.slice DA (j + 4) dc, .slice SA 1 sc, .slice KA 1 kc]) rfl (by kernel_rfl) (by kernel_rfl) (by kernel_rfl) (fun _ _ _ h => h) (Or.inl ⟨by rfl, fun _ _ => by go_simp⟩) (HSS.out _ HF_97.out) ?_
              refine wpAnyH_take (i := 9) (v := .int .i64 0) rfl (by kernel_rfl) (by kernel_rfl) (by kernel_rfl) (fun _ _ _ h => h) (Or.inl ⟨by rfl, fun _ _ => by go_simp⟩) (HSS.out _ HF_97.out) ?_
              try simp only [List.getElem_toArray, List.getElem_cons_succ, List.getElem_cons_zero, Act.put, List.setIfInBounds_toArray, List.set_cons_zero, List.set_cons_succ]
              refine wpAnyH_ready (rs := [11]) (by kernel_rfl) (by simp) (AllReadyH.cons (o := _) rfl (fun K hK => ?_) AllReadyH.nil)
              have x0 := (((HB_94.out.fr HX_95.out (fun h => h)).fr HX_96.out (fun h => h)).fr HX_97.out (fun h => h)).cell 0
              have x1 := (((HB_94.out.fr HX_95.out (fun h => h)).fr HX_96.out (fun h => h)).fr HX_97.out (fun h => h)).cell 1
              have x2 := (((HB_94.out.fr HX_95.out (fun h => h)).fr HX_96.out (fun h => h)).fr HX_97.out (fun h => h)).cell 2
              have f0 := (((HB_94.out.fr HX_95.out (fun h => h)).fr HX_96.out (fun h => h)).fr HX_97.out (fun h => h)).frozen 0
              have f1 := (((HB_94.out.fr HX_95.out (fun h => h)).fr HX_96.out (fun h => h)).fr HX_97.out (fun h => h)).frozen 1
              have f2 := (((HB_94.out.fr HX_95.out (fun h => h)).fr HX_96.out (fun h => h)).fr HX_97.out (fun h => h)).frozen 2
              have xl := (((HB_94.out.fr HX_95.out (fun h => h)).fr HX_96.out (fun h => h)).fr HX_97.out (fun h => h)).lt
              simp only [List.getElem?_cons_zero, List.getElem?_cons_succ] at x0 x1 x2
              go_simp
              clear x0 x1 x2 f0 f1 f2 xl
              obtain ⟨V98, hV98⟩ : ∃ W, ((V97.setCell ⟨c94, 0, none⟩ (.slice DA (j + 4) dc)).setCell ⟨c94, 1, none⟩ (.slice SA 1 sc)).setCell ⟨c94, 2, none⟩ (.slice KA 1 kc) = W := ⟨_, rfl⟩
              have HZ_98 := Lib.hid (store3 (((HB_94.out.fr HX_95.out (fun h => h)).fr HX_96.out (fun h => h)).fr HX_97.out (fun h => h)) _ _ _ V98 hV98)
              have HF_98 := Lib.hid (show Fr Nob W5 V98 from HF_97.out.trans HZ_98.out.2 (fun i hi e => by have h1 : i = c94 := e; have := HL_94.out; omega))
              rw [hV98]
              clear hV98
              refine hK.out _ _ (HSS.out _ HF_98.out) (fun _ => ?_)
              clear hK K
              try simp only [List.getElem_toArray, List.getElem_cons_succ, List.getElem_cons_zero, Act.put, List.setIfInBounds_toArray, List.set_cons_zero, List.set_cons_succ]
              refine wpAnyH_take (i := 12) (v := .int .i64 0) rfl (by kernel_rfl) (by kernel_rfl) (by kernel_rfl) (fun _ _ _ h => h) (Or.inl ⟨by rfl, fun _ _ => by go_simp⟩) (HSS.out _ HF_98.out) ?_
              refine wpAnyH_done (by kernel_rfl) ?_ _
              go_wp2_with fail
              go_meet
              exact ⟨_, DA, dc, SA, sc, KA, kc, rfl, rfl, HZ_98.out.1, texts_doc HD_97.out (((HB_94.out.fr HX_95.out (fun h => h)).fr HX_96.out (fun h => h)).fr HX_97.out (fun h => h)) HZ_98.out.2, HFw.out.same HF_98.out⟩
            · go_simp
              obtain ⟨c99, hc99⟩ : ∃ b, V94.heap.size = b := ⟨_, rfl⟩
              obtain ⟨V99, hV99⟩ : ∃ W, V94.alloc (.cells #[.int .i64 0, .int .i64 (1 + (p : Int)), .int .i64 (1 + (p : Int)), .int .i64 0, .int .i64 0, .int .i64 0, .slice (some ⟨bx, 0, none⟩) 1 1, .int .i64 0] 24) = W := ⟨_, rfl⟩
              have HX_99 := Lib.hid (show Fr Nob V94 V99 by rw [← hV99]; exact (Fr.refl _ _).alloc _)
              have HB_99 := Lib.hid (show Blk V99 c99 [.int .i64 0, .int .i64 (1 + (p : Int)), .int .i64 (1 + (p : Int)), .int .i64 0, .int .i64 0, .int .i64 0, .slice (some ⟨bx, 0, none⟩) 1 1, .int .i64 0] 24 by rw [← hV99, ← hc99]; exact Blk.new _ _ _)
              have HF_99 := Lib.hid (HF_94.out.same HX_99.out)
              rw [hV99, hc99]
              clear hV99 hc99
              refine hK.out _ _ (HSS.out _ HF_99.out) (fun _ => ?_)
              clear hK K
              try simp only [List.getElem_toArray, List.getElem_cons_succ, List.getElem_cons_zero, Act.put, List.setIfInBounds_toArray, List.set_cons_zero, List.set_cons_succ]
              refine wpAnyH_ready (rs := [0]) (by kernel_rfl) (by simp) (AllReadyH.cons (o := _) rfl (fun K hK => ?_) AllReadyH.nil)
              go_simp
              refine (house_any V99 (HHG.out.fr (HFw.out.same HF_99.out) (fun h => h))).mono ?_
              rintro e V100 ⟨⟨pp100, rs100, rfl, hS100, hC100⟩, hF100⟩
              have HS_100 := Lib.hid (hS100.mono (M' := Nob) (fun _ h => h.elim))
              have HC_100 := Lib.hid hC100
              have HX_100 := Lib.hid hF100
              have HF_100 := Lib.hid (HF_99.out.same hF100)
              clear hS100 hC100 hF100
              go_wp2_with fail
              refine hK.out _ _ (HSS.out _ HF_100.out) (fun _ => ?_)
              clear hK K
              try simp only [List.getElem_toArray, List.getElem_cons_succ, List.getElem_cons_zero, Act.put, List.setIfInBounds_toArray, List.set_cons_zero, List.set_cons_succ]
              refine wpAnyH_ready (rs := [6]) (by kernel_rfl) (by simp) (AllReadyH.cons (o := _) rfl (fun K hK => ?_) AllReadyH.nil)
              go_simp
              refine (texts_call pp100 rs100 HC_100.out j p q hpk hqk hk40 g2 cap2 dl HDL.out c99 c69 bx by' V100 HS_100.out (HD5.out.fr HF_100.out (fun _ _ h => h.elim)) HDC.out (HB_99.out.fr HX_100.out (fun h => h)) (((HB_69.out.fr HX_94.out (fun h => h)).fr HX_99.out (fun h => h)).fr HX_100.out (fun h => h)) (HBX.out.fr HF_100.out (fun h => h)) (HBY.out.fr HF_100.out (fun h => h))).mono ?_
              rintro e V101 ⟨DA, dc, SA, sc, KA, kc, rfl, hD101, hFU101⟩
              have HX_101 := Lib.hid hFU101
              have HD_101 := Lib.hid hD101
              have HF_101 := Lib.hid (HF_100.out.same hFU101)
              clear hD101 hFU101
              go_wp2_with fail
              refine hK.out _ _ (HSS.out _ HF_101.out) (fun _ => ?_)
              clear hK K
              try simp only [List.getElem_toArray, List.getElem_cons_succ, List.getElem_cons_zero, Act.put, List.setIfInBounds_toArray, List.set_cons_zero, List.set_cons_succ]
              refine wpAnyH_take (i := 7) (v := .tuple #[.agg #[.slice DA (j + 4) dc, .slice SA 1 sc, .slice KA 1 kc], .int .i64 0]) rfl (by kernel_rfl) (by kernel_rfl) (by kernel_rfl) (fun _ _ _ h => h) (Or.inl ⟨by rfl, fun _ _ => by go_simp⟩) (HSS.out _ HF_101.out) ?_
              refine wpAnyH_take (i := 8) (v := .agg #[.slice DA (j + 4) dc, .slice SA 1 sc, .slice KA 1 kc]) rfl (by kernel_rfl) (by kernel_rfl) (by kernel_rfl) (fun _ _ _ h => h) (Or.inl ⟨by rfl, fun _ _ => by go_simp⟩) (HSS.out _ HF_101.out) ?_
              refine wpAnyH_take (i := 9) (v := .int .i64 0) rfl (by kernel_rfl) (by kernel_rfl) (by kernel_rfl) (fun _ _ _ h => h) (Or.inl ⟨by rfl, fun _ _ => by go_simp⟩) (HSS.out _ HF_101.out) ?_
              try simp only [List.getElem_toArray, List.getElem_cons_succ, List.getElem_cons_zero, Act.put, List.setIfInBounds_toArray, List.set_cons_zero, List.set_cons_succ]
              refine wpAnyH_ready (rs := [11]) (by kernel_rfl) (by simp) (AllReadyH.cons (o := _) rfl (fun K hK => ?_) AllReadyH.nil)
              have x0 := (((HB_94.out.fr HX_99.out (fun h => h)).fr HX_100.out (fun h => h)).fr HX_101.out (fun h => h)).cell 0
              have x1 := (((HB_94.out.fr HX_99.out (fun h => h)).fr HX_100.out (fun h => h)).fr HX_101.out (fun h => h)).cell 1
              have x2 := (((HB_94.out.fr HX_99.out (fun h => h)).fr HX_100.out (fun h => h)).fr HX_101.out (fun h => h)).cell 2
              have f0 := (((HB_94.out.fr HX_99.out (fun h => h)).fr HX_100.out (fun h => h)).fr HX_101.out (fun h => h)).frozen 0
              have f1 := (((HB_94.out.fr HX_99.out (fun h => h)).fr HX_100.out (fun h => h)).fr HX_101.out (fun h => h)).frozen 1
              have f2 := (((HB_94.out.fr HX_99.out (fun h => h)).fr HX_100.out (fun h => h)).fr HX_101.out (fun h => h)).frozen 2
              have xl := (((HB_94.out.fr HX_99.out (fun h => h)).fr HX_100.out (fun h => h)).fr HX_101.out (fun h => h)).lt
              simp only [List.getElem?_cons_zero, List.getElem?_cons_succ] at x0 x1 x2
              go_simp
              clear x0 x1 x2 f0 f1 f2 xl
              obtain ⟨V102, hV102⟩ : ∃ W, ((V101.setCell ⟨c94, 0, none⟩ (.slice DA (j + 4) dc)).setCell ⟨c94, 1, none⟩ (.slice SA 1 sc)).setCell ⟨c94, 2, none⟩ (.slice KA 1 kc) = W := ⟨_, rfl⟩
              have HZ_102 := Lib.hid (store3 (((HB_94.out.fr HX_99.out (fun h => h)).fr HX_100.out (fun h => h)).fr HX_101.out (fun h => h)) _ _ _ V102 hV102)
              have HF_102 := Lib.hid (show Fr Nob W5 V102 from HF_101.out.trans HZ_102.out.2 (fun i hi e => by have h1 : i = c94 := e; have := HL_94.out; omega))
              rw [hV102]
              clear hV102
              refine hK.out _ _ (HSS.out _ HF_102.out) (fun _ => ?_)
              clear hK K
              try simp only [List.getElem_toArray, List.getElem_cons_succ, List.getElem_cons_zero, Act.put, List.setIfInBounds_toArray, List.set_cons_zero, List.set_cons_succ]
              refine wpAnyH_take (i := 12) (v := .int .i64 0) rfl (by kernel_rfl) (by kernel_rfl) (by kernel_rfl) (fun _ _ _ h => h) (Or.inl ⟨by rfl, fun _ _ => by go_simp⟩) (HSS.out _ HF_102.out) ?_
              refine wpAnyH_done (by kernel_rfl) ?_ _
              go_wp2_with fail
              go_meet
              exact ⟨_, DA, dc, SA, sc, KA, kc, rfl, rfl, HZ_102.out.1, texts_doc HD_101.out (((HB_94.out.fr HX_99.out (fun h => h)).fr HX_100.out (fun h => h)).fr HX_101.out (fun h => h)) HZ_102.out.2, HFw.out.same HF_102.out⟩
        · go_simp
          obtain ⟨c103, hc103⟩ : ∃ b, wd.heap.size = b := ⟨_, rfl⟩
          obtain ⟨V103, hV103⟩ : ∃ W, wd.alloc (.cells #[.slice none 0 0, .slice none 0 0, .slice none 0 0] 46) = W := ⟨_, rfl⟩
          have HX_103 := Lib.hid (show Fr Nob wd V103 by rw [← hV103]; exact (Fr.refl _ _).alloc _)
          have HB_103 := Lib.hid (show Blk V103 c103 [.slice none 0 0, .slice none 0 0, .slice none 0 0] 46 by rw [← hV103, ← hc103]; exact Blk.new _ _ _)
          have HF_103 := Lib.hid (HF0.out.same HX_103.out)
          have HL_103 := Lib.hid (show W5.heap.size ≤ c103 by rw [← hc103]; exact HF0.out.size)
          rw [hV103, hc103]
          clear hV103 hc103
          refine hK.out _ _ (HSS.out _ HF_103.out) (fun _ => ?_)
          clear hK K
          try simp only [List.getElem_toArray, List.getElem_cons_succ, List.getElem_cons_zero, Act.put, List.setIfInBounds_toArray, List.set_cons_zero, List.set_cons_succ]
          refine wpAnyH_ready (rs := [0, 3, 5]) (by kernel_rfl) (by simp) (AllReadyH.cons (o := _) rfl (fun K hK => ?_) (AllReadyH.cons (o := _) rfl (fun K hK => ?_) (AllReadyH.cons (o := _) rfl (fun K hK => ?_) AllReadyH.nil)))
          · go_simp
            refine (house_any V103 (HHG.out.fr (HFw.out.same HF_103.out) (fun h => h))).mono ?_
            rintro e V104 ⟨⟨pp104, rs104, rfl, hS104, hC104⟩, hF104⟩
            have HS_104 := Lib.hid (hS104.mono (M' := Nob) (fun _ h => h.elim))
            have HC_104 := Lib.hid hC104
            have HX_104 := Lib.hid hF104
            have HF_104 := Lib.hid (HF_103.out.same hF104)
            clear hS104 hC104 hF104
            go_wp2_with fail
            refine hK.out _ _ (HSS.out _ HF_104.out) (fun _ => ?_)
            clear hK K
            try simp only [List.getElem_toArray, List.getElem_cons_succ, List.getElem_cons_zero, Act.put, List.setIfInBounds_toArray, List.set_cons_zero, List.set_cons_succ]
            refine wpAnyH_ready (rs := [3, 5]) (by kernel_rfl) (by simp) (AllReadyH.cons (o := _) rfl (fun K hK => ?_) (AllReadyH.cons (o := _) rfl (fun K hK => ?_) AllReadyH.nil))
            · go_simp
              obtain ⟨c105, hc105⟩ : ∃ b, V104.heap.size = b := ⟨_, rfl⟩
              obtain ⟨V105, hV105⟩ : ∃ W, V104.alloc (.cells #[.int .i64 0, .int .i64 (1 + (p : Int)), .int .i64 (1 + (p : Int)), .int .i64 0, .int .i64 0, .int .i64 0, .slice (some ⟨bx, 0, none⟩) 1 1, .int .i64 0] 24) = W := ⟨_, rfl⟩
              have HX_105 := Lib.hid (show Fr Nob V104 V105 by rw [← hV105]; exact (Fr.refl _ _).alloc _)
              have HB_105 := Lib.hid (show Blk V105 c105 [.int .i64 0, .int .i64 (1 + (p : Int)), .int .i64 (1 + (p : Int)), .int .i64 0, .int .i64 0, .int .i64 0, .slice (some ⟨bx, 0, none⟩) 1 1, .int .i64 0] 24 by rw [← hV105, ← hc105]; exact Blk.new _ _ _)
              have HF_105 := Lib.hid (HF_104.out.same HX_105.out)
              rw [hV105, hc105]
              clear hV105 hc105
              refine hK.out _ _ (HSS.out _ HF_105.out) (fun _ => ?_)
              clear hK K
              try simp only [List.getElem_toArray, List.getElem_cons_succ, List.getElem_cons_zero, Act.put, List.setIfInBounds_toArray, List.set_cons_zero, List.set_cons_succ]
              refine wpAnyH_ready (rs := [5]) (by kernel_rfl) (by simp) (AllReadyH.cons (o := _) rfl (fun K hK => ?_) AllReadyH.nil)
              go_simp
              obtain ⟨c106, hc106⟩ : ∃ b, V105.heap.size = b := ⟨_, rfl⟩
              obtain ⟨V106, hV106⟩ : ∃ W, V105.alloc (.cells #[.int .i64 0, .int .i64 (1 + (q : Int)), .int .i64 (1 + (q : Int)), .int .i64 0, .int .i64 0, .int .i64 0, .slice (some ⟨by', 0, none⟩) 1 1, .int .i64 0] 24) = W := ⟨_, rfl⟩
              have HX_106 := Lib.hid (show Fr Nob V105 V106 by rw [← hV106]; exact (Fr.refl _ _).alloc _)
              have HB_106 := Lib.hid (show Blk V106 c106 [.int .i64 0, .int .i64 (1 + (q : Int)), .int .i64 (1 + (q : Int)), .int .i64 0, .int .i64 0, .int .i64 0, .slice (some ⟨by', 0, none⟩) 1 1, .int .i64 0] 24 by rw [← hV106, ← hc106]; exact Blk.new _ _ _)
              have HF_106 := Lib.hid (HF_105.out.same HX_106.out)
              rw [hV106, hc106]
              clear hV106 hc106
              refine hK.out _ _ (HSS.out _ HF_106.out) (fun _ => ?_)
              clear hK K
              try simp only [List.getElem_toArray, List.getElem_cons_succ, List.getElem_cons_zero, Act.put, List.setIfInBounds_toArray, List.set_cons_zero, List.set_cons_succ]
              refine wpAnyH_ready (rs := [6]) (by kernel_rfl) (by simp) (AllReadyH.cons (o := _) rfl (fun K hK => ?_) AllReadyH.nil)
              go_simp
              refine (texts_call pp104 rs104 HC_104.out j p q hpk hqk hk40 g2 cap2 dl HDL.out c105 c106 bx by' V106 ((HS_104.out.fr0 HX_105.out).fr0 HX_106.out) (HD5.out.fr HF_106.out (fun _ _ h => h.elim)) HDC.out (HB_105.out.fr HX_106.out (fun h => h)) HB_106.out (HBX.out.fr HF_106.out (fun h => h)) (HBY.out.fr HF_106.out (fun h => h))).mono ?_
              rintro e V107 ⟨DA, dc, SA, sc, KA, kc, rfl, hD107, hFU107⟩
              have HX_107 := Lib.hid hFU107
              have HD_107 := Lib.hid hD107
              have HF_107 := Lib.hid (HF_106.out.same hFU107)
              clear hD107 hFU107
              go_wp2_with fail
              refine hK.out _ _ (HSS.out _ HF_107.out) (fun _ => ?_)
              clear hK K
              try simp only [List.getElem_toArray, List.getElem_cons_succ, List.getElem_cons_zero, Act.put, List.setIfInBounds_toArray, List.set_cons_zero, List.set_cons_succ]
              refine wpAnyH_take (i := 7) (v := .tuple #[.agg #[.slice DA (j + 4) dc, .slice SA 1 sc, .slice KA 1 kc], .int .i64 0]) rfl (by kernel_rfl) (by kernel_rfl) (by kernel_rfl) (fun _ _ _ h => h) (Or.inl ⟨by rfl, fun _ _ => by go_simp⟩) (HSS.out _ HF_107.out) ?_
              refine wpAnyH_take (i := 8) (v := .agg #[.slice DA (j + 4) dc, .slice SA 1 sc, .slice KA 1 kc]) rfl (by kernel_rfl) (by kernel_rfl) (by kernel_rfl) (fun _ _ _ h => h) (Or.inl ⟨by rfl, fun _ _ => by go_simp⟩) (HSS.out _ HF_107.out) ?_
              refine wpAnyH_take (i := 9) (v := .int .i64 0) rfl (by kernel_rfl) (by kernel_rfl) (by kernel_rfl) (fun _ _ _ h => h) (Or.inl ⟨by rfl, fun _ _ => by go_simp⟩) (HSS.out _ HF_107.out) ?_
              try simp only [List.getElem_toArray, List.getElem_cons_succ, List.getElem_cons_zero, Act.put, List.setIfInBounds_toArray, List.set_cons_zero, List.set_cons_succ]
              refine wpAnyH_ready (rs := [11]) (by kernel_rfl) (by simp) (AllReadyH.cons (o := _) rfl (fun K hK => ?_) AllReadyH.nil)
              have x0 := ((((HB_103.out.fr HX_104.out (fun h => h)).fr HX_105.out (fun h => h)).fr HX_106.out (fun h => h)).fr HX_107.out (fun h => h)).cell 0
              have x1 := ((((HB_103.out.fr HX_104.out (fun h => h)).fr HX_105.out (fun h => h)).fr HX_106.out (fun h => h)).fr HX_107.out (fun h => h)).cell 1
              have x2 := ((((HB_103.out.fr HX_104.out (fun h => h)).fr HX_105.out (fun h => h)).fr HX_106.out (fun h => h)).fr HX_107.out (fun h => h)).cell 2
              have f0 := ((((HB_103.out.fr HX_104.out (fun h => h)).fr HX_105.out (fun h => h)).fr HX_106.out (fun h => h)).fr HX_107.out (fun h => h)).frozen 0
              have f1 := ((((HB_103.out.fr HX_104.out (fun h => h)).fr HX_105.out (fun h => h)).fr HX_106.out (fun h => h)).fr HX_107.out (fun h => h)).frozen 1
              have f2 := ((((HB_103.out.fr HX_104.out (fun h => h)).fr HX_105.out (fun h => h)).fr HX_106.out (fun h => h)).fr HX_107.out (fun h => h)).frozen 2
              have xl := ((((HB_103.out.fr HX_104.out (fun h => h)).fr HX_105.out (fun h => h)).fr HX_106.out (fun h => h)).fr HX_107.out (fun h => h)).lt
              simp only [List.getElem?_cons_zero, List.getElem?_cons_succ] at x0 x1 x2
              go_simp
              clear x0 x1 x2 f0 f1 f2 xl
              obtain ⟨V108, hV108⟩ : ∃ W, ((V107.setCell ⟨c103, 0, none⟩ (.slice DA (j + 4) dc)).setCell ⟨c103, 1, none⟩ (.slice SA 1 sc)).setCell ⟨c103, 2, none⟩ (.slice KA 1 kc) = W := ⟨_, rfl⟩
              have HZ_108 := Lib.hid (store3 ((((HB_103.out.fr HX_104.out (fun h => h)).fr HX_105.out (fun h => h)).fr HX_106.out (fun h => h)).fr HX_107.out (fun h => h)) _ _ _ V108 hV108)
              have HF_108 := Lib.hid (show Fr Nob W5 V108 from HF_107.out.trans HZ_108.out.2 (fun i hi e => by have h1 : i = c103 := e; have := HL_103.out; omega))
              rw [hV108]
              clear hV108
              refine hK.out _ _ (HSS.out _ HF_108.out) (fun _ => ?_)
              clear hK K
              try simp only [List.getElem_toArray, List.getElem_cons_succ, List.getElem_cons_zero, Act.put, List.setIfInBounds_toArray, List.set_cons_zero, List.set_cons_succ]
              refine wpAnyH_take (i := 12) (v := .int .i64 0) rfl (by kernel_rfl) (by kernel_rfl) (by kernel_rfl) (fun _ _ _ h => h) (Or.inl ⟨by rfl, fun _ _ => by go_simp⟩) (HSS.out _ HF_108.out) ?_
              refine wpAnyH_done (by kernel_rfl) ?_ _
              go_wp2_with fail
              go_meet
              exact ⟨_, DA, dc, SA, sc, KA, kc, rfl, rfl, HZ_108.out.1, texts_doc HD_107.out ((((HB_103.out.fr HX_104.out (fun h => h)).fr HX_105.out (fun h => h)).fr HX_106.out (fun h => h)).fr HX_107.out (fun h => h)) HZ_108.out.2, HFw.out.same HF_108.out⟩
            · go_simp
              obtain ⟨c109, hc109⟩ : ∃ b, V104.heap.size = b := ⟨_, rfl⟩
              obtain ⟨V109, hV109⟩ : ∃ W, V104.alloc (.cells #[.int .i64 0, .int .i64 (1 + (q : Int)), .int .i64 (1 + (q : Int)), .int .i64 0, .int .i64 0, .int .i64 0, .slice (some ⟨by', 0, none⟩) 1 1, .int .i64 0] 24) = W := ⟨_, rfl⟩
              have HX_109 := Lib.hid (show Fr Nob V104 V109 by rw [← hV109]; exact (Fr.refl _ _).alloc _)
              have HB_109 := Lib.hid (show Blk V109 c109 [.int .i64 0, .int .i64 (1 + (q : Int)), .int .i64 (1 + (q : Int)), .int .i64 0, .int .i64 0, .int .i64 0, .slice (some ⟨by', 0, none⟩) 1 1, .int .i64 0] 24 by rw [← hV109, ← hc109]; exact Blk.new _ _ _)
              have HF_109 := Lib.hid (HF_104.out.same HX_109.out)
              rw [hV109, hc109]
              clear hV109 hc109
              refine hK.out _ _ (HSS.out _ HF_109.out) (fun _ => ?_)
              clear hK K
              try simp only [List.getElem_toArray, List.getElem_cons_succ, List.getElem_cons_zero, Act.put, List.setIfInBounds_toArray, List.set_cons_zero, List.set_cons_succ]
              refine wpAnyH_ready (rs := [3]) (by kernel_rfl) (by simp) (AllReadyH.cons (o := _) rfl (fun K hK => ?_) AllReadyH.nil)
              go_simp
              obtain ⟨c110, hc110⟩ : ∃ b, V109.heap.size = b := ⟨_, rfl⟩
              obtain ⟨V110, hV110⟩ : ∃ W, V109.alloc (.cells #[.int .i64 0, .int .i64 (1 + (p : Int)), .int .i64 (1 + (p : Int)), .int .i64 0, .int .i64 0, .int .i64 0, .slice (some ⟨bx, 0, none⟩) 1 1, .int .i64 0] 24) = W := ⟨_, rfl⟩
              have HX_110 := Lib.hid (show Fr Nob V109 V110 by rw [← hV110]; exact (Fr.refl _ _).alloc _)
              have HB_110 := Lib.hid (show Blk V110 c110 [.int .i64 0, .int .i64 (1 + (p : Int)), .int .i64 (1 + (p : Int)), .int .i64 0, .int .i64 0, .int .i64 0, .slice (some ⟨bx, 0, none⟩) 1 1, .int .i64 0] 24 by rw [← hV110, ← hc110]; exact Blk.new _ _ _)
              have HF_110 := Lib.hid (HF_109.out.same HX_110.out)
              rw [hV110, hc110]
              clear hV110 hc110
              refine hK.out _ _ (HSS.out _ HF_110.out) (fun _ => ?_)
              clear hK K
              try simp only [List.getElem_toArray, List.getElem_cons_succ, List.getElem_cons_zero, Act.put, List.setIfInBounds_toArray, List.set_cons_zero, List.set_cons_succ]
              refine wpAnyH_ready (rs := [6]) (by kernel_rfl) (by simp) (AllReadyH.cons (o := _) rfl (fun K hK => ?_) AllReadyH.nil)
              go_simp
              refine (texts_call pp104 rs104 HC_104.out j p q hpk hqk hk40 g2 cap2 dl HDL.out c110 c109 bx by' V110 ((HS_104.out.fr0 HX_109.out).fr0 HX_110.out) (HD5.out.fr HF_110.out (fun _ _ h => h.elim)) HDC.out HB_110.out (HB_109.out.fr HX_110.out (fun h => h)) (HBX.out.fr HF_110.out (fun h => h)) (HBY.out.fr HF_110.out (fun h => h))).mono ?_
              rintro e V111 ⟨DA, dc, SA, sc, KA, kc, rfl, hD111, hFU111⟩
              have HX_111 := Lib.hid hFU111
              have HD_111 := Lib.hid hD111
              have HF_111 := Lib.hid (HF_110.out.same hFU111)
              clear hD111 hFU111
              go_wp2_with fail
              refine hK.out _ _ (HSS.out _ HF_111.out) (fun _ => ?_)
              clear hK K
              try simp only [List.getElem_toArray, List.getElem_cons_succ, List.getElem_cons_zero, Act.put, List.setIfInBounds_toArray, List.set_cons_zero, List.set_cons_succ]
              refine wpAnyH_take (i := 7) (v := .tuple #[.agg #[.slice DA (j + 4) dc, .slice SA 1 sc, .slice KA 1 kc], .int .i64 0]) rfl (by kernel_rfl) (by kernel_rfl) (by kernel_rfl) (fun _ _ _ h => h) (Or.inl ⟨by rfl, fun _ _ => by go_simp⟩) (HSS.out _ HF_111.out) ?_
              refine wpAnyH_take (i := 8) (v := .agg #[.slice DA (j + 4) dc, .slice SA 1 sc, .slice KA 1 kc]) rfl (by kernel_rfl) (by kernel_rfl) (by kernel_rfl) (fun _ _ _ h => h) (Or.inl ⟨by rfl, fun _ _ => by go_simp⟩) (HSS.out _ HF_111.out) ?_
              refine wpAnyH_take (i := 9) (v := .int .i64 0) rfl (by kernel_rfl) (by kernel_rfl) (by kernel_rfl) (fun _ _ _ h => h) (Or.inl ⟨by rfl, fun _ _ => by go_simp⟩) (HSS.out _ HF_111.out) ?_
              try simp only [List.getElem_toArray, List.getElem_cons_succ, List.getElem_cons_zero, Act.put, List.setIfInBounds_toArray, List.set_cons_zero, List.set_cons_succ]
              refine wpAnyH_ready (rs := [11]) (by kernel_rfl) (by simp) (AllReadyH.cons (o := _) rfl (fun K hK => ?_) AllReadyH.nil)
              have x0 := ((((HB_103.out.fr HX_104.out (fun h => h)).fr HX_109.out (fun h => h)).fr HX_110.out (fun h => h)).fr HX_111.out (fun h => h)).cell 0
              have x1 := ((((HB_103.out.fr HX_104.out (fun h => h)).fr HX_109.out (fun h => h)).fr HX_110.out (fun h => h)).fr HX_111.out (fun h => h)).cell 1
              have x2 := ((((HB_103.out.fr HX_104.out (fun h => h)).fr HX_109.out (fun h => h)).fr HX_110.out (fun h => h)).fr HX_111.out (fun h => h)).cell 2
              have f0 := ((((HB_103.out.fr HX_104.out (fun h => h)).fr HX_109.out (fun h => h)).fr HX_110.out (fun h => h)).fr HX_111.out (fun h => h)).frozen 0
              have f1 := ((((HB_103.out.fr HX_104.out (fun h => h)).fr HX_109.out (fun h => h)).fr HX_110.out (fun h => h)).fr HX_111.out (fun h => h)).frozen 1
              have f2 := ((((HB_103.out.fr HX_104.out (fun h => h)).fr HX_109.out (fun h => h)).fr HX_110.out (fun h => h)).fr HX_111.out (fun h => h)).frozen 2
              have xl := ((((HB_103.out.fr HX_104.out (fun h => h)).fr HX_109.out (fun h => h)).fr HX_110.out (fun h => h)).fr HX_111.out (fun h => h)).lt
              simp only [List.getElem?_cons_zero, List.getElem?_cons_succ] at x0 x1 x2
              go_simp
              clear x0 x1 x2 f0 f1 f2 xl
              obtain ⟨V112, hV112⟩ : ∃ W, ((V111.setCell ⟨c103, 0, none⟩ (.slice DA (j + 4) dc)).setCell ⟨c103, 1, none⟩ (.slice SA 1 sc)).setCell ⟨c103, 2, none⟩ (.slice KA 1 kc) = W := ⟨_, rfl⟩
              have HZ_112 := Lib.hid (store3 ((((HB_103.out.fr HX_104.out (fun h => h)).fr HX_109.out (fun h => h)).fr HX_110.out (fun h => h)).fr HX_111.out (fun h => h)) _ _ _ V112 hV112)
              have HF_112 := Lib.hid (show Fr Nob W5 V112 from HF_111.out.trans HZ_112.out.2 (fun i hi e => by have h1 : i = c103 := e; have := HL_103.out; omega))
              rw [hV112]
              clear hV112
              refine hK.out _ _ (HSS.out _ HF_112.out) (fun _ => ?_)
              clear hK K
              try simp only [List.getElem_toArray, List.getElem_cons_succ, List.getElem_cons_zero, Act.put, List.setIfInBounds_toArray, List.set_cons_zero, List.set_cons_succ]
              refine wpAnyH_take (i := 12) (v := .int .i64 0) rfl (by kernel_rfl) (by kernel_rfl) (by kernel_rfl) (fun _ _ _ h => h) (Or.inl ⟨by rfl, fun _ _ => by go_simp⟩) (HSS.out _ HF_112.out) ?_
              refine wpAnyH_done (by kernel_rfl) ?_ _
              go_wp2_with fail
              go_meet
              exact ⟨_, DA, dc, SA, sc, KA, kc, rfl, rfl, HZ_112.out.1, texts_doc HD_111.out ((((HB_103.out.fr HX_104.out (fun h => h)).fr HX_109.out (fun h => h)).fr HX_110.out (fun h => h)).fr HX_111.out (fun h => h)) HZ_112.out.2, HFw.out.same HF_112.out⟩
          · go_simp
            obtain ⟨c113, hc113⟩ : ∃ b, V103.heap.size = b := ⟨_, rfl⟩
            obtain ⟨V113, hV113⟩ : ∃ W, V103.alloc (.cells #[.int .i64 0, .int .i64 (1 + (p : Int)), .int .i64 (1 + (p : Int)), .int .i64 0, .int .i64 0, .int .i64 0, .slice (some ⟨bx, 0, none⟩) 1 1, .int .i64 0] 24) = W := ⟨_, rfl⟩
            have HX_113 := Lib.hid (show Fr Nob V103 V113 by rw [← hV113]; exact (Fr.refl _ _).alloc _)
            have HB_113 := Lib.hid (show Blk V113 c113 [.int .i64 0, .int .i64 (1 + (p : Int)), .int .i64 (1 + (p : Int)), .int .i64 0, .int .i64 0, .int .i64 0, .slice (some ⟨bx, 0, none⟩) 1 1, .int .i64 0] 24 by rw [← hV113, ← hc113]; exact Blk.new _ _ _)
            have HF_113 := Lib.hid (HF_103.out.same HX_113.out)
            rw [hV113, hc113]
            clear hV113 hc113
            refine hK.out _ _ (HSS.out _ HF_113.out) (fun _ => ?_)
            clear hK K
            try simp only [List.getElem_toArray, List.getElem_cons_succ, List.getElem_cons_zero, Act.put, List.setIfInBounds_toArray, List.set_cons_zero, List.set_cons_succ]
            refine wpAnyH_ready (rs := [0, 5]) (by kernel_rfl) (by simp) (AllReadyH.cons (o := _) rfl (fun K hK => ?_) (AllReadyH.cons (o := _) rfl (fun K hK => ?_) AllReadyH.nil))
            · go_simp
              refine (house_any V113 (HHG.out.fr (HFw.out.same HF_113.out) (fun h => h))).mono ?_
              rintro e V114 ⟨⟨pp114, rs114, rfl, hS114, hC114⟩, hF114⟩
              have HS_114 := Lib.hid (hS114.mono (M' := Nob) (fun _ h => h.elim))
              have HC_114 := Lib.hid hC114
              have HX_114 := Lib.hid hF114
              have HF_114 := Lib.hid (HF_113.out.same hF114)
              clear hS114 hC114 hF114
              go_wp2_with fail
              refine hK.out _ _ (HSS.out _ HF_114.out) (fun _ => ?_)
              clear hK K
              try simp only [List.getElem_toArray, List.getElem_cons_succ, List.getElem_cons_zero, Act.put, List.setIfInBounds_toArray, List.set_cons_zero, List.set_cons_succ]
              refine wpAnyH_ready (rs := [5]) (by kernel_rfl) (by simp) (AllReadyH.cons (o := _) rfl (fun K hK => ?_) AllReadyH.nil)
              go_simp
              obtain ⟨c115, hc115⟩ : ∃ b, V114.heap.size = b := ⟨_, rfl⟩
              obtain ⟨V115, hV115⟩ : ∃ W, V114.alloc (.cells #[.int .i64 0, .int .i64 (1 + (q : Int)), .int .i64 (1 + (q : Int)), .int .i64 0, .int .i64 0, .int .i64 0, .slice (some ⟨by', 0, none⟩) 1 1, .int .i64 0] 24) = W := ⟨_, rfl⟩
              have HX_115 := Lib.hid (show Fr Nob V114 V115 by rw [← hV115]; exact (Fr.refl _ _).alloc _)
              have HB_115 := Lib.hid (show Blk V115 c115 [.int .i64 0, .int .i64 (1 + (q : Int)), .int .i64 (1 + (q : Int)), .int .i64 0, .int .i64 0, .int .i64 0, .slice (some ⟨by', 0, none⟩) 1 1, .int .i64 0] 24 by rw [← hV115, ← hc115]; exact Blk.new _ _ _)
              have HF_115 := Lib.hid (HF_114.out.same HX_115.out)
              rw [hV115, hc115]
              clear hV115 hc115
              refine hK.out _ _ (HSS.out _ HF_115.out) (fun _ => ?_)
              clear hK K
              try simp only [List.getElem_toArray, List.getElem_cons_succ, List.getElem_cons_zero, Act.put, List.setIfInBounds_toArray, List.set_cons_zero, List.set_cons_succ]
              refine wpAnyH_ready (rs := [6]) (by kernel_rfl) (by simp) (AllReadyH.cons (o := _) rfl (fun K hK => ?_) AllReadyH.nil)
              go_simp
              refine (texts_call pp114 rs114 HC_114.out j p q hpk hqk hk40 g2 cap2 dl HDL.out c113 c115 bx by' V115 (HS_114.out.fr0 HX_115.out) (HD5.out.fr HF_115.out (fun _ _ h => h.elim)) HDC.out ((HB_113.out.fr HX_114.out (fun h => h)).fr HX_115.out (fun h => h)) HB_115.out (HBX.out.fr HF_115.out (fun h => h)) (HBY.out.fr HF_115.out (fun h => h))).mono ?_
              rintro e V116 ⟨DA, dc, SA, sc, KA, kc, rfl, hD116, hFU116⟩
              have HX_116 := Lib.hid hFU116
              have HD_116 := Lib.hid hD116
              have HF_116 := Lib.hid (HF_115.out.same hFU116)
              clear hD116 hFU116
              go_wp2_with fail
              refine hK.out _ _ (HSS.out _ HF_116.out) (fun _ => ?_)
              clear hK K
              try simp only [List.getElem_toArray, List.getElem_cons_succ, List.getElem_cons_zero, Act.put, List.setIfInBounds_toArray, List.set_cons_zero, List.set_cons_succ]
              refine wpAnyH_take (i := 7) (v := .tuple #[.agg #[.slice DA (j + 4) dc, .slice SA 1 sc, .slice KA 1 kc], .int .i64 0]) rfl (by kernel_rfl) (by kernel_rfl) (by kernel_rfl) (fun _ _ _ h => h) (Or.inl ⟨by rfl, fun _ _ => by go_simp⟩) (HSS.out _ HF_116.out) ?_
              refine wpAnyH_take (i := 8) (v := .agg #[.slice DA (j + 4) dc, .slice SA 1 sc, .slice KA 1 kc]) rfl (by kernel_rfl) (by kernel_rfl) (by kernel_rfl) (fun _ _ _ h => h) (Or.inl ⟨by rfl, fun _ _ => by go_simp⟩) (HSS.out _ HF_116.out) ?_
              refine wpAnyH_take (i := 9) (v := .int .i64 0) rfl (by kernel_rfl) (by kernel_rfl) (by kernel_rfl) (fun _ _ _ h => h) (Or.inl ⟨by rfl, fun _ _ => by go_simp⟩) (HSS.out _ HF_116.out) ?_
              try simp only [List.getElem_toArray, List.getElem_cons_succ, List.getElem_cons_zero, Act.put, List.setIfInBounds_toArray, List.set_cons_zero, List.set_cons_succ]
              refine wpAnyH_ready (rs := [11]) (by kernel_rfl) (by simp) (AllReadyH.cons (o := _) rfl (fun K hK => ?_) AllReadyH.nil)
              have x0 := ((((HB_103.out.fr HX_113.out (fun h => h)).fr HX_114.out (fun h => h)).fr HX_115.out (fun h => h)).fr HX_116.out (fun h => h)).cell 0
              have x1 := ((((HB_103.out.fr HX_113.out (fun h => h)).fr HX_114.out (fun h => h)).fr HX_115.out (fun h => h)).fr HX_116.out (fun h => h)).cell 1
              have x2 := ((((HB_103.out.fr HX_113.out (fun h => h)).fr HX_114.out (fun h => h)).fr HX_115.out (fun h => h)).fr HX_116.out (fun h => h)).cell 2
              have f0 := ((((HB_103.out.fr HX_113.out (fun h => h)).fr HX_114.out (fun h => h)).fr HX_115.out (fun h => h)).fr HX_116.out (fun h => h)).frozen 0
              have f1 := ((((HB_103.out.fr HX_113.out (fun h => h)).fr HX_114.out (fun h => h)).fr HX_115.out (fun h => h)).fr HX_116.out (fun h => h)).frozen 1
              have f2 := ((((HB_103.out.fr HX_113.out (fun h => h)).fr HX_114.out (fun h => h)).fr HX_115.out (fun h => h)).fr HX_116.out (fun h => h)).frozen 2
              have xl := ((((HB_103.out.fr HX_113.out (fun h => h)).fr HX_114.out (fun h => h)).fr HX_115.out (fun h => h)).fr HX_116.out (fun h => h)).lt
              simp only [List.getElem?_cons_zero, List.getElem?_cons_succ] at x0 x1 x2
              go_simp
              clear x0 x1 x2 f0 f1 f2 xl
              obtain ⟨V117, hV117⟩ : ∃ W, ((V116.setCell ⟨c103, 0, none⟩ (.slice DA (j + 4) dc)).setCell ⟨c103, 1, none⟩ (.slice SA 1 sc)).setCell ⟨c103, 2, none⟩ (.slice KA 1 kc) = W := ⟨_, rfl⟩
              have HZ_117 := Lib.hid (store3 ((((HB_103.out.fr HX_113.out (fun h => h)).fr HX_114.out (fun h => h)).fr HX_115.out (fun h => h)).fr HX_116.out (fun h => h)) _ _ _ V117 hV117)
              have HF_117 := Lib.hid (show Fr Nob W5 V117 from HF_116.out.trans HZ_117.out.2 (fun i hi e => by have h1 : i = c103 := e; have := HL_103.out; omega))
              rw [hV117]
              clear hV117
              refine hK.out _ _ (HSS.out _ HF_117.out) (fun _ => ?_)
              clear hK K
              try simp only [List.getElem_toArray, List.getElem_cons_succ, List.getElem_cons_zero, Act.put, List.setIfInBounds_toArray, List.set_cons_zero, List.set_cons_succ]
              refine wpAnyH_take (i := 12) (v := .int .i64 0) rfl (by kernel_rfl) (by kernel_rfl) (by kernel_rfl) (fun _ _ _ h => h) (Or.inl ⟨by rfl, fun _ _ => by go_simp⟩) (HSS.out _ HF_117.out) ?_
              refine wpAnyH_done (by kernel_rfl) ?_ _
              go_wp2_with fail
              go_meet
              exact ⟨_, DA, dc, SA, sc, KA, kc, rfl, rfl, HZ_117.out.1, texts_doc HD_116.out ((((HB_103.out.fr HX_113.out (fun h => h)).fr HX_114.out (fun h => h)).fr HX_115.out (fun h => h)).fr HX_116.out (fun h => h)) HZ_117.out.2, HFw.out.same HF_117.out⟩
            · go_simp
              obtain ⟨c118, hc118⟩ : ∃ b, V113.heap.size = b := ⟨_, rfl⟩
              obtain ⟨V118, hV118⟩ : ∃ W, V113.alloc (.cells #[.int .i64 0, .int .i64 (1 + (q : Int)), .int .i64 (1 + (q : Int)), .int .i64 0, .int .i64 0, .int .i64 0, .slice (some ⟨by', 0, none⟩) 1 1, .int .i64 0] 24) = W := ⟨_, rfl⟩
              have HX_118 := Lib.hid (show Fr Nob V113 V118 by rw [← hV118]; exact (Fr.refl _ _).alloc _)
              have HB_118 := Lib.hid (show Blk V118 c118 [.int .i64 0, .int .i64 (1 + (q : Int)), .int .i64 (1 + (q : Int)), .int .i64 0, .int .i64 0, .int .i64 0, .slice (some ⟨by', 0, none⟩) 1 1, .int .i64 0] 24 by rw [← hV118, ← hc118]; exact Blk.new _ _ _)
              have HF_118 := Lib.hid (HF_113.out.same HX_118.out)
              rw [hV118, hc118]
              clear hV118 hc118
              refine hK.out _ _ (HSS.out _ HF_118.out) (fun _ => ?_)
              clear hK K
              try simp only [List.getElem_toArray, List.getElem_cons_succ, List.getElem_cons_zero, Act.put, List.setIfInBounds_toArray, List.set_cons_zero, List.set_cons_succ]
              refine wpAnyH_ready (rs := [0]) (by kernel_rfl) (by simp) (AllReadyH.cons (o := _) rfl (fun K hK => ?_) AllReadyH.nil)
              go_simp
              refine (house_any V118 (HHG.out.fr (HFw.out.same HF_118.out) (fun h => h))).mono ?_
              rintro e V119 ⟨⟨pp119, rs119, rfl, hS119, hC119⟩, hF119⟩
              have HS_119 := Lib.hid (hS119.mono (M' := Nob) (fun _ h => h.elim))
              have HC_119 := Lib.hid hC119
              have HX_119 := Lib.hid hF119
              have HF_119 := Lib.hid (HF_118.out.same hF119)
              clear hS119 hC119 hF119
              go_wp2_with fail
              refine hK.out _ _ (HSS.out _ HF_119.out) (fun _ => ?_)
              clear hK K
              try simp only [List.getElem_toArray, List.getElem_cons_succ, List.getElem_cons_zero, Act.put, List.setIfInBounds_toArray, List.set_cons_zero, List.set_cons_succ]
              refine wpAnyH_ready (rs := [6]) (by kernel_rfl) (by simp) (AllReadyH.cons (o := _) rfl (fun K hK => ?_) AllReadyH.nil)
              go_simp
              refine (texts_call pp119 rs119 HC_119.out j p q hpk hqk hk40 g2 cap2 dl HDL.out c113 c118 bx by' V119 HS_119.out (HD5.out.fr HF_119.out (fun _ _ h => h.elim)) HDC.out ((HB_113.out.fr HX_118.out (fun h => h)).fr HX_119.out (fun h => h)) (HB_118.out.fr HX_119.out (fun h => h)) (HBX.out.fr HF_119.out (fun h => h)) (HBY.out.fr HF_119.out (fun h => h))).mono ?_
              rintro e V120 ⟨DA, dc, SA, sc, KA, kc, rfl, hD120, hFU120⟩
              have HX_120 := Lib.hid hFU120
              have HD_120 := Lib.hid hD120
              have HF_120 := Lib.hid (HF_119.out.same hFU120)
              clear hD120 hFU120
              go_wp2_with fail
              refine hK.out _ _ (HSS.out _ HF_120.out) (fun _ => ?_)
              clear hK K
              try simp only [List.getElem_toArray, List.getElem_cons_succ, List.getElem_cons_zero, Act.put, List.setIfInBounds_toArray, List.set_cons_zero, List.set_cons_succ]
              refine wpAnyH_take (i := 7) (v := .tuple #[.agg #[.slice DA (j + 4) dc, .slice SA 1 sc, .slice KA 1 kc], .int .i64 0]) rfl (by kernel_rfl) (by kernel_rfl) (by kernel_rfl) (fun _ _ _ h => h) (Or.inl ⟨by rfl, fun _ _ => by go_simp⟩) (HSS.out _ HF_120.out) ?_
              refine wpAnyH_take (i := 8) (v := .agg #[.slice DA (j + 4) dc, .slice SA 1 sc, .slice KA 1 kc]) rfl (by kernel_rfl) (by kernel_rfl) (by kernel_rfl) (fun _ _ _ h => h) (Or.inl ⟨by rfl, fun _ _ => by go_simp⟩) (HSS.out _ HF_120.out) ?_
              refine wpAnyH_take (i := 9) (v := .int .i64 0) rfl (by kernel_rfl) (by kernel_rfl) (by kernel_rfl) (fun _ _ _ h => h) (Or.inl ⟨by rfl, fun _ _ => by go_simp⟩) (HSS.out _ HF_120.out) ?_
              try simp only [List.getElem_toArray, List.getElem_cons_succ, List.getElem_cons_zero, Act.put, List.setIfInBounds_toArray, List.set_cons_zero, List.set_cons_succ]
              refine wpAnyH_ready (rs := [11]) (by kernel_rfl) (by simp) (AllReadyH.cons (o := _) rfl (fun K hK => ?_) AllReadyH.nil)
              have x0 := ((((HB_103.out.fr HX_113.out (fun h => h)).fr HX_118.out (fun h => h)).fr HX_119.out (fun h => h)).fr HX_120.out (fun h => h)).cell 0
              have x1 := ((((HB_103.out.fr HX_113.out (fun h => h)).fr HX_118.out (fun h => h)).fr HX_119.out (fun h => h)).fr HX_120.out (fun h => h)).cell 1
              have x2 := ((((HB_103.out.fr HX_113.out (fun h => h)).fr HX_118.out (fun h => h)).fr HX_119.out (fun h => h)).fr HX_120.out (fun h => h)).cell 2
              have f0 := ((((HB_103.out.fr HX_113.out (fun h => h)).fr HX_118.out (fun h => h)).fr HX_119.out (fun h => h)).fr HX_120.out (fun h => h)).frozen 0
              have f1 := ((((HB_103.out.fr HX_113.out (fun h => h)).fr HX_118.out (fun h => h)).fr HX_119.out (fun h => h)).fr HX_120.out (fun h => h)).frozen 1
              have f2 := ((((HB_103.out.fr HX_113.out (fun h => h)).fr HX_118.out (fun h => h)).fr HX_119.out (fun h => h)).fr HX_120.out (fun h => h)).frozen 2
              have xl := ((((HB_103.out.fr HX_113.out (fun h => h)).fr HX_118.out (fun h => h)).fr HX_119.out (fun h => h)).fr HX_120.out (fun h => h)).lt
              simp only [List.getElem?_cons_zero, List.getElem?_cons_succ] at x0 x1 x2
              go_simp
              clear x0 x1 x2 f0 f1 f2 xl
              obtain ⟨V121, hV121⟩ : ∃ W, ((V120.setCell ⟨c103, 0, none⟩ (.slice DA (j + 4) dc)).setCell ⟨c103, 1, none⟩ (.slice SA 1 sc)).setCell ⟨c103, 2, none⟩ (.slice KA 1 kc) = W := ⟨_, rfl⟩
              have HZ_121 := Lib.hid (store3 ((((HB_103.out.fr HX_113.out (fun h => h)).fr HX_118.out (fun h => h)).fr HX_119.out (fun h => h)).fr HX_120.out (fun h => h)) _ _ _ V121 hV121)
              have HF_121 := Lib.hid (show Fr Nob W5 V121 from HF_120.out.trans HZ_121.out.2 (fun i hi e => by have h1 : i = c103 := e; have := HL_103.out; omega))
              rw [hV121]
              clear hV121
              refine hK.out _ _ (HSS.out _ HF_121.out) (fun _ => ?_)
              clear hK K
              try simp only [List.getElem_toArray, List.getElem_cons_succ, List.getElem_cons_zero, Act.put, List.setIfInBounds_toArray, List.set_cons_zero, List.set_cons_succ]
              refine wpAnyH_take (i := 12) (v := .int .i64 0) rfl (by kernel_rfl) (by kernel_rfl) (by kernel_rfl) (fun _ _ _ h => h) (Or.inl ⟨by rfl, fun _ _ => by go_simp⟩) (HSS.out _ HF_121.out) ?_
              refine wpAnyH_done (by kernel_rfl) ?_ _
              go_wp2_with fail
              go_meet
              exact ⟨_, DA, dc, SA, sc, KA, kc, rfl, rfl, HZ_121.out.1, texts_doc HD_120.out ((((HB_103.out.fr HX_113.out (fun h => h)).fr HX_118.out (fun h => h)).fr HX_119.out (fun h => h)).fr HX_120.out (fun h => h)) HZ_121.out.2, HFw.out.same HF_121.out⟩
          · go_simp
            obtain ⟨c122, hc122⟩ : ∃ b, V103.heap.size = b := ⟨_, rfl⟩
            obtain ⟨V122, hV122⟩ : ∃ W, V103.alloc (.cells #[.int .i64 0, .int .i64 (1 + (q : Int)), .int .i64 (1 + (q : Int)), .int .i64 0, .int .i64 0, .int .i64 0, .slice (some ⟨by', 0, none⟩) 1 1, .int .i64 0] 24) = W := ⟨_, rfl⟩
            have HX_122 := Lib.hid (show Fr Nob V103 V122 by rw [← hV122]; exact (Fr.refl _ _).alloc _)
            have HB_122 := Lib.hid (show Blk V122 c122 [.int .i64 0, .int .i64 (1 + (q : Int)), .int .i64 (1 + (q : Int)), .int .i64 0, .int .i64 0, .int .i64 0, .slice (some ⟨by', 0, none⟩) 1 1, .int .i64 0] 24 by rw [← hV122, ← hc122]; exact Blk.new _ _ _)
            have HF_122 := Lib.hid (HF_103.out.same HX_122.out)
            rw [hV122, hc122]
            clear hV122 hc122
            refine hK.out _ _ (HSS.out _ HF_122.out) (fun _ => ?_)
            clear hK K
            try simp only [List.getElem_toArray, List.getElem_cons_succ, List.getElem_cons_zero, Act.put, List.setIfInBounds_toArray, List.set_cons_zero, List.set_cons_succ]
            refine wpAnyH_ready (rs := [0, 3]) (by kernel_rfl) (by simp) (AllReadyH.cons (o := _) rfl (fun K hK => ?_) (AllReadyH.cons (o := _) rfl (fun K hK => ?_) AllReadyH.nil))
            · go_simp
              refine (house_any V122 (HHG.out.fr (HFw.out.same HF_122.out) (fun h => h))).mono ?_
              rintro e V123 ⟨⟨pp123, rs123, rfl, hS123, hC123⟩, hF123⟩
              have HS_123 := Lib.hid (hS123.mono (M' := Nob) (fun _ h => h.elim))
              have HC_123 := Lib.hid hC123
              have HX_123 := Lib.hid hF123
              have HF_123 := Lib.hid (HF_122.out.same hF123)
              clear hS123 hC123 hF123
              go_wp2_with fail
              refine hK.out _ _ (HSS.out _ HF_123.out) (fun _ => ?_)
              clear hK K
              try simp only [List.getElem_toArray, List.getElem_cons_succ, List.getElem_cons_zero, Act.put, List.setIfInBounds_toArray, List.set_cons_zero, List.set_cons_succ]
              refine wpAnyH_ready (rs := [3]) (by kernel_rfl) (by simp) (AllReadyH.cons (o := _) rfl (fun K hK => ?_) AllReadyH.nil)
              go_simp
              obtain ⟨c124, hc124⟩ : ∃ b, V123.heap.size = b := ⟨_, rfl⟩
              obtain ⟨V124, hV124⟩ : ∃ W, V123.alloc (.cells #[.int .i64 0, .int .i64 (1 + (p : Int)), .int .i64 (1 + (p : Int)), .int .i64 0, .int .i64 0, .int .i64 0, .slice (some ⟨bx, 0, none⟩) 1 1, .int .i64 0] 24) = W := ⟨_, rfl⟩
              have HX_124 := Lib.hid (show Fr Nob V123 V124 by rw [← hV124]; exact (Fr.refl _ _).alloc _)
              have HB_124 := Lib.hid (show Blk V124 c124 [.int .i64 0, .int .i64 (1 + (p : Int)), .int .i64 (1 + (p : Int)), .int .i64 0, .int .i64 0, .int .i64 0, .slice (some ⟨bx, 0, none⟩) 1 1, .int .i64 0] 24 by rw [← hV124, ← hc124]; exact Blk.new _ _ _)
              have HF_124 := Lib.hid (HF_123.out.same HX_124.out)
              rw [hV124, hc124]
              clear hV124 hc124
              refine hK.out _ _ (HSS.out _ HF_124.out) (fun _ => ?_)
              clear hK K
              try simp only [List.getElem_toArray, List.getElem_cons_succ, List.getElem_cons_zero, Act.put, List.setIfInBounds_toArray, List.set_cons_zero, List.set_cons_succ]
              refine wpAnyH_ready (rs := [6]) (by kernel_rfl) (by simp) (AllReadyH.cons (o := _) rfl (fun K hK => ?_) AllReadyH.nil)
              go_simp
              refine (texts_call pp123 rs123 HC_123.out j p q hpk hqk hk40 g2 cap2 dl HDL.out c124 c122 bx by' V124 (HS_123.out.fr0 HX_124.out) (HD5.out.fr HF_124.out (fun _ _ h => h.elim)) HDC.out HB_124.out ((HB_122.out.fr HX_123.out (fun h => h)).fr HX_124.out (fun h => h)) (HBX.out.fr HF_124.out (fun h => h)) (HBY.out.fr HF_124.out (fun h => h))).mono ?_
              rintro e V125 ⟨DA, dc, SA, sc, KA, kc, rfl, hD125, hFU125⟩
              have HX_125 := Lib.hid hFU125
              have HD_125 := Lib.hid hD125
              have HF_125 := Lib.hid (HF_124.out.same hFU125)
              clear hD125 hFU125
              go_wp2_with fail
              refine hK.out _ _ (HSS.out _ HF_125.out) (fun _ => ?_)
              clear hK K
              try simp only [List.getElem_toArray, List.getElem_cons_succ, List.getElem_cons_zero, Act.put, List.setIfInBounds_toArray, List.set_cons_zero, List.set_cons_succ]
              refine wpAnyH_take (i := 7) (v := .tuple #[.agg #[.slice DA (j + 4) dc, .slice SA 1 sc, .slice KA 1 kc], .int .i64 0]) rfl (by kernel_rfl) (by kernel_rfl) (by kernel_rfl) (fun _ _ _ h => h) (Or.inl ⟨by rfl, fun _ _ => by go_simp⟩) (HSS.out _ HF_125.out) ?_
              refine wpAnyH_take (i := 8) (v := .agg #[.slice DA (j + 4) dc, .slice SA 1 sc, .slice KA 1 kc]) rfl (by kernel_rfl) (by kernel_rfl) (by kernel_rfl) (fun _ _ _ h => h) (Or.inl ⟨by rfl, fun _ _ => by go_simp⟩) (HSS.out _ HF_125.out) ?_
              refine wpAnyH_take (i := 9) (v := .int .i64 0) rfl (by kernel_rfl) (by kernel_rfl) (by kernel_rfl) (fun _ _ _ h => h) (Or.inl ⟨by rfl, fun _ _ => by go_simp⟩) (HSS.out _ HF_125.out) ?_
              try simp only [List.getElem_toArray, List.getElem_cons_succ, List.getElem_cons_zero, Act.put, List.setIfInBounds_toArray, List.set_cons_zero, List.set_cons_succ]
              refine wpAnyH_ready (rs := [11]) (by kernel_rfl) (by simp) (AllReadyH.cons (o := _) rfl (fun K hK => ?_) AllReadyH.nil)
              have x0 := ((((HB_103.out.fr HX_122.out (fun h => h)).fr HX_123.out (fun h => h)).fr HX_124.out (fun h => h)).fr HX_125.out (fun h => h)).cell 0
              have x1 := ((((HB_103.out.fr HX_122.out (fun h => h)).fr HX_123.out (fun h => h)).fr HX_124.out (fun h => h)).fr HX_125.out (fun h => h)).cell 1
              have x2 := ((((HB_103.out.fr HX_122.out (fun h => h)).fr HX_123.out (fun h => h)).fr HX_124.out (fun h => h)).fr HX_125.out (fun h => h)).cell 2
              have f0 := ((((HB_103.out.fr HX_122.out (fun h => h)).fr HX_123.out (fun h => h)).fr HX_124.out (fun h => h)).fr HX_125.out (fun h => h)).frozen 0
              have f1 := ((((HB_103.out.fr HX_122.out (fun h => h)).fr HX_123.out (fun h => h)).fr HX_124.out (fun h => h)).fr HX_125.out (fun h => h)).frozen 1
              have f2 := ((((HB_103.out.fr HX_122.out (fun h => h)).fr HX_123.out (fun h => h)).fr HX_124.out (fun h => h)).fr HX_125.out (fun h => h)).frozen 2
              have xl := ((((HB_103.out.fr HX_122.out (fun h => h)).fr HX_123.out (fun h => h)).fr HX_124.out (fun h => h)).fr HX_125.out (fun h => h)).lt
              simp only [List.getElem?_cons_zero, List.getElem?_cons_succ] at x0 x1 x2
              go_simp
              clear x0 x1 x2 f0 f1 f2 xl
              obtain ⟨V126, hV126⟩ : ∃ W, ((V125.setCell ⟨c103, 0, none⟩ (.slice DA (j + 4) dc)).setCell ⟨c103, 1, none⟩ (.slice SA 1 sc)).setCell ⟨c103, 2, none⟩ (.slice KA 1 kc) = W := ⟨_, rfl⟩
              have HZ_126 := Lib.hid (store3 ((((HB_103.out.fr HX_122.out (fun h => h)).fr HX_123.out (fun h => h)).fr HX_124.out (fun h => h)).fr HX_125.out (fun h => h)) _ _ _ V126 hV126)
              have HF_126 := Lib.hid (show Fr Nob W5 V126 from HF_125.out.trans HZ_126.out.2 (fun i hi e => by have h1 : i = c103 := e; have := HL_103.out; omega))
              rw [hV126]
              clear hV126
              refine hK.out _ _ (HSS.out _ HF_126.out) (fun _ => ?_)
              clear hK K
              try simp only [List.getElem_toArray, List.getElem_cons_succ, List.getElem_cons_zero, Act.put, List.setIfInBounds_toArray, List.set_cons_zero, List.set_cons_succ]
              refine wpAnyH_take (i := 12) (v := .int .i64 0) rfl (by kernel_rfl) (by kernel_rfl) (by kernel_rfl) (fun _ _ _ h => h) (Or.inl ⟨by rfl, fun _ _ => by go_simp⟩) (HSS.out _ HF_126.out) ?_
              refine wpAnyH_done (by kernel_rfl) ?_ _
              go_wp2_with fail
              go_meet
              exact ⟨_, DA, dc, SA, sc, KA, kc, rfl, rfl, HZ_126.out.1, texts_doc HD_125.out ((((HB_103.out.fr HX_122.out (fun h => h)).fr HX_123.out (fun h => h)).fr HX_124.out (fun h => h)).fr HX_125.out (fun h => h)) HZ_126.out.2, HFw.out.same HF_126.out⟩
            · go_simp
              obtain ⟨c127, hc127⟩ : ∃ b, V122.heap.size = b := ⟨_, rfl⟩
              obtain ⟨V127, hV127⟩ : ∃ W, V122.alloc (.cells #[.int .i64 0, .int .i64 (1 + (p : Int)), .int .i64 (1 + (p : Int)), .int .i64 0, .int .i64 0, .int .i64 0, .slice (some ⟨bx, 0, none⟩) 1 1, .int .i64 0] 24) = W := ⟨_, rfl⟩
              have HX_127 := Lib.hid (show Fr Nob V122 V127 by rw [← hV127]; exact (Fr.refl _ _).alloc _)
              have HB_127 := Lib.hid (show Blk V127 c127 [.int .i64 0, .int .i64 (1 + (p : Int)), .int .i64 (1 + (p : Int)), .int .i64 0, .int .i64 0, .int .i64 0, .slice (some ⟨bx, 0, none⟩) 1 1, .int .i64 0] 24 by rw [← hV127, ← hc127]; exact Blk.new _ _ _)
              have HF_127 := Lib.hid (HF_122.out.same HX_127.out)
              rw [hV127, hc127]
              clear hV127 hc127
              refine hK.out _ _ (HSS.out _ HF_127.out) (fun _ => ?_)
              clear hK K
              try simp only [List.getElem_toArray, List.getElem_cons_succ, List.getElem_cons_zero, Act.put, List.setIfInBounds_toArray, List.set_cons_zero, List.set_cons_succ]
              refine wpAnyH_ready (rs := [0]) (by kernel_rfl) (by simp) (AllReadyH.cons (o := _) rfl (fun K hK => ?_) AllReadyH.nil)
              go_simp
              refine (house_any V127 (HHG.out.fr (HFw.out.same HF_127.out) (fun h => h))).mono ?_
              rintro e V128 ⟨⟨pp128, rs128, rfl, hS128, hC128⟩, hF128⟩
              have HS_128 := Lib.hid (hS128.mono (M' := Nob) (fun _ h => h.elim))
              have HC_128 := Lib.hid hC128
              have HX_128 := Lib.hid hF128
              have HF_128 := Lib.hid (HF_127.out.same hF128)
              clear hS128 hC128 hF128
              go_wp2_with fail
              refine hK.out _ _ (HSS.out _ HF_128.out) (fun _ => ?_)
              clear hK K
              try simp only [List.getElem_toArray, List.getElem_cons_succ, List.getElem_cons_zero, Act.put, List.setIfInBounds_toArray, List.set_cons_zero, List.set_cons_succ]
              refine wpAnyH_ready (rs := [6]) (by kernel_rfl) (by simp) (AllReadyH.cons (o := _) rfl (fun K hK => ?_) AllReadyH.nil)
              go_simp
              refine (texts_call pp128 rs128 HC_128.out j p q hpk hqk hk40 g2 cap2 dl HDL.out c127 c122 bx by' V128 HS_128.out (HD5.out.fr HF_128.out (fun _ _ h => h.elim)) HDC.out (HB_127.out.fr HX_128.out (fun h => h)) ((HB_122.out.fr HX_127.out (fun h => h)).fr HX_128.out (fun h => h)) (HBX.out.fr HF_128.out (fun h => h)) (HBY.out.fr HF_128.out (fun h => h))).mono ?_
              rintro e V129 ⟨DA, dc, SA, sc, KA, kc, rfl, hD129, hFU129⟩
              have HX_129 := Lib.hid hFU129
              have HD_129 := Lib.hid hD129
              have HF_129 := Lib.hid (HF_128.out.same hFU129)
              clear hD129 hFU129
              go_wp2_with fail
              refine hK.out _ _ (HSS.out _ HF_129.out) (fun _ => ?_)
              clear hK K
              try simp only [List.getElem_toArray, List.getElem_cons_succ, List.getElem_cons_zero, Act.put, List.setIfInBounds_toArray, List.set_cons_zero, List.set_cons_succ]
              refine wpAnyH_take (i := 7) (v := .tuple #[.agg #[.slice DA (j + 4) dc, .slice SA 1 sc, .slice KA 1 kc], .int .i64 0]) rfl (by kernel_rfl) (by kernel_rfl) (by kernel_rfl) (fun _ _ _ h => h) (Or.inl ⟨by rfl, fun _ _ => by go_simp⟩) (HSS.out _ HF_129.out) ?_
              refine wpAnyH_take (i := 8) (v := .agg #[.slice DA (j + 4) dc, .slice SA 1 sc, .slice KA 1 kc]) rfl (by kernel_rfl) (by kernel_rfl) (by kernel_rfl) (fun _ _ _ h => h) (Or.inl ⟨by rfl, fun _ _ => by go_simp⟩) (HSS.out _ HF_129.out) ?_
              refine wpAnyH_take (i := 9) (v := .int .i64 0) rfl (by kernel_rfl) (by kernel_rfl) (by kernel_rfl) (fun _ _ _ h => h) (Or.inl ⟨by rfl, fun _ _ => by go_simp⟩) (HSS.out _ HF_129.out) ?_
              try simp only [List.getElem_toArray, List.getElem_cons_succ, List.getElem_cons_zero, Act.put, List.setIfInBounds_toArray, List.set_cons_zero, List.set_cons_succ]
              refine wpAnyH_ready (rs := [11]) (by kernel_rfl) (by simp) (AllReadyH.cons (o := _) rfl (fun K hK => ?_) AllReadyH.nil)
              have x0 := ((((HB_103.out.fr HX_122.out (fun h => h)).fr HX_127.out (fun h => h)).fr HX_128.out (fun h => h)).fr HX_129.out (fun h => h)).cell 0
              have x1 := ((((HB_103.out.fr HX_122.out (fun h => h)).fr HX_127.out (fun h => h)).fr HX_128.out (fun h => h)).fr HX_129.out (fun h => h)).cell 1
              have x2 := ((((HB_103.out.fr HX_122.out (fun h => h)).fr HX_127.out (fun h => h)).fr HX_128.out (fun h => h)).fr HX_129.out (fun h => h)).cell 2
              have f0 := ((((HB_103.out.fr HX_122.out (fun h => h)).fr HX_127.out (fun h => h)).fr HX_128.out (fun h => h)).fr HX_129.out (fun h => h)).frozen 0
              have f1 := ((((HB_103.out.fr HX_122.out (fun h => h)).fr HX_127.out (fun h => h)).fr HX_128.out (fun h => h)).fr HX_129.out (fun h => h)).frozen 1
              have f2 := ((((HB_103.out.fr HX_122.out (fun h => h)).fr HX_127.out (fun h => h)).fr HX_128.out (fun h => h)).fr HX_129.out (fun h => h)).frozen 2
              have xl := ((((HB_103.out.fr HX_122.out (fun h => h)).fr HX_127.out (fun h => h)).fr HX_128.out (fun h => h)).fr HX_129.out (fun h => h)).lt
              simp only [List.getElem?_cons_zero, List.getElem?_cons_succ] at x0 x1 x2
              go_simp
              clear x0 x1 x2 f0 f1 f2 xl
              obtain ⟨V130, hV130⟩ : ∃ W, ((V129.setCell ⟨c103, 0, none⟩ (.slice DA (j + 4) dc)).setCell ⟨c103, 1, none⟩ (.slice SA 1 sc)).setCell ⟨c103, 2, none⟩ (.slice KA 1 kc) = W := ⟨_, rfl⟩
              have HZ_130 := Lib.hid (store3 ((((HB_103.out.fr HX_122.out (fun h => h)).fr HX_127.out (fun h => h)).fr HX_128.out (fun h => h)).fr HX_129.out (fun h => h)) _ _ _ V130 hV130)
              have HF_130 := Lib.hid (show Fr Nob W5 V130 from HF_129.out.trans HZ_130.out.2 (fun i hi e => by have h1 : i = c103 := e; have := HL_103.out; omega))
              rw [hV130]
              clear hV130
              refine hK.out _ _ (HSS.out _ HF_130.out) (fun _ => ?_)
              clear hK K
              try simp only [List.getElem_toArray, List.getElem_cons_succ, List.getElem_cons_zero, Act.put, List.setIfInBounds_toArray, List.set_cons_zero, List.set_cons_succ]
              refine wpAnyH_take (i := 12) (v := .int .i64 0) rfl (by kernel_rfl) (by kernel_rfl) (by kernel_rfl) (fun _ _ _ h => h) (Or.inl ⟨by rfl, fun _ _ => by go_simp⟩) (HSS.out _ HF_130.out) ?_
              refine wpAnyH_done (by kernel_rfl) ?_ _
              go_wp2_with fail
              go_meet
              exact ⟨_, DA, dc, SA, sc, KA, kc, rfl, rfl, HZ_130.out.1, texts_doc HD_129.out ((((HB_103.out.fr HX_122.out (fun h => h)).fr HX_127.out (fun h => h)).fr HX_128.out (fun h => h)).fr HX_129.out (fun h => h)) HZ_130.out.2, HFw.out.same HF_130.out⟩
      case rest =>
        obtain ⟨X, DA, dc, SA, sc, KA, kc, rfl, rfl, hX, hD, hF⟩ := hcut
        have HX := Lib.hid hX
        have HD := Lib.hid hD
        have HF := Lib.hid hF
        clear hX hD hF
        have hlet := texts_letters hpk hqk
        obtain ⟨D, hDD⟩ : ∃ D, paraD (textsU j p q) = D := ⟨_, rfl⟩
        have hlen := texts_len hpk hqk
        rw [hDD] at hlet hlen HD
        have HLET := Lib.hid hlet
        have HLN := Lib.hid hlen
        clear hlet hlen hDD
        have eP : (1 + (p : Int)) = ((p + 1 : Nat) : Int) := by omega
        have eQ : (1 + (q : Int)) = ((q + 1 : Nat) : Int) := by omega
        obtain ⟨P, hP⟩ : ∃ P : Nat, p + 1 = P := ⟨_, rfl⟩
        obtain ⟨Q, hQ⟩ : ∃ Q : Nat, q + 1 = Q := ⟨_, rfl⟩
        rw [hP, hQ] at HLET
        rw [hP] at eP
        rw [hQ] at eQ
        rw [eP, eQ]
        have hPk : P ≤ j + 1 := by omega
        have hQk : Q ≤ j + 1 := by omega
        have HHj := Lib.hid hk40
        clear eP eQ hP hQ hpk hqk
        have x0 := HX.out.cell 0
        have x1 := HX.out.cell 1
        have xl := HX.out.lt
        simp only [List.getElem?_cons_zero, List.getElem?_cons_succ] at x0 x1
        by_cases hqp : Q ≤ P
        · have hle : (Q : Int) ≤ (P : Int) := by omega
          have hX1 := HLET.out.1
          have hY1 := HLET.out.2
          rw [show atX P Q = P + 1 from if_pos hqp] at hX1
          rw [if_pos hqp] at hY1
          obtain ⟨ad, rfl, cx⟩ := rune_at HD.out (i := P + 1) hX1
          obtain ⟨ad', had, cy⟩ := rune_at HD.out (i := Q) hY1
          injection had with had
          subst had
          clear hX1 hY1
          go_wp2_with fail
          refine (awake_any _ (HHG.out.fr HF.out (fun h => h))).mono ?_
          rintro e w9 ⟨rfl, hF9⟩
          go_wp2_with fail
          go_ret
          exact ⟨rfl, HF.out.same hF9⟩
        · have hle : ¬ (Q : Int) ≤ (P : Int) := by omega
          have hX1 := HLET.out.1
          have hY1 := HLET.out.2
          rw [show atX P Q = P from if_neg hqp] at hX1
          rw [if_neg hqp] at hY1
          obtain ⟨ad, rfl, cx⟩ := rune_at HD.out (i := P) hX1
          obtain ⟨ad', had, cy⟩ := rune_at HD.out (i := Q + 1) hY1
          injection had with had
          subst had
          clear hX1 hY1
          go_wp2_with fail
          refine (awake_any _ (HHG.out.fr HF.out (fun h => h))).mono ?_
          rintro e w9 ⟨rfl, hF9⟩
          go_wp2_with fail
          go_ret
          exact ⟨rfl, HF.out.same hF9⟩
end Go.Proofs.YtanbfplcldloeaaGreatDoor
