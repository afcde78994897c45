/- A part of the proof for chapter 10: TypedW; no conditions. -/
import Derived.Test.YtldcffonfidbcaaGreatDoorY34
import Derived.Deep.AppendLies
/- HistoryTyped: what one typed is undone, what another one typed stays: the walk. -/
namespace Go.Proofs.YtldcffonfidbcaaGreatDoor
open Go.RowKit
theorem rune_cells {U : World} {A : Option Addr} {D : List Tok} (h : Rd Nob U A (tokC D)) {i : Nat} (hi : i < D.length) : ∃ ad, A = some ad ∧ ad.block < U.heap.size ∧ U.cell? ⟨(ad.add (i * 4)).block, (ad.add (i * 4)).off + 2, none⟩ = some (.int .i64 D[i].n) := by
  obtain ⟨ad, rfl, _, hl, _, hj⟩ := Rd.elt Tok.cells_len (by omega) h hi
  exact ⟨ad, rfl, hl, hj 1 (by omega)⟩
theorem put_c (p : Nat) (c : Int) (A : Option Addr) (n : Nat) : (putS (p + 1) c).cells (.slice A (putS (p + 1) c).l.length n) = [.int .i64 0, .int .i64 (1 + (p : Int)), .int .i64 (1 + (p : Int)), .int .i64 0, .int .i64 0, .int .i64 0, .slice A 1 n, .int .i64 0] := by
  have e : ((p + 1 : Nat) : Int) = 1 + (p : Int) := by omega
  simp only [StepM.cells, putS, e]
  rfl
set_option maxRecDepth 100000 in
set_option maxHeartbeats 4000000 in
theorem typed_walk (n0 n1 n2 : Int) (h0 : 0 ≤ n0 ∧ n0 < 256) (h1 : 0 ≤ n1 ∧ n1 < 256) (h2 : 0 ≤ n2 ∧ n2 < 256) (w : World) (hG : HG w) :
    Calls Tryz.prog 4 #[.int .u8 n0, .int .u8 n1, .int .u8 n2] w fun e w' => e = .returned (.bool true) ∧ Fr Nob w w' := by
  have HHG := Lib.hid hG
  clear hG
  obtain ⟨k, hk⟩ : ∃ k : Nat, Int.tmod n0 40 = (k : Int) := ⟨(Int.tmod n0 40).toNat, by have := Int.tmod_nonneg (b := 40) h0.1; omega⟩
  have hk40 : k < 40 := by
    have := Int.tmod_lt_of_pos n0 (show (0 : Int) < 40 by decide)
    omega
  obtain ⟨p, hp⟩ : ∃ p : Nat, Int.tmod n1 ((k : Int) + 1) = (p : Int) := ⟨(Int.tmod n1 ((k : Int) + 1)).toNat, by have := Int.tmod_nonneg (b := (k : Int) + 1) h1.1; omega⟩
  have hpk : p ≤ k := by
    have := Int.tmod_lt_of_pos n1 (show (0 : Int) < (k : Int) + 1 by omega)
    omega
  obtain ⟨q, hq⟩ : ∃ q : Nat, Int.tmod n2 ((k : Int) + 2) = (q : Int) := ⟨(Int.tmod n2 ((k : Int) + 2)).toNat, by have := Int.tmod_nonneg (b := (k : Int) + 2) h2.1; omega⟩
  have hqk : q ≤ k + 1 := by
    have := Int.tmod_lt_of_pos n2 (show (0 : Int) < (k : Int) + 2 by omega)
    omega
  obtain ⟨iT, hiT, hzT0, hzT1, hzT2⟩ := info_parts infoTok
  obtain ⟨W, hW⟩ : ∃ W, w.alloc (.cells #[.int .i64 1, .int .i64 1, .int .i64 0, .int .i64 0] 40) = W := ⟨_, rfl⟩
  have HF1 := Lib.hid (show Fr Nob w W by rw [← hW]; exact (Fr.refl _ _).alloc _)
  have HOW := Lib.hid (show W.ownsRow w.heap.size 40 4 (.slice (some ⟨w.heap.size, 0, none⟩) 1 1) (1 + 0) (tokC (openT :: dotsU 0)) by rw [← hW]; exact World.ownsRow_lit (e := 40) (size := 4) (base := w.heap.size) w #[.int .i64 1, .int .i64 1, .int .i64 0, .int .i64 0] 1 (Nat.le_refl _) (by decide) rfl)
  go_enter Tryz.func4, Tryz.ntmps4
  go_upto_region 3 with (fail)
  clear hW
  go_wp2_with fail
  go_loopg [7, 9] (k) (fun n s7 s9 wr => ∃ (j : Nat), n = k - j ∧ j ≤ k ∧ s9 = .int .i64 j ∧ Hid (wr.ownsRow w.heap.size 40 4 s7 (1 + j) (tokC (openT :: dotsU j))) ∧ Hid (Fr Nob w wr))
  case atStart => exact ⟨0, rfl, Nat.zero_le _, rfl, HOW.out, HF1.out⟩
  case round =>
    obtain ⟨j, rfl, hj, rfl, HO, HF⟩ := hrel
    by_cases hlt : j < k
    · have ht : ((j : Int) < (k : Int)) := by omega
      obtain ⟨VA, vc, rfl, hvc, _⟩ := Rd.of_own (M := Nob) HO.out (fun _ _ h => h)
      have HM := Lib.hid (show 1 + j + 1 ≤ maxLen ∧ (1 + j + 1) * 32 ≤ 140737488355328 ∧ w.heap.size ≤ (wr.alloc (.cells #[.int .i64 0, .int .i64 0, .int .i64 46, .int .i64 0] 40)).heap.size from ⟨by simp only [maxLen]; omega, by omega, by have := HF.out.size; simp; omega⟩)
      have HCC := Lib.hid (show ∀ (i : Nat) (u : Value), [Value.int .i64 0, .int .i64 0, .int .i64 46, .int .i64 0][i]? = some u → (wr.alloc (.cells #[.int .i64 0, .int .i64 0, .int .i64 46, .int .i64 0] 40)).cell? ((⟨wr.heap.size, 0, none⟩ : Addr).add i) = some u from fun i u hu => by
        rw [add_lit]
        exact ((Blk.new wr [.int .i64 0, .int .i64 0, .int .i64 46, .int .i64 0] 40).cell i).trans hu)
      obtain ⟨xs, hxs⟩ : ∃ xs, tokC (openT :: dotsU j) = xs := ⟨_, rfl⟩
      have HXS := Lib.hid hxs
      have HO1 := Lib.hid (show (wr.alloc (.cells #[.int .i64 0, .int .i64 0, .int .i64 46, .int .i64 0] 40)).ownsRow w.heap.size 40 4 (.slice VA (1 + j) vc) (1 + j) xs by rw [← hxs]; exact HO.out.alloc _)
      have HONE := Lib.hid (show ∀ u ∈ [Value.int .i64 0, .int .i64 0, .int .i64 46, .int .i64 0], u.oneCell' = true from fun u hu => by
        simp only [List.mem_cons, List.not_mem_nil, or_false] at hu
        rcases hu with rfl | rfl | rfl | rfl <;> rfl)
      clear hxs
      go_wp2_with (at_builtin; refine wpList_append_lies _ rfl _ _ 22 rfl w.heap.size 40 iT _ 4 32 Tryz.underlying22 hiT hzT0 hzT1 hzT2 rfl (by decide) (.slice VA (1 + j) vc) (1 + j) xs rfl HO1.out ⟨wr.heap.size, 0, none⟩ 1 1 [.int .i64 0, .int .i64 0, .int .i64 46, .int .i64 0] rfl rfl HCC.out HONE.out (by omega) HM.out.1 HM.out.2.1 HM.out.2.2 _ rfl ?_; intro g2 cap2 w2 hown2 hg2 hga2 hgl2)
      have HO2 := Lib.hid (show w2.ownsRow w.heap.size 40 4 (.slice (some ⟨g2, 0, none⟩) (1 + j + 1) cap2) (1 + (j + 1)) (tokC (openT :: dotsU (j + 1))) by
        rw [dots_succ, HXS.out]
        exact hown2)
      have HF2 := Lib.hid (show Fr Nob w w2 from (HF.out.alloc _).trans (Fr.of_grown hg2) (fun i hi e => by
        have h1 := (World.ownsRow.lt HO1.out i e.symm).1
        omega))
      clear hown2 hg2 hga2 hgl2 HO1 HO HF HXS HCC HM HONE
      go_roundg (k - (j + 1))
      case measure => omega
      case rel => exact ⟨j + 1, rfl, by omega, by first | rfl | go_num, HO2.out, HF2.out⟩
    · have ht : ¬ ((j : Int) < (k : Int)) := by omega
      have hjk : j = k := by omega
      subst hjk
      obtain ⟨VA, vc, rfl, hvc, _⟩ := Rd.of_own (M := Nob) HO.out (fun _ _ h => h)
      have HM := Lib.hid (show 1 + j + 1 ≤ maxLen ∧ (1 + j + 1) * 32 ≤ 140737488355328 ∧ w.heap.size ≤ (wr.alloc (.cells #[.int .i64 2, .int .i64 0, .int .i64 0, .int .i64 0] 40)).heap.size from ⟨by simp only [maxLen]; omega, by omega, by have := HF.out.size; simp; omega⟩)
      have HCC := Lib.hid (show ∀ (i : Nat) (u : Value), [Value.int .i64 2, .int .i64 0, .int .i64 0, .int .i64 0][i]? = some u → (wr.alloc (.cells #[.int .i64 2, .int .i64 0, .int .i64 0, .int .i64 0] 40)).cell? ((⟨wr.heap.size, 0, none⟩ : Addr).add i) = some u from fun i u hu => by
        rw [add_lit]
        exact ((Blk.new wr [.int .i64 2, .int .i64 0, .int .i64 0, .int .i64 0] 40).cell i).trans hu)
      obtain ⟨xs, hxs⟩ : ∃ xs, tokC (openT :: dotsU j) = xs := ⟨_, rfl⟩
      have HXS := Lib.hid hxs
      have HO1 := Lib.hid (show (wr.alloc (.cells #[.int .i64 2, .int .i64 0, .int .i64 0, .int .i64 0] 40)).ownsRow w.heap.size 40 4 (.slice VA (1 + j) vc) (1 + j) xs by rw [← hxs]; exact HO.out.alloc _)
      have HONE := Lib.hid (show ∀ u ∈ [Value.int .i64 2, .int .i64 0, .int .i64 0, .int .i64 0], u.oneCell' = true from fun u hu => by
        simp only [List.mem_cons, List.not_mem_nil, or_false] at hu
        rcases hu with rfl | rfl | rfl | rfl <;> rfl)
      clear hxs
      go_upto_region 8 with (at_builtin; refine wpList_append_lies _ rfl _ _ 22 rfl w.heap.size 40 iT _ 4 32 Tryz.underlying22 hiT hzT0 hzT1 hzT2 rfl (by decide) (.slice VA (1 + j) vc) (1 + j) xs rfl HO1.out ⟨wr.heap.size, 0, none⟩ 1 1 [.int .i64 2, .int .i64 0, .int .i64 0, .int .i64 0] rfl rfl HCC.out HONE.out (by omega) HM.out.1 HM.out.2.1 HM.out.2.2 _ rfl ?_; intro g2 cap2 w2 hown2 hg2 hga2 hgl2)
      have HD2 := Lib.hid (show Rd Nob w2 (some ⟨g2, 0, none⟩) (tokC (paraD (dotsU j))) ∧ 1 + j + 1 ≤ cap2 by
        obtain ⟨A, c, e, hc, hr⟩ := Rd.of_own (M := Nob) hown2 (fun _ _ h => h)
        cases e
        refine ⟨?_, hc⟩
        have e : tokC (paraD (dotsU j)) = xs ++ [.int .i64 2, .int .i64 0, .int .i64 0, .int .i64 0] := by
          unfold paraD
          rw [← List.cons_append, tokC_append, HXS.out]
          rfl
        rw [e]
        exact hr)
      have HF2 := Lib.hid (show Fr Nob w w2 from (HF.out.alloc _).trans (Fr.of_grown hg2) (fun i hi e => by
        have h1 := (World.ownsRow.lt HO1.out i e.symm).1
        omega))
      clear hown2 hg2 hga2 hgl2 HO1 HO HF HXS HCC HM HONE hvc
      obtain ⟨dl, hdl⟩ : ∃ n, 1 + j + 1 = n := ⟨_, rfl⟩
      have HDL := Lib.hid hdl
      try simp only [hdl]
      rw [hdl] at HD2
      clear hdl
      go_upto_region 10 with (fail)
      have hlen : (paraD (dotsU j)).length = dl := by
        have h1 : (dotsU j).length = j := List.length_replicate
        have h2 := HDL.out
        simp only [paraD, List.length_cons, List.length_append, List.length_nil, h1]
        omega
      have hnew := hNew_any (some ⟨g2, 0, none⟩) (paraD (dotsU j)) cap2 w2 (HHG.out.fr HF2.out (fun h => h)) HD2.out.1 (by rw [hlen]; exact HD2.out.2) (by rw [hlen]; have := HDL.out; omega)
      rw [hlen] at hnew
      clear hlen
      go_wp2_with fail
      refine hnew.mono ?_
      clear hnew
      rintro e w3 ⟨⟨rs, hC, h0', _⟩, hF3⟩
      obtain ⟨ha1, ha2, ha3, y, ha4⟩ := typed_all hC hk40 hpk hqk
      have HSO := Lib.hid (house_schok hC)
      obtain ⟨G, hGG⟩ : ∃ G, groupsF houseL houseG = G := ⟨_, rfl⟩
      rw [hGG] at HSO h0' ha1 ha2 ha3 ha4
      obtain ⟨hh, p2, rfl, hq2, hP⟩ := h0' ha1
      have HP3 := Lib.hid hP
      have HQ := Lib.hid (show w.heap.size ≤ hh from Nat.le_trans HF2.out.size hq2)
      have HF3 := Lib.hid (HF2.out.same hF3)
      have HA2 := Lib.hid ha2
      have HA3 := Lib.hid ha3
      have HA4 := Lib.hid ha4
      have hl0 : (paraD (dotsU j)).length ≤ 100000 := by
        have h1 : (dotsU j).length = j := List.length_replicate
        simp only [paraD, List.length_cons, List.length_append, List.length_nil, h1]
        omega
      have HL0 := Lib.hid hl0
      have hl1 := insR_len (dotsU j) p 120 (by rw [show (dotsU j).length = j from List.length_replicate]; exact hpk)
      have hl2 := insR_len (insR (dotsU j) p 120) q 121 (by rw [hl1, show (dotsU j).length = j from List.length_replicate]; exact hqk)
      rw [hl1, show (dotsU j).length = j from List.length_replicate] at hl2
      rw [show (dotsU j).length = j from List.length_replicate] at hl1
      have HL1 := Lib.hid (show (paraD (insR (dotsU j) p 120)).length ≤ 100000 by simp only [paraD, List.length_cons, List.length_append, List.length_nil, hl1]; omega)
      have HL2 := Lib.hid (show (paraD (insR (insR (dotsU j) p 120) q 121)).length ≤ 100000 by simp only [paraD, List.length_cons, List.length_append, List.length_nil, hl2]; omega)
      have HL3 := Lib.hid (show (paraD (leftU j p q)).length = j + 3 by simp only [paraD, List.length_cons, List.length_append, List.length_nil, left_len hpk hqk])
      clear h0' ha1 ha2 ha3 ha4 hP hq2 hF3 hl0 hl1 hl2 hC hGG HD2
      go_upto_region 13 with (fail)
      obtain ⟨V1, hV1⟩ : ∃ W, w3.alloc (.cells #[.int .i64 0, .int .i64 0, .int .i64 120, .int .i64 0] 40) = W := ⟨_, rfl⟩
      have HG1 := Lib.hid (show Fr Nob w3 V1 by rw [← hV1]; exact (Fr.refl _ _).alloc _)
      have HX1 := Lib.hid (show Blk V1 w3.heap.size [.int .i64 0, .int .i64 0, .int .i64 120, .int .i64 0] 40 by rw [← hV1]; exact Blk.new _ _ _)
      have HXQ := Lib.hid (show w3.heap.size ≠ hh from fun e => by have := HP3.out.lt; omega)
      have hlo := hLocal_any (One hh) hh p2 rs G HSO.out (newS (paraD (dotsU j))) (putS (p + 1) 120) (some ⟨w3.heap.size, 0, none⟩) 1 V1 (HP3.out.fr0 HG1.out) (fun _ => ⟨_, rfl, fun e => HXQ.out e, fun j u hu => by rw [add_lit]; exact (HX1.out.cell j).trans hu⟩) (Nat.le_refl _) HL0.out (by show 0 ≤ 99; omega) (fun j hj => by have e' : j = hh := hj; rw [e']; exact (HP3.out.fr0 HG1.out).lt)
      rw [HA2.out, put_c] at hlo
      have HLO := Lib.hid hlo
      clear hlo
      go_wp2_with fail
      refine HLO.out.mono ?_
      clear HLO hV1
      rintro e w4 ⟨rfl, hP4, hF4⟩
      simp only at hP4 ⊢
      have HP4 := Lib.hid hP4
      have HF4 := Lib.hid (show Fr Nob w w4 from (HF3.out.same HG1.out).trans hF4 (fun i hi e => by have e' : i = hh := e; have := HQ.out; omega))
      clear hP4 hF4
      go_upto_region 14 with (fail)
      obtain ⟨V2, hV2⟩ : ∃ W, w4.alloc (.cells #[.int .i64 0, .int .i64 0, .int .i64 121, .int .i64 0] 40) = W := ⟨_, rfl⟩
      have HG2 := Lib.hid (show Fr Nob w4 V2 by rw [← hV2]; exact (Fr.refl _ _).alloc _)
      have HX2 := Lib.hid (show Blk V2 w4.heap.size [.int .i64 0, .int .i64 0, .int .i64 121, .int .i64 0] 40 by rw [← hV2]; exact Blk.new _ _ _)
      have HXQ2 := Lib.hid (show w4.heap.size ≠ hh from fun e => by have := HP4.out.lt; omega)
      have hlo := hRemote_any (One hh) hh p2 rs G HSO.out ⟨paraD (insR (dotsU j) p 120), [delS (p + 1)], [], 0⟩ (putS (q + 1) 121) (some ⟨w4.heap.size, 0, none⟩) 1 V2 (HP4.out.fr0 HG2.out) (fun _ => ⟨_, rfl, fun e => HXQ2.out e, fun j u hu => by rw [add_lit]; exact (HX2.out.cell j).trans hu⟩) (Nat.le_refl _) HL1.out (by show 1 ≤ 1000; omega) (by show 0 ≤ 1000; omega) (by show 0 ≤ 100000; omega) (fun j hj => by have e' : j = hh := hj; rw [e']; exact (HP4.out.fr0 HG2.out).lt)
      rw [HA3.out, put_c] at hlo
      have HLO := Lib.hid hlo
      clear hlo
      go_wp2_with fail
      refine HLO.out.mono ?_
      clear HLO hV2
      rintro e w5 ⟨rfl, hP5, hF5⟩
      simp only at hP5 ⊢
      have HP5 := Lib.hid hP5
      have HF5 := Lib.hid (show Fr Nob w w5 from (HF4.out.same HG2.out).trans hF5 (fun i hi e => by have e' : i = hh := e; have := HQ.out; omega))
      clear hP5 hF5
      have hcall := hUndo_any (One hh) hh p2 rs G HSO.out ⟨paraD (insR (insR (dotsU j) p 120) q 121), [delS (atD p q)], [], 0⟩ w5 HP5.out HL2.out (by show 1 ≤ 99; omega) (by show 0 ≤ 99; omega) (fun y hy => by rw [List.mem_singleton.1 hy]; exact Nat.zero_le _) (by show 0 ≤ 100000; omega) (fun j hj => by have e' : j = hh := hj; rw [e']; exact HP5.out.lt)
      rw [HA4.out] at hcall
      have HCA := Lib.hid hcall
      clear hcall
      go_wp2_with fail
      refine HCA.out.mono ?_
      clear HCA
      rintro e w6 ⟨⟨OB, ob, rfl, _⟩, hP6, hF6⟩
      simp only at hP6 ⊢
      obtain ⟨sk, sf, sT, sgf, sgt, sins, SA, sn, sc, sm, hsv⟩ : ∃ k f t gf gt ins SA sn sc m, stepV (some (delS (atD p q))) OB ob = .agg #[.int .i64 k, .int .i64 f, .int .i64 t, .int .i64 gf, .int .i64 gt, .int .i64 ins, .slice SA sn sc, .int .i64 m] := ⟨_, _, _, _, _, _, _, _, _, _, rfl⟩
      rw [hsv]
      clear hsv
      go_upto_region 16 with (fail)
      obtain ⟨w7, hw7⟩ : ∃ W, w6.alloc (.cells #[.int .i64 sk, .int .i64 sf, .int .i64 sT, .int .i64 sgf, .int .i64 sgt, .int .i64 sins, .slice SA sn sc, .int .i64 sm] 32) = W := ⟨_, rfl⟩
      have HF67 := Lib.hid (show Fr Nob w6 w7 by rw [← hw7]; exact (Fr.refl _ _).alloc _)
      have HP7 := Lib.hid (hP6.fr0 HF67.out)
      have HF7 := Lib.hid (show Fr Nob w w7 from HF5.out.trans (hF6.none HF67.out) (fun i hi e => by have e' : i = hh := e; have := HQ.out; omega))
      rw [hw7]
      clear hw7 hP6 hF6
      have hdoc := hDoc_any (One hh) hh p2 rs G ⟨paraD (leftU j p q), [], [y], 0⟩ w7 HP7.out (by rw [HL3.out]; omega)
      simp only [HL3.out] at hdoc
      go_wp2_with fail
      refine hdoc.mono ?_
      clear hdoc
      rintro e w8 ⟨NA, nc, rfl, hnc, hnr, hF8⟩
      have HNR := Lib.hid (hnr.mono (M' := Nob) (fun _ h => h.elim))
      have HF8 := Lib.hid (HF7.out.same hF8)
      have HN1 := Lib.hid (left_n j p q).1
      have HN2 := Lib.hid (left_n j p q).2
      obtain ⟨D, hD⟩ : ∃ D, paraD (leftU j p q) = D := ⟨_, rfl⟩
      rw [hD] at HNR HN1 HN2 HL3
      clear hnc hnr hF8 hD HA2 HA3 HA4 HL0 HL1 HL2
      go_wp2_with fail
      go_loopg [20, 19] (j + 3) (fun n s20 s19 wr => ∃ (i c : Nat), n = j + 3 - i ∧ i ≤ j + 3 ∧ s20 = .int .i64 i ∧ s19 = .int .i64 c ∧ Hid (c = (D.take i).countP (fun x => x.n == 121)) ∧ Hid (Fr Nob w8 wr))
      case atStart => exact ⟨0, 0, rfl, Nat.zero_le _, rfl, rfl, rfl, Fr.refl _ _⟩
      case round =>
        obtain ⟨i, c, rfl, hi3, rfl, rfl, HCN, HFr⟩ := hrel
        by_cases hlt : i < j + 3
        · have hlt2 : (i : Int) < (j : Int) + 3 := by omega
          have hli : i < D.length := by rw [HL3.out]; exact hlt
          have hi0 : (0 : Int) ≤ (i : Int) := by omega
          obtain ⟨ad, rfl, hbl, hc2⟩ := rune_cells (HNR.out.fr HFr.out (fun _ _ h => h)) hli
          have hv := HN1.out _ (List.getElem_mem hli)
          have HTK := Lib.hid (show (D.take (i + 1)).countP (fun x => x.n == 121) = (D.take i).countP (fun x => x.n == 121) + (if (D[i].n == 121) = true then 1 else 0) by
            rw [List.take_succ_eq_append_getElem hli, List.countP_append, List.countP_singleton])
          obtain ⟨v, hvv⟩ : ∃ v, D[i].n = v := ⟨_, rfl⟩
          rw [hvv] at hc2 hv HTK
          have hv1 : (v == 120) = false := by simpa using hv
          have hbl2 : (ad.add (i * 4)).block < wr.heap.size := by rw [add_block]; exact hbl
          have hcb : c ≤ 100 := by rw [HCN.out]; have h1 := List.countP_le_length (p := fun x : Tok => x.n == 121) (l := D.take i); rw [List.length_take] at h1; omega
          clear hvv hli hv
          by_cases h121 : v = 121
          · have hv2 : (v == 121) = true := by simpa using h121
            have HC2 := Lib.hid (show c + 1 = (D.take (i + 1)).countP (fun x => x.n == 121) by rw [HTK.out, ← HCN.out, if_pos hv2])
            clear h121
            go_wp2_with fail
            go_roundg (j + 3 - (i + 1))
            case measure => omega
            case rel => exact ⟨i + 1, c + 1, rfl, by omega, by first | rfl | go_num, by first | rfl | go_num, HC2.out, HFr.out⟩
          · have hv2 : (v == 121) = false := by simpa using h121
            have HC2 := Lib.hid (show c = (D.take (i + 1)).countP (fun x => x.n == 121) by rw [HTK.out, ← HCN.out, if_neg (by rw [hv2]; simp)]; rfl)
            clear h121
            go_wp2_with fail
            go_roundg (j + 3 - (i + 1))
            case measure => omega
            case rel => exact ⟨i + 1, c, rfl, by omega, by first | rfl | go_num, rfl, HC2.out, HFr.out⟩
        · have hlt2 : ¬ ((i : Int) < (j : Int) + 3) := by omega
          have hc1 : c = 1 := by
            rw [HCN.out, show i = D.length by rw [HL3.out]; omega, List.take_length]
            exact HN2.out
          subst hc1
          have HFE := Lib.hid (HF8.out.same HFr.out)
          go_wp2_with fail
          refine (awake24_any wr (HHG.out.fr HFE.out (fun h => h))).mono ?_
          rintro e w9 ⟨rfl, hF9⟩
          go_wp2_with fail
          go_ret
          exact ⟨rfl, HFE.out.same hF9⟩
end Go.Proofs.YtldcffonfidbcaaGreatDoor
