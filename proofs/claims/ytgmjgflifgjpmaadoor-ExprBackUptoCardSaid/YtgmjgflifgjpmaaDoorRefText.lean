/- The reference's 'text'. -/
import Derived.Test.YtgmjgflifgjpmaaDoorExprText
namespace Go.Proofs.YtgmjgflifgjpmaaDoor
open Go.RowKit
theorem join_snoc (l : List (List UInt8)) (t sep : List UInt8) : Lib.join (l ++ [t]) sep = if l = [] then t else Lib.join l sep ++ sep ++ t := by
  cases l with
  | nil => simp [Lib.join_one]
  | cons x l =>
    rw [List.cons_append, Lib.join_cons, Lib.join_cons, if_neg (by simp)]
    unfold Lib.joinTail
    simp
theorem join_take (k : Int) (l : List Tree) (sep : List UInt8) (i : Nat) (hi : i < l.length) : Lib.join ((textL k l).take (i + 1)) sep = if i = 0 then partT k l[i].k (textT l[i]) else Lib.join ((textL k l).take i) sep ++ sep ++ partT k l[i].k (textT l[i]) := by
  rw [List.take_add_one, textL_get k l i hi]
  show Lib.join ((textL k l).take i ++ [_]) sep = _
  rw [join_snoc]
  have h := textL_len k l
  by_cases h0 : i = 0
  · subst h0; simp
  · rw [if_neg h0, if_neg]
    intro h1
    have h2 := congrArg List.length h1
    rw [List.length_take, h] at h2
    simp only [List.length_nil] at h2
    omega
theorem sumL_take (l : List (List UInt8)) (i : Nat) : sumL (l.take i) ≤ sumL l := by
  have e : l = l.take i ++ l.drop i := (List.take_append_drop i l).symm
  have : sumL l = sumL (l.take i) + sumL (l.drop i) := by
    conv => lhs; rw [e]
    unfold sumL
    rw [List.map_append, List.sum_append_nat]
  omega
theorem join_take_len (x : Tree) (c : UInt8) (i : Nat) : (Lib.join ((textL x.k x.l).take i) [c]).length ≤ x.bytes + 4 * x.count := by
  have h1 := join_len [c] rfl ((textL x.k x.l).take i)
  have h2 := sumL_take (textL x.k x.l) i
  have h3 := textL_len4 x.k x.l
  have h4 : ((textL x.k x.l).take i).length ≤ (textL x.k x.l).length := by rw [List.length_take]; omega
  have h5 := count_eq x
  have h6 := bytes_eq x
  omega
set_option maxRecDepth 100000 in
set_option maxHeartbeats 4000000 in
theorem reftext_step (x : Tree) (cs : List Value) (w : World) (h : ERep Nob w x cs) (hn : x.count ≤ 1048576) (hb : x.bytes ≤ 1048576) (hr : rightR x = true)
    (IH : ∀ (k : Nat) (hk : k < x.l.length) (cs : List Value) (w : World), ERep Nob w x.l[k] cs → Calls Tryd.prog 23 #[.agg cs.toArray] w fun e w' => e = .returned (.string (bs (textT x.l[k]))) ∧ Fr Nob w w') :
    Calls Tryd.prog 23 #[.agg cs.toArray] w fun e w' => e = .returned (.string (bs (textT x))) ∧ Fr Nob w w' := by
  obtain ⟨A, c, css, rfl, hc, hR, hE⟩ := h.open_
  have HR := Lib.hid hR
  have HE := Lib.hid hE
  have HIH := Lib.hid IH
  have hlen := len_le_countL x.l
  have hcx := count_eq x
  obtain ⟨kk, hkk⟩ : ∃ kk, kk = x.k := ⟨_, rfl⟩
  have hend : endB kk x.name (x.l.map Tree.k) = true := by
    rw [rightR_eq, ← hkk] at hr
    simp only [Bool.and_eq_true] at hr
    exact hr.2
  have HEN := Lib.hid hend
  have HK := Lib.hid hkk
  have HN := Lib.hid (And.intro hlen (And.intro hcx (And.intro hn hb)))
  have htx := textT_eq x
  rw [← hkk] at htx ⊢
  have HTX := Lib.hid htx
  have hbx := Blk.new w [.int .i64 kk, .string x.name, .slice A x.l.length c] 24
  have HB := Lib.hid hbx
  have hcase : kk = 0 ∨ kk = 1 ∨ (kk = 4 ∨ kk = 5 ∨ kk = 6) ∨ kk = 2 ∨ kk = 3 := by
    unfold endB at hend
    by_cases h0 : kk = 0
    · exact .inl h0
    · rw [if_neg h0] at hend
      by_cases h1 : kk = 1
      · exact .inr (.inl h1)
      · rw [if_neg h1] at hend
        by_cases h4 : kk = 4 ∨ kk = 5 ∨ kk = 6
        · exact .inr (.inr (.inl h4))
        · rw [if_neg h4] at hend
          by_cases h2 : kk = 2 ∨ kk = 3
          · exact .inr (.inr (.inr h2))
          · rw [if_neg h2] at hend; cases hend
  clear hR hE h IH hr hlen hcx hend hkk hn hb htx hbx
  rcases hcase with rfl | rfl | h456 | h23
  · have hl0 : x.l.length = 0 := by
      have h := HEN.out
      unfold endB at h
      simp at h
      simp [h.2]
    rw [hl0]
    have ht : ¬ ((0 : Int) < 0) := by omega
    go_enter Tryd.func23, Tryd.ntmps23
    go_wp2_with fail
    go_loopg [4, 5] 0 (fun n s i wr => n = 0 ∧ s = .string (bs []) ∧ i = .int .i64 0 ∧ Hid (Fr Nob w wr) ∧ Hid (Blk wr w.heap.size [.int .i64 0, .string x.name, .slice A 0 c] 24))
    case atStart => exact ⟨rfl, rfl, rfl, (Fr.refl _ _).alloc _, by have := HB.out; rwa [hl0] at this⟩
    case round =>
      obtain ⟨rfl, rfl, rfl, HF, HBx⟩ := hrel
      have d2 := HBx.out.cell 2
      have hlb := HBx.out.lt
      simp only [List.getElem?_cons_zero, List.getElem?_cons_succ] at d2
      go_wp2_with fail
      go_ret
      refine ⟨?_, HF.out⟩
      rw [HTX.out]
      rfl
  · go_enter Tryd.func23, Tryd.ntmps23
    go_wp2_with fail
    go_ret
    refine ⟨?_, (Fr.refl Nob w).alloc _⟩
    rw [HTX.out, if_pos (by trivial), bs_of]
    rfl
  · have hl1 : x.l.length = 1 := by
      have h1 := HEN.out
      unfold endB at h1
      rw [if_neg (by omega), if_neg (by omega), if_pos h456] at h1
      simp at h1
      omega
    have hfa := (Fr.refl Nob w).alloc (.cells #[.int .i64 kk, .string x.name, .slice A x.l.length c] 24)
    obtain ⟨ad, A2, c2, rfl, q0, q1, q2, hX⟩ := EReps.elt (HR.out.fr hfa (fun _ _ h => h)) (HE.out.fr0 hfa) (k := 0) (by omega)
    have ht : ((0 : Int) < (x.l.length : Int)) := by omega
    have hlt : 0 < x.l.length := by omega
    have e0 : ad.add (0 * 3) = ad := by unfold Addr.add; simp
    rw [e0] at q0 q1 q2
    have htl := textT_len x.l[0]
    have hcl := count_lt_of_mem x.l 0 hlt
    have hbl := bytesL_ge x.l 0 hlt
    have hts : (bs (textT x.l[0])).size ≤ 10000000 := by rw [bs_size]; have := HN.out; have := bytes_eq x; omega
    have htx : textT x = partT kk x.l[0].k (textT x.l[0]) ++ [signC kk] := by
      rw [HTX.out, if_neg (by omega), if_neg (by omega), if_neg (by omega), if_pos h456]
      congr 1
      have h := textL_get kk x.l 0 hlt
      cases hq : textL kk x.l with
      | nil => rw [hq] at h; cases h
      | cons y r => rw [hq] at h; simpa using h
    have hih := HIH.out 0 hlt
    generalize x.l[0] = y at q0 q1 q2 hX hts htx hih
    rw [hl1] at q0 q1 q2 hX ⊢
    have HX := Lib.hid hX
    have HIH := Lib.hid hih
    have HT2 := Lib.hid htx
    clear hX hfa e0 htl hcl hbl htx hih ht hl1 hlt HTX HEN HB
    go_enter Tryd.func23, Tryd.ntmps23
    rcases h456 with rfl | rfl | rfl
    · go_wp2_with fail
      refine (HIH.out _ _ HX.out).mono ?_
      rintro e w2 ⟨rfl, hF2⟩
      have p0 := (hF2.cell (p := ad) (cell_lt q0) (fun h => h)).trans q0
      have HF2 := Lib.hid (((Fr.refl Nob w).alloc _).same hF2)
      have hb2 := (Blk.new w _ _).fr hF2 (fun h => h)
      have d0 := hb2.cell 0
      have d2 := hb2.cell 2
      have hlb := hb2.lt
      simp only [List.getElem?_cons_zero, List.getElem?_cons_succ] at d0 d2
      clear hF2 hb2 q0 q1 q2
      have hyk : (y.k == 2) = true ∧ (y.k == 3) = false ∧ Hid (brackB 4 y.k = true) ∨ (y.k == 2) = false ∧ (y.k == 3) = true ∧ Hid (brackB 4 y.k = true) ∨ (y.k == 2) = false ∧ (y.k == 3) = false ∧ Hid (brackB 4 y.k = false) := by
        by_cases y2 : y.k = 2
        · left; simp [y2, brackB, Hid]
        · right
          by_cases y3 : y.k = 3
          · left; simp [y3, brackB, Hid]
          · right; simp [y2, y3, brackB, Hid]
      rcases hyk with ⟨k1, k2, HY⟩ | ⟨k1, k2, HY⟩ | ⟨k1, k2, HY⟩
      · go_wp2_with fail
        go_ret
        refine ⟨?_, HF2.out⟩
        rw [HT2.out, partT, if_pos HY.out, ← bs_append, show 40 :: (textT y ++ [41]) = [40] ++ textT y ++ [41] from rfl, ← bs_append, ← bs_append]
        rfl
      · go_wp2_with fail
        go_ret
        refine ⟨?_, HF2.out⟩
        rw [HT2.out, partT, if_pos HY.out, ← bs_append, show 40 :: (textT y ++ [41]) = [40] ++ textT y ++ [41] from rfl, ← bs_append, ← bs_append]
        rfl
      · go_wp2_with fail
        go_ret
        refine ⟨?_, HF2.out⟩
        rw [HT2.out, partT, if_neg (by rw [HY.out]; simp), ← bs_append]
        rfl
    · go_wp2_with fail
      refine (HIH.out _ _ HX.out).mono ?_
      rintro e w2 ⟨rfl, hF2⟩
      have p0 := (hF2.cell (p := ad) (cell_lt q0) (fun h => h)).trans q0
      have HF2 := Lib.hid (((Fr.refl Nob w).alloc _).same hF2)
      have hb2 := (Blk.new w _ _).fr hF2 (fun h => h)
      have d0 := hb2.cell 0
      have d2 := hb2.cell 2
      have hlb := hb2.lt
      simp only [List.getElem?_cons_zero, List.getElem?_cons_succ] at d0 d2
      clear hF2 hb2 q0 q1 q2
      have hyk : (y.k == 2) = true ∧ (y.k == 3) = false ∧ Hid (brackB 5 y.k = true) ∨ (y.k == 2) = false ∧ (y.k == 3) = true ∧ Hid (brackB 5 y.k = true) ∨ (y.k == 2) = false ∧ (y.k == 3) = false ∧ Hid (brackB 5 y.k = false) := by
        by_cases y2 : y.k = 2
        · left; simp [y2, brackB, Hid]
        · right
          by_cases y3 : y.k = 3
          · left; simp [y3, brackB, Hid]
          · right; simp [y2, y3, brackB, Hid]
      rcases hyk with ⟨k1, k2, HY⟩ | ⟨k1, k2, HY⟩ | ⟨k1, k2, HY⟩
      · go_wp2_with fail
        go_ret
        refine ⟨?_, HF2.out⟩
        rw [HT2.out, partT, if_pos HY.out, ← bs_append, show 40 :: (textT y ++ [41]) = [40] ++ textT y ++ [41] from rfl, ← bs_append, ← bs_append]
        rfl
      · go_wp2_with fail
        go_ret
        refine ⟨?_, HF2.out⟩
        rw [HT2.out, partT, if_pos HY.out, ← bs_append, show 40 :: (textT y ++ [41]) = [40] ++ textT y ++ [41] from rfl, ← bs_append, ← bs_append]
        rfl
      · go_wp2_with fail
        go_ret
        refine ⟨?_, HF2.out⟩
        rw [HT2.out, partT, if_neg (by rw [HY.out]; simp), ← bs_append]
        rfl
    · go_wp2_with fail
      refine (HIH.out _ _ HX.out).mono ?_
      rintro e w2 ⟨rfl, hF2⟩
      have p0 := (hF2.cell (p := ad) (cell_lt q0) (fun h => h)).trans q0
      have HF2 := Lib.hid (((Fr.refl Nob w).alloc _).same hF2)
      have hb2 := (Blk.new w _ _).fr hF2 (fun h => h)
      have d0 := hb2.cell 0
      have d2 := hb2.cell 2
      have hlb := hb2.lt
      simp only [List.getElem?_cons_zero, List.getElem?_cons_succ] at d0 d2
      clear hF2 hb2 q0 q1 q2
      have hyk : (y.k == 2) = true ∧ (y.k == 3) = false ∧ Hid (brackB 6 y.k = true) ∨ (y.k == 2) = false ∧ (y.k == 3) = true ∧ Hid (brackB 6 y.k = true) ∨ (y.k == 2) = false ∧ (y.k == 3) = false ∧ Hid (brackB 6 y.k = false) := by
        by_cases y2 : y.k = 2
        · left; simp [y2, brackB, Hid]
        · right
          by_cases y3 : y.k = 3
          · left; simp [y3, brackB, Hid]
          · right; simp [y2, y3, brackB, Hid]
      rcases hyk with ⟨k1, k2, HY⟩ | ⟨k1, k2, HY⟩ | ⟨k1, k2, HY⟩
      · go_wp2_with fail
        go_ret
        refine ⟨?_, HF2.out⟩
        rw [HT2.out, partT, if_pos HY.out, ← bs_append, show 40 :: (textT y ++ [41]) = [40] ++ textT y ++ [41] from rfl, ← bs_append, ← bs_append]
        rfl
      · go_wp2_with fail
        go_ret
        refine ⟨?_, HF2.out⟩
        rw [HT2.out, partT, if_pos HY.out, ← bs_append, show 40 :: (textT y ++ [41]) = [40] ++ textT y ++ [41] from rfl, ← bs_append, ← bs_append]
        rfl
      · go_wp2_with fail
        go_ret
        refine ⟨?_, HF2.out⟩
        rw [HT2.out, partT, if_neg (by rw [HY.out]; simp), ← bs_append]
        rfl
  · have hl0 : textT x = Lib.join (textL kk x.l) [if kk = 2 then 32 else 124] := by
      rw [HTX.out, if_neg (by omega)]
      rcases h23 with rfl | rfl
      · rfl
      · rfl
    have hbk : ∀ j : Int, j ≠ kk → brackB kk j = (decide (kk = 2) && decide (j = 3)) := by
      intro j hj
      unfold brackB
      rcases h23 with rfl | rfl
      · by_cases h3 : j = 3 <;> simp [h3, hj]
      · simp
    have hks : ∀ (i : Nat) (hi : i < x.l.length), x.l[i].k ≠ kk := by
      intro i hi
      have h1 := HEN.out
      unfold endB at h1
      rw [if_neg (by omega), if_neg (by omega), if_neg (by omega), if_pos h23] at h1
      simp only [Bool.and_eq_true, List.all_eq_true] at h1
      have h2 := h1.1.1 _ (List.mem_map_of_mem (List.getElem_mem hi))
      simpa using h2
    have hjl : ∀ (c : UInt8) (i : Nat), (bs (Lib.join ((textL kk x.l).take i) [c])).size ≤ 100000000 := fun c i => by
      rw [bs_size]
      have h := join_take_len x c i
      rw [← HK.out] at h
      have := HN.out
      omega
    have HL0 := Lib.hid hl0
    have HBK := Lib.hid hbk
    have HKS := Lib.hid hks
    have HJL := Lib.hid hjl
    clear hl0 hbk hks hjl
    go_enter Tryd.func23, Tryd.ntmps23
    rcases h23 with rfl | rfl
    · go_wp2_with fail
      go_loopg [4, 5] (x.l.length) (fun n s i wr => ∃ k, n = x.l.length - k ∧ k ≤ x.l.length ∧ s = .string (bs (Lib.join ((textL 2 x.l).take k) [32])) ∧ i = .int .i64 k ∧ Hid (Fr Nob w wr) ∧ Hid (Blk wr w.heap.size [.int .i64 2, .string x.name, .slice A x.l.length c] 24))
      case atStart => exact ⟨0, rfl, Nat.zero_le _, rfl, rfl, (Fr.refl _ _).alloc _, HB.out⟩
      case round =>
        obtain ⟨k, rfl, hk, rfl, rfl, HF, HBx⟩ := hrel
        have d0 := HBx.out.cell 0
        have d2 := HBx.out.cell 2
        have hlb := HBx.out.lt
        simp only [List.getElem?_cons_zero, List.getElem?_cons_succ] at d0 d2
        by_cases hlt : k < x.l.length
        · have ht : ((k : Int) < (x.l.length : Int)) := by omega
          obtain ⟨ad, A2, c2, rfl, q0, q1, q2, hX⟩ := EReps.elt (HR.out.fr HF.out (fun _ _ h => h)) (HE.out.fr0 HF.out) hlt
          have HX := Lib.hid hX
          have htl := textT_len x.l[k]
          have hcl := count_lt_of_mem x.l k hlt
          have hbl := bytesL_ge x.l k hlt
          have hts : (bs (textT x.l[k])).size ≤ 10000000 := by rw [bs_size]; have := HN.out; have := bytes_eq x; omega
          have hjs := HJL.out 32 k
          have hjt := join_take 2 x.l [32] k hlt
          have HJT := Lib.hid hjt
          have hyk := HBK.out x.l[k].k (HKS.out k hlt)
          have hkn := HKS.out k hlt
          have hyk2 : (x.l[k].k == 2) = false ∧ ((x.l[k].k == 3) = true ∧ Hid (brackB 2 x.l[k].k = true) ∨ (x.l[k].k == 3) = false ∧ Hid (brackB 2 x.l[k].k = false)) := by
            rw [hyk]
            refine ⟨by simpa using hkn, ?_⟩
            by_cases y3 : x.l[k].k = 3
            · left; simp [y3, Hid]
            · right; simp [y3, Hid]
          clear hX htl hcl hbl hjt hyk hkn
          go_wp2_with fail
          refine (HIH.out k hlt _ _ HX.out).mono ?_
          rintro e w2 ⟨rfl, hF2⟩
          have p0 := (hF2.cell (p := ad.add (k * 3)) (cell_lt q0) (fun h => h)).trans q0
          have HF2 := Lib.hid (HF.out.same hF2)
          have HB2 := Lib.hid (HBx.out.fr hF2 (fun h => h))
          have hb2 := HBx.out.fr hF2 (fun h => h)
          clear d0 d2 hlb
          have d0 := hb2.cell 0
          have d2 := hb2.cell 2
          have hlb := hb2.lt
          simp only [List.getElem?_cons_zero, List.getElem?_cons_succ] at d0 d2
          clear hF2 hb2 q0 q1 q2
          obtain ⟨k0, hyk2⟩ := hyk2
          generalize textT x.l[k] = t at hts HJT
          obtain ⟨J, hJ⟩ : ∃ J, Lib.join ((textL 2 x.l).take k) [32] = J := ⟨_, rfl⟩
          have hJ0 : k = 0 → J = [] := fun h => by rw [← hJ, h]; rfl
          have HJ0 := Lib.hid hJ0
          rw [hJ] at hjs HJT ⊢
          clear hJ hJ0
          have hpos : (k : Int) > 0 ∧ Hid (k ≠ 0) ∨ ¬ (k : Int) > 0 ∧ Hid (k = 0) := by
            by_cases h : k = 0
            · right; exact ⟨by omega, h⟩
            · left; exact ⟨by omega, h⟩
          rcases hpos with ⟨hp, HP⟩ | ⟨hp, HP⟩
          all_goals rcases hyk2 with ⟨k1, HY⟩ | ⟨k1, HY⟩
          all_goals
            go_wp2_with fail
            go_roundg (x.l.length - (k + 1))
            case measure => omega
            case rel =>
              have hlen := HN.out
              refine ⟨k + 1, rfl, hlt, ?_, by first | rfl | (rw [w64 _ (by omega) (by omega)]; rfl), HF2.out, HB2.out⟩
              have hjt := HJT.out
              have hp := HP.out
              have hy := HY.out
              rw [hjt]
              unfold partT
              rw [hy]
              first
                | (rw [if_neg hp, ← bs_append, ← bs_append]; first | rfl | (rw [if_pos rfl, show 40 :: (t ++ [41]) = [40] ++ t ++ [41] from rfl, ← bs_append, ← bs_append]; rfl))
                | (rw [if_pos hp, HJ0.out hp]; first | (show Value.string (bs [] ++ bs t) = _; rw [bs_append]; rfl) | (rw [if_pos rfl, show 40 :: (t ++ [41]) = [40] ++ t ++ [41] from rfl, ← bs_append, ← bs_append]; show Value.string (bs [] ++ (bs [40] ++ bs t ++ bs [41])) = _; rw [bs_append, bs_append, bs_append]; rfl))
        · have ht : ¬ ((k : Int) < (x.l.length : Int)) := by omega
          have hkl : k = x.l.length := by omega
          subst hkl
          have hall : (textL 2 x.l).take x.l.length = textL 2 x.l := List.take_of_length_le (by rw [textL_len]; omega)
          rw [hall]
          go_wp2_with fail
          go_ret
          refine ⟨?_, HF.out⟩
          rw [HL0.out]
          rfl
    · go_wp2_with fail
      go_loopg [4, 5] (x.l.length) (fun n s i wr => ∃ k, n = x.l.length - k ∧ k ≤ x.l.length ∧ s = .string (bs (Lib.join ((textL 3 x.l).take k) [124])) ∧ i = .int .i64 k ∧ Hid (Fr Nob w wr) ∧ Hid (Blk wr w.heap.size [.int .i64 3, .string x.name, .slice A x.l.length c] 24))
      case atStart => exact ⟨0, rfl, Nat.zero_le _, rfl, rfl, (Fr.refl _ _).alloc _, HB.out⟩
      case round =>
        obtain ⟨k, rfl, hk, rfl, rfl, HF, HBx⟩ := hrel
        have d0 := HBx.out.cell 0
        have d2 := HBx.out.cell 2
        have hlb := HBx.out.lt
        simp only [List.getElem?_cons_zero, List.getElem?_cons_succ] at d0 d2
        by_cases hlt : k < x.l.length
        · have ht : ((k : Int) < (x.l.length : Int)) := by omega
          obtain ⟨ad, A2, c2, rfl, q0, q1, q2, hX⟩ := EReps.elt (HR.out.fr HF.out (fun _ _ h => h)) (HE.out.fr0 HF.out) hlt
          have HX := Lib.hid hX
          have htl := textT_len x.l[k]
          have hcl := count_lt_of_mem x.l k hlt
          have hbl := bytesL_ge x.l k hlt
          have hts : (bs (textT x.l[k])).size ≤ 10000000 := by rw [bs_size]; have := HN.out; have := bytes_eq x; omega
          have hjs := HJL.out 124 k
          have hjt := join_take 3 x.l [124] k hlt
          have HJT := Lib.hid hjt
          have hyk := HBK.out x.l[k].k (HKS.out k hlt)
          have hkn := HKS.out k hlt
          have hyk2 : (x.l[k].k == 3) = false ∧ ((x.l[k].k == 3) = true ∧ Hid (brackB 3 x.l[k].k = false) ∨ (x.l[k].k == 3) = false ∧ Hid (brackB 3 x.l[k].k = false)) := by
            rw [hyk]
            refine ⟨by simpa using hkn, ?_⟩
            by_cases y3 : x.l[k].k = 3
            · left; simp [y3, Hid]
            · right; simp [y3, Hid]
          clear hX htl hcl hbl hjt hyk hkn
          go_wp2_with fail
          refine (HIH.out k hlt _ _ HX.out).mono ?_
          rintro e w2 ⟨rfl, hF2⟩
          have p0 := (hF2.cell (p := ad.add (k * 3)) (cell_lt q0) (fun h => h)).trans q0
          have HF2 := Lib.hid (HF.out.same hF2)
          have HB2 := Lib.hid (HBx.out.fr hF2 (fun h => h))
          have hb2 := HBx.out.fr hF2 (fun h => h)
          clear d0 d2 hlb
          have d0 := hb2.cell 0
          have d2 := hb2.cell 2
          have hlb := hb2.lt
          simp only [List.getElem?_cons_zero, List.getElem?_cons_succ] at d0 d2
          clear hF2 hb2 q0 q1 q2
          obtain ⟨k0, hyk2⟩ := hyk2
          generalize textT x.l[k] = t at hts HJT
          obtain ⟨J, hJ⟩ : ∃ J, Lib.join ((textL 3 x.l).take k) [124] = J := ⟨_, rfl⟩
          have hJ0 : k = 0 → J = [] := fun h => by rw [← hJ, h]; rfl
          have HJ0 := Lib.hid hJ0
          rw [hJ] at hjs HJT ⊢
          clear hJ hJ0
          have hpos : (k : Int) > 0 ∧ Hid (k ≠ 0) ∨ ¬ (k : Int) > 0 ∧ Hid (k = 0) := by
            by_cases h : k = 0
            · right; exact ⟨by omega, h⟩
            · left; exact ⟨by omega, h⟩
          rcases hpos with ⟨hp, HP⟩ | ⟨hp, HP⟩
          all_goals rcases hyk2 with ⟨k1, HY⟩ | ⟨k1, HY⟩
          all_goals
            go_wp2_with fail
            go_roundg (x.l.length - (k + 1))
            case measure => omega
            case rel =>
              have hlen := HN.out
              refine ⟨k + 1, rfl, hlt, ?_, by first | rfl | (rw [w64 _ (by omega) (by omega)]; rfl), HF2.out, HB2.out⟩
              have hjt := HJT.out
              have hp := HP.out
              have hy := HY.out
              rw [hjt]
              unfold partT
              rw [hy]
              first
                | (rw [if_neg hp, ← bs_append, ← bs_append]; first | rfl | (rw [if_pos rfl, show 40 :: (t ++ [41]) = [40] ++ t ++ [41] from rfl, ← bs_append, ← bs_append]; rfl))
                | (rw [if_pos hp, HJ0.out hp]; first | (show Value.string (bs [] ++ bs t) = _; rw [bs_append]; rfl) | (rw [if_pos rfl, show 40 :: (t ++ [41]) = [40] ++ t ++ [41] from rfl, ← bs_append, ← bs_append]; show Value.string (bs [] ++ (bs [40] ++ bs t ++ bs [41])) = _; rw [bs_append, bs_append, bs_append]; rfl))
        · have ht : ¬ ((k : Int) < (x.l.length : Int)) := by omega
          have hkl : k = x.l.length := by omega
          subst hkl
          have hall : (textL 3 x.l).take x.l.length = textL 3 x.l := List.take_of_length_le (by rw [textL_len]; omega)
          rw [hall]
          go_wp2_with fail
          go_ret
          refine ⟨?_, HF.out⟩
          rw [HL0.out]
          rfl
theorem reftext_any (x : Tree) (cs : List Value) (w : World) (h : ERep Nob w x cs) (hn : x.count ≤ 1048576) (hb : x.bytes ≤ 1048576) (hr : rightR x = true) :
    Calls Tryd.prog 23 #[.agg cs.toArray] w fun e w' => e = .returned (.string (bs (textT x))) ∧ Fr Nob w w' :=
  reftext_step x cs w h hn hb hr (fun k hk cs w h => reftext_any x.l[k] cs w h (by have := count_lt_of_mem x.l k hk; have := count_eq x; omega) (by have := bytesL_ge x.l k hk; have := bytes_eq x; omega) (by
    rw [rightR_eq, Bool.and_eq_true] at hr
    exact ((rightRL_iff x.l).1 hr.1 _ (List.getElem_mem hk)).2))
termination_by x
decreasing_by exact Tree.lt_of_elt x k hk
end Go.Proofs.YtgmjgflifgjpmaaDoor
