/- Chapter 22: the reference's 'number'. -/
import Derived.Test.YtdoogkohfjkefaaDoorScNum
import Derived.Deep.Cut
namespace Go.Proofs.YtdoogkohfjkefaaDoor
open Go.RowKit
theorem pre_cons (c : UInt8) (t : List UInt8) : Lib.hasPrefix (c :: t) [45] = (c == 45) := by
  simp [Lib.hasPrefix, List.isPrefixOf, Bool.beq_comm]
set_option maxRecDepth 100000 in
set_option maxHeartbeats 2000000 in
theorem refnumber_any (s : ByteArray) (hs : s.size ≤ 4611686018427387904) (w : World) :
    Calls Tryd.prog 26 #[.string s] w fun e w' => e = .returned (numV (numF s.data.toList)) ∧ Fr Nob w w' := by
  have hsl : s.data.toList.length = s.size := by simp
  have hst : s.toList = s.data.toList := ByteArray.toList_eq s
  obtain ⟨S, hS⟩ : ∃ S, s.data.toList = S := ⟨_, rfl⟩
  rw [hS] at hsl hst ⊢
  cases S with
  | nil =>
    have HN := Lib.hid (show numF [] = none from numF_none (.inl (by simp [bareL, Lib.trimPrefix, Lib.hasPrefix])))
    have g0 : s.toList = [] := hst
    clear hsl hst hS
    go_enter Tryd.func26, Tryd.ntmps26
    go_wp2_with fail
    refine bodyPost_ret (v := numV none) (by simp [results, go_sem, numV]) rfl ⟨by rw [HN.out], Fr.refl _ _⟩
  | cons c t =>
    have hz : 0 < s.size := by rw [← hsl]; simp
    have hc0 : s[0] = c := by
      have : s.data.toList[0]? = some c := by rw [hS]; rfl
      rw [Array.getElem?_toList] at this
      exact (Array.getElem?_eq_some_iff.1 this).2
    have hzi : ((0 : Int) < (s.size : Int)) := by omega
    have gi : s.toList.isEmpty = false := by rw [hst]; rfl
    have g0 : ¬ s.toList = [] := by rw [hst]; simp
    have HS := Lib.hid (And.intro hS (And.intro hsl hst))
    clear hS hsl hst
    by_cases hm : c = 45
    · subst hm
      have k45 : (((45 : UInt8).toNat : Int) == 45) = true := rfl
      go_enter Tryd.func26, Tryd.ntmps26
      go_upto_region 4 with fail
      have hdl : (s.extract 1 s.size).data.toList = t := by
        rw [ByteArray.data_extract, Array.toList_extract, HS.out.1]
        have := HS.out.2.1
        simp only [List.length_cons] at this
        simp [List.extract, ← this]
      have hdz : (s.extract 1 s.size).size = t.length := by
        rw [ByteArray.size_extract]
        have := HS.out.2.1
        simp only [List.length_cons] at this
        omega
      have hds : ((s.extract 1 s.size).toList == s.toList) = false := by
        rw [ByteArray.toList_eq, ByteArray.toList_eq, hdl, HS.out.1]
        simp
      generalize s.extract 1 s.size = D at hdl hdz hds
      have hdt : D.toList = t := by rw [ByteArray.toList_eq]; exact hdl
      have hnf : numF (45 :: t) = if t = [] ∨ 9 < (t).length ∨ ((t).head? = some 48 ∧ 45 :: t ≠ [48]) ∨ (t).all digitB = false then none else some (-(valD (t) : Int)) := by
        have e1 : bareL (45 :: t) = t := by unfold bareL Lib.trimPrefix; rw [pre_cons, show ((45 : UInt8) == 45) = true from rfl]; rfl
        have e2 : negB (45 :: t) = true := by unfold negB; rw [pre_cons]; exact show ((45 : UInt8) == 45) = true from rfl
        unfold numF; rw [e1, e2]; rfl
      have HNF := Lib.hid hnf
      clear hnf
      by_cases h0 : t = []
      · have HN := Lib.hid (show numF (45 :: t) = none by rw [HNF.out, if_pos (.inl h0)])
        have g1 : D.toList = [] := by rw [hdt, h0]
        clear HNF h0 hdl hdz hdt
        go_wp2_with fail
        refine bodyPost_ret (v := numV none) (by simp [results, go_sem, numV]) rfl ⟨by rw [HN.out], Fr.refl _ _⟩
      have g1 : D.toList.isEmpty = false := by rw [hdt]; simpa using h0
      by_cases h9 : 9 < (t).length
      · have HN := Lib.hid (show numF (45 :: t) = none by rw [HNF.out, if_pos (.inr (.inl h9))])
        have g9 : decide (9 < (D.size : Int)) = true := by simp; omega
        have g9' : (D.size : Int) > 9 := by omega
        clear HNF h0 hdl hdz hdt h9
        go_wp2_with fail
        refine bodyPost_ret (v := numV none) (by simp [results, go_sem, numV]) rfl ⟨by rw [HN.out], Fr.refl _ _⟩
      have g9 : decide (9 < (D.size : Int)) = false := by simp; omega
      have g9' : ¬ (D.size : Int) > 9 := by omega
      obtain ⟨c0, t0, hct⟩ : ∃ c0 t0, t = c0 :: t0 := by
        cases hq : t with
        | nil => exact absurd hq h0
        | cons c t => exact ⟨c, t, rfl⟩
      have hd0 : 0 < D.size := by rw [hdz, hct]; simp
      have hcd : D[0] = c0 := by
        have : D.data.toList[0]? = some c0 := by rw [hdl, hct]; rfl
        rw [Array.getElem?_toList] at this
        exact (Array.getElem?_eq_some_iff.1 this).2
      have hzd : ((0 : Int) < (D.size : Int)) := by omega
      have hlen := HS.out.2.1
      have hlc : (((c0.toNat : Int)) == 48) = false ∧ ¬ ((t).head? = some 48 ∧ 45 :: t ≠ [48]) ∨ (((c0.toNat : Int)) == 48) = true ∧ ((1 : Int) < s.size ∧ decide ((1 : Int) < s.size) = true ∧ Hid ((t).head? = some 48 ∧ 45 :: t ≠ [48]) ∨ ¬ ((1 : Int) < s.size) ∧ decide ((1 : Int) < s.size) = false ∧ Hid (¬ ((t).head? = some 48 ∧ 45 :: t ≠ [48]))) := by
        by_cases h : c0 = 48
        · right
          refine ⟨by rw [h]; rfl, ?_⟩
          by_cases h2 : 1 < s.size
          · left
            refine ⟨by omega, by simp; omega, by rw [hct, h]; rfl, ?_⟩
            intro he
            rw [he] at hlen
            simp at hlen
            omega
          · right
            refine ⟨by omega, by simp; omega, ?_⟩
            rintro ⟨_, h4⟩
            apply h4
            rw [hct] at hlen; simp at hlen; omega
        · left
          refine ⟨by simp; exact fun hh => h (UInt8.toNat_inj.1 (by rw [show (48 : UInt8).toNat = 48 from rfl]; omega)), ?_⟩
          rintro ⟨h1, _⟩
          rw [hct] at h1
          injection h1 with h1
          exact h h1
      rcases hlc with ⟨k1, hnot⟩ | ⟨k1, ⟨k2, k3, hyes⟩ | ⟨k2, k3, hnot⟩⟩
      rotate_left
      · have HN := Lib.hid (show numF (45 :: t) = none by rw [HNF.out, if_pos (.inr (.inr (.inl hyes.out)))])
        clear HNF h0 hdl hdz hdt h9 hct
        go_wp2_with fail
        refine bodyPost_ret (v := numV none) (by simp [results, go_sem, numV]) rfl ⟨by rw [HN.out], Fr.refl _ _⟩
      all_goals
        have HN := Lib.hid (show numF (45 :: t) = if (t).all digitB = false then none else some (-(valD (t) : Int)) by
          rw [HNF.out]
          by_cases ha : (t).all digitB = false
          · rw [if_pos (.inr (.inr (.inr ha))), if_pos ha]
          · rw [if_neg ha, if_neg]
            rintro (h | h | h | h)
            · exact h0 h
            · exact h9 h
            · exact hnot h
            · exact ha h)
        have H9 := Lib.hid (show (t).length ≤ 9 by omega)
        have HD := Lib.hid (And.intro hdl hdz)
        clear HNF h0 hdl hdz hdt h9 hct hnot
        go_wp2_with fail
        go_loopg [5, 6] (D.size) (fun n acc i wr => ∃ k, n = D.size - k ∧ k ≤ D.size ∧ acc = .int .i64 ((valD ((t).take k) : Nat) : Int) ∧ i = .int .i64 k ∧ Hid (((t).take k).all digitB = true) ∧ Hid (Fr Nob w wr))
        case atStart => exact ⟨0, rfl, Nat.zero_le _, rfl, rfl, rfl, Fr.refl _ _⟩
        case round =>
          obtain ⟨k, rfl, hk, rfl, rfl, HA, HF⟩ := hrel
          have hdl := HD.out.1
          have hdz := HD.out.2
          by_cases hlt : k < D.size
          · have ht : ((k : Int) < (D.size : Int)) := by omega
            have hkl : k < (t).length := by omega
            have hgk : D[k] = (t)[k] := by
              have : D.data.toList[k]? = some (t)[k] := by rw [hdl]; exact List.getElem?_eq_getElem hkl
              rw [Array.getElem?_toList] at this
              exact (Array.getElem?_eq_some_iff.1 this).2
            have htk : (t).take (k + 1) = (t).take k ++ [(t)[k]] := List.take_succ_eq_append_getElem hkl
            have hvd := valD_few ((t).take k) (by have := H9.out; rw [List.length_take]; omega) HA.out
            have hmem : (t)[k] ∈ (t) := List.getElem_mem hkl
            obtain ⟨ck, hc⟩ : ∃ ck, (t)[k] = ck := ⟨_, rfl⟩
            rw [hc] at hgk htk hmem
            have hcl := ck.toNat_lt
            obtain ⟨V, hV⟩ : ∃ V, valD ((t).take k) = V := ⟨_, rfl⟩
            rw [hV] at hvd ⊢
            have HT := Lib.hid (And.intro htk (And.intro hmem hV))
            clear htk hmem hc hkl hV hdl hdz
            by_cases hd : 48 ≤ ck.toNat ∧ ck.toNat ≤ 57
            · have j1 : ¬ ((ck.toNat : Int) < 48) := by omega
              have j2 : ¬ ((ck.toNat : Int) > 57) := by omega
              have hdc : digitB ck = true := by rw [digit_nat]; simp; omega
              have HDC := Lib.hid (And.intro hdc hd)
              clear hdc hd
              go_wp2_with fail
              go_roundg (D.size - (k + 1))
              case measure => omega
              case rel =>
                refine ⟨k + 1, rfl, hlt, ?_, ?_, ?_, HF.out⟩
                · rw [HT.out.1, valD_snoc, HT.out.2.2]
                  obtain ⟨_, h1, h2⟩ := HDC.out
                  congr 1
                  first
                    | omega
                    | (rw [w64 _ (by rw [w64 _ (by omega) (by omega)]; omega) (by rw [w64 _ (by omega) (by omega)]; omega), w64 _ (by omega) (by omega)]; omega)
                · first | rfl | (rw [w64 _ (by omega) (by omega)]; rfl)
                · show ((t).take (k + 1)).all digitB = true
                  rw [HT.out.1, List.all_append, HA.out]
                  simp [HDC.out.1]
            · have hn : numF (45 :: t) = none := by
                rw [HN.out, if_pos]
                rw [List.all_eq_false]
                refine ⟨ck, HT.out.2.1, ?_⟩
                rw [digit_nat]; simp; omega
              have HN2 := Lib.hid hn
              have hj : (ck.toNat : Int) < 48 ∨ ¬ ((ck.toNat : Int) < 48) ∧ (ck.toNat : Int) > 57 := by omega
              clear hn hd
              rcases hj with j1 | ⟨j1, j2⟩
              all_goals
                go_wp2_with fail
                refine bodyPost_ret (v := numV none) (by simp [results, go_sem, numV]) rfl ⟨by rw [HN2.out], HF.out⟩
          · have ht : ¬ ((k : Int) < (D.size : Int)) := by omega
            have hkl : k = D.size := by omega
            have hall : (t).take k = (t) := List.take_of_length_le (by omega)
            have ha := HA.out
            rw [hall] at ha ⊢
            have HN2 := Lib.hid (show numF (45 :: t) = some (-(valD (t) : Int)) by rw [HN.out, ha]; rfl)
            have hvd := valD_few (t) H9.out ha
            clear hall hkl ha hdl hdz
            go_wp2_with fail
            refine bodyPost_ret (v := numV (some (-(valD (t) : Int)))) (by simp [results, go_sem, numV]) rfl ⟨by rw [HN2.out], HF.out⟩
    · have k45 : ((c.toNat : Int) == 45) = false := by
        have : c.toNat ≠ 45 := fun h => hm (UInt8.toNat_inj.1 h)
        simp; omega
      go_enter Tryd.func26, Tryd.ntmps26
      go_upto_region 4 with fail
      have hdl := HS.out.1
      have hdz := HS.out.2.1.symm
      have hds : (s.toList != s.toList) = false := by simp
      clear hc0
      have hdt : s.toList = c :: t := by rw [ByteArray.toList_eq]; exact hdl
      have hnf : numF (c :: t) = if c :: t = [] ∨ 9 < (c :: t).length ∨ ((c :: t).head? = some 48 ∧ c :: t ≠ [48]) ∨ (c :: t).all digitB = false then none else some ((valD (c :: t) : Int)) := by
        have e1 : bareL (c :: t) = c :: t := by unfold bareL Lib.trimPrefix; rw [pre_cons, show (c == 45) = false by simp [hm]]; rfl
        have e2 : negB (c :: t) = false := by unfold negB; rw [pre_cons]; exact show (c == 45) = false by simp [hm]
        unfold numF; rw [e1, e2]; rfl
      have HNF := Lib.hid hnf
      clear hnf
      by_cases h0 : c :: t = []
      · have HN := Lib.hid (show numF (c :: t) = none by rw [HNF.out, if_pos (.inl h0)])
        have g1 : s.toList = [] := by rw [hdt, h0]
        clear HNF h0 hdl hdz hdt
        go_wp2_with fail
        refine bodyPost_ret (v := numV none) (by simp [results, go_sem, numV]) rfl ⟨by rw [HN.out], Fr.refl _ _⟩
      have g1 : s.toList.isEmpty = false := by rw [hdt]; rfl
      by_cases h9 : 9 < (c :: t).length
      · have HN := Lib.hid (show numF (c :: t) = none by rw [HNF.out, if_pos (.inr (.inl h9))])
        have g9 : decide (9 < (s.size : Int)) = true := by simp; omega
        have g9' : (s.size : Int) > 9 := by omega
        clear HNF h0 hdl hdz hdt h9
        go_wp2_with fail
        refine bodyPost_ret (v := numV none) (by simp [results, go_sem, numV]) rfl ⟨by rw [HN.out], Fr.refl _ _⟩
      have g9 : decide (9 < (s.size : Int)) = false := by simp; omega
      have g9' : ¬ (s.size : Int) > 9 := by omega
      obtain ⟨c0, t0, hct⟩ : ∃ c0 t0, c :: t = c0 :: t0 := by
        cases hq : c :: t with
        | nil => exact absurd hq h0
        | cons c t => exact ⟨c, t, rfl⟩
      have hd0 : 0 < s.size := by rw [hdz, hct]; simp
      have hcd : s[0] = c0 := by
        have : s.data.toList[0]? = some c0 := by rw [hdl, hct]; rfl
        rw [Array.getElem?_toList] at this
        exact (Array.getElem?_eq_some_iff.1 this).2
      have hzd : ((0 : Int) < (s.size : Int)) := by omega
      have hlen := HS.out.2.1
      have hlc : (((c0.toNat : Int)) == 48) = false ∧ ¬ ((c :: t).head? = some 48 ∧ c :: t ≠ [48]) ∨ (((c0.toNat : Int)) == 48) = true ∧ ((1 : Int) < s.size ∧ decide ((1 : Int) < s.size) = true ∧ Hid ((c :: t).head? = some 48 ∧ c :: t ≠ [48]) ∨ ¬ ((1 : Int) < s.size) ∧ decide ((1 : Int) < s.size) = false ∧ Hid (¬ ((c :: t).head? = some 48 ∧ c :: t ≠ [48]))) := by
        by_cases h : c0 = 48
        · right
          refine ⟨by rw [h]; rfl, ?_⟩
          by_cases h2 : 1 < s.size
          · left
            refine ⟨by omega, by simp; omega, by rw [hct, h]; rfl, ?_⟩
            intro he
            rw [he] at hlen
            simp at hlen
            omega
          · right
            refine ⟨by omega, by simp; omega, ?_⟩
            rintro ⟨_, h4⟩
            apply h4
            rw [hct] at hlen ⊢; simp at hlen; rw [h, List.length_eq_zero_iff.1 (by omega : t0.length = 0)]
        · left
          refine ⟨by simp; exact fun hh => h (UInt8.toNat_inj.1 (by rw [show (48 : UInt8).toNat = 48 from rfl]; omega)), ?_⟩
          rintro ⟨h1, _⟩
          rw [hct] at h1
          injection h1 with h1
          exact h h1
      rcases hlc with ⟨k1, hnot⟩ | ⟨k1, ⟨k2, k3, hyes⟩ | ⟨k2, k3, hnot⟩⟩
      rotate_left
      · have HN := Lib.hid (show numF (c :: t) = none by rw [HNF.out, if_pos (.inr (.inr (.inl hyes.out)))])
        clear HNF h0 hdl hdz hdt h9 hct
        go_wp2_with fail
        refine bodyPost_ret (v := numV none) (by simp [results, go_sem, numV]) rfl ⟨by rw [HN.out], Fr.refl _ _⟩
      all_goals
        have HN := Lib.hid (show numF (c :: t) = if (c :: t).all digitB = false then none else some ((valD (c :: t) : Int)) by
          rw [HNF.out]
          by_cases ha : (c :: t).all digitB = false
          · rw [if_pos (.inr (.inr (.inr ha))), if_pos ha]
          · rw [if_neg ha, if_neg]
            rintro (h | h | h | h)
            · exact h0 h
            · exact h9 h
            · exact hnot h
            · exact ha h)
        have H9 := Lib.hid (show (c :: t).length ≤ 9 by omega)
        have HD := Lib.hid (And.intro hdl hdz)
        clear HNF h0 hdl hdz hdt h9 hct hnot
        go_wp2_with fail
        go_loopg [5, 6] (s.size) (fun n acc i wr => ∃ k, n = s.size - k ∧ k ≤ s.size ∧ acc = .int .i64 ((valD ((c :: t).take k) : Nat) : Int) ∧ i = .int .i64 k ∧ Hid (((c :: t).take k).all digitB = true) ∧ Hid (Fr Nob w wr))
        case atStart => exact ⟨0, rfl, Nat.zero_le _, rfl, rfl, rfl, Fr.refl _ _⟩
        case round =>
          obtain ⟨k, rfl, hk, rfl, rfl, HA, HF⟩ := hrel
          have hdl := HD.out.1
          have hdz := HD.out.2
          by_cases hlt : k < s.size
          · have ht : ((k : Int) < (s.size : Int)) := by omega
            have hkl : k < (c :: t).length := by omega
            have hgk : s[k] = (c :: t)[k] := by
              have : s.data.toList[k]? = some (c :: t)[k] := by rw [hdl]; exact List.getElem?_eq_getElem hkl
              rw [Array.getElem?_toList] at this
              exact (Array.getElem?_eq_some_iff.1 this).2
            have htk : (c :: t).take (k + 1) = (c :: t).take k ++ [(c :: t)[k]] := List.take_succ_eq_append_getElem hkl
            have hvd := valD_few ((c :: t).take k) (by have := H9.out; rw [List.length_take]; omega) HA.out
            have hmem : (c :: t)[k] ∈ (c :: t) := List.getElem_mem hkl
            obtain ⟨ck, hc⟩ : ∃ ck, (c :: t)[k] = ck := ⟨_, rfl⟩
            rw [hc] at hgk htk hmem
            have hcl := ck.toNat_lt
            obtain ⟨V, hV⟩ : ∃ V, valD ((c :: t).take k) = V := ⟨_, rfl⟩
            rw [hV] at hvd ⊢
            have HT := Lib.hid (And.intro htk (And.intro hmem hV))
            clear htk hmem hc hkl hV hdl hdz
            by_cases hd : 48 ≤ ck.toNat ∧ ck.toNat ≤ 57
            · have j1 : ¬ ((ck.toNat : Int) < 48) := by omega
              have j2 : ¬ ((ck.toNat : Int) > 57) := by omega
              have hdc : digitB ck = true := by rw [digit_nat]; simp; omega
              have HDC := Lib.hid (And.intro hdc hd)
              clear hdc hd
              go_wp2_with fail
              go_roundg (s.size - (k + 1))
              case measure => omega
              case rel =>
                refine ⟨k + 1, rfl, hlt, ?_, ?_, ?_, HF.out⟩
                · rw [HT.out.1, valD_snoc, HT.out.2.2]
                  obtain ⟨_, h1, h2⟩ := HDC.out
                  congr 1
                  first
                    | omega
                    | (rw [w64 _ (by rw [w64 _ (by omega) (by omega)]; omega) (by rw [w64 _ (by omega) (by omega)]; omega), w64 _ (by omega) (by omega)]; omega)
                · first | rfl | (rw [w64 _ (by omega) (by omega)]; rfl)
                · show ((c :: t).take (k + 1)).all digitB = true
                  rw [HT.out.1, List.all_append, HA.out]
                  simp [HDC.out.1]
            · have hn : numF (c :: t) = none := by
                rw [HN.out, if_pos]
                rw [List.all_eq_false]
                refine ⟨ck, HT.out.2.1, ?_⟩
                rw [digit_nat]; simp; omega
              have HN2 := Lib.hid hn
              have hj : (ck.toNat : Int) < 48 ∨ ¬ ((ck.toNat : Int) < 48) ∧ (ck.toNat : Int) > 57 := by omega
              clear hn hd
              rcases hj with j1 | ⟨j1, j2⟩
              all_goals
                go_wp2_with fail
                refine bodyPost_ret (v := numV none) (by simp [results, go_sem, numV]) rfl ⟨by rw [HN2.out], HF.out⟩
          · have ht : ¬ ((k : Int) < (s.size : Int)) := by omega
            have hkl : k = s.size := by omega
            have hall : (c :: t).take k = (c :: t) := List.take_of_length_le (by omega)
            have ha := HA.out
            rw [hall] at ha ⊢
            have HN2 := Lib.hid (show numF (c :: t) = some ((valD (c :: t) : Int)) by rw [HN.out, ha]; rfl)
            have hvd := valD_few (c :: t) H9.out ha
            clear hall hkl ha hdl hdz
            go_wp2_with fail
            refine bodyPost_ret (v := numV (some ((valD (c :: t) : Int)))) (by simp [results, go_sem, numV]) rfl ⟨by rw [HN2.out], HF.out⟩
end Go.Proofs.YtdoogkohfjkefaaDoor
