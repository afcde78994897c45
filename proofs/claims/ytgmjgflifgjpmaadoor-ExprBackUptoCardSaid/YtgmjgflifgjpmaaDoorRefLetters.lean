/- The reference's 'Letters'. -/
import Derived.Test.YtgmjgflifgjpmaaDoorExprSmall
import Derived.Test.YtgmjgflifgjpmaaDoorExprSize
namespace Go.Proofs.YtgmjgflifgjpmaaDoor
open Go.RowKit
set_option maxRecDepth 100000 in
set_option maxHeartbeats 2000000 in
theorem letters_any (s : ByteArray) (hs : s.size ≤ 4611686018427387904) (w : World) :
    Calls Tryd.prog 40 #[.string s] w fun e w' => e = .returned (.bool (nameB s.data.toList)) ∧ Fr Nob w w' := by
  go_enter Tryd.func40, Tryd.ntmps40
  go_wp2_with fail
  go_loopg [3] (s.size) (fun n i wr => ∃ k : Nat, n = s.size - k ∧ k ≤ s.size ∧ i = .int .i64 k ∧ Hid ((s.data.toList.take k).all letter = true) ∧ Hid (Fr Nob w wr))
  case atStart => exact ⟨0, rfl, Nat.zero_le _, rfl, by simp [Hid], Fr.refl _ _⟩
  case round =>
    obtain ⟨k, rfl, hk, rfl, HA, HF⟩ := hrel
    by_cases hlt : k < s.size
    · have hlen : s.data.toList.length = s.size := by simp
      have hget : s.data.toList[k]'(by omega) = s[k] := by simp; rfl
      have hb := (s[k]).toNat_lt
      have HG : s.data.toList.take (k + 1) = s.data.toList.take k ++ [s[k]] := by rw [← hget]; exact List.take_succ_eq_append_getElem (by omega)
      have HG2 := Lib.hid HG
      clear HG hget hlen
      have ht : ((k : Int) < (s.size : Int)) := by omega
      by_cases h1 : s[k].toNat < 97
      · go_wp2_with fail
        go_ret
        refine ⟨?_, HF.out⟩
        rw [nameB_no HG2.out (by rw [letter_nat]; simp; omega)]
        rfl
      · by_cases h2 : 122 < s[k].toNat
        · go_wp2_with fail
          go_ret
          refine ⟨?_, HF.out⟩
          rw [nameB_no HG2.out (by rw [letter_nat]; simp; omega)]
          rfl
        · go_wp2_with fail
          go_roundg (s.size - (k + 1))
          case measure => omega
          case rel => exact ⟨k + 1, rfl, hlt, by first | rfl | (rw [w64 _ (by omega) (by omega)]; rfl), by rw [Hid, HG2.out]; have := HA.out; simp [this, letter_nat]; omega, HF.out⟩
    · have ht : ¬ ((k : Int) < (s.size : Int)) := by omega
      have hlen : s.data.toList.length = s.size := by simp
      have ha : s.data.toList.all letter = true := by have := HA.out; rwa [List.take_of_length_le (by omega)] at this
      have HA2 := Lib.hid ha
      clear ha hlen
      go_wp2_with fail
      go_ret
      refine ⟨?_, HF.out⟩
      simp only [nameB, HA2.out, Bool.true_and]
      simp [ByteArray.toList_eq]
end Go.Proofs.YtgmjgflifgjpmaaDoor
