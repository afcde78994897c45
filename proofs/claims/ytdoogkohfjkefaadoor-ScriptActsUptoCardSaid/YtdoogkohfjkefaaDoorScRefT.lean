/- Chapter 22: the reference's 'told', as the printed function answers. -/
import Derived.Test.YtdoogkohfjkefaaDoorScRefS
namespace Go.Proofs.YtdoogkohfjkefaaDoor.PPrint
open Go.RowKit Go.Proofs.YtdoogkohfjkefaaDoorW.PrintWords Go.Proofs.YtdoogkohfjkefaaDoorW.PrintLast Go.Proofs.YtdoogkohfjkefaaDoorW.PrintMore
theorem one_digit (d : Nat) (h : d < 10) : strOfNums [wrap64 (48 + (d : Int)) % 256] = bs [UInt8.ofNat (48 + d)] := by
  have h1 : wrap64 (48 + (d : Int)) % 256 = ((48 + d : Nat) : Int) := by
    rw [w64 _ (by omega) (by omega)]; omega
  rw [h1]
  show (⟨#[UInt8.ofNat (Int.toNat ((48 + d : Nat) : Int))]⟩ : ByteArray) = _
  rw [Int.toNat_natCast]
  rfl
theorem told_nat : ∀ (u : Nat), u ≤ 999999999 → ∃ k, emenderref22_told.f k u = some (bs (Lib.decDigits u)) ∧ (Lib.decDigits u).length ≤ 9 := by
  intro u
  induction u using Nat.strongRecOn with
  | ind u ih =>
    intro hu
    have hn : ¬ ((u : Int) < 0) := by omega
    have htm : Int.tmod (u : Int) 10 = ((u % 10 : Nat) : Int) := rfl
    have htd : Int.tdiv (u : Int) 10 = ((u / 10 : Nat) : Int) := rfl
    have hlen : (Lib.decDigits u).length ≤ 9 := by
      have h := dec_len u
      rcases Nat.lt_or_ge 9 (Lib.decDigits u).length with h1 | h1
      · have := h.1 h1; omega
      · exact h1
    by_cases h10 : u < 10
    · refine ⟨1, ?_, hlen⟩
      rw [Lib.decDigits_one h10]
      unfold emenderref22_told.f
      rw [if_neg hn, Option.bind_some, if_neg (by omega), htm, Nat.mod_eq_of_lt h10, one_digit u h10]
    · obtain ⟨k, hk, hkl⟩ := ih (u / 10) (by omega) (by omega)
      refine ⟨k + 1, ?_, hlen⟩
      unfold emenderref22_told.f
      rw [if_neg hn, Option.bind_some, if_pos (by omega), htd, w64 _ (by omega) (by omega), hk, Option.bind_some, htm, one_digit _ (Nat.mod_lt _ (by omega)), if_pos (by rw [bs_size, bs_size]; simp; omega)]
      rw [bs_append]
      conv => rhs; rw [Lib.decDigits, dif_neg h10]
theorem told_f (n : Int) (h : bigB n = false) : ∃ k, emenderref22_told.f k n = some (bs (Lib.itoa n)) := by
  have hr := big_range h
  by_cases h0 : n < 0
  · obtain ⟨k, hk, hl⟩ := told_nat n.natAbs (by omega)
    refine ⟨k + 1, ?_⟩
    have e : wrap64 (-n) = (n.natAbs : Int) := by rw [w64 _ (by omega) (by omega)]; omega
    unfold emenderref22_told.f Lib.itoa
    rw [if_pos h0, if_pos h0, e, hk, Option.bind_some, if_pos (by rw [bs_size]; omega)]
    show some (bs [45] ++ _) = _
    rw [bs_append]
    rfl
  · obtain ⟨k, hk, _⟩ := told_nat n.toNat (by omega)
    refine ⟨k, ?_⟩
    have e : n = (n.toNat : Int) := by omega
    unfold Lib.itoa
    rw [if_neg h0, ← hk, ← e]
/-- The reference's 'told' writes a number's digits. -/
theorem told_any (n : Int) (h : bigB n = false) (w : World) :
    Calls Tryd.prog 22 #[.int .i64 n] w fun e w' => e = .returned (.string (bs (Lib.itoa n))) ∧ Fr Nob w w' := by
  obtain ⟨k, hk⟩ := told_f n h
  exact (emenderref22_told.calls k n _ w hk).mono fun _ _ ⟨he, hb⟩ => ⟨he, Fr.of_below hb⟩
end Go.Proofs.YtdoogkohfjkefaaDoor.PPrint
