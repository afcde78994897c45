/- Arguments of chapter 05's laws, opened. -/
import Derived.Test.YtgmjgflifgjpmaaDoorCardLaid
import Derived.Test.YtgmjgflifgjpmaaDoorExprParse
import Derived.ChangeSlices
namespace Go.Proofs.YtgmjgflifgjpmaaDoor
open Go.Joins Go.ChangeShapes Go.WideShapes Go.ChangeAt Go.RowKit Go.Deep
theorem hg_of_laid {W : World} (h : laidMetH Tryd.prog theLaid W) : HG W := by
  have h1 := handle_of_laid h
  have e : typeHandle Tryd.prog 48 = .pointer (some ⟨2, 48, none⟩) := by kernel_rfl
  rw [e] at h1
  exact h1
theorem open_u8s {H : Type} {enc : TypeId × Value → H} {P : Program} {w : World} {base : Nat} {spare : Nat → Bool} {held : Bool} {r : Reach} {b0 : Nat} {t e : TypeId} {v : Value} {d : DataW H} {p : List MemPlace} (ht : P.underlying t = some (.slice e)) (he : P.underlying e = some (.int .u8)) (hc : P.cellsOf e = 1)
    (hv : Value.okWide P w r b0 t v) (h : DataW.Trod enc P w base spare held t v d p) :
    ∃ (a : Option Addr) (n c : Nat) (zs : List Int), v = .slice a n c ∧ zs.length = n ∧ Rd Nob w a (zs.map (Value.int .u8)) ∧ (∀ z ∈ zs, 0 ≤ z ∧ z < 256) ∧ n ≤ maxLen := by
  obtain ⟨a, n, c, rfl⟩ := okWide_slice ht hv
  obtain ⟨fuel, hf⟩ := h
  have hcl : (Value.slice a n c).cells.toList = [.slice a n c] := by simp [Value.cells]
  rw [hcl] at hf
  rcases open_ints ht he hc hf with ⟨h1, _⟩ | ⟨ad, len, cap, zs, h1, _, hl, hm, hz, _, hcell, hw⟩
  · simp only [List.cons.injEq, Value.slice.injEq, and_true] at h1
    obtain ⟨rfl, rfl, rfl⟩ := h1
    exact ⟨none, 0, 0, [], rfl, rfl, Rd.nil _ _ _, by simp, Nat.zero_le _⟩
  · simp only [List.cons.injEq, Value.slice.injEq, and_true] at h1
    obtain ⟨rfl, rfl, rfl⟩ := h1
    have hzl : n ≤ zs.length := by rw [hz]; split <;> omega
    refine ⟨some ad, n, c, zs.take n, rfl, by simp; omega, ?_, ?_, Nat.le_trans hl hm⟩
    · intro _
      refine ⟨ad, rfl, fun h => h, fun j u hu => ?_⟩
      rw [List.getElem?_map] at hu
      obtain ⟨z, hz1, rfl⟩ := Option.map_eq_some_iff.1 hu
      rw [List.getElem?_take] at hz1
      split at hz1
      · have := hcell j (by omega)
        rw [this, List.getD_eq_getElem?_getD, hz1]
        rfl
      · cases hz1
    · intro z hz
      have := hw z (List.mem_of_mem_take hz)
      simp only [Lit.wf, Bool.and_eq_true, decide_eq_true_eq] at this
      have h1 : IntKind.min .u8 = 0 := by decide
      have h2 : IntKind.max .u8 = 255 := by decide
      omega
end Go.Proofs.YtgmjgflifgjpmaaDoor
