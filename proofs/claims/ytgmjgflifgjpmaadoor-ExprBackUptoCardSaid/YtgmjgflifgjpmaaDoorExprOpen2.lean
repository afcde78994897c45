/- Small things for rows of chapter 05. -/
import Derived.Test.YtgmjgflifgjpmaaDoorExprOpen
import Derived.ChangeMaps5
namespace Go.Proofs.YtgmjgflifgjpmaaDoor
theorem u8_of {n : Int} (h : (Lit.int .u8 n).wf = true) : 0 ≤ n ∧ n < 256 := by
  simp only [Lit.wf, Bool.and_eq_true, decide_eq_true_eq] at h
  have h1 : IntKind.min .u8 = 0 := by decide
  have h2 : IntKind.max .u8 = 255 := by decide
  omega
end Go.Proofs.YtgmjgflifgjpmaaDoor
