/- 'awake'. -/
import Derived.Test.YtgmjgflifgjpmaaDoorExprSame
namespace Go.Proofs.YtgmjgflifgjpmaaDoor
open Go.RowKit
theorem parse_a : parseF ⟨#[97]⟩ = (.node 1 ⟨#[97]⟩ [], 1, 0) := by kernel_rfl
set_option maxRecDepth 100000 in
theorem awake_any (w : World) (hg : HG w) :
    Calls Tryd.prog 12 #[] w fun e w' => e = .returned (.bool true) ∧ Fr Nob w w' := by
  have HGG := Lib.hid hg
  clear hg
  go_enter Tryd.func12, Tryd.ntmps12
  go_wp2_with fail
  refine (parse_any _ _ HGG.out).mono ?_
  rintro e w1 ⟨⟨cs, rfl, hx⟩, hF⟩
  rw [parse_a] at hx ⊢
  obtain ⟨A, c, css, rfl, hc, hR, hE⟩ := hx.open_
  have HF := Lib.hid hF
  clear hR hE hc hx hF
  simp only [Tree.k, Tree.name, Tree.l, List.length_nil]
  go_wp2_with fail
  go_ret
  refine ⟨?_, HF.out.alloc _⟩
  simp
end Go.Proofs.YtgmjgflifgjpmaaDoor
