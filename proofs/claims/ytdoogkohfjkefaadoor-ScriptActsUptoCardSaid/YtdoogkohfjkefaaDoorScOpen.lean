/- Chapter 22: what a row gives a walk; a world that meets its condition; an act by value, opened, with its numbers' bounds. -/
import Derived.Test.YtdoogkohfjkefaaDoorRows
import Derived.Test.YtdoogkohfjkefaaDoorLaw
import Derived.Test.YtdoogkohfjkefaaDoorScLaw
import Derived.ChangeSame
import Derived.ChangeVars
import Derived.JoinedOf
import Derived.RowKit
import Derived.RowKitTokens
import Derived.LaidLaws
import Derived.LaidHandle
import Derived.Stop.Joined
import Derived.Stop.LaidErr
import Derived.Lib.LaidTab
namespace Go.Proofs.YtdoogkohfjkefaaDoor
open Go.Joins Go.ChangeShapes Go.WideShapes Go.ChangeAt Go.RowKit Go.Deep
theorem own : ownKnob Tryd.prog.godebug = none := by kernel_rfl
theorem laidOut : laidOutB Tryd.prog = true := by kernel_rfl
/-- The list that the rows have. -/
def theLaid : List (String × DataW Unit) := [("math/bits.deBruijn32tab", Rows.laid_math_bits_deBruijn32tab), ("math/bits.deBruijn64tab", Rows.laid_math_bits_deBruijn64tab), ("internal/strconv.uint64pow10", Rows.laid_internal_strconv_uint64pow10), ("unicode/utf8.acceptRanges", Rows.laid_unicode_utf8_acceptRanges), ("unicode/utf8.first", Rows.laid_unicode_utf8_first)]
def litOf {H : Type} : DataW H → List Value
  | .lit (.int k n) => [.int k n]
  | _ => []
def cellsOf {H : Type} : DataW H → List Value
  | .agg l => l.flatMap fun d => match d with
    | .agg l2 => l2.flatMap litOf
    | d => litOf d
  | _ => []
noncomputable def laidWorld (os : Os) : World :=
  let w0 := World.holding Tryd.prog os ⟨#[], #[], []⟩
  let put (h : Array Obj) (g : Nat) (cs : Array Value) : Array Obj := h.modify g fun
    | .cells _ t frozen => .cells cs t frozen
    | o => o
  let h1 := put w0.heap 1 (cellsOf (H := Unit) Rows.laid_internal_strconv_uint64pow10).toArray
  let h2 := put h1 2 (cellsOf Rows.laid_unicode_utf8_first).toArray
  let h3 := put h2 3 (cellsOf (H := Unit) Rows.laid_unicode_utf8_acceptRanges).toArray
  let h4 := put h3 4 (cellsOf (H := Unit) Rows.laid_math_bits_deBruijn32tab).toArray
  let h5 := put h4 5 (cellsOf (H := Unit) Rows.laid_math_bits_deBruijn64tab).toArray
  { w0 with heap := h5 }
theorem laidWorld_met (os : Os) (args : Array Value) : laidMetH Tryd.prog theLaid ((laidWorld os).forCall (fun _ _ => 0) ⟨#[], args, []⟩).memory :=
  laidMetH_of_parts (laidMet_of_run' 8 (by kernel_rfl) (by kernel_rfl)) (by kernel_rfl)
theorem sw_of_laid {W : World} (h : laidMetH Tryd.prog theLaid W) (hs : W.ShapedOpen Tryd.prog) : SW W := by
  have h' : laidMet Tryd.prog theLaid W := h
  refine ⟨?_, ?_⟩
  · exact Go.Proofs.cell_of_shapedOpen_int (zero := #[.int .i64 0]) (t := 3) hs (of_decide_eq_true (by kernel_rfl)) (by kernel_rfl) rfl (by kernel_rfl) (by kernel_rfl) Tryd.underlying3
  · exact Lib.tabIs_of_head (g := 1) (t := 78) (e := 70) (n := 20) (by kernel_rfl) (by kernel_rfl) (by kernel_rfl) Tryd.underlying70 (by kernel_rfl) (by kernel_rfl) (show laidMet Tryd.prog (("internal/strconv.uint64pow10", Lib.tabData .u64 Lib.pow10Tab) :: _) W from h'.tail.tail)
theorem bulkAll_append {H : Type} (a b : List (DataW H)) : Rows.uptoBulkAll (a ++ b) = Rows.uptoBulkAll a + Rows.uptoBulkAll b := by
  induction a with
  | nil => simp [Rows.uptoBulkAll]
  | cons x a ih => simp only [List.cons_append, Rows.uptoBulkAll, ih]; omega
theorem int_range {i : Int} (h : (Lit.int .i64 i).wf = true) : -9223372036854775808 ≤ i ∧ i ≤ 9223372036854775807 := by
  have h1 : (decide ((-9223372036854775808 : Int) ≤ i) && decide (i ≤ 9223372036854775807)) = true := h
  simp only [Bool.and_eq_true, decide_eq_true_eq] at h1
  exact h1
theorem open_actR {H : Type} {enc : TypeId × Value → H} {w : World} {base : Nat} {spare : Nat → Bool} {held : Bool} {r : Reach} {b0 : Nat} {v : Value} {d : DataW H} {p : List MemPlace}
    (hv : Value.okWide Tryd.prog w r b0 24 v) (h : DataW.Trod enc Tryd.prog w base spare held 24 v d p) :
    ∃ (t : ActT) (a : Option Addr) (n c : Nat), v = .agg (t.cellsV (.slice a n c)).toArray ∧ t.Ok := by
  obtain ⟨vs, ys, n, rfl, _, _, hlv, hly, hf⟩ := open_aggN Tryd.underlying24 (by kernel_rfl) (by kernel_rfl) hv h
  match vs, hlv with
  | [c0, c1, c2, c3, c4, c5, c6], _ =>
    obtain ⟨v0, y0, e0, _, t0⟩ := hf 0 _ rfl
    obtain ⟨v1, y1, e1, _, t1⟩ := hf 1 _ rfl
    obtain ⟨v2, y2, e2, _, t2⟩ := hf 2 _ rfl
    obtain ⟨v3, y3, e3, _, t3⟩ := hf 3 _ rfl
    obtain ⟨v4, y4, e4, _, t4⟩ := hf 4 _ rfl
    obtain ⟨v5, y5, e5, _, t5⟩ := hf 5 _ rfl
    obtain ⟨v6, y6, e6, _, t6⟩ := hf 6 _ rfl
    obtain ⟨i0, rfl, r0⟩ := int_cell Tryd.underlying3 t0
    obtain ⟨i1, rfl, r1⟩ := int_cell Tryd.underlying3 t1
    obtain ⟨i2, rfl, r2⟩ := int_cell Tryd.underlying3 t2
    obtain ⟨i3, rfl, r3⟩ := int_cell Tryd.underlying3 t3
    obtain ⟨i4, rfl, r4⟩ := int_cell Tryd.underlying3 t4
    obtain ⟨i5, rfl, r5⟩ := int_cell Tryd.underlying3 t5
    obtain ⟨a, nn, cc, h6⟩ := slice_form Tryd.underlying22 t6
    simp only [List.getElem?_cons_zero, List.getElem?_cons_succ, Option.some.injEq] at e0 e1 e2 e3 e4 e5 e6
    simp only [List.cons.injEq, and_true] at h6
    subst e0 e1 e2 e3 e4 e5 e6 h6
    exact ⟨⟨i0, i1, i2, i3, i4, i5⟩, a, nn, cc, rfl, int_range r1, int_range r2, int_range r3, int_range r4, int_range r5⟩
end Go.Proofs.YtdoogkohfjkefaaDoor
