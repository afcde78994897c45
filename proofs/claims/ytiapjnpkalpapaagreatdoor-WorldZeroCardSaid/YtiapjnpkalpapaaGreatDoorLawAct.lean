/- An act by value, opened. -/
import Derived.Test.YtiapjnpkalpapaaGreatDoorLaw
namespace Go.Proofs.YtiapjnpkalpapaaGreatDoor
open Go.Joins Go.ChangeShapes Go.WideShapes Go.ChangeAt Go.RowKit Go.Deep

set_option maxRecDepth 100000 in
theorem open_act {H : Type} {enc : TypeId × Value → H} {w : World} {base : Nat} {spare : Nat → Bool} {held : Bool} {r : Reach} {b0 : Nat} {v : Value} {d : DataW H} {p : List MemPlace}
    (hv : Value.okWide Tryz.prog w r b0 24 v) (h : DataW.Trod enc Tryz.prog w base spare held 24 v d p) :
    ∃ (k f t g i m : Int) (a : Option Addr) (n c : Nat), v = .agg #[.int .i64 k, .int .i64 f, .int .i64 t, .int .i64 g, .int .i64 i, .int .i64 m, .slice a n c] := by
  obtain ⟨vs, ys, n, rfl, _, _, hlv, hly, hf⟩ := open_aggN Tryz.underlying24 (by kernel_rfl) (by kernel_rfl) hv h
  match vs, hlv with
  | [c0, c1, c2, c3, c4, c5, c6], _ =>
    obtain ⟨v0, y0, e0, _, t0⟩ := hf 0 _ rfl
    obtain ⟨v1, y1, e1, _, t1⟩ := hf 1 _ rfl
    obtain ⟨v2, y2, e2, _, t2⟩ := hf 2 _ rfl
    obtain ⟨v3, y3, e3, _, t3⟩ := hf 3 _ rfl
    obtain ⟨v4, y4, e4, _, t4⟩ := hf 4 _ rfl
    obtain ⟨v5, y5, e5, _, t5⟩ := hf 5 _ rfl
    obtain ⟨v6, y6, e6, _, t6⟩ := hf 6 _ rfl
    obtain ⟨i0, rfl, _⟩ := int_cell Tryz.underlying3 t0
    obtain ⟨i1, rfl, _⟩ := int_cell Tryz.underlying3 t1
    obtain ⟨i2, rfl, _⟩ := int_cell Tryz.underlying3 t2
    obtain ⟨i3, rfl, _⟩ := int_cell Tryz.underlying3 t3
    obtain ⟨i4, rfl, _⟩ := int_cell Tryz.underlying3 t4
    obtain ⟨i5, rfl, _⟩ := int_cell Tryz.underlying3 t5
    obtain ⟨a, nn, cc, h6⟩ := slice_form Tryz.underlying22 t6
    simp only [List.getElem?_cons_zero, List.getElem?_cons_succ, Option.some.injEq] at e0 e1 e2 e3 e4 e5 e6
    simp only [List.cons.injEq, and_true] at h6
    subst e0 e1 e2 e3 e4 e5 e6 h6
    exact ⟨i0, i1, i2, i3, i4, i5, a, nn, cc, rfl⟩
end Go.Proofs.YtiapjnpkalpapaaGreatDoor
