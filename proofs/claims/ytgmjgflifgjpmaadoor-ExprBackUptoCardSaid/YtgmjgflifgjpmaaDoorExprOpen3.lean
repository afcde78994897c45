/- An argument of type api.Expr, opened: it is a tree in memory, no larger than the reading's bulk. -/
import Derived.Test.YtgmjgflifgjpmaaDoorExprOpen
import Derived.Test.YtgmjgflifgjpmaaDoorRows
import Derived.Test.YtgmjgflifgjpmaaDoorExprGoodN
import Derived.DataReads
namespace Go.Proofs.YtgmjgflifgjpmaaDoor
open Go.Joins Go.ChangeShapes Go.WideShapes Go.ChangeAt Go.RowKit Go.Deep
variable {H : Type} {enc : TypeId × Value → H} {w : World} {base : Nat} {spare : Nat → Bool} {held : Bool}
theorem cellsOf_expr : Tryd.prog.cellsOf 24 = 3 := by kernel_rfl
theorem bulkAll_append (a b : List (DataW H)) : Rows.uptoBulkAll (a ++ b) = Rows.uptoBulkAll a + Rows.uptoBulkAll b := by
  induction a with
  | nil => simp [Rows.uptoBulkAll]
  | cons x a ih => simp only [List.cons_append, Rows.uptoBulkAll, ih]; omega
/-- Some trees, one behind the other, from the readings of each. -/
theorem open_row (a : Addr) (elems : List (DataW H × List MemPlace)) : ∀ len, len ≤ elems.length →
    (∀ i (hi : i < elems.length), i < len → ∃ (t : Tree) (c0 c1 c2 : Value), w.cell? (a.add (i * 3)) = some c0 ∧ w.cell? (a.add (i * 3 + 1)) = some c1 ∧ w.cell? (a.add (i * 3 + 2)) = some c2 ∧ ERep Nob w t [c0, c1, c2] ∧ t.count ≤ Rows.uptoBulk elems[i].1 ∧ t.bytes ≤ Rows.uptoBulk elems[i].1) →
    ∃ (l : List Tree) (css : List Value), l.length = len ∧ EReps Nob w l css ∧ (∀ j u, css[j]? = some u → w.cell? (a.add j) = some u) ∧ countL l ≤ Rows.uptoBulkAll ((elems.take len).map (·.1)) ∧ bytesL l ≤ Rows.uptoBulkAll ((elems.take len).map (·.1))
  | 0, _, _ => ⟨[], [], rfl, by simp [EReps], by simp, by simp [countL], by simp [bytesL]⟩
  | len + 1, hl, h => by
    obtain ⟨l, css, h1, h2, h3, h4, h5⟩ := open_row a elems len (by omega) (fun i hi h' => h i hi (by omega))
    obtain ⟨t, c0, c1, c2, q0, q1, q2, hE, hc, hb⟩ := h len (by omega) (by omega)
    have e3 := EReps.len _ _ h2
    have et : (elems.take (len + 1)).map (·.1) = (elems.take len).map (·.1) ++ [elems[len].1] := by
      rw [List.take_succ_eq_append_getElem (by omega), List.map_append]; rfl
    refine ⟨l ++ [t], css ++ [c0, c1, c2], by simp [h1], EReps.append _ _ _ _ h2 (EReps.one hE), ?_, ?_, ?_⟩
    · intro j u hu
      rcases Nat.lt_or_ge j css.length with hj | hj
      · rw [List.getElem?_append_left hj] at hu
        exact h3 j u hu
      · rw [List.getElem?_append_right hj] at hu
        have hj3 : j = len * 3 ∨ j = len * 3 + 1 ∨ j = len * 3 + 2 := by
          have := (List.getElem?_eq_some_iff.1 hu).1
          simp only [List.length_cons, List.length_nil] at this
          omega
        have ec : css.length = len * 3 := by omega
        rcases hj3 with rfl | rfl | rfl
        · rw [ec, Nat.sub_self] at hu; rw [q0]; simpa using hu
        · rw [ec, show len * 3 + 1 - len * 3 = 1 by omega] at hu; rw [q1]; simpa using hu
        · rw [ec, show len * 3 + 2 - len * 3 = 2 by omega] at hu; rw [q2]; simpa using hu
    · rw [et, bulkAll_append, countL_snoc]
      simp only [Rows.uptoBulkAll]
      omega
    · rw [et, bulkAll_append, bytesL_append]
      simp only [Rows.uptoBulkAll, bytesL]
      omega
set_option maxRecDepth 100000 in
theorem open_tree : ∀ (fuel : Nat) (cs : List Value) (x : DataW H × List MemPlace), DataW.trod enc Tryd.prog w base spare held fuel 24 cs = some x →
    ∃ t, ERep Nob w t cs ∧ t.count ≤ Rows.uptoBulk x.1 ∧ t.bytes ≤ Rows.uptoBulk x.1 := by
  intro fuel
  induction fuel using Nat.strongRecOn with
  | ind fuel ih =>
    intro cs x h
    obtain ⟨xs, n, rfl, rfl, hcl, hxl, hf⟩ := DataW.trod_struct Tryd.underlying24 h
    rw [cellsOf_expr] at hcl
    have hx3 : xs.length = 3 := hxl
    match cs, hcl with
    | [c0, c1, c2], _ =>
    match xs, hx3 with
    | [y0, y1, y2], _ =>
    have k0 : DataW.trod enc Tryd.prog w base spare held n 3 (List.take (Tryd.prog.cellsOf 3) (List.drop 0 [c0, c1, c2])) = some y0 := hf 0 _ rfl
    have k1 : DataW.trod enc Tryd.prog w base spare held n 9 (List.take (Tryd.prog.cellsOf 9) (List.drop 1 [c0, c1, c2])) = some y1 := hf 1 _ rfl
    have k2 : DataW.trod enc Tryd.prog w base spare held n 22 (List.take (Tryd.prog.cellsOf 22) (List.drop 2 [c0, c1, c2])) = some y2 := hf 2 _ rfl
    have o1 : Tryd.prog.cellsOf 3 = 1 := by kernel_rfl
    have o2 : Tryd.prog.cellsOf 9 = 1 := by kernel_rfl
    have o3 : Tryd.prog.cellsOf 22 = 1 := by kernel_rfl
    rw [o1] at k0
    rw [o2] at k1
    rw [o3] at k2
    replace k0 : DataW.trod enc Tryd.prog w base spare held n 3 [c0] = some y0 := k0
    replace k1 : DataW.trod enc Tryd.prog w base spare held n 9 [c1] = some y1 := k1
    replace k2 : DataW.trod enc Tryd.prog w base spare held n 22 [c2] = some y2 := k2
    obtain ⟨k, e0, rfl, _⟩ := DataW.trod_int Tryd.underlying3 k0
    obtain ⟨s, e1, rfl, _⟩ := DataW.trod_string Tryd.underlying9 k1
    obtain rfl : c0 = .int .i64 k := by simpa using e0
    obtain rfl : c1 = .string s := by simpa using e1
    rcases DataW.trod_slice Tryd.underlying22 k2 with ⟨e2, rfl⟩ | ⟨a, len, cap, elems, rest, m, rfl, e2, rfl, hb, hlc, hcm, hlen, hel, _, _⟩
    · obtain rfl : c2 = .slice none 0 0 := by simpa using e2
      refine ⟨.node k s [], ERep.empty _ _ _ _, ?_, ?_⟩
      · simp [Tree.count, countL, Rows.uptoBulk, Rows.uptoBulkAll]
      · simp [Tree.bytes, bytesL, Rows.uptoBulk, Rows.uptoBulkAll]; omega
    · obtain rfl : c2 = .slice (some a) len cap := by simpa using e2
      obtain ⟨l, css, h1, h2, h3, h4, h5⟩ := open_row (w := w) a elems len (by omega) (fun i hi hil => by
        have hq := hel i hil
        rw [List.getElem?_eq_getElem hi, Option.bind_eq_some_iff] at hq
        obtain ⟨cs, hcs, hy⟩ := hq
        rw [cellsOf_expr] at hcs
        obtain ⟨_, hl3, hcell⟩ := World.cells?_some hcs
        obtain ⟨t, hE, hc, hb⟩ := ih m (by omega) cs _ hy
        match cs, hl3 with
        | [c0, c1, c2], _ =>
        refine ⟨t, c0, c1, c2, ?_, ?_, ?_, hE, hc, hb⟩
        · have := hcell 0 (by omega); rw [add_of_add] at this; exact this
        · have := hcell 1 (by omega); rw [add_of_add] at this; exact this
        · have := hcell 2 (by omega); rw [add_of_add] at this; exact this)
      have et : elems.take len = elems := List.take_of_length_le (by omega)
      rw [et] at h4 h5
      refine ⟨.node k s l, ?_, ?_, ?_⟩
      · have hh : ERep Nob w (.node k s l) [.int .i64 k, .string s, .slice (some a) l.length cap] := ERep.mk (by omega) (fun _ => ⟨a, rfl, fun h => h, h3⟩) h2
        rwa [h1] at hh
      · simp only [Tree.count, List.map, Rows.uptoBulk, Rows.uptoBulkAll]
        omega
      · simp only [Tree.bytes, List.map, Rows.uptoBulk, Rows.uptoBulkAll]
        have : s.data.toList.length = s.size := by simp
        omega
set_option maxRecDepth 100000 in
/-- An argument of type api.Expr. -/
theorem open_expr {r : Reach} {b0 : Nat} {v : Value} {d : DataW H} {p : List MemPlace} (hv : Value.okWide Tryd.prog w r b0 24 v) (h : DataW.Trod enc Tryd.prog w base spare held 24 v d p) :
    ∃ (x : Tree) (cs : List Value), v = .agg cs.toArray ∧ ERep Nob w x cs ∧ x.count ≤ Rows.uptoBulk d ∧ x.bytes ≤ Rows.uptoBulk d := by
  obtain ⟨cs, rfl, _⟩ := okWide_struct Tryd.underlying24 hv
  obtain ⟨l⟩ := cs
  obtain ⟨fuel, hf⟩ := h
  have hcl : (Value.agg ⟨l⟩).cells.toList = l := by simp [Value.cells]
  rw [hcl] at hf
  obtain ⟨x, hx, hc, hb⟩ := open_tree fuel l _ hf
  exact ⟨x, l, rfl, hx, hc, hb⟩
end Go.Proofs.YtgmjgflifgjpmaaDoor
