/- The reference's 'right' and the program's say the same. -/
import Derived.Test.YtgmjgflifgjpmaaDoorRefRight
namespace Go.Proofs.YtgmjgflifgjpmaaDoor
theorem rightBL_iff (k : Int) (l : List Tree) : rightBL k l = true ↔ ∀ y ∈ l, rightB k y = true := by
  induction l with
  | nil => simp [rightBL]
  | cons y l ih => simp [rightBL, ih]
theorem rightRL_iff (l : List Tree) : rightRL l = true ↔ ∀ y ∈ l, y.k ≠ 0 ∧ rightR y = true := by
  induction l with
  | nil => simp [rightRL]
  | cons y l ih => simp [rightRL, ih]
theorem right_same : ∀ (x : Tree) (inn : Int), rightB inn x = true ↔ rightR x = true ∧ (inn = 0 ∨ x.k ≠ 0) ∧ (x.k = 2 ∨ x.k = 3 → inn ≠ x.k)
  | .node k n l, inn => by
    have ih : ∀ y ∈ l, ∀ inn, rightB inn y = true ↔ rightR y = true ∧ (inn = 0 ∨ y.k ≠ 0) ∧ (y.k = 2 ∨ y.k = 3 → inn ≠ y.k) := fun y hy inn => right_same y inn
    rw [rightB_eq, rightR_eq]
    show (headB inn k n l.length && (decide (k = 1) || rightBL k l && tailB k n l.length)) = true ↔ (rightRL l && endB k n (l.map Tree.k)) = true ∧ (inn = 0 ∨ k ≠ 0) ∧ (k = 2 ∨ k = 3 → inn ≠ k)
    have hB := rightBL_iff k l
    have hR := rightRL_iff l
    simp only [Bool.and_eq_true, Bool.or_eq_true, decide_eq_true_eq]
    by_cases h0 : k = 0
    · subst h0
      cases l with
      | nil => simp [headB, tailB, endB, rightRL, rightBL, and_comm]
      | cons y l => simp [tailB, endB]
    by_cases h1 : k = 1
    · subst h1
      cases l with
      | nil => simp [headB, endB, rightRL]
      | cons y l => simp [headB, endB]
    by_cases h456 : k = 4 ∨ k = 5 ∨ k = 6
    · have e1 : headB inn k n l.length = true := by unfold headB; rw [if_neg h0, if_neg h1, if_neg (by omega)]; simpa using h456
      have e2 : tailB k n l.length = (decide (n.size = 0) && decide (l.length = 1)) := by unfold tailB; rw [if_neg h0, if_neg (by omega)]
      have e3 : endB k n (l.map Tree.k) = (decide (n.size = 0) && decide (l.length = 1)) := by unfold endB; rw [if_neg h0, if_neg h1, if_pos h456, List.length_map]
      rw [e1, e2, e3, hB, hR]
      have hall : (∀ y ∈ l, rightB k y = true) ↔ (∀ y ∈ l, y.k ≠ 0 ∧ rightR y = true) := by
        refine forall_congr' fun y => forall_congr' fun hy => ?_
        rw [ih y hy k]
        constructor
        · rintro ⟨a, b, c⟩; exact ⟨by omega, a⟩
        · rintro ⟨a, b⟩; exact ⟨b, .inr a, fun h => by omega⟩
      rw [hall]
      simp only [Bool.and_eq_true, decide_eq_true_eq]
      constructor
      · rintro ⟨_, b | ⟨b, d, e⟩⟩
        · exact absurd b h1
        · exact ⟨⟨b, d, e⟩, .inr h0, fun h => by omega⟩
      · rintro ⟨⟨b, d, e⟩, _, _⟩
        exact ⟨trivial, .inr ⟨b, d, e⟩⟩
    by_cases h23 : k = 2 ∨ k = 3
    · have e1 : headB inn k n l.length = decide (inn ≠ k) := by unfold headB; rw [if_neg h0, if_neg h1, if_pos h23]
      have e2 : tailB k n l.length = (decide (n.size = 0) && decide (2 ≤ l.length)) := by unfold tailB; rw [if_neg h0, if_pos h23]
      have e3 : endB k n (l.map Tree.k) = ((l.map Tree.k).all (fun j => j != k) && decide (n.size = 0) && decide (2 ≤ l.length)) := by unfold endB; rw [if_neg h0, if_neg h1, if_neg h456, if_pos h23, List.length_map]
      rw [e1, e2, e3, hB, hR]
      have hall : (∀ y ∈ l, rightB k y = true) ↔ (∀ y ∈ l, y.k ≠ 0 ∧ rightR y = true) ∧ ((l.map Tree.k).all (fun j => j != k)) = true := by
        rw [List.all_map, List.all_eq_true]
        constructor
        · intro h
          refine ⟨fun y hy => ?_, fun y hy => ?_⟩
          · obtain ⟨a, b, c⟩ := (ih y hy k).1 (h y hy)
            exact ⟨by omega, a⟩
          · obtain ⟨a, b, c⟩ := (ih y hy k).1 (h y hy)
            simp only [Function.comp, bne_iff_ne, ne_eq]
            intro hk
            exact c (by omega) hk.symm
        · rintro ⟨h1, h2⟩ y hy
          have b := h2 y hy
          simp only [Function.comp, bne_iff_ne, ne_eq] at b
          exact (ih y hy k).2 ⟨(h1 y hy).2, .inr (h1 y hy).1, fun _ hk => b hk.symm⟩
      rw [hall]
      simp only [Bool.and_eq_true, decide_eq_true_eq]
      constructor
      · rintro ⟨a, b | ⟨⟨b, c⟩, d, e⟩⟩
        · exact absurd b h1
        · exact ⟨⟨b, ⟨c, d⟩, e⟩, .inr h0, fun _ => a⟩
      · rintro ⟨⟨b, ⟨c, d⟩, e⟩, _, f⟩
        exact ⟨f h23, .inr ⟨⟨b, c⟩, d, e⟩⟩
    · have e1 : headB inn k n l.length = false := by unfold headB; rw [if_neg h0, if_neg h1, if_neg h23]; simpa using h456
      have e3 : endB k n (l.map Tree.k) = false := by unfold endB; rw [if_neg h0, if_neg h1, if_neg h456, if_neg h23]
      rw [e1, e3]
      simp
theorem rightR_rightB (x : Tree) : rightR x = rightB 0 x := by
  rw [Bool.eq_iff_iff, right_same x 0]
  constructor
  · intro h; exact ⟨h, .inl rfl, fun h => by omega⟩
  · rintro ⟨h, _⟩; exact h
end Go.Proofs.YtgmjgflifgjpmaaDoor
