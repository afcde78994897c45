/- The readers as plain functions: each eats something; a tree has no more parts than were eaten. -/
import Derived.Test.YtgmjgflifgjpmaaDoorExprChoice
namespace Go.Proofs.YtgmjgflifgjpmaaDoor

def GoodA (F : List UInt8 → Res) : Prop := ∀ r x r1, F r = .ok x r1 → r1.length < r.length ∧ x.l.length + r1.length ≤ r.length ∧ (x.k = 2 ∨ x.k = 3 → x.l ≠ [])
theorem GoodA.good {F : List UInt8 → Res} (h : GoodA F) (kind : Int) (hk : kind = 2 ∨ kind = 3) : Good kind F := fun r x r1 e => by
  obtain ⟨a, b, c⟩ := h r x r1 e
  exact ⟨a, b, fun hx => c (by rw [hx]; exact hk)⟩
theorem flatK_ne {kind : Int} (hk : kind = 2 ∨ kind = 3) (acc : List Tree) (x : Tree) (hx : x.k = 2 ∨ x.k = 3 → x.l ≠ []) : flatK kind (acc ++ [x]) ≠ [] := by
  rw [flatK_snoc]
  split
  · rename_i h
    have := hx (by rw [h]; exact hk)
    intro hh
    exact this (List.append_eq_nil_iff.1 hh).2
  · simp
theorem someF_good {kind : Int} (hk : kind = 2 ∨ kind = 3) {F : List UInt8 → Res} {G : List UInt8 → Bool × List UInt8} (hF : GoodA F) (hG : ∀ r, (G r).2.length ≤ r.length) :
    ∀ (n : Nat) (acc : List Tree) (r : List UInt8) (x : Tree) (r1 : List UInt8), someF kind F G n acc r = .ok x r1 →
      r1.length < r.length ∧ (acc = [] ∨ True) ∧ x.l.length + r1.length ≤ (flatK kind acc).length + r.length ∧ (x.k = 2 ∨ x.k = 3 → x.l ≠ []) := by
  intro n
  induction n with
  | zero => intro acc r x r1 h; simp [someF] at h
  | succ n ih =>
    intro acc r x r1 h
    unfold someF at h
    cases hf : F r with
    | err q => rw [hf] at h; cases h
    | ok y q =>
      rw [hf] at h
      obtain ⟨h1, h2, h3⟩ := hF r y q hf
      have h4 := hG q
      cases hg : G q with
      | mk b q2 =>
        simp only [hg] at h
        rw [hg] at h4
        have hfl : (flatK kind (acc ++ [y])).length + q.length ≤ (flatK kind acc).length + r.length := by
          rw [flatK_snoc, List.length_append]
          split
          · omega
          · simp only [List.length_singleton]; omega
        cases b with
        | false =>
          simp only [Res.ok.injEq] at h
          obtain ⟨rfl, rfl⟩ := h
          simp only at h4
          cases acc with
          | nil =>
            rw [List.nil_append, joinK_one]
            refine ⟨by omega, .inr trivial, ?_, h3⟩
            simp [flatK]; omega
          | cons z l =>
            rw [joinK_more kind (z :: l) y (by simp)]
            exact ⟨by omega, .inr trivial, by show (flatK kind (z :: l ++ [y])).length + _ ≤ _; omega, fun _ => flatK_ne hk (z :: l) y h3⟩
        | true =>
          simp only at h h4
          obtain ⟨a, _, c, d⟩ := ih _ _ _ _ h
          exact ⟨by omega, .inr trivial, by omega, d⟩
theorem signsF_good : ∀ (n : Nat) (e : Tree) (r : List UInt8), (signsF n e r).2.length ≤ r.length ∧ (signsF n e r).1.l.length + (signsF n e r).2.length ≤ e.l.length + r.length ∧ ((e.k = 2 ∨ e.k = 3 → e.l ≠ []) → (signsF n e r).1.k = 2 ∨ (signsF n e r).1.k = 3 → (signsF n e r).1.l ≠ []) := by
  intro n
  induction n with
  | zero => intro e r; exact ⟨Nat.le_refl _, Nat.le_refl _, fun h => h⟩
  | succ n ih =>
    intro e r
    have hs := skipB_le r
    unfold signsF
    split
    · rename_i h
      refine ⟨by simp, by simp, fun h => h⟩
    · rename_i c t h
      rw [h] at hs
      split
      · exact ⟨hs, Nat.add_le_add_left hs _, fun h => h⟩
      · obtain ⟨a, b, d⟩ := ih (.node (signK c) ⟨#[]⟩ [e]) t
        simp only [List.length_cons] at hs
        refine ⟨by omega, ?_, fun _ => d (fun _ => by simp [Tree.l])⟩
        have : (Tree.node (signK c) ⟨#[]⟩ [e]).l.length = 1 := rfl
        omega
theorem closeF_ok {R : Res} {x : Tree} {r1 : List UInt8} (h : closeF R = .ok x r1) : ∃ q, R = .ok x q ∧ skipB q = 41 :: r1 := by
  unfold closeF at h
  split at h
  · cases h
  · rename_i e r
    split at h
    · rename_i t hq
      simp only [Res.ok.injEq] at h
      obtain ⟨rfl, rfl⟩ := h
      exact ⟨r, rfl, hq⟩
    · cases h
theorem atomF_good {C : List UInt8 → Res} (hC : GoodA C) : GoodA (atomF C) := by
  intro r x r1 h
  have hs := skipB_le r
  unfold atomF at h
  split at h
  · rename_i t hq
    rw [hq] at hs
    obtain ⟨q, h1, h2⟩ := closeF_ok h
    obtain ⟨a, b, c⟩ := hC _ _ _ h1
    have h3 := skipB_le q
    rw [h2] at h3
    simp only [List.length_cons] at hs h3
    exact ⟨by omega, by omega, c⟩
  · split at h
    · cases h
    · rename_i hne
      simp only [Res.ok.injEq] at h
      obtain ⟨rfl, rfl⟩ := h
      have h1 : (List.takeWhile letter (skipB r)).length + (List.dropWhile letter (skipB r)).length = (skipB r).length := by
        rw [← List.length_append, List.takeWhile_append_dropWhile]
      have h2 : 0 < (List.takeWhile letter (skipB r)).length := List.length_pos_iff.2 hne
      refine ⟨by omega, ?_, fun h => by rcases h with h | h <;> cases h⟩
      show 0 + _ ≤ _
      omega
theorem partF_good {C : List UInt8 → Res} (hC : GoodA C) : GoodA (partF C) := by
  intro r x r1 h
  unfold partF at h
  split at h
  · cases h
  · rename_i e q hq
    obtain ⟨a, b, c⟩ := atomF_good hC _ _ _ hq
    simp only [Res.ok.injEq] at h
    obtain ⟨rfl, rfl⟩ := h
    obtain ⟨a', b', c'⟩ := signsF_good (q.length + 1) e q
    exact ⟨by omega, by omega, c' c⟩
theorem rowF_good {C : List UInt8 → Res} (hC : GoodA C) : GoodA (rowF C) := by
  intro r x r1 h
  obtain ⟨a, _, b, c⟩ := someF_good (.inl rfl) (partF_good hC) moreR_le _ _ _ _ _ h
  exact ⟨a, by simpa [flatK] using b, c⟩
theorem choiceF_good : ∀ n, GoodA (choiceF n)
  | 0 => by intro r x r1 h; cases h
  | n + 1 => by
    intro r x r1 h
    obtain ⟨a, _, b, c⟩ := someF_good (.inr rfl) (rowF_good (choiceF_good n)) moreC_le _ _ _ _ _ h
    exact ⟨a, by simpa [flatK] using b, c⟩
theorem goods : Goods := fun n => ⟨(partF_good (choiceF_good n)).good 2 (.inl rfl), (rowF_good (choiceF_good n)).good 3 (.inr rfl)⟩
end Go.Proofs.YtgmjgflifgjpmaaDoor
