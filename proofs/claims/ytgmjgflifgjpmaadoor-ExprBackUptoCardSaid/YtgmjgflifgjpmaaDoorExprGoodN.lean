/- How large what is read is: no more trees than twice the letters, no more letters in names than letters. -/
import Derived.Test.YtgmjgflifgjpmaaDoorExprGood
import Derived.Test.YtgmjgflifgjpmaaDoorExprRight
namespace Go.Proofs.YtgmjgflifgjpmaaDoor
def Few (F : List UInt8 → Res) : Prop := ∀ r x r1, F r = .ok x r1 → x.count + 1 + 2 * r1.length ≤ 2 * r.length ∧ x.bytes + r1.length ≤ r.length
theorem countL_append (a b : List Tree) : countL (a ++ b) = countL a + countL b := by
  induction a with
  | nil => simp [countL]
  | cons x a ih => simp only [List.cons_append, countL, ih]; omega
theorem bytesL_append (a b : List Tree) : bytesL (a ++ b) = bytesL a + bytesL b := by
  induction a with
  | nil => simp [bytesL]
  | cons x a ih => simp only [List.cons_append, bytesL, ih]; omega
theorem flatK_few (kind : Int) (l : List Tree) : countL (flatK kind l) ≤ countL l ∧ bytesL (flatK kind l) ≤ bytesL l := by
  induction l with
  | nil => simp [flatK]
  | cons x l ih =>
    have e : flatK kind (x :: l) = (if x.k = kind then x.l else [x]) ++ flatK kind l := by simp [flatK]
    have h1 := count_eq x
    have h2 := bytes_eq x
    rw [e, countL_append, bytesL_append]
    simp only [countL, bytesL]
    split
    · omega
    · simp only [countL, bytesL]; omega
theorem someF_few {kind : Int} {F : List UInt8 → Res} {G : List UInt8 → Bool × List UInt8} (hF : Few F) (hG : ∀ r, (G r).2.length ≤ r.length) :
    ∀ (n : Nat) (acc : List Tree) (r : List UInt8) (x : Tree) (r1 : List UInt8), someF kind F G n acc r = .ok x r1 →
      x.count + 1 + 2 * r1.length ≤ countL acc + acc.length + 2 * r.length ∧ x.bytes + r1.length ≤ bytesL acc + r.length := by
  intro n
  induction n with
  | zero => intro acc r x r1 h; simp [someF] at h
  | succ n ih =>
    intro acc r x r1 h
    unfold someF at h
    cases hf : F r with
    | err q => rw [hf] at h; cases h
    | ok y q =>
      rw [hf] at h
      obtain ⟨h1, h2⟩ := hF r y q hf
      have h4 := hG q
      cases hg : G q with
      | mk b q2 =>
        simp only [hg] at h
        rw [hg] at h4
        cases b with
        | false =>
          simp only [Res.ok.injEq] at h
          obtain ⟨rfl, rfl⟩ := h
          simp only at h4
          cases acc with
          | nil =>
            rw [List.nil_append, joinK_one]
            simp only [countL, bytesL, List.length_nil]
            omega
          | cons z l =>
            rw [joinK_more kind (z :: l) y (by simp)]
            have hk := flatK_few kind (z :: l ++ [y])
            rw [countL_append, bytesL_append] at hk
            simp only [countL, bytesL] at hk
            have e1 : (Tree.node kind ⟨#[]⟩ (flatK kind (z :: l ++ [y]))).count = countL (flatK kind (z :: l ++ [y])) + 1 := by simp only [Tree.count]
            have e2 : (Tree.node kind ⟨#[]⟩ (flatK kind (z :: l ++ [y]))).bytes = bytesL (flatK kind (z :: l ++ [y])) := by rw [bytes_eq]; rfl
            rw [e1, e2]
            simp only [countL, bytesL, List.length_cons]
            omega
        | true =>
          simp only at h h4
          have := ih _ _ _ _ h
          rw [countL_append, bytesL_append] at this
          simp only [countL, bytesL, List.length_append, List.length_cons, List.length_nil] at this
          omega
theorem signsF_few : ∀ (n : Nat) (e : Tree) (r : List UInt8), (signsF n e r).1.count + 2 * (signsF n e r).2.length ≤ e.count + 2 * r.length ∧ (signsF n e r).1.bytes + (signsF n e r).2.length ≤ e.bytes + r.length := by
  intro n
  induction n with
  | zero => intro e r; exact ⟨Nat.le_refl _, Nat.le_refl _⟩
  | succ n ih =>
    intro e r
    have hs := skipB_le r
    unfold signsF
    split
    · rename_i h
      simp
    · rename_i c t h
      rw [h] at hs
      simp only [List.length_cons] at hs
      split
      · simp only [List.length_cons]; omega
      · have := ih (.node (signK c) ⟨#[]⟩ [e]) t
        have e1 : (Tree.node (signK c) ⟨#[]⟩ [e]).count = e.count + 1 := by simp [Tree.count, countL]
        have e2 : (Tree.node (signK c) ⟨#[]⟩ [e]).bytes = e.bytes := by rw [bytes_eq]; simp [Tree.l, Tree.name, bytesL]; rfl
        rw [e1, e2] at this
        omega
theorem atomF_few {C : List UInt8 → Res} (hC : Few C) : Few (atomF C) := by
  intro r x r1 h
  have hs := skipB_le r
  unfold atomF at h
  split at h
  · rename_i t hq
    rw [hq] at hs
    obtain ⟨q, h1, h2⟩ := closeF_ok h
    have := hC _ _ _ h1
    have h3 := skipB_le q
    rw [h2] at h3
    simp only [List.length_cons] at hs h3
    omega
  · split at h
    · cases h
    · rename_i hne
      simp only [Res.ok.injEq] at h
      obtain ⟨rfl, rfl⟩ := h
      have h1 : (List.takeWhile letter (skipB r)).length + (List.dropWhile letter (skipB r)).length = (skipB r).length := by
        rw [← List.length_append, List.takeWhile_append_dropWhile]
      have h2 : 0 < (List.takeWhile letter (skipB r)).length := List.length_pos_iff.2 hne
      have e1 : (Tree.node 1 ⟨(List.takeWhile letter (skipB r)).toArray⟩ []).count = 1 := by simp [Tree.count, countL]
      have e2 : (Tree.node 1 ⟨(List.takeWhile letter (skipB r)).toArray⟩ []).bytes = (List.takeWhile letter (skipB r)).length := by rw [bytes_eq]; simp [Tree.l, Tree.name, bytesL, ByteArray.size]
      rw [e1, e2]
      omega
theorem partF_few {C : List UInt8 → Res} (hC : Few C) : Few (partF C) := by
  intro r x r1 h
  unfold partF at h
  split at h
  · cases h
  · rename_i e q hq
    have h1 := atomF_few hC _ _ _ hq
    simp only [Res.ok.injEq] at h
    obtain ⟨rfl, rfl⟩ := h
    have h2 := signsF_few (q.length + 1) e q
    omega
theorem rowF_few {C : List UInt8 → Res} (hC : Few C) : Few (rowF C) := by
  intro r x r1 h
  have := someF_few (partF_few hC) moreR_le _ _ _ _ _ h
  simpa [countL, bytesL] using this
theorem choiceF_few : ∀ n, Few (choiceF n)
  | 0 => by intro r x r1 h; cases h
  | n + 1 => by
    intro r x r1 h
    have := someF_few (rowF_few (choiceF_few n)) moreC_le _ _ _ _ _ h
    simpa [countL, bytesL] using this
end Go.Proofs.YtgmjgflifgjpmaaDoor
