/- ExprJoins: the plain part: two in brackets, with a star behind each. -/
import Derived.Test.YtgmjgflifgjpmaaDoorExprParse2
import Derived.Test.YtgmjgflifgjpmaaDoorExprGoodN
namespace Go.Proofs.YtgmjgflifgjpmaaDoor.exprJoins
/-- No more trees within one another than letters. -/
def Flat (F : List UInt8 → Res) : Prop := ∀ r x r1, F r = .ok x r1 → x.deep + r1.length ≤ r.length
theorem deepL_append (a b : List Tree) : deepL (a ++ b) = max (deepL a) (deepL b) := by
  induction a with
  | nil => simp [deepL]
  | cons x a ih => simp only [List.cons_append, deepL, ih]; omega
theorem flatK_deep (kind : Int) (l : List Tree) : deepL (flatK kind l) ≤ deepL l := by
  induction l with
  | nil => simp [flatK]
  | cons x l ih =>
    have e : flatK kind (x :: l) = (if x.k = kind then x.l else [x]) ++ flatK kind l := by simp [flatK]
    have h1 := deep_eq x
    rw [e, deepL_append]
    simp only [deepL]
    split
    · omega
    · simp only [deepL]; omega
theorem someF_flat {kind : Int} {F : List UInt8 → Res} {G : List UInt8 → Bool × List UInt8} (hE : ∀ r x q, F r = .ok x q → q.length < r.length) (hF : Flat F) (hG : ∀ r, (G r).2.length ≤ r.length) :
    ∀ (n : Nat) (acc : List Tree) (r : List UInt8) (x : Tree) (r1 : List UInt8), someF kind F G n acc r = .ok x r1 →
      x.deep + r1.length ≤ max (if acc = [] then 0 else deepL acc + 1 + r1.length) (if acc = [] then r.length else r.length + 1) ∧ r1.length < r.length ∧ (acc ≠ [] → x.deep ≤ max (deepL acc + 1) (r.length - r1.length + 1)) ∧ (acc = [] → x.deep + r1.length ≤ r.length) := by
  intro n
  induction n with
  | zero => intro acc r x r1 h; simp [someF] at h
  | succ n ih =>
    intro acc r x r1 h
    unfold someF at h
    cases hf : F r with
    | err q => rw [hf] at h; cases h
    | ok y q =>
      rw [hf] at h
      have h1 := hF r y q hf
      have h2 := hE r y q hf
      have h4 := hG q
      cases hg : G q with
      | mk b q2 =>
        simp only [hg] at h
        rw [hg] at h4
        cases b with
        | false =>
          simp only [Res.ok.injEq] at h
          obtain ⟨rfl, rfl⟩ := h
          simp only at h4
          cases acc with
          | nil =>
            rw [List.nil_append, joinK_one]
            refine ⟨?_, by omega, fun h => absurd rfl h, fun _ => by omega⟩
            rw [if_pos rfl, if_pos rfl]
            omega
          | cons z l =>
            rw [joinK_more kind (z :: l) y (by simp)]
            have hk := flatK_deep kind (z :: l ++ [y])
            rw [deepL_append] at hk
            have e3 : deepL [y] = y.deep := by simp [deepL]
            rw [e3] at hk
            have e1 : (Tree.node kind ⟨#[]⟩ (flatK kind (z :: l ++ [y]))).deep = deepL (flatK kind (z :: l ++ [y])) + 1 := by simp only [Tree.deep]
            rw [e1, if_neg (by simp), if_neg (by simp)]
            refine ⟨by omega, by omega, fun _ => by omega, fun h => by cases h⟩
        | true =>
          simp only at h h4
          obtain ⟨i1, i2, i3, i4⟩ := ih _ _ _ _ h
          have i5 := i3 (by simp)
          rw [deepL_append] at i5
          have e3 : deepL [y] = y.deep := by simp [deepL]
          rw [e3] at i5
          cases acc with
          | nil =>
            simp only [deepL] at i5
            rw [if_pos rfl, if_pos rfl]
            refine ⟨by omega, by omega, fun h => absurd rfl h, fun _ => by omega⟩
          | cons z l =>
            rw [if_neg (by simp), if_neg (by simp)]
            refine ⟨by omega, by omega, fun _ => by omega, fun h => by cases h⟩
theorem signsF_flat : ∀ (n : Nat) (e : Tree) (r : List UInt8), (signsF n e r).1.deep + (signsF n e r).2.length ≤ e.deep + r.length := by
  intro n
  induction n with
  | zero => intro e r; exact Nat.le_refl _
  | succ n ih =>
    intro e r
    have hs := skipB_le r
    unfold signsF
    split
    · simp
    · rename_i c t h
      rw [h] at hs
      simp only [List.length_cons] at hs
      split
      · simp only [List.length_cons]; omega
      · have := ih (.node (signK c) ⟨#[]⟩ [e]) t
        have e1 : (Tree.node (signK c) ⟨#[]⟩ [e]).deep = e.deep + 1 := by simp [Tree.deep, deepL]
        rw [e1] at this
        omega
theorem atomF_flat {C : List UInt8 → Res} (hC : Flat C) : Flat (atomF C) := by
  intro r x r1 h
  have hs := skipB_le r
  unfold atomF at h
  split at h
  · rename_i t hq
    rw [hq] at hs
    obtain ⟨q, h1, h2⟩ := closeF_ok h
    have := hC _ _ _ h1
    have h3 := skipB_le q
    rw [h2] at h3
    simp only [List.length_cons] at hs h3
    omega
  · split at h
    · cases h
    · rename_i hne
      simp only [Res.ok.injEq] at h
      obtain ⟨rfl, rfl⟩ := h
      have h1 : (List.takeWhile letter (skipB r)).length + (List.dropWhile letter (skipB r)).length = (skipB r).length := by
        rw [← List.length_append, List.takeWhile_append_dropWhile]
      have h2 : 0 < (List.takeWhile letter (skipB r)).length := List.length_pos_iff.2 hne
      have e1 : (Tree.node 1 ⟨(List.takeWhile letter (skipB r)).toArray⟩ []).deep = 1 := by simp [Tree.deep, deepL]
      rw [e1]
      omega
theorem partF_flat {C : List UInt8 → Res} (hC : Flat C) : Flat (partF C) := by
  intro r x r1 h
  unfold partF at h
  split at h
  · cases h
  · rename_i e q hq
    have h1 := atomF_flat hC _ _ _ hq
    simp only [Res.ok.injEq] at h
    obtain ⟨rfl, rfl⟩ := h
    have h2 := signsF_flat (q.length + 1) e q
    omega
theorem choiceF_flat : ∀ n, Flat (choiceF n)
  | 0 => by intro r x r1 h; cases h
  | n + 1 => by
    intro r x r1 h
    have hR : Flat (rowF (choiceF n)) := fun r x r1 h => (someF_flat (good_eats (partF_good (choiceF_good n))) (partF_flat (choiceF_flat n)) moreR_le _ _ _ _ _ h).2.2.2 rfl
    exact (someF_flat (good_eats (rowF_good (choiceF_good n))) hR moreC_le _ _ _ _ _ h).2.2.2 rfl
theorem whole_deep {r : List UInt8} {x : Tree} (h : wholeT r = some x) (hx : x.k ≠ 0) : x.deep ≤ r.length ∧ x.count + 1 ≤ 2 * r.length := by
  have hs := skipB_le r
  unfold wholeT at h
  split at h
  · injection h with h
    subst h
    exact absurd rfl hx
  · cases hc : Ch (skipB r) with
    | err q => rw [hc] at h; cases h
    | ok y q =>
      rw [hc] at h
      have h' : (if skipB q = [] ∧ checkT y = 0 then some y else none) = some x := h
      split at h'
      · injection h' with h'
        subst h'
        have h1 := choiceF_flat _ _ _ _ (show choiceF ((skipB r).length + 1) (skipB r) = .ok y q from hc)
        have h2 := choiceF_few _ _ _ _ (show choiceF ((skipB r).length + 1) (skipB r) = .ok y q from hc)
        omega
      · cases h'
def star (x : Tree) : Tree := .node 4 ⟨#[]⟩ [x]
def two (k : Int) (x y : Tree) : Tree := .node k ⟨#[]⟩ [star x, star y]
theorem right_in {x : Tree} (h : rightB 0 x = true) (hx : x.k ≠ 0) : rightB 4 x = true := by
  rw [rightB_eq] at h ⊢
  simp only [Bool.and_eq_true] at h ⊢
  refine ⟨?_, h.2⟩
  have h1 := h.1
  unfold headB at h1 ⊢
  rw [if_neg hx] at h1 ⊢
  split
  · rename_i h2; rw [if_pos h2] at h1; exact h1
  · rename_i h2
    rw [if_neg h2] at h1
    split
    · rename_i h3; rcases h3 with h3 | h3 <;> rw [h3] <;> rfl
    · rename_i h3; rw [if_neg h3] at h1; exact h1
theorem check_two {x y : Tree} (k : Int) (hk : k = 2 ∨ k = 3) (hx : rightB 4 x = true) (hy : rightB 4 y = true) (hn : x.count + y.count ≤ 150) (h1 : x.deep ≤ 50) (h2 : y.deep ≤ 50) : checkT (two k x y) = 0 := by
  have hr : ∀ (i : Int) (z : Tree), rightB 4 z = true → rightB i (star z) = true := by
    intro i z hz
    rw [rightB_eq]
    simp only [star, Tree.k, Tree.name, Tree.l, rightBL, hz]
    rfl
  have h3 : rightB 0 (two k x y) = true := by
    rw [rightB_eq]
    simp only [two, Tree.k, Tree.name, Tree.l, rightBL, hr k x hx, hr k y hy]
    rcases hk with rfl | rfl <;> rfl
  unfold checkT
  have e1 : (two k x y).count = x.count + y.count + 3 := by simp only [two, star, Tree.count, countL]; omega
  have e2 : (two k x y).deep = max x.deep y.deep + 2 := by simp only [two, star, Tree.deep, deepL]; omega
  rw [if_neg (by omega), h3]
  rfl
/-- A part: a text in brackets, a star behind it. -/
theorem part_star {r : List UInt8} {x : Tree} (h : wholeT r = some x) (hx : x.k ≠ 0) (t u : List UInt8) (c : UInt8) (hu : skipB t = c :: u) (hc : signK c = 0) : partF Ch (40 :: (r ++ 41 :: 42 :: t)) = .ok (star x) (c :: u) := by
  obtain ⟨q, h1, h2, _⟩ := Ch_inside h hx 0 0 (42 :: t)
  have ha := atom_inside h1 h2
  unfold partF
  rw [show (40 :: (r ++ 41 :: 42 :: t)) = 40 :: (List.replicate 0 32 ++ r ++ (List.replicate 0 32 ++ 41 :: 42 :: t)) by simp, ha]
  have hs : ∀ n e, signsF (n + 2) e (42 :: t) = (star e, c :: u) := by
    intro n e
    have e1 : signsF (n + 2) e (42 :: t) = signsF (n + 1) (star e) t := rfl
    rw [e1]
    unfold signsF
    rw [hu]
    simp only []
    rw [if_pos hc]
  show Res.ok (signsF (t.length + 1 + 1) x (42 :: t)).1 (signsF (t.length + 1 + 1) x (42 :: t)).2 = _
  rw [hs t.length x]
theorem part_star_end {r : List UInt8} {x : Tree} (h : wholeT r = some x) (hx : x.k ≠ 0) : partF Ch (40 :: (r ++ [41, 42])) = .ok (star x) [] := by
  obtain ⟨q, h1, h2, _⟩ := Ch_inside h hx 0 0 [42]
  have ha := atom_inside h1 h2
  unfold partF
  rw [show (40 :: (r ++ [41, 42])) = 40 :: (List.replicate 0 32 ++ r ++ (List.replicate 0 32 ++ 41 :: [42])) by simp, ha]
  rfl
theorem some_two {kind : Int} {F : List UInt8 → Res} {G : List UInt8 → Bool × List UInt8} {n : Nat} {r : List UInt8} {x y : Tree} {q q2 p p2 : List UInt8} (hF : F r = .ok x q) (hG : G q = (true, q2)) (hF2 : F q2 = .ok y p) (hG2 : G p = (false, p2)) : someF kind F G (n + 2) [] r = .ok (joinK kind [x, y]) p2 := by
  unfold someF
  rw [hF]
  simp only []
  rw [hG]
  simp only []
  unfold someF
  rw [hF2]
  simp only []
  rw [hG2]
  rfl
theorem join_two (k : Int) (hk : k = 2 ∨ k = 3) (x y : Tree) : joinK k [star x, star y] = two k x y := by
  rcases hk with rfl | rfl <;> rfl
theorem whole_row {r u : List UInt8} {x y : Tree} (h : wholeT r = some x) (hx : x.k ≠ 0) (h' : wholeT u = some y) (hy : y.k ≠ 0) (hl : r.length + u.length ≤ 50) :
    wholeT (40 :: (r ++ 41 :: 42 :: 32 :: 40 :: (u ++ [41, 42]))) = some (two 2 x y) ∧ wholeT (40 :: (r ++ 41 :: 42 :: 124 :: 40 :: (u ++ [41, 42]))) = some (two 3 x y) := by
  have dx := whole_deep h hx
  have dy := whole_deep h' hy
  have rx := right_in (checkT_few (whole_few h)).2.2 hx
  have ry := right_in (checkT_few (whole_few h')).2.2 hy
  have c2 := check_two 2 (.inl rfl) rx ry (by omega) (by omega) (by omega)
  have c3 := check_two 3 (.inr rfl) rx ry (by omega) (by omega) (by omega)
  have p2 := part_star_end h' hy
  constructor
  · have p1 := part_star h hx (32 :: 40 :: (u ++ [41, 42])) (u ++ [41, 42]) 40 rfl rfl
    have hr : Ro (40 :: (r ++ 41 :: 42 :: 32 :: 40 :: (u ++ [41, 42]))) = .ok (two 2 x y) [] := by
      have hl : (40 :: (r ++ 41 :: 42 :: 32 :: 40 :: (u ++ [41, 42]))).length + 1 = ((r ++ 41 :: 42 :: 32 :: 40 :: (u ++ [41, 42])).length) + 2 := rfl
      unfold Ro
      rw [hl, some_two (kind := 2) (G := moreR) p1 (q2 := 40 :: (u ++ [41, 42])) rfl p2 (p2 := []) rfl, join_two 2 (.inl rfl)]
    have hc : Ch (40 :: (r ++ 41 :: 42 :: 32 :: 40 :: (u ++ [41, 42]))) = .ok (two 2 x y) [] := by
      rw [Ch_eq]
      exact some_one (kind := 3) (G := moreC) hr (q2 := []) rfl
    unfold wholeT
    rw [show skipB (40 :: (r ++ 41 :: 42 :: 32 :: 40 :: (u ++ [41, 42]))) = 40 :: (r ++ 41 :: 42 :: 32 :: 40 :: (u ++ [41, 42])) from rfl, if_neg (by simp), hc]
    show (if skipB [] = [] ∧ checkT (two 2 x y) = 0 then some (two 2 x y) else none) = _
    rw [if_pos ⟨rfl, c2⟩]
  · have p1 := part_star h hx (124 :: 40 :: (u ++ [41, 42])) (40 :: (u ++ [41, 42])) 124 rfl rfl
    have r1 : Ro (40 :: (r ++ 41 :: 42 :: 124 :: 40 :: (u ++ [41, 42]))) = .ok (star x) (124 :: 40 :: (u ++ [41, 42])) := some_one (kind := 2) (G := moreR) p1 rfl
    have r2 : Ro (40 :: (u ++ [41, 42])) = .ok (star y) [] := some_one (kind := 2) (G := moreR) p2 (q2 := []) rfl
    have hc : Ch (40 :: (r ++ 41 :: 42 :: 124 :: 40 :: (u ++ [41, 42]))) = .ok (two 3 x y) [] := by
      have hl : (40 :: (r ++ 41 :: 42 :: 124 :: 40 :: (u ++ [41, 42]))).length + 1 = ((r ++ 41 :: 42 :: 124 :: 40 :: (u ++ [41, 42])).length) + 2 := rfl
      rw [Ch_eq, hl, some_two (kind := 3) (G := moreC) r1 (q2 := 40 :: (u ++ [41, 42])) rfl r2 (p2 := []) rfl, join_two 3 (.inr rfl)]
    unfold wholeT
    rw [show skipB (40 :: (r ++ 41 :: 42 :: 124 :: 40 :: (u ++ [41, 42]))) = 40 :: (r ++ 41 :: 42 :: 124 :: 40 :: (u ++ [41, 42])) from rfl, if_neg (by simp), hc]
    show (if skipB [] = [] ∧ checkT (two 3 x y) = 0 then some (two 3 x y) else none) = _
    rw [if_pos ⟨rfl, c3⟩]
end Go.Proofs.YtgmjgflifgjpmaaDoor.exprJoins
