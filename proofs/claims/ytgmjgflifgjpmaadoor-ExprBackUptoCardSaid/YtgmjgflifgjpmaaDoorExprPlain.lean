/- What 'Parse' comes to, without fuel; blanks around, brackets around, two in brackets. -/
import Derived.Test.YtgmjgflifgjpmaaDoorExprFuel
import Derived.Test.YtgmjgflifgjpmaaDoorExprParse
namespace Go.Proofs.YtgmjgflifgjpmaaDoor
open Go

theorem some_one {kind : Int} {F : List UInt8 → Res} {G : List UInt8 → Bool × List UInt8} {n : Nat} {r : List UInt8} {x : Tree} {q : List UInt8} (hF : F r = .ok x q) {q2 : List UInt8} (hG : G q = (false, q2)) : someF kind F G (n + 1) [] r = .ok x q2 := by
  unfold someF
  rw [hF]
  simp only []
  rw [hG]
  rfl
def wholeR : Res → Option Tree
  | .err _ => none
  | .ok x q => if skipB q = [] ∧ checkT x = 0 then some x else none
def wholeT (r : List UInt8) : Option Tree := if skipB r = [] then some emptyT else wholeR (Ch (skipB r))
theorem parse_some {s : ByteArray} {x : Tree} (hs : s.size ≤ 200) (h : wholeT s.data.toList = some x) : parseF s = (x, (s.size : Int), 0) := by
  have hl : s.data.toList.length = s.size := by simp
  have h1 := skipB_le s.data.toList
  unfold parseF
  rw [if_neg (by omega)]
  unfold wholeF
  unfold wholeT at h
  by_cases hn : skipB s.data.toList = []
  · rw [if_pos hn] at h ⊢
    injection h with h
    subst h
    rfl
  · rw [if_neg hn] at h ⊢
    rw [choiceF_Ch _ _ (by omega)]
    cases hc : Ch (skipB s.data.toList) with
    | err q => rw [hc] at h; cases h
    | ok y q =>
      rw [hc] at h
      have h' : (if skipB q = [] ∧ checkT y = 0 then some y else none) = some x := h
      split at h'
      · rename_i hh
        injection h' with h'
        subst h'
        show parseW s.size (if skipB q = [] then (if checkT y = 0 then .ok y else .err 0) else .err ((s.size : Int) - (skipB q).length)) = _
        rw [if_pos hh.1, if_pos hh.2]
        rfl
      · cases h'
theorem parse_none {s : ByteArray} (hs : s.size ≤ 200) (h : wholeT s.data.toList = none) : ∃ i, parseF s = (emptyT, i, 4) := by
  have hl : s.data.toList.length = s.size := by simp
  have h1 := skipB_le s.data.toList
  unfold parseF
  rw [if_neg (by omega)]
  unfold wholeF
  unfold wholeT at h
  by_cases hn : skipB s.data.toList = []
  · rw [if_pos hn] at h; cases h
  · rw [if_neg hn] at h ⊢
    rw [choiceF_Ch _ _ (by omega)]
    cases hc : Ch (skipB s.data.toList) with
    | err q => exact ⟨_, rfl⟩
    | ok y q =>
      rw [hc] at h
      have h' : (if skipB q = [] ∧ checkT y = 0 then some y else none) = none := h
      show ∃ i, parseW s.size (if skipB q = [] then (if checkT y = 0 then .ok y else .err 0) else .err ((s.size : Int) - (skipB q).length)) = _
      split at h'
      · cases h'
      · rename_i hh
        by_cases h2 : skipB q = []
        · rw [if_pos h2, if_neg (fun h3 => hh ⟨h2, h3⟩)]; exact ⟨_, rfl⟩
        · rw [if_neg h2]; exact ⟨_, rfl⟩
theorem skipB_blanks (j : Nat) (l : List UInt8) : skipB (List.replicate j 32 ++ l) = skipB l := by
  induction j with
  | zero => rfl
  | succ j ih => rw [List.replicate_succ, List.cons_append]; exact ih
theorem atomF_skip (C : List UInt8 → Res) (r : List UInt8) : atomF C (skipB r) = atomF C r := by unfold atomF; rw [skipB_skipB]
theorem partF_skip (C : List UInt8 → Res) (r : List UInt8) : partF C (skipB r) = partF C r := by unfold partF; rw [atomF_skip]
theorem someF_skip {kind : Int} {F : List UInt8 → Res} {G : List UInt8 → Bool × List UInt8} (hF : ∀ r x q, F r = .ok x q → q.length < r.length) (hG : ∀ r, (G r).2.length ≤ r.length) (hS : ∀ r, F (skipB r) = F r) (r : List UInt8) :
    someF kind F G ((skipB r).length + 1) [] (skipB r) = someF kind F G (r.length + 1) [] r := by
  have hs := skipB_le r
  rw [someF_fuel hF hG _ (r.length + 1) [] (skipB r) (Nat.lt_succ_self _) (by omega)]
  unfold someF
  rw [hS]
theorem Ro_skip (r : List UInt8) : Ro (skipB r) = Ro r := someF_skip (good_eats (partF_good Ch_good)) moreR_le (partF_skip Ch) r
theorem Ch_skip (r : List UInt8) : Ch (skipB r) = Ch r := by
  rw [Ch_eq, Ch_eq]
  exact someF_skip (good_eats Ro_good) moreC_le Ro_skip r
theorem whole_blanks (j k : Nat) (r : List UInt8) : wholeT (List.replicate j 32 ++ r ++ List.replicate k 32) = wholeT r := by
  have hb : Beh [] r (r ++ List.replicate k 32) := ⟨k, by simp⟩
  have hW : Ends [] := .inl rfl
  have hs := hb.skip hW
  unfold wholeT
  rw [List.append_assoc, skipB_blanks]
  cases hr : skipB r with
  | nil => rw [hb.nil_skip hW hr]
  | cons c t =>
    rw [hr] at hs
    obtain ⟨t', e, _⟩ := hs.cons
    rw [if_neg (by rw [e]; simp), if_neg (by simp)]
    have hl := Ch_like hW _ (c :: t) _ (Nat.le_refl _) hs
    unfold Like at hl
    cases hc : Ch (c :: t) with
    | err q =>
      rw [hc] at hl
      obtain ⟨q', e2⟩ := hl rfl
      rw [e2]
      rfl
    | ok x q =>
      rw [hc] at hl
      obtain ⟨q', e2, hq⟩ := hl
      rw [e2]
      show (if skipB q' = [] ∧ checkT x = 0 then some x else none) = (if skipB q = [] ∧ checkT x = 0 then some x else none)
      have h3 : skipB q' = [] ↔ skipB q = [] := by
        constructor
        · intro h
          cases hq2 : skipB q with
          | nil => rfl
          | cons c u =>
            have := hq.skip hW
            rw [hq2] at this
            obtain ⟨u', e3, _⟩ := this.cons
            rw [h] at e3
            cases e3
        · intro h; exact hq.nil_skip hW h
      simp only [h3]
/-- A text that is read whole, its tree not empty: within brackets. -/
theorem Ch_inside {r : List UInt8} {x : Tree} (h : wholeT r = some x) (hx : x.k ≠ 0) (j k : Nat) (t : List UInt8) : ∃ q, Ch (List.replicate j 32 ++ r ++ (List.replicate k 32 ++ 41 :: t)) = .ok x q ∧ skipB q = 41 :: t ∧ checkT x = 0 := by
  have hb : Beh (41 :: t) r (r ++ (List.replicate k 32 ++ 41 :: t)) := ⟨k, rfl⟩
  have hW : Ends (41 :: t) := .inr ⟨t, rfl⟩
  unfold wholeT at h
  by_cases hr : skipB r = []
  · rw [if_pos hr] at h
    injection h with h
    subst h
    exact absurd rfl hx
  · rw [if_neg hr] at h
    have hl := Ch_like hW _ (skipB r) _ (Nat.le_refl _) (hb.skip hW)
    unfold Like at hl
    rw [← Ch_skip, List.append_assoc, skipB_blanks]
    cases hc : Ch (skipB r) with
    | err q => rw [hc] at h; cases h
    | ok y q =>
      rw [hc] at h hl
      obtain ⟨q', e2, hq⟩ := hl
      have h' : (if skipB q = [] ∧ checkT y = 0 then some y else none) = some x := h
      split at h'
      · rename_i hh
        injection h' with h'
        subst h'
        exact ⟨q', e2, hq.nil_skip hW hh.1, hh.2⟩
      · cases h'
/-- .. a part in brackets. -/
theorem atom_inside {T q t : List UInt8} {x : Tree} (h : Ch T = .ok x q) (hq : skipB q = 41 :: t) : atomF Ch (40 :: T) = .ok x t := by
  have e : atomF Ch (40 :: T) = closeF (Ch T) := rfl
  rw [e, h, closeF_of hq, if_pos rfl]
theorem whole_brackets {r : List UInt8} {x : Tree} (h : wholeT r = some x) (hx : x.k ≠ 0) (j k : Nat) : wholeT (40 :: (List.replicate j 32 ++ r ++ (List.replicate k 32 ++ [41]))) = some x := by
  obtain ⟨q, h1, h2, h3⟩ := Ch_inside h hx j k []
  have ha := atom_inside h1 h2
  have hp : partF Ch (40 :: (List.replicate j 32 ++ r ++ (List.replicate k 32 ++ [41]))) = .ok x [] := by
    unfold partF
    rw [ha]
    rfl
  have hc : Ch (40 :: (List.replicate j 32 ++ r ++ (List.replicate k 32 ++ [41]))) = .ok x [] := by
    rw [Ch_eq]
    have hr : Ro (40 :: (List.replicate j 32 ++ r ++ (List.replicate k 32 ++ [41]))) = .ok x [] := some_one (kind := 2) (G := moreR) hp (q2 := []) rfl
    exact some_one (kind := 3) (G := moreC) hr (q2 := []) rfl
  unfold wholeT
  rw [show skipB (40 :: (List.replicate j 32 ++ r ++ (List.replicate k 32 ++ [41]))) = 40 :: (List.replicate j 32 ++ r ++ (List.replicate k 32 ++ [41])) from rfl, if_neg (by simp), hc]
  show (if skipB [] = [] ∧ checkT x = 0 then some x else none) = some x
  rw [if_pos ⟨rfl, h3⟩]
end Go.Proofs.YtgmjgflifgjpmaaDoor
