/- Chapter 22: there and back: plain laws. -/
import Derived.Test.YtdoogkohfjkefaaDoorScPrint
namespace Go.Proofs.YtdoogkohfjkefaaDoor
open Go.RowKit
theorem itoa_noblank (n : Int) : ∀ c ∈ Lib.itoa n, c ≠ 32 := by
  intro c hc
  have hd : ∀ u, ∀ c ∈ Lib.decDigits u, c ≠ 32 := fun u c hc e => by
    have := List.all_eq_true.1 (dec_all u).1 c hc
    rw [e] at this
    exact absurd this (by decide)
  unfold Lib.itoa at hc
  split at hc
  · rcases List.mem_cons.1 hc with h | h
    · rw [h]; decide
    · exact hd _ c h
  · exact hd _ c hc
/-- The words with one blank between. -/
def joinW : List (List UInt8) → List UInt8
  | [] => []
  | [u] => u
  | u :: v :: r => u ++ 32 :: joinW (v :: r)
theorem join_words : ∀ s : List UInt8, joinW (wordsL s) = s
  | [] => rfl
  | c :: t => by
    have ih := join_words t
    have hne := wordsL_ne t
    rw [wordsL]
    split
    · rename_i h
      obtain ⟨u, r, e⟩ := List.exists_cons_of_ne_nil hne
      rw [e] at ih ⊢
      rw [joinW, ih, h]; rfl
    · split
      · rename_i e; exact absurd e hne
      · rename_i u r e
        rw [e] at ih
        cases r with
        | nil => rw [joinW] at ih ⊢; rw [ih]
        | cons v r => rw [joinW] at ih ⊢; rw [List.cons_append, ih]
theorem wrap_zero (x y : Int) (hx : -9223372036854775808 ≤ x ∧ x ≤ 9223372036854775807) (hy : 0 ≤ y ∧ y ≤ 7) : wrap64 (x - y) = 0 ↔ x = y := by
  unfold wrap64; omega
theorem not_big {n : Int} (h : ¬ bigB n = true) : numF (Lib.itoa n) = some n := num_itoa n (by simpa using h)
theorem w_run (n : Int) (v : List UInt8) : wordsL (Lib.itoa n ++ 32 :: v) = Lib.itoa n :: wordsL v := words_run _ _ (itoa_noblank n)
theorem w_last (n : Int) : wordsL (Lib.itoa n) = [Lib.itoa n] := words_last _ (itoa_noblank n)
theorem act_print (t : ActT) (hok : t.Ok) (m : Nat) (L : List UInt8) (h : printF t m = some L) : actF L = some t ∧ m = 0 := by
  unfold printF at h
  cases hf : formsT.find? (selF t) with
  | none => rw [hf] at h; cases h
  | some f =>
    rw [hf] at h
    have hs := List.find?_some hf
    have hm := List.mem_of_find?_eq_some hf
    have hb := (forms_b f hm)
    have hw := wrap_zero t.b f.b hok.b ⟨hb.1, hb.2.1⟩
    simp only [printO] at h
    generalize wrap64 (t.b - f.b) = wb at h hw
    obtain ⟨k, a, b, c, d, n⟩ := t
    clear hf hok hb
    simp only [formsT, List.mem_cons, List.not_mem_nil, or_false] at hm
    rcases hm with rfl | rfl | rfl | rfl | rfl | rfl | rfl | rfl | rfl | rfl | rfl | rfl | rfl | rfl | rfl
    all_goals
      simp only [selF, Bool.and_eq_true, Bool.or_eq_true, decide_eq_true_eq] at hs
      simp [prtF, ActT.get, ActT.set] at h
      (try have hw := hw.1)
      obtain ⟨hs1, hs2⟩ := hs
      first
        | (obtain ⟨b1, b2, b3, b4, ⟨e, hmm⟩, rfl⟩ := h
           have n1 := num_itoa _ b1; have n2 := num_itoa _ b2; have n3 := num_itoa _ b3; have n4 := num_itoa _ b4
           have hbb := hw e
           refine ⟨?_, by simp_all⟩
           simp_all [actF, wordsL, w_run, w_last, formsT, fitsF, fillO, fillF, ActT.set])
        | (obtain ⟨b1, b2, b3, ⟨e, e2, hmm⟩, rfl⟩ := h
           have n1 := num_itoa _ b1; have n2 := num_itoa _ b2; have n3 := num_itoa _ b3
           have hbb := hw e
           refine ⟨?_, by simp_all⟩
           simp_all [actF, wordsL, w_run, w_last, formsT, fitsF, fillO, fillF, ActT.set])
        | (obtain ⟨b1, b2, ⟨e, e2, e3, hmm⟩, rfl⟩ := h
           have n1 := num_itoa _ b1; have n2 := num_itoa _ b2
           have hbb := hw e
           refine ⟨?_, by simp_all⟩
           simp_all [actF, wordsL, w_run, w_last, formsT, fitsF, fillO, fillF, ActT.set])
        | (obtain ⟨b1, ⟨e, e2, e3, e4, hmm⟩, rfl⟩ := h
           have n1 := num_itoa _ b1
           have hbb := hw e
           refine ⟨?_, by simp_all⟩
           simp_all [actF, wordsL, w_last, formsT, fitsF, fillO, fillF, ActT.set])
        | (obtain ⟨⟨e0, e, e2, e3, e4, hmm⟩, rfl⟩ := h
           have hbb := hw e
           refine ⟨?_, by simp_all⟩
           simp_all [actF, wordsL, formsT, fitsF, fillO, fillF])
theorem fill_cons {t r : ActT} {f : UInt8} {fs : List UInt8} {xs : List (List UInt8)} (h : fillF t (f :: fs) xs = some r) : ∃ n xs', xs = Lib.itoa n :: xs' ∧ bigB n = false ∧ fillF (t.set f n) fs xs' = some r := by
  cases xs with
  | nil => simp [fillF] at h
  | cons x xs =>
    rw [fillF] at h
    cases hn : numF x with
    | none => rw [hn] at h; cases h
    | some n =>
      rw [hn] at h
      obtain ⟨e, hb⟩ := itoa_num x n hn
      exact ⟨n, xs, by rw [e], hb, h⟩
theorem fill_nil {t r : ActT} {xs : List (List UInt8)} (h : fillF t [] xs = some r) : xs = [] ∧ t = r := by
  cases xs with
  | nil => rw [fillF] at h; exact ⟨rfl, Option.some.inj h⟩
  | cons x xs => simp [fillF] at h
theorem print_act (S : List UInt8) (t : ActT) (h : actF S = some t) : printF t 0 = some S := by
  unfold actF at h
  have hj := join_words S
  generalize wordsL S = ws at h hj
  subst hj
  cases hf : formsT.find? (fitsF ws) with
  | none => rw [hf] at h; cases h
  | some f =>
    rw [hf] at h
    have hs := List.find?_some hf
    have hm := List.mem_of_find?_eq_some hf
    simp only [fillO] at h
    clear hf
    simp only [fitsF, Bool.and_eq_true, decide_eq_true_eq] at hs
    obtain ⟨h1, h2⟩ := hs
    obtain ⟨x, xs, rfl⟩ : ∃ x xs, ws = x :: xs := by
      cases ws with
      | nil => simp at h1
      | cons x xs => exact ⟨x, xs, rfl⟩
    simp only [List.head?_cons, Option.some.injEq, List.length_cons, Nat.add_right_cancel_iff, List.tail_cons] at h1 h2 h
    subst h1
    simp only [formsT, List.mem_cons, List.not_mem_nil, or_false] at hm
    rcases hm with rfl | rfl | rfl | rfl | rfl | rfl | rfl | rfl | rfl | rfl | rfl | rfl | rfl | rfl | rfl
    all_goals
      clear h2
      simp only at h
      first
        | (obtain ⟨a, xs, rfl, ba, h⟩ := fill_cons h
           obtain ⟨c, xs, rfl, bc, h⟩ := fill_cons h
           obtain ⟨d, xs, rfl, bd, h⟩ := fill_cons h
           obtain ⟨n, xs, rfl, bn, h⟩ := fill_cons h
           obtain ⟨rfl, rfl⟩ := fill_nil h
           simp [printF, printO, prtF, formsT, selF, ActT.set, ActT.get, joinW, wrap64, ba, bc, bd, bn])
        | (obtain ⟨a, xs, rfl, ba, h⟩ := fill_cons h
           obtain ⟨c, xs, rfl, bc, h⟩ := fill_cons h
           obtain ⟨d, xs, rfl, bd, h⟩ := fill_cons h
           obtain ⟨rfl, rfl⟩ := fill_nil h
           simp [printF, printO, prtF, formsT, selF, ActT.set, ActT.get, joinW, wrap64, ba, bc, bd])
        | (obtain ⟨a, xs, rfl, ba, h⟩ := fill_cons h
           obtain ⟨c, xs, rfl, bc, h⟩ := fill_cons h
           obtain ⟨rfl, rfl⟩ := fill_nil h
           simp [printF, printO, prtF, formsT, selF, ActT.set, ActT.get, joinW, wrap64, ba, bc])
        | (obtain ⟨a, xs, rfl, ba, h⟩ := fill_cons h
           obtain ⟨rfl, rfl⟩ := fill_nil h
           simp [printF, printO, prtF, formsT, selF, ActT.set, ActT.get, joinW, wrap64, ba])
        | (obtain ⟨rfl, rfl⟩ := fill_nil h
           simp [printF, printO, prtF, formsT, selF, joinW, wrap64])
end Go.Proofs.YtdoogkohfjkefaaDoor
