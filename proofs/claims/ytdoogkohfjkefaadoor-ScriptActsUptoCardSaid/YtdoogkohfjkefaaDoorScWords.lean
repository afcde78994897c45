/- Chapter 22: the words of a line. -/
import Derived.Test.YtdoogkohfjkefaaDoorScNum
import Derived.Lib.SplitLaws
namespace Go.Proofs.YtdoogkohfjkefaaDoor
open Go.RowKit
/-- The words of a line, one blank between. -/
def wordsL : List UInt8 → List (List UInt8)
  | [] => [[]]
  | c :: t => if c = 32 then [] :: wordsL t else match wordsL t with
    | [] => [[c]]
    | h :: r => (c :: h) :: r
theorem wordsL_ne (s : List UInt8) : wordsL s ≠ [] := by
  cases s with
  | nil => simp [wordsL]
  | cons c t => unfold wordsL; split; · simp
                split <;> simp
theorem split_nil : Lib.split [] [32] = [[]] := by decide
theorem split_eq (t : List UInt8) : Lib.split (32 :: t) [32] = [] :: Lib.split t [32] := by
  unfold Lib.split
  rw [Lib.count_cons_eq, Nat.add_comm 1, Lib.splitK]
  have hix : Lib.index (32 :: t) [32] = 0 := by rw [Lib.index]; simp [List.isPrefixOf]
  rw [hix]
  simp
theorem split_ne (c : UInt8) (t : List UInt8) (h : c ≠ 32) : ∃ u r, Lib.split t [32] = u :: r ∧ Lib.split (c :: t) [32] = (c :: u) :: r := by
  unfold Lib.split
  rw [Lib.count_cons_ne c 32 t h]
  cases hk : Lib.count t [32] with
  | zero => exact ⟨t, [], rfl, rfl⟩
  | succ k =>
    have hne : Lib.index t [32] ≠ -1 := fun e => by rw [Lib.count_miss e] at hk; cases hk
    have hge := Lib.index_ge t [32]
    obtain ⟨i, hi⟩ : ∃ i : Nat, Lib.index t [32] = i := ⟨(Lib.index t [32]).toNat, by omega⟩
    have hix : Lib.index (c :: t) [32] = ((i + 1 : Nat) : Int) := by
      have hp : ([32] : List UInt8).isPrefixOf (c :: t) = false := by simp [List.isPrefixOf, Ne.symm h]
      rw [Lib.index, hp]
      simp only [Bool.false_eq_true, if_false]
      rw [if_neg (by simpa using hne), hi]
      omega
    have e1 : (((i : Nat) : Int) == -1) = false := by simp
    have e2 : (((i + 1 : Nat) : Int) == -1) = false := by simp; omega
    refine ⟨t.take i, Lib.splitK [32] 0 k (t.drop (i + 1)), ?_, ?_⟩
    · rw [Lib.splitK, hi, e1]
      simp
    · rw [Lib.splitK, hix, e2]
      simp
theorem split_words : ∀ s : List UInt8, Lib.split s [32] = wordsL s
  | [] => split_nil
  | c :: t => by
    by_cases h : c = 32
    · subst h; rw [split_eq, split_words t]; simp [wordsL]
    · obtain ⟨u, r, h1, h2⟩ := split_ne c t h
      rw [h2, wordsL, if_neg h, ← split_words t, h1]
theorem words_run : ∀ (u v : List UInt8), (∀ c ∈ u, c ≠ 32) → wordsL (u ++ 32 :: v) = u :: wordsL v
  | [], v, _ => by simp [wordsL]
  | c :: u, v, h => by
    rw [List.cons_append, wordsL, if_neg (h c (List.mem_cons_self ..)), words_run u v (fun x hx => h x (List.mem_cons_of_mem _ hx))]
theorem words_last : ∀ (u : List UInt8), (∀ c ∈ u, c ≠ 32) → wordsL u = [u]
  | [], _ => rfl
  | c :: u, h => by
    rw [wordsL, if_neg (h c (List.mem_cons_self ..)), words_last u (fun x hx => h x (List.mem_cons_of_mem _ hx))]
theorem words_few : ∀ s : List UInt8, (wordsL s).length ≤ s.length + 1
  | [] => by simp [wordsL]
  | c :: t => by
    have ih := words_few t
    rw [wordsL]
    split
    · simp; omega
    · split
      · simp
      · rename_i h r e; rw [e] at ih; simp at ih ⊢; omega
theorem words_short : ∀ (s u : List UInt8), u ∈ wordsL s → u.length ≤ s.length
  | [], u, h => by simp [wordsL] at h; simp [h]
  | c :: t, u, h => by
    have ih := words_short t
    rw [wordsL] at h
    split at h
    · rcases List.mem_cons.1 h with h | h
      · simp [h]
      · have := ih u h; simp; omega
    · split at h
      · simp at h; simp [h]
      · rename_i g r e
        rcases List.mem_cons.1 h with h | h
        · have := ih g (by rw [e]; exact List.mem_cons_self ..); rw [h]; simp; omega
        · have := ih u (by rw [e]; exact List.mem_cons_of_mem _ h); simp; omega
/-- strings.Split at a blank: the words. -/
theorem split_any (s : ByteArray) (hs : s.size ≤ 4000000000) (w : World) (h : SW w) :
    Calls Tryd.prog 11 #[.string s, .string ⟨#[32]⟩] w fun e w' => e = .returned (.slice (some ⟨w.heap.size, 0, none⟩) (wordsL s.data.toList).length (wordsL s.data.toList).length) ∧ w' = w.alloc (.cells ((wordsL s.data.toList).map (fun u => Value.string (bs u))).toArray 9) := by
  obtain ⟨m, hm⟩ := h.len
  refine (strings_Split s ⟨#[32]⟩ m w (by omega) hm (by decide)).mono ?_
  rintro e w' ⟨rfl, rfl⟩
  have hd := Lib.splitB_data ⟨#[32]⟩ 0 (Lib.countB s ⟨#[32]⟩) s
  have hsw : Lib.splitK [32] 0 (Lib.countB s ⟨#[32]⟩) s.data.toList = wordsL s.data.toList := split_words s.data.toList
  have hd2 : (Lib.splitB ⟨#[32]⟩ 0 (Lib.countB s ⟨#[32]⟩) s).map (·.data.toList) = wordsL s.data.toList := hd.trans hsw
  have hall := Lib.splitB_all ⟨#[32]⟩ (by decide) 0 (Lib.countB s ⟨#[32]⟩) s rfl
  have hlen : (wordsL s.data.toList).length = Lib.countB s ⟨#[32]⟩ + 1 := by rw [← hd2, List.length_map, hall]
  refine ⟨by rw [hlen], ?_⟩
  rw [← hd2, List.map_map]
  have hf : (fun u => Value.string (bs u)) ∘ (fun x : ByteArray => x.data.toList) = Value.string := by
    funext a
    show Value.string (bs a.data.toList) = Value.string a
    rw [bs_of]
  rw [hf]
end Go.Proofs.YtdoogkohfjkefaaDoor
