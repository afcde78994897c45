/- A tree's text, as a plain function. -/
import Derived.Test.YtgmjgflifgjpmaaDoorRefRightP
import Derived.Lib.Join
import Derived.Laws.MakeOwn
namespace Go.Proofs.YtgmjgflifgjpmaaDoor
open Go.RowKit
def bs (l : List UInt8) : ByteArray := ⟨l.toArray⟩
theorem bs_size (l : List UInt8) : (bs l).size = l.length := by simp [bs, ByteArray.size]
theorem bs_list (l : List UInt8) : (bs l).data.toList = l := by simp [bs]
theorem bs_append (a b : List UInt8) : bs a ++ bs b = bs (a ++ b) := by
  apply ByteArray.ext
  simp [bs]
theorem bs_of (s : ByteArray) : bs s.data.toList = s := by
  apply ByteArray.ext
  simp [bs]
/-- Do brackets stand around a part? -/
def brackB (k j : Int) : Bool := (decide (j = 3) && decide (k ≠ 3)) || (decide (j = 2) && decide (k ≠ 3) && decide (k ≠ 2))
def partT (k j : Int) (t : List UInt8) : List UInt8 := if brackB k j then 40 :: (t ++ [41]) else t
def signC (k : Int) : UInt8 := if k = 4 then 42 else if k = 5 then 43 else 63
mutual
def textT : Tree → List UInt8
  | .node k n l => if k = 1 then n.data.toList else if k = 2 then Lib.join (textL k l) [32] else if k = 3 then Lib.join (textL k l) [124] else if k = 4 ∨ k = 5 ∨ k = 6 then (textL k l).headD [] ++ [signC k] else []
def textL (k : Int) : List Tree → List (List UInt8)
  | [] => []
  | x :: xs => partT k x.k (textT x) :: textL k xs
end
theorem textT_eq (x : Tree) : textT x = if x.k = 1 then x.name.data.toList else if x.k = 2 then Lib.join (textL x.k x.l) [32] else if x.k = 3 then Lib.join (textL x.k x.l) [124] else if x.k = 4 ∨ x.k = 5 ∨ x.k = 6 then (textL x.k x.l).headD [] ++ [signC x.k] else [] := by cases x; rw [textT]; rfl
theorem textL_map (k : Int) (l : List Tree) : textL k l = l.map (fun x => partT k x.k (textT x)) := by
  induction l with
  | nil => rfl
  | cons x l ih => rw [textL, ih]; rfl
theorem textL_len (k : Int) (l : List Tree) : (textL k l).length = l.length := by rw [textL_map, List.length_map]
theorem textL_get (k : Int) (l : List Tree) (i : Nat) (hi : i < l.length) : (textL k l)[i]? = some (partT k l[i].k (textT l[i])) := by
  rw [textL_map, List.getElem?_map, List.getElem?_eq_getElem hi]; rfl
def sumL (l : List (List UInt8)) : Nat := (l.map List.length).sum
theorem joinTail_len (sep : List UInt8) (l : List (List UInt8)) : (Lib.joinTail sep l).length = sumL l + l.length * sep.length := by
  unfold Lib.joinTail sumL
  induction l with
  | nil => simp
  | cons x l ih =>
    simp only [List.map_cons, List.flatten_cons, List.length_append, List.sum_cons, List.length_cons, ih, Nat.add_mul]
    omega
theorem join_len (sep : List UInt8) (hs : sep.length = 1) (l : List (List UInt8)) : (Lib.join l sep).length ≤ sumL l + l.length := by
  cases l with
  | nil => simp [Lib.join_nil]
  | cons x l =>
    rw [Lib.join_cons, List.length_append, joinTail_len, hs]
    simp only [sumL, List.map_cons, List.sum_cons, List.length_cons]
    omega
theorem partT_len (k j : Int) (t : List UInt8) : (partT k j t).length ≤ t.length + 2 := by
  unfold partT
  split
  · simp
  · omega
mutual
theorem textT_len : ∀ x : Tree, (textT x).length + 3 ≤ x.bytes + 4 * x.count
  | .node k n l => by
    have ih := textL_len4 k l
    rw [textT]
    simp only [Tree.bytes, Tree.count]
    split
    · have : n.data.toList.length = n.size := by simp
      omega
    · split
      · have := join_len [32] rfl (textL k l); omega
      · split
        · have := join_len [124] rfl (textL k l); omega
        · split
          · have hh : ((textL k l).headD []).length ≤ sumL (textL k l) := by
              cases textL k l with
              | nil => simp
              | cons y r => simp [sumL]
            rw [List.length_append]
            simp only [List.length_singleton]
            omega
          · simp; omega
theorem textL_len4 (k : Int) : ∀ l : List Tree, sumL (textL k l) + (textL k l).length ≤ bytesL l + 4 * countL l
  | [] => by simp [textL, sumL]
  | x :: l => by
    have h1 := textT_len x
    have h2 := textL_len4 k l
    have h3 := partT_len k x.k (textT x)
    simp only [textL, sumL, List.map_cons, List.sum_cons, List.length_cons, bytesL, countL]
    unfold sumL at h2
    omega
end
theorem part_len (x : Tree) (i : Nat) (hi : i < x.l.length) : (partT x.k x.l[i].k (textT x.l[i])).length ≤ x.l[i].bytes + 4 * x.l[i].count := by
  have h1 := textT_len x.l[i]
  have h3 := partT_len x.k x.l[i].k (textT x.l[i])
  omega
theorem made_list (z : Value) (n : Nat) : madeCells #[z] n = (List.replicate n z).toArray := by
  apply Array.ext
  · simp [size_madeCells]
  · intro i h1 h2
    simp [madeCells]
    simp [Nat.mod_one]
end Go.Proofs.YtgmjgflifgjpmaaDoor
