/- What the readers of an expression compute, in plain Lean: on what is left of the text. -/
import Derived.Test.YtgmjgflifgjpmaaDoorExprTree
import Derived.Test.YtgmjgflifgjpmaaDoorExprNext
namespace Go.Proofs.YtgmjgflifgjpmaaDoor

/-- What a reader comes to: a tree and what is left; or the place of a fault (what is left there). -/
inductive Res where
  | ok (x : Tree) (r : List UInt8)
  | err (r : List UInt8)

def Res.rest : Res → List UInt8
  | .ok _ r => r
  | .err r => r

/-- Some things of a kind as one. -/
def flatK (kind : Int) (l : List Tree) : List Tree := l.flatMap (fun x => if x.k = kind then x.l else [x])
def joinK (kind : Int) : List Tree → Tree
  | [x] => x
  | l => .node kind ⟨#[]⟩ (flatK kind l)
/-- Things that F reads, as long as G says that there are more. -/
def someF (kind : Int) (F : List UInt8 → Res) (G : List UInt8 → Bool × List UInt8) : Nat → List Tree → List UInt8 → Res
  | 0, _, r => .err r
  | n + 1, acc, r => match F r with
    | .err r1 => .err r1
    | .ok x r1 => match G r1 with
      | (false, r2) => .ok (joinK kind (acc ++ [x])) r2
      | (true, r2) => someF kind F G n (acc ++ [x]) r2
def moreC (r : List UInt8) : Bool × List UInt8 := match skipB r with
  | 124 :: t => (true, t)
  | r' => (false, r')
def moreR (r : List UInt8) : Bool × List UInt8 := match skipB r with
  | [] => (false, [])
  | c :: t => (c != 124 && c != 41, c :: t)
def letter (c : UInt8) : Bool := 97 ≤ c && c ≤ 122
def signK (c : UInt8) : Int := if c = 42 then 4 else if c = 43 then 5 else if c = 63 then 6 else 0
/-- The signs behind a thing. -/
def signsF : Nat → Tree → List UInt8 → Tree × List UInt8
  | 0, e, r => (e, r)
  | n + 1, e, r => match skipB r with
    | [] => (e, [])
    | c :: t => if signK c = 0 then (e, c :: t) else signsF n (.node (signK c) ⟨#[]⟩ [e]) t
def closeF : Res → Res
  | .err r => .err r
  | .ok e r => match skipB r with
    | 41 :: t => .ok e t
    | r' => .err r'
def atomF (C : List UInt8 → Res) (r : List UInt8) : Res := match skipB r with
  | 40 :: t => closeF (C t)
  | r' => if (r'.takeWhile letter) = [] then .err r' else .ok (.node 1 ⟨(r'.takeWhile letter).toArray⟩ []) (r'.dropWhile letter)
def partF (C : List UInt8 → Res) (r : List UInt8) : Res := match atomF C r with
  | .err r1 => .err r1
  | .ok e r1 => .ok (signsF (r1.length + 1) e r1).1 (signsF (r1.length + 1) e r1).2
def rowF (C : List UInt8 → Res) (r : List UInt8) : Res := someF 2 (partF C) moreR (r.length + 1) [] r
def choiceF : Nat → List UInt8 → Res
  | 0, r => .err r
  | n + 1, r => someF 3 (rowF (choiceF n)) moreC (r.length + 1) [] r

theorem skipB_le (r : List UInt8) : (skipB r).length ≤ r.length := by
  induction r with
  | nil => simp [skipB]
  | cons c t ih =>
    unfold skipB at *
    rw [List.dropWhile_cons]
    split
    · simp only [List.length_cons]; omega
    · exact Nat.le_refl _
theorem skipB_skipB (r : List UInt8) : skipB (skipB r) = skipB r := by
  induction r with
  | nil => rfl
  | cons c t ih =>
    unfold skipB at *
    by_cases h : (c == 32) = true
    · simp only [List.dropWhile_cons, h, if_true]; exact ih
    · have h' : (c == 32) = false := by simpa using h
      simp only [List.dropWhile_cons, h']
      simp [h']
theorem moreC_le (r : List UInt8) : (moreC r).2.length ≤ r.length := by
  have h := skipB_le r
  unfold moreC
  split
  · rename_i t e; rw [e] at h; simp at h; simp; omega
  · exact h
theorem moreR_le (r : List UInt8) : (moreR r).2.length ≤ r.length := by
  have h := skipB_le r
  unfold moreR
  split
  · simp
  · rename_i c t e; rw [e] at h; exact h

/-- A reader eats something, and a tree has no more parts than were eaten; one of a kind has some. -/
def Good (kind : Int) (F : List UInt8 → Res) : Prop := ∀ r x r1, F r = .ok x r1 → r1.length < r.length ∧ x.l.length + r1.length ≤ r.length ∧ (x.k = kind → x.l ≠ [])
theorem flatK_snoc (kind : Int) (l : List Tree) (x : Tree) : flatK kind (l ++ [x]) = flatK kind l ++ (if x.k = kind then x.l else [x]) := by simp [flatK]
theorem joinK_one (kind : Int) (x : Tree) : joinK kind [x] = x := rfl
theorem joinK_more (kind : Int) (l : List Tree) (x : Tree) (h : l ≠ []) : joinK kind (l ++ [x]) = .node kind ⟨#[]⟩ (flatK kind (l ++ [x])) := by
  cases l with
  | nil => exact absurd rfl h
  | cons y l => cases l <;> rfl
end Go.Proofs.YtgmjgflifgjpmaaDoor
