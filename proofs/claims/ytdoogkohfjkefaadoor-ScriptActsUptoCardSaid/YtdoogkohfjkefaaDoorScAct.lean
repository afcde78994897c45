/- Chapter 22: an act of a line, as a plain function; 'field'. -/
import Derived.Test.YtdoogkohfjkefaaDoorScForms
import Derived.Test.YtdoogkohfjkefaaDoorScWords
import Derived.Test.YtdoogkohfjkefaaDoorScNumR
namespace Go.Proofs.YtdoogkohfjkefaaDoor
open Go.RowKit
structure ActT where
  k : Int
  a : Int
  b : Int
  c : Int
  d : Int
  n : Int
def ActT.zero : ActT := ⟨0, 0, 0, 0, 0, 0⟩
def ActT.set (t : ActT) (f : UInt8) (n : Int) : ActT := if f = 97 then { t with a := n } else if f = 99 then { t with c := n } else if f = 100 then { t with d := n } else { t with n := n }
def ActT.get (t : ActT) (f : UInt8) : Int := if f = 97 then t.a else if f = 99 then t.c else if f = 100 then t.d else t.n
def offA (f : UInt8) : Nat := if f = 97 then 1 else if f = 99 then 3 else if f = 100 then 4 else 5
def ActT.cells (t : ActT) : List Value := [.int .i64 t.k, .int .i64 t.a, .int .i64 t.b, .int .i64 t.c, .int .i64 t.d, .int .i64 t.n, .slice none 0 0]
theorem cells_set (t : ActT) (f : UInt8) (n : Int) : t.cells.set (offA f) (.int .i64 n) = (t.set f n).cells := by
  unfold offA ActT.set
  split
  · rfl
  · split
    · rfl
    · split <;> rfl
theorem cells_get (t : ActT) (f : UInt8) : t.cells[offA f]? = some (.int .i64 (t.get f)) := by
  unfold offA ActT.get
  split
  · rfl
  · split
    · rfl
    · split <;> rfl
/-- An act of numbers; none: one is none, or they are too few or too many. -/
def fillF : ActT → List UInt8 → List (List UInt8) → Option ActT
  | t, [], [] => some t
  | t, f :: fs, x :: xs => match numF x with
    | none => none
    | some n => fillF (t.set f n) fs xs
  | _, _, _ => none
def fitsF (ws : List (List UInt8)) (f : FormT) : Bool := decide (ws.head? = some f.word) && decide (ws.length = f.fields.length + 1)
/-- A line's act; none: it is none. -/
def fillO : Option FormT → List (List UInt8) → Option ActT
  | none, _ => none
  | some f, ws => fillF ⟨f.k, 0, f.b, 0, 0, 0⟩ f.fields ws.tail
def actF (s : List UInt8) : Option ActT := fillO (formsT.find? (fitsF (wordsL s))) (wordsL s)
def actT (o : Option ActT) : ActT := o.getD ActT.zero
def actE (o : Option ActT) : Int := if o.isSome then 0 else 4
set_option maxRecDepth 100000 in
theorem field_any (B : Nat) (f : UInt8) (w : World) :
    Calls Tryd.prog 14 #[.pointer (some ⟨B, 0, none⟩), .int .u8 f.toNat] w fun e w' => e = .returned (.pointer (some ⟨B, offA f, none⟩)) ∧ w' = w := by
  have e : ∀ n : UInt8, ((f.toNat : Int) == (n.toNat : Int)) = decide (f = n) := fun n => by
    rw [Bool.eq_iff_iff]
    simp only [beq_iff_eq, decide_eq_true_eq]
    exact ⟨fun h => UInt8.toNat_inj.1 (by omega), fun h => by rw [h]⟩
  have e1 := e 97
  have e2 := e 99
  have e3 := e 100
  simp only [show ((97 : UInt8).toNat : Int) = 97 from rfl, show ((99 : UInt8).toNat : Int) = 99 from rfl, show ((100 : UInt8).toNat : Int) = 100 from rfl] at e1 e2 e3
  have ho : offA f = if f = 97 then 1 else if f = 99 then 3 else if f = 100 then 4 else 5 := rfl
  have HO := Lib.hid ho
  clear ho e
  by_cases h1 : f = 97
  · have HO1 := Lib.hid (show offA f = 1 by rw [HO.out, if_pos h1])
    have k1 : ((f.toNat : Int) == 97) = true := by rw [e1]; simpa using h1
    clear e1 e2 e3 h1
    go_enter Tryd.func14, Tryd.ntmps14
    go_wp2_with fail
    go_ret
    exact ⟨by rw [HO1.out]; rfl, rfl⟩
  · have k1 : ((f.toNat : Int) == 97) = false := by rw [e1]; simpa using h1
    by_cases h2 : f = 99
    · have HO1 := Lib.hid (show offA f = 3 by rw [HO.out, if_neg h1, if_pos h2])
      have k2 : ((f.toNat : Int) == 99) = true := by rw [e2]; simpa using h2
      clear e1 e2 e3 h1 h2
      go_enter Tryd.func14, Tryd.ntmps14
      go_wp2_with fail
      go_ret
      exact ⟨by rw [HO1.out]; rfl, rfl⟩
    · have k2 : ((f.toNat : Int) == 99) = false := by rw [e2]; simpa using h2
      by_cases h3 : f = 100
      · have HO1 := Lib.hid (show offA f = 4 by rw [HO.out, if_neg h1, if_neg h2, if_pos h3])
        have k3 : ((f.toNat : Int) == 100) = true := by rw [e3]; simpa using h3
        clear e1 e2 e3 h1 h2 h3
        go_enter Tryd.func14, Tryd.ntmps14
        go_wp2_with fail
        go_ret
        exact ⟨by rw [HO1.out]; rfl, rfl⟩
      · have HO1 := Lib.hid (show offA f = 5 by rw [HO.out, if_neg h1, if_neg h2, if_neg h3])
        have k3 : ((f.toNat : Int) == 100) = false := by rw [e3]; simpa using h3
        clear e1 e2 e3 h1 h2 h3
        go_enter Tryd.func14, Tryd.ntmps14
        go_wp2_with fail
        go_ret
        exact ⟨by rw [HO1.out]; rfl, rfl⟩
theorem index_form (k : Nat) (hk : k < 15) : ∃ f, formsT[k]? = some f ∧ ∀ (W : World), (Instr.index 42 (.agg formsC.toArray) (.int .i64 k)).run Tryd.prog W = .ok (.agg #[.string (bs f.word), .int .i64 f.k, .int .i64 f.b, .string (bs f.fields)]) W := by
  have h : k = 0 ∨ k = 1 ∨ k = 2 ∨ k = 3 ∨ k = 4 ∨ k = 5 ∨ k = 6 ∨ k = 7 ∨ k = 8 ∨ k = 9 ∨ k = 10 ∨ k = 11 ∨ k = 12 ∨ k = 13 ∨ k = 14 := by omega
  rcases h with rfl | rfl | rfl | rfl | rfl | rfl | rfl | rfl | rfl | rfl | rfl | rfl | rfl | rfl | rfl
  all_goals exact ⟨_, rfl, fun W => by kernel_rfl⟩
end Go.Proofs.YtdoogkohfjkefaaDoor
