/- Chapter 22: the table of an act's words. -/
import Derived.Test.YtdoogkohfjkefaaDoorScNum
import Derived.Deep.MidRow
namespace Go.Proofs.YtdoogkohfjkefaaDoor
open Go.RowKit
/-- A word of an act: the word, the kind, the command, the fields. -/
structure FormT where
  word : List UInt8
  k : Int
  b : Int
  fields : List UInt8
def formsT : List FormT := [⟨[105, 110, 115, 101, 114, 116], 0, 0, [97, 99, 110]⟩,
  ⟨[100, 101, 108, 101, 116, 101], 0, 1, [97, 99, 100]⟩,
  ⟨[115, 112, 108, 105, 116], 0, 2, [97, 99]⟩,
  ⟨[106, 111, 105, 110], 0, 3, [97, 99]⟩,
  ⟨[98, 108, 111, 99, 107], 0, 4, [97, 99, 100, 110]⟩,
  ⟨[109, 97, 114, 107], 0, 5, [97, 99, 100, 110]⟩,
  ⟨[119, 114, 97, 112], 0, 6, [97, 99, 100, 110]⟩,
  ⟨[108, 105, 102, 116], 0, 7, [97, 99]⟩,
  ⟨[115, 117, 98, 109, 105, 116], 1, 0, [97]⟩,
  ⟨[97, 115, 107], 2, 0, [97]⟩,
  ⟨[100, 101, 108, 105, 118, 101, 114], 3, 0, [97]⟩,
  ⟨[100, 114, 111, 112], 4, 0, [97]⟩,
  ⟨[116, 119, 105, 99, 101], 5, 0, [97]⟩,
  ⟨[99, 114, 97, 115, 104], 6, 0, [97]⟩,
  ⟨[115, 121, 110, 99], 8, 0, []⟩]
def FormT.cells (f : FormT) : List Value := [.string (bs f.word), .int .i64 f.k, .int .i64 f.b, .string (bs f.fields)]
def formsC : List Value := formsT.flatMap FormT.cells
theorem there_new (w : World) (C : Array Value) (t : TypeId) (n : Nat) (h : n ≤ C.size) : (w.alloc (.cells C t)).there w.heap.size 0 n := fun j hj => by
  have hb : Blk (w.alloc (.cells C t)) w.heap.size C.toList t := by
    have := Blk.new w C.toList t
    rwa [Array.toArray_toList] at this
  have h1 := hb.cell (0 + j)
  have h2 := hb.frozen (0 + j)
  refine ⟨?_, h2⟩
  rw [h1, List.getElem?_eq_getElem (by simp; omega)]
  rfl
theorem fr_setCells {M : Nat → Prop} {a : World} (b : Nat) : ∀ (vs : List Value) (o : Nat) (w : World), Fr M a w → (M b ∨ a.heap.size ≤ b) → Fr M a (w.setCells b o vs)
  | [], _, _, h, _ => h
  | v :: vs, o, _, h, hb => fr_setCells b vs (o + 1) _ (h.setCell (p := ⟨b, o, none⟩) hb v) hb
theorem ret_mid {fn : Func} {i : Nat} {ty : TypeId} (hfn : fn.results = #[.cell i ty]) {R : Ending → World → Prop} {a : Act} {W : World} {B : Nat} {cs : List Value} {d : TypeDesc} (hi : a.tmps[i]?.getD undef = .pointer (some ⟨B, 0, none⟩)) (hd : a.defers = [])
    (hr : W.rangeAt B 0 cs) (hu : Tryd.prog.underlying ty = some d) (hrow : d.isRow = true) (hsz : (Tryd.prog.info? ty).map (·.size) = some cs.length) (hR : R (.returned (.agg cs.toArray)) W) : bodyPost Tryd.prog fn R .ret a W :=
  bodyPost_ret (v := .agg cs.toArray) (by
    have h := run_loadVar_mid W B 0 ty cs d hr hu hrow hsz
    simp [results, hfn, hi, asAddr]
    rw [h]) hd hR
set_option maxRecDepth 100000 in
set_option maxHeartbeats 8000000 in
theorem forms_any (w : World) :
    Calls Tryd.prog 12 #[] w fun e w' => e = .returned (.agg formsC.toArray) ∧ Fr Nob w w' := by
  obtain ⟨w0, hw0⟩ : ∃ x, (⟨#[105, 110, 115, 101, 114, 116]⟩ : ByteArray) = x := ⟨_, rfl⟩
  obtain ⟨w1, hw1⟩ : ∃ x, (⟨#[100, 101, 108, 101, 116, 101]⟩ : ByteArray) = x := ⟨_, rfl⟩
  obtain ⟨w2, hw2⟩ : ∃ x, (⟨#[115, 112, 108, 105, 116]⟩ : ByteArray) = x := ⟨_, rfl⟩
  obtain ⟨w3, hw3⟩ : ∃ x, (⟨#[106, 111, 105, 110]⟩ : ByteArray) = x := ⟨_, rfl⟩
  obtain ⟨w4, hw4⟩ : ∃ x, (⟨#[98, 108, 111, 99, 107]⟩ : ByteArray) = x := ⟨_, rfl⟩
  obtain ⟨w5, hw5⟩ : ∃ x, (⟨#[109, 97, 114, 107]⟩ : ByteArray) = x := ⟨_, rfl⟩
  obtain ⟨w6, hw6⟩ : ∃ x, (⟨#[119, 114, 97, 112]⟩ : ByteArray) = x := ⟨_, rfl⟩
  obtain ⟨w7, hw7⟩ : ∃ x, (⟨#[108, 105, 102, 116]⟩ : ByteArray) = x := ⟨_, rfl⟩
  obtain ⟨w8, hw8⟩ : ∃ x, (⟨#[115, 117, 98, 109, 105, 116]⟩ : ByteArray) = x := ⟨_, rfl⟩
  obtain ⟨w9, hw9⟩ : ∃ x, (⟨#[97, 115, 107]⟩ : ByteArray) = x := ⟨_, rfl⟩
  obtain ⟨w10, hw10⟩ : ∃ x, (⟨#[100, 101, 108, 105, 118, 101, 114]⟩ : ByteArray) = x := ⟨_, rfl⟩
  obtain ⟨w11, hw11⟩ : ∃ x, (⟨#[100, 114, 111, 112]⟩ : ByteArray) = x := ⟨_, rfl⟩
  obtain ⟨w12, hw12⟩ : ∃ x, (⟨#[116, 119, 105, 99, 101]⟩ : ByteArray) = x := ⟨_, rfl⟩
  obtain ⟨w13, hw13⟩ : ∃ x, (⟨#[99, 114, 97, 115, 104]⟩ : ByteArray) = x := ⟨_, rfl⟩
  obtain ⟨w14, hw14⟩ : ∃ x, (⟨#[115, 121, 110, 99]⟩ : ByteArray) = x := ⟨_, rfl⟩
  obtain ⟨g0, hg0⟩ : ∃ x, (⟨#[97, 99, 110]⟩ : ByteArray) = x := ⟨_, rfl⟩
  obtain ⟨g1, hg1⟩ : ∃ x, (⟨#[97, 99, 100, 110]⟩ : ByteArray) = x := ⟨_, rfl⟩
  obtain ⟨g2, hg2⟩ : ∃ x, (⟨#[97, 99, 100]⟩ : ByteArray) = x := ⟨_, rfl⟩
  obtain ⟨g3, hg3⟩ : ∃ x, (⟨#[97, 99]⟩ : ByteArray) = x := ⟨_, rfl⟩
  obtain ⟨g4, hg4⟩ : ∃ x, (⟨#[97]⟩ : ByteArray) = x := ⟨_, rfl⟩
  obtain ⟨g5, hg5⟩ : ∃ x, (⟨#[]⟩ : ByteArray) = x := ⟨_, rfl⟩
  have hfc : formsC = [.string w0, .int .i64 0, .int .i64 0, .string g0, .string w1, .int .i64 0, .int .i64 1, .string g2, .string w2, .int .i64 0, .int .i64 2, .string g3, .string w3, .int .i64 0, .int .i64 3, .string g3, .string w4, .int .i64 0, .int .i64 4, .string g1, .string w5, .int .i64 0, .int .i64 5, .string g1, .string w6, .int .i64 0, .int .i64 6, .string g1, .string w7, .int .i64 0, .int .i64 7, .string g3, .string w8, .int .i64 1, .int .i64 0, .string g4, .string w9, .int .i64 2, .int .i64 0, .string g4, .string w10, .int .i64 3, .int .i64 0, .string g4, .string w11, .int .i64 4, .int .i64 0, .string g4, .string w12, .int .i64 5, .int .i64 0, .string g4, .string w13, .int .i64 6, .int .i64 0, .string g4, .string w14, .int .i64 8, .int .i64 0, .string g5] := by
    rw [← hw0, ← hw1, ← hw2, ← hw3, ← hw4, ← hw5, ← hw6, ← hw7, ← hw8, ← hw9, ← hw10, ← hw11, ← hw12, ← hw13, ← hw14, ← hg0, ← hg1, ← hg2, ← hg3, ← hg4, ← hg5]
    rfl
  rw [hfc]
  go_enter Tryd.func12, Tryd.ntmps12
  rw [hw0, hw1, hw2, hw3, hw4, hw5, hw6, hw7, hw8, hw9, hw10, hw11, hw12, hw13, hw14, hg0, hg1, hg2, hg3, hg4, hg5]
  clear hfc hw0 hw1 hw2 hw3 hw4 hw5 hw6 hw7 hw8 hw9 hw10 hw11 hw12 hw13 hw14 hg0 hg1 hg2 hg3 hg4 hg5
  go_wp2_with (refine wpList_store_mid (by rfl) 42 _ _ (by rfl) _ _ _ (by rfl) (by rfl) ?_ ?_ ?_ ?_)
  rotate_left
  · kernel_rfl
  · simp [Value.oneCell']
  · refine ret_mid rfl rfl rfl (World.rangeAt_setCells_same _ _ _ _ (there_new _ _ _ _ (Nat.le_of_eq rfl))) Tryd.underlying42 rfl (by kernel_rfl) ⟨rfl, ?_⟩
    exact fr_setCells _ _ _ _ ((Fr.refl Nob w).alloc _) (.inr (Nat.le_refl _))
  · exact there_new _ _ _ _ (Nat.le_of_eq rfl)
end Go.Proofs.YtdoogkohfjkefaaDoor
