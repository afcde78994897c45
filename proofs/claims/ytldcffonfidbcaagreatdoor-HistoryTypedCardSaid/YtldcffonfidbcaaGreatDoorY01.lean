/- A part of the proof for chapter 10: Law, CardLaid, Base, Rd, ExprTree, ExprSize, ExprNext, ExprSpec, ExprSomeP; no conditions. -/
import Derived.Test.YtldcffonfidbcaaGreatDoorProg
import Derived.WalkKit
import Derived.ProofKit
import Derived.OpenShut
import Derived.Carry
import Derived.Lib.SmallJoins
import Derived.Deep.Slices
import Derived.Deep.Fields
import Derived.Test.YtldcffonfidbcaaGreatDoorRows
import Derived.ChangeSame
import Derived.ChangeVars
import Derived.JoinedOf
import Derived.RowKit
import Derived.RowKitTokens
import Derived.LaidLaws
import Derived.LaidHandle
import Derived.Stop.Joined
import Derived.WalkSpells
import Derived.WalkLawsBesides
import Derived.Deep.QuietTactic
import Derived.BigQuiet
import Derived.Deep.LoopGhost
import Derived.Lib.Hide
import Derived.Maps.AppendAt
import Derived.StillTailTactics
import Derived.Deep.RegionWith
/- From a contract to the row: arguments that are only read read behind the call as they did; structs by value, opened. -/
namespace Go.Proofs.YtldcffonfidbcaaGreatDoor
open Go.Joins Go.ChangeShapes Go.WideShapes Go.ChangeAt Go.RowKit Go.Deep

section
variable {H : Type} {enc : TypeId × Value → H} {P : Program}
theorem trodAll_below (hl : laidOutB P = true) {W W' : World} (hb : Below W.heap.size W W') : ∀ (ts : List TypeId) (vs : List Value) (ds : List (DataW H)) (ps : List MemPlace), (ts.all fun t => P.readableRec t && decide (t < P.types.size)) = true →
    DataW.TrodAll enc P W 0 (fun _ => true) true ts vs ds ps → (∀ x ∈ ps, x.block < W.heap.size) → DataW.TrodAll enc P W' 0 (fun b => decide (b < W.heap.size)) true ts vs ds ps
  | [], vs, ds, ps, _, h, _ => by
    obtain ⟨rfl, rfl, rfl⟩ := trodAll_nil h
    exact trodAll_mk0
  | t :: ts, vs, ds, ps, ht, h, hlt => by
    obtain ⟨v, vs', d, ds', p, p', rfl, rfl, rfl, h0, h1⟩ := trodAll_cons h
    simp only [List.all_cons, Bool.and_eq_true, decide_eq_true_eq] at ht
    exact trodAll_cons_mk (Below.trod hl ht.1.1 ht.1.2 h0 hb (fun x hx => hlt x (List.mem_append.2 (.inl hx)))) (trodAll_below hl hb ts vs' ds' p' ht.2 h1 (fun x hx => hlt x (List.mem_append.2 (.inr hx))))
variable {w : World} {base : Nat} {spare : Nat → Bool} {held : Bool}
end
end Go.Proofs.YtldcffonfidbcaaGreatDoor

/- Rows that list errors.errorType: what the condition gives; a world that meets it. (Lines of the worked proof ToyasProofs, turned to this program.) -/
namespace Go.Proofs.YtldcffonfidbcaaGreatDoor
open Go.ChangeShapes Go.WideShapes Go.RowKit

theorem own : ownKnob Tryz.prog.godebug = none := by kernel_rfl
theorem laidOut : laidOutB Tryz.prog = true := by kernel_rfl
theorem et : Tryz.prog.globalNamed "errors.errorType" = some 0 := by kernel_rfl
theorem rt : (Tryz.prog.cutTypes.find? (·.1 == "internal/reflectlite.rtype")).map (·.2) = some 262 := by kernel_rfl
theorem oneRow : ((List.range Tryz.prog.types.size).filter fun t => Tryz.prog.rowNamed t [101, 114, 114, 111, 114]) = [142] := by kernel_rfl
/-- The list that the rows have. -/
def theLaid : List (String × DataW Unit) := [("errors.errorType", Rows.laid_errors_errorType)]

/-- What the condition gives a walk: the variable's one cell. -/
theorem handle_of_laid {W : World} (h : laidMetH Tryz.prog theLaid W) : W.cell? ⟨0, 0, none⟩ = some (.iface 262 (.agg #[typeHandle Tryz.prog 142])) := by
  have h' : laidMet Tryz.prog [] W ∧ handlesMet Tryz.prog theLaid W := h
  obtain ⟨name, u, ty, e1, e2, e3, e4, e5⟩ := h'.2 _ (List.mem_singleton.2 rfl)
  have en : name = [101, 114, 114, 111, 114] := (Option.some.inj e1).symm
  subst en
  obtain rfl := Option.some.inj (rt.symm.trans e2)
  have hm : ty ∈ (List.range Tryz.prog.types.size).filter fun t => Tryz.prog.rowNamed t [101, 114, 114, 111, 114] := List.mem_filter.2 ⟨List.mem_range.2 e3, e4⟩
  rw [oneRow] at hm
  obtain rfl := List.mem_singleton.1 hm
  simpa using World.var?_cell et e5 0

/-- A world that meets the condition: the settled one, the variable's cell laid. -/
noncomputable def laidWorld (os : Os) : World :=
  let w0 := World.holding Tryz.prog os ⟨#[], #[], []⟩
  { w0 with heap := w0.heap.modify 0 fun
      | .cells _ t frozen => .cells #[.iface 262 (.agg #[typeHandle Tryz.prog 142])] t frozen
      | o => o }
theorem laidWorld_met (os : Os) (args : Array Value) : laidMetH Tryz.prog theLaid ((laidWorld os).forCall (fun _ _ => 0) ⟨#[], args, []⟩).memory :=
  laidMetH_of_parts (laidMet_nil _ _) (by kernel_rfl)
end Go.Proofs.YtldcffonfidbcaaGreatDoor

/- Frames: what a call may have turned in memory; a block that is known; small facts about worlds. -/
namespace Go.Proofs.YtldcffonfidbcaaGreatDoor
open Go.RowKit

/-- The world has grown; of the old blocks only those of M may have turned. -/
structure Fr (M : Nat → Prop) (w w' : World) : Prop where
  os : w'.os = w.os
  tape : w'.tape = w.tape
  output : w'.output = w.output
  size : w.heap.size ≤ w'.heap.size
  block : ∀ k, k < w.heap.size → ¬ M k → w'.heap[k]? = w.heap[k]?

/-- No block. -/
def Nob : Nat → Prop := fun _ => False
/-- One block. -/
def One (g : Nat) : Nat → Prop := fun k => k = g

theorem Fr.refl (M : Nat → Prop) (w : World) : Fr M w w := ⟨rfl, rfl, rfl, Nat.le_refl _, fun _ _ _ => rfl⟩
theorem Fr.trans {M M' : Nat → Prop} {a b c : World} (h : Fr M a b) (k : Fr M' b c) (hM : ∀ k, k < a.heap.size → M' k → M k) : Fr M a c :=
  ⟨k.os.trans h.os, k.tape.trans h.tape, k.output.trans h.output, Nat.le_trans h.size k.size, fun i hi hn => (k.block i (Nat.lt_of_lt_of_le hi h.size) (fun hm => hn (hM i hi hm))).trans (h.block i hi hn)⟩
theorem Fr.same {M : Nat → Prop} {a b c : World} (h : Fr M a b) (k : Fr M b c) : Fr M a c := h.trans k (fun _ _ h => h)
theorem Fr.none {M : Nat → Prop} {a b c : World} (h : Fr M a b) (k : Fr Nob b c) : Fr M a c := h.trans k (fun _ _ h => h.elim)
theorem Fr.mono {M M' : Nat → Prop} {a b : World} (h : Fr M a b) (hM : ∀ k, k < a.heap.size → M k → M' k) : Fr M' a b :=
  ⟨h.os, h.tape, h.output, h.size, fun i hi hn => h.block i hi (fun hm => hn (hM i hi hm))⟩
theorem Fr.any {M : Nat → Prop} {a b : World} (h : Fr Nob a b) : Fr M a b := h.mono (fun _ _ h => h.elim)
theorem Fr.alloc {M : Nat → Prop} {a w : World} (h : Fr M a w) (o : Obj) : Fr M a (w.alloc o) :=
  h.none ⟨rfl, rfl, rfl, by simp, fun k hk _ => Below.heap_alloc _ _ _ hk⟩
theorem Fr.setCell {M : Nat → Prop} {a w : World} (h : Fr M a w) {p : Addr} (hp : M p.block ∨ a.heap.size ≤ p.block) (u : Value) : Fr M a (w.setCell p u) :=
  h.trans (M' := One p.block) ⟨rfl, rfl, rfl, by simp [World.setCell], fun k _ hn => Below.heap_setCell _ _ _ _ hn⟩ (fun k hk hm => by
    have : k = p.block := hm
    subst this
    exact hp.resolve_right (by omega))
theorem Fr.drew {M : Nat → Prop} {a w : World} (h : Fr M a w) : Fr M a w.drew := ⟨h.os, h.tape, h.output, h.size, h.block⟩
theorem Fr.drewN {M : Nat → Prop} {a w : World} (h : Fr M a w) (n : Nat) : Fr M a (w.drewN n) := ⟨h.os, h.tape, h.output, h.size, h.block⟩
theorem Fr.of_below {w w' : World} (h : Below w.heap.size w w') : Fr Nob w w' := ⟨h.os, h.tape, h.output, h.size, fun k hk _ => h.block k hk⟩
theorem Fr.below {w w' : World} (h : Fr Nob w w') : Below w.heap.size w w' := ⟨h.os, h.tape, h.output, h.size, fun k hk => h.block k hk (fun h => h)⟩
theorem Fr.cell {M : Nat → Prop} {w w' : World} (h : Fr M w w') {p : Addr} (hp : p.block < w.heap.size) (hn : ¬ M p.block) : w'.cell? p = w.cell? p := World.cell?_of_block (w := w) (h.block p.block hp hn)
theorem Fr.frozen {M : Nat → Prop} {w w' : World} (h : Fr M w w') {p : Addr} (hp : p.block < w.heap.size) (hn : ¬ M p.block) : w'.frozen? p = w.frozen? p := World.frozen?_of_block (w := w) (h.block p.block hp hn)
theorem lt_of_blk {w : World} {g : Nat} {o : Obj} (h : w.heap[g]? = some o) : g < w.heap.size := (Array.getElem?_eq_some_iff.1 h).1
theorem Fr.blk {M : Nat → Prop} {w w' : World} (h : Fr M w w') {g : Nat} {o : Obj} (hb : w.heap[g]? = some o) (hn : ¬ M g) : w'.heap[g]? = some o := (h.block g (lt_of_blk hb) hn).trans hb
theorem cell_lt {w : World} {a : Addr} {v : Value} (h : w.cell? a = some v) : a.block < w.heap.size := World.block_lt_of_cell? w a h
/-- A block of cells that is known whole, and not frozen. -/
def Blk (w : World) (g : Nat) (cs : List Value) (t : TypeId) : Prop := w.heap[g]? = some (.cells cs.toArray t (0, 0))
theorem Blk.lt {w : World} {g : Nat} {cs : List Value} {t : TypeId} (h : Blk w g cs t) : g < w.heap.size := lt_of_blk h
theorem Blk.cell {w : World} {g : Nat} {cs : List Value} {t : TypeId} (h : Blk w g cs t) (i : Nat) : w.cell? ⟨g, i, none⟩ = cs[i]? := by
  rw [cell_of_row w g i cs.toArray t (0, 0) h]; simp
theorem Blk.frozen {w : World} {g : Nat} {cs : List Value} {t : TypeId} (h : Blk w g cs t) (i : Nat) : w.frozen? ⟨g, i, none⟩ = false := by
  have h' : w.heap[g]? = some (.cells cs.toArray t (0, 0)) := h
  simp [World.frozen?, h']
theorem Blk.fr {M : Nat → Prop} {w w' : World} {g : Nat} {cs : List Value} {t : TypeId} (h : Blk w g cs t) (hf : Fr M w w') (hn : ¬ M g) : Blk w' g cs t := hf.blk h hn
theorem Blk.set {w : World} {g : Nat} {cs : List Value} {t : TypeId} (h : Blk w g cs t) (i : Nat) (u : Value) : Blk (w.setCell ⟨g, i, none⟩ u) g (cs.set i u) t := by
  have h' : w.heap[g]? = some (.cells cs.toArray t (0, 0)) := h
  simp [Blk, World.setCell, Array.getElem?_modify, h']
theorem Blk.far {w : World} {g : Nat} {cs : List Value} {t : TypeId} (h : Blk w g cs t) {p : Addr} (hp : g ≠ p.block) (u : Value) : Blk (w.setCell p u) g cs t := (Below.heap_setCell w p u g hp).trans h
theorem Blk.alloc {w : World} {g : Nat} {cs : List Value} {t : TypeId} (h : Blk w g cs t) (o : Obj) : Blk (w.alloc o) g cs t := (Below.heap_alloc w o g h.lt).trans h
theorem Blk.drew {w : World} {g : Nat} {cs : List Value} {t : TypeId} (h : Blk w g cs t) : Blk w.drew g cs t := h
theorem Blk.drewN {w : World} {g : Nat} {cs : List Value} {t : TypeId} (h : Blk w g cs t) (n : Nat) : Blk (w.drewN n) g cs t := h
theorem Blk.new (w : World) (cs : List Value) (t : TypeId) : Blk (w.alloc (.cells cs.toArray t)) w.heap.size cs t := by
  show (w.heap.push _)[w.heap.size]? = _
  simp
theorem Blk.new_at (w : World) (cs : List Value) (t : TypeId) (n : Nat) (h : n = w.heap.size) : Blk (w.alloc (.cells cs.toArray t)) n cs t := by
  subst h
  exact Blk.new w cs t
theorem fr_store3 (w : World) (B : Nat) (a b c : Value) : Fr (One B) w (((w.setCell ⟨B, 0, none⟩ a).setCell ⟨B, 1, none⟩ b).setCell ⟨B, 2, none⟩ c) :=
  (((Fr.refl (One B) w).setCell (p := ⟨B, 0, none⟩) (.inl rfl) a).setCell (p := ⟨B, 1, none⟩) (.inl rfl) b).setCell (p := ⟨B, 2, none⟩) (.inl rfl) c
end Go.Proofs.YtldcffonfidbcaaGreatDoor

/- Rows of cells that are read: what stays, elements, a row of one's own as one that is read; append. -/
namespace Go.Proofs.YtldcffonfidbcaaGreatDoor
open Go.RowKit

theorem add_block (a : Addr) (n : Nat) : (a.add n).block = a.block := by unfold Addr.add; split <;> rfl
theorem add_of_add (a : Addr) (i j : Nat) : (a.add i).add j = a.add (i + j) := by
  unfold Addr.add
  by_cases hi : i = 0 <;> by_cases hj : j = 0 <;> simp [hi, hj, Nat.add_assoc]
theorem add_lit (g i : Nat) : (⟨g, 0, none⟩ : Addr).add i = ⟨g, i, none⟩ := by unfold Addr.add; split <;> simp_all
/-- The row at A (nil: it is empty) holds the cells xs, outside of the blocks of M. -/
def Rd (M : Nat → Prop) (w : World) (A : Option Addr) (xs : List Value) : Prop :=
  xs ≠ [] → ∃ ad, A = some ad ∧ ¬ M ad.block ∧ ∀ j u, xs[j]? = some u → w.cell? (ad.add j) = some u
theorem Rd.nil (M : Nat → Prop) (w : World) (A : Option Addr) : Rd M w A [] := fun h => absurd rfl h
theorem Rd.fr {M M' : Nat → Prop} {w w' : World} {A : Option Addr} {xs : List Value} (h : Rd M w A xs) (hf : Fr M' w w') (hM : ∀ k, k < w.heap.size → M' k → M k) : Rd M w' A xs := fun hx => by
  obtain ⟨ad, e, hn, hc⟩ := h hx
  exact ⟨ad, e, hn, fun j u hu => by
    have := hc j u hu
    have hl := cell_lt this
    rw [add_block] at hl
    exact (hf.cell (by rw [add_block]; exact hl) (by rw [add_block]; exact fun hm => hn (hM _ hl hm))).trans this⟩
theorem Rd.bound {M : Nat → Prop} {w : World} {A : Option Addr} {xs : List Value} (h : Rd M w A xs) : Rd (fun k => M k ∨ w.heap.size ≤ k) w A xs := fun hx => by
  obtain ⟨ad, e, hn, hc⟩ := h hx
  refine ⟨ad, e, ?_, hc⟩
  cases xs with
  | nil => exact absurd rfl hx
  | cons x xs =>
    have hl := cell_lt (hc 0 x rfl)
    rw [add_block] at hl
    rintro (hm | hm)
    · exact hn hm
    · omega
theorem Rd.mono {M M' : Nat → Prop} {w : World} {A : Option Addr} {xs : List Value} (h : Rd M w A xs) (hM : ∀ k, M' k → M k) : Rd M' w A xs := fun hx => by
  obtain ⟨ad, e, hn, hc⟩ := h hx
  exact ⟨ad, e, fun hm => hn (hM _ hm), hc⟩
theorem Rd.lt {M : Nat → Prop} {w : World} {ad : Addr} {xs : List Value} (h : Rd M w (some ad) xs) (hx : xs ≠ []) : ad.block < w.heap.size := by
  obtain ⟨ad', e, hn, hc⟩ := h hx
  injection e with e
  subst e
  cases xs with
  | nil => exact absurd rfl hx
  | cons x xs =>
    have hl := cell_lt (hc 0 x rfl)
    rwa [add_block] at hl
theorem Rd.at_ {M : Nat → Prop} {w : World} {A : Option Addr} {xs : List Value} (h : Rd M w A xs) {j : Nat} (hj : j < xs.length) : ∃ ad, A = some ad ∧ ¬ M ad.block ∧ w.cell? (ad.add j) = some xs[j] := by
  obtain ⟨ad, e, hn, hc⟩ := h (by rintro rfl; simp at hj)
  exact ⟨ad, e, hn, hc j _ (List.getElem?_eq_getElem hj)⟩
theorem Rd.take {M : Nat → Prop} {w : World} {A : Option Addr} {xs : List Value} (h : Rd M w A xs) (n : Nat) : Rd M w A (xs.take n) := fun hx => by
  obtain ⟨ad, e, hn, hc⟩ := h (by rintro rfl; simp at hx)
  refine ⟨ad, e, hn, fun j u hu => hc j u ?_⟩
  rw [List.getElem?_take] at hu
  split at hu
  · exact hu
  · cases hu
theorem own_base {w : World} {base : Nat} {e : TypeId} {size n : Nat} {v : Value} {xs : List Value} (h : w.ownsRow base e size v n xs) : ∀ k, v.ownBlock = some k → base ≤ k ∧ k < w.heap.size := World.ownsRow.lt h
theorem Rd.of_own {M : Nat → Prop} {w : World} {base : Nat} {e : TypeId} {size n : Nat} {v : Value} {xs : List Value} (h : w.ownsRow base e size v n xs) (hM : ∀ k, v.ownBlock = some k → ¬ M k) :
    ∃ A c, v = .slice A n c ∧ n ≤ c ∧ Rd M w A xs := by
  rcases h.2 with ⟨rfl, rfl⟩ | ⟨g, cap, cur, rfl, hg, hh, hn, r⟩
  · refine ⟨none, 0, rfl, Nat.le_refl _, ?_⟩
    have := h.1
    simp only [Nat.zero_mul, List.length_eq_zero_iff] at this
    subst this
    exact Rd.nil _ _ _
  · exact ⟨_, cap, rfl, hn, fun _ => ⟨_, rfl, hM g rfl, h.cells (g := g) rfl⟩⟩
theorem own_fr {M : Nat → Prop} {w w' : World} {base : Nat} {e : TypeId} {size n : Nat} {v : Value} {xs : List Value} (h : w.ownsRow base e size v n xs) (hf : Fr M w w') (hM : ∀ k, v.ownBlock = some k → ¬ M k) : w'.ownsRow base e size v n xs := by
  refine ⟨h.1, ?_⟩
  rcases h.2 with h2 | ⟨g, cap, cur, rfl, hg, hh, r⟩
  · exact .inl h2
  · exact .inr ⟨g, cap, cur, rfl, hg, hf.blk hh (hM g rfl), r⟩
/-- What append's law leaves. -/
theorem Fr.of_grown {w w' : World} {row : Option Nat} (h : w.grownBy w' row) : Fr (fun k => some k = row) w w' := ⟨h.os, h.tape, h.output, h.size, fun k hk hn => h.block k hk hn⟩
end Go.Proofs.YtldcffonfidbcaaGreatDoor

/- Trees of expressions in memory. -/
namespace Go.Proofs.YtldcffonfidbcaaGreatDoor
open Go.RowKit

inductive Tree where
  | node (k : Int) (name : ByteArray) (l : List Tree)
def Tree.k : Tree → Int | .node k _ _ => k
def Tree.name : Tree → ByteArray | .node _ n _ => n
def Tree.l : Tree → List Tree | .node _ _ l => l

mutual
/-- The three cells of a tree. -/
def ERep (M : Nat → Prop) (w : World) : Tree → List Value → Prop
  | .node k n l, cs => ∃ A c css, cs = [.int .i64 k, .string n, .slice A l.length c] ∧ l.length ≤ c ∧ Rd M w A css ∧ EReps M w l css
/-- The cells of trees, one behind the other. -/
def EReps (M : Nat → Prop) (w : World) : List Tree → List Value → Prop
  | [], css => css = []
  | x :: xs, css => ∃ c0 c1 c2 rest, css = c0 :: c1 :: c2 :: rest ∧ ERep M w x [c0, c1, c2] ∧ EReps M w xs rest
end

mutual
theorem ERep.fr {M M' : Nat → Prop} {w w' : World} (hf : Fr M' w w') (hM : ∀ k, k < w.heap.size → M' k → M k) : ∀ (x : Tree) (cs : List Value), ERep M w x cs → ERep M w' x cs
  | .node k n l, cs => by
    simp only [ERep]
    rintro ⟨A, c, css, rfl, hl, hr, h⟩
    exact ⟨A, c, css, rfl, hl, hr.fr hf hM, EReps.fr hf hM l css h⟩
theorem EReps.fr {M M' : Nat → Prop} {w w' : World} (hf : Fr M' w w') (hM : ∀ k, k < w.heap.size → M' k → M k) : ∀ (l : List Tree) (cs : List Value), EReps M w l cs → EReps M w' l cs
  | [], cs => by simp only [EReps]; exact id
  | x :: xs, cs => by
    simp only [EReps]
    rintro ⟨c0, c1, c2, rest, rfl, hx, hs⟩
    exact ⟨c0, c1, c2, rest, rfl, ERep.fr hf hM x _ hx, EReps.fr hf hM xs rest hs⟩
end
mutual
theorem ERep.mono {M M' : Nat → Prop} {w : World} (hM : ∀ k, M' k → M k) : ∀ (x : Tree) (cs : List Value), ERep M w x cs → ERep M' w x cs
  | .node k n l, cs => by
    simp only [ERep]
    rintro ⟨A, c, css, rfl, hl, hr, h⟩
    exact ⟨A, c, css, rfl, hl, hr.mono hM, EReps.mono hM l css h⟩
theorem EReps.mono {M M' : Nat → Prop} {w : World} (hM : ∀ k, M' k → M k) : ∀ (l : List Tree) (cs : List Value), EReps M w l cs → EReps M' w l cs
  | [], cs => by simp only [EReps]; exact id
  | x :: xs, cs => by
    simp only [EReps]
    rintro ⟨c0, c1, c2, rest, rfl, hx, hs⟩
    exact ⟨c0, c1, c2, rest, rfl, ERep.mono hM x _ hx, EReps.mono hM xs rest hs⟩
end
mutual
theorem ERep.bound {M : Nat → Prop} {w : World} : ∀ (x : Tree) (cs : List Value), ERep M w x cs → ERep (fun k => M k ∨ w.heap.size ≤ k) w x cs
  | .node k n l, cs => by
    simp only [ERep]
    rintro ⟨A, c, css, rfl, hl, hr, h⟩
    exact ⟨A, c, css, rfl, hl, hr.bound, EReps.bound l css h⟩
theorem EReps.bound {M : Nat → Prop} {w : World} : ∀ (l : List Tree) (cs : List Value), EReps M w l cs → EReps (fun k => M k ∨ w.heap.size ≤ k) w l cs
  | [], cs => by simp only [EReps]; exact id
  | x :: xs, cs => by
    simp only [EReps]
    rintro ⟨c0, c1, c2, rest, rfl, hx, hs⟩
    exact ⟨c0, c1, c2, rest, rfl, ERep.bound x _ hx, EReps.bound xs rest hs⟩
end
theorem EReps.len {M : Nat → Prop} {w : World} : ∀ (l : List Tree) (cs : List Value), EReps M w l cs → cs.length = l.length * 3
  | [], cs => by simp only [EReps]; rintro rfl; rfl
  | x :: xs, cs => by
    simp only [EReps]
    rintro ⟨c0, c1, c2, rest, rfl, hx, hs⟩
    have := EReps.len xs rest hs
    simp only [List.length_cons]
    omega
theorem EReps.append {M : Nat → Prop} {w : World} : ∀ (l l' : List Tree) (cs cs' : List Value), EReps M w l cs → EReps M w l' cs' → EReps M w (l ++ l') (cs ++ cs')
  | [], l', cs, cs' => by simp only [EReps]; rintro rfl h; exact h
  | x :: xs, l', cs, cs' => by
    simp only [EReps, List.cons_append]
    rintro ⟨c0, c1, c2, rest, rfl, hx, hs⟩ h
    exact ⟨c0, c1, c2, rest ++ cs', rfl, hx, EReps.append xs l' rest cs' hs h⟩
theorem EReps.one {M : Nat → Prop} {w : World} {x : Tree} {cs : List Value} (h : ERep M w x cs) : EReps M w [x] cs := by
  cases x with
  | node k n l =>
    have h' := h
    simp only [ERep] at h
    obtain ⟨A, c, css, rfl, hl, hr, h⟩ := h
    simp only [EReps]
    exact ⟨_, _, _, [], rfl, h', rfl⟩
theorem ERep.open_ {M : Nat → Prop} {w : World} {x : Tree} {cs : List Value} (h : ERep M w x cs) : ∃ A c css, cs = [.int .i64 x.k, .string x.name, .slice A x.l.length c] ∧ x.l.length ≤ c ∧ Rd M w A css ∧ EReps M w x.l css := by
  cases x with
  | node k n l =>
    simp only [ERep] at h
    exact h
theorem ERep.mk {M : Nat → Prop} {w : World} {k : Int} {n : ByteArray} {l : List Tree} {A : Option Addr} {c : Nat} {css : List Value} (hl : l.length ≤ c) (hr : Rd M w A css) (h : EReps M w l css) : ERep M w (.node k n l) [.int .i64 k, .string n, .slice A l.length c] := by
  simp only [ERep]
  exact ⟨A, c, css, rfl, hl, hr, h⟩
theorem ERep.empty (M : Nat → Prop) (w : World) (k : Int) (n : ByteArray) : ERep M w (.node k n []) [.int .i64 k, .string n, .slice none 0 0] := ERep.mk (l := []) (Nat.zero_le _) (Rd.nil _ _ _) (by simp [EReps])
/-- Every cell is one cell. -/
theorem EReps.one_cells {M : Nat → Prop} {w : World} : ∀ (l : List Tree) (cs : List Value), EReps M w l cs → ∀ u ∈ cs, u.oneCell' = true
  | [], cs => by simp only [EReps]; rintro rfl u hu; cases hu
  | .node k n l :: xs, cs => by
    simp only [EReps]
    rintro ⟨c0, c1, c2, rest, rfl, hx, hs⟩ u hu
    obtain ⟨A, c, css, e, _⟩ := hx.open_
    injection e with e0 e
    injection e with e1 e
    injection e with e2 e
    subst e0 e1 e2
    simp only [List.mem_cons] at hu
    rcases hu with rfl | rfl | rfl | hu
    · rfl
    · rfl
    · rfl
    · exact EReps.one_cells xs rest hs u hu
theorem EReps.fr0 {M : Nat → Prop} {w w' : World} {l : List Tree} {cs : List Value} (h : EReps M w l cs) (hf : Fr M w w') : EReps M w' l cs := EReps.fr hf (fun _ _ h => h) l cs h
theorem ERep.fr0 {M : Nat → Prop} {w w' : World} {x : Tree} {cs : List Value} (h : ERep M w x cs) (hf : Fr M w w') : ERep M w' x cs := ERep.fr hf (fun _ _ h => h) x cs h

/-- A row of trees of the call's own (blocks from base on); what the trees lead to is not in it, and not in M. -/
def OwnT (M : Nat → Prop) (w : World) (base : Nat) (v : Value) (l : List Tree) : Prop :=
  ∃ css, w.ownsRow base 82 3 v l.length css ∧ EReps (fun k => M k ∨ some k = v.ownBlock) w l css
theorem OwnT.nil (M : Nat → Prop) (w : World) (base : Nat) : OwnT M w base (.slice none 0 0) [] := ⟨[], World.ownsRow_nil _ _ _ _, by simp [EReps]⟩
theorem OwnT.fr {M M' : Nat → Prop} {w w' : World} {base : Nat} {v : Value} {l : List Tree} (h : OwnT M w base v l) (hf : Fr M' w w') (hM : ∀ k, M' k → M k) (hv : ∀ k, v.ownBlock = some k → ¬ M' k) : OwnT M w' base v l := by
  obtain ⟨css, ho, hr⟩ := h
  exact ⟨css, own_fr ho hf hv, EReps.fr hf (fun k _ hm => .inl (hM k hm)) _ _ hr⟩
theorem OwnT.slice {M : Nat → Prop} {w : World} {base : Nat} {v : Value} {l : List Tree} (h : OwnT M w base v l) : ∃ A c, v = .slice A l.length c := by
  obtain ⟨css, ho, hr⟩ := h
  obtain ⟨A, c, e, _⟩ := Rd.of_own (M := Nob) ho (fun _ _ h => h)
  exact ⟨A, c, e⟩
theorem OwnT.rep {M : Nat → Prop} {w : World} {base : Nat} {v : Value} {l : List Tree} (h : OwnT M w base v l) (hM : ∀ k, v.ownBlock = some k → ¬ M k) (k : Int) (n : ByteArray) : ERep M w (.node k n l) [.int .i64 k, .string n, v] := by
  obtain ⟨css, ho, hr⟩ := h
  obtain ⟨A, c, rfl, hc, hR⟩ := Rd.of_own ho hM
  exact ERep.mk hc hR (EReps.mono (fun k hk => .inl hk) _ _ hr)
theorem OwnT.appended {M : Nat → Prop} {w w' : World} {base : Nat} {v v' : Value} {l l' : List Tree} {css news : List Value} (hr : EReps (fun k => M k ∨ some k = v.ownBlock) w l css)
    (hn : EReps (fun k => M k ∨ some k = v.ownBlock) w l' news) (ho : w'.ownsRow base 82 3 v' (l.length + l'.length) (css ++ news)) (hg : w.grownBy w' v.ownBlock) (hat : v'.ownBlock = v.ownBlock ∨ v'.ownBlock = some w.heap.size) : OwnT M w' base v' (l ++ l') := by
  refine ⟨css ++ news, by rw [List.length_append]; exact ho, ?_⟩
  have h1 := EReps.fr (M' := fun k => some k = v.ownBlock) (Fr.of_grown hg) (fun k _ hk => .inl (.inr hk)) _ _ (EReps.append _ _ _ _ hr hn).bound
  refine EReps.mono (fun k hk => ?_) _ _ h1
  rcases hk with hk | hk
  · exact .inl (.inl hk)
  · rcases hat with h | h
    · exact .inl (.inr (by rw [hk, h]))
    · rw [h] at hk
      injection hk with hk
      exact .inr (by omega)
end Go.Proofs.YtldcffonfidbcaaGreatDoor

/- 'size': how many there are in a tree, and how many within one another. -/
namespace Go.Proofs.YtldcffonfidbcaaGreatDoor
open Go.RowKit
mutual
def Tree.count : Tree → Nat | .node _ _ l => countL l + 1
def countL : List Tree → Nat | [] => 0 | x :: xs => x.count + countL xs
end
mutual
def Tree.deep : Tree → Nat | .node _ _ l => deepL l + 1
def deepL : List Tree → Nat | [] => 0 | x :: xs => max x.deep (deepL xs)
end
theorem count_eq (x : Tree) : x.count = countL x.l + 1 := by cases x; simp [Tree.count, Tree.l]
theorem deep_eq (x : Tree) : x.deep = deepL x.l + 1 := by cases x; simp [Tree.deep, Tree.l]
theorem countL_snoc (l : List Tree) (x : Tree) : countL (l ++ [x]) = countL l + x.count := by
  induction l with
  | nil => simp [countL]
  | cons y l ih => simp only [List.cons_append, countL, ih]; omega
theorem deepL_snoc (l : List Tree) (x : Tree) : deepL (l ++ [x]) = max (deepL l) x.deep := by
  induction l with
  | nil => simp [deepL]
  | cons y l ih => simp only [List.cons_append, deepL, ih]; omega
theorem countL_take (l : List Tree) (i : Nat) (hi : i < l.length) : countL (l.take (i + 1)) = countL (l.take i) + l[i].count := by
  rw [List.take_succ_eq_append_getElem hi, countL_snoc]
theorem deepL_take (l : List Tree) (i : Nat) (hi : i < l.length) : deepL (l.take (i + 1)) = max (deepL (l.take i)) l[i].deep := by
  rw [List.take_succ_eq_append_getElem hi, deepL_snoc]
theorem countL_le (l : List Tree) (i : Nat) : countL (l.take i) ≤ countL l := by
  induction l generalizing i with
  | nil => simp
  | cons y l ih => cases i with
    | zero => simp [countL]
    | succ i => simp only [List.take_succ_cons, countL]; have := ih i; omega
theorem count_lt_of_mem (l : List Tree) (i : Nat) (hi : i < l.length) : l[i].count ≤ countL l := by
  have := countL_le l (i + 1)
  rw [countL_take l i hi] at this
  omega
theorem len_le_countL (l : List Tree) : l.length ≤ countL l := by
  induction l with
  | nil => simp
  | cons x l ih => simp only [List.length_cons, countL]; have := count_eq x; omega
theorem deepL_of (n : Nat) : ∀ l : List Tree, (∀ x ∈ l, x.deep ≤ x.count) → deepL l ≤ countL l
  | [], _ => by simp [deepL]
  | x :: l, h => by
    have := deepL_of n l (fun y hy => h y (List.mem_cons_of_mem _ hy))
    have := h x (List.mem_cons_self ..)
    simp only [deepL, countL]; omega
theorem deep_le : ∀ x : Tree, x.deep ≤ x.count
  | .node k n l => by
    simp only [Tree.deep, Tree.count]
    have := deepL_of 0 l (fun x hx => deep_le x)
    omega
theorem deepL_le (l : List Tree) : deepL l ≤ countL l := deepL_of 0 l (fun x _ => deep_le x)
theorem w64 (i : Int) (h1 : -9223372036854775808 ≤ i) (h2 : i < 9223372036854775808) : wrap64 i = i := by unfold wrap64; omega
theorem Tree.lt_of_elt (x : Tree) (k : Nat) (hk : k < x.l.length) : SizeOf.sizeOf x.l[k] < SizeOf.sizeOf x := by
  cases x with
  | node kk n l =>
    have := List.sizeOf_lt_of_mem (List.getElem_mem hk)
    simp only [Tree.node.sizeOf_spec]
    simp only [Tree.l] at this ⊢
    omega
/-- The cells of one of some trees. -/
theorem EReps.at_ {M : Nat → Prop} {w : World} : ∀ (l : List Tree) (css : List Value), EReps M w l css → ∀ (i : Nat) (hi : i < l.length),
    ∃ A c, css[i * 3]? = some (.int .i64 l[i].k) ∧ css[i * 3 + 1]? = some (.string l[i].name) ∧ css[i * 3 + 2]? = some (.slice A l[i].l.length c) ∧ ERep M w l[i] [.int .i64 l[i].k, .string l[i].name, .slice A l[i].l.length c]
  | [], css, _, i, hi => by simp at hi
  | x :: xs, css, h, i, hi => by
    simp only [EReps] at h
    obtain ⟨c0, c1, c2, rest, rfl, hx, hs⟩ := h
    cases i with
    | zero =>
      obtain ⟨A, c, css', e, hc, hR, hE⟩ := hx.open_
      injection e with e0 e
      injection e with e1 e
      injection e with e2 e
      subst e0 e1 e2
      exact ⟨A, c, rfl, rfl, rfl, hx⟩
    | succ i =>
      obtain ⟨A, c, h0, h1, h2, h3⟩ := EReps.at_ xs rest hs i (by simpa using hi)
      refine ⟨A, c, ?_, ?_, ?_, h3⟩
      · rw [show (i + 1) * 3 = i * 3 + 1 + 1 + 1 by omega]; simpa using h0
      · rw [show (i + 1) * 3 + 1 = i * 3 + 1 + 1 + 1 + 1 by omega]; simpa using h1
      · rw [show (i + 1) * 3 + 2 = i * 3 + 2 + 1 + 1 + 1 by omega]; simpa using h2

theorem add_next (ad : Addr) (m i : Nat) : (⟨(ad.add m).block, (ad.add m).off + (i + 1), none⟩ : Addr) = ad.add (m + (i + 1)) := by
  unfold Addr.add
  split
  · rename_i h; subst h; simp
  · rw [if_neg (by omega)]; simp [Nat.add_assoc]
/-- One of some trees: its three cells. -/
theorem EReps.elt {M : Nat → Prop} {w : World} {l : List Tree} {css : List Value} {A : Option Addr} (hR : Rd M w A css) (hE : EReps M w l css) {k : Nat} (hk : k < l.length) :
    ∃ ad A2 c, A = some ad ∧ w.cell? (ad.add (k * 3)) = some (.int .i64 l[k].k) ∧ w.cell? ⟨(ad.add (k * 3)).block, (ad.add (k * 3)).off + 1, none⟩ = some (.string l[k].name) ∧ w.cell? ⟨(ad.add (k * 3)).block, (ad.add (k * 3)).off + 2, none⟩ = some (.slice A2 l[k].l.length c) ∧
      ERep M w l[k] [.int .i64 l[k].k, .string l[k].name, .slice A2 l[k].l.length c] := by
  have e3 : css.length = l.length * 3 := EReps.len _ _ hE
  obtain ⟨A2, c2, h0, h1, h2, hX⟩ := EReps.at_ _ _ hE k hk
  obtain ⟨ad, rfl, _, hcell⟩ := hR (by rintro rfl; simp at e3; omega)
  exact ⟨ad, A2, c2, rfl, hcell _ _ h0, by rw [add_next ad (k * 3) 0]; exact hcell _ _ h1, by rw [add_next ad (k * 3) 1]; exact hcell _ _ h2, hX⟩

set_option maxRecDepth 100000 in
theorem size_any (x : Tree) (cs : List Value) (w : World) (h : ERep Nob w x cs) (hn : x.count ≤ 4611686018427387904) :
    Calls Tryz.prog 125 #[.agg cs.toArray] w fun e w' => e = .returned (.tuple #[.int .i64 x.count, .int .i64 x.deep]) ∧ Fr Nob w w' := by
  obtain ⟨A, c, css, rfl, hc, hR, hE⟩ := h.open_
  have HR := Lib.hid hR
  have HE := Lib.hid hE
  clear hR hE h
  go_enter Tryz.func125, Tryz.ntmps125
  go_wp2_with fail
  go_loopg [4, 5, 13] (x.l.length) (fun n a b i wr => ∃ k, n = x.l.length - k ∧ k ≤ x.l.length ∧ a = .int .i64 ((countL (x.l.take k) + 1 : Nat) : Int) ∧ b = .int .i64 (deepL (x.l.take k)) ∧ i = .int .i64 k ∧ Hid (Fr Nob w wr))
  case atStart => exact ⟨0, rfl, Nat.zero_le _, rfl, rfl, rfl, (Fr.refl _ _).alloc _⟩
  case round =>
    obtain ⟨k, rfl, hk, rfl, rfl, rfl, HF⟩ := hrel
    by_cases hlt : k < x.l.length
    · have ht : ((k : Int) < (x.l.length : Int)) := by omega
      obtain ⟨ad, A2, c2, rfl, q0, q1, q2, hX⟩ := EReps.elt (HR.out.fr HF.out (fun _ _ h => h)) (HE.out.fr0 HF.out) hlt
      have HX := Lib.hid hX
      have hcn : x.l[k].count ≤ 4611686018427387904 := by have := count_lt_of_mem x.l k hlt; have := count_eq x; omega
      have hsum := countL_take x.l k hlt
      have hdm := deepL_take x.l k hlt
      have hle := countL_le x.l (k + 1)
      have HC := Lib.hid hcn
      have HA := Lib.hid (And.intro hsum (And.intro hdm hle))
      clear hX hcn hsum hdm hle
      go_wp2_with fail
      refine (size_any x.l[k] _ _ (HX.out.fr0 ((Fr.refl Nob wr).alloc (.cells #[.int .i64 x.l[k].k, .string x.l[k].name, .slice A2 x.l[k].l.length c2] 82))) HC.out).mono ?_
      rintro e w2 ⟨rfl, hF2⟩
      have HF2 := Lib.hid hF2
      clear hF2 q0 q1 q2
      go_wp2_with fail
      all_goals
        go_roundg (x.l.length - (k + 1))
        case measure => omega
        case rel =>
          obtain ⟨hsum, hdm, hle⟩ := HA.out
          have hlen := len_le_countL x.l
          have hcx := count_eq x
          refine ⟨k + 1, rfl, hlt, ?_, ?_, ?_, ?_⟩
          · rw [w64 _ (by omega) (by omega), hsum]; congr 1; omega
          · rw [hdm]; congr 1; omega
          · rw [w64 _ (by omega) (by omega)]; rfl
          · exact (HF.out.alloc _).same HF2.out
    · have ht : ¬ ((k : Int) < (x.l.length : Int)) := by omega
      have hkl : k = x.l.length := by omega
      subst hkl
      have hcx := count_eq x
      have hdx := deep_eq x
      have hdl := deepL_le x.l
      rw [List.take_length]
      have HA := Lib.hid (And.intro hcx (And.intro hdx hdl))
      clear hcx hdx hdl
      go_wp2_with fail
      obtain ⟨hcx, hdx, hdl⟩ := HA.out
      refine bodyPost_ret (v := .tuple #[.int .i64 x.count, .int .i64 x.deep]) ?_ rfl ⟨rfl, HF.out⟩
      simp [results, go_sem]
      exact ⟨by omega, by rw [w64 _ (by omega) (by omega)]; omega⟩
termination_by x
decreasing_by exact Tree.lt_of_elt x k hlt
end Go.Proofs.YtldcffonfidbcaaGreatDoor

/- The reader's place in a text; its next byte that is no blank. -/
namespace Go.Proofs.YtldcffonfidbcaaGreatDoor
open Go.RowKit

/-- Behind blanks. -/
def skipB (r : List UInt8) : List UInt8 := r.dropWhile (fun c => c == 32)
/-- What 'next' tells. -/
def nextB (r : List UInt8) : Int := match skipB r with
  | [] => 0
  | c :: _ => if c.toNat = 0 then 1 else c.toNat
/-- A text that is read: s, what is left of it. -/
def Tx (w : World) (g : Nat) (s : ByteArray) (r : List UInt8) : Prop :=
  Blk w g [.string s, .int .i64 ((s.size : Int) - r.length)] 160 ∧ r.length ≤ s.size ∧ s.data.toList.drop (s.size - r.length) = r
theorem Tx.cs {w : World} {g : Nat} {s : ByteArray} {r : List UInt8} (h : Tx w g s r) : w.cell? ⟨g, 0, none⟩ = some (.string s) := (h.1.cell 0).trans rfl
theorem Tx.ci {w : World} {g : Nat} {s : ByteArray} {r : List UInt8} (h : Tx w g s r) : w.cell? ⟨g, 1, none⟩ = some (.int .i64 ((s.size : Int) - r.length)) := (h.1.cell 1).trans rfl
theorem Tx.fz {w : World} {g : Nat} {s : ByteArray} {r : List UInt8} (h : Tx w g s r) (i : Nat) : w.frozen? ⟨g, i, none⟩ = false := h.1.frozen i
theorem Tx.fr {M : Nat → Prop} {w w' : World} {g : Nat} {s : ByteArray} {r : List UInt8} (h : Tx w g s r) (hf : Fr M w w') (hn : ¬ M g) : Tx w' g s r := ⟨h.1.fr hf hn, h.2⟩
theorem Tx.drewN {w : World} {g : Nat} {s : ByteArray} {r : List UInt8} (h : Tx w g s r) (n : Nat) : Tx (w.drewN n) g s r := h
theorem drop_cons {α : Type} {l : List α} {n : Nat} {c : α} {t : List α} (h : l.drop n = c :: t) : l.drop (n + 1) = t ∧ ∃ hn : n < l.length, l[n] = c := by
  have hn : n < l.length := by
    rcases Nat.lt_or_ge n l.length with h' | h'
    · exact h'
    · rw [List.drop_eq_nil_of_le h'] at h; cases h
  rw [List.drop_eq_getElem_cons hn] at h
  injection h with h1 h2
  exact ⟨h2, hn, h1⟩
theorem Tx.byte {w : World} {g : Nat} {s : ByteArray} {c : UInt8} {r : List UInt8} (h : Tx w g s (c :: r)) : ∃ hn : s.size - (r.length + 1) < s.size, s[s.size - (r.length + 1)] = c := by
  obtain ⟨_, h2, h3⟩ := h
  obtain ⟨_, hn, hc⟩ := drop_cons h3
  have hn' : s.size - (r.length + 1) < s.size := by simp at h2; omega
  exact ⟨hn', by rw [← hc]; rfl⟩
theorem Tx.step {w : World} {g : Nat} {s : ByteArray} {c : UInt8} {r : List UInt8} (h : Tx w g s (c :: r)) (i : Int) (hi : i = (s.size : Int) - r.length) : Tx (w.setCell ⟨g, 1, none⟩ (.int .i64 i)) g s r := by
  subst hi
  obtain ⟨h1, h2, h3⟩ := h
  obtain ⟨h4, _⟩ := drop_cons h3
  simp only [List.length_cons] at h2 h4
  have e : s.size - (r.length + 1) + 1 = s.size - r.length := by omega
  rw [e] at h4
  exact ⟨h1.set 1 _, by omega, h4⟩

set_option maxHeartbeats 2000000 in
theorem next_any (g : Nat) (s : ByteArray) (hs : s.size ≤ 4611686018427387904) (r0 : List UInt8) (w : World) (hT : Tx w g s r0) :
    Calls Tryz.prog 118 #[.pointer (some ⟨g, 0, none⟩)] w fun e w' => e = .returned (.int .u8 (nextB r0)) ∧ Tx w' g s (skipB r0) ∧ Fr (One g) w w' := by
  go_enter Tryz.func118, Tryz.ntmps118
  go_wp2
  go_loopg [] (r0.length) (fun n wr => ∃ r : List UInt8, r.length = n ∧ Hid (Tx wr g s r) ∧ Hid (skipB r = skipB r0) ∧ Hid (Fr (One g) w wr))
  case atStart => exact ⟨r0, rfl, hT, rfl, Fr.refl _ _⟩
  case round =>
    obtain ⟨r, rfl, HT, HS, HF⟩ := hrel
    have c0 := HT.out.cs
    have c1 := HT.out.ci
    have f1 := HT.out.fz 1
    have hl : r.length ≤ s.size := HT.out.2.1
    have HM : r.length ≤ s.size := hl
    cases r with
    | nil =>
      simp only [List.length_nil, Int.natCast_zero, Int.sub_zero] at c1 hl ⊢
      go_wp2_with (fail)
      go_quiet (fail)
      go_wp2_with (fail)
      go_quiet (fail)
      go_wp2_with (fail)
      go_ret
      have e : skipB r0 = [] := HS.out.symm
      refine ⟨by simp [nextB, e], by rw [e]; exact HT.out, ?_⟩
      repeat' (first | exact HF.out | apply Fr.drewN)
    | cons c t =>
      obtain ⟨hn, hc⟩ := HT.out.byte
      simp only [List.length_cons] at hl c1
      obtain ⟨n, hN⟩ : ∃ n, n = s.size - (t.length + 1) := ⟨_, rfl⟩
      have e : ((s.size : Int) - ((t.length + 1 : Nat) : Int)) = (n : Int) := by omega
      rw [e] at c1
      have hlt : n < s.size := by omega
      have hb : ((s[n]'hlt).toNat : Int) = (c.toNat : Int) := by rw [← hc]; simp [hN]
      have H2 := Lib.hid hN
      clear hN hc e
      by_cases hc : c = 32
      · subst hc
        have hb2 : ((s[n]'hlt).toNat : Int) = 32 := hb
        clear hb
        go_wp2_with (fail)
        go_quiet (fail)
        go_wp2_with (fail)
        go_roundg t.length
        case measure => simp
        case rel =>
          have hn : (n : Int) + 1 = (s.size : Int) - t.length := by have := H2.out; omega
          refine ⟨t, rfl, HT.out.step _ hn, ?_, (HF.out.drewN _).setCell (p := ⟨g, 1, none⟩) (.inl rfl) _⟩
          rw [← HS.out]
          simp [Hid, skipB]
      · have hb2 : ((c.toNat : Int) == 32) = false := by
          have : c.toNat ≠ 32 := fun h => hc (UInt8.toNat_inj.1 h)
          simp; omega
        have hb3 : ((n : Int) == (s.size : Int)) = false := by simp; omega
        have hq : (c == 32) = false := by simpa using hc
        have e : skipB r0 = c :: t := by rw [← HS.out]; simp [skipB, List.dropWhile, hq]
        have HE := Lib.hid e
        clear e hc hq
        go_wp2_with (fail)
        go_quiet (fail)
        go_wp2_with (fail)
        go_quiet (fail)
        go_wp2_with (fail)
        go_quiet (fail)
        go_wp2_with (fail)
        all_goals
          go_ret
          refine ⟨?_, by rw [HE.out]; exact HT.out, ?_⟩
          · unfold nextB
            rw [HE.out]
            show _ = Ending.returned (.int .u8 (if c.toNat = 0 then 1 else (c.toNat : Int)))
            split <;> first | (congr 2; done) | (congr 2; omega)
          · repeat' (first | exact HF.out | apply Fr.drewN)
end Go.Proofs.YtldcffonfidbcaaGreatDoor

/- What the readers of an expression compute, in plain Lean: on what is left of the text. -/
namespace Go.Proofs.YtldcffonfidbcaaGreatDoor

/-- What a reader comes to: a tree and what is left; or the place of a fault (what is left there). -/
inductive Res where
  | ok (x : Tree) (r : List UInt8)
  | err (r : List UInt8)

def Res.rest : Res → List UInt8
  | .ok _ r => r
  | .err r => r

/-- Some things of a kind as one. -/
def flatK (kind : Int) (l : List Tree) : List Tree := l.flatMap (fun x => if x.k = kind then x.l else [x])
def joinK (kind : Int) : List Tree → Tree
  | [x] => x
  | l => .node kind ⟨#[]⟩ (flatK kind l)
/-- Things that F reads, as long as G says that there are more. -/
def someF (kind : Int) (F : List UInt8 → Res) (G : List UInt8 → Bool × List UInt8) : Nat → List Tree → List UInt8 → Res
  | 0, _, r => .err r
  | n + 1, acc, r => match F r with
    | .err r1 => .err r1
    | .ok x r1 => match G r1 with
      | (false, r2) => .ok (joinK kind (acc ++ [x])) r2
      | (true, r2) => someF kind F G n (acc ++ [x]) r2
def moreC (r : List UInt8) : Bool × List UInt8 := match skipB r with
  | 124 :: t => (true, t)
  | r' => (false, r')
def moreR (r : List UInt8) : Bool × List UInt8 := match skipB r with
  | [] => (false, [])
  | c :: t => (c != 124 && c != 41, c :: t)
def letter (c : UInt8) : Bool := 97 ≤ c && c ≤ 122
def signK (c : UInt8) : Int := if c = 42 then 4 else if c = 43 then 5 else if c = 63 then 6 else 0
/-- The signs behind a thing. -/
def signsF : Nat → Tree → List UInt8 → Tree × List UInt8
  | 0, e, r => (e, r)
  | n + 1, e, r => match skipB r with
    | [] => (e, [])
    | c :: t => if signK c = 0 then (e, c :: t) else signsF n (.node (signK c) ⟨#[]⟩ [e]) t
def closeF : Res → Res
  | .err r => .err r
  | .ok e r => match skipB r with
    | 41 :: t => .ok e t
    | r' => .err r'
def atomF (C : List UInt8 → Res) (r : List UInt8) : Res := match skipB r with
  | 40 :: t => closeF (C t)
  | r' => if (r'.takeWhile letter) = [] then .err r' else .ok (.node 1 ⟨(r'.takeWhile letter).toArray⟩ []) (r'.dropWhile letter)
def partF (C : List UInt8 → Res) (r : List UInt8) : Res := match atomF C r with
  | .err r1 => .err r1
  | .ok e r1 => .ok (signsF (r1.length + 1) e r1).1 (signsF (r1.length + 1) e r1).2
def rowF (C : List UInt8 → Res) (r : List UInt8) : Res := someF 2 (partF C) moreR (r.length + 1) [] r
def choiceF : Nat → List UInt8 → Res
  | 0, r => .err r
  | n + 1, r => someF 3 (rowF (choiceF n)) moreC (r.length + 1) [] r

theorem skipB_le (r : List UInt8) : (skipB r).length ≤ r.length := by
  induction r with
  | nil => simp [skipB]
  | cons c t ih =>
    unfold skipB at *
    rw [List.dropWhile_cons]
    split
    · simp only [List.length_cons]; omega
    · exact Nat.le_refl _
theorem moreC_le (r : List UInt8) : (moreC r).2.length ≤ r.length := by
  have h := skipB_le r
  unfold moreC
  split
  · rename_i t e; rw [e] at h; simp at h; simp; omega
  · exact h
theorem moreR_le (r : List UInt8) : (moreR r).2.length ≤ r.length := by
  have h := skipB_le r
  unfold moreR
  split
  · simp
  · rename_i c t e; rw [e] at h; exact h

/-- A reader eats something, and a tree has no more parts than were eaten; one of a kind has some. -/
def Good (kind : Int) (F : List UInt8 → Res) : Prop := ∀ r x r1, F r = .ok x r1 → r1.length < r.length ∧ x.l.length + r1.length ≤ r.length ∧ (x.k = kind → x.l ≠ [])
theorem flatK_snoc (kind : Int) (l : List Tree) (x : Tree) : flatK kind (l ++ [x]) = flatK kind l ++ (if x.k = kind then x.l else [x]) := by simp [flatK]
theorem joinK_one (kind : Int) (x : Tree) : joinK kind [x] = x := rfl
theorem joinK_more (kind : Int) (l : List Tree) (x : Tree) (h : l ≠ []) : joinK kind (l ++ [x]) = .node kind ⟨#[]⟩ (flatK kind (l ++ [x])) := by
  cases l with
  | nil => exact absurd rfl h
  | cons y l => cases l <;> rfl
end Go.Proofs.YtldcffonfidbcaaGreatDoor

/- 'some': the plain part: what its loop holds, and what each step leaves. -/
namespace Go.Proofs.YtldcffonfidbcaaGreatDoor
open Go.RowKit

/-- What a reader's call comes to. -/
def Out (g : Nat) (s : ByteArray) (w : World) : Res → Ending → World → Prop
  | .ok x r, e, w' => ∃ cs, e = .returned (.tuple #[.agg cs.toArray, .nilIface]) ∧ ERep (fun k => k < w.heap.size) w' x cs ∧ Tx w' g s r ∧ Fr (One g) w w'
  | .err r, e, w' => ∃ x cs b, e = .returned (.tuple #[.agg cs.toArray, .iface 163 (.pointer (some ⟨b, 0, none⟩))]) ∧ ERep (fun k => k < w.heap.size) w' x cs ∧ Blk w' b [.int .i64 ((s.size : Int) - r.length), .iface 25 (.int .i64 4)] 167 ∧ w.heap.size ≤ b ∧ Fr (One g) w w'

/-- What the loop of 'some' holds at a round's head. -/
structure SomeI (kind : Int) (F : List UInt8 → Res) (G : List UInt8 → Bool × List UInt8) (g : Nat) (s : ByteArray) (w : World) (res : Res) (n : Nat) (acc : List Tree) (r : List UInt8) (v : Value) (wr : World) : Prop where
  run : ∃ m, r.length < m ∧ someF kind F G m acc r = res
  text : Tx wr g s r
  out : Blk wr w.heap.size [.int .i64 0, .string ⟨#[]⟩, .slice none 0 0] 82
  e : Blk wr (w.heap.size + 1) [.int .i64 kind, .string ⟨#[]⟩, v] 82
  own : OwnT (fun k => k < w.heap.size + 2) wr (w.heap.size + 2) v (flatK kind acc)
  few : acc.length + r.length ≤ s.size
  few2 : (flatK kind acc).length + r.length ≤ s.size
  fr : Fr (One g) w wr
  n : r.length = n

/-- Behind the append. -/
structure SomeA (w w1 w2 : World) (v2 : Value) (l : List Tree) (x : Tree) (xc : List Value) : Prop where
  f : Fr (fun k => w.heap.size + 2 ≤ k) w1 w2
  own : OwnT (fun k => k < w.heap.size + 2) w2 (w.heap.size + 2) v2 l
  xb : Blk w2 w1.heap.size xc 82
  xr : ERep (fun k => k < w.heap.size + 2) w2 x xc
/-- Behind the question for more. -/
structure SomeC (kind : Int) (g : Nat) (s : ByteArray) (w w1 w4 : World) (v2 : Value) (l : List Tree) (x : Tree) (xc : List Value) (r2 : List UInt8) : Prop where
  text : Tx w4 g s r2
  out : Blk w4 w.heap.size [.int .i64 0, .string ⟨#[]⟩, .slice none 0 0] 82
  e : Blk w4 (w.heap.size + 1) [.int .i64 kind, .string ⟨#[]⟩, v2] 82
  own : OwnT (fun k => k < w.heap.size + 2) w4 (w.heap.size + 2) v2 l
  xb : Blk w4 w1.heap.size xc 82
  xr : ERep (fun k => k < w.heap.size + 2) w4 x xc
  fr : Fr (One g) w w4
theorem SomeC.of {kind : Int} {g : Nat} {s : ByteArray} {w w1 w2 w4 : World} {v v2 : Value} {l : List Tree} {x : Tree} {xc : List Value} {r2 : List UInt8} (h : SomeA w w1 w2 v2 l x xc)
    (hg : g < w.heap.size) (h0 : Blk w1 w.heap.size [.int .i64 0, .string ⟨#[]⟩, .slice none 0 0] 82) (h1 : Blk w1 (w.heap.size + 1) [.int .i64 kind, .string ⟨#[]⟩, v] 82) (hf : Fr (One g) w w1)
    (h4 : Fr (One g) (w2.setCell ⟨w.heap.size + 1, 2, none⟩ v2) w4) (ht : Tx w4 g s r2) (hs : w.heap.size + 1 < w1.heap.size) : SomeC kind g s w w1 w4 v2 l x xc r2 := by
  have f3 : Fr (One (w.heap.size + 1)) w2 (w2.setCell ⟨w.heap.size + 1, 2, none⟩ v2) := (Fr.refl (One (w.heap.size + 1)) w2).setCell (p := ⟨w.heap.size + 1, 2, none⟩) (.inl rfl) _
  have hb : ∀ k, v2.ownBlock = some k → w.heap.size + 2 ≤ k := fun k hk => by
    obtain ⟨css, ho, _⟩ := h.own
    exact (own_base ho k hk).1
  refine ⟨ht, ?_, ?_, ?_, ?_, ?_, ?_⟩
  · exact ((h0.fr h.f (by omega)).fr f3 (fun h => by have : w.heap.size = w.heap.size + 1 := h; omega)).fr h4 (fun h => by have : w.heap.size = g := h; omega)
  · exact ((h1.fr h.f (by omega)).set 2 v2).fr h4 (fun h => by have : w.heap.size + 1 = g := h; omega)
  · refine (h.own.fr f3 (fun k hk => by have : k = w.heap.size + 1 := hk; omega) (fun k hk h => ?_)).fr h4 (fun k hk => by have : k = g := hk; omega) (fun k hk h => ?_)
    · have := hb k hk; have : k = w.heap.size + 1 := h; omega
    · have := hb k hk; have : k = g := h; omega
  · exact (h.xb.fr f3 (fun h => by have : w1.heap.size = w.heap.size + 1 := h; omega)).fr h4 (fun h => by have : w1.heap.size = g := h; omega)
  · exact ERep.fr h4 (fun k _ hk => by have : k = g := hk; omega) _ _ (ERep.fr f3 (fun k _ hk => by have : k = w.heap.size + 1 := hk; omega) _ _ h.xr)
  · refine ((hf.trans h.f (fun k hk h => by omega)).trans f3 (fun k hk h => ?_)).same h4
    have : k = w.heap.size + 1 := h
    omega

theorem SomeA.of {w wr w1 W w2 : World} {v v2 : Value} {l l' : List Tree} {css0 news : List Value} {x : Tree} {xc : List Value}
    (hol : ∀ k, v.ownBlock = some k → w.heap.size + 2 ≤ k ∧ k < wr.heap.size) (hws : wr.heap.size ≤ w1.heap.size) (hlt : w.heap.size + 1 < wr.heap.size) (hfa : Fr (fun k => some k = v.ownBlock) w1 W)
    (hrep : EReps (fun k => k < w.heap.size + 2 ∨ some k = v.ownBlock) w1 l css0) (hnew : EReps (fun k => k < wr.heap.size) W l' news) (hxb : Blk W w1.heap.size xc 82) (hxr : ERep (fun k => k < wr.heap.size) w1 x xc)
    (hown2 : w2.ownsRow (w.heap.size + 2) 82 3 v2 (l.length + l'.length) (css0 ++ news)) (hgr2 : W.grownBy w2 v.ownBlock) (hat2 : v2.ownBlock = v.ownBlock ∨ v2.ownBlock = some W.heap.size) : SomeA w w1 w2 v2 (l ++ l') x xc := by
  have hf12 := hfa.same (Fr.of_grown hgr2)
  refine ⟨hf12.mono (fun k _ hk => (hol k hk.symm).1), ?_, ?_, ?_⟩
  · refine OwnT.appended (EReps.fr hfa (fun k _ hk => .inr hk) _ _ hrep) (EReps.mono (fun k hk => ?_) _ _ hnew) hown2 hgr2 hat2
    rcases hk with hk | hk
    · omega
    · exact (hol k hk.symm).2
  · exact hxb.fr (Fr.of_grown hgr2) (fun h => by have := (hol _ h.symm).2; omega)
  · exact ERep.mono (fun k hk => by omega) _ _ (ERep.fr hf12 (fun k _ hk => (hol k hk.symm).2) _ _ hxr)
/-- The end of a function that hands a tree back, out of the block of its result. -/
theorem ret_tree {fn : Func} {i j : Nat} (hfn : fn.results = #[.cell i 82, .tmp j]) {R : Ending → World → Prop} {a : Act} {W : World} {B : Nat} {c0 c1 c2 ev : Value} (hi : a.tmps[i]?.getD undef = .pointer (some ⟨B, 0, none⟩)) (hj : a.tmps[j]?.getD undef = ev) (hd : a.defers = [])
    (hb : Blk W B [c0, c1, c2] 82) (hR : R (.returned (.tuple #[.agg #[c0, c1, c2], ev])) W) : bodyPost Tryz.prog fn R .ret a W := by
  have q0 := hb.cell 0
  have q1 := hb.cell 1
  have q2 := hb.cell 2
  simp only [List.getElem?_cons_zero, List.getElem?_cons_succ] at q0 q1 q2
  exact bodyPost_ret (v := .tuple #[.agg #[c0, c1, c2], ev]) (by simp [results, hfn, go_sem, q0, q1, q2, hi, hj]) hd hR
theorem Out.err_of {g : Nat} {s : ByteArray} {w wa w2 W : World} {r1 : List UInt8} {x : Tree} {cs : List Value} {bf : Nat} (hF : Fr (One g) w wa) (hlt : w.heap.size < wa.heap.size) (hfr : Fr (One g) wa w2) (hx : ERep (fun k => k < wa.heap.size) w2 x cs)
    (hbf : Blk W bf [.int .i64 ((s.size : Int) - r1.length), .iface 25 (.int .i64 4)] 167) (hbl : wa.heap.size ≤ bf) (fw : Fr (One w.heap.size) w2 W) :
    Out g s w (.err r1) (.returned (.tuple #[.agg cs.toArray, .iface 163 (.pointer (some ⟨bf, 0, none⟩))])) W := by
  refine ⟨x, cs, bf, rfl, ?_, ?_, ?_, ?_⟩
  · exact ERep.mono (fun k hk => by omega) _ _ (ERep.fr fw (fun k _ hk => by have : k = w.heap.size := hk; omega) _ _ hx)
  · exact hbf
  · omega
  · exact (hF.same hfr).trans fw (fun k hk h => by have : k = w.heap.size := h; omega)
theorem Out.ok_of {g : Nat} {s : ByteArray} {w wa w2 W : World} {r1 : List UInt8} {x : Tree} {cs : List Value} (hF : Fr (One g) w wa) (hlt : w.heap.size < wa.heap.size) (hfr : Fr (One g) wa w2) (hx : ERep (fun k => k < wa.heap.size) w2 x cs)
    (ht : Tx w2 g s r1) (hg : g < w.heap.size) (fw : Fr (One w.heap.size) w2 W) :
    Out g s w (.ok x r1) (.returned (.tuple #[.agg cs.toArray, .nilIface])) W := by
  refine ⟨cs, rfl, ?_, ?_, ?_⟩
  · exact ERep.mono (fun k hk => by omega) _ _ (ERep.fr fw (fun k _ hk => by have : k = w.heap.size := hk; omega) _ _ hx)
  · exact ht.fr fw (fun h => by have : g = w.heap.size := h; omega)
  · exact (hF.same hfr).trans fw (fun k hk h => by have : k = w.heap.size := h; omega)
end Go.Proofs.YtldcffonfidbcaaGreatDoor
