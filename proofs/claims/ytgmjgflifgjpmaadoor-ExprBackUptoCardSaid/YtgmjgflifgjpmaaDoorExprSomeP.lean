/- 'some': the plain part: what its loop holds, and what each step leaves. -/
import Derived.Test.YtgmjgflifgjpmaaDoorExprSpec
namespace Go.Proofs.YtgmjgflifgjpmaaDoor
open Go.RowKit

/-- What a reader's call comes to. -/
def Out (g : Nat) (s : ByteArray) (w : World) : Res → Ending → World → Prop
  | .ok x r, e, w' => ∃ cs, e = .returned (.tuple #[.agg cs.toArray, .nilIface]) ∧ ERep (fun k => k < w.heap.size) w' x cs ∧ Tx w' g s r ∧ Fr (One g) w w'
  | .err r, e, w' => ∃ x cs b, e = .returned (.tuple #[.agg cs.toArray, .iface 51 (.pointer (some ⟨b, 0, none⟩))]) ∧ ERep (fun k => k < w.heap.size) w' x cs ∧ Blk w' b [.int .i64 ((s.size : Int) - r.length), .iface 25 (.int .i64 4)] 55 ∧ w.heap.size ≤ b ∧ Fr (One g) w w'

/-- What the loop of 'some' holds at a round's head. -/
structure SomeI (kind : Int) (F : List UInt8 → Res) (G : List UInt8 → Bool × List UInt8) (g : Nat) (s : ByteArray) (w : World) (res : Res) (n : Nat) (acc : List Tree) (r : List UInt8) (v : Value) (wr : World) : Prop where
  run : ∃ m, r.length < m ∧ someF kind F G m acc r = res
  text : Tx wr g s r
  out : Blk wr w.heap.size [.int .i64 0, .string ⟨#[]⟩, .slice none 0 0] 24
  e : Blk wr (w.heap.size + 1) [.int .i64 kind, .string ⟨#[]⟩, v] 24
  own : OwnT (fun k => k < w.heap.size + 2) wr (w.heap.size + 2) v (flatK kind acc)
  few : acc.length + r.length ≤ s.size
  few2 : (flatK kind acc).length + r.length ≤ s.size
  fr : Fr (One g) w wr
  n : r.length = n

/-- Behind the append. -/
structure SomeA (w w1 w2 : World) (v2 : Value) (l : List Tree) (x : Tree) (xc : List Value) : Prop where
  f : Fr (fun k => w.heap.size + 2 ≤ k) w1 w2
  own : OwnT (fun k => k < w.heap.size + 2) w2 (w.heap.size + 2) v2 l
  xb : Blk w2 w1.heap.size xc 24
  xr : ERep (fun k => k < w.heap.size + 2) w2 x xc
/-- Behind the question for more. -/
structure SomeC (kind : Int) (g : Nat) (s : ByteArray) (w w1 w4 : World) (v2 : Value) (l : List Tree) (x : Tree) (xc : List Value) (r2 : List UInt8) : Prop where
  text : Tx w4 g s r2
  out : Blk w4 w.heap.size [.int .i64 0, .string ⟨#[]⟩, .slice none 0 0] 24
  e : Blk w4 (w.heap.size + 1) [.int .i64 kind, .string ⟨#[]⟩, v2] 24
  own : OwnT (fun k => k < w.heap.size + 2) w4 (w.heap.size + 2) v2 l
  xb : Blk w4 w1.heap.size xc 24
  xr : ERep (fun k => k < w.heap.size + 2) w4 x xc
  fr : Fr (One g) w w4
theorem SomeC.of {kind : Int} {g : Nat} {s : ByteArray} {w w1 w2 w4 : World} {v v2 : Value} {l : List Tree} {x : Tree} {xc : List Value} {r2 : List UInt8} (h : SomeA w w1 w2 v2 l x xc)
    (hg : g < w.heap.size) (h0 : Blk w1 w.heap.size [.int .i64 0, .string ⟨#[]⟩, .slice none 0 0] 24) (h1 : Blk w1 (w.heap.size + 1) [.int .i64 kind, .string ⟨#[]⟩, v] 24) (hf : Fr (One g) w w1)
    (h4 : Fr (One g) (w2.setCell ⟨w.heap.size + 1, 2, none⟩ v2) w4) (ht : Tx w4 g s r2) (hs : w.heap.size + 1 < w1.heap.size) : SomeC kind g s w w1 w4 v2 l x xc r2 := by
  have f3 : Fr (One (w.heap.size + 1)) w2 (w2.setCell ⟨w.heap.size + 1, 2, none⟩ v2) := (Fr.refl (One (w.heap.size + 1)) w2).setCell (p := ⟨w.heap.size + 1, 2, none⟩) (.inl rfl) _
  have hb : ∀ k, v2.ownBlock = some k → w.heap.size + 2 ≤ k := fun k hk => by
    obtain ⟨css, ho, _⟩ := h.own
    exact (own_base ho k hk).1
  refine ⟨ht, ?_, ?_, ?_, ?_, ?_, ?_⟩
  · exact ((h0.fr h.f (by omega)).fr f3 (fun h => by have : w.heap.size = w.heap.size + 1 := h; omega)).fr h4 (fun h => by have : w.heap.size = g := h; omega)
  · exact ((h1.fr h.f (by omega)).set 2 v2).fr h4 (fun h => by have : w.heap.size + 1 = g := h; omega)
  · refine (h.own.fr f3 (fun k hk => by have : k = w.heap.size + 1 := hk; omega) (fun k hk h => ?_)).fr h4 (fun k hk => by have : k = g := hk; omega) (fun k hk h => ?_)
    · have := hb k hk; have : k = w.heap.size + 1 := h; omega
    · have := hb k hk; have : k = g := h; omega
  · exact (h.xb.fr f3 (fun h => by have : w1.heap.size = w.heap.size + 1 := h; omega)).fr h4 (fun h => by have : w1.heap.size = g := h; omega)
  · exact ERep.fr h4 (fun k _ hk => by have : k = g := hk; omega) _ _ (ERep.fr f3 (fun k _ hk => by have : k = w.heap.size + 1 := hk; omega) _ _ h.xr)
  · refine ((hf.trans h.f (fun k hk h => by omega)).trans f3 (fun k hk h => ?_)).same h4
    have : k = w.heap.size + 1 := h
    omega

theorem SomeA.of {w wr w1 W w2 : World} {v v2 : Value} {l l' : List Tree} {css0 news : List Value} {x : Tree} {xc : List Value}
    (hol : ∀ k, v.ownBlock = some k → w.heap.size + 2 ≤ k ∧ k < wr.heap.size) (hws : wr.heap.size ≤ w1.heap.size) (hlt : w.heap.size + 1 < wr.heap.size) (hfa : Fr (fun k => some k = v.ownBlock) w1 W)
    (hrep : EReps (fun k => k < w.heap.size + 2 ∨ some k = v.ownBlock) w1 l css0) (hnew : EReps (fun k => k < wr.heap.size) W l' news) (hxb : Blk W w1.heap.size xc 24) (hxr : ERep (fun k => k < wr.heap.size) w1 x xc)
    (hown2 : w2.ownsRow (w.heap.size + 2) 24 3 v2 (l.length + l'.length) (css0 ++ news)) (hgr2 : W.grownBy w2 v.ownBlock) (hat2 : v2.ownBlock = v.ownBlock ∨ v2.ownBlock = some W.heap.size) : SomeA w w1 w2 v2 (l ++ l') x xc := by
  have hf12 := hfa.same (Fr.of_grown hgr2)
  refine ⟨hf12.mono (fun k _ hk => (hol k hk.symm).1), ?_, ?_, ?_⟩
  · refine OwnT.appended (EReps.fr hfa (fun k _ hk => .inr hk) _ _ hrep) (EReps.mono (fun k hk => ?_) _ _ hnew) hown2 hgr2 hat2
    rcases hk with hk | hk
    · omega
    · exact (hol k hk.symm).2
  · exact hxb.fr (Fr.of_grown hgr2) (fun h => by have := (hol _ h.symm).2; omega)
  · exact ERep.mono (fun k hk => by omega) _ _ (ERep.fr hf12 (fun k _ hk => (hol k hk.symm).2) _ _ hxr)
/-- The end of a function that hands a tree back, out of the block of its result. -/
theorem ret_tree {fn : Func} {i j : Nat} (hfn : fn.results = #[.cell i 24, .tmp j]) {R : Ending → World → Prop} {a : Act} {W : World} {B : Nat} {c0 c1 c2 ev : Value} (hi : a.tmps[i]?.getD undef = .pointer (some ⟨B, 0, none⟩)) (hj : a.tmps[j]?.getD undef = ev) (hd : a.defers = [])
    (hb : Blk W B [c0, c1, c2] 24) (hR : R (.returned (.tuple #[.agg #[c0, c1, c2], ev])) W) : bodyPost Tryd.prog fn R .ret a W := by
  have q0 := hb.cell 0
  have q1 := hb.cell 1
  have q2 := hb.cell 2
  simp only [List.getElem?_cons_zero, List.getElem?_cons_succ] at q0 q1 q2
  exact bodyPost_ret (v := .tuple #[.agg #[c0, c1, c2], ev]) (by simp [results, hfn, go_sem, q0, q1, q2, hi, hj]) hd hR
theorem Out.err_of {g : Nat} {s : ByteArray} {w wa w2 W : World} {r1 : List UInt8} {x : Tree} {cs : List Value} {bf : Nat} (hF : Fr (One g) w wa) (hlt : w.heap.size < wa.heap.size) (hfr : Fr (One g) wa w2) (hx : ERep (fun k => k < wa.heap.size) w2 x cs)
    (hbf : Blk W bf [.int .i64 ((s.size : Int) - r1.length), .iface 25 (.int .i64 4)] 55) (hbl : wa.heap.size ≤ bf) (fw : Fr (One w.heap.size) w2 W) :
    Out g s w (.err r1) (.returned (.tuple #[.agg cs.toArray, .iface 51 (.pointer (some ⟨bf, 0, none⟩))])) W := by
  refine ⟨x, cs, bf, rfl, ?_, ?_, ?_, ?_⟩
  · exact ERep.mono (fun k hk => by omega) _ _ (ERep.fr fw (fun k _ hk => by have : k = w.heap.size := hk; omega) _ _ hx)
  · exact hbf
  · omega
  · exact (hF.same hfr).trans fw (fun k hk h => by have : k = w.heap.size := h; omega)
theorem Out.ok_of {g : Nat} {s : ByteArray} {w wa w2 W : World} {r1 : List UInt8} {x : Tree} {cs : List Value} (hF : Fr (One g) w wa) (hlt : w.heap.size < wa.heap.size) (hfr : Fr (One g) wa w2) (hx : ERep (fun k => k < wa.heap.size) w2 x cs)
    (ht : Tx w2 g s r1) (hg : g < w.heap.size) (fw : Fr (One w.heap.size) w2 W) :
    Out g s w (.ok x r1) (.returned (.tuple #[.agg cs.toArray, .nilIface])) W := by
  refine ⟨cs, rfl, ?_, ?_, ?_⟩
  · exact ERep.mono (fun k hk => by omega) _ _ (ERep.fr fw (fun k _ hk => by have : k = w.heap.size := hk; omega) _ _ hx)
  · exact ht.fr fw (fun h => by have : g = w.heap.size := h; omega)
  · exact (hF.same hfr).trans fw (fun k hk h => by have : k = w.heap.size := h; omega)
end Go.Proofs.YtgmjgflifgjpmaaDoor
