/- 'size': how many there are in a tree, and how many within one another. -/
import Derived.Test.YtgmjgflifgjpmaaDoorExprTree
import Derived.StillTailTactics
import Derived.Deep.RegionWith
namespace Go.Proofs.YtgmjgflifgjpmaaDoor
open Go.RowKit
mutual
def Tree.count : Tree → Nat | .node _ _ l => countL l + 1
def countL : List Tree → Nat | [] => 0 | x :: xs => x.count + countL xs
end
mutual
def Tree.deep : Tree → Nat | .node _ _ l => deepL l + 1
def deepL : List Tree → Nat | [] => 0 | x :: xs => max x.deep (deepL xs)
end
theorem count_eq (x : Tree) : x.count = countL x.l + 1 := by cases x; simp [Tree.count, Tree.l]
theorem deep_eq (x : Tree) : x.deep = deepL x.l + 1 := by cases x; simp [Tree.deep, Tree.l]
theorem countL_snoc (l : List Tree) (x : Tree) : countL (l ++ [x]) = countL l + x.count := by
  induction l with
  | nil => simp [countL]
  | cons y l ih => simp only [List.cons_append, countL, ih]; omega
theorem deepL_snoc (l : List Tree) (x : Tree) : deepL (l ++ [x]) = max (deepL l) x.deep := by
  induction l with
  | nil => simp [deepL]
  | cons y l ih => simp only [List.cons_append, deepL, ih]; omega
theorem countL_take (l : List Tree) (i : Nat) (hi : i < l.length) : countL (l.take (i + 1)) = countL (l.take i) + l[i].count := by
  rw [List.take_succ_eq_append_getElem hi, countL_snoc]
theorem deepL_take (l : List Tree) (i : Nat) (hi : i < l.length) : deepL (l.take (i + 1)) = max (deepL (l.take i)) l[i].deep := by
  rw [List.take_succ_eq_append_getElem hi, deepL_snoc]
theorem countL_le (l : List Tree) (i : Nat) : countL (l.take i) ≤ countL l := by
  induction l generalizing i with
  | nil => simp
  | cons y l ih => cases i with
    | zero => simp [countL]
    | succ i => simp only [List.take_succ_cons, countL]; have := ih i; omega
theorem count_lt_of_mem (l : List Tree) (i : Nat) (hi : i < l.length) : l[i].count ≤ countL l := by
  have := countL_le l (i + 1)
  rw [countL_take l i hi] at this
  omega
theorem len_le_countL (l : List Tree) : l.length ≤ countL l := by
  induction l with
  | nil => simp
  | cons x l ih => simp only [List.length_cons, countL]; have := count_eq x; omega
theorem deepL_of (n : Nat) : ∀ l : List Tree, (∀ x ∈ l, x.deep ≤ x.count) → deepL l ≤ countL l
  | [], _ => by simp [deepL]
  | x :: l, h => by
    have := deepL_of n l (fun y hy => h y (List.mem_cons_of_mem _ hy))
    have := h x (List.mem_cons_self ..)
    simp only [deepL, countL]; omega
theorem deep_le : ∀ x : Tree, x.deep ≤ x.count
  | .node k n l => by
    simp only [Tree.deep, Tree.count]
    have := deepL_of 0 l (fun x hx => deep_le x)
    omega
theorem deepL_le (l : List Tree) : deepL l ≤ countL l := deepL_of 0 l (fun x _ => deep_le x)
theorem w64 (i : Int) (h1 : -9223372036854775808 ≤ i) (h2 : i < 9223372036854775808) : wrap64 i = i := by unfold wrap64; omega
theorem Tree.lt_of_elt (x : Tree) (k : Nat) (hk : k < x.l.length) : SizeOf.sizeOf x.l[k] < SizeOf.sizeOf x := by
  cases x with
  | node kk n l =>
    have := List.sizeOf_lt_of_mem (List.getElem_mem hk)
    simp only [Tree.node.sizeOf_spec]
    simp only [Tree.l] at this ⊢
    omega
/-- The cells of one of some trees. -/
theorem EReps.at_ {M : Nat → Prop} {w : World} : ∀ (l : List Tree) (css : List Value), EReps M w l css → ∀ (i : Nat) (hi : i < l.length),
    ∃ A c, css[i * 3]? = some (.int .i64 l[i].k) ∧ css[i * 3 + 1]? = some (.string l[i].name) ∧ css[i * 3 + 2]? = some (.slice A l[i].l.length c) ∧ ERep M w l[i] [.int .i64 l[i].k, .string l[i].name, .slice A l[i].l.length c]
  | [], css, _, i, hi => by simp at hi
  | x :: xs, css, h, i, hi => by
    simp only [EReps] at h
    obtain ⟨c0, c1, c2, rest, rfl, hx, hs⟩ := h
    cases i with
    | zero =>
      obtain ⟨A, c, css', e, hc, hR, hE⟩ := hx.open_
      injection e with e0 e
      injection e with e1 e
      injection e with e2 e
      subst e0 e1 e2
      exact ⟨A, c, rfl, rfl, rfl, hx⟩
    | succ i =>
      obtain ⟨A, c, h0, h1, h2, h3⟩ := EReps.at_ xs rest hs i (by simpa using hi)
      refine ⟨A, c, ?_, ?_, ?_, h3⟩
      · rw [show (i + 1) * 3 = i * 3 + 1 + 1 + 1 by omega]; simpa using h0
      · rw [show (i + 1) * 3 + 1 = i * 3 + 1 + 1 + 1 + 1 by omega]; simpa using h1
      · rw [show (i + 1) * 3 + 2 = i * 3 + 2 + 1 + 1 + 1 by omega]; simpa using h2

theorem add_next (ad : Addr) (m i : Nat) : (⟨(ad.add m).block, (ad.add m).off + (i + 1), none⟩ : Addr) = ad.add (m + (i + 1)) := by
  unfold Addr.add
  split
  · rename_i h; subst h; simp
  · rw [if_neg (by omega)]; simp [Nat.add_assoc]
/-- One of some trees: its three cells. -/
theorem EReps.elt {M : Nat → Prop} {w : World} {l : List Tree} {css : List Value} {A : Option Addr} (hR : Rd M w A css) (hE : EReps M w l css) {k : Nat} (hk : k < l.length) :
    ∃ ad A2 c, A = some ad ∧ w.cell? (ad.add (k * 3)) = some (.int .i64 l[k].k) ∧ w.cell? ⟨(ad.add (k * 3)).block, (ad.add (k * 3)).off + 1, none⟩ = some (.string l[k].name) ∧ w.cell? ⟨(ad.add (k * 3)).block, (ad.add (k * 3)).off + 2, none⟩ = some (.slice A2 l[k].l.length c) ∧
      ERep M w l[k] [.int .i64 l[k].k, .string l[k].name, .slice A2 l[k].l.length c] := by
  have e3 : css.length = l.length * 3 := EReps.len _ _ hE
  obtain ⟨A2, c2, h0, h1, h2, hX⟩ := EReps.at_ _ _ hE k hk
  obtain ⟨ad, rfl, _, hcell⟩ := hR (by rintro rfl; simp at e3; omega)
  exact ⟨ad, A2, c2, rfl, hcell _ _ h0, by rw [add_next ad (k * 3) 0]; exact hcell _ _ h1, by rw [add_next ad (k * 3) 1]; exact hcell _ _ h2, hX⟩

set_option maxRecDepth 100000 in
theorem size_any (x : Tree) (cs : List Value) (w : World) (h : ERep Nob w x cs) (hn : x.count ≤ 4611686018427387904) :
    Calls Tryd.prog 24 #[.agg cs.toArray] w fun e w' => e = .returned (.tuple #[.int .i64 x.count, .int .i64 x.deep]) ∧ Fr Nob w w' := by
  obtain ⟨A, c, css, rfl, hc, hR, hE⟩ := h.open_
  have HR := Lib.hid hR
  have HE := Lib.hid hE
  clear hR hE h
  go_enter Tryd.func24, Tryd.ntmps24
  go_wp2_with fail
  go_loopg [4, 5, 13] (x.l.length) (fun n a b i wr => ∃ k, n = x.l.length - k ∧ k ≤ x.l.length ∧ a = .int .i64 ((countL (x.l.take k) + 1 : Nat) : Int) ∧ b = .int .i64 (deepL (x.l.take k)) ∧ i = .int .i64 k ∧ Hid (Fr Nob w wr))
  case atStart => exact ⟨0, rfl, Nat.zero_le _, rfl, rfl, rfl, (Fr.refl _ _).alloc _⟩
  case round =>
    obtain ⟨k, rfl, hk, rfl, rfl, rfl, HF⟩ := hrel
    by_cases hlt : k < x.l.length
    · have ht : ((k : Int) < (x.l.length : Int)) := by omega
      obtain ⟨ad, A2, c2, rfl, q0, q1, q2, hX⟩ := EReps.elt (HR.out.fr HF.out (fun _ _ h => h)) (HE.out.fr0 HF.out) hlt
      have HX := Lib.hid hX
      have hcn : x.l[k].count ≤ 4611686018427387904 := by have := count_lt_of_mem x.l k hlt; have := count_eq x; omega
      have hsum := countL_take x.l k hlt
      have hdm := deepL_take x.l k hlt
      have hle := countL_le x.l (k + 1)
      have HC := Lib.hid hcn
      have HA := Lib.hid (And.intro hsum (And.intro hdm hle))
      clear hX hcn hsum hdm hle
      go_wp2_with fail
      refine (size_any x.l[k] _ _ (HX.out.fr0 ((Fr.refl Nob wr).alloc (.cells #[.int .i64 x.l[k].k, .string x.l[k].name, .slice A2 x.l[k].l.length c2] 24))) HC.out).mono ?_
      rintro e w2 ⟨rfl, hF2⟩
      have HF2 := Lib.hid hF2
      clear hF2 q0 q1 q2
      go_wp2_with fail
      all_goals
        go_roundg (x.l.length - (k + 1))
        case measure => omega
        case rel =>
          obtain ⟨hsum, hdm, hle⟩ := HA.out
          have hlen := len_le_countL x.l
          have hcx := count_eq x
          refine ⟨k + 1, rfl, hlt, ?_, ?_, ?_, ?_⟩
          · rw [w64 _ (by omega) (by omega), hsum]; congr 1; omega
          · rw [hdm]; congr 1; omega
          · rw [w64 _ (by omega) (by omega)]; rfl
          · exact (HF.out.alloc _).same HF2.out
    · have ht : ¬ ((k : Int) < (x.l.length : Int)) := by omega
      have hkl : k = x.l.length := by omega
      subst hkl
      have hcx := count_eq x
      have hdx := deep_eq x
      have hdl := deepL_le x.l
      rw [List.take_length]
      have HA := Lib.hid (And.intro hcx (And.intro hdx hdl))
      clear hcx hdx hdl
      go_wp2_with fail
      obtain ⟨hcx, hdx, hdl⟩ := HA.out
      refine bodyPost_ret (v := .tuple #[.int .i64 x.count, .int .i64 x.deep]) ?_ rfl ⟨rfl, HF.out⟩
      simp [results, go_sem]
      exact ⟨by omega, by rw [w64 _ (by omega) (by omega)]; omega⟩
termination_by x
decreasing_by exact Tree.lt_of_elt x k hlt
end Go.Proofs.YtgmjgflifgjpmaaDoor
