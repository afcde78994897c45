/- Rows of cells that are read: what stays, elements, a row of one's own as one that is read; append. -/
import Derived.Test.YtdoogkohfjkefaaDoorBase
import Derived.Maps.AppendAt
namespace Go.Proofs.YtdoogkohfjkefaaDoor
open Go.RowKit

theorem add_block (a : Addr) (n : Nat) : (a.add n).block = a.block := by unfold Addr.add; split <;> rfl
theorem add_of_add (a : Addr) (i j : Nat) : (a.add i).add j = a.add (i + j) := by
  unfold Addr.add
  by_cases hi : i = 0 <;> by_cases hj : j = 0 <;> simp [hi, hj, Nat.add_assoc]
theorem add_lit (g i : Nat) : (⟨g, 0, none⟩ : Addr).add i = ⟨g, i, none⟩ := by unfold Addr.add; split <;> simp_all
theorem add_off (a : Addr) (k i : Nat) (hk : 0 < k) : (⟨(a.add k).block, (a.add k).off + i, none⟩ : Addr) = a.add (k + i) := by
  unfold Addr.add
  rw [if_neg (by omega), if_neg (by omega)]
  simp [Nat.add_assoc]

/-- The row at A (nil: it is empty) holds the cells xs, outside of the blocks of M. -/
def Rd (M : Nat → Prop) (w : World) (A : Option Addr) (xs : List Value) : Prop :=
  xs ≠ [] → ∃ ad, A = some ad ∧ ¬ M ad.block ∧ ∀ j u, xs[j]? = some u → w.cell? (ad.add j) = some u
theorem Rd.nil (M : Nat → Prop) (w : World) (A : Option Addr) : Rd M w A [] := fun h => absurd rfl h
theorem Rd.fr {M M' : Nat → Prop} {w w' : World} {A : Option Addr} {xs : List Value} (h : Rd M w A xs) (hf : Fr M' w w') (hM : ∀ k, k < w.heap.size → M' k → M k) : Rd M w' A xs := fun hx => by
  obtain ⟨ad, e, hn, hc⟩ := h hx
  exact ⟨ad, e, hn, fun j u hu => by
    have := hc j u hu
    have hl := cell_lt this
    rw [add_block] at hl
    exact (hf.cell (by rw [add_block]; exact hl) (by rw [add_block]; exact fun hm => hn (hM _ hl hm))).trans this⟩
theorem Rd.bound {M : Nat → Prop} {w : World} {A : Option Addr} {xs : List Value} (h : Rd M w A xs) : Rd (fun k => M k ∨ w.heap.size ≤ k) w A xs := fun hx => by
  obtain ⟨ad, e, hn, hc⟩ := h hx
  refine ⟨ad, e, ?_, hc⟩
  cases xs with
  | nil => exact absurd rfl hx
  | cons x xs =>
    have hl := cell_lt (hc 0 x rfl)
    rw [add_block] at hl
    rintro (hm | hm)
    · exact hn hm
    · omega
theorem Rd.mono {M M' : Nat → Prop} {w : World} {A : Option Addr} {xs : List Value} (h : Rd M w A xs) (hM : ∀ k, M' k → M k) : Rd M' w A xs := fun hx => by
  obtain ⟨ad, e, hn, hc⟩ := h hx
  exact ⟨ad, e, fun hm => hn (hM _ hm), hc⟩
theorem Rd.lt {M : Nat → Prop} {w : World} {ad : Addr} {xs : List Value} (h : Rd M w (some ad) xs) (hx : xs ≠ []) : ad.block < w.heap.size := by
  obtain ⟨ad', e, hn, hc⟩ := h hx
  injection e with e
  subst e
  cases xs with
  | nil => exact absurd rfl hx
  | cons x xs =>
    have hl := cell_lt (hc 0 x rfl)
    rwa [add_block] at hl
theorem Rd.at_ {M : Nat → Prop} {w : World} {A : Option Addr} {xs : List Value} (h : Rd M w A xs) {j : Nat} (hj : j < xs.length) : ∃ ad, A = some ad ∧ ¬ M ad.block ∧ w.cell? (ad.add j) = some xs[j] := by
  obtain ⟨ad, e, hn, hc⟩ := h (by rintro rfl; simp at hj)
  exact ⟨ad, e, hn, hc j _ (List.getElem?_eq_getElem hj)⟩
theorem Rd.take {M : Nat → Prop} {w : World} {A : Option Addr} {xs : List Value} (h : Rd M w A xs) (n : Nat) : Rd M w A (xs.take n) := fun hx => by
  obtain ⟨ad, e, hn, hc⟩ := h (by rintro rfl; simp at hx)
  refine ⟨ad, e, hn, fun j u hu => hc j u ?_⟩
  rw [List.getElem?_take] at hu
  split at hu
  · exact hu
  · cases hu
theorem own_base {w : World} {base : Nat} {e : TypeId} {size n : Nat} {v : Value} {xs : List Value} (h : w.ownsRow base e size v n xs) : ∀ k, v.ownBlock = some k → base ≤ k ∧ k < w.heap.size := World.ownsRow.lt h
theorem Rd.of_own {M : Nat → Prop} {w : World} {base : Nat} {e : TypeId} {size n : Nat} {v : Value} {xs : List Value} (h : w.ownsRow base e size v n xs) (hM : ∀ k, v.ownBlock = some k → ¬ M k) :
    ∃ A c, v = .slice A n c ∧ n ≤ c ∧ Rd M w A xs := by
  rcases h.2 with ⟨rfl, rfl⟩ | ⟨g, cap, cur, rfl, hg, hh, hn, r⟩
  · refine ⟨none, 0, rfl, Nat.le_refl _, ?_⟩
    have := h.1
    simp only [Nat.zero_mul, List.length_eq_zero_iff] at this
    subst this
    exact Rd.nil _ _ _
  · exact ⟨_, cap, rfl, hn, fun _ => ⟨_, rfl, hM g rfl, h.cells (g := g) rfl⟩⟩
theorem own_fr {M : Nat → Prop} {w w' : World} {base : Nat} {e : TypeId} {size n : Nat} {v : Value} {xs : List Value} (h : w.ownsRow base e size v n xs) (hf : Fr M w w') (hM : ∀ k, v.ownBlock = some k → ¬ M k) : w'.ownsRow base e size v n xs := by
  refine ⟨h.1, ?_⟩
  rcases h.2 with h2 | ⟨g, cap, cur, rfl, hg, hh, r⟩
  · exact .inl h2
  · exact .inr ⟨g, cap, cur, rfl, hg, hf.blk hh (hM g rfl), r⟩
/-- What append's law leaves. -/
theorem Fr.of_grown {w w' : World} {row : Option Nat} (h : w.grownBy w' row) : Fr (fun k => some k = row) w w' := ⟨h.os, h.tape, h.output, h.size, fun k hk hn => h.block k hk hn⟩
end Go.Proofs.YtdoogkohfjkefaaDoor
