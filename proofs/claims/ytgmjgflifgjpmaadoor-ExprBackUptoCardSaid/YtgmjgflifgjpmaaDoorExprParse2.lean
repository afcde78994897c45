/- 'Parse' in two contracts: a text that is read, and one that is not. -/
import Derived.Test.YtgmjgflifgjpmaaDoorExprAwake
import Derived.Test.YtgmjgflifgjpmaaDoorExprPlain
namespace Go.Proofs.YtgmjgflifgjpmaaDoor
open Go.RowKit
theorem sameB_refl (x : Tree) : sameB x x = true := by
  have hl : sameBL x.l x.l = true := sameBL_true x.l x.l rfl (fun i h1 h2 => sameB_refl x.l[i])
  rw [sameB_eq, hl]
  simp
termination_by x
decreasing_by exact Tree.lt_of_elt x i h1
theorem checkT_few {x : Tree} (h : checkT x = 0) : x.count ≤ 200 ∧ x.deep ≤ 60 ∧ rightB 0 x = true := by
  unfold checkT at h
  split at h
  · omega
  · split at h
    · rename_i h1 h2; exact ⟨by omega, by omega, h2⟩
    · omega
theorem whole_few {r : List UInt8} {x : Tree} (h : wholeT r = some x) : checkT x = 0 := by
  unfold wholeT at h
  split at h
  · injection h with h
    subst h
    rfl
  · cases hc : Ch (skipB r) with
    | err q => rw [hc] at h; cases h
    | ok y q =>
      rw [hc] at h
      have h' : (if skipB q = [] ∧ checkT y = 0 then some y else none) = some x := h
      split at h'
      · rename_i hh
        injection h' with h'
        subst h'
        exact hh.2
      · cases h'
theorem parse_ok (s : ByteArray) (x : Tree) (hs : s.size ≤ 200) (h : wholeT s.data.toList = some x) (w : World) (hg : HG w) :
    Calls Tryd.prog 9 #[.string s] w fun e w' => ∃ A c, e = .returned (.tuple #[.agg #[.int .i64 x.k, .string x.name, .slice A x.l.length c], .int .i64 s.size, .int .i64 0]) ∧ ERep (fun k => w'.heap.size ≤ k) w' x [.int .i64 x.k, .string x.name, .slice A x.l.length c] ∧ Fr Nob w w' := by
  refine (parse_any s w hg).mono ?_
  rintro e w' ⟨⟨cs, rfl, hx⟩, hF⟩
  rw [parse_some hs h] at hx ⊢
  obtain ⟨A, c, css, rfl, _, _, _⟩ := hx.open_
  exact ⟨A, c, rfl, ERep.mono (fun k hk => .inr hk) _ _ hx.bound, hF⟩
theorem parse_err (s : ByteArray) (hs : s.size ≤ 200) (h : wholeT s.data.toList = none) (w : World) (hg : HG w) :
    Calls Tryd.prog 9 #[.string s] w fun e w' => ∃ A c i, e = .returned (.tuple #[.agg #[.int .i64 0, .string ⟨#[]⟩, .slice A 0 c], .int .i64 i, .int .i64 4]) ∧ Fr Nob w w' := by
  refine (parse_any s w hg).mono ?_
  rintro e w' ⟨⟨cs, rfl, hx⟩, hF⟩
  obtain ⟨i, hi⟩ := parse_none hs h
  rw [hi] at hx ⊢
  obtain ⟨A, c, css, rfl, _, _, _⟩ := hx.open_
  exact ⟨A, c, i, rfl, hF⟩
end Go.Proofs.YtgmjgflifgjpmaaDoor
