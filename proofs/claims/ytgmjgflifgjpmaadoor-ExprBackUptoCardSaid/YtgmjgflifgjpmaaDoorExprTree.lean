/- Trees of expressions in memory. -/
import Derived.Test.YtgmjgflifgjpmaaDoorRd
namespace Go.Proofs.YtgmjgflifgjpmaaDoor
open Go.RowKit

inductive Tree where
  | node (k : Int) (name : ByteArray) (l : List Tree)
def Tree.k : Tree → Int | .node k _ _ => k
def Tree.name : Tree → ByteArray | .node _ n _ => n
def Tree.l : Tree → List Tree | .node _ _ l => l

mutual
/-- The three cells of a tree. -/
def ERep (M : Nat → Prop) (w : World) : Tree → List Value → Prop
  | .node k n l, cs => ∃ A c css, cs = [.int .i64 k, .string n, .slice A l.length c] ∧ l.length ≤ c ∧ Rd M w A css ∧ EReps M w l css
/-- The cells of trees, one behind the other. -/
def EReps (M : Nat → Prop) (w : World) : List Tree → List Value → Prop
  | [], css => css = []
  | x :: xs, css => ∃ c0 c1 c2 rest, css = c0 :: c1 :: c2 :: rest ∧ ERep M w x [c0, c1, c2] ∧ EReps M w xs rest
end

mutual
theorem ERep.fr {M M' : Nat → Prop} {w w' : World} (hf : Fr M' w w') (hM : ∀ k, k < w.heap.size → M' k → M k) : ∀ (x : Tree) (cs : List Value), ERep M w x cs → ERep M w' x cs
  | .node k n l, cs => by
    simp only [ERep]
    rintro ⟨A, c, css, rfl, hl, hr, h⟩
    exact ⟨A, c, css, rfl, hl, hr.fr hf hM, EReps.fr hf hM l css h⟩
theorem EReps.fr {M M' : Nat → Prop} {w w' : World} (hf : Fr M' w w') (hM : ∀ k, k < w.heap.size → M' k → M k) : ∀ (l : List Tree) (cs : List Value), EReps M w l cs → EReps M w' l cs
  | [], cs => by simp only [EReps]; exact id
  | x :: xs, cs => by
    simp only [EReps]
    rintro ⟨c0, c1, c2, rest, rfl, hx, hs⟩
    exact ⟨c0, c1, c2, rest, rfl, ERep.fr hf hM x _ hx, EReps.fr hf hM xs rest hs⟩
end
mutual
theorem ERep.mono {M M' : Nat → Prop} {w : World} (hM : ∀ k, M' k → M k) : ∀ (x : Tree) (cs : List Value), ERep M w x cs → ERep M' w x cs
  | .node k n l, cs => by
    simp only [ERep]
    rintro ⟨A, c, css, rfl, hl, hr, h⟩
    exact ⟨A, c, css, rfl, hl, hr.mono hM, EReps.mono hM l css h⟩
theorem EReps.mono {M M' : Nat → Prop} {w : World} (hM : ∀ k, M' k → M k) : ∀ (l : List Tree) (cs : List Value), EReps M w l cs → EReps M' w l cs
  | [], cs => by simp only [EReps]; exact id
  | x :: xs, cs => by
    simp only [EReps]
    rintro ⟨c0, c1, c2, rest, rfl, hx, hs⟩
    exact ⟨c0, c1, c2, rest, rfl, ERep.mono hM x _ hx, EReps.mono hM xs rest hs⟩
end
mutual
theorem ERep.bound {M : Nat → Prop} {w : World} : ∀ (x : Tree) (cs : List Value), ERep M w x cs → ERep (fun k => M k ∨ w.heap.size ≤ k) w x cs
  | .node k n l, cs => by
    simp only [ERep]
    rintro ⟨A, c, css, rfl, hl, hr, h⟩
    exact ⟨A, c, css, rfl, hl, hr.bound, EReps.bound l css h⟩
theorem EReps.bound {M : Nat → Prop} {w : World} : ∀ (l : List Tree) (cs : List Value), EReps M w l cs → EReps (fun k => M k ∨ w.heap.size ≤ k) w l cs
  | [], cs => by simp only [EReps]; exact id
  | x :: xs, cs => by
    simp only [EReps]
    rintro ⟨c0, c1, c2, rest, rfl, hx, hs⟩
    exact ⟨c0, c1, c2, rest, rfl, ERep.bound x _ hx, EReps.bound xs rest hs⟩
end
theorem EReps.len {M : Nat → Prop} {w : World} : ∀ (l : List Tree) (cs : List Value), EReps M w l cs → cs.length = l.length * 3
  | [], cs => by simp only [EReps]; rintro rfl; rfl
  | x :: xs, cs => by
    simp only [EReps]
    rintro ⟨c0, c1, c2, rest, rfl, hx, hs⟩
    have := EReps.len xs rest hs
    simp only [List.length_cons]
    omega
theorem EReps.append {M : Nat → Prop} {w : World} : ∀ (l l' : List Tree) (cs cs' : List Value), EReps M w l cs → EReps M w l' cs' → EReps M w (l ++ l') (cs ++ cs')
  | [], l', cs, cs' => by simp only [EReps]; rintro rfl h; exact h
  | x :: xs, l', cs, cs' => by
    simp only [EReps, List.cons_append]
    rintro ⟨c0, c1, c2, rest, rfl, hx, hs⟩ h
    exact ⟨c0, c1, c2, rest ++ cs', rfl, hx, EReps.append xs l' rest cs' hs h⟩
theorem EReps.one {M : Nat → Prop} {w : World} {x : Tree} {cs : List Value} (h : ERep M w x cs) : EReps M w [x] cs := by
  cases x with
  | node k n l =>
    have h' := h
    simp only [ERep] at h
    obtain ⟨A, c, css, rfl, hl, hr, h⟩ := h
    simp only [EReps]
    exact ⟨_, _, _, [], rfl, h', rfl⟩
theorem ERep.open_ {M : Nat → Prop} {w : World} {x : Tree} {cs : List Value} (h : ERep M w x cs) : ∃ A c css, cs = [.int .i64 x.k, .string x.name, .slice A x.l.length c] ∧ x.l.length ≤ c ∧ Rd M w A css ∧ EReps M w x.l css := by
  cases x with
  | node k n l =>
    simp only [ERep] at h
    exact h
theorem ERep.mk {M : Nat → Prop} {w : World} {k : Int} {n : ByteArray} {l : List Tree} {A : Option Addr} {c : Nat} {css : List Value} (hl : l.length ≤ c) (hr : Rd M w A css) (h : EReps M w l css) : ERep M w (.node k n l) [.int .i64 k, .string n, .slice A l.length c] := by
  simp only [ERep]
  exact ⟨A, c, css, rfl, hl, hr, h⟩
theorem ERep.empty (M : Nat → Prop) (w : World) (k : Int) (n : ByteArray) : ERep M w (.node k n []) [.int .i64 k, .string n, .slice none 0 0] := ERep.mk (l := []) (Nat.zero_le _) (Rd.nil _ _ _) (by simp [EReps])
/-- Every cell is one cell. -/
theorem EReps.one_cells {M : Nat → Prop} {w : World} : ∀ (l : List Tree) (cs : List Value), EReps M w l cs → ∀ u ∈ cs, u.oneCell' = true
  | [], cs => by simp only [EReps]; rintro rfl u hu; cases hu
  | .node k n l :: xs, cs => by
    simp only [EReps]
    rintro ⟨c0, c1, c2, rest, rfl, hx, hs⟩ u hu
    obtain ⟨A, c, css, e, _⟩ := hx.open_
    injection e with e0 e
    injection e with e1 e
    injection e with e2 e
    subst e0 e1 e2
    simp only [List.mem_cons] at hu
    rcases hu with rfl | rfl | rfl | hu
    · rfl
    · rfl
    · rfl
    · exact EReps.one_cells xs rest hs u hu
theorem EReps.fr0 {M : Nat → Prop} {w w' : World} {l : List Tree} {cs : List Value} (h : EReps M w l cs) (hf : Fr M w w') : EReps M w' l cs := EReps.fr hf (fun _ _ h => h) l cs h
theorem ERep.fr0 {M : Nat → Prop} {w w' : World} {x : Tree} {cs : List Value} (h : ERep M w x cs) (hf : Fr M w w') : ERep M w' x cs := ERep.fr hf (fun _ _ h => h) x cs h

/-- A row of trees of the call's own (blocks from base on); what the trees lead to is not in it, and not in M. -/
def OwnT (M : Nat → Prop) (w : World) (base : Nat) (v : Value) (l : List Tree) : Prop :=
  ∃ css, w.ownsRow base 24 3 v l.length css ∧ EReps (fun k => M k ∨ some k = v.ownBlock) w l css
theorem OwnT.nil (M : Nat → Prop) (w : World) (base : Nat) : OwnT M w base (.slice none 0 0) [] := ⟨[], World.ownsRow_nil _ _ _ _, by simp [EReps]⟩
theorem OwnT.fr {M M' : Nat → Prop} {w w' : World} {base : Nat} {v : Value} {l : List Tree} (h : OwnT M w base v l) (hf : Fr M' w w') (hM : ∀ k, M' k → M k) (hv : ∀ k, v.ownBlock = some k → ¬ M' k) : OwnT M w' base v l := by
  obtain ⟨css, ho, hr⟩ := h
  exact ⟨css, own_fr ho hf hv, EReps.fr hf (fun k _ hm => .inl (hM k hm)) _ _ hr⟩
theorem OwnT.slice {M : Nat → Prop} {w : World} {base : Nat} {v : Value} {l : List Tree} (h : OwnT M w base v l) : ∃ A c, v = .slice A l.length c := by
  obtain ⟨css, ho, hr⟩ := h
  obtain ⟨A, c, e, _⟩ := Rd.of_own (M := Nob) ho (fun _ _ h => h)
  exact ⟨A, c, e⟩
theorem OwnT.rep {M : Nat → Prop} {w : World} {base : Nat} {v : Value} {l : List Tree} (h : OwnT M w base v l) (hM : ∀ k, v.ownBlock = some k → ¬ M k) (k : Int) (n : ByteArray) : ERep M w (.node k n l) [.int .i64 k, .string n, v] := by
  obtain ⟨css, ho, hr⟩ := h
  obtain ⟨A, c, rfl, hc, hR⟩ := Rd.of_own ho hM
  exact ERep.mk hc hR (EReps.mono (fun k hk => .inl hk) _ _ hr)
theorem OwnT.appended {M : Nat → Prop} {w w' : World} {base : Nat} {v v' : Value} {l l' : List Tree} {css news : List Value} (hr : EReps (fun k => M k ∨ some k = v.ownBlock) w l css)
    (hn : EReps (fun k => M k ∨ some k = v.ownBlock) w l' news) (ho : w'.ownsRow base 24 3 v' (l.length + l'.length) (css ++ news)) (hg : w.grownBy w' v.ownBlock) (hat : v'.ownBlock = v.ownBlock ∨ v'.ownBlock = some w.heap.size) : OwnT M w' base v' (l ++ l') := by
  refine ⟨css ++ news, by rw [List.length_append]; exact ho, ?_⟩
  have h1 := EReps.fr (M' := fun k => some k = v.ownBlock) (Fr.of_grown hg) (fun k _ hk => .inl (.inr hk)) _ _ (EReps.append _ _ _ _ hr hn).bound
  refine EReps.mono (fun k hk => ?_) _ _ h1
  rcases hk with hk | hk
  · exact .inl (.inl hk)
  · rcases hat with h | h
    · exact .inl (.inr (by rw [hk, h]))
    · rw [h] at hk
      injection hk with hk
      exact .inr (by omega)
end Go.Proofs.YtgmjgflifgjpmaaDoor
