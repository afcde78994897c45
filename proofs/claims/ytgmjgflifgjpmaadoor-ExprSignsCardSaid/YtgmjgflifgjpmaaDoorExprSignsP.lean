/- ExprSigns: the plain part: a name with signs behind it. -/
import Derived.Test.YtgmjgflifgjpmaaDoorExprAwake
namespace Go.Proofs.YtgmjgflifgjpmaaDoor.exprSigns
/-- The sign of a number. -/
def gB (z : Int) : UInt8 := if z % 3 = 0 then 42 else if z % 3 = 1 then 43 else 63
def gK (z : Int) : Int := if z % 3 = 0 then 4 else if z % 3 = 1 then 5 else 6
/-- The text of some signs. -/
def txt (zs : List Int) : ByteArray := ⟨(97 :: zs.map gB).toArray⟩
/-- The tree of some signs. -/
def nest (e : Tree) : List Int → Tree
  | [] => e
  | z :: zs => nest (.node (gK z) ⟨#[]⟩ [e]) zs
def nameA : Tree := .node 1 ⟨#[97]⟩ []
theorem gB_cases (z : Int) : gB z = 42 ∨ gB z = 43 ∨ gB z = 63 := by unfold gB; split; simp; split <;> simp
theorem gB_sign (z : Int) : signK (gB z) = gK z := by
  unfold gB gK
  split
  · rfl
  · split <;> rfl
theorem gK_ne (z : Int) : gK z ≠ 0 := by
  unfold gK
  split
  · decide
  · split <;> decide
theorem gB_skip (z : Int) (t : List UInt8) : skipB (gB z :: t) = gB z :: t := by
  unfold skipB
  rw [List.dropWhile_cons]
  rcases gB_cases z with h | h | h <;> rw [h] <;> rfl
theorem gB_letter (z : Int) : letter (gB z) = false := by
  rcases gB_cases z with h | h | h <;> rw [h] <;> rfl
theorem signsF_nest : ∀ (zs : List Int) (k : Nat) (e : Tree), zs.length < k → signsF k e (zs.map gB) = (nest e zs, [])
  | [], 0, _, h => by simp at h
  | [], k + 1, e, _ => rfl
  | z :: zs, 0, _, h => by simp at h
  | z :: zs, k + 1, e, h => by
    unfold signsF
    rw [List.map_cons, gB_skip]
    simp only []
    rw [if_neg (by rw [gB_sign]; exact gK_ne z), gB_sign]
    exact signsF_nest zs k _ (by simpa using h)
theorem take_signs (zs : List Int) : (zs.map gB).takeWhile letter = [] ∧ (zs.map gB).dropWhile letter = zs.map gB := by
  cases zs with
  | nil => exact ⟨rfl, rfl⟩
  | cons z zs => simp [gB_letter]
theorem part_txt (C : List UInt8 → Res) (zs : List Int) : partF C (97 :: zs.map gB) = .ok (nest nameA zs) [] := by
  have ha : atomF C (97 :: zs.map gB) = .ok nameA (zs.map gB) := by
    unfold atomF
    have hs : skipB (97 :: zs.map gB) = 97 :: zs.map gB := rfl
    rw [hs]
    have h1 : (97 :: zs.map gB).takeWhile letter = [97] := by
      rw [List.takeWhile_cons, (take_signs zs).1]; rfl
    have h2 : (97 :: zs.map gB).dropWhile letter = zs.map gB := by
      rw [List.dropWhile_cons, (take_signs zs).2]; rfl
    split
    · rename_i t hq; simp at hq
    · rw [h1, h2]; rfl
  unfold partF
  rw [ha]
  simp only []
  rw [signsF_nest zs _ _ (by simp)]
theorem some_one {kind : Int} {F : List UInt8 → Res} {G : List UInt8 → Bool × List UInt8} {n : Nat} {r : List UInt8} {x : Tree} {q : List UInt8} (hF : F r = .ok x q) {q2 : List UInt8} (hG : G q = (false, q2)) : someF kind F G (n + 1) [] r = .ok x q2 := by
  unfold someF
  rw [hF]
  simp only []
  rw [hG]
  rfl
theorem choice_txt (n : Nat) (zs : List Int) : choiceF (n + 1) (97 :: zs.map gB) = .ok (nest nameA zs) [] := by
  unfold choiceF
  have h2 : rowF (choiceF n) (97 :: zs.map gB) = .ok (nest nameA zs) [] := some_one (kind := 2) (G := moreR) (part_txt _ zs) (q2 := []) rfl
  exact some_one (kind := 3) (G := moreC) h2 (q2 := []) rfl
theorem nest_count (e : Tree) : ∀ zs : List Int, (nest e zs).count = e.count + zs.length ∧ (nest e zs).deep = e.deep + zs.length
  | [] => ⟨rfl, rfl⟩
  | z :: zs => by
    obtain ⟨h1, h2⟩ := nest_count (.node (gK z) ⟨#[]⟩ [e]) zs
    simp only [nest, h1, h2, List.length_cons]
    simp only [Tree.count, countL, Tree.deep, deepL]
    omega
theorem nest_right (zs : List Int) : ∀ (e : Tree) (inn : Int), (∀ i, rightB i e = true) → rightB inn (nest e zs) = true := by
  induction zs with
  | nil => intro e inn h; exact h inn
  | cons z zs ih =>
    intro e inn h
    refine ih _ inn (fun i => ?_)
    rw [rightB_eq]
    simp only [Tree.k, Tree.name, Tree.l, rightBL, h]
    have : gK z = 4 ∨ gK z = 5 ∨ gK z = 6 := by unfold gK; split; simp; split <;> simp
    rcases this with h | h | h <;> rw [h] <;> rfl
theorem parse_txt (zs : List Int) (h : zs.length ≤ 58) : parseF (txt zs) = (nest nameA zs, (zs.length : Int) + 1, 0) := by
  have hsz : (txt zs).size = zs.length + 1 := by simp [txt, ByteArray.size]
  have hl : (txt zs).data.toList = 97 :: zs.map gB := by simp [txt]
  unfold parseF
  rw [if_neg (by omega)]
  unfold wholeF
  rw [hl]
  have hs : skipB (97 :: zs.map gB) = 97 :: zs.map gB := rfl
  rw [hs, if_neg (by simp), choice_txt]
  obtain ⟨h1, h2⟩ := nest_count nameA zs
  have hc : checkT (nest nameA zs) = 0 := by
    unfold checkT
    have e1 : nameA.count = 1 := rfl
    have e2 : nameA.deep = 1 := rfl
    rw [if_neg (by omega), nest_right zs nameA 0 (fun i => by rfl)]
    rfl
  have hw : wholeC (txt zs).size (.ok (nest nameA zs) []) = .ok (nest nameA zs) := by
    show (if skipB [] = [] then (if checkT (nest nameA zs) = 0 then Whole.ok (nest nameA zs) else .err 0) else .err ((txt zs).size - ([] : List UInt8).length)) = _
    rw [if_pos (show skipB [] = [] from rfl), if_pos hc]
  rw [hw, hsz]
  rfl
end Go.Proofs.YtgmjgflifgjpmaaDoor.exprSigns
