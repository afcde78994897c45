/- The readers as plain functions: how much fuel they are given does not matter; what stands behind a text. -/
import Derived.Test.YtgmjgflifgjpmaaDoorExprGood
namespace Go.Proofs.YtgmjgflifgjpmaaDoor

theorem someF_fuel {kind : Int} {F : List UInt8 → Res} {G : List UInt8 → Bool × List UInt8} (hF : ∀ r x q, F r = .ok x q → q.length < r.length) (hG : ∀ r, (G r).2.length ≤ r.length) :
    ∀ (n m : Nat) (acc : List Tree) (r : List UInt8), r.length < n → r.length < m → someF kind F G n acc r = someF kind F G m acc r
  | 0, _, _, _, h, _ => by omega
  | _ + 1, 0, _, _, _, h => by omega
  | n + 1, m + 1, acc, r, hn, hm => by
    unfold someF
    cases hf : F r with
    | err q => rfl
    | ok x q =>
      have h1 := hF r x q hf
      have h2 := hG q
      cases hg : G q with
      | mk b q2 =>
        rw [hg] at h2
        simp only at h2
        simp only [hg]
        cases b with
        | false => rfl
        | true => exact someF_fuel hF hG n m _ q2 (by omega) (by omega)
theorem someF_congr {kind : Int} {F F' : List UInt8 → Res} {G : List UInt8 → Bool × List UInt8} (N : Nat) (hF : ∀ r x q, F r = .ok x q → q.length < r.length) (hG : ∀ r, (G r).2.length ≤ r.length) (hE : ∀ t, t.length ≤ N → F t = F' t) :
    ∀ (n : Nat) (acc : List Tree) (r : List UInt8), r.length ≤ N → someF kind F G n acc r = someF kind F' G n acc r
  | 0, _, _, _ => rfl
  | n + 1, acc, r, hn => by
    unfold someF
    rw [← hE r hn]
    cases hf : F r with
    | err q => rfl
    | ok x q =>
      have h1 := hF r x q hf
      have h2 := hG q
      cases hg : G q with
      | mk b q2 =>
        rw [hg] at h2
        simp only at h2
        simp only [hg]
        cases b with
        | false => rfl
        | true => exact someF_congr N hF hG hE n _ q2 (by omega)
theorem signsF_fuel : ∀ (n m : Nat) (e : Tree) (r : List UInt8), r.length < n → r.length < m → signsF n e r = signsF m e r
  | 0, _, _, _, h, _ => by omega
  | _ + 1, 0, _, _, _, h => by omega
  | n + 1, m + 1, e, r, hn, hm => by
    have hs := skipB_le r
    unfold signsF
    split
    · rfl
    · rename_i c t h
      rw [h] at hs
      simp only [List.length_cons] at hs
      split
      · rfl
      · exact signsF_fuel n m _ t (by omega) (by omega)
theorem partF_congr {C C' : List UInt8 → Res} (r : List UInt8) (h : ∀ t, t.length < r.length → C t = C' t) : partF C r = partF C' r := by
  have ha : atomF C r = atomF C' r := by
    have hs := skipB_le r
    unfold atomF
    split
    · rename_i t hq
      rw [hq] at hs
      simp only [List.length_cons] at hs
      rw [h t (by omega)]
    · rfl
  unfold partF
  rw [ha]
theorem good_eats {F : List UInt8 → Res} (h : GoodA F) : ∀ r x q, F r = .ok x q → q.length < r.length := fun r x q e => (h r x q e).1
theorem choiceF_fuel : ∀ (n m : Nat) (r : List UInt8), r.length < n → r.length < m → choiceF n r = choiceF m r
  | 0, _, _, h, _ => by omega
  | _ + 1, 0, _, _, h => by omega
  | n + 1, m + 1, r, hn, hm => by
    unfold choiceF
    refine someF_congr r.length (good_eats (rowF_good (choiceF_good n))) moreC_le (fun t ht => ?_) _ _ _ (Nat.le_refl _)
    unfold rowF
    refine someF_congr t.length (good_eats (partF_good (choiceF_good n))) moreR_le (fun u hu => ?_) _ _ _ (Nat.le_refl _)
    exact partF_congr u (fun v hv => choiceF_fuel n m v (by omega) (by omega))
/-- The readers without fuel. -/
def Ch (r : List UInt8) : Res := choiceF (r.length + 1) r
def Ro (r : List UInt8) : Res := someF 2 (partF Ch) moreR (r.length + 1) [] r
theorem choiceF_Ch (n : Nat) (r : List UInt8) (h : r.length < n) : choiceF n r = Ch r := choiceF_fuel n (r.length + 1) r h (Nat.lt_succ_self _)
theorem Ch_good : GoodA Ch := fun r x q h => choiceF_good _ r x q h
theorem Ch_eq (r : List UInt8) : Ch r = someF 3 Ro moreC (r.length + 1) [] r := by
  unfold Ch
  rw [show choiceF (r.length + 1) r = someF 3 (rowF (choiceF r.length)) moreC (r.length + 1) [] r from rfl]
  refine someF_congr r.length (good_eats (rowF_good (choiceF_good _))) moreC_le (fun t ht => ?_) _ _ _ (Nat.le_refl _)
  unfold rowF Ro
  refine someF_congr t.length (good_eats (partF_good (choiceF_good _))) moreR_le (fun u hu => ?_) _ _ _ (Nat.le_refl _)
  exact partF_congr u (fun v hv => choiceF_Ch _ v (by omega))
theorem Ro_good : GoodA Ro := rowF_good Ch_good

/-! ### What stands behind -/
/-- Behind r there stand blanks, and W. -/
def Beh (W : List UInt8) (r r' : List UInt8) : Prop := ∃ j, r' = r ++ (List.replicate j 32 ++ W)
/-- Nothing, or a bracket that closes and more. -/
def Ends (W : List UInt8) : Prop := W = [] ∨ ∃ t, W = 41 :: t
theorem skipB_rep (j : Nat) (W : List UInt8) (h : skipB W = W) : skipB (List.replicate j 32 ++ W) = W := by
  induction j with
  | zero => exact h
  | succ j ih => rw [List.replicate_succ, List.cons_append]; exact ih
theorem Ends.skip {W : List UInt8} (h : Ends W) : skipB W = W := by
  rcases h with rfl | ⟨t, rfl⟩ <;> rfl
theorem Beh.skip {W r r' : List UInt8} (hW : Ends W) (h : Beh W r r') : Beh W (skipB r) (skipB r') := by
  obtain ⟨j, rfl⟩ := h
  induction r with
  | nil => exact ⟨0, by rw [List.nil_append, skipB_rep j W hW.skip]; rfl⟩
  | cons c t ih =>
    by_cases hc : (c == 32) = true
    · have e1 : skipB (c :: t) = skipB t := by unfold skipB; rw [List.dropWhile_cons, if_pos hc]
      have e2 : skipB (c :: t ++ (List.replicate j 32 ++ W)) = skipB (t ++ (List.replicate j 32 ++ W)) := by unfold skipB; rw [List.cons_append, List.dropWhile_cons, if_pos hc]
      rw [e1, e2]
      exact ih
    · have e1 : skipB (c :: t) = c :: t := by unfold skipB; rw [List.dropWhile_cons, if_neg hc]
      have e2 : skipB (c :: t ++ (List.replicate j 32 ++ W)) = c :: t ++ (List.replicate j 32 ++ W) := by unfold skipB; rw [List.cons_append, List.dropWhile_cons, if_neg hc]
      rw [e1, e2]
      exact ⟨j, rfl⟩
theorem Beh.cons {W : List UInt8} {c : UInt8} {t r' : List UInt8} (h : Beh W (c :: t) r') : ∃ t', r' = c :: t' ∧ Beh W t t' := by
  obtain ⟨j, rfl⟩ := h
  exact ⟨_, rfl, j, rfl⟩
/-- What is behind nothing: nothing, or the bracket, once blanks are gone. -/
theorem Beh.nil_skip {W r r' : List UInt8} (hW : Ends W) (h : Beh W r r') (hr : skipB r = []) : skipB r' = W := by
  obtain ⟨j, e⟩ := h.skip hW
  have h2 : skipB (skipB r') = skipB r' := skipB_skipB r'
  rw [hr, List.nil_append] at e
  rw [← h2, e, skipB_rep j W hW.skip]
/-- A reader does on r' what it does on r; where it fails, it fails too if nothing but blanks stands behind. -/
def Like (W : List UInt8) (F : List UInt8 → Res) (r r' : List UInt8) : Prop := match F r with
  | .ok x q => ∃ q', F r' = .ok x q' ∧ Beh W q q'
  | .err _ => W = [] → ∃ q', F r' = .err q'
def LikeG (W : List UInt8) (G : List UInt8 → Bool × List UInt8) : Prop := ∀ r r', Beh W r r' → (G r').1 = (G r).1 ∧ Beh W (G r).2 (G r').2
theorem moreC_of {r : List UInt8} {c : UInt8} {t : List UInt8} (h : skipB r = c :: t) : moreC r = if c = 124 then (true, t) else (false, c :: t) := by
  unfold moreC
  rw [h]
  split
  · rename_i t' e
    simp only [List.cons.injEq] at e
    rw [if_pos e.1, e.2]
  · rename_i hn
    rw [if_neg (fun hc => hn t (by rw [hc]))]
theorem closeF_of {x : Tree} {q : List UInt8} {c : UInt8} {t : List UInt8} (h : skipB q = c :: t) : closeF (.ok x q) = if c = 41 then .ok x t else .err (c :: t) := by
  show (match skipB q with | 41 :: t => Res.ok x t | r' => .err r') = _
  rw [h]
  split
  · rename_i t' e
    simp only [List.cons.injEq] at e
    rw [if_pos e.1, e.2]
  · rename_i hn
    rw [if_neg (fun hc => hn t (by rw [hc]))]
theorem closeF_nil {x : Tree} {q : List UInt8} (h : skipB q = []) : closeF (.ok x q) = .err [] := by
  show (match skipB q with | 41 :: t => Res.ok x t | r' => .err r') = _
  rw [h]
theorem moreC_like {W : List UInt8} (hW : Ends W) : LikeG W moreC := by
  intro r r' h
  have hs := h.skip hW
  cases hr : skipB r with
  | nil =>
    have e1 : moreC r = (false, []) := by unfold moreC; rw [hr]
    have h2 := h.nil_skip hW hr
    rw [e1]
    rcases hW with rfl | ⟨t, rfl⟩
    · have e2 : moreC r' = (false, []) := by unfold moreC; rw [h2]
      rw [e2]
      exact ⟨rfl, 0, rfl⟩
    · rw [moreC_of h2]
      exact ⟨rfl, 0, rfl⟩
  | cons c t =>
    rw [hr] at hs
    obtain ⟨t', e, hb⟩ := hs.cons
    rw [moreC_of hr, moreC_of e]
    by_cases hc : c = 124
    · rw [if_pos hc, if_pos hc]
      exact ⟨rfl, hb⟩
    · rw [if_neg hc, if_neg hc]
      obtain ⟨j, e⟩ := hb
      exact ⟨rfl, j, by rw [e]; rfl⟩
theorem moreR_like {W : List UInt8} (hW : Ends W) : LikeG W moreR := by
  intro r r' h
  have hs := h.skip hW
  unfold moreR
  cases hr : skipB r with
  | nil =>
    have := h.nil_skip hW hr
    rw [this]
    rcases hW with rfl | ⟨t, rfl⟩
    · exact ⟨rfl, 0, rfl⟩
    · exact ⟨rfl, 0, rfl⟩
  | cons c t =>
    rw [hr] at hs
    obtain ⟨t', e, hb⟩ := hs.cons
    rw [e]
    obtain ⟨j, e⟩ := hb
    exact ⟨rfl, j, by rw [e]; rfl⟩
theorem someF_like {W : List UInt8} {kind : Int} {F : List UInt8 → Res} {G : List UInt8 → Bool × List UInt8} (hF : ∀ r x q, F r = .ok x q → q.length < r.length) (hG : ∀ r, (G r).2.length ≤ r.length) (hLG : LikeG W G) (N : Nat) (hL : ∀ r r', r.length ≤ N → Beh W r r' → Like W F r r') :
    ∀ (n m : Nat) (acc : List Tree) (r r' : List UInt8), r.length ≤ N → r.length < n → r'.length < m → Beh W r r' → match someF kind F G n acc r with
      | .ok x q => ∃ q', someF kind F G m acc r' = .ok x q' ∧ Beh W q q'
      | .err _ => W = [] → ∃ q', someF kind F G m acc r' = .err q'
  | 0, _, _, _, _, _, h, _, _ => by omega
  | _ + 1, 0, _, _, _, _, _, h, _ => by omega
  | n + 1, m + 1, acc, r, r', hN, hn, hm, hb => by
    have h1 := hL r r' hN hb
    unfold Like at h1
    unfold someF
    cases hf : F r with
    | err q =>
      rw [hf] at h1
      intro hw
      obtain ⟨q', e⟩ := h1 hw
      rw [e]
      exact ⟨q', rfl⟩
    | ok x q =>
      rw [hf] at h1
      obtain ⟨q', e, hq⟩ := h1
      rw [e]
      simp only []
      obtain ⟨g1, g2⟩ := hLG q q' hq
      have l1 := hF r x q hf
      have l2 := hF r' x q' e
      have l3 := hG q
      have l4 := hG q'
      cases hg : G q with
      | mk b p =>
        cases hg' : G q' with
        | mk b' p' =>
          rw [hg, hg'] at g1 g2
          rw [hg] at l3
          rw [hg'] at l4
          simp only at g1 g2 l3 l4
          subst g1
          cases b' with
          | false => exact ⟨p', rfl, g2⟩
          | true => exact someF_like hF hG hLG N hL n m _ p p' (by omega) (by omega) (by omega) g2
theorem signsF_like {W : List UInt8} (hW : Ends W) : ∀ (n m : Nat) (e : Tree) (r r' : List UInt8), r.length < n → r'.length < m → Beh W r r' → (signsF m e r').1 = (signsF n e r).1 ∧ Beh W (signsF n e r).2 (signsF m e r').2
  | 0, _, _, _, _, h, _, _ => by omega
  | _ + 1, 0, _, _, _, _, h, _ => by omega
  | n + 1, m + 1, e, r, r', hn, hm, hb => by
    have hs := hb.skip hW
    have l1 := skipB_le r
    have l2 := skipB_le r'
    unfold signsF
    cases hr : skipB r with
    | nil =>
      rw [hb.nil_skip hW hr]
      rcases hW with rfl | ⟨t, rfl⟩
      · exact ⟨rfl, 0, rfl⟩
      · exact ⟨rfl, 0, rfl⟩
    | cons c t =>
      rw [hr] at hs l1
      obtain ⟨t', e', ht⟩ := hs.cons
      rw [e'] at l2
      rw [e']
      simp only [List.length_cons] at l1 l2
      simp only []
      by_cases hk : signK c = 0
      · rw [if_pos hk, if_pos hk]
        obtain ⟨j, e2⟩ := ht
        exact ⟨rfl, j, by rw [e2]; rfl⟩
      · rw [if_neg hk, if_neg hk]
        exact signsF_like hW n m _ t t' (by omega) (by omega) ht
theorem letters_like {W : List UInt8} (hW : Ends W) {r r' : List UInt8} (hb : Beh W r r') : r'.takeWhile letter = r.takeWhile letter ∧ Beh W (r.dropWhile letter) (r'.dropWhile letter) := by
  obtain ⟨j, rfl⟩ := hb
  have hz : (List.replicate j 32 ++ W).takeWhile letter = [] ∧ (List.replicate j 32 ++ W).dropWhile letter = List.replicate j 32 ++ W := by
    cases j with
    | zero => rcases hW with rfl | ⟨t, rfl⟩ <;> exact ⟨rfl, rfl⟩
    | succ j => rw [List.replicate_succ, List.cons_append]; exact ⟨rfl, rfl⟩
  induction r with
  | nil => rw [List.nil_append]; exact ⟨hz.1, j, by rw [hz.2]; rfl⟩
  | cons c t ih =>
    rw [List.cons_append, List.takeWhile_cons, List.takeWhile_cons, List.dropWhile_cons, List.dropWhile_cons]
    split
    · exact ⟨by rw [ih.1], ih.2⟩
    · exact ⟨rfl, j, rfl⟩
theorem atomF_like {W : List UInt8} (hW : Ends W) {C : List UInt8 → Res} {r r' : List UInt8} (hb : Beh W r r') (hC : ∀ t t', t.length < r.length → Beh W t t' → Like W C t t') : Like W (atomF C) r r' := by
  have hs := hb.skip hW
  have l1 := skipB_le r
  by_cases hp : ∃ t, skipB r = 40 :: t
  · obtain ⟨t, hr⟩ := hp
    rw [hr] at hs l1
    obtain ⟨t', e', ht⟩ := hs.cons
    simp only [List.length_cons] at l1
    have h1 := hC t t' (by omega) ht
    have a1 : atomF C r = closeF (C t) := by unfold atomF; rw [hr]; rfl
    have a2 : atomF C r' = closeF (C t') := by unfold atomF; rw [e']; rfl
    unfold Like at h1 ⊢
    rw [a1, a2]
    cases hc : C t with
    | err q =>
      rw [hc] at h1
      intro hw
      obtain ⟨q', e⟩ := h1 hw
      rw [e]
      exact ⟨q', rfl⟩
    | ok x q =>
      rw [hc] at h1
      obtain ⟨q', e, hq⟩ := h1
      rw [e]
      have hsq := hq.skip hW
      cases hq2 : skipB q with
      | nil =>
        rw [closeF_nil hq2]
        intro hw
        have := hq.nil_skip hW hq2
        rw [hw] at this
        rw [closeF_nil this]
        exact ⟨[], rfl⟩
      | cons c u =>
        rw [hq2] at hsq
        obtain ⟨u', e2, hu⟩ := hsq.cons
        rw [closeF_of hq2, closeF_of e2]
        by_cases hc2 : c = 41
        · rw [if_pos hc2, if_pos hc2]
          exact ⟨u', rfl, hu⟩
        · rw [if_neg hc2, if_neg hc2]
          intro _
          exact ⟨_, rfl⟩
  · have hne : ∀ p : List UInt8, (¬ ∃ t, p = 40 :: t) → (match p with | 40 :: t => closeF (C t) | r' => if (r'.takeWhile letter) = [] then .err r' else .ok (.node 1 ⟨(r'.takeWhile letter).toArray⟩ []) (r'.dropWhile letter)) = if (p.takeWhile letter) = [] then .err p else .ok (.node 1 ⟨(p.takeWhile letter).toArray⟩ []) (p.dropWhile letter) := by
      intro p hp
      split
      · rename_i t; exact absurd ⟨t, rfl⟩ hp
      · rfl
    have hp' : ¬ ∃ t, skipB r' = 40 :: t := by
      rintro ⟨t, e⟩
      cases hr : skipB r with
      | nil =>
        rw [hb.nil_skip hW hr] at e
        rcases hW with h | ⟨u, h⟩
        · rw [h] at e; cases e
        · rw [h] at e; simp at e
      | cons c u =>
        rw [hr] at hs
        obtain ⟨u', e2, _⟩ := hs.cons
        rw [e2] at e
        simp only [List.cons.injEq] at e
        exact hp ⟨u, by rw [hr, e.1]⟩
    obtain ⟨e1, e2⟩ := letters_like hW hs
    unfold Like
    rw [show atomF C r = _ from hne _ hp, show atomF C r' = _ from hne _ hp', e1]
    by_cases h0 : (skipB r).takeWhile letter = []
    · rw [if_pos h0, if_pos h0]
      intro _
      exact ⟨_, rfl⟩
    · rw [if_neg h0, if_neg h0]
      exact ⟨_, rfl, e2⟩
theorem partF_like {W : List UInt8} (hW : Ends W) {C : List UInt8 → Res} {r r' : List UInt8} (hb : Beh W r r') (hC : ∀ t t', t.length < r.length → Beh W t t' → Like W C t t') : Like W (partF C) r r' := by
  have h1 := atomF_like hW hb hC
  unfold Like at h1 ⊢
  unfold partF
  cases ha : atomF C r with
  | err q =>
    rw [ha] at h1
    intro hw
    obtain ⟨q', e⟩ := h1 hw
    rw [e]
    exact ⟨q', rfl⟩
  | ok x q =>
    rw [ha] at h1
    obtain ⟨q', e, hq⟩ := h1
    rw [e]
    obtain ⟨s1, s2⟩ := signsF_like hW (q.length + 1) (q'.length + 1) x q q' (Nat.lt_succ_self _) (Nat.lt_succ_self _) hq
    exact ⟨_, by rw [← s1], s2⟩
theorem Ch_like {W : List UInt8} (hW : Ends W) : ∀ (N : Nat) (r r' : List UInt8), r.length ≤ N → Beh W r r' → Like W Ch r r' := by
  intro N
  induction N using Nat.strongRecOn with
  | _ N ih =>
    intro r r' hN hb
    have hP : ∀ t t', t.length ≤ r.length → Beh W t t' → Like W (partF Ch) t t' := fun t t' ht h => partF_like hW h (fun u u' hu h => ih u.length (by omega) u u' (Nat.le_refl _) h)
    have hR : ∀ t t', t.length ≤ r.length → Beh W t t' → Like W Ro t t' := fun t t' ht h => someF_like (good_eats (partF_good Ch_good)) moreR_le (moreR_like hW) r.length hP _ _ [] t t' ht (Nat.lt_succ_self _) (Nat.lt_succ_self _) h
    have := someF_like (kind := 3) (good_eats Ro_good) moreC_le (moreC_like hW) r.length hR (r.length + 1) (r'.length + 1) [] r r' (Nat.le_refl _) (Nat.lt_succ_self _) (Nat.lt_succ_self _) hb
    unfold Like
    rw [Ch_eq r, Ch_eq r']
    exact this
end Go.Proofs.YtgmjgflifgjpmaaDoor
