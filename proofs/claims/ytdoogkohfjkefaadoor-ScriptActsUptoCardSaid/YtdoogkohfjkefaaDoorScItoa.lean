/- Chapter 22: a number's digits: read, they are the number; and no other text is. -/
import Derived.Test.YtdoogkohfjkefaaDoorScNum
import Derived.Lib.ItoaLen
namespace Go.Proofs.YtdoogkohfjkefaaDoor
open Go.RowKit
def bigB (n : Int) : Bool := decide (n < -999999999) || decide (999999999 < n)
theorem dec0 : Lib.decDigits 0 = [48] := by rw [Lib.decDigits_one (by omega)]; rfl
theorem dec_head : ∀ (u : Nat), ∃ c t, Lib.decDigits u = c :: t ∧ c.toNat = 48 + (u / 10 ^ (Lib.nDigits u - 1)) % 10 := by
  intro u
  rw [Lib.decDigits_eq]
  have hp := Lib.nDigits_pos u
  obtain ⟨k, hk⟩ : ∃ k, Lib.nDigits u = k + 1 := ⟨Lib.nDigits u - 1, by omega⟩
  rw [hk, List.range_succ_eq_map]
  refine ⟨_, _, rfl, ?_⟩
  unfold Lib.dg
  simp only [Nat.add_sub_cancel, Nat.sub_zero]
  rw [UInt8.toNat_ofNat']
  have : (u / 10 ^ k) % 10 < 10 := Nat.mod_lt _ (by omega)
  omega
theorem dec_all : ∀ (u : Nat), (Lib.decDigits u).all digitB = true ∧ valD (Lib.decDigits u) = u := by
  intro u
  induction u using Nat.strongRecOn with
  | ind u ih =>
    have ho : ∀ i, i < 10 → (UInt8.ofNat (48 + i)).toNat = 48 + i := fun i hi => by rw [UInt8.toNat_ofNat']; omega
    rw [Lib.decDigits]
    by_cases h : u < 10
    · rw [dif_pos h]
      have h1 := ho u h
      refine ⟨?_, ?_⟩
      · simp only [List.all_cons, List.all_nil, Bool.and_true]; rw [digit_nat, h1]; simp; omega
      · show 10 * 0 + _ = u; rw [h1]; omega
    · rw [dif_neg h]
      obtain ⟨a, b⟩ := ih (u / 10) (by omega)
      have h1 := ho (u % 10) (by omega)
      refine ⟨?_, ?_⟩
      · rw [List.all_append, a]; simp only [List.all_cons, List.all_nil, Bool.and_true, Bool.true_and]; rw [digit_nat, h1]; simp; omega
      · rw [valD_snoc, b, h1]; omega
theorem dec_len (u : Nat) : 9 < (Lib.decDigits u).length ↔ 999999999 < u := by
  rw [Lib.decDigits_length]
  have hlt := Lib.lt_pow_nDigits u
  constructor
  · intro h
    have hge : 10 ^ (Lib.nDigits u - 1) ≤ u := by
      rcases Nat.lt_or_ge u (10 ^ (Lib.nDigits u - 1)) with hh | hh
      · exfalso
        have hdg := dec_head u
        obtain ⟨c, t, h1, h2⟩ := hdg
        -- a first digit 0 is impossible for more than one digit
        have hv := (dec_all u).2
        have hl := Lib.decDigits_length u
        rw [h1] at hv hl
        simp only [List.length_cons] at hl
        have hz : (u / 10 ^ (Lib.nDigits u - 1)) = 0 := Nat.div_eq_of_lt hh
        have hu10 : ¬ u < 10 := fun h10 => by rw [Lib.nDigits_small h10] at h; omega
        -- u < 10^(k) with nDigits u = k + 1: against nDigits_unique
        have : ∀ (k v : Nat), Lib.nDigits v = k + 1 → 1 ≤ k → 10 ^ k ≤ v := by
          intro k
          induction k with
          | zero => intro v _ h; omega
          | succ k ihk =>
            intro v hv _
            have hv10 : ¬ v < 10 := fun h10 => by rw [Lib.nDigits_small h10] at hv; omega
            rw [Lib.nDigits_big hv10] at hv
            by_cases hk : k = 0
            · subst hk; omega
            · have := ihk (v / 10) (by omega) (by omega)
              rw [Nat.pow_succ]
              have := Nat.div_add_mod v 10
              omega
        have := this (Lib.nDigits u - 1) u (by omega) (by omega)
        omega
      · exact hh
    have : 10 ^ 9 ≤ 10 ^ (Lib.nDigits u - 1) := Nat.pow_le_pow_right (by omega) (by omega)
    omega
  · intro h
    rcases Nat.lt_or_ge 9 (Lib.nDigits u) with hh | hh
    · exact hh
    · have : 10 ^ Lib.nDigits u ≤ 10 ^ 9 := Nat.pow_le_pow_right (by omega) hh
      omega
theorem dec_zero (u : Nat) (c : UInt8) (t : List UInt8) (h : Lib.decDigits u = c :: t) (hc : c = 48) : u = 0 := by
  by_cases h10 : u < 10
  · rw [Lib.decDigits_one h10] at h
    injection h with h _
    have := congrArg UInt8.toNat (h.trans hc)
    rw [UInt8.toNat_ofNat'] at this
    have e : (48 : UInt8).toNat = 48 := rfl
    omega
  · exfalso
    have : ∀ v : Nat, ¬ v < 10 → ∀ c t, Lib.decDigits v = c :: t → c ≠ 48 := by
      intro v
      induction v using Nat.strongRecOn with
      | ind v ih =>
        intro hv c t h hc
        rw [Lib.decDigits, dif_neg hv] at h
        by_cases hv2 : v / 10 < 10
        · rw [Lib.decDigits_one hv2] at h
          injection h with h _
          have := congrArg UInt8.toNat (h.trans hc)
          rw [UInt8.toNat_ofNat'] at this
          have e : (48 : UInt8).toNat = 48 := rfl
          omega
        · cases hq : Lib.decDigits (v / 10) with
          | nil => have := Lib.decDigits_length (v / 10); rw [hq] at this; have := Lib.nDigits_pos (v / 10); simp at *; omega
          | cons c2 t2 =>
            rw [hq, List.cons_append] at h
            injection h with h _
            exact ih (v / 10) (by omega) hv2 c2 t2 hq (h.trans hc)
    exact this u h10 c t h hc
theorem dec_not45 (u : Nat) : Lib.hasPrefix (Lib.decDigits u) [45] = false := by
  obtain ⟨c, t, h, hc⟩ := dec_head u
  rw [h]
  have : c ≠ 45 := fun e => by rw [e] at hc; have : (45 : UInt8).toNat = 45 := rfl; omega
  simp [Lib.hasPrefix, List.isPrefixOf, Ne.symm this]
theorem itoa_bare (n : Int) : bareL (Lib.itoa n) = Lib.decDigits n.natAbs ∧ negB (Lib.itoa n) = decide (n < 0) := by
  unfold Lib.itoa bareL negB Lib.trimPrefix
  by_cases h : n < 0
  · rw [if_pos h]
    have hp : Lib.hasPrefix (45 :: Lib.decDigits n.natAbs) [45] = true := by simp [Lib.hasPrefix, List.isPrefixOf]
    rw [hp]
    exact ⟨rfl, by simpa using h⟩
  · rw [if_neg h, dec_not45]
    have e : n.toNat = n.natAbs := by omega
    exact ⟨by rw [e]; rfl, by simpa using h⟩
theorem itoa_big (n : Int) : decide (9 < (bareL (Lib.itoa n)).length) = bigB n := by
  rw [(itoa_bare n).1, Bool.eq_iff_iff]
  simp only [decide_eq_true_eq, bigB, Bool.or_eq_true]
  rw [dec_len]
  omega
/-- A number's digits are read as it. -/
theorem num_itoa (n : Int) (h : bigB n = false) : numF (Lib.itoa n) = some n := by
  obtain ⟨hb, hng⟩ := itoa_bare n
  have h9 : ¬ 9 < (bareL (Lib.itoa n)).length := by have := itoa_big n; rw [h] at this; simpa using this
  obtain ⟨ha, hv⟩ := dec_all n.natAbs
  obtain ⟨c, t, hct, _⟩ := dec_head n.natAbs
  unfold numF
  rw [if_neg, hng, hb, hv]
  · congr 1
    by_cases hn : n < 0
    · simp only [hn, decide_true, if_true]; omega
    · simp only [hn, decide_false, Bool.false_eq_true, if_false]; omega
  · rintro (h | h | ⟨h, h2⟩ | h)
    · rw [hb, hct] at h; cases h
    · exact h9 h
    · rw [hb, hct] at h
      injection h with h
      have hz := dec_zero _ c t hct h
      have : n = 0 := by omega
      subst this
      exact h2 (by unfold Lib.itoa; rw [if_neg (by omega)]; exact dec0)
    · rw [hb, ha] at h; cases h
theorem val_dec : ∀ (k : Nat) (l : List UInt8), l.length = k → l ≠ [] → l.all digitB = true → (l.head? ≠ some 48 ∨ l.length = 1) → Lib.decDigits (valD l) = l := by
  intro k
  induction k with
  | zero => intro l h hne; exact absurd (List.length_eq_zero_iff.1 h) hne
  | succ k ih =>
    intro l h hne ha hz
    have e := List.dropLast_concat_getLast hne
    obtain ⟨c, hc⟩ : ∃ c, l.getLast hne = c := ⟨_, rfl⟩
    rw [hc] at e
    have ha2 := ha
    rw [← e, List.all_append, Bool.and_eq_true] at ha2
    have hd : 48 ≤ c.toNat ∧ c.toNat ≤ 57 := by
      have := ha2.2
      simp only [List.all_cons, List.all_nil, Bool.and_true, digit_nat, Bool.and_eq_true, decide_eq_true_eq] at this
      exact this
    have hoc : ∀ i, i = c.toNat - 48 → UInt8.ofNat (48 + i) = c := fun i hi => by
      apply UInt8.toNat_inj.1
      rw [UInt8.toNat_ofNat']
      have := c.toNat_lt
      omega
    by_cases h1 : l.dropLast = []
    · rw [h1] at e
      have e2 : l = [c] := e.symm
      rw [e2]
      have hv : valD [c] = c.toNat - 48 := by show 10 * 0 + _ = _; omega
      rw [hv, Lib.decDigits_one (by omega), hoc _ rfl]
    · have hlen : l.dropLast.length = k := by rw [List.length_dropLast]; omega
      have hk1 : 1 ≤ k := by rw [← hlen]; exact List.length_pos_iff.2 h1
      obtain ⟨c0, t0, hct⟩ : ∃ c0 t0, l.dropLast = c0 :: t0 := by
        cases hq : l.dropLast with
        | nil => exact absurd hq h1
        | cons a b => exact ⟨a, b, rfl⟩
      have hh : l.head? = some c0 := by rw [← e, hct]; rfl
      have hc0 : c0 ≠ 48 := by
        rcases hz with hz | hz
        · intro h48; exact hz (by rw [hh, h48])
        · omega
      have ih2 := ih l.dropLast hlen h1 ha2.1 (.inl (by rw [hct]; intro h48; injection h48 with h48; exact hc0 h48))
      have hv : valD l = 10 * valD l.dropLast + (c.toNat - 48) := by
        have := valD_snoc l.dropLast c
        rwa [e] at this
      have hpos : 1 ≤ valD l.dropLast := by
        rcases Nat.eq_zero_or_pos (valD l.dropLast) with h0 | h0
        · rw [h0] at ih2
          rw [hct] at ih2
          have : Lib.decDigits 0 = [48] := dec0
          rw [this] at ih2
          injection ih2 with ih2 _
          exact absurd ih2.symm hc0
        · exact h0
      have hd10 : valD l / 10 = valD l.dropLast := by omega
      have hm10 : valD l % 10 = c.toNat - 48 := by omega
      rw [Lib.decDigits, dif_neg (by omega), hd10, hm10, ih2, hoc _ rfl]
      exact e
/-- No other text is read as a number than its digits. -/
theorem itoa_num (s : List UInt8) (n : Int) (h : numF s = some n) : Lib.itoa n = s ∧ bigB n = false := by
  unfold numF at h
  split at h
  · cases h
  · rename_i hc
    injection h with h
    have h0 : bareL s ≠ [] := fun e => hc (.inl e)
    have h9 : ¬ 9 < (bareL s).length := fun e => hc (.inr (.inl e))
    have h48 : ¬ ((bareL s).head? = some 48 ∧ s ≠ [48]) := fun e => hc (.inr (.inr (.inl e)))
    have ha : (bareL s).all digitB = true := by
      cases hq : (bareL s).all digitB
      · exact absurd (.inr (.inr (.inr hq))) hc
      · rfl
    have hv := valD_few (bareL s) (by omega) ha
    have hbig : bigB n = false := by
      unfold bigB
      rw [← h]
      split <;> simp <;> omega
    refine ⟨?_, hbig⟩
    by_cases hp : Lib.hasPrefix s [45] = true
    · have hn : negB s = true := hp
      rw [hn] at h
      simp only [if_true] at h
      obtain ⟨t, ht⟩ : ∃ t, s = 45 :: t := by
        cases s with
        | nil => simp [Lib.hasPrefix, List.isPrefixOf] at hp
        | cons c t => simp [Lib.hasPrefix, List.isPrefixOf] at hp; exact ⟨t, by rw [← hp]⟩
      have hbt : bareL s = t := by unfold bareL Lib.trimPrefix; rw [hp, ht]; rfl
      rw [hbt] at h h0 h48 ha hv
      have hhd : t.head? ≠ some 48 := fun e => h48 ⟨e, by rw [ht]; simp⟩
      have hdec := val_dec _ t rfl h0 ha (.inl hhd)
      have hpos : valD t ≠ 0 := by
        intro hz
        rw [hz] at hdec
        have : Lib.decDigits 0 = [48] := dec0
        rw [this] at hdec
        exact hhd (by rw [← hdec]; rfl)
      unfold Lib.itoa
      rw [if_pos (by omega), ht]
      congr 1
      have : n.natAbs = valD t := by omega
      rw [this, hdec]
    · have hp' : Lib.hasPrefix s [45] = false := by simpa using hp
      have hn : negB s = false := hp'
      rw [hn] at h
      simp only [Bool.false_eq_true, if_false] at h
      have hbt : bareL s = s := by unfold bareL Lib.trimPrefix; rw [hp']; rfl
      rw [hbt] at h h0 h48 ha hv
      have hhd : s.head? ≠ some 48 ∨ s.length = 1 := by
        by_cases e : s = [48]
        · right; rw [e]; rfl
        · left; exact fun e2 => h48 ⟨e2, e⟩
      have hdec := val_dec _ s rfl h0 ha hhd
      unfold Lib.itoa
      rw [if_neg (by omega)]
      have : n.toNat = valD s := by omega
      rw [this, hdec]
end Go.Proofs.YtdoogkohfjkefaaDoor
