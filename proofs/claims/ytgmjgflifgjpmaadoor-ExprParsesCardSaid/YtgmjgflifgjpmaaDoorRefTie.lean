/- The reference's reader, however deep brackets stand. -/
import Derived.Test.YtgmjgflifgjpmaaDoorRefPart
namespace Go.Proofs.YtgmjgflifgjpmaaDoor
open Go.RowKit
theorem closeF_skip {R : Res} (hR : ∀ q, R = .err q → skipB q = q) {q : List UInt8} (h : closeF R = .err q) : skipB q = q := by
  cases R with
  | err r => exact hR q (by simpa [closeF] using h)
  | ok x r =>
    cases hs : skipB r with
    | nil =>
      rw [closeF_nil hs] at h
      injection h with h
      subst h
      rfl
    | cons c t =>
      rw [closeF_of hs] at h
      split at h
      · cases h
      · injection h with h
        rw [← h, ← hs, skipB_skipB]
theorem atomF_skip2 {C : List UInt8 → Res} (r : List UInt8) (hC : ∀ t q, t.length < r.length → C t = .err q → skipB q = q) {q : List UInt8} (h : atomF C r = .err q) : skipB q = q := by
  have hs := skipB_le r
  unfold atomF at h
  split at h
  · rename_i t hq
    rw [hq] at hs
    simp only [List.length_cons] at hs
    exact closeF_skip (fun q hh => hC t q (by omega) hh) h
  · split at h
    · injection h with h
      rw [← h, skipB_skipB]
    · cases h
theorem partF_skip2 {C : List UInt8 → Res} (r : List UInt8) (hC : ∀ t q, t.length < r.length → C t = .err q → skipB q = q) {q : List UInt8} (h : partF C r = .err q) : skipB q = q := by
  unfold partF at h
  split at h
  · rename_i r1 hq
    injection h with h
    subst h
    exact atomF_skip2 r hC hq
  · cases h
theorem someF_skip2 {kind : Int} {F : List UInt8 → Res} {G : List UInt8 → Bool × List UInt8} (hF : ∀ r x q, F r = .ok x q → q.length < r.length) (hG : ∀ r, (G r).2.length ≤ r.length) :
    ∀ (n : Nat) (acc : List Tree) (r q : List UInt8), (∀ t q, t.length ≤ r.length → F t = .err q → skipB q = q) → r.length < n → someF kind F G n acc r = .err q → skipB q = q := by
  intro n
  induction n with
  | zero => intro acc r q _ h; omega
  | succ n ih =>
    intro acc r q hE hn h
    unfold someF at h
    cases hf : F r with
    | err q1 =>
      rw [hf] at h
      injection h with h
      subst h
      exact hE r _ (Nat.le_refl _) hf
    | ok y q1 =>
      rw [hf] at h
      have h1 := hF r y q1 hf
      have h4 := hG q1
      cases hg : G q1 with
      | mk b q2 =>
        simp only [hg] at h
        rw [hg] at h4
        simp only at h4
        cases b with
        | false => simp at h
        | true =>
          simp only at h
          exact ih _ _ _ (fun t q ht => hE t q (by omega)) (by omega) h
/-- The place of an error has its blanks skipped. -/
theorem Ch_err : ∀ (n : Nat) (r q : List UInt8), r.length < n → Ch r = .err q → skipB q = q := by
  intro n
  induction n with
  | zero => intro r q h; omega
  | succ n ih =>
    intro r q hn h
    rw [Ch_eq] at h
    refine someF_skip2 (good_eats Ro_good) moreC_le _ _ _ _ (fun t q1 ht hr => ?_) (Nat.lt_succ_self _) h
    refine someF_skip2 (good_eats (partF_good Ch_good)) moreR_le _ _ _ _ (fun t2 q2 ht2 hp => ?_) (Nat.lt_succ_self _) hr
    exact partF_skip2 t2 (fun t3 q3 h3 hc => ih t3 q3 (by omega) hc) hp
theorem Ch_skips (r q : List UInt8) (h : Ch r = .err q) : skipB q = q := Ch_err _ r q (Nat.lt_succ_self _) h
theorem refalt_all (g : Nat) (s : ByteArray) (hs : s.size ≤ 200) : ∀ (n : Nat) (r0 : List UInt8) (w : World), r0.length < n → TxR w g s r0 false →
    Calls Tryd.prog 21 #[.pointer (some ⟨g, 0, none⟩)] w (OutR g s w (r0.length + 1) r0.length (Ch r0)) := by
  intro n
  induction n with
  | zero => intro r0 w h; omega
  | succ n ih =>
    intro r0 w h hT
    rw [Ch_eq]
    exact alt_any Ch (rowF_good Ch_good) g s hs r0 w hT (fun w r hr ht => seq_any Ch (partF_good Ch_good) g s hs r w ht
      (fun w r2 hr2 ht => refpart_any Ch Ch_good Ch_skips g s hs r2 w ht (fun w r3 hr3 ht => ih r3 w (by omega) ht)))
theorem refalt_any (g : Nat) (s : ByteArray) (hs : s.size ≤ 200) (r0 : List UInt8) (w : World) (hT : TxR w g s r0 false) :
    Calls Tryd.prog 21 #[.pointer (some ⟨g, 0, none⟩)] w (OutR g s w (r0.length + 1) r0.length (Ch r0)) := refalt_all g s hs _ r0 w (Nat.lt_succ_self _) hT
end Go.Proofs.YtgmjgflifgjpmaaDoor
