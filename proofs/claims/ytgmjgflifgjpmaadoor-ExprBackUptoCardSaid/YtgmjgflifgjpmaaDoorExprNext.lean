/- The reader's place in a text; its next byte that is no blank. -/
import Derived.Test.YtgmjgflifgjpmaaDoorBase
namespace Go.Proofs.YtgmjgflifgjpmaaDoor
open Go.RowKit

/-- Behind blanks. -/
def skipB (r : List UInt8) : List UInt8 := r.dropWhile (fun c => c == 32)
/-- What 'next' tells. -/
def nextB (r : List UInt8) : Int := match skipB r with
  | [] => 0
  | c :: _ => if c.toNat = 0 then 1 else c.toNat
/-- A text that is read: s, what is left of it. -/
def Tx (w : World) (g : Nat) (s : ByteArray) (r : List UInt8) : Prop :=
  Blk w g [.string s, .int .i64 ((s.size : Int) - r.length)] 46 ∧ r.length ≤ s.size ∧ s.data.toList.drop (s.size - r.length) = r
theorem Tx.cs {w : World} {g : Nat} {s : ByteArray} {r : List UInt8} (h : Tx w g s r) : w.cell? ⟨g, 0, none⟩ = some (.string s) := (h.1.cell 0).trans rfl
theorem Tx.ci {w : World} {g : Nat} {s : ByteArray} {r : List UInt8} (h : Tx w g s r) : w.cell? ⟨g, 1, none⟩ = some (.int .i64 ((s.size : Int) - r.length)) := (h.1.cell 1).trans rfl
theorem Tx.fz {w : World} {g : Nat} {s : ByteArray} {r : List UInt8} (h : Tx w g s r) (i : Nat) : w.frozen? ⟨g, i, none⟩ = false := h.1.frozen i
theorem Tx.fr {M : Nat → Prop} {w w' : World} {g : Nat} {s : ByteArray} {r : List UInt8} (h : Tx w g s r) (hf : Fr M w w') (hn : ¬ M g) : Tx w' g s r := ⟨h.1.fr hf hn, h.2⟩
theorem Tx.drewN {w : World} {g : Nat} {s : ByteArray} {r : List UInt8} (h : Tx w g s r) (n : Nat) : Tx (w.drewN n) g s r := h
theorem drop_cons {α : Type} {l : List α} {n : Nat} {c : α} {t : List α} (h : l.drop n = c :: t) : l.drop (n + 1) = t ∧ ∃ hn : n < l.length, l[n] = c := by
  have hn : n < l.length := by
    rcases Nat.lt_or_ge n l.length with h' | h'
    · exact h'
    · rw [List.drop_eq_nil_of_le h'] at h; cases h
  rw [List.drop_eq_getElem_cons hn] at h
  injection h with h1 h2
  exact ⟨h2, hn, h1⟩
theorem Tx.byte {w : World} {g : Nat} {s : ByteArray} {c : UInt8} {r : List UInt8} (h : Tx w g s (c :: r)) : ∃ hn : s.size - (r.length + 1) < s.size, s[s.size - (r.length + 1)] = c := by
  obtain ⟨_, h2, h3⟩ := h
  obtain ⟨_, hn, hc⟩ := drop_cons h3
  have hn' : s.size - (r.length + 1) < s.size := by simp at h2; omega
  exact ⟨hn', by rw [← hc]; rfl⟩
theorem Tx.step {w : World} {g : Nat} {s : ByteArray} {c : UInt8} {r : List UInt8} (h : Tx w g s (c :: r)) (i : Int) (hi : i = (s.size : Int) - r.length) : Tx (w.setCell ⟨g, 1, none⟩ (.int .i64 i)) g s r := by
  subst hi
  obtain ⟨h1, h2, h3⟩ := h
  obtain ⟨h4, _⟩ := drop_cons h3
  simp only [List.length_cons] at h2 h4
  have e : s.size - (r.length + 1) + 1 = s.size - r.length := by omega
  rw [e] at h4
  exact ⟨h1.set 1 _, by omega, h4⟩

set_option maxHeartbeats 2000000 in
theorem next_any (g : Nat) (s : ByteArray) (hs : s.size ≤ 4611686018427387904) (r0 : List UInt8) (w : World) (hT : Tx w g s r0) :
    Calls Tryd.prog 29 #[.pointer (some ⟨g, 0, none⟩)] w fun e w' => e = .returned (.int .u8 (nextB r0)) ∧ Tx w' g s (skipB r0) ∧ Fr (One g) w w' := by
  go_enter Tryd.func29, Tryd.ntmps29
  go_wp2
  go_loopg [] (r0.length) (fun n wr => ∃ r : List UInt8, r.length = n ∧ Hid (Tx wr g s r) ∧ Hid (skipB r = skipB r0) ∧ Hid (Fr (One g) w wr))
  case atStart => exact ⟨r0, rfl, hT, rfl, Fr.refl _ _⟩
  case round =>
    obtain ⟨r, rfl, HT, HS, HF⟩ := hrel
    have c0 := HT.out.cs
    have c1 := HT.out.ci
    have f1 := HT.out.fz 1
    have hl : r.length ≤ s.size := HT.out.2.1
    have HM : r.length ≤ s.size := hl
    cases r with
    | nil =>
      simp only [List.length_nil, Int.natCast_zero, Int.sub_zero] at c1 hl ⊢
      go_wp2_with (fail)
      go_quiet (fail)
      go_wp2_with (fail)
      go_quiet (fail)
      go_wp2_with (fail)
      go_ret
      have e : skipB r0 = [] := HS.out.symm
      refine ⟨by simp [nextB, e], by rw [e]; exact HT.out, ?_⟩
      repeat' (first | exact HF.out | apply Fr.drewN)
    | cons c t =>
      obtain ⟨hn, hc⟩ := HT.out.byte
      simp only [List.length_cons] at hl c1
      obtain ⟨n, hN⟩ : ∃ n, n = s.size - (t.length + 1) := ⟨_, rfl⟩
      have e : ((s.size : Int) - ((t.length + 1 : Nat) : Int)) = (n : Int) := by omega
      rw [e] at c1
      have hlt : n < s.size := by omega
      have hb : ((s[n]'hlt).toNat : Int) = (c.toNat : Int) := by rw [← hc]; simp [hN]
      have H2 := Lib.hid hN
      clear hN hc e
      by_cases hc : c = 32
      · subst hc
        have hb2 : ((s[n]'hlt).toNat : Int) = 32 := hb
        clear hb
        go_wp2_with (fail)
        go_quiet (fail)
        go_wp2_with (fail)
        go_roundg t.length
        case measure => simp
        case rel =>
          have hn : (n : Int) + 1 = (s.size : Int) - t.length := by have := H2.out; omega
          refine ⟨t, rfl, HT.out.step _ hn, ?_, (HF.out.drewN _).setCell (p := ⟨g, 1, none⟩) (.inl rfl) _⟩
          rw [← HS.out]
          simp [Hid, skipB]
      · have hb2 : ((c.toNat : Int) == 32) = false := by
          have : c.toNat ≠ 32 := fun h => hc (UInt8.toNat_inj.1 h)
          simp; omega
        have hb3 : ((n : Int) == (s.size : Int)) = false := by simp; omega
        have hq : (c == 32) = false := by simpa using hc
        have e : skipB r0 = c :: t := by rw [← HS.out]; simp [skipB, List.dropWhile, hq]
        have HE := Lib.hid e
        clear e hc hq
        go_wp2_with (fail)
        go_quiet (fail)
        go_wp2_with (fail)
        go_quiet (fail)
        go_wp2_with (fail)
        go_quiet (fail)
        go_wp2_with (fail)
        all_goals
          go_ret
          refine ⟨?_, by rw [HE.out]; exact HT.out, ?_⟩
          · unfold nextB
            rw [HE.out]
            show _ = Ending.returned (.int .u8 (if c.toNat = 0 then 1 else (c.toNat : Int)))
            split <;> first | (congr 2; done) | (congr 2; omega)
          · repeat' (first | exact HF.out | apply Fr.drewN)
end Go.Proofs.YtgmjgflifgjpmaaDoor
