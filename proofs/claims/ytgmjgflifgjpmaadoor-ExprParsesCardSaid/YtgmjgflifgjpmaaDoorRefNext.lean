/- The reference's reader: its place; 'peek'. -/
import Derived.Test.YtgmjgflifgjpmaaDoorExprSmall
namespace Go.Proofs.YtgmjgflifgjpmaaDoor
open Go.RowKit
/-- A text that the reference reads: s, what is left, whether it erred. -/
def TxR (w : World) (g : Nat) (s : ByteArray) (r : List UInt8) (b : Bool) : Prop :=
  Blk w g [.string s, .int .i64 ((s.size : Int) - r.length), .bool b] 58 ∧ r.length ≤ s.size ∧ s.data.toList.drop (s.size - r.length) = r
theorem TxR.cs {w : World} {g : Nat} {s : ByteArray} {r : List UInt8} {b : Bool} (h : TxR w g s r b) : w.cell? ⟨g, 0, none⟩ = some (.string s) := (h.1.cell 0).trans rfl
theorem TxR.ci {w : World} {g : Nat} {s : ByteArray} {r : List UInt8} {b : Bool} (h : TxR w g s r b) : w.cell? ⟨g, 1, none⟩ = some (.int .i64 ((s.size : Int) - r.length)) := (h.1.cell 1).trans rfl
theorem TxR.cb {w : World} {g : Nat} {s : ByteArray} {r : List UInt8} {b : Bool} (h : TxR w g s r b) : w.cell? ⟨g, 2, none⟩ = some (.bool b) := (h.1.cell 2).trans rfl
theorem TxR.fz {w : World} {g : Nat} {s : ByteArray} {r : List UInt8} {b : Bool} (h : TxR w g s r b) (i : Nat) : w.frozen? ⟨g, i, none⟩ = false := h.1.frozen i
theorem TxR.fr {M : Nat → Prop} {w w' : World} {g : Nat} {s : ByteArray} {r : List UInt8} {b : Bool} (h : TxR w g s r b) (hf : Fr M w w') (hn : ¬ M g) : TxR w' g s r b := ⟨h.1.fr hf hn, h.2⟩
theorem TxR.drewN {w : World} {g : Nat} {s : ByteArray} {r : List UInt8} {b : Bool} (h : TxR w g s r b) (n : Nat) : TxR (w.drewN n) g s r b := h
theorem TxR.byte {w : World} {g : Nat} {s : ByteArray} {c : UInt8} {r : List UInt8} {b : Bool} (h : TxR w g s (c :: r) b) : ∃ hn : s.size - (r.length + 1) < s.size, s[s.size - (r.length + 1)] = c := by
  obtain ⟨_, h2, h3⟩ := h
  obtain ⟨_, hn, hc⟩ := drop_cons h3
  have hn' : s.size - (r.length + 1) < s.size := by simp at h2; omega
  exact ⟨hn', by rw [← hc]; rfl⟩
theorem TxR.step {w : World} {g : Nat} {s : ByteArray} {c : UInt8} {r : List UInt8} {b : Bool} (h : TxR w g s (c :: r) b) (i : Int) (hi : i = (s.size : Int) - r.length) : TxR (w.setCell ⟨g, 1, none⟩ (.int .i64 i)) g s r b := by
  subst hi
  obtain ⟨h1, h2, h3⟩ := h
  obtain ⟨h4, _⟩ := drop_cons h3
  simp only [List.length_cons] at h2 h4
  have e : s.size - (r.length + 1) + 1 = s.size - r.length := by omega
  rw [e] at h4
  exact ⟨h1.set 1 _, by omega, h4⟩
theorem TxR.err {w : World} {g : Nat} {s : ByteArray} {r : List UInt8} {b : Bool} (h : TxR w g s r b) : TxR (w.setCell ⟨g, 2, none⟩ (.bool true)) g s r true := ⟨h.1.set 2 _, h.2⟩
/-- What 'peek' tells. -/
def peekB (b : Bool) (r : List UInt8) : Int := if b then 0 else nextB r

set_option maxHeartbeats 2000000 in
theorem peek_any (g : Nat) (s : ByteArray) (hs : s.size ≤ 4611686018427387904) (r0 : List UInt8) (b : Bool) (w : World) (hT : TxR w g s r0 b) :
    Calls Tryd.prog 20 #[.pointer (some ⟨g, 0, none⟩)] w fun e w' => e = .returned (.int .u8 (peekB b r0)) ∧ TxR w' g s (skipB r0) b ∧ Fr (One g) w w' := by
  go_enter Tryd.func20, Tryd.ntmps20
  go_wp2
  go_loopg [] (r0.length) (fun n wr => ∃ r : List UInt8, r.length = n ∧ Hid (TxR wr g s r b) ∧ Hid (skipB r = skipB r0) ∧ Hid (Fr (One g) w wr))
  case atStart => exact ⟨r0, rfl, hT, rfl, Fr.refl _ _⟩
  case round =>
    obtain ⟨r, rfl, HT, HS, HF⟩ := hrel
    have c0 := HT.out.cs
    have c1 := HT.out.ci
    have cb := HT.out.cb
    have f1 := HT.out.fz 1
    have hl : r.length ≤ s.size := HT.out.2.1
    cases r with
    | nil =>
      simp only [List.length_nil, Int.natCast_zero, Int.sub_zero] at c1 hl ⊢
      cases b
      all_goals
        go_wp2_with (fail)
        go_quiet (fail)
        go_wp2_with (fail)
        go_quiet (fail)
        go_wp2_with (fail)
        go_ret
        have e : skipB r0 = [] := HS.out.symm
        refine ⟨by simp [peekB, nextB, e], by rw [e]; exact HT.out, ?_⟩
        repeat' (first | exact HF.out | apply Fr.drewN)
    | cons c t =>
      obtain ⟨hn, hc⟩ := HT.out.byte
      simp only [List.length_cons] at hl c1
      obtain ⟨n, hN⟩ : ∃ n, n = s.size - (t.length + 1) := ⟨_, rfl⟩
      have e : ((s.size : Int) - ((t.length + 1 : Nat) : Int)) = (n : Int) := by omega
      rw [e] at c1
      have hlt : n < s.size := by omega
      have hb : ((s[n]'hlt).toNat : Int) = (c.toNat : Int) := by rw [← hc]; simp [hN]
      have H2 := Lib.hid hN
      clear hN hc e
      by_cases hc : c = 32
      · subst hc
        have hb2 : ((s[n]'hlt).toNat : Int) = 32 := hb
        clear hb
        go_wp2_with (fail)
        go_quiet (fail)
        go_wp2_with (fail)
        go_roundg t.length
        case measure => simp
        case rel =>
          have hn : (n : Int) + 1 = (s.size : Int) - t.length := by have := H2.out; omega
          refine ⟨t, rfl, HT.out.step _ hn, ?_, (HF.out.drewN _).setCell (p := ⟨g, 1, none⟩) (.inl rfl) _⟩
          rw [← HS.out]
          simp [Hid, skipB]
      · have hb2 : ((c.toNat : Int) == 32) = false := by
          have : c.toNat ≠ 32 := fun h => hc (UInt8.toNat_inj.1 h)
          simp; omega
        have hb3 : ((n : Int) == (s.size : Int)) = false := by simp; omega
        have hq : (c == 32) = false := by simpa using hc
        have e : skipB r0 = c :: t := by rw [← HS.out]; simp [skipB, List.dropWhile, hq]
        have HE := Lib.hid e
        clear e hc hq
        cases b
        · go_wp2_with (fail)
          go_quiet (fail)
          go_wp2_with (fail)
          go_quiet (fail)
          go_wp2_with (fail)
          go_quiet (fail)
          go_wp2_with (fail)
          all_goals
            go_ret
            refine ⟨?_, by rw [HE.out]; exact HT.out, ?_⟩
            · unfold peekB nextB
              rw [HE.out]
              show _ = Ending.returned (.int .u8 (if c.toNat = 0 then 1 else (c.toNat : Int)))
              split <;> first | (congr 2; done) | (congr 2; omega)
            · repeat' (first | exact HF.out | apply Fr.drewN)
        · go_wp2_with (fail)
          go_quiet (fail)
          go_wp2_with (fail)
          go_quiet (fail)
          go_wp2_with (fail)
          go_ret
          refine ⟨rfl, by rw [HE.out]; exact HT.out, ?_⟩
          repeat' (first | exact HF.out | apply Fr.drewN)
end Go.Proofs.YtgmjgflifgjpmaaDoor
