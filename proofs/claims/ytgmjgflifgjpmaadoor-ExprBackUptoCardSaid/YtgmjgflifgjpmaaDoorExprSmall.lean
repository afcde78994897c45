/- The small functions of the reader: names, signs, faults, the two questions for more. -/
import Derived.Test.YtgmjgflifgjpmaaDoorExprSome
import Derived.Lib.ConvBytes
import Derived.Outline
namespace Go.Proofs.YtgmjgflifgjpmaaDoor
open Go.RowKit

def signI (c : Int) : Int := if c = 42 then 4 else if c = 43 then 5 else if c = 63 then 6 else 0
set_option maxHeartbeats 400000 in
theorem sign_any (c : Int) (w : World) :
    Calls Tryd.prog 56 #[.int .u8 c] w fun e w' => e = .returned (.int .i64 (signI c)) ∧ w = w' := by
  unfold signI
  go_enter Tryd.func56, Tryd.ntmps56
  go_wp2
  all_goals (go_ret; refine ⟨?_, rfl⟩; simp_all)

set_option maxHeartbeats 1000000 in
theorem wrong_any (g : Nat) (s : ByteArray) (r : List UInt8) (w : World) (hT : Tx w g s r) :
    Calls Tryd.prog 31 #[.pointer (some ⟨g, 0, none⟩)] w fun e w' => e = .returned (.iface 51 (.pointer (some ⟨w.heap.size, 0, none⟩))) ∧ w' = w.alloc (.cells #[.int .i64 ((s.size : Int) - r.length), .iface 25 (.int .i64 4)] 55) := by
  have c1 := hT.ci
  have HT := Lib.hid hT
  clear hT
  go_enter Tryd.func31, Tryd.ntmps31
  go_wp2
  go_ret
  exact ⟨rfl, rfl⟩

def nameB (l : List UInt8) : Bool := l.all letter && !l.isEmpty
theorem letter_nat (c : UInt8) : letter c = (decide (97 ≤ c.toNat) && decide (c.toNat ≤ 122)) := by
  simp [letter, UInt8.le_iff_toNat_le]

theorem nameB_no {l : List UInt8} {k : Nat} {c : UInt8} (h : l.take (k + 1) = l.take k ++ [c]) (hc : letter c = false) : nameB l = false := by
  have : l.all letter = false := by
    rw [← List.take_append_drop (k + 1) l, h]
    simp [hc]
  simp [nameB, this]
set_option maxRecDepth 100000 in
set_option maxHeartbeats 2000000 in
theorem name_any (s : ByteArray) (hs : s.size ≤ 4611686018427387904) (w : World) :
    Calls Tryd.prog 39 #[.string s] w fun e w' => e = .returned (.bool (nameB s.data.toList)) ∧ Fr Nob w w' := by
  have hcv := fun w => Lib.run_convert_string_bytes (P := Tryd.prog) w 9 33 5 s Tryd.underlying9 Tryd.underlying33 Tryd.underlying5
  go_enter Tryd.func39, Tryd.ntmps39
  go_wp2_with fail
  have HCV := Lib.hid hcv
  clear hcv
  generalize hW : Lib.bytesWorld w 5 s = W
  have hFW : Fr Nob w W := by
    subst hW
    exact ⟨rfl, rfl, rfl, by rw [Lib.bytesWorld_size]; omega, fun k hk _ => Lib.bytesWorld_at_old _ _ _ _ hk⟩
  have hcell : ∀ j, j < s.size → W.cell? ⟨w.heap.size, j, none⟩ = some (.int .u8 (s.data.toList.getD j 0).toNat) := by
    subst hW
    exact fun j hj => Lib.bytesWorld_cell _ _ _ _ hj
  have HC := Lib.hid hcell
  clear hW hcell
  generalize grownCap w s.size 0 5 = cap
  go_loop [8] (fun i => ∃ k : Nat, k ≤ s.size ∧ i = .int .i64 k ∧ Hid ((s.data.toList.take k).all letter = true)) (fun i => s.size - (intOf i).toNat)
  case atStart => exact ⟨0, Nat.zero_le _, rfl, by simp [Hid]⟩
  case round =>
    obtain ⟨k, hk, rfl, HA⟩ := hrel
    by_cases hlt : k < s.size
    · have hc := HC.out k hlt
      have hlen : s.data.toList.length = s.size := by simp
      have hget : s.data.toList.getD k 0 = s.data.toList[k]'(by omega) := by simp [List.getD, hlt]
      have hb := (s.data.toList.getD k 0).toNat_lt
      have HG : s.data.toList.take (k + 1) = s.data.toList.take k ++ [s.data.toList.getD k 0] := by rw [hget]; exact List.take_succ_eq_append_getElem (by omega)
      have HG2 := Lib.hid HG
      clear HG hget hlen
      generalize s.data.toList.getD k 0 = c at hc hb HG2
      by_cases h1 : c.toNat < 97
      · go_wp2
        go_ret
        refine ⟨?_, hFW⟩
        rw [nameB_no HG2.out (by rw [letter_nat]; simp; omega)]
        rfl
      · by_cases h2 : 122 < c.toNat
        · go_wp2
          go_ret
          refine ⟨?_, hFW⟩
          rw [nameB_no HG2.out (by rw [letter_nat]; simp; omega)]
          rfl
        · go_wp2
          go_round
          case rel => exact ⟨k + 1, by omega, by go_num, by rw [Hid, HG2.out]; have := HA.out; simp [this, letter_nat]; omega⟩
          case measure => simp [intOf]; omega
    · go_wp2
      go_ret
      refine ⟨?_, hFW⟩
      have hlen : s.data.toList.length = s.size := by simp
      have ha : s.data.toList.all letter = true := by have := HA.out; rwa [List.take_of_length_le (by omega)] at this
      simp only [nameB, ha, Bool.true_and]
      simp [ByteArray.toList_eq]

theorem nextB_skip (r : List UInt8) : nextB (skipB r) = nextB r := by unfold nextB; rw [skipB_skipB]
theorem nextB_eq {r : List UInt8} {c : UInt8} {t : List UInt8} (h : skipB r = c :: t) (hc : c.toNat ≠ 0) : nextB r = c.toNat := by
  unfold nextB; rw [h]; simp [hc]
theorem nextB_nil {r : List UInt8} (h : skipB r = []) : nextB r = 0 := by unfold nextB; rw [h]
theorem nextB_ne {r : List UInt8} {c : UInt8} {t : List UInt8} (h : skipB r = c :: t) (n : Nat) (hn : 1 < n) (hc : c.toNat ≠ n) : nextB r ≠ (n : Int) := by
  unfold nextB; rw [h]; simp only []; split <;> omega

set_option maxRecDepth 100000 in
set_option maxHeartbeats 2000000 in
theorem choice1_any (g b : Nat) (s : ByteArray) (hs : s.size ≤ 4611686018427387904) (r : List UInt8) (w : World) (hT : Tx w g s r) (hB : Blk w b [.pointer (some ⟨g, 0, none⟩)] 44) (hgb : g ≠ b) :
    Calls Tryd.prog 43 #[.pointer (some ⟨b, 0, none⟩)] w fun e w' => e = .returned (.bool (moreC r).1) ∧ Tx w' g s (moreC r).2 ∧ Fr (One g) w w' := by
  have b0 := hB.cell 0
  simp only [List.getElem?_cons_zero] at b0
  have HT := Lib.hid hT
  have HB := Lib.hid hB
  clear hT hB
  go_enter Tryd.func43, Tryd.ntmps43
  go_wp2_with fail
  refine (next_any g s hs r w HT.out).mono ?_
  rintro e w1 ⟨rfl, hT1, hF1⟩
  have c1 := hT1.ci
  have f1 := hT1.fz 1
  have b1 : w1.cell? ⟨b, 0, none⟩ = some (.pointer (some ⟨g, 0, none⟩)) := (hF1.cell (p := ⟨b, 0, none⟩) HB.out.lt (fun h => hgb (Eq.symm h))).trans b0
  have HF := Lib.hid hF1
  have hl := hT1.2.1
  have HT1 := Lib.hid hT1
  clear hT1 hF1 b0
  cases hsk : skipB r with
  | nil =>
    have hn : nextB r = 0 := nextB_nil hsk
    have hm : moreC r = (false, []) := by unfold moreC; rw [hsk]
    have HM := Lib.hid hm
    have HS := Lib.hid hsk
    rw [hn]
    clear hm hsk hn
    go_wp2_with fail
    go_ret
    rw [HM.out]
    exact ⟨rfl, by have := HT1.out; rwa [HS.out] at this, HF.out⟩
  | cons c t =>
    by_cases hc : c = 124
    · subst hc
      have hn : nextB r = 124 := nextB_eq hsk (by decide)
      have hm : moreC r = (true, t) := by unfold moreC; rw [hsk]; rfl
      have HM := Lib.hid hm
      have HS := Lib.hid hsk
      rw [hn]
      rw [hsk] at c1 hl
      simp only [List.length_cons] at c1 hl
      have e : ((s.size : Int) - ((t.length + 1 : Nat) : Int)) = ((s.size - (t.length + 1) : Nat) : Int) := by omega
      rw [e] at c1
      clear hm hsk hn e
      go_wp2_with fail
      go_ret
      rw [HM.out]
      have hT2 := HT1.out
      rw [HS.out] at hT2
      exact ⟨rfl, hT2.step _ (by omega), HF.out.setCell (p := ⟨g, 1, none⟩) (.inl rfl) _⟩
    · have hn : (nextB r == 124) = false := by
        have := nextB_ne hsk 124 (by omega) (fun h => hc (UInt8.toNat_inj.1 h))
        simpa using this
      have hm : moreC r = (false, c :: t) := by
        unfold moreC
        rw [hsk]
        split
        · rename_i heq; injection heq with h1 _; exact absurd h1 hc
        · rfl
      have HM := Lib.hid hm
      have HS := Lib.hid hsk
      clear hm hsk hc
      go_wp2_with fail
      go_ret
      rw [HM.out]
      exact ⟨rfl, by have := HT1.out; rwa [HS.out] at this, HF.out⟩

set_option maxRecDepth 100000 in
set_option maxHeartbeats 2000000 in
theorem row1_any (g b : Nat) (s : ByteArray) (hs : s.size ≤ 4611686018427387904) (r : List UInt8) (w : World) (hT : Tx w g s r) (hB : Blk w b [.pointer (some ⟨g, 0, none⟩)] 44) :
    Calls Tryd.prog 52 #[.pointer (some ⟨b, 0, none⟩)] w fun e w' => e = .returned (.bool (moreR r).1) ∧ Tx w' g s (moreR r).2 ∧ Fr (One g) w w' := by
  have b0 := hB.cell 0
  simp only [List.getElem?_cons_zero] at b0
  have HT := Lib.hid hT
  clear hT hB
  go_enter Tryd.func52, Tryd.ntmps52
  go_wp2_with fail
  refine (next_any g s hs r w HT.out).mono ?_
  rintro e w1 ⟨rfl, hT1, hF1⟩
  have HF := Lib.hid hF1
  have HT1 := Lib.hid hT1
  clear hT1 hF1 b0
  cases hsk : skipB r with
  | nil =>
    have hn : nextB r = 0 := nextB_nil hsk
    have hm : moreR r = (false, []) := by unfold moreR; rw [hsk]
    have HM := Lib.hid hm
    have HS := Lib.hid hsk
    rw [hn]
    clear hm hsk hn
    go_wp2_with fail
    go_ret
    rw [HM.out]
    exact ⟨rfl, by have := HT1.out; rwa [HS.out] at this, HF.out⟩
  | cons c t =>
    have hm : moreR r = (c != 124 && c != 41, c :: t) := by unfold moreR; rw [hsk]
    have hn0 : (nextB r != 0) = true := by
      unfold nextB; rw [hsk]; simp only []; split <;> simp; omega
    by_cases hc : c = 124
    · subst hc
      have hn : nextB r = 124 := nextB_eq hsk (by decide)
      have HM := Lib.hid hm
      have HS := Lib.hid hsk
      rw [hn]
      clear hm hsk hn hn0
      go_wp2_with fail
      go_ret
      rw [HM.out]
      exact ⟨rfl, by have := HT1.out; rwa [HS.out] at this, HF.out⟩
    · have hn1 : (nextB r != 124) = true := by
        have := nextB_ne hsk 124 (by omega) (fun h => hc (UInt8.toNat_inj.1 h))
        simpa using this
      by_cases hd : c = 41
      · subst hd
        have hn : nextB r = 41 := nextB_eq hsk (by decide)
        have HM := Lib.hid hm
        have HS := Lib.hid hsk
        rw [hn]
        clear hm hsk hn hn0 hn1
        go_wp2_with fail
        go_ret
        rw [HM.out]
        exact ⟨rfl, by have := HT1.out; rwa [HS.out] at this, HF.out⟩
      · have hn2 : (nextB r != 41) = true := by
          have := nextB_ne hsk 41 (by omega) (fun h => hd (UInt8.toNat_inj.1 h))
          simpa using this
        have HM := Lib.hid hm
        have HS := Lib.hid hsk
        have HE := Lib.hid (show (c != 124 && c != 41) = true by simp [hc, hd])
        clear hm hsk hc hd
        go_wp2_with fail
        go_ret
        rw [HM.out, HE.out]
        exact ⟨rfl, by have := HT1.out; rwa [HS.out] at this, HF.out⟩
end Go.Proofs.YtgmjgflifgjpmaaDoor
