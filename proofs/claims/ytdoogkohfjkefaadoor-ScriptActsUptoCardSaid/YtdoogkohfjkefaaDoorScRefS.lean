/- Chapter 22: the reference's 'get', 'put', 'same', 'told'. -/
import Derived.Test.YtdoogkohfjkefaaDoorScRefA
import Derived.Test.YtdoogkohfjkefaaDoorPPrintx1
namespace Go.Proofs.YtdoogkohfjkefaaDoor
open Go.RowKit
theorem u8_beq (f n : UInt8) : ((f.toNat : Int) == (n.toNat : Int)) = decide (f = n) := by
  rw [Bool.eq_iff_iff]
  simp only [beq_iff_eq, decide_eq_true_eq]
  exact ⟨fun h => UInt8.toNat_inj.1 (by omega), fun h => by rw [h]⟩
set_option maxRecDepth 100000 in
theorem refget_any (t : ActT) (A : Option Addr) (m c : Nat) (f : UInt8) (w : World) :
    Calls Tryd.prog 20 #[.agg (t.cellsV (.slice A m c)).toArray, .int .u8 f.toNat] w fun e w' => e = .returned (.int .i64 (t.get f)) ∧ Fr Nob w w' := by
  have e1 : ((f.toNat : Int) == 97) = decide (f = 97) := u8_beq f 97
  have e2 : ((f.toNat : Int) == 99) = decide (f = 99) := u8_beq f 99
  have e3 : ((f.toNat : Int) == 100) = decide (f = 100) := u8_beq f 100
  have ho : t.get f = if f = 97 then t.a else if f = 99 then t.c else if f = 100 then t.d else t.n := rfl
  have hfa := (Fr.refl Nob w).alloc (.cells #[.int .i64 t.k, .int .i64 t.a, .int .i64 t.b, .int .i64 t.c, .int .i64 t.d, .int .i64 t.n, .slice A m c] 24)
  have HFA := Lib.hid hfa
  simp only [ActT.cellsV]
  by_cases h1 : f = 97
  · rw [if_pos h1] at ho
    have HO := Lib.hid ho
    have k1 : ((f.toNat : Int) == 97) = true := by rw [e1]; simpa using h1
    clear e1 e2 e3 h1 ho hfa
    go_enter Tryd.func20, Tryd.ntmps20
    go_wp2_with fail
    go_ret
    exact ⟨by rw [HO.out]; rfl, HFA.out⟩
  rw [if_neg h1] at ho
  have k1 : ((f.toNat : Int) == 97) = false := by rw [e1]; simpa using h1
  by_cases h2 : f = 99
  · rw [if_pos h2] at ho
    have HO := Lib.hid ho
    have k2 : ((f.toNat : Int) == 99) = true := by rw [e2]; simpa using h2
    clear e1 e2 e3 h1 h2 ho hfa
    go_enter Tryd.func20, Tryd.ntmps20
    go_wp2_with fail
    go_ret
    exact ⟨by rw [HO.out]; rfl, HFA.out⟩
  rw [if_neg h2] at ho
  have k2 : ((f.toNat : Int) == 99) = false := by rw [e2]; simpa using h2
  by_cases h3 : f = 100
  · rw [if_pos h3] at ho
    have HO := Lib.hid ho
    have k3 : ((f.toNat : Int) == 100) = true := by rw [e3]; simpa using h3
    clear e1 e2 e3 h1 h2 h3 ho hfa
    go_enter Tryd.func20, Tryd.ntmps20
    go_wp2_with fail
    go_ret
    exact ⟨by rw [HO.out]; rfl, HFA.out⟩
  rw [if_neg h3] at ho
  have HO := Lib.hid ho
  have k3 : ((f.toNat : Int) == 100) = false := by rw [e3]; simpa using h3
  clear e1 e2 e3 h1 h2 h3 ho hfa
  go_enter Tryd.func20, Tryd.ntmps20
  go_wp2_with fail
  go_ret
  exact ⟨by rw [HO.out]; rfl, HFA.out⟩
set_option maxRecDepth 100000 in
theorem refput_any (t : ActT) (A : Option Addr) (m c : Nat) (f : UInt8) (n : Int) (w : World) :
    Calls Tryd.prog 21 #[.agg (t.cellsV (.slice A m c)).toArray, .int .u8 f.toNat, .int .i64 n] w fun e w' => e = .returned (.agg ((t.set f n).cellsV (.slice A m c)).toArray) ∧ Fr Nob w w' := by
  have e1 : ((f.toNat : Int) == 97) = decide (f = 97) := u8_beq f 97
  have e2 : ((f.toNat : Int) == 99) = decide (f = 99) := u8_beq f 99
  have e3 : ((f.toNat : Int) == 100) = decide (f = 100) := u8_beq f 100
  have ho : t.set f n = if f = 97 then { t with a := n } else if f = 99 then { t with c := n } else if f = 100 then { t with d := n } else { t with n := n } := rfl
  simp only [ActT.cellsV]
  by_cases h1 : f = 97
  · rw [if_pos h1] at ho
    have HO := Lib.hid ho
    have k1 : ((f.toNat : Int) == 97) = true := by rw [e1]; simpa using h1
    clear e1 e2 e3 h1 ho
    go_enter Tryd.func21, Tryd.ntmps21
    go_wp2_with fail
    refine bodyPost_ret (v := .agg #[.int .i64 t.k, .int .i64 n, .int .i64 t.b, .int .i64 t.c, .int .i64 t.d, .int .i64 t.n, .slice A m c]) (by simp [results, go_sem]) rfl ⟨by rw [HO.out], ((Fr.refl Nob w).alloc _).alloc _⟩
  rw [if_neg h1] at ho
  have k1 : ((f.toNat : Int) == 97) = false := by rw [e1]; simpa using h1
  by_cases h2 : f = 99
  · rw [if_pos h2] at ho
    have HO := Lib.hid ho
    have k2 : ((f.toNat : Int) == 99) = true := by rw [e2]; simpa using h2
    clear e1 e2 e3 h1 h2 ho
    go_enter Tryd.func21, Tryd.ntmps21
    go_wp2_with fail
    refine bodyPost_ret (v := .agg #[.int .i64 t.k, .int .i64 t.a, .int .i64 t.b, .int .i64 n, .int .i64 t.d, .int .i64 t.n, .slice A m c]) (by simp [results, go_sem]) rfl ⟨by rw [HO.out], ((Fr.refl Nob w).alloc _).alloc _⟩
  rw [if_neg h2] at ho
  have k2 : ((f.toNat : Int) == 99) = false := by rw [e2]; simpa using h2
  by_cases h3 : f = 100
  · rw [if_pos h3] at ho
    have HO := Lib.hid ho
    have k3 : ((f.toNat : Int) == 100) = true := by rw [e3]; simpa using h3
    clear e1 e2 e3 h1 h2 h3 ho
    go_enter Tryd.func21, Tryd.ntmps21
    go_wp2_with fail
    refine bodyPost_ret (v := .agg #[.int .i64 t.k, .int .i64 t.a, .int .i64 t.b, .int .i64 t.c, .int .i64 n, .int .i64 t.n, .slice A m c]) (by simp [results, go_sem]) rfl ⟨by rw [HO.out], ((Fr.refl Nob w).alloc _).alloc _⟩
  rw [if_neg h3] at ho
  have k3 : ((f.toNat : Int) == 100) = false := by rw [e3]; simpa using h3
  have HO := Lib.hid ho
  clear e1 e2 e3 h1 h2 h3 ho
  go_enter Tryd.func21, Tryd.ntmps21
  go_wp2_with fail
  refine bodyPost_ret (v := .agg #[.int .i64 t.k, .int .i64 t.a, .int .i64 t.b, .int .i64 t.c, .int .i64 t.d, .int .i64 n, .slice A m c]) (by simp [results, go_sem]) rfl ⟨by rw [HO.out], ((Fr.refl Nob w).alloc _).alloc _⟩
theorem act_eq {t u : ActT} (h1 : t.k = u.k) (h2 : t.a = u.a) (h3 : t.b = u.b) (h4 : t.c = u.c) (h5 : t.d = u.d) (h6 : t.n = u.n) : t = u := by
  cases t; cases u; simp_all
set_option maxRecDepth 100000 in
set_option maxHeartbeats 4000000 in
theorem refsame_any (t u : ActT) (A B : Option Addr) (m n c d : Nat) (w : World) :
    Calls Tryd.prog 23 #[.agg (t.cellsV (.slice A m c)).toArray, .agg (u.cellsV (.slice B n d)).toArray] w fun e w' => e = .returned (.bool (decide (t = u ∧ m = 0 ∧ n = 0))) ∧ Fr Nob w w' := by
  have hfr : ∀ a b, Fr Nob w ((w.alloc a).alloc b) := fun a b => ((Fr.refl Nob w).alloc a).alloc b
  have HFR := Lib.hid hfr
  clear hfr
  simp only [ActT.cellsV]
  obtain ⟨hm, hm'⟩ : ∃ b : Bool, ((m : Int) == 0) = b ∧ (b = true ↔ m = 0) := ⟨_, rfl, by simp⟩
  obtain ⟨hn, hn', hn2⟩ : ∃ b : Bool, ((n : Int) == 0) = b ∧ (b = true ↔ n = 0) := ⟨_, rfl, by simp⟩
  obtain ⟨hm1, hm2⟩ := hm'
  have HM := Lib.hid hm2
  have HN := Lib.hid hn2
  clear hm2 hn2
  obtain ⟨r, hr⟩ : ∃ r, decide (t = u ∧ m = 0 ∧ n = 0) = r := ⟨_, rfl⟩
  rw [hr]
  have HR := Lib.hid hr
  clear hr
  cases hm <;> cases hn
  all_goals
    go_enter Tryd.func23, Tryd.ntmps23
    go_wp2_with fail
  all_goals
    have hM := HM.out
    have hN := HN.out
    simp only [Bool.false_eq_true, false_iff, true_iff] at hM hN
    first
    | refine bodyPost_ret (v := .bool false) (by simp [results, go_sem]) rfl ⟨?_, HFR.out _ _⟩
      rw [← HR.out, decide_eq_false]
      rintro ⟨h0, h1, h2⟩
      subst h0
      first | contradiction | omega
    | refine bodyPost_ret (v := .bool true) (by simp [results, go_sem]) rfl ⟨?_, HFR.out _ _⟩
      rw [← HR.out, decide_eq_true]
      exact ⟨act_eq ‹_› ‹_› ‹_› ‹_› ‹_› ‹_›, hM, hN⟩
end Go.Proofs.YtdoogkohfjkefaaDoor
