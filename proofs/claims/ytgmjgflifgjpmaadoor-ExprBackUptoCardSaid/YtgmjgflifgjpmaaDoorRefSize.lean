/- The reference's 'count' and 'deep'. -/
import Derived.Test.YtgmjgflifgjpmaaDoorExprSize
namespace Go.Proofs.YtgmjgflifgjpmaaDoor
open Go.RowKit
set_option maxRecDepth 100000 in
theorem refcount_any (x : Tree) (cs : List Value) (w : World) (h : ERep Nob w x cs) (hn : x.count ≤ 4611686018427387904) :
    Calls Tryd.prog 26 #[.agg cs.toArray] w fun e w' => e = .returned (.int .i64 x.count) ∧ Fr Nob w w' := by
  obtain ⟨A, c, css, rfl, hc, hR, hE⟩ := h.open_
  have HR := Lib.hid hR
  have HE := Lib.hid hE
  clear hR hE h
  have hbx := Blk.new w [.int .i64 x.k, .string x.name, .slice A x.l.length c] 24
  have HB := Lib.hid hbx
  clear hbx
  go_enter Tryd.func26, Tryd.ntmps26
  go_wp2_with fail
  go_loopg [3, 4] (x.l.length) (fun n a i wr => ∃ k, n = x.l.length - k ∧ k ≤ x.l.length ∧ a = .int .i64 ((countL (x.l.take k) + 1 : Nat) : Int) ∧ i = .int .i64 k ∧ Hid (Fr Nob w wr) ∧ Hid (Blk wr w.heap.size [.int .i64 x.k, .string x.name, .slice A x.l.length c] 24))
  case atStart => exact ⟨0, rfl, Nat.zero_le _, rfl, rfl, (Fr.refl _ _).alloc _, HB.out⟩
  case round =>
    obtain ⟨k, rfl, hk, rfl, rfl, HF, HBx⟩ := hrel
    have hlb := HBx.out.lt
    have d0 := HBx.out.cell 2
    simp only [List.getElem?_cons_zero, List.getElem?_cons_succ] at d0
    by_cases hlt : k < x.l.length
    · have ht : ((k : Int) < (x.l.length : Int)) := by omega
      obtain ⟨ad, A2, c2, rfl, q0, q1, q2, hX⟩ := EReps.elt (HR.out.fr HF.out (fun _ _ h => h)) (HE.out.fr0 HF.out) hlt
      have HX := Lib.hid hX
      have hcn : x.l[k].count ≤ 4611686018427387904 := by have := count_lt_of_mem x.l k hlt; have := count_eq x; omega
      have hsum := countL_take x.l k hlt
      have hdm := deepL_take x.l k hlt
      have hle := countL_le x.l (k + 1)
      have HC := Lib.hid hcn
      have HA := Lib.hid (And.intro hsum (And.intro hdm hle))
      clear hX hcn hsum hdm hle
      go_wp2_with fail
      refine (refcount_any x.l[k] _ wr HX.out HC.out).mono ?_
      rintro e w2 ⟨rfl, hF2⟩
      have HF2 := Lib.hid (HF.out.same hF2)
      have HBx2 := Lib.hid (HBx.out.fr hF2 (fun h => h))
      clear hF2 q0 q1 q2 d0
      go_wp2_with fail
      all_goals
        go_roundg (x.l.length - (k + 1))
        case measure => omega
        case rel =>
          obtain ⟨hsum, hdm, hle⟩ := HA.out
          have hlen := len_le_countL x.l
          have hcx := count_eq x
          refine ⟨k + 1, rfl, hlt, ?_, ?_, HF2.out, HBx2.out⟩
          · rw [w64 _ (by omega) (by omega), hsum]; congr 1; omega
          · rw [w64 _ (by omega) (by omega)]; rfl
    · have ht : ¬ ((k : Int) < (x.l.length : Int)) := by omega
      have hkl : k = x.l.length := by omega
      subst hkl
      have hcx := count_eq x
      have hdx := deep_eq x
      have hdl := deepL_le x.l
      rw [List.take_length]
      have HA := Lib.hid (And.intro hcx (And.intro hdx hdl))
      clear hcx hdx hdl
      go_wp2_with fail
      obtain ⟨hcx, hdx, hdl⟩ := HA.out
      go_ret
      refine ⟨?_, HF.out⟩
      rw [hcx]; rfl
termination_by x
decreasing_by exact Tree.lt_of_elt x k hlt
set_option maxRecDepth 100000 in
theorem refdeep_any (x : Tree) (cs : List Value) (w : World) (h : ERep Nob w x cs) (hn : x.count ≤ 4611686018427387904) :
    Calls Tryd.prog 27 #[.agg cs.toArray] w fun e w' => e = .returned (.int .i64 x.deep) ∧ Fr Nob w w' := by
  obtain ⟨A, c, css, rfl, hc, hR, hE⟩ := h.open_
  have HR := Lib.hid hR
  have HE := Lib.hid hE
  clear hR hE h
  have hbx := Blk.new w [.int .i64 x.k, .string x.name, .slice A x.l.length c] 24
  have HB := Lib.hid hbx
  clear hbx
  go_enter Tryd.func27, Tryd.ntmps27
  go_wp2_with fail
  go_loopg [3, 4] (x.l.length) (fun n a i wr => ∃ k, n = x.l.length - k ∧ k ≤ x.l.length ∧ a = .int .i64 (deepL (x.l.take k)) ∧ i = .int .i64 k ∧ Hid (Fr Nob w wr) ∧ Hid (Blk wr w.heap.size [.int .i64 x.k, .string x.name, .slice A x.l.length c] 24))
  case atStart => exact ⟨0, rfl, Nat.zero_le _, rfl, rfl, (Fr.refl _ _).alloc _, HB.out⟩
  case round =>
    obtain ⟨k, rfl, hk, rfl, rfl, HF, HBx⟩ := hrel
    have hlb := HBx.out.lt
    have d0 := HBx.out.cell 2
    simp only [List.getElem?_cons_zero, List.getElem?_cons_succ] at d0
    by_cases hlt : k < x.l.length
    · have ht : ((k : Int) < (x.l.length : Int)) := by omega
      obtain ⟨ad, A2, c2, rfl, q0, q1, q2, hX⟩ := EReps.elt (HR.out.fr HF.out (fun _ _ h => h)) (HE.out.fr0 HF.out) hlt
      have HX := Lib.hid hX
      have hcn : x.l[k].count ≤ 4611686018427387904 := by have := count_lt_of_mem x.l k hlt; have := count_eq x; omega
      have hsum := countL_take x.l k hlt
      have hdm := deepL_take x.l k hlt
      have hle := countL_le x.l (k + 1)
      have HC := Lib.hid hcn
      have HA := Lib.hid (And.intro hsum (And.intro hdm hle))
      clear hX hcn hsum hdm hle
      go_wp2_with fail
      refine (refdeep_any x.l[k] _ wr HX.out HC.out).mono ?_
      rintro e w2 ⟨rfl, hF2⟩
      have HF2 := Lib.hid (HF.out.same hF2)
      have HBx2 := Lib.hid (HBx.out.fr hF2 (fun h => h))
      clear hF2 q0 q1 q2 d0
      go_wp2_with fail
      all_goals
        go_roundg (x.l.length - (k + 1))
        case measure => omega
        case rel =>
          obtain ⟨hsum, hdm, hle⟩ := HA.out
          have hlen := len_le_countL x.l
          have hcx := count_eq x
          refine ⟨k + 1, rfl, hlt, ?_, ?_, HF2.out, HBx2.out⟩
          · rw [hdm]; congr 1; omega
          · rw [w64 _ (by omega) (by omega)]; rfl
    · have ht : ¬ ((k : Int) < (x.l.length : Int)) := by omega
      have hkl : k = x.l.length := by omega
      subst hkl
      have hcx := count_eq x
      have hdx := deep_eq x
      have hdl := deepL_le x.l
      rw [List.take_length]
      have HA := Lib.hid (And.intro hcx (And.intro hdx hdl))
      clear hcx hdx hdl
      go_wp2_with fail
      obtain ⟨hcx, hdx, hdl⟩ := HA.out
      go_ret
      refine ⟨?_, HF.out⟩
      show Ending.returned (.int .i64 (wrap64 _)) = _; rw [w64 _ (by omega) (by omega), hdx]; rfl
termination_by x
decreasing_by exact Tree.lt_of_elt x k hlt
end Go.Proofs.YtgmjgflifgjpmaaDoor
