/- ScriptBack: the law's walk. -/
import Derived.Test.YtdoogkohfjkefaaDoorScLaw
namespace Go.Proofs.YtdoogkohfjkefaaDoor.scriptBack
open Go.RowKit
set_option maxRecDepth 100000 in
set_option maxHeartbeats 4000000 in
theorem walk (t : ActT) (hok : t.Ok) (A : Option Addr) (m c : Nat) (s : ByteArray) (hs : s.size ≤ 1048576) (w : World) (h : SW w) :
    Calls Tryd.prog 4 #[.agg (t.cellsV (.slice A m c)).toArray, .string s] w fun e w' => e = .returned (.bool true) ∧ Fr Nob w w' := by
  have HSW := Lib.hid h
  have HOK := Lib.hid hok
  have hbx := Blk.new w (t.cellsV (.slice A m c)) 24
  have hfa := (Fr.refl Nob w).alloc (.cells (t.cellsV (.slice A m c)).toArray 24)
  clear h hok
  simp only [ActT.cellsV] at hbx hfa ⊢
  go_enter Tryd.func4, Tryd.ntmps4
  go_wp2_with fail
  generalize w.alloc (.cells #[.int .i64 t.k, .int .i64 t.a, .int .i64 t.b, .int .i64 t.c, .int .i64 t.d, .int .i64 t.n, .slice A m c] 24) = w0 at hbx hfa ⊢
  have HBX := Lib.hid hbx
  have HF := Lib.hid hfa
  clear hbx hfa
  refine (print_any t HOK.out A m c w0 (HSW.out.fr HF.out)).mono ?_
  rintro e w1 ⟨rfl, hF1⟩
  have HF1 := Lib.hid hF1
  have HBX1 := Lib.hid (HBX.out.fr hF1 (fun h => h))
  clear hF1
  have hcase : (∃ L, printF t m = some L ∧ actF L = some t ∧ m = 0 ∧ L.length ≤ 95) ∨ printF t m = none := by
    cases hp : printF t m with
    | none => exact .inr rfl
    | some L =>
      obtain ⟨h1, h2⟩ := act_print t HOK.out m L hp
      exact .inl ⟨L, rfl, h1, h2, print_len hp⟩
  have hact := act_any s (by omega)
  generalize hS : s.data.toList = S at hact
  have HACT := Lib.hid hact
  have HS := Lib.hid hS
  have HZ : Hid (∀ W, Calls Tryd.prog 9 #[.agg #[.int .i64 0, .int .i64 0, .int .i64 0, .int .i64 0, .int .i64 0, .int .i64 0, .slice none 0 0], .agg #[.int .i64 0, .int .i64 0, .int .i64 0, .int .i64 0, .int .i64 0, .int .i64 0, .slice none 0 0]] W fun e w' => e = .returned (.bool true) ∧ Fr Nob W w') := fun W => (same_any ActT.zero ActT.zero none none 0 0 W).mono (fun _ _ ⟨h, k⟩ => ⟨h.trans (by rw [decide_eq_true rfl]), k⟩)
  clear hact hS
  rcases hcase with ⟨L, hp, hL, rfl, hLl⟩ | hp
  · rw [hp]
    have HLA := Lib.hid hL
    have HLL := Lib.hid hLl
    clear hL hLl hp
    simp only [prtT, prtE, Option.getD_some, Option.isSome_some, if_true]
    go_wp2_with fail
    refine (act_any (bs L) (by rw [bs_size]; have := HLL.out; omega) w1 (HSW.out.fr (HF.out.same HF1.out))).mono ?_
    rintro e w2 ⟨rfl, hF2⟩
    have HF2 := Lib.hid (HF1.out.same hF2)
    have hb2 := HBX1.out.fr hF2 (fun h => h)
    have d0 := hb2.cell 0
    have d1 := hb2.cell 1
    have d2 := hb2.cell 2
    have d3 := hb2.cell 3
    have d4 := hb2.cell 4
    have d5 := hb2.cell 5
    have d6 := hb2.cell 6
    have hlx := hb2.lt
    simp only [List.getElem?_cons_zero, List.getElem?_cons_succ] at d0 d1 d2 d3 d4 d5 d6
    rw [bs_list, HLA.out]
    clear hF2 hb2
    simp only [actT, actE, ActT.cells, Option.getD_some, Option.isSome_some, if_true]
    have hsm := fun W => same_any t t none A 0 c W
    simp only [ActT.cellsV, decide_true] at hsm
    have HSM := Lib.hid hsm
    clear hsm
    go_wp2_with fail
    refine (HSM.out _).mono ?_
    rintro e w3 ⟨rfl, hF3⟩
    have HFz := Lib.hid (HF.out.same ((HF2.out.alloc _).same hF3))
    clear hF3 d0 d1 d2 d3 d4 d5 d6 hlx HF2 HBX1 HF1 HSM HLA
    go_wp2_with fail
    generalize (bs L) = sL
    generalize w2.heap.size = bL
    generalize w3 = wz at HFz ⊢
    refine (HACT.out wz (HSW.out.fr HFz.out)).mono ?_
    rintro e w4 ⟨rfl, hF4⟩
    have HF4 := Lib.hid (HFz.out.same hF4)
    clear hF4
    cases ho : actF S with
    | none =>
      simp only [actT, actE, ActT.zero, ActT.cells, Option.getD_none, Option.isSome_none, Bool.false_eq_true, if_false]
      go_wp2_with fail
      refine (HZ.out _).mono ?_
      rintro e w5 ⟨rfl, hF5⟩
      have HF5 := Lib.hid (((HF4.out.alloc _)).same hF5)
      clear hF5
      go_wp2_with fail
      refine (awake_any w5 (HSW.out.fr HF5.out)).mono ?_
      rintro e w6 ⟨rfl, hF6⟩
      have HF6 := Lib.hid (HF5.out.same hF6)
      clear hF6
      go_wp2_with fail
      refine bodyPost_ret (v := .bool true) (by simp [results, go_sem]) rfl ⟨rfl, HF6.out⟩
    | some u =>
      have hok := act_ok ho
      have hpr := print_act S u ho
      have HOKu := Lib.hid hok
      have HPR := Lib.hid hpr
      have hprt := print_any u hok none 0 0
      simp only [ActT.cellsV] at hprt
      rw [hpr] at hprt
      have HPRT := Lib.hid hprt
      clear hok hpr ho hprt
      simp only [actT, actE, ActT.cells, Option.getD_some, Option.isSome_some, if_true]
      go_wp2_with fail
      refine (HPRT.out _ (HSW.out.fr (HF4.out.alloc _))).mono ?_
      rintro e w5 ⟨rfl, hF5⟩
      have HF5 := Lib.hid (((HF4.out.alloc _)).same hF5)
      clear hF5
      have hst : bs S = s := by rw [← HS.out, bs_of]
      simp only [prtT, prtE, Option.getD_some, Option.isSome_some, if_true]
      rw [hst]
      clear hst
      go_wp2_with fail
      refine (awake_any w5 (HSW.out.fr HF5.out)).mono ?_
      rintro e w6 ⟨rfl, hF6⟩
      have HF6 := Lib.hid (HF5.out.same hF6)
      clear hF6
      go_wp2_with fail
      refine bodyPost_ret (v := .bool true) (by simp [results, go_sem]) rfl ⟨rfl, HF6.out⟩
  · rw [hp]
    have HFz := Lib.hid (HF.out.same HF1.out)
    clear hp HF1
    simp only [prtT, prtE, Option.getD_none, Option.isSome_none, Bool.false_eq_true, if_false]
    go_wp2_with fail
    generalize w1 = wz at HFz ⊢
    refine (HACT.out wz (HSW.out.fr HFz.out)).mono ?_
    rintro e w4 ⟨rfl, hF4⟩
    have HF4 := Lib.hid (HFz.out.same hF4)
    clear hF4
    cases ho : actF S with
    | none =>
      simp only [actT, actE, ActT.zero, ActT.cells, Option.getD_none, Option.isSome_none, Bool.false_eq_true, if_false]
      go_wp2_with fail
      refine (HZ.out _).mono ?_
      rintro e w5 ⟨rfl, hF5⟩
      have HF5 := Lib.hid (((HF4.out.alloc _)).same hF5)
      clear hF5
      go_wp2_with fail
      refine (awake_any w5 (HSW.out.fr HF5.out)).mono ?_
      rintro e w6 ⟨rfl, hF6⟩
      have HF6 := Lib.hid (HF5.out.same hF6)
      clear hF6
      go_wp2_with fail
      refine bodyPost_ret (v := .bool true) (by simp [results, go_sem]) rfl ⟨rfl, HF6.out⟩
    | some u =>
      have hok := act_ok ho
      have hpr := print_act S u ho
      have HOKu := Lib.hid hok
      have HPR := Lib.hid hpr
      have hprt := print_any u hok none 0 0
      simp only [ActT.cellsV] at hprt
      rw [hpr] at hprt
      have HPRT := Lib.hid hprt
      clear hok hpr ho hprt
      simp only [actT, actE, ActT.cells, Option.getD_some, Option.isSome_some, if_true]
      go_wp2_with fail
      refine (HPRT.out _ (HSW.out.fr (HF4.out.alloc _))).mono ?_
      rintro e w5 ⟨rfl, hF5⟩
      have HF5 := Lib.hid (((HF4.out.alloc _)).same hF5)
      clear hF5
      have hst : bs S = s := by rw [← HS.out, bs_of]
      simp only [prtT, prtE, Option.getD_some, Option.isSome_some, if_true]
      rw [hst]
      clear hst
      go_wp2_with fail
      refine (awake_any w5 (HSW.out.fr HF5.out)).mono ?_
      rintro e w6 ⟨rfl, hF6⟩
      have HF6 := Lib.hid (HF5.out.same hF6)
      clear hF6
      go_wp2_with fail
      refine bodyPost_ret (v := .bool true) (by simp [results, go_sem]) rfl ⟨rfl, HF6.out⟩
end Go.Proofs.YtdoogkohfjkefaaDoor.scriptBack
