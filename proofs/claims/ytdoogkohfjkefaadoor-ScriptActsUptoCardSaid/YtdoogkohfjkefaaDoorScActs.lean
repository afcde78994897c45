/- ScriptActs: the law's walk. -/
import Derived.Test.YtdoogkohfjkefaaDoorScRefPr
namespace Go.Proofs.YtdoogkohfjkefaaDoor.scriptActs
open Go.RowKit
set_option maxRecDepth 100000 in
set_option maxHeartbeats 4000000 in
theorem walk (s : ByteArray) (hs : s.size ≤ 1048576) (t : ActT) (hok : t.Ok) (A : Option Addr) (m c : Nat) (w : World) (h : SW w) :
    Calls Tryd.prog 3 #[.string s, .agg (t.cellsV (.slice A m c)).toArray] w fun e w' => e = .returned (.bool true) ∧ Fr Nob w w' := by
  have HSW := Lib.hid h
  have HOK := Lib.hid hok
  have hact := fun w h => act_any s (by omega) w h
  have href := fun w => PAct.refact_any s (by omega) w
  have hprt := fun w h => print_any t hok A m c w h
  have hrpr := fun w => refprint_any t hok A m c w
  obtain ⟨u, hu⟩ : ∃ u, actT (actF s.data.toList) = u := ⟨_, rfl⟩
  obtain ⟨ec, hec⟩ : ∃ ec, actE (actF s.data.toList) = ec := ⟨_, rfl⟩
  obtain ⟨pt, hpt⟩ : ∃ pt, prtT (printF t m) = pt := ⟨_, rfl⟩
  obtain ⟨pe, hpe⟩ : ∃ pe, prtE (printF t m) = pe := ⟨_, rfl⟩
  simp only [hu, hec, hpt, hpe, ActT.cellsV, ActT.cells] at hact href hprt hrpr
  have hsm := fun A B c d w => same_any u u A B c d w
  simp only [ActT.cellsV, decide_true] at hsm
  have hbx := Blk.new w (t.cellsV (.slice A m c)) 24
  have hfa := (Fr.refl Nob w).alloc (.cells (t.cellsV (.slice A m c)).toArray 24)
  have HACT := Lib.hid hact
  have HREF := Lib.hid href
  have HPRT := Lib.hid hprt
  have HRPR := Lib.hid hrpr
  have HSM := Lib.hid hsm
  clear hact href hprt hrpr hu hec hpt hpe h hok hsm
  simp only [ActT.cellsV] at hbx hfa ⊢
  go_enter Tryd.func3, Tryd.ntmps3
  go_wp2_with fail
  generalize w.alloc (.cells #[.int .i64 t.k, .int .i64 t.a, .int .i64 t.b, .int .i64 t.c, .int .i64 t.d, .int .i64 t.n, .slice A m c] 24) = w0 at hbx hfa ⊢
  have HBX := Lib.hid hbx
  have HF := Lib.hid hfa
  clear hbx hfa
  refine (HACT.out w0 (HSW.out.fr HF.out)).mono ?_
  rintro e w1 ⟨rfl, hF1⟩
  have HF1 := Lib.hid (HF.out.same hF1)
  have HBX1 := Lib.hid (HBX.out.fr hF1 (fun h => h))
  clear hF1 HF HBX
  go_wp2_with fail
  have hfa2 : Fr Nob w1 (w1.alloc (.cells #[.int .i64 u.k, .int .i64 u.a, .int .i64 u.b, .int .i64 u.c, .int .i64 u.d, .int .i64 u.n, .slice none 0 0] 24)) := (Fr.refl _ _).alloc _
  have hba2 := Blk.new w1 [.int .i64 u.k, .int .i64 u.a, .int .i64 u.b, .int .i64 u.c, .int .i64 u.d, .int .i64 u.n, .slice none 0 0] 24
  generalize w1.alloc (.cells #[.int .i64 u.k, .int .i64 u.a, .int .i64 u.b, .int .i64 u.c, .int .i64 u.d, .int .i64 u.n, .slice none 0 0] 24) = w2 at hfa2 hba2 ⊢
  have HF2 := Lib.hid (HF1.out.same hfa2)
  have HBX2 := Lib.hid (HBX1.out.fr hfa2 (fun h => h))
  have HBA2 := Lib.hid hba2
  clear hfa2 hba2 HF1 HBX1
  refine (HREF.out w2).mono ?_
  rintro e w3 ⟨A2, c2, rfl, hF3⟩
  have HF3 := Lib.hid (HF2.out.same hF3)
  have HBX3 := Lib.hid (HBX2.out.fr hF3 (fun h => h))
  have HBA3 := Lib.hid (HBA2.out.fr hF3 (fun h => h))
  have hlx := HBX3.out.lt
  have hla := HBA3.out.lt
  have d0 := HBX3.out.cell 0
  have d1 := HBX3.out.cell 1
  have d2 := HBX3.out.cell 2
  have d3 := HBX3.out.cell 3
  have d4 := HBX3.out.cell 4
  have d5 := HBX3.out.cell 5
  have d6 := HBX3.out.cell 6
  simp only [List.getElem?_cons_zero, List.getElem?_cons_succ] at d0 d1 d2 d3 d4 d5 d6
  clear hF3 HF2 HBX2 HBA2
  go_wp2_with fail
  have hfa4 : Fr Nob w3 (w3.alloc (.cells #[.int .i64 u.k, .int .i64 u.a, .int .i64 u.b, .int .i64 u.c, .int .i64 u.d, .int .i64 u.n, .slice A2 0 c2] 24)) := (Fr.refl _ _).alloc _
  have hba4 := Blk.new w3 [.int .i64 u.k, .int .i64 u.a, .int .i64 u.b, .int .i64 u.c, .int .i64 u.d, .int .i64 u.n, .slice A2 0 c2] 24
  generalize w3.alloc (.cells #[.int .i64 u.k, .int .i64 u.a, .int .i64 u.b, .int .i64 u.c, .int .i64 u.d, .int .i64 u.n, .slice A2 0 c2] 24) = w4 at hfa4 hba4 ⊢
  refine (HPRT.out w4 (HSW.out.fr (HF3.out.same hfa4))).mono ?_
  rintro e w5 ⟨rfl, hF5⟩
  have hf5 := hfa4.same hF5
  have HF5 := Lib.hid (HF3.out.same hf5)
  have HBX5 := Lib.hid (HBX3.out.fr hf5 (fun h => h))
  have HBA5 := Lib.hid (HBA3.out.fr hf5 (fun h => h))
  have HBB5 := Lib.hid (hba4.fr hF5 (fun h => h))
  have hlx := HBX5.out.lt
  have d0 := HBX5.out.cell 0
  have d1 := HBX5.out.cell 1
  have d2 := HBX5.out.cell 2
  have d3 := HBX5.out.cell 3
  have d4 := HBX5.out.cell 4
  have d5 := HBX5.out.cell 5
  have d6 := HBX5.out.cell 6
  simp only [List.getElem?_cons_zero, List.getElem?_cons_succ] at d0 d1 d2 d3 d4 d5 d6
  clear hF5 hf5 hfa4 hba4 HF3 HBX3 HBA3
  go_wp2_with fail
  refine (HRPR.out w5).mono ?_
  rintro e w6 ⟨rfl, hF6⟩
  have HF6 := Lib.hid (HF5.out.same hF6)
  have HBA6 := Lib.hid (HBA5.out.fr hF6 (fun h => h))
  have HBB6 := Lib.hid (HBB5.out.fr hF6 (fun h => h))
  have hla := HBA6.out.lt
  have hlb := HBB6.out.lt
  have d0 := HBA6.out.cell 0
  have d1 := HBA6.out.cell 1
  have d2 := HBA6.out.cell 2
  have d3 := HBA6.out.cell 3
  have d4 := HBA6.out.cell 4
  have d5 := HBA6.out.cell 5
  have d6 := HBA6.out.cell 6
  have e0 := HBB6.out.cell 0
  have e1 := HBB6.out.cell 1
  have e2 := HBB6.out.cell 2
  have e3 := HBB6.out.cell 3
  have e4 := HBB6.out.cell 4
  have e5 := HBB6.out.cell 5
  have e6 := HBB6.out.cell 6
  simp only [List.getElem?_cons_zero, List.getElem?_cons_succ] at d0 d1 d2 d3 d4 d5 d6 e0 e1 e2 e3 e4 e5 e6
  clear hF6 HF5 HBX5 HBA5 HBB5 hlx
  go_wp2_with fail
  refine (HSM.out none A2 0 c2 w6).mono ?_
  rintro e w7 ⟨rfl, hF7⟩
  have HF7 := Lib.hid (HF6.out.same hF7)
  clear hF7 HF6 HBA6 HBB6 d0 d1 d2 d3 d4 d5 d6 e0 e1 e2 e3 e4 e5 e6
  go_wp2_with fail
  refine (awake_any w7 (HSW.out.fr HF7.out)).mono ?_
  rintro e w8 ⟨rfl, hF8⟩
  have HF8 := Lib.hid (HF7.out.same hF8)
  clear hF8
  go_wp2_with fail
  refine bodyPost_ret (v := .bool true) (by simp [results, go_sem]) rfl ⟨rfl, HF8.out⟩
end Go.Proofs.YtdoogkohfjkefaaDoor.scriptActs
