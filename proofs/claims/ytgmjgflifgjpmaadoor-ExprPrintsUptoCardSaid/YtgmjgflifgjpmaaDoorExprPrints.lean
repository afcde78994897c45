/- ExprPrints: the law's walk. -/
import Derived.Test.YtgmjgflifgjpmaaDoorExprPrint
import Derived.Test.YtgmjgflifgjpmaaDoorRefSame
import Derived.Deep.RegionHeld3
namespace Go.Proofs.YtgmjgflifgjpmaaDoor.exprPrints
open Go.RowKit
set_option maxRecDepth 100000 in
set_option maxHeartbeats 4000000 in
theorem walk (x y : Tree) (cs ds : List Value) (w : World) (hx : ERep Nob w x cs) (hy : ERep Nob w y ds) (hn : x.count ≤ 1048576) (hb : x.bytes ≤ 1048576) (hg : HG w) :
    Calls Tryd.prog 7 #[.agg cs.toArray, .agg ds.toArray] w fun e w' => e = .returned (.bool true) ∧ Fr Nob w w' := by
  have HGG := Lib.hid hg
  have HX := Lib.hid hx
  have HY := Lib.hid hy
  have HN := Lib.hid (And.intro hn hb)
  obtain ⟨A, c, css, rfl, hc, hR, hE⟩ := hx.open_
  obtain ⟨B, d, dss, rfl, hd, hS, hG⟩ := hy.open_
  clear hg hx hy hn hb hR hE hS hG
  have hbx := (Blk.new w [.int .i64 x.k, .string x.name, .slice A x.l.length c] 24).alloc (.cells #[.int .i64 y.k, .string y.name, .slice B y.l.length d] 24)
  have hby := Blk.new_at (w.alloc (.cells #[.int .i64 x.k, .string x.name, .slice A x.l.length c] 24)) [.int .i64 y.k, .string y.name, .slice B y.l.length d] 24 (w.heap.size + 1) (by simp)
  have hfa := ((Fr.refl Nob w).alloc (.cells #[.int .i64 x.k, .string x.name, .slice A x.l.length c] 24)).alloc (.cells #[.int .i64 y.k, .string y.name, .slice B y.l.length d] 24)
  go_enter Tryd.func7, Tryd.ntmps7
  go_wp2_with fail
  generalize (w.alloc (.cells #[.int .i64 x.k, .string x.name, .slice A x.l.length c] 24)).alloc (.cells #[.int .i64 y.k, .string y.name, .slice B y.l.length d] 24) = w0 at hbx hby hfa
  have HBX := Lib.hid hbx
  have HBY := Lib.hid hby
  have HF := Lib.hid hfa
  have HX0 := Lib.hid (HX.out.fr0 hfa)
  have HY0 := Lib.hid (HY.out.fr0 hfa)
  have HF0 := Lib.hid (Fr.refl Nob w0)
  clear hbx hby hfa HX HY
  refine (print_any x _ w0 HX0.out HN.out.1 HN.out.2).mono ?_
  rintro e w1 ⟨rfl, hF1⟩
  have HF1 := Lib.hid (HF0.out.same hF1)
  have hbx1 := HBX.out.fr HF1.out (fun h => h)
  have hby1 := HBY.out.fr HF1.out (fun h => h)
  try clear d0 d1 d2 e0 e1 e2 hlx hly
  have d0 := hbx1.cell 0
  have d1 := hbx1.cell 1
  have d2 := hbx1.cell 2
  have e0 := hby1.cell 0
  have e1 := hby1.cell 1
  have e2 := hby1.cell 2
  have hlx := hbx1.lt
  have hly := hby1.lt
  simp only [List.getElem?_cons_zero, List.getElem?_cons_succ] at d0 d1 d2 e0 e1 e2
  clear hF1 hbx1 hby1
  go_wp2_with fail
  refine (refprint_any x _ w1 (HX0.out.fr0 HF1.out) HN.out.1 HN.out.2).mono ?_
  rintro e w2 ⟨rfl, hF2⟩
  have HF2 := Lib.hid (HF1.out.same hF2)
  have hbx2 := HBX.out.fr HF2.out (fun h => h)
  have hby2 := HBY.out.fr HF2.out (fun h => h)
  try clear d0 d1 d2 e0 e1 e2 hlx hly
  have d0 := hbx2.cell 0
  have d1 := hbx2.cell 1
  have d2 := hbx2.cell 2
  have e0 := hby2.cell 0
  have e1 := hby2.cell 1
  have e2 := hby2.cell 2
  have hlx := hbx2.lt
  have hly := hby2.lt
  simp only [List.getElem?_cons_zero, List.getElem?_cons_succ] at d0 d1 d2 e0 e1 e2
  clear hF2 hbx2 hby2
  go_wp2_with fail
  clear d0 d1 d2 e0 e1 e2 hlx hly
  have K0 : ∀ W, Fr Nob w0 W → W.cell? ⟨w.heap.size, 0, none⟩ = some (.int .i64 x.k) ∧ W.cell? ⟨w.heap.size, 1, none⟩ = some (.string x.name) ∧ W.cell? ⟨w.heap.size, 2, none⟩ = some (.slice A x.l.length c) ∧ W.cell? ⟨w.heap.size + 1, 0, none⟩ = some (.int .i64 y.k) ∧ W.cell? ⟨w.heap.size + 1, 1, none⟩ = some (.string y.name) ∧ W.cell? ⟨w.heap.size + 1, 2, none⟩ = some (.slice B y.l.length d) ∧ Hid (Fr Nob w0 W) := fun W hF =>
    ⟨(HBX.out.fr hF (fun h => h)).cell 0, (HBX.out.fr hF (fun h => h)).cell 1, (HBX.out.fr hF (fun h => h)).cell 2, (HBY.out.fr hF (fun h => h)).cell 0, (HBY.out.fr hF (fun h => h)).cell 1, (HBY.out.fr hF (fun h => h)).cell 2, hF⟩
  have K1 : ∀ W, Hid (Fr Nob w0 W) → Calls Tryd.prog 16 #[.agg #[.int .i64 x.k, .string x.name, .slice A x.l.length c]] W fun e w' => e = .returned (.int .i64 (checkT x)) ∧ Hid (Fr Nob w0 w') := fun W hF =>
    (check_any x _ W (HX0.out.fr0 hF.out) (by have := HN.out; omega) (by have := HN.out; omega)).mono fun e w' h => ⟨h.1, hF.out.same h.2⟩
  have K2 : ∀ W, Hid (Fr Nob w0 W) → Calls Tryd.prog 17 #[.agg #[.int .i64 x.k, .string x.name, .slice A x.l.length c]] W fun e w' => e = .returned (.int .i64 (checkT x)) ∧ Hid (Fr Nob w0 w') := fun W hF =>
    (refcheck_any x _ W (HX0.out.fr0 hF.out) (by have := HN.out; omega) (by have := HN.out; omega)).mono fun e w' h => ⟨h.1, hF.out.same h.2⟩
  have K3 : ∀ W, Hid (Fr Nob w0 W) → Calls Tryd.prog 13 #[.agg #[.int .i64 x.k, .string x.name, .slice A x.l.length c], .agg #[.int .i64 y.k, .string y.name, .slice B y.l.length d]] W fun e w' => e = .returned (.bool (sameB x y)) ∧ Hid (Fr Nob w0 w') := fun W hF =>
    (same_any x y _ _ W (HX0.out.fr0 hF.out) (HY0.out.fr0 hF.out) (by have := HN.out; omega)).mono fun e w' h => ⟨h.1, hF.out.same h.2⟩
  have K4 : ∀ W, Hid (Fr Nob w0 W) → Calls Tryd.prog 11 #[.agg #[.int .i64 x.k, .string x.name, .slice A x.l.length c], .agg #[.int .i64 y.k, .string y.name, .slice B y.l.length d]] W fun e w' => e = .returned (.bool (sameB x y)) ∧ Hid (Fr Nob w0 w') := fun W hF =>
    (refsame_any x y _ _ W (HX0.out.fr0 hF.out) (HY0.out.fr0 hF.out) (by have := HN.out; omega)).mono fun e w' h => ⟨h.1, hF.out.same h.2⟩
  have K5 : ∀ W, Hid (Fr Nob w0 W) → Calls Tryd.prog 12 #[] W fun e w' => e = .returned (.bool true) ∧ Hid (Fr Nob w0 w') := fun W hF =>
    (awake_any W (HGG.out.fr (HF.out.same hF.out) (fun h => h))).mono fun e w' h => ⟨h.1, hF.out.same h.2⟩
  have HK0 := Lib.hid K0
  have HK1 := Lib.hid K1
  have HK2 := Lib.hid K2
  have HK3 := Lib.hid K3
  have HK4 := Lib.hid K4
  have HK5 := Lib.hid K5
  have HFd : Hid (Fr Nob w0 w2.drew) := HF2.out.drew
  clear K0 K1 K2 K3 K4 K5
  go_region_held3 (fun W => W.cell? ⟨w.heap.size, 0, none⟩ = some (.int .i64 x.k) ∧ W.cell? ⟨w.heap.size, 1, none⟩ = some (.string x.name) ∧ W.cell? ⟨w.heap.size, 2, none⟩ = some (.slice A x.l.length c) ∧ W.cell? ⟨w.heap.size + 1, 0, none⟩ = some (.int .i64 y.k) ∧ W.cell? ⟨w.heap.size + 1, 1, none⟩ = some (.string y.name) ∧ W.cell? ⟨w.heap.size + 1, 2, none⟩ = some (.slice B y.l.length d) ∧ Hid (Fr Nob w0 W)) (exact HK0.out _ (by assumption))
    (first
      | (go_at_call 16; refine (HK1.out _ (by assumption)).mono ?_; rintro e w' ⟨rfl, hFF⟩)
      | (go_at_call 17; refine (HK2.out _ (by assumption)).mono ?_; rintro e w' ⟨rfl, hFF⟩)
      | (go_at_call 13; refine (HK3.out _ (by assumption)).mono ?_; rintro e w' ⟨rfl, hFF⟩)
      | (go_at_call 11; refine (HK4.out _ (by assumption)).mono ?_; rintro e w' ⟨rfl, hFF⟩)
      | (go_at_call 12; refine (HK5.out _ (by assumption)).mono ?_; rintro e w' ⟨rfl, hFF⟩))
  rename_i hFF hHeld
  clear hHeld
  go_wp2_with fail
  go_ret
  exact ⟨by simp, HF.out.same hFF.out⟩
end Go.Proofs.YtgmjgflifgjpmaaDoor.exprPrints
