/- The reference's 'Check'. -/
import Derived.Test.YtgmjgflifgjpmaaDoorRefRightP
import Derived.Test.YtgmjgflifgjpmaaDoorExprCheck
namespace Go.Proofs.YtgmjgflifgjpmaaDoor
open Go.RowKit
set_option maxRecDepth 100000 in
set_option maxHeartbeats 4000000 in
theorem refcheck_any (x : Tree) (cs : List Value) (w : World) (h : ERep Nob w x cs) (hn : x.count ≤ 4611686018427387904) (hb : x.bytes ≤ 4611686018427387904) :
    Calls Tryd.prog 17 #[.agg cs.toArray] w fun e w' => e = .returned (.int .i64 (checkT x)) ∧ Fr Nob w w' := by
  have HR := Lib.hid h
  obtain ⟨A, c, css, rfl, hc, hR, hE⟩ := h.open_
  have HC := Lib.hid (And.intro hn hb)
  clear hR hE h hn hb
  go_enter Tryd.func17, Tryd.ntmps17
  go_wp2_with fail
  refine (refcount_any x _ _ (HR.out.fr0 ((Fr.refl Nob w).alloc _)) HC.out.1).mono ?_
  rintro e w1 ⟨rfl, hF1⟩
  have hb1 := (Blk.new w [.int .i64 x.k, .string x.name, .slice A x.l.length c] 24).fr hF1 (fun h => h)
  have HF1 := Lib.hid (((Fr.refl Nob w).alloc _).same hF1)
  have HB1 := Lib.hid hb1
  have d0 := hb1.cell 0
  have d1 := hb1.cell 1
  have d2 := hb1.cell 2
  have hl := hb1.lt
  simp only [List.getElem?_cons_zero, List.getElem?_cons_succ] at d0 d1 d2
  clear hF1 hb1
  by_cases h1 : 200 < x.count
  · have hck : checkT x = 2 := by unfold checkT; rw [if_pos (.inl h1)]
    have HCK := Lib.hid hck
    have g1 : ((x.count : Int) > 200) := by omega
    clear hck h1
    go_wp2_with fail
    go_ret
    exact ⟨by rw [HCK.out]; rfl, HF1.out⟩
  have g1 : ¬ ((x.count : Int) > 200) := by omega
  have H1 := Lib.hid h1
  clear h1
  go_wp2_with fail
  refine (refdeep_any x _ _ (HR.out.fr0 HF1.out) HC.out.1).mono ?_
  rintro e w2 ⟨rfl, hF2⟩
  have hb2 := HB1.out.fr hF2 (fun h => h)
  have HF2 := Lib.hid (HF1.out.same hF2)
  clear d0 d1 d2 hl
  have d0 := hb2.cell 0
  have d1 := hb2.cell 1
  have d2 := hb2.cell 2
  have hl := hb2.lt
  simp only [List.getElem?_cons_zero, List.getElem?_cons_succ] at d0 d1 d2
  clear hF2 hb2
  by_cases h2 : 60 < x.deep
  · have hck : checkT x = 2 := by unfold checkT; rw [if_pos (.inr h2)]
    have HCK := Lib.hid hck
    have g2 : ((x.deep : Int) > 60) := by omega
    clear hck h2
    go_wp2_with fail
    go_ret
    exact ⟨by rw [HCK.out]; rfl, HF2.out⟩
  have hck : checkT x = if rightR x then 0 else 4 := by
    unfold checkT
    rw [if_neg (by have := H1.out; omega), rightR_rightB]
  have HCK := Lib.hid hck
  have g2 : ¬ ((x.deep : Int) > 60) := by omega
  clear hck h2
  go_wp2_with fail
  refine (refright_any x _ _ (HR.out.fr0 HF2.out) HC.out.1 HC.out.2).mono ?_
  rintro e w3 ⟨rfl, hF3⟩
  have HF3 := Lib.hid (HF2.out.same hF3)
  clear hF3
  cases hr : rightR x
  all_goals
    have HRR := Lib.hid hr
    clear hr
    go_wp2_with fail
    go_ret
    exact ⟨by rw [HCK.out, HRR.out]; rfl, HF3.out⟩
end Go.Proofs.YtgmjgflifgjpmaaDoor
