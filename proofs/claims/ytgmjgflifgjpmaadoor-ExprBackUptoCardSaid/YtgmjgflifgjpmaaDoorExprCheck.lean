/- 'Check': may a tree be? -/
import Derived.Test.YtgmjgflifgjpmaaDoorExprRight
namespace Go.Proofs.YtgmjgflifgjpmaaDoor
open Go.RowKit
/-- What 'Check' tells. -/
def checkT (x : Tree) : Int := if 200 < x.count ∨ 60 < x.deep then 2 else if rightB 0 x then 0 else 4
set_option maxRecDepth 100000 in
theorem check_any (x : Tree) (cs : List Value) (w : World) (h : ERep Nob w x cs) (hn : x.count ≤ 4611686018427387904) (hb : x.bytes ≤ 4611686018427387904) :
    Calls Tryd.prog 16 #[.agg cs.toArray] w fun e w' => e = .returned (.int .i64 (checkT x)) ∧ Fr Nob w w' := by
  have HR := Lib.hid h
  obtain ⟨A, c, css, rfl, hc, hR, hE⟩ := h.open_
  have HC := Lib.hid (And.intro hn hb)
  clear hR hE h hn hb
  go_enter Tryd.func16, Tryd.ntmps16
  go_wp2_with fail
  refine (size_any x _ _ (HR.out.fr0 ((Fr.refl Nob w).alloc _)) HC.out.1).mono ?_
  rintro e w1 ⟨rfl, hF1⟩
  have hb1 := (Blk.new w [.int .i64 x.k, .string x.name, .slice A x.l.length c] 24).fr hF1 (fun h => h)
  have d0 := hb1.cell 0
  have d1 := hb1.cell 1
  have d2 := hb1.cell 2
  have hl := hb1.lt
  simp only [List.getElem?_cons_zero, List.getElem?_cons_succ] at d0 d1 d2
  have HF1 := Lib.hid (((Fr.refl Nob w).alloc _).same hF1)
  clear hF1 hb1
  by_cases hlong : 200 < x.count ∨ 60 < x.deep
  · have hck : checkT x = 2 := by unfold checkT; rw [if_pos hlong]
    have HCK := Lib.hid hck
    by_cases h1 : 200 < x.count
    · have g1 : ((x.count : Int) > 200) := by omega
      clear hlong hck
      go_wp2_with fail
      go_ret
      exact ⟨by rw [HCK.out]; rfl, HF1.out⟩
    · have g1 : ¬ ((x.count : Int) > 200) := by omega
      have g2 : ((x.deep : Int) > 60) := by omega
      clear hlong hck
      go_wp2_with fail
      go_ret
      exact ⟨by rw [HCK.out]; rfl, HF1.out⟩
  · have g1 : ¬ ((x.count : Int) > 200) := by omega
    have g2 : ¬ ((x.deep : Int) > 60) := by omega
    have hck : checkT x = if rightB 0 x then 0 else 4 := by unfold checkT; rw [if_neg hlong]
    have HCK := Lib.hid hck
    clear hlong hck
    go_wp2_with fail
    refine (right_any x 0 _ _ (HR.out.fr0 HF1.out) HC.out.1 HC.out.2).mono ?_
    rintro e w2 ⟨rfl, hF2⟩
    have HF2 := Lib.hid hF2
    clear hF2
    cases hr : rightB 0 x
    all_goals
      have HRR := Lib.hid hr
      clear hr
      go_wp2_with fail
      go_ret
      exact ⟨by rw [HCK.out, HRR.out]; rfl, HF1.out.same HF2.out⟩
end Go.Proofs.YtgmjgflifgjpmaaDoor
