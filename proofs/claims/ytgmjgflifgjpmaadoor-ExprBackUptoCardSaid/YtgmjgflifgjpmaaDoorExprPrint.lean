/- 'Print', the program's and the reference's. -/
import Derived.Test.YtgmjgflifgjpmaaDoorExprShown
import Derived.Test.YtgmjgflifgjpmaaDoorRefText
import Derived.Test.YtgmjgflifgjpmaaDoorRefCheck
import Derived.Test.YtgmjgflifgjpmaaDoorExprParse2
namespace Go.Proofs.YtgmjgflifgjpmaaDoor
open Go.RowKit
def printF (x : Tree) : List UInt8 := if checkT x = 0 then textT x else []
theorem check_right {x : Tree} (h : checkT x = 0) : rightR x = true := by rw [rightR_rightB]; exact (checkT_few h).2.2
set_option maxRecDepth 100000 in
set_option maxHeartbeats 4000000 in
theorem print_any (x : Tree) (cs : List Value) (w : World) (h : ERep Nob w x cs) (hn : x.count ≤ 1048576) (hb : x.bytes ≤ 1048576) :
    Calls Tryd.prog 14 #[.agg cs.toArray] w fun e w' => e = .returned (.tuple #[.string (bs (printF x)), .int .i64 (checkT x)]) ∧ Fr Nob w w' := by
  have HR := Lib.hid h
  obtain ⟨A, c, css, rfl, hc, hR, hE⟩ := h.open_
  have HC := Lib.hid (And.intro hn hb)
  clear hR hE h hn hb
  go_enter Tryd.func14, Tryd.ntmps14
  go_wp2_with fail
  have hfa := (Fr.refl Nob w).alloc (.cells #[.int .i64 x.k, .string x.name, .slice A x.l.length c] 24)
  refine (check_any x _ _ (HR.out.fr0 hfa) (by have := HC.out; omega) (by have := HC.out; omega)).mono ?_
  rintro e w1 ⟨rfl, hF1⟩
  have hb1 := (Blk.new w [.int .i64 x.k, .string x.name, .slice A x.l.length c] 24).fr hF1 (fun h => h)
  have HF1 := Lib.hid (hfa.same hF1)
  have d0 := hb1.cell 0
  have d1 := hb1.cell 1
  have d2 := hb1.cell 2
  have hl := hb1.lt
  simp only [List.getElem?_cons_zero, List.getElem?_cons_succ] at d0 d1 d2
  clear hF1 hb1 hfa
  by_cases hck : checkT x = 0
  · have hp : printF x = textT x := by unfold printF; rw [if_pos hck]
    have HP := Lib.hid hp
    have HRI := Lib.hid (check_right hck)
    have HCK := Lib.hid hck
    rw [hck]
    clear hp hck
    go_wp2_with fail
    refine (shown_any x _ w1 (HR.out.fr0 HF1.out) HC.out.1 HC.out.2 HRI.out).mono ?_
    rintro e w2 ⟨rfl, hF2⟩
    have HF2 := Lib.hid (HF1.out.same hF2)
    clear hF2
    go_wp2_with fail
    refine bodyPost_ret (v := .tuple #[.string (bs (textT x)), .int .i64 0]) (by simp [results, go_sem]) rfl ⟨by rw [HP.out, HCK.out], HF2.out⟩
  · have hp : printF x = [] := by unfold printF; rw [if_neg hck]
    have HP := Lib.hid hp
    have hck2 : (checkT x != 0) = true := by simpa using hck
    clear hp hck
    go_wp2_with fail
    refine bodyPost_ret (v := .tuple #[.string (bs []), .int .i64 (checkT x)]) (by simp [results, go_sem]; rfl) rfl ⟨by rw [HP.out], HF1.out⟩
set_option maxRecDepth 100000 in
set_option maxHeartbeats 4000000 in
theorem refprint_any (x : Tree) (cs : List Value) (w : World) (h : ERep Nob w x cs) (hn : x.count ≤ 1048576) (hb : x.bytes ≤ 1048576) :
    Calls Tryd.prog 15 #[.agg cs.toArray] w fun e w' => e = .returned (.tuple #[.string (bs (printF x)), .int .i64 (checkT x)]) ∧ Fr Nob w w' := by
  have HR := Lib.hid h
  obtain ⟨A, c, css, rfl, hc, hR, hE⟩ := h.open_
  have HC := Lib.hid (And.intro hn hb)
  clear hR hE h hn hb
  go_enter Tryd.func15, Tryd.ntmps15
  go_wp2_with fail
  have hfa := (Fr.refl Nob w).alloc (.cells #[.int .i64 x.k, .string x.name, .slice A x.l.length c] 24)
  refine (refcheck_any x _ _ (HR.out.fr0 hfa) (by have := HC.out; omega) (by have := HC.out; omega)).mono ?_
  rintro e w1 ⟨rfl, hF1⟩
  have hb1 := (Blk.new w [.int .i64 x.k, .string x.name, .slice A x.l.length c] 24).fr hF1 (fun h => h)
  have HF1 := Lib.hid (hfa.same hF1)
  have d0 := hb1.cell 0
  have d1 := hb1.cell 1
  have d2 := hb1.cell 2
  have hl := hb1.lt
  simp only [List.getElem?_cons_zero, List.getElem?_cons_succ] at d0 d1 d2
  clear hF1 hb1 hfa
  by_cases hck : checkT x = 0
  · have hp : printF x = textT x := by unfold printF; rw [if_pos hck]
    have HP := Lib.hid hp
    have HRI := Lib.hid (check_right hck)
    have HCK := Lib.hid hck
    rw [hck]
    clear hp hck
    go_wp2_with fail
    refine (reftext_any x _ w1 (HR.out.fr0 HF1.out) HC.out.1 HC.out.2 HRI.out).mono ?_
    rintro e w2 ⟨rfl, hF2⟩
    have HF2 := Lib.hid (HF1.out.same hF2)
    clear hF2
    go_wp2_with fail
    refine bodyPost_ret (v := .tuple #[.string (bs (textT x)), .int .i64 0]) (by simp [results, go_sem]) rfl ⟨by rw [HP.out, HCK.out], HF2.out⟩
  · have hp : printF x = [] := by unfold printF; rw [if_neg hck]
    have HP := Lib.hid hp
    have hck2 : (checkT x != 0) = true := by simpa using hck
    clear hp hck
    go_wp2_with fail
    refine bodyPost_ret (v := .tuple #[.string (bs []), .int .i64 (checkT x)]) (by simp [results, go_sem]; rfl) rfl ⟨by rw [HP.out], HF1.out⟩
end Go.Proofs.YtgmjgflifgjpmaaDoor
