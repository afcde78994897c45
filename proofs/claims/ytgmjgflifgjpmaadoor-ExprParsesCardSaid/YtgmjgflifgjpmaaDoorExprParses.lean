/- ExprParses: the law's walk. -/
import Derived.Test.YtgmjgflifgjpmaaDoorRefParse
import Derived.Test.YtgmjgflifgjpmaaDoorRefSame
namespace Go.Proofs.YtgmjgflifgjpmaaDoor.exprParses
open Go.RowKit
theorem parse_few (s : ByteArray) : (parseF s).1.count ≤ 200 := by
  have h0 : emptyT.count ≤ 200 := by decide
  unfold parseF
  split
  · exact h0
  · unfold wholeF
    split
    · exact h0
    · cases choiceF (s.size + 1) (skipB s.data.toList) with
      | err r => exact h0
      | ok x r =>
        show (parseW s.size (if skipB r = [] then (if checkT x = 0 then .ok x else .err 0) else .err ((s.size : Int) - (skipB r).length))).1.count ≤ 200
        split
        · split
          · rename_i h
            exact (checkT_few h).1
          · exact h0
        · exact h0
set_option maxRecDepth 100000 in
set_option maxHeartbeats 4000000 in
theorem walk (s : ByteArray) (w : World) (hg : HG w) :
    Calls Tryd.prog 3 #[.string s] w fun e w' => e = .returned (.bool true) ∧ Fr Nob w w' := by
  have HGG := Lib.hid hg
  clear hg
  go_enter Tryd.func3, Tryd.ntmps3
  go_wp2_with fail
  refine (parse_any _ _ HGG.out).mono ?_
  rintro e w1 ⟨⟨cs, rfl, hx⟩, hF⟩
  have hfew := parse_few s
  obtain ⟨x, hxx⟩ : ∃ x, (parseF s).1 = x := ⟨_, rfl⟩
  obtain ⟨n, hn⟩ : ∃ n, (parseF s).2.1 = n := ⟨_, rfl⟩
  obtain ⟨f, hf⟩ : ∃ f, (parseF s).2.2 = f := ⟨_, rfl⟩
  rw [hxx] at hx hfew
  rw [hn, hf]
  have HP := Lib.hid (And.intro hxx (And.intro hn hf))
  have HFW := Lib.hid hfew
  obtain ⟨A, c, css, rfl, hc, hR, hE⟩ := hx.open_
  have HF := Lib.hid hF
  have HX := Lib.hid hx.bound
  clear hR hE hc hx hF hxx hn hf hfew
  go_wp2_with fail
  refine (refparse_any _ _).mono ?_
  rintro e w2 ⟨⟨cs, rfl, hx⟩, hF⟩
  obtain ⟨h1, h2, h3⟩ := HP.out
  rw [h1] at hx
  rw [h2, h3]
  obtain ⟨B, d, dss, rfl, hc, hR, hE⟩ := hx.open_
  have HF2 := Lib.hid hF
  have HX2 := Lib.hid hx
  clear hR hE hc hx hF h1 h2 h3
  have hB := (Blk.new w1 [.int .i64 x.k, .string x.name, .slice A x.l.length c] 24).fr HF2.out (fun h => h)
  have HX1 := Lib.hid (((ERep.mono (fun k hk => hk.elim) _ _ HX.out : ERep Nob w1 x _).fr0 ((Fr.refl Nob w1).alloc (.cells #[.int .i64 x.k, .string x.name, .slice A x.l.length c] 24))).fr0 HF2.out)
  have HF3 := Lib.hid ((HF.out.alloc (.cells #[.int .i64 x.k, .string x.name, .slice A x.l.length c] 24)).same HF2.out)
  have d0 := hB.cell 0
  have d1 := hB.cell 1
  have d2 := hB.cell 2
  have hl := hB.lt
  simp only [List.getElem?_cons_zero, List.getElem?_cons_succ] at d0 d1 d2
  clear hB HX HF2
  have HX3 := Lib.hid (ERep.mono (M' := Nob) (fun k hk => hk.elim) _ _ HX2.out)
  clear HX2
  go_wp2_with fail
  have hfa := (Fr.refl Nob w2).alloc (.cells #[.int .i64 x.k, .string x.name, .slice B x.l.length d] 24)
  refine (refsame_any x x _ _ _ (HX1.out.fr0 hfa) (HX3.out.fr0 hfa) (by have := HFW.out; omega)).mono ?_
  rintro e w3 ⟨rfl, hF⟩
  rw [sameB_refl]
  have HF4 := Lib.hid ((HF3.out.same hfa).same hF)
  clear hF hfa d0 d1 d2 hl
  go_wp2_with fail
  refine (awake_any _ (HGG.out.fr HF4.out (fun h => h))).mono ?_
  rintro e w4 ⟨rfl, hF⟩
  have HF5 := Lib.hid (HF4.out.same hF)
  clear hF
  go_wp2_with fail
  go_ret
  exact ⟨rfl, HF5.out⟩
end Go.Proofs.YtgmjgflifgjpmaaDoor.exprParses
