/- ExprBlanks. -/
import Derived.Test.YtgmjgflifgjpmaaDoorExprParse2
namespace Go.Proofs.YtgmjgflifgjpmaaDoor.exprBlanks
open Go.RowKit
theorem blanks (m : Nat) (hm : m < 6) : ((⟨#[32, 32, 32, 32, 32, 32, 32, 32, 32, 32]⟩ : ByteArray).extract 0 m).data.toList = List.replicate m 32 ∧ ((⟨#[32, 32, 32, 32, 32, 32, 32, 32, 32, 32]⟩ : ByteArray).extract 0 m).size = m := by
  have h : m = 0 ∨ m = 1 ∨ m = 2 ∨ m = 3 ∨ m = 4 ∨ m = 5 := by omega
  rcases h with rfl | rfl | rfl | rfl | rfl | rfl <;> exact ⟨rfl, rfl⟩
set_option maxRecDepth 100000 in
set_option maxHeartbeats 4000000 in
theorem walk (s : ByteArray) (n : Int) (hn : 0 ≤ n ∧ n < 256) (w : World) (hg : HG w) :
    Calls Tryd.prog 5 #[.string s, .int .u8 n] w fun e w' => e = .returned (.bool true) ∧ Fr Nob w w' := by
  have HGG := Lib.hid hg
  clear hg
  have hm : 0 ≤ n % 6 ∧ n % 6 < 6 := by omega
  by_cases hlong : s.size > 180
  · have g1 : ((s.size : Int) > 180) := by omega
    clear hlong
    go_enter Tryd.func5, Tryd.ntmps5
    go_wp2_with fail
    refine (awake_any _ HGG.out).mono ?_
    rintro e w1 ⟨rfl, hF⟩
    have HF := Lib.hid hF
    clear hF
    go_wp2_with fail
    go_ret
    exact ⟨rfl, HF.out⟩
  · have g1 : ¬ ((s.size : Int) > 180) := by omega
    obtain ⟨hb1, hb2⟩ := blanks (n % 6).toNat (by omega)
    have HB := Lib.hid hb1
    have hsz : s.size ≤ 180 := by omega
    have hbz : ((⟨#[32, 32, 32, 32, 32, 32, 32, 32, 32, 32]⟩ : ByteArray).extract 0 (n % 6).toNat).size ≤ 5 := by omega
    clear hb1 hb2 hlong
    go_enter Tryd.func5, Tryd.ntmps5
    go_wp2_with fail
    generalize (⟨#[32, 32, 32, 32, 32, 32, 32, 32, 32, 32]⟩ : ByteArray).extract 0 (n % 6).toNat = b at HB hbz
    generalize (n % 6).toNat = m at HB
    have hp1 : (b ++ s ++ b).data.toList = List.replicate m 32 ++ s.data.toList ++ List.replicate m 32 := by
      rw [ByteArray.data_append, ByteArray.data_append]
      simp [HB.out]
    have hp2 : wholeT (b ++ s ++ b).data.toList = wholeT s.data.toList := by rw [hp1, whole_blanks]
    have hbs : (b ++ s).size = b.size + s.size := by simp
    have hbs2 : (b ++ s ++ b).size = b.size + s.size + b.size := by simp
    have HP := Lib.hid hp2
    cases hwh : wholeT s.data.toList with
    | none =>
      have HW := Lib.hid hwh
      clear hp1 hp2 hwh
      refine (parse_err s (by omega) HW.out _ HGG.out).mono ?_
      rintro e w1 ⟨A, c, i, rfl, hF⟩
      have HF := Lib.hid hF
      clear hF
      go_wp2_with fail
      refine (parse_err (b ++ s ++ b) (by omega) (HP.out.trans HW.out) _ ((HGG.out.fr HF.out (fun h => h)).fr ((Fr.refl Nob w1).alloc _) (fun h => h))).mono ?_
      rintro e w2 ⟨A2, c2, i2, rfl, hF2⟩
      have HF2 := Lib.hid ((HF.out.alloc _).same hF2)
      clear hF2
      go_wp2_with fail
      refine (awake_any _ ((HGG.out.fr HF2.out (fun h => h)).fr ((Fr.refl Nob w2).alloc _) (fun h => h))).mono ?_
      rintro e w3 ⟨rfl, hF3⟩
      have HF3 := Lib.hid ((HF2.out.alloc _).same hF3)
      clear hF3
      go_wp2_with fail
      go_ret
      exact ⟨rfl, HF3.out⟩
    | some x =>
      have HW := Lib.hid hwh
      have HC := Lib.hid (checkT_few (whole_few hwh))
      clear hp1 hp2 hwh
      refine (parse_ok s x (by omega) HW.out _ HGG.out).mono ?_
      rintro e w1 ⟨A, c, rfl, hX, hF⟩
      have HF := Lib.hid hF
      have HX := Lib.hid hX
      clear hF hX
      go_wp2_with fail
      refine (parse_ok (b ++ s ++ b) x (by omega) (HP.out.trans HW.out) _ ((HGG.out.fr HF.out (fun h => h)).fr ((Fr.refl Nob w1).alloc _) (fun h => h))).mono ?_
      rintro e w2 ⟨A2, c2, rfl, hX2, hF2⟩
      have hB2 := (Blk.new w1 [.int .i64 x.k, .string x.name, .slice A x.l.length c] 24).fr hF2 (fun h => h)
      have HX1 := Lib.hid ((HX.out.fr0 ((Fr.refl _ w1).alloc (.cells #[.int .i64 x.k, .string x.name, .slice A x.l.length c] 24))).fr0 hF2.any)
      have HF2 := Lib.hid ((HF.out.alloc (.cells #[.int .i64 x.k, .string x.name, .slice A x.l.length c] 24)).same hF2)
      have HB2 := Lib.hid hB2
      have HX2 := Lib.hid hX2
      have d0 := hB2.cell 0
      have d1 := hB2.cell 1
      have d2 := hB2.cell 2
      simp only [List.getElem?_cons_zero, List.getElem?_cons_succ] at d0 d1 d2
      have hl := hB2.lt
      clear hF2 hB2 hX2
      go_wp2_with fail
      have hY := (HX2.out.fr0 ((Fr.refl _ w2).alloc (.cells #[.int .i64 x.k, .string x.name, .slice A2 x.l.length c2] 24)))
      have hY1 := (HX1.out.fr0 ((Fr.refl _ w2).alloc (.cells #[.int .i64 x.k, .string x.name, .slice A2 x.l.length c2] 24)))
      refine (same_any x x _ _ _ (ERep.mono (fun k h => h.elim) _ _ hY1) (ERep.mono (fun k h => h.elim) _ _ hY) (by have := HC.out.1; omega)).mono ?_
      rintro e w3 ⟨rfl, hF3⟩
      rw [sameB_refl]
      have hFa := ((Fr.refl Nob w2).alloc (.cells #[.int .i64 x.k, .string x.name, .slice A2 x.l.length c2] 24)).same hF3
      have hB3 := HB2.out.fr hFa (fun h => h)
      have HB3 := Lib.hid hB3
      have HX3 := Lib.hid (HX1.out.fr0 hFa.any)
      have HF3 := Lib.hid (HF2.out.same hFa)
      have d0 := hB3.cell 0
      have d1 := hB3.cell 1
      have d2 := hB3.cell 2
      have hl3 := hB3.lt
      simp only [List.getElem?_cons_zero, List.getElem?_cons_succ] at d0 d1 d2
      clear hF3 hFa hB3 hY hY1 hl
      by_cases hk : x.k = 0
      · have hk2 : (x.k == 0) = true := by simpa using hk
        have HK := Lib.hid hk
        clear hk
        go_wp2_with fail
        refine (awake_any _ (HGG.out.fr HF3.out (fun h => h))).mono ?_
        rintro e w4 ⟨rfl, hF4⟩
        have HF4 := Lib.hid (HF3.out.same hF4)
        clear hF4
        go_wp2_with fail
        go_ret
        exact ⟨rfl, HF4.out⟩
      · have hk2 : (x.k == 0) = false := by simpa using hk
        have HK := Lib.hid hk
        clear hk
        go_wp2_with fail
        have hq1 : (⟨#[40]⟩ ++ b ++ s ++ b ++ ⟨#[41]⟩ : ByteArray).data.toList = 40 :: (List.replicate m 32 ++ s.data.toList ++ (List.replicate m 32 ++ [41])) := by
          simp only [ByteArray.data_append, Array.toList_append, HB.out]
          simp
        have hq2 : (⟨#[40]⟩ ++ b ++ s ++ b ++ ⟨#[41]⟩ : ByteArray).size ≤ 200 := by
          simp only [ByteArray.size_append]
          have : (⟨#[40]⟩ : ByteArray).size = 1 := rfl
          have : (⟨#[41]⟩ : ByteArray).size = 1 := rfl
          omega
        have hq3 : wholeT (⟨#[40]⟩ ++ b ++ s ++ b ++ ⟨#[41]⟩ : ByteArray).data.toList = some x := by rw [hq1]; exact whole_brackets HW.out HK.out m m
        generalize (⟨#[40]⟩ ++ b ++ s ++ b ++ ⟨#[41]⟩ : ByteArray) = q at hq2 hq3
        have HQ := Lib.hid hq3
        clear hq1 hq3
        refine (parse_ok q x hq2 HQ.out _ (HGG.out.fr HF3.out (fun h => h))).mono ?_
        rintro e w4 ⟨A3, c3, rfl, hX4, hF4⟩
        have hB4 := HB3.out.fr hF4 (fun h => h)
        have HB4 := Lib.hid hB4
        have HX5 := Lib.hid (HX3.out.fr0 hF4.any)
        have HX4 := Lib.hid hX4
        have HF4 := Lib.hid (HF3.out.same hF4)
        have d0 := hB4.cell 0
        have d1 := hB4.cell 1
        have d2 := hB4.cell 2
        have hl4 := hB4.lt
        simp only [List.getElem?_cons_zero, List.getElem?_cons_succ] at d0 d1 d2
        clear hF4 hB4 hX4
        go_wp2_with fail
        have hY := (HX4.out.fr0 ((Fr.refl _ w4).alloc (.cells #[.int .i64 x.k, .string x.name, .slice A3 x.l.length c3] 24)))
        have hY1 := (HX5.out.fr0 ((Fr.refl _ w4).alloc (.cells #[.int .i64 x.k, .string x.name, .slice A3 x.l.length c3] 24)))
        refine (same_any x x _ _ _ (ERep.mono (fun k h => h.elim) _ _ hY1) (ERep.mono (fun k h => h.elim) _ _ hY) (by have := HC.out.1; omega)).mono ?_
        rintro e w5 ⟨rfl, hF5⟩
        rw [sameB_refl]
        have HF5 := Lib.hid ((HF4.out.alloc (.cells #[.int .i64 x.k, .string x.name, .slice A3 x.l.length c3] 24)).same hF5)
        clear hF5 hY hY1
        go_wp2_with fail
        refine (awake_any _ (HGG.out.fr HF5.out (fun h => h))).mono ?_
        rintro e w6 ⟨rfl, hF6⟩
        have HF6 := Lib.hid (HF5.out.same hF6)
        clear hF6
        go_wp2_with fail
        go_ret
        exact ⟨rfl, HF6.out⟩
end Go.Proofs.YtgmjgflifgjpmaaDoor.exprBlanks
