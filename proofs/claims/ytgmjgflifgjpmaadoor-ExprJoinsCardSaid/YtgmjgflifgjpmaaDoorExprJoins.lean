/- ExprJoins: the walk. -/
import Derived.Test.YtgmjgflifgjpmaaDoorExprJoinsP
namespace Go.Proofs.YtgmjgflifgjpmaaDoor.exprJoins
open Go.RowKit
theorem parse_long (s : ByteArray) (hs : 200 < s.size) (w : World) (hg : HG w) :
    Calls Tryd.prog 9 #[.string s] w fun e w' => ∃ A c, e = .returned (.tuple #[.agg #[.int .i64 0, .string ⟨#[]⟩, .slice A 0 c], .int .i64 0, .int .i64 2]) ∧ Fr Nob w w' := by
  refine (parse_any s w hg).mono ?_
  rintro e w' ⟨⟨cs, rfl, hx⟩, hF⟩
  have hp : parseF s = (emptyT, 0, 2) := by unfold parseF; rw [if_pos hs]
  rw [hp] at hx ⊢
  obtain ⟨A, c, css, rfl, _, _, _⟩ := hx.open_
  exact ⟨A, c, rfl, hF⟩
/-- What a text comes to: a tree that is not empty, or none of use. -/
theorem parse_use (s : ByteArray) (w : World) (hg : HG w) :
    (∃ x, s.size ≤ 200 ∧ wholeT s.data.toList = some x ∧ x.k ≠ 0 ∧ Calls Tryd.prog 9 #[.string s] w fun e w' => ∃ A c, e = .returned (.tuple #[.agg #[.int .i64 x.k, .string x.name, .slice A x.l.length c], .int .i64 s.size, .int .i64 0]) ∧ ERep (fun k => w'.heap.size ≤ k) w' x [.int .i64 x.k, .string x.name, .slice A x.l.length c] ∧ Fr Nob w w') ∨
    (Calls Tryd.prog 9 #[.string s] w fun e w' => ∃ (k : Int) (n : ByteArray) (A : Option Addr) (m c : Nat) (i f : Int), e = .returned (.tuple #[.agg #[.int .i64 k, .string n, .slice A m c], .int .i64 i, .int .i64 f]) ∧ (f ≠ 0 ∨ k = 0) ∧ Fr Nob w w') := by
  by_cases hs : 200 < s.size
  · refine .inr ((parse_long s hs w hg).mono ?_)
    rintro e w' ⟨A, c, rfl, hF⟩
    exact ⟨_, _, _, _, _, _, _, rfl, .inl (by decide), hF⟩
  · cases hw : wholeT s.data.toList with
    | none =>
      refine .inr ((parse_err s (by omega) hw w hg).mono ?_)
      rintro e w' ⟨A, c, i, rfl, hF⟩
      exact ⟨_, _, _, _, _, _, _, rfl, .inl (by decide), hF⟩
    | some x =>
      by_cases hk : x.k = 0
      · refine .inr ((parse_ok s x (by omega) hw w hg).mono ?_)
        rintro e w' ⟨A, c, rfl, _, hF⟩
        exact ⟨_, _, _, _, _, _, _, rfl, .inr hk, hF⟩
      · exact .inl ⟨x, by omega, rfl, hk, parse_ok s x (by omega) hw w hg⟩
theorem rd_blk {M : Nat → Prop} {w : World} {g : Nat} {cs : List Value} {t : TypeId} (h : Blk w g cs t) (hM : ¬ M g) : Rd M w (some ⟨g, 0, none⟩) cs := fun _ => ⟨_, rfl, hM, fun j u hu => by rw [add_lit]; exact (h.cell j).trans hu⟩
theorem parse_two (q : ByteArray) (k : Int) (x y : Tree) (hq : q.size ≤ 200) (h : wholeT q.data.toList = some (two k x y)) (w : World) (hg : HG w) :
    Calls Tryd.prog 9 #[.string q] w fun e w' => ∃ A c n, e = .returned (.tuple #[.agg #[.int .i64 k, .string ⟨#[]⟩, .slice A 2 c], .int .i64 n, .int .i64 0]) ∧ ERep (fun k => w'.heap.size ≤ k) w' (two k x y) [.int .i64 k, .string ⟨#[]⟩, .slice A 2 c] ∧ Fr Nob w w' := by
  refine (parse_ok q _ hq h w hg).mono ?_
  rintro e w' ⟨A, c, rfl, hX, hF⟩
  exact ⟨A, c, _, rfl, hX, hF⟩
/-- The two in a list of their own. -/
theorem rep_two {w : World} {z : Nat} {x y : Tree} {xc yc : List Value} (hx : ERep Nob w x xc) (hy : ERep Nob w y yc) (b1 : Blk w (z + 1) xc 24) (b2 : Blk w (z + 2) yc 24)
    (b3 : Blk w (z + 3) [.int .i64 4, .string ⟨#[]⟩, .slice (some ⟨z + 1, 0, none⟩) 1 1, .int .i64 4, .string ⟨#[]⟩, .slice (some ⟨z + 2, 0, none⟩) 1 1] 24) (k : Int) : ERep Nob w (two k x y) [.int .i64 k, .string ⟨#[]⟩, .slice (some ⟨z + 3, 0, none⟩) 2 2] := by
  have s1 : ERep Nob w (star x) [.int .i64 4, .string ⟨#[]⟩, .slice (some ⟨z + 1, 0, none⟩) 1 1] := ERep.mk (l := [x]) (Nat.le_refl _) (rd_blk b1 (fun h => h)) (EReps.one hx)
  have s2 : ERep Nob w (star y) [.int .i64 4, .string ⟨#[]⟩, .slice (some ⟨z + 2, 0, none⟩) 1 1] := ERep.mk (l := [y]) (Nat.le_refl _) (rd_blk b2 (fun h => h)) (EReps.one hy)
  exact ERep.mk (l := [star x, star y]) (Nat.le_refl _) (rd_blk b3 (fun h => h)) (EReps.append [star x] [star y] _ _ (EReps.one s1) (EReps.one s2))
set_option maxRecDepth 100000 in
set_option maxHeartbeats 4000000 in
theorem walk (s t : ByteArray) (w : World) (hg : HG w) :
    Calls Tryd.prog 6 #[.string s, .string t] w fun e w' => e = .returned (.bool true) ∧ Fr Nob w w' := by
  have HGG := Lib.hid hg
  clear hg
  go_enter Tryd.func6, Tryd.ntmps6
  go_wp2_with fail
  rcases parse_use s _ HGG.out with ⟨x, hs, hx, hxk, hP⟩ | hP
  · refine hP.mono ?_
    rintro e w1 ⟨A, c, rfl, hX, hF⟩
    have HF := Lib.hid hF
    have HX := Lib.hid hX
    have HWX := Lib.hid hx
    clear hF hX hx
    have hxk2 : (x.k == 0) = false := by simpa using hxk
    clear hxk
    go_wp2_with fail
    rcases parse_use t _ ((HGG.out.fr HF.out (fun h => h)).fr ((Fr.refl Nob w1).alloc (.cells #[.int .i64 x.k, .string x.name, .slice A x.l.length c] 24)) (fun h => h)) with ⟨y, ht, hy, hyk, hQ⟩ | hQ
    · refine hQ.mono ?_
      rintro e w2 ⟨A2, c2, rfl, hY, hF2⟩
      have HX1 := Lib.hid ((HX.out.fr0 ((Fr.refl _ w1).alloc (.cells #[.int .i64 x.k, .string x.name, .slice A x.l.length c] 24))).fr0 hF2.any)
      have hB1 := (Blk.new w1 [.int .i64 x.k, .string x.name, .slice A x.l.length c] 24).fr hF2 (fun h => h)
      have HB1 := Lib.hid hB1
      have HF2 := Lib.hid ((HF.out.alloc (.cells #[.int .i64 x.k, .string x.name, .slice A x.l.length c] 24)).same hF2)
      have HY := Lib.hid hY
      have HWY := Lib.hid hy
      have hyk2 : (y.k == 0) = false := by simpa using hyk
      have d0 := hB1.cell 0
      have d1 := hB1.cell 1
      have d2 := hB1.cell 2
      have hl := hB1.lt
      simp only [List.getElem?_cons_zero, List.getElem?_cons_succ] at d0 d1 d2
      clear hF2 hY hy hyk hB1
      by_cases hsum : s.size + t.size > 50
      · have g1 : ((s.size : Int) + (t.size : Int) > 50) := by omega
        clear hsum
        go_wp2_with fail
        refine (awake_any _ ((HGG.out.fr HF2.out (fun h => h)).fr ((Fr.refl Nob w2).alloc _) (fun h => h))).mono ?_
        rintro e w3 ⟨rfl, hF3⟩
        have HF3 := Lib.hid ((HF2.out.alloc _).same hF3)
        clear hF3
        go_wp2_with fail
        go_ret
        exact ⟨rfl, HF3.out⟩
      · have g1 : ¬ ((s.size : Int) + (t.size : Int) > 50) := by omega
        go_wp2_with fail
        generalize hW4 : (((w2.alloc (Obj.cells #[.int .i64 y.k, .string y.name, .slice A2 y.l.length c2] 24)).alloc (Obj.cells #[.int .i64 x.k, .string x.name, .slice A x.l.length c] 24)).alloc (Obj.cells #[.int .i64 y.k, .string y.name, .slice A2 y.l.length c2] 24)).alloc
          (Obj.cells #[.int .i64 4, .string ⟨#[]⟩, .slice (some ⟨w2.heap.size + 1, 0, none⟩) 1 1, .int .i64 4, .string ⟨#[]⟩, .slice (some ⟨w2.heap.size + 1 + 1, 0, none⟩) 1 1] 24) = W4
        have hf4 : Fr Nob w2 W4 := by subst hW4; exact ((((Fr.refl _ _).alloc _).alloc _).alloc _).alloc _
        have hsz4 : W4.heap.size = w2.heap.size + 4 := by subst hW4; simp
        have hb1 : Blk W4 (w2.heap.size + 1) [.int .i64 x.k, .string x.name, .slice A x.l.length c] 24 := by
          subst hW4
          exact ((Blk.new_at _ [.int .i64 x.k, .string x.name, .slice A x.l.length c] _ (w2.heap.size + 1) (by simp)).alloc _).alloc _
        have hb2 : Blk W4 (w2.heap.size + 2) [.int .i64 y.k, .string y.name, .slice A2 y.l.length c2] 24 := by
          subst hW4
          exact (Blk.new_at _ [.int .i64 y.k, .string y.name, .slice A2 y.l.length c2] _ (w2.heap.size + 2) (by simp)).alloc _
        have hb3 : Blk W4 (w2.heap.size + 3) [.int .i64 4, .string ⟨#[]⟩, .slice (some ⟨w2.heap.size + 1, 0, none⟩) 1 1, .int .i64 4, .string ⟨#[]⟩, .slice (some ⟨w2.heap.size + 2, 0, none⟩) 1 1] 24 := by
          subst hW4
          exact Blk.new_at _ [.int .i64 4, .string ⟨#[]⟩, .slice (some ⟨w2.heap.size + 1, 0, none⟩) 1 1, .int .i64 4, .string ⟨#[]⟩, .slice (some ⟨w2.heap.size + 2, 0, none⟩) 1 1] _ (w2.heap.size + 3) (by simp)
        have hrep := fun k => rep_two (ERep.mono (fun k h => h.elim) _ _ (HX1.out.fr0 hf4.any)) (ERep.mono (fun k h => h.elim) _ _ (HY.out.fr0 hf4.any)) hb1 hb2 hb3 k
        have HREP := Lib.hid hrep
        have HF4 := Lib.hid (HF2.out.same hf4)
        have hrow := whole_row HWX.out (by simpa using hxk2) HWY.out (by simpa using hyk2) (by simp; omega)
        have ha1 : (⟨#[40]⟩ ++ s ++ ⟨#[41, 42, 32, 40]⟩ ++ t ++ ⟨#[41, 42]⟩ : ByteArray).data.toList = 40 :: (s.data.toList ++ 41 :: 42 :: 32 :: 40 :: (t.data.toList ++ [41, 42])) := by
          simp only [ByteArray.data_append, Array.toList_append]
          simp
        have ha2 : (⟨#[40]⟩ ++ s ++ ⟨#[41, 42, 124, 40]⟩ ++ t ++ ⟨#[41, 42]⟩ : ByteArray).data.toList = 40 :: (s.data.toList ++ 41 :: 42 :: 124 :: 40 :: (t.data.toList ++ [41, 42])) := by
          simp only [ByteArray.data_append, Array.toList_append]
          simp
        have hz1 : (⟨#[40]⟩ : ByteArray).size = 1 := rfl
        have hz2 : (⟨#[41, 42, 32, 40]⟩ : ByteArray).size = 4 := rfl
        have hz3 : (⟨#[41, 42]⟩ : ByteArray).size = 2 := rfl
        have hz4 : (⟨#[41, 42, 124, 40]⟩ : ByteArray).size = 4 := rfl
        have hq1 : (⟨#[40]⟩ ++ s ++ ⟨#[41, 42, 32, 40]⟩ ++ t ++ ⟨#[41, 42]⟩ : ByteArray).size ≤ 200 := by simp only [ByteArray.size_append]; omega
        have hq2 : (⟨#[40]⟩ ++ s ++ ⟨#[41, 42, 124, 40]⟩ ++ t ++ ⟨#[41, 42]⟩ : ByteArray).size ≤ 200 := by simp only [ByteArray.size_append]; omega
        have hw1 := hrow.1
        have hw2 := hrow.2
        rw [← ha1] at hw1
        rw [← ha2] at hw2
        have HA2 := Lib.hid (And.intro hq2 hw2)
        have hcnt : (two 2 x y).count ≤ 200 ∧ (two 3 x y).count ≤ 200 := ⟨(checkT_few (whole_few hw1)).1, (checkT_few (whole_few hw2)).1⟩
        have HCNT := Lib.hid hcnt
        clear hW4 hf4 hb1 hb2 hb3 hrep hrow ha1 ha2 hz1 hz2 hz3 hz4 hq2 hw2 hcnt
        refine (parse_two _ 2 x y hq1 hw1 _ (HGG.out.fr HF4.out (fun h => h))).mono ?_
        rintro e w5 ⟨A5, c5, n1, rfl, hX5, hF5⟩
        clear hq1 hw1
        have HX5 := Lib.hid hX5
        have HF45 := Lib.hid hF5
        clear hX5 hF5
        go_wp2_with fail
        refine (parse_two _ 3 x y HA2.out.1 HA2.out.2 _ (((HGG.out.fr HF4.out (fun h => h)).fr HF45.out (fun h => h)).fr ((Fr.refl Nob w5).alloc _) (fun h => h))).mono ?_
        rintro e w6 ⟨A6, c6, n2, rfl, hX6, hF6⟩
        have hfa := ((Fr.refl Nob w5).alloc (.cells #[.int .i64 2, .string ⟨#[]⟩, .slice A5 2 c5] 24)).same hF6
        have hba := (Blk.new w5 [.int .i64 2, .string ⟨#[]⟩, .slice A5 2 c5] 24).fr hF6 (fun h => h)
        have HX56 := Lib.hid (HX5.out.fr0 hfa.any)
        have HF46 := Lib.hid (HF45.out.same hfa)
        have HX6 := Lib.hid hX6
        have HBA := Lib.hid hba
        have a0 := hba.cell 0
        have a1 := hba.cell 1
        have a2 := hba.cell 2
        have hla := hba.lt
        simp only [List.getElem?_cons_zero, List.getElem?_cons_succ] at a0 a1 a2
        clear hF6 hX6 hfa hba d0 d1 d2
        go_wp2_with fail
        have hf67 := (Fr.refl Nob w6).alloc (.cells #[.int .i64 3, .string ⟨#[]⟩, .slice A6 2 c6] 24)
        have hbb := Blk.new w6 [.int .i64 3, .string ⟨#[]⟩, .slice A6 2 c6] 24
        refine (same_any (two 2 x y) (two 2 x y) [.int .i64 2, .string ⟨#[]⟩, .slice A5 2 c5] [.int .i64 2, .string ⟨#[]⟩, .slice (some ⟨w2.heap.size + 3, 0, none⟩) 2 2] _ (ERep.mono (fun k h => h.elim) _ _ (HX56.out.fr0 hf67.any)) (((HREP.out 2).fr0 HF46.out).fr0 hf67) (by have := HCNT.out.1; omega)).mono ?_
        rintro e w7 ⟨rfl, hF7⟩
        rw [sameB_refl]
        have hf := hf67.same hF7
        have hbb7 := hbb.fr hF7 (fun h => h)
        have HX7 := Lib.hid ((HX6.out.fr0 hf67.any).fr0 hF7.any)
        have HF47 := Lib.hid (HF46.out.same hf)
        have b0 := hbb7.cell 0
        have b1 := hbb7.cell 1
        have b2 := hbb7.cell 2
        have hlb := hbb7.lt
        simp only [List.getElem?_cons_zero, List.getElem?_cons_succ] at b0 b1 b2
        clear hf67 hbb hF7 hf hbb7 a0 a1 a2
        go_wp2_with fail
        refine (same_any (two 3 x y) (two 3 x y) [.int .i64 3, .string ⟨#[]⟩, .slice A6 2 c6] [.int .i64 3, .string ⟨#[]⟩, .slice (some ⟨w2.heap.size + 3, 0, none⟩) 2 2] _ (ERep.mono (fun k h => h.elim) _ _ HX7.out) ((HREP.out 3).fr0 HF47.out) (by have := HCNT.out.2; omega)).mono ?_
        rintro e w8 ⟨rfl, hF8⟩
        rw [sameB_refl]
        have HF8 := Lib.hid ((HF4.out.same HF47.out).same hF8)
        clear hF8 b0 b1 b2
        go_wp2_with fail
        refine (awake_any _ (HGG.out.fr HF8.out (fun h => h))).mono ?_
        rintro e w9 ⟨rfl, hF9⟩
        have HF9 := Lib.hid (HF8.out.same hF9)
        clear hF9
        go_wp2_with fail
        go_ret
        exact ⟨rfl, HF9.out⟩
    · refine hQ.mono ?_
      rintro e w2 ⟨k2, n2, A2, m2, c2, i2, f2, rfl, hbad, hF2⟩
      have HF2 := Lib.hid ((HF.out.alloc (.cells #[.int .i64 x.k, .string x.name, .slice A x.l.length c] 24)).same hF2)
      have hB1 := (Blk.new w1 [.int .i64 x.k, .string x.name, .slice A x.l.length c] 24).fr hF2 (fun h => h)
      have d0 := hB1.cell 0
      have hl := hB1.lt
      simp only [List.getElem?_cons_zero] at d0
      clear hF2 hB1
      by_cases hf : f2 = 0
      · have hk : k2 = 0 := by omega
        subst hf hk
        clear hbad
        go_wp2_with fail
        refine (awake_any _ ((HGG.out.fr HF2.out (fun h => h)).fr ((Fr.refl Nob w2).alloc _) (fun h => h))).mono ?_
        rintro e w3 ⟨rfl, hF3⟩
        have HF3 := Lib.hid ((HF2.out.alloc _).same hF3)
        clear hF3
        go_wp2_with fail
        go_ret
        exact ⟨rfl, HF3.out⟩
      · have hf2 : (f2 != 0) = true := by simpa using hf
        clear hbad hf
        go_wp2_with fail
        refine (awake_any _ ((HGG.out.fr HF2.out (fun h => h)).fr ((Fr.refl Nob w2).alloc _) (fun h => h))).mono ?_
        rintro e w3 ⟨rfl, hF3⟩
        have HF3 := Lib.hid ((HF2.out.alloc _).same hF3)
        clear hF3
        go_wp2_with fail
        go_ret
        exact ⟨rfl, HF3.out⟩
  · refine hP.mono ?_
    rintro e w1 ⟨k1, n1, A1, m1, c1, i1, f1, rfl, hbad, hF⟩
    have HF := Lib.hid hF
    clear hF
    go_wp2_with fail
    refine (parse_any t _ ((HGG.out.fr HF.out (fun h => h)).fr ((Fr.refl Nob w1).alloc _) (fun h => h))).mono ?_
    rintro e w2 ⟨⟨cs, rfl, hY⟩, hF2⟩
    obtain ⟨A2, c2, css, rfl, _, _, _⟩ := hY.open_
    generalize (parseF t).1 = y at hY
    generalize (parseF t).2.1 = i2
    generalize (parseF t).2.2 = f2
    have HF2 := Lib.hid ((HF.out.alloc (.cells #[.int .i64 k1, .string n1, .slice A1 m1 c1] 24)).same hF2)
    have hB1 := (Blk.new w1 [.int .i64 k1, .string n1, .slice A1 m1 c1] 24).fr hF2 (fun h => h)
    have d0 := hB1.cell 0
    have hl := hB1.lt
    simp only [List.getElem?_cons_zero] at d0
    clear hF2 hB1 hY
    by_cases hf : f1 = 0
    · have hk : k1 = 0 := by omega
      subst hf hk
      clear hbad
      by_cases hf2 : (f2 != 0) = true
      all_goals
        go_wp2_with fail
        refine (awake_any _ ((HGG.out.fr HF2.out (fun h => h)).fr ((Fr.refl Nob w2).alloc _) (fun h => h))).mono ?_
        rintro e w3 ⟨rfl, hF3⟩
        have HF3 := Lib.hid ((HF2.out.alloc _).same hF3)
        clear hF3
        go_wp2_with fail
        go_ret
        exact ⟨rfl, HF3.out⟩
    · have hf2 : (f1 != 0) = true := by simpa using hf
      clear hbad hf
      go_wp2_with fail
      refine (awake_any _ ((HGG.out.fr HF2.out (fun h => h)).fr ((Fr.refl Nob w2).alloc _) (fun h => h))).mono ?_
      rintro e w3 ⟨rfl, hF3⟩
      have HF3 := Lib.hid ((HF2.out.alloc _).same hF3)
      clear hF3
      go_wp2_with fail
      go_ret
      exact ⟨rfl, HF3.out⟩
end Go.Proofs.YtgmjgflifgjpmaaDoor.exprJoins
