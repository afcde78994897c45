/- ExprBack: the law's walk. -/
import Derived.Test.YtgmjgflifgjpmaaDoorExprBackP
import Derived.Test.YtgmjgflifgjpmaaDoorExprPrint
import Derived.Deep.RegionHeld3
namespace Go.Proofs.YtgmjgflifgjpmaaDoor.exprBack
open Go.RowKit
theorem parse_or (s : ByteArray) : (s.size ≤ 200 ∧ ∃ y, wholeT s.data.toList = some y) ∨ ∃ i c, parseF s = (emptyT, i, c) ∧ (c != 0) = true := by
  by_cases h : s.size ≤ 200
  · cases hw : wholeT s.data.toList with
    | some y => exact .inl ⟨h, y, rfl⟩
    | none =>
      obtain ⟨i, hi⟩ := parse_none h hw
      exact .inr ⟨i, 4, hi, rfl⟩
  · exact .inr ⟨0, 2, by unfold parseF; rw [if_pos (by omega)], rfl⟩
set_option maxRecDepth 100000 in
set_option maxHeartbeats 4000000 in
theorem walk (x : Tree) (cs : List Value) (s : ByteArray) (w : World) (hx : ERep Nob w x cs) (hn : x.count ≤ 1048576) (hb : x.bytes ≤ 1048576) (hg : HG w) :
    Calls Tryd.prog 8 #[.agg cs.toArray, .string s] w fun e w' => e = .returned (.bool true) ∧ Fr Nob w w' := by
  have HGG := Lib.hid hg
  have HX := Lib.hid hx
  have HN := Lib.hid (And.intro hn hb)
  obtain ⟨A, c, css, rfl, hc, hR, hE⟩ := hx.open_
  clear hg hx hn hb hR hE
  have hbx := Blk.new w [.int .i64 x.k, .string x.name, .slice A x.l.length c] 24
  have hfa := (Fr.refl Nob w).alloc (.cells #[.int .i64 x.k, .string x.name, .slice A x.l.length c] 24)
  go_enter Tryd.func8, Tryd.ntmps8
  go_wp2_with fail
  generalize w.alloc (.cells #[.int .i64 x.k, .string x.name, .slice A x.l.length c] 24) = w0 at hbx hfa
  have HBX := Lib.hid hbx
  have HF := Lib.hid hfa
  have HX0 := Lib.hid (HX.out.fr0 hfa)
  clear hbx hfa HX
  refine (print_any x _ w0 HX0.out HN.out.1 HN.out.2).mono ?_
  rintro e w1 ⟨rfl, hF1⟩
  have HF1 := Lib.hid hF1
  have hbx1 := HBX.out.fr hF1 (fun h => h)
  have d0 := hbx1.cell 0
  have d1 := hbx1.cell 1
  have d2 := hbx1.cell 2
  have hlx := hbx1.lt
  simp only [List.getElem?_cons_zero, List.getElem?_cons_succ] at d0 d1 d2
  clear hF1 hbx1
  have hcase : (checkT x = 0 ∧ (textT x).length ≤ 200 ∧ printF x = textT x) ∨ Hid (checkT x ≠ 0) ∧ (checkT x == 0) = false ∨ Hid (200 < (textT x).length) ∧ checkT x = 0 ∧ printF x = textT x := by
    by_cases h : checkT x = 0
    · have hp : printF x = textT x := by unfold printF; rw [if_pos h]
      by_cases h2 : (textT x).length ≤ 200
      · exact .inl ⟨h, h2, hp⟩
      · exact .inr (.inr ⟨by show 200 < _; omega, h, hp⟩)
    · exact .inr (.inl ⟨h, by simpa using h⟩)
  rcases hcase with ⟨hck, htl, hp⟩ | ⟨_, hck⟩ | ⟨htl, hck, hp⟩
  · rw [hck, hp]
    have HCK := Lib.hid hck
    have hbs : (bs (textT x)).size = (textT x).length := bs_size _
    have ht1 : ((bs (textT x)).size : Int) ≤ 200 := by omega
    have ht2 : (bs (textT x)).size ≤ 200 := by omega
    clear hp hck htl hbs
    go_wp2_with fail
    have hbl : wholeT (bs (textT x)).data.toList = some x := by rw [bs_list]; exact text_back x HCK.out
    refine (parse_ok (bs (textT x)) x ht2 hbl w1 (HGG.out.fr (HF.out.same HF1.out) (fun h => h))).mono ?_
    rintro e w2 ⟨A2, c2, rfl, hX2, hF2⟩
    have HX2 := Lib.hid hX2
    have HF2 := Lib.hid (HF1.out.same hF2)
    have hbx2 := HBX.out.fr HF2.out (fun h => h)
    clear d0 d1 d2 hlx
    have d0 := hbx2.cell 0
    have d1 := hbx2.cell 1
    have d2 := hbx2.cell 2
    have hlx := hbx2.lt
    simp only [List.getElem?_cons_zero, List.getElem?_cons_succ] at d0 d1 d2
    clear hX2 hF2 hbx2 hbl
    go_wp2_with fail
    have hfb := (Fr.refl Nob w2).alloc (.cells #[.int .i64 x.k, .string x.name, .slice A2 x.l.length c2] 24)
    refine (same_any x x _ _ _ ((ERep.mono (M' := Nob) (fun k hk => hk.elim) _ _ HX2.out).fr0 hfb) ((HX0.out.fr0 HF2.out).fr0 hfb) (by have := HN.out; omega)).mono ?_
    rintro e w3 ⟨rfl, hF3⟩
    rw [sameB_refl]
    have HFa := Lib.hid (HF.out.same ((HF2.out.same hfb).same hF3))
    clear hF3 hfb d0 d1 d2 hlx HX2 HF2 HF1 HCK ht1 ht2
    go_wp2_with fail
    rcases parse_or s with ⟨hs, y, hy⟩ | ⟨i, cd, hps, hcd⟩
    · refine (parse_ok s y hs hy _ (HGG.out.fr HFa.out (fun h => h))).mono ?_
      rintro e W ⟨A3, c3, rfl, hX3, hF3⟩
      have hY0 : checkT y = 0 := whole_few hy
      have hYb := whole_bytes hy
      have hYl : s.data.toList.length = s.size := by simp
      have hYf := (checkT_few hY0).1
      have HY := Lib.hid (And.intro hY0 (And.intro (show y.bytes ≤ 200 by omega) hYf))
      have HF3 := Lib.hid (HFa.out.same hF3)
      have HX3 := Lib.hid (ERep.mono (M' := Nob) (fun k hk => hk.elim) _ _ hX3)
      clear hX3 hF3 hY0 hYb hYl hYf hy hs
      have hby := Blk.new W [.int .i64 y.k, .string y.name, .slice A3 y.l.length c3] 24
      have hfc := (Fr.refl Nob W).alloc (.cells #[.int .i64 y.k, .string y.name, .slice A3 y.l.length c3] 24)
      go_wp2_with fail
      generalize W.alloc (.cells #[.int .i64 y.k, .string y.name, .slice A3 y.l.length c3] 24) = w4 at hby hfc
      have HBY := Lib.hid hby
      have HX4 := Lib.hid (HX3.out.fr0 hfc)
      have HF4 := Lib.hid (HF3.out.same hfc)
      clear hby hfc
      refine (print_any y _ w4 HX4.out (by have := HY.out; omega) (by have := HY.out; omega)).mono ?_
      rintro e w5 ⟨rfl, hF5⟩
      have hpy : printF y = textT y := by unfold printF; rw [if_pos HY.out.1]
      rw [hpy, HY.out.1]
      have HF5 := Lib.hid hF5
      have hby5 := HBY.out.fr hF5 (fun h => h)
      have d0 := hby5.cell 0
      have d1 := hby5.cell 1
      have d2 := hby5.cell 2
      have hly := hby5.lt
      simp only [List.getElem?_cons_zero, List.getElem?_cons_succ] at d0 d1 d2
      clear hF5 hby5 hpy
      go_wp2_with fail
      have hbs : (bs (textT y)).size = (textT y).length := bs_size _
      by_cases hu : (textT y).length ≤ 200
      · have hbl : wholeT (bs (textT y)).data.toList = some y := by rw [bs_list]; exact text_back y HY.out.1
        refine (parse_ok (bs (textT y)) y (by omega) hbl w5 (HGG.out.fr (HF4.out.same HF5.out) (fun h => h))).mono ?_
        rintro e w6 ⟨A6, c6, rfl, hX6, hF6⟩
        have gu : decide (((bs (textT y)).size : Int) > 200) = false := by simp; omega
        have HF6 := Lib.hid (HF5.out.same hF6)
        have hfd := (Fr.refl Nob w6).alloc (.cells #[.int .i64 y.k, .string y.name, .slice A6 y.l.length c6] 24)
        have hby7 := HBY.out.fr (HF6.out.same hfd) (fun h => h)
        have hbz7 := Blk.new w6 [.int .i64 y.k, .string y.name, .slice A6 y.l.length c6] 24
        have HX7 := Lib.hid (HX4.out.fr0 (HF6.out.same hfd))
        have HX8 := Lib.hid ((ERep.mono (M' := Nob) (fun k hk => hk.elim) _ _ hX6).fr0 hfd)
        have HF7 := Lib.hid (HF4.out.same (HF6.out.same hfd))
        clear d0 d1 d2 hly hF6
        have d0 := hby7.cell 0
        have d1 := hby7.cell 1
        have d2 := hby7.cell 2
        have e0 := hbz7.cell 0
        have e1 := hbz7.cell 1
        have e2 := hbz7.cell 2
        have hly := hby7.lt
        have hlz := hbz7.lt
        simp only [List.getElem?_cons_zero, List.getElem?_cons_succ] at d0 d1 d2 e0 e1 e2
        go_wp2_with fail
        generalize w6.alloc (.cells #[.int .i64 y.k, .string y.name, .slice A6 y.l.length c6] 24) = w7 at hby7 hbz7 HX7 HF7 HX8 hfd
        have HBY7 := Lib.hid hby7
        have HBZ := Lib.hid hbz7
        have HFd : Hid (Fr Nob w7 w7.drew) := (Fr.refl Nob w7).drew
        have HFn : Hid (Fr Nob w7 w7) := Fr.refl Nob w7
        clear hby7 hbz7 hfd
        have K0 : ∀ V, Fr Nob w7 V → V.cell? ⟨W.heap.size, 0, none⟩ = some (.int .i64 y.k) ∧ V.cell? ⟨W.heap.size, 1, none⟩ = some (.string y.name) ∧ V.cell? ⟨W.heap.size, 2, none⟩ = some (.slice A3 y.l.length c3) ∧ V.cell? ⟨w6.heap.size, 0, none⟩ = some (.int .i64 y.k) ∧ V.cell? ⟨w6.heap.size, 1, none⟩ = some (.string y.name) ∧ V.cell? ⟨w6.heap.size, 2, none⟩ = some (.slice A6 y.l.length c6) ∧ Hid (Fr Nob w7 V) := fun V hF =>
          ⟨(HBY7.out.fr hF (fun h => h)).cell 0, (HBY7.out.fr hF (fun h => h)).cell 1, (HBY7.out.fr hF (fun h => h)).cell 2, (HBZ.out.fr hF (fun h => h)).cell 0, (HBZ.out.fr hF (fun h => h)).cell 1, (HBZ.out.fr hF (fun h => h)).cell 2, hF⟩
        have K1 : ∀ V, Hid (Fr Nob w7 V) → Calls Tryd.prog 16 #[.agg #[.int .i64 y.k, .string y.name, .slice A3 y.l.length c3]] V fun e w' => e = .returned (.int .i64 0) ∧ Hid (Fr Nob w7 w') := fun V hF =>
          (check_any y _ V (HX7.out.fr0 hF.out) (by have := HY.out; omega) (by have := HY.out; omega)).mono fun e w' h => ⟨by rw [h.1, HY.out.1], hF.out.same h.2⟩
        have K5 : ∀ V, Hid (Fr Nob w7 V) → Calls Tryd.prog 12 #[] V fun e w' => e = .returned (.bool true) ∧ Hid (Fr Nob w7 w') := fun V hF =>
          (awake_any V (HGG.out.fr (HF7.out.same hF.out) (fun h => h))).mono fun e w' h => ⟨h.1, hF.out.same h.2⟩
        have K3 : ∀ V, Hid (Fr Nob w7 V) → Calls Tryd.prog 13 #[.agg #[.int .i64 y.k, .string y.name, .slice A6 y.l.length c6], .agg #[.int .i64 y.k, .string y.name, .slice A3 y.l.length c3]] V fun e w' => e = .returned (.bool true) ∧ Hid (Fr Nob w7 w') := fun V hF =>
          (same_any y y _ _ V (HX8.out.fr0 hF.out) (HX7.out.fr0 hF.out) (by have := HY.out; omega)).mono fun e w' h => ⟨by rw [h.1, sameB_refl], hF.out.same h.2⟩
        have HK3 := Lib.hid K3
        clear K3
        have HK0 := Lib.hid K0
        have HK1 := Lib.hid K1
        have HK5 := Lib.hid K5
        clear K0 K1 K5
        refine (HK1.out _ HFn).mono ?_
        rintro e V1 ⟨rfl, hG1⟩
        clear d0 d1 d2 e0 e1 e2 hly hlz
        obtain ⟨d0, d1, d2, e0, e1, e2, HG1⟩ := HK0.out _ hG1.out
        have hly := cell_lt d0
        have hlz := cell_lt e0
        clear hG1
        go_wp2_with fail
        refine (HK3.out _ HG1).mono ?_
        rintro e V2 ⟨rfl, hG2⟩
        clear d0 d1 d2 e0 e1 e2 hly hlz
        go_wp2_with fail
        refine (HK5.out _ hG2).mono ?_
        rintro e V3 ⟨rfl, hFF⟩
        go_wp2_with fail
        go_ret
        exact ⟨by simp, HF7.out.same hFF.out⟩
      · have hps : parseF (bs (textT y)) = (emptyT, 0, 2) := by unfold parseF; rw [if_pos (by omega)]
        refine (parse_any (bs (textT y)) w5 (HGG.out.fr (HF4.out.same HF5.out) (fun h => h))).mono ?_
        rintro e w6 ⟨⟨cs6, rfl, hx6⟩, hF6⟩
        rw [hps] at hx6 ⊢
        obtain ⟨A6, c6, css6, rfl, hc6, hR6, hE6⟩ := hx6.open_
        clear hx6 hR6 hE6 hc6 hps
        simp only [show emptyT.k = 0 from rfl, show emptyT.name = ⟨#[]⟩ from rfl, show emptyT.l = [] from rfl, List.length_nil]
        have gu : decide (((bs (textT y)).size : Int) > 200) = true := by simp; omega
        have HF6 := Lib.hid (HF5.out.same hF6)
        have hfd := (Fr.refl Nob w6).alloc (.cells #[.int .i64 0, .string ⟨#[]⟩, .slice A6 0 c6] 24)
        have hby7 := HBY.out.fr (HF6.out.same hfd) (fun h => h)
        have hbz7 := Blk.new w6 [.int .i64 0, .string ⟨#[]⟩, .slice A6 0 c6] 24
        have HX7 := Lib.hid (HX4.out.fr0 (HF6.out.same hfd))
        have HF7 := Lib.hid (HF4.out.same (HF6.out.same hfd))
        clear d0 d1 d2 hly hF6
        have d0 := hby7.cell 0
        have d1 := hby7.cell 1
        have d2 := hby7.cell 2
        have e0 := hbz7.cell 0
        have e1 := hbz7.cell 1
        have e2 := hbz7.cell 2
        have hly := hby7.lt
        have hlz := hbz7.lt
        simp only [List.getElem?_cons_zero, List.getElem?_cons_succ] at d0 d1 d2 e0 e1 e2
        go_wp2_with fail
        generalize w6.alloc (.cells #[.int .i64 0, .string ⟨#[]⟩, .slice A6 0 c6] 24) = w7 at hby7 hbz7 HX7 HF7 hfd
        have HBY7 := Lib.hid hby7
        have HBZ := Lib.hid hbz7
        have HFd : Hid (Fr Nob w7 w7.drew) := (Fr.refl Nob w7).drew
        have HFn : Hid (Fr Nob w7 w7) := Fr.refl Nob w7
        clear hby7 hbz7 hfd
        have K0 : ∀ V, Fr Nob w7 V → V.cell? ⟨W.heap.size, 0, none⟩ = some (.int .i64 y.k) ∧ V.cell? ⟨W.heap.size, 1, none⟩ = some (.string y.name) ∧ V.cell? ⟨W.heap.size, 2, none⟩ = some (.slice A3 y.l.length c3) ∧ V.cell? ⟨w6.heap.size, 0, none⟩ = some (.int .i64 0) ∧ V.cell? ⟨w6.heap.size, 1, none⟩ = some (.string ⟨#[]⟩) ∧ V.cell? ⟨w6.heap.size, 2, none⟩ = some (.slice A6 0 c6) ∧ Hid (Fr Nob w7 V) := fun V hF =>
          ⟨(HBY7.out.fr hF (fun h => h)).cell 0, (HBY7.out.fr hF (fun h => h)).cell 1, (HBY7.out.fr hF (fun h => h)).cell 2, (HBZ.out.fr hF (fun h => h)).cell 0, (HBZ.out.fr hF (fun h => h)).cell 1, (HBZ.out.fr hF (fun h => h)).cell 2, hF⟩
        have K1 : ∀ V, Hid (Fr Nob w7 V) → Calls Tryd.prog 16 #[.agg #[.int .i64 y.k, .string y.name, .slice A3 y.l.length c3]] V fun e w' => e = .returned (.int .i64 0) ∧ Hid (Fr Nob w7 w') := fun V hF =>
          (check_any y _ V (HX7.out.fr0 hF.out) (by have := HY.out; omega) (by have := HY.out; omega)).mono fun e w' h => ⟨by rw [h.1, HY.out.1], hF.out.same h.2⟩
        have K5 : ∀ V, Hid (Fr Nob w7 V) → Calls Tryd.prog 12 #[] V fun e w' => e = .returned (.bool true) ∧ Hid (Fr Nob w7 w') := fun V hF =>
          (awake_any V (HGG.out.fr (HF7.out.same hF.out) (fun h => h))).mono fun e w' h => ⟨h.1, hF.out.same h.2⟩
        have HK0 := Lib.hid K0
        have HK1 := Lib.hid K1
        have HK5 := Lib.hid K5
        clear K0 K1 K5
        refine (HK1.out _ HFn).mono ?_
        rintro e V1 ⟨rfl, hG1⟩
        clear d0 d1 d2 e0 e1 e2 hly hlz
        obtain ⟨d0, d1, d2, e0, e1, e2, HG1⟩ := HK0.out _ hG1.out
        have hly := cell_lt d0
        have hlz := cell_lt e0
        clear hG1
        go_wp2_with fail
        refine (HK5.out _ HG1).mono ?_
        rintro e V3 ⟨rfl, hFF⟩
        go_wp2_with fail
        go_ret
        exact ⟨by simp, HF7.out.same hFF.out⟩
    · refine (parse_any s _ (HGG.out.fr HFa.out (fun h => h))).mono ?_
      rintro e W ⟨⟨cs2, rfl, hx2⟩, hF3⟩
      rw [hps] at hx2 ⊢
      obtain ⟨A3, c3, css3, rfl, hc3, hR3, hE3⟩ := hx2.open_
      have HF3 := Lib.hid (HFa.out.same hF3)
      clear hx2 hR3 hE3 hF3 hps
      simp only [show emptyT.k = 0 from rfl, show emptyT.name = ⟨#[]⟩ from rfl, show emptyT.l = [] from rfl, List.length_nil]
      go_wp2_with fail
      refine (awake_any _ (HGG.out.fr (HF3.out.alloc _) (fun h => h))).mono ?_
      rintro e W2 ⟨rfl, hF4⟩
      have HF4 := Lib.hid ((HF3.out.alloc _).same hF4)
      clear hF4
      go_wp2_with fail
      go_ret
      exact ⟨rfl, HF4.out⟩
  · have HFa := Lib.hid (HF.out.same HF1.out)
    clear d0 d1 d2 hlx HF1
    go_wp2_with fail
    rcases parse_or s with ⟨hs, y, hy⟩ | ⟨i, cd, hps, hcd⟩
    · refine (parse_ok s y hs hy _ (HGG.out.fr HFa.out (fun h => h))).mono ?_
      rintro e W ⟨A3, c3, rfl, hX3, hF3⟩
      have hY0 : checkT y = 0 := whole_few hy
      have hYb := whole_bytes hy
      have hYl : s.data.toList.length = s.size := by simp
      have hYf := (checkT_few hY0).1
      have HY := Lib.hid (And.intro hY0 (And.intro (show y.bytes ≤ 200 by omega) hYf))
      have HF3 := Lib.hid (HFa.out.same hF3)
      have HX3 := Lib.hid (ERep.mono (M' := Nob) (fun k hk => hk.elim) _ _ hX3)
      clear hX3 hF3 hY0 hYb hYl hYf hy hs
      have hby := Blk.new W [.int .i64 y.k, .string y.name, .slice A3 y.l.length c3] 24
      have hfc := (Fr.refl Nob W).alloc (.cells #[.int .i64 y.k, .string y.name, .slice A3 y.l.length c3] 24)
      go_wp2_with fail
      generalize W.alloc (.cells #[.int .i64 y.k, .string y.name, .slice A3 y.l.length c3] 24) = w4 at hby hfc
      have HBY := Lib.hid hby
      have HX4 := Lib.hid (HX3.out.fr0 hfc)
      have HF4 := Lib.hid (HF3.out.same hfc)
      clear hby hfc
      refine (print_any y _ w4 HX4.out (by have := HY.out; omega) (by have := HY.out; omega)).mono ?_
      rintro e w5 ⟨rfl, hF5⟩
      have hpy : printF y = textT y := by unfold printF; rw [if_pos HY.out.1]
      rw [hpy, HY.out.1]
      have HF5 := Lib.hid hF5
      have hby5 := HBY.out.fr hF5 (fun h => h)
      have d0 := hby5.cell 0
      have d1 := hby5.cell 1
      have d2 := hby5.cell 2
      have hly := hby5.lt
      simp only [List.getElem?_cons_zero, List.getElem?_cons_succ] at d0 d1 d2
      clear hF5 hby5 hpy
      go_wp2_with fail
      have hbs : (bs (textT y)).size = (textT y).length := bs_size _
      by_cases hu : (textT y).length ≤ 200
      · have hbl : wholeT (bs (textT y)).data.toList = some y := by rw [bs_list]; exact text_back y HY.out.1
        refine (parse_ok (bs (textT y)) y (by omega) hbl w5 (HGG.out.fr (HF4.out.same HF5.out) (fun h => h))).mono ?_
        rintro e w6 ⟨A6, c6, rfl, hX6, hF6⟩
        have gu : decide (((bs (textT y)).size : Int) > 200) = false := by simp; omega
        have HF6 := Lib.hid (HF5.out.same hF6)
        have hfd := (Fr.refl Nob w6).alloc (.cells #[.int .i64 y.k, .string y.name, .slice A6 y.l.length c6] 24)
        have hby7 := HBY.out.fr (HF6.out.same hfd) (fun h => h)
        have hbz7 := Blk.new w6 [.int .i64 y.k, .string y.name, .slice A6 y.l.length c6] 24
        have HX7 := Lib.hid (HX4.out.fr0 (HF6.out.same hfd))
        have HX8 := Lib.hid ((ERep.mono (M' := Nob) (fun k hk => hk.elim) _ _ hX6).fr0 hfd)
        have HF7 := Lib.hid (HF4.out.same (HF6.out.same hfd))
        clear d0 d1 d2 hly hF6
        have d0 := hby7.cell 0
        have d1 := hby7.cell 1
        have d2 := hby7.cell 2
        have e0 := hbz7.cell 0
        have e1 := hbz7.cell 1
        have e2 := hbz7.cell 2
        have hly := hby7.lt
        have hlz := hbz7.lt
        simp only [List.getElem?_cons_zero, List.getElem?_cons_succ] at d0 d1 d2 e0 e1 e2
        go_wp2_with fail
        generalize w6.alloc (.cells #[.int .i64 y.k, .string y.name, .slice A6 y.l.length c6] 24) = w7 at hby7 hbz7 HX7 HF7 HX8 hfd
        have HBY7 := Lib.hid hby7
        have HBZ := Lib.hid hbz7
        have HFd : Hid (Fr Nob w7 w7.drew) := (Fr.refl Nob w7).drew
        have HFn : Hid (Fr Nob w7 w7) := Fr.refl Nob w7
        clear hby7 hbz7 hfd
        have K0 : ∀ V, Fr Nob w7 V → V.cell? ⟨W.heap.size, 0, none⟩ = some (.int .i64 y.k) ∧ V.cell? ⟨W.heap.size, 1, none⟩ = some (.string y.name) ∧ V.cell? ⟨W.heap.size, 2, none⟩ = some (.slice A3 y.l.length c3) ∧ V.cell? ⟨w6.heap.size, 0, none⟩ = some (.int .i64 y.k) ∧ V.cell? ⟨w6.heap.size, 1, none⟩ = some (.string y.name) ∧ V.cell? ⟨w6.heap.size, 2, none⟩ = some (.slice A6 y.l.length c6) ∧ Hid (Fr Nob w7 V) := fun V hF =>
          ⟨(HBY7.out.fr hF (fun h => h)).cell 0, (HBY7.out.fr hF (fun h => h)).cell 1, (HBY7.out.fr hF (fun h => h)).cell 2, (HBZ.out.fr hF (fun h => h)).cell 0, (HBZ.out.fr hF (fun h => h)).cell 1, (HBZ.out.fr hF (fun h => h)).cell 2, hF⟩
        have K1 : ∀ V, Hid (Fr Nob w7 V) → Calls Tryd.prog 16 #[.agg #[.int .i64 y.k, .string y.name, .slice A3 y.l.length c3]] V fun e w' => e = .returned (.int .i64 0) ∧ Hid (Fr Nob w7 w') := fun V hF =>
          (check_any y _ V (HX7.out.fr0 hF.out) (by have := HY.out; omega) (by have := HY.out; omega)).mono fun e w' h => ⟨by rw [h.1, HY.out.1], hF.out.same h.2⟩
        have K5 : ∀ V, Hid (Fr Nob w7 V) → Calls Tryd.prog 12 #[] V fun e w' => e = .returned (.bool true) ∧ Hid (Fr Nob w7 w') := fun V hF =>
          (awake_any V (HGG.out.fr (HF7.out.same hF.out) (fun h => h))).mono fun e w' h => ⟨h.1, hF.out.same h.2⟩
        have K3 : ∀ V, Hid (Fr Nob w7 V) → Calls Tryd.prog 13 #[.agg #[.int .i64 y.k, .string y.name, .slice A6 y.l.length c6], .agg #[.int .i64 y.k, .string y.name, .slice A3 y.l.length c3]] V fun e w' => e = .returned (.bool true) ∧ Hid (Fr Nob w7 w') := fun V hF =>
          (same_any y y _ _ V (HX8.out.fr0 hF.out) (HX7.out.fr0 hF.out) (by have := HY.out; omega)).mono fun e w' h => ⟨by rw [h.1, sameB_refl], hF.out.same h.2⟩
        have HK3 := Lib.hid K3
        clear K3
        have HK0 := Lib.hid K0
        have HK1 := Lib.hid K1
        have HK5 := Lib.hid K5
        clear K0 K1 K5
        refine (HK1.out _ HFn).mono ?_
        rintro e V1 ⟨rfl, hG1⟩
        clear d0 d1 d2 e0 e1 e2 hly hlz
        obtain ⟨d0, d1, d2, e0, e1, e2, HG1⟩ := HK0.out _ hG1.out
        have hly := cell_lt d0
        have hlz := cell_lt e0
        clear hG1
        go_wp2_with fail
        refine (HK3.out _ HG1).mono ?_
        rintro e V2 ⟨rfl, hG2⟩
        clear d0 d1 d2 e0 e1 e2 hly hlz
        go_wp2_with fail
        refine (HK5.out _ hG2).mono ?_
        rintro e V3 ⟨rfl, hFF⟩
        go_wp2_with fail
        go_ret
        exact ⟨by simp, HF7.out.same hFF.out⟩
      · have hps : parseF (bs (textT y)) = (emptyT, 0, 2) := by unfold parseF; rw [if_pos (by omega)]
        refine (parse_any (bs (textT y)) w5 (HGG.out.fr (HF4.out.same HF5.out) (fun h => h))).mono ?_
        rintro e w6 ⟨⟨cs6, rfl, hx6⟩, hF6⟩
        rw [hps] at hx6 ⊢
        obtain ⟨A6, c6, css6, rfl, hc6, hR6, hE6⟩ := hx6.open_
        clear hx6 hR6 hE6 hc6 hps
        simp only [show emptyT.k = 0 from rfl, show emptyT.name = ⟨#[]⟩ from rfl, show emptyT.l = [] from rfl, List.length_nil]
        have gu : decide (((bs (textT y)).size : Int) > 200) = true := by simp; omega
        have HF6 := Lib.hid (HF5.out.same hF6)
        have hfd := (Fr.refl Nob w6).alloc (.cells #[.int .i64 0, .string ⟨#[]⟩, .slice A6 0 c6] 24)
        have hby7 := HBY.out.fr (HF6.out.same hfd) (fun h => h)
        have hbz7 := Blk.new w6 [.int .i64 0, .string ⟨#[]⟩, .slice A6 0 c6] 24
        have HX7 := Lib.hid (HX4.out.fr0 (HF6.out.same hfd))
        have HF7 := Lib.hid (HF4.out.same (HF6.out.same hfd))
        clear d0 d1 d2 hly hF6
        have d0 := hby7.cell 0
        have d1 := hby7.cell 1
        have d2 := hby7.cell 2
        have e0 := hbz7.cell 0
        have e1 := hbz7.cell 1
        have e2 := hbz7.cell 2
        have hly := hby7.lt
        have hlz := hbz7.lt
        simp only [List.getElem?_cons_zero, List.getElem?_cons_succ] at d0 d1 d2 e0 e1 e2
        go_wp2_with fail
        generalize w6.alloc (.cells #[.int .i64 0, .string ⟨#[]⟩, .slice A6 0 c6] 24) = w7 at hby7 hbz7 HX7 HF7 hfd
        have HBY7 := Lib.hid hby7
        have HBZ := Lib.hid hbz7
        have HFd : Hid (Fr Nob w7 w7.drew) := (Fr.refl Nob w7).drew
        have HFn : Hid (Fr Nob w7 w7) := Fr.refl Nob w7
        clear hby7 hbz7 hfd
        have K0 : ∀ V, Fr Nob w7 V → V.cell? ⟨W.heap.size, 0, none⟩ = some (.int .i64 y.k) ∧ V.cell? ⟨W.heap.size, 1, none⟩ = some (.string y.name) ∧ V.cell? ⟨W.heap.size, 2, none⟩ = some (.slice A3 y.l.length c3) ∧ V.cell? ⟨w6.heap.size, 0, none⟩ = some (.int .i64 0) ∧ V.cell? ⟨w6.heap.size, 1, none⟩ = some (.string ⟨#[]⟩) ∧ V.cell? ⟨w6.heap.size, 2, none⟩ = some (.slice A6 0 c6) ∧ Hid (Fr Nob w7 V) := fun V hF =>
          ⟨(HBY7.out.fr hF (fun h => h)).cell 0, (HBY7.out.fr hF (fun h => h)).cell 1, (HBY7.out.fr hF (fun h => h)).cell 2, (HBZ.out.fr hF (fun h => h)).cell 0, (HBZ.out.fr hF (fun h => h)).cell 1, (HBZ.out.fr hF (fun h => h)).cell 2, hF⟩
        have K1 : ∀ V, Hid (Fr Nob w7 V) → Calls Tryd.prog 16 #[.agg #[.int .i64 y.k, .string y.name, .slice A3 y.l.length c3]] V fun e w' => e = .returned (.int .i64 0) ∧ Hid (Fr Nob w7 w') := fun V hF =>
          (check_any y _ V (HX7.out.fr0 hF.out) (by have := HY.out; omega) (by have := HY.out; omega)).mono fun e w' h => ⟨by rw [h.1, HY.out.1], hF.out.same h.2⟩
        have K5 : ∀ V, Hid (Fr Nob w7 V) → Calls Tryd.prog 12 #[] V fun e w' => e = .returned (.bool true) ∧ Hid (Fr Nob w7 w') := fun V hF =>
          (awake_any V (HGG.out.fr (HF7.out.same hF.out) (fun h => h))).mono fun e w' h => ⟨h.1, hF.out.same h.2⟩
        have HK0 := Lib.hid K0
        have HK1 := Lib.hid K1
        have HK5 := Lib.hid K5
        clear K0 K1 K5
        refine (HK1.out _ HFn).mono ?_
        rintro e V1 ⟨rfl, hG1⟩
        clear d0 d1 d2 e0 e1 e2 hly hlz
        obtain ⟨d0, d1, d2, e0, e1, e2, HG1⟩ := HK0.out _ hG1.out
        have hly := cell_lt d0
        have hlz := cell_lt e0
        clear hG1
        go_wp2_with fail
        refine (HK5.out _ HG1).mono ?_
        rintro e V3 ⟨rfl, hFF⟩
        go_wp2_with fail
        go_ret
        exact ⟨by simp, HF7.out.same hFF.out⟩
    · refine (parse_any s _ (HGG.out.fr HFa.out (fun h => h))).mono ?_
      rintro e W ⟨⟨cs2, rfl, hx2⟩, hF3⟩
      rw [hps] at hx2 ⊢
      obtain ⟨A3, c3, css3, rfl, hc3, hR3, hE3⟩ := hx2.open_
      have HF3 := Lib.hid (HFa.out.same hF3)
      clear hx2 hR3 hE3 hF3 hps
      simp only [show emptyT.k = 0 from rfl, show emptyT.name = ⟨#[]⟩ from rfl, show emptyT.l = [] from rfl, List.length_nil]
      go_wp2_with fail
      refine (awake_any _ (HGG.out.fr (HF3.out.alloc _) (fun h => h))).mono ?_
      rintro e W2 ⟨rfl, hF4⟩
      have HF4 := Lib.hid ((HF3.out.alloc _).same hF4)
      clear hF4
      go_wp2_with fail
      go_ret
      exact ⟨rfl, HF4.out⟩
  · rw [hck, hp]
    have hbs : (bs (textT x)).size = (textT x).length := bs_size _
    have ht1 : ¬ ((bs (textT x)).size : Int) ≤ 200 := by have := htl.out; omega
    have HFa := Lib.hid (HF.out.same HF1.out)
    clear hp hck hbs d0 d1 d2 hlx HF1
    go_wp2_with fail
    rcases parse_or s with ⟨hs, y, hy⟩ | ⟨i, cd, hps, hcd⟩
    · refine (parse_ok s y hs hy _ (HGG.out.fr HFa.out (fun h => h))).mono ?_
      rintro e W ⟨A3, c3, rfl, hX3, hF3⟩
      have hY0 : checkT y = 0 := whole_few hy
      have hYb := whole_bytes hy
      have hYl : s.data.toList.length = s.size := by simp
      have hYf := (checkT_few hY0).1
      have HY := Lib.hid (And.intro hY0 (And.intro (show y.bytes ≤ 200 by omega) hYf))
      have HF3 := Lib.hid (HFa.out.same hF3)
      have HX3 := Lib.hid (ERep.mono (M' := Nob) (fun k hk => hk.elim) _ _ hX3)
      clear hX3 hF3 hY0 hYb hYl hYf hy hs
      have hby := Blk.new W [.int .i64 y.k, .string y.name, .slice A3 y.l.length c3] 24
      have hfc := (Fr.refl Nob W).alloc (.cells #[.int .i64 y.k, .string y.name, .slice A3 y.l.length c3] 24)
      go_wp2_with fail
      generalize W.alloc (.cells #[.int .i64 y.k, .string y.name, .slice A3 y.l.length c3] 24) = w4 at hby hfc
      have HBY := Lib.hid hby
      have HX4 := Lib.hid (HX3.out.fr0 hfc)
      have HF4 := Lib.hid (HF3.out.same hfc)
      clear hby hfc
      refine (print_any y _ w4 HX4.out (by have := HY.out; omega) (by have := HY.out; omega)).mono ?_
      rintro e w5 ⟨rfl, hF5⟩
      have hpy : printF y = textT y := by unfold printF; rw [if_pos HY.out.1]
      rw [hpy, HY.out.1]
      have HF5 := Lib.hid hF5
      have hby5 := HBY.out.fr hF5 (fun h => h)
      have d0 := hby5.cell 0
      have d1 := hby5.cell 1
      have d2 := hby5.cell 2
      have hly := hby5.lt
      simp only [List.getElem?_cons_zero, List.getElem?_cons_succ] at d0 d1 d2
      clear hF5 hby5 hpy
      go_wp2_with fail
      have hbs : (bs (textT y)).size = (textT y).length := bs_size _
      by_cases hu : (textT y).length ≤ 200
      · have hbl : wholeT (bs (textT y)).data.toList = some y := by rw [bs_list]; exact text_back y HY.out.1
        refine (parse_ok (bs (textT y)) y (by omega) hbl w5 (HGG.out.fr (HF4.out.same HF5.out) (fun h => h))).mono ?_
        rintro e w6 ⟨A6, c6, rfl, hX6, hF6⟩
        have gu : decide (((bs (textT y)).size : Int) > 200) = false := by simp; omega
        have HF6 := Lib.hid (HF5.out.same hF6)
        have hfd := (Fr.refl Nob w6).alloc (.cells #[.int .i64 y.k, .string y.name, .slice A6 y.l.length c6] 24)
        have hby7 := HBY.out.fr (HF6.out.same hfd) (fun h => h)
        have hbz7 := Blk.new w6 [.int .i64 y.k, .string y.name, .slice A6 y.l.length c6] 24
        have HX7 := Lib.hid (HX4.out.fr0 (HF6.out.same hfd))
        have HX8 := Lib.hid ((ERep.mono (M' := Nob) (fun k hk => hk.elim) _ _ hX6).fr0 hfd)
        have HF7 := Lib.hid (HF4.out.same (HF6.out.same hfd))
        clear d0 d1 d2 hly hF6
        have d0 := hby7.cell 0
        have d1 := hby7.cell 1
        have d2 := hby7.cell 2
        have e0 := hbz7.cell 0
        have e1 := hbz7.cell 1
        have e2 := hbz7.cell 2
        have hly := hby7.lt
        have hlz := hbz7.lt
        simp only [List.getElem?_cons_zero, List.getElem?_cons_succ] at d0 d1 d2 e0 e1 e2
        go_wp2_with fail
        generalize w6.alloc (.cells #[.int .i64 y.k, .string y.name, .slice A6 y.l.length c6] 24) = w7 at hby7 hbz7 HX7 HF7 HX8 hfd
        have HBY7 := Lib.hid hby7
        have HBZ := Lib.hid hbz7
        have HFd : Hid (Fr Nob w7 w7.drew) := (Fr.refl Nob w7).drew
        have HFn : Hid (Fr Nob w7 w7) := Fr.refl Nob w7
        clear hby7 hbz7 hfd
        have K0 : ∀ V, Fr Nob w7 V → V.cell? ⟨W.heap.size, 0, none⟩ = some (.int .i64 y.k) ∧ V.cell? ⟨W.heap.size, 1, none⟩ = some (.string y.name) ∧ V.cell? ⟨W.heap.size, 2, none⟩ = some (.slice A3 y.l.length c3) ∧ V.cell? ⟨w6.heap.size, 0, none⟩ = some (.int .i64 y.k) ∧ V.cell? ⟨w6.heap.size, 1, none⟩ = some (.string y.name) ∧ V.cell? ⟨w6.heap.size, 2, none⟩ = some (.slice A6 y.l.length c6) ∧ Hid (Fr Nob w7 V) := fun V hF =>
          ⟨(HBY7.out.fr hF (fun h => h)).cell 0, (HBY7.out.fr hF (fun h => h)).cell 1, (HBY7.out.fr hF (fun h => h)).cell 2, (HBZ.out.fr hF (fun h => h)).cell 0, (HBZ.out.fr hF (fun h => h)).cell 1, (HBZ.out.fr hF (fun h => h)).cell 2, hF⟩
        have K1 : ∀ V, Hid (Fr Nob w7 V) → Calls Tryd.prog 16 #[.agg #[.int .i64 y.k, .string y.name, .slice A3 y.l.length c3]] V fun e w' => e = .returned (.int .i64 0) ∧ Hid (Fr Nob w7 w') := fun V hF =>
          (check_any y _ V (HX7.out.fr0 hF.out) (by have := HY.out; omega) (by have := HY.out; omega)).mono fun e w' h => ⟨by rw [h.1, HY.out.1], hF.out.same h.2⟩
        have K5 : ∀ V, Hid (Fr Nob w7 V) → Calls Tryd.prog 12 #[] V fun e w' => e = .returned (.bool true) ∧ Hid (Fr Nob w7 w') := fun V hF =>
          (awake_any V (HGG.out.fr (HF7.out.same hF.out) (fun h => h))).mono fun e w' h => ⟨h.1, hF.out.same h.2⟩
        have K3 : ∀ V, Hid (Fr Nob w7 V) → Calls Tryd.prog 13 #[.agg #[.int .i64 y.k, .string y.name, .slice A6 y.l.length c6], .agg #[.int .i64 y.k, .string y.name, .slice A3 y.l.length c3]] V fun e w' => e = .returned (.bool true) ∧ Hid (Fr Nob w7 w') := fun V hF =>
          (same_any y y _ _ V (HX8.out.fr0 hF.out) (HX7.out.fr0 hF.out) (by have := HY.out; omega)).mono fun e w' h => ⟨by rw [h.1, sameB_refl], hF.out.same h.2⟩
        have HK3 := Lib.hid K3
        clear K3
        have HK0 := Lib.hid K0
        have HK1 := Lib.hid K1
        have HK5 := Lib.hid K5
        clear K0 K1 K5
        refine (HK1.out _ HFn).mono ?_
        rintro e V1 ⟨rfl, hG1⟩
        clear d0 d1 d2 e0 e1 e2 hly hlz
        obtain ⟨d0, d1, d2, e0, e1, e2, HG1⟩ := HK0.out _ hG1.out
        have hly := cell_lt d0
        have hlz := cell_lt e0
        clear hG1
        go_wp2_with fail
        refine (HK3.out _ HG1).mono ?_
        rintro e V2 ⟨rfl, hG2⟩
        clear d0 d1 d2 e0 e1 e2 hly hlz
        go_wp2_with fail
        refine (HK5.out _ hG2).mono ?_
        rintro e V3 ⟨rfl, hFF⟩
        go_wp2_with fail
        go_ret
        exact ⟨by simp, HF7.out.same hFF.out⟩
      · have hps : parseF (bs (textT y)) = (emptyT, 0, 2) := by unfold parseF; rw [if_pos (by omega)]
        refine (parse_any (bs (textT y)) w5 (HGG.out.fr (HF4.out.same HF5.out) (fun h => h))).mono ?_
        rintro e w6 ⟨⟨cs6, rfl, hx6⟩, hF6⟩
        rw [hps] at hx6 ⊢
        obtain ⟨A6, c6, css6, rfl, hc6, hR6, hE6⟩ := hx6.open_
        clear hx6 hR6 hE6 hc6 hps
        simp only [show emptyT.k = 0 from rfl, show emptyT.name = ⟨#[]⟩ from rfl, show emptyT.l = [] from rfl, List.length_nil]
        have gu : decide (((bs (textT y)).size : Int) > 200) = true := by simp; omega
        have HF6 := Lib.hid (HF5.out.same hF6)
        have hfd := (Fr.refl Nob w6).alloc (.cells #[.int .i64 0, .string ⟨#[]⟩, .slice A6 0 c6] 24)
        have hby7 := HBY.out.fr (HF6.out.same hfd) (fun h => h)
        have hbz7 := Blk.new w6 [.int .i64 0, .string ⟨#[]⟩, .slice A6 0 c6] 24
        have HX7 := Lib.hid (HX4.out.fr0 (HF6.out.same hfd))
        have HF7 := Lib.hid (HF4.out.same (HF6.out.same hfd))
        clear d0 d1 d2 hly hF6
        have d0 := hby7.cell 0
        have d1 := hby7.cell 1
        have d2 := hby7.cell 2
        have e0 := hbz7.cell 0
        have e1 := hbz7.cell 1
        have e2 := hbz7.cell 2
        have hly := hby7.lt
        have hlz := hbz7.lt
        simp only [List.getElem?_cons_zero, List.getElem?_cons_succ] at d0 d1 d2 e0 e1 e2
        go_wp2_with fail
        generalize w6.alloc (.cells #[.int .i64 0, .string ⟨#[]⟩, .slice A6 0 c6] 24) = w7 at hby7 hbz7 HX7 HF7 hfd
        have HBY7 := Lib.hid hby7
        have HBZ := Lib.hid hbz7
        have HFd : Hid (Fr Nob w7 w7.drew) := (Fr.refl Nob w7).drew
        have HFn : Hid (Fr Nob w7 w7) := Fr.refl Nob w7
        clear hby7 hbz7 hfd
        have K0 : ∀ V, Fr Nob w7 V → V.cell? ⟨W.heap.size, 0, none⟩ = some (.int .i64 y.k) ∧ V.cell? ⟨W.heap.size, 1, none⟩ = some (.string y.name) ∧ V.cell? ⟨W.heap.size, 2, none⟩ = some (.slice A3 y.l.length c3) ∧ V.cell? ⟨w6.heap.size, 0, none⟩ = some (.int .i64 0) ∧ V.cell? ⟨w6.heap.size, 1, none⟩ = some (.string ⟨#[]⟩) ∧ V.cell? ⟨w6.heap.size, 2, none⟩ = some (.slice A6 0 c6) ∧ Hid (Fr Nob w7 V) := fun V hF =>
          ⟨(HBY7.out.fr hF (fun h => h)).cell 0, (HBY7.out.fr hF (fun h => h)).cell 1, (HBY7.out.fr hF (fun h => h)).cell 2, (HBZ.out.fr hF (fun h => h)).cell 0, (HBZ.out.fr hF (fun h => h)).cell 1, (HBZ.out.fr hF (fun h => h)).cell 2, hF⟩
        have K1 : ∀ V, Hid (Fr Nob w7 V) → Calls Tryd.prog 16 #[.agg #[.int .i64 y.k, .string y.name, .slice A3 y.l.length c3]] V fun e w' => e = .returned (.int .i64 0) ∧ Hid (Fr Nob w7 w') := fun V hF =>
          (check_any y _ V (HX7.out.fr0 hF.out) (by have := HY.out; omega) (by have := HY.out; omega)).mono fun e w' h => ⟨by rw [h.1, HY.out.1], hF.out.same h.2⟩
        have K5 : ∀ V, Hid (Fr Nob w7 V) → Calls Tryd.prog 12 #[] V fun e w' => e = .returned (.bool true) ∧ Hid (Fr Nob w7 w') := fun V hF =>
          (awake_any V (HGG.out.fr (HF7.out.same hF.out) (fun h => h))).mono fun e w' h => ⟨h.1, hF.out.same h.2⟩
        have HK0 := Lib.hid K0
        have HK1 := Lib.hid K1
        have HK5 := Lib.hid K5
        clear K0 K1 K5
        refine (HK1.out _ HFn).mono ?_
        rintro e V1 ⟨rfl, hG1⟩
        clear d0 d1 d2 e0 e1 e2 hly hlz
        obtain ⟨d0, d1, d2, e0, e1, e2, HG1⟩ := HK0.out _ hG1.out
        have hly := cell_lt d0
        have hlz := cell_lt e0
        clear hG1
        go_wp2_with fail
        refine (HK5.out _ HG1).mono ?_
        rintro e V3 ⟨rfl, hFF⟩
        go_wp2_with fail
        go_ret
        exact ⟨by simp, HF7.out.same hFF.out⟩
    · refine (parse_any s _ (HGG.out.fr HFa.out (fun h => h))).mono ?_
      rintro e W ⟨⟨cs2, rfl, hx2⟩, hF3⟩
      rw [hps] at hx2 ⊢
      obtain ⟨A3, c3, css3, rfl, hc3, hR3, hE3⟩ := hx2.open_
      have HF3 := Lib.hid (HFa.out.same hF3)
      clear hx2 hR3 hE3 hF3 hps
      simp only [show emptyT.k = 0 from rfl, show emptyT.name = ⟨#[]⟩ from rfl, show emptyT.l = [] from rfl, List.length_nil]
      go_wp2_with fail
      refine (awake_any _ (HGG.out.fr (HF3.out.alloc _) (fun h => h))).mono ?_
      rintro e W2 ⟨rfl, hF4⟩
      have HF4 := Lib.hid ((HF3.out.alloc _).same hF4)
      clear hF4
      go_wp2_with fail
      go_ret
      exact ⟨rfl, HF4.out⟩
end Go.Proofs.YtgmjgflifgjpmaaDoor.exprBack
