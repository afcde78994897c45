/- 'some' for the parts of a row (written by gen_some.py out of the text for choices). -/
import Derived.Test.YtgmjgflifgjpmaaDoorExprSome
namespace Go.Proofs.YtgmjgflifgjpmaaDoor
open Go.RowKit

set_option maxRecDepth 100000 in
set_option maxHeartbeats 4000000 in
theorem some_r (F : List UInt8 → Res) (g b : Nat) (s : ByteArray) (hs : s.size ≤ 200) (hF : Good 2 F) (r0 : List UInt8) (w : World) (hT : Tx w g s r0) (hB : Blk w b [.pointer (some ⟨g, 0, none⟩)] 44) (hgb : g ≠ b)
    (H1 : ∀ w r, r.length ≤ r0.length → Tx w g s r → Calls Tryd.prog 51 #[.pointer (some ⟨g, 0, none⟩)] w (Out g s w (F r)))
    (H2 : ∀ w r, Tx w g s r → Blk w b [.pointer (some ⟨g, 0, none⟩)] 44 → Calls Tryd.prog 52 #[.pointer (some ⟨b, 0, none⟩)] w fun e w' => e = .returned (.bool (moreR r).1) ∧ Tx w' g s (moreR r).2 ∧ Fr (One g) w w') :
    Calls Tryd.prog 42 #[.pointer (some ⟨g, 0, none⟩), .int .i64 2, .func (.func 51) #[.pointer (some ⟨g, 0, none⟩)] #[], .func (.func 52) #[] #[.pointer (some ⟨b, 0, none⟩)]] w
      (Out g s w (someF 2 F moreR (r0.length + 1) [] r0)) := by
  have hgw : g < w.heap.size := hT.1.lt
  have hbw : b < w.heap.size := hB.lt
  have HB := Lib.hid hB
  have HT := Lib.hid hT
  have HF := Lib.hid hF
  have K1 := Lib.hid H1
  have K2 := Lib.hid H2
  clear hB hT hF H1 H2
  go_enter Tryd.func42, Tryd.ntmps42
  go_wp2_with fail
  go_loopg [11] (r0.length) (fun n i wr => ∃ acc r v, i = .int .i64 acc.length ∧ Hid (SomeI 2 F moreR g s w (someF 2 F moreR (r0.length + 1) [] r0) n acc r v wr) ∧ Hid (r.length ≤ r0.length))
  case atStart =>
    refine ⟨[], r0, .slice none 0 0, rfl, ⟨⟨_, Nat.lt_succ_self _, rfl⟩, ?_, ?_, ?_, OwnT.nil _ _ _, ?_, ?_, ?_, rfl⟩, Nat.le_refl _⟩
    · exact HT.out.fr (((Fr.refl Nob w).alloc _).alloc _) (fun h => h)
    · exact (Blk.new w _ _).alloc _
    · exact Blk.new_at _ _ _ _ (by simp)
    · have := HT.out.2.1; simpa using this
    · have := HT.out.2.1; simpa [flatK] using this
    · exact ((Fr.refl _ w).alloc _).alloc _
  case round =>
    obtain ⟨acc, r, v, rfl, HI, HLE⟩ := hrel
    have hfew := HI.out.few
    go_wp2_with fail
    refine (K1.out wr r HLE.out HI.out.text).mono ?_
    rintro e w1 hO
    cases hFr : F r with
    | err r1 =>
      rw [hFr] at hO
      obtain ⟨x, cs, bf, rfl, hx, hbf, hbl, hfr⟩ := hO
      obtain ⟨A, c, css, rfl, hc, hR, hE⟩ := hx.open_
      have HX := Lib.hid hx
      have HR := Lib.hid hR
      have HE := Lib.hid hE
      have HFr := Lib.hid hFr
      have HBf := Lib.hid hbf
      have HFR := Lib.hid hfr
      clear hx hR hE hFr hbf hfr
      have hne : ¬ One g w.heap.size := fun h => by have : w.heap.size = g := h; omega
      have hb0 : Blk w1 w.heap.size _ _ := HI.out.out.fr HFR.out hne
      have c0 := hb0.cell 0
      have c1 := hb0.cell 1
      have c2 := hb0.cell 2
      have f0 := hb0.frozen 0
      have f1 := hb0.frozen 1
      have f2 := hb0.frozen 2
      have hl0 := hb0.lt
      have HB0 := Lib.hid hb0
      clear hb0
      simp only [List.getElem?_cons_zero, List.getElem?_cons_succ] at c0 c1 c2
      go_wp2_with fail
      have hres : someF 2 F moreR (r0.length + 1) [] r0 = .err r1 := by
        obtain ⟨m, hm, hq⟩ := HI.out.run
        cases m with
        | zero => omega
        | succ m => rw [← hq]; simp only [someF, HFr.out]
      rw [hres]
      refine bodyPost_ret (v := .tuple #[.agg #[.int .i64 x.k, .string x.name, .slice A x.l.length c], .iface 51 (.pointer (some ⟨bf, 0, none⟩))]) ?_ rfl ?_
      · have qb := ((((HB0.out.set 0 (.int .i64 x.k)).set 1 (.string x.name)).set 2 (.slice A x.l.length c)).alloc (Obj.cells #[.int .i64 x.k, .string x.name, .slice A x.l.length c] 24))
        have q0 := qb.cell 0
        have q1 := qb.cell 1
        have q2 := qb.cell 2
        simp only [List.set_cons_zero, List.set_cons_succ, List.getElem?_cons_zero, List.getElem?_cons_succ] at q0 q1 q2
        simp [results, go_sem, q0, q1, q2]
      · have fw := (fr_store3 w1 w.heap.size (.int .i64 x.k) (.string x.name) (.slice A x.l.length c)).alloc (Obj.cells #[.int .i64 x.k, .string x.name, .slice A x.l.length c] 24)
        have hsz := HI.out.fr.size
        have hlt := HI.out.e.lt
        refine ⟨x, _, bf, rfl, ?_, ?_, ?_, ?_⟩
        · exact ERep.mono (fun k hk => by omega) _ _ (ERep.fr fw (fun k _ hk => by have : k = w.heap.size := hk; omega) _ _ HX.out)
        · exact HBf.out.fr fw (fun h => by have : bf = w.heap.size := h; omega)
        · omega
        · exact (HI.out.fr.same HFR.out).trans fw (fun k hk h => by have : k = w.heap.size := h; omega)
    | ok x r1 =>
      rw [hFr] at hO
      obtain ⟨cs, rfl, hx, hTx, hfr⟩ := hO
      obtain ⟨A, c, css, rfl, hc, hR, hE⟩ := hx.open_
      obtain ⟨gd1, gd2, gd3⟩ := HF.out r x r1 hFr
      have HX := Lib.hid hx
      have HR := Lib.hid hR
      have HE := Lib.hid hE
      have HFr := Lib.hid hFr
      have HTx := Lib.hid hTx
      have HFR := Lib.hid hfr
      clear hx hR hE hFr hTx hfr
      have hlt := HI.out.e.lt
      have hsz := HI.out.fr.size
      have hb0 : Blk w1 w.heap.size _ _ := HI.out.out.fr HFR.out (fun h => by have : w.heap.size = g := h; omega)
      have hb1 : Blk w1 (w.heap.size + 1) _ _ := HI.out.e.fr HFR.out (fun h => by have : w.heap.size + 1 = g := h; omega)
      have c0 := hb0.cell 0
      have c1 := hb0.cell 1
      have c2 := hb0.cell 2
      have f0 := hb0.frozen 0
      have f1 := hb0.frozen 1
      have f2 := hb0.frozen 2
      have d0 := hb1.cell 0
      have d1 := hb1.cell 1
      have d2 := hb1.cell 2
      have g0 := hb1.frozen 0
      have g1 := hb1.frozen 1
      have g2 := hb1.frozen 2
      have hl1 := hb1.lt
      have HB0 := Lib.hid hb0
      have HB1 := Lib.hid hb1
      clear hb0 hb1
      simp only [List.getElem?_cons_zero, List.getElem?_cons_succ] at c0 c1 c2 d0 d1 d2
      have hol := own_base (HI.out.own.choose_spec.1)
      obtain ⟨i0, hi, hz0, hz1, hz2⟩ := info_parts infoE
      obtain ⟨css0, hown, hrep⟩ := HI.out.own.fr (M' := One g) HFR.out (fun k hk => by have : k = g := hk; omega) (fun k hk h => by have := (hol k hk).1; have : k = g := h; omega)
      have HOL := Lib.hid hol
      have HREP := Lib.hid hrep
      clear hol hrep
      by_cases hk : x.k = 2
      · have hk2 : (x.k == 2) = true := by simpa using hk
        clear hk
        have hne : x.l ≠ [] := gd3 (by simpa using hk2)
        obtain ⟨ad, rfl, hnm, hcs⟩ := HR.out (by intro h; have := EReps.len _ _ HE.out; rw [h] at this; simp only [List.length_nil] at this; exact hne (List.length_eq_zero_iff.1 (by omega)))
        have HC := Lib.hid hcs
        have HNE := Lib.hid hne
        clear hcs hne
        go_wp2_with (at_builtin; refine wpList_append_own_at _ rfl _ _ 22 rfl (w.heap.size + 2) 24 i0 _ 3 48 Tryd.underlying22 hi hz0 hz1 hz2 rfl (by decide) v (flatK 2 acc).length css0 rfl (hown.alloc _) ad x.l.length c css rfl ?c1 ?c2 ?c3 ?c4 ?c5 ?c6 ?_)
        case c1 => exact EReps.len _ _ HE.out
        case c2 =>
          intro j u hj
          exact (((Fr.refl Nob w1).alloc _).cell (by have := cell_lt (HC.out j u hj); exact this) (fun h => h)).trans (HC.out j u hj)
        case c3 => exact EReps.one_cells _ _ HE.out
        case c4 => have := HI.out.few2; unfold maxLen; omega
        case c5 => have := HI.out.few2; omega
        case c6 => simp; omega
        intro v2 w2 hown2 hgr2 _ hat2
        have HA : SomeA w w1 w2 v2 (flatK 2 (acc ++ [x])) x [.int .i64 x.k, .string x.name, .slice (some ad) x.l.length c] := by
          rw [flatK_snoc, if_pos (by simpa using hk2)]
          exact SomeA.of HOL.out HFR.out.size (by omega) ((Fr.refl _ _).alloc _) HREP.out (HE.out.fr0 ((Fr.refl _ _).alloc _)) (Blk.new_at _ _ _ _ rfl) HX.out hown2 hgr2 (by simpa using hat2)
        clear hown2 hgr2 hat2 hown
        obtain ⟨bm, r2, hmr⟩ : ∃ bm r2, moreR r1 = (bm, r2) := ⟨_, _, rfl⟩
        have hml : r2.length ≤ r1.length := by have := moreR_le r1; rw [hmr] at this; exact this
        have hre := HI.out.run
        obtain ⟨A2, cp2, rfl⟩ := HA.own.slice
        have HA2 := Lib.hid HA
        have e1 := HB1.out.fr HA.f (by omega)
        have e2 := e1.cell 2
        have e3 := e1.frozen 2
        have e4 := e1.lt
        clear HA e1
        simp only [List.getElem?_cons_zero, List.getElem?_cons_succ] at e2
        have HMR := Lib.hid hmr
        have HRE := Lib.hid hre
        clear hmr hre
        go_wp2_with fail
        have fs := (Fr.refl (One (w.heap.size + 1)) w2).setCell (p := ⟨w.heap.size + 1, 2, none⟩) (.inl rfl) (.slice A2 (flatK 2 (acc ++ [x])).length cp2)
        refine (K2.out _ r1 ((HTx.out.fr HA2.out.f (by omega)).fr fs (fun h => by have : g = w.heap.size + 1 := h; omega)) ((((HB.out.fr HI.out.fr (fun h => hgb (Eq.symm h))).fr HFR.out (fun h => hgb (Eq.symm h))).fr HA2.out.f (by omega)).fr fs (fun h => by have : b = w.heap.size + 1 := h; omega))).mono ?_
        clear fs
        rw [HMR.out]
        rintro e w4 ⟨rfl, hT4, hF4⟩
        have hcc := SomeC.of HA2.out hgw HB0.out HB1.out (HI.out.fr.same HFR.out) hF4 hT4 (by omega)
        have HCC := Lib.hid hcc
        clear hT4 hF4
        have c0 := hcc.out.cell 0
        have c1 := hcc.out.cell 1
        have c2 := hcc.out.cell 2
        have f0 := hcc.out.frozen 0
        have f1 := hcc.out.frozen 1
        have f2 := hcc.out.frozen 2
        have d0 := hcc.e.cell 0
        have d1 := hcc.e.cell 1
        have d2 := hcc.e.cell 2
        have x0 := hcc.xb.cell 0
        have x1 := hcc.xb.cell 1
        have x2 := hcc.xb.cell 2
        have hl4 := hcc.xb.lt
        clear hcc
        simp only [List.getElem?_cons_zero, List.getElem?_cons_succ] at c0 c1 c2 d0 d1 d2 x0 x1 x2
        cases bm with
        | true =>
          go_wp2_with fail
          go_roundg r2.length
          case measure => have := HI.out.n; omega
          case rel =>
            refine ⟨acc ++ [x], r2, _, by simp, ⟨?_, HCC.out.text, HCC.out.out, HCC.out.e, HCC.out.own, ?_, ?_, HCC.out.fr, rfl⟩, by have := HLE.out; show r2.length ≤ r0.length; omega⟩
            · obtain ⟨m, hm, hq⟩ := HRE.out
              cases m with
              | zero => omega
              | succ m =>
                refine ⟨m, by omega, ?_⟩
                rw [← hq]
                simp only [someF, HFr.out, HMR.out]
            · simp only [List.length_append, List.length_singleton]; omega
            · have := HI.out.few2
              rw [flatK_snoc, List.length_append]
              split
              · omega
              · simp only [List.length_singleton]; omega
        | false =>
          have hres : someF 2 F moreR (r0.length + 1) [] r0 = .ok (joinK 2 (acc ++ [x])) r2 := by
            obtain ⟨m, hm, hq⟩ := HRE.out
            cases m with
            | zero => omega
            | succ m => rw [← hq]; simp only [someF, HFr.out, HMR.out]
          cases acc with
          | nil =>
            have HRS := Lib.hid hres
            clear hres
            go_wp2_with fail
            rw [HRS.out]
            exact some_ret HCC.out hgw _ _ _ _ _ rfl rfl rfl HCC.out.xr
          | cons y l =>
            rw [joinK_more _ _ _ (by simp)] at hres
            have HRS := Lib.hid hres
            clear hres
            go_wp2_with fail
            rw [HRS.out]
            exact some_ret HCC.out hgw _ _ _ _ _ rfl rfl rfl (HCC.out.own.rep (fun k hk h => by obtain ⟨css, ho, _⟩ := HCC.out.own; have := (own_base ho k hk).1; omega) _ _)
      · have hk2 : (x.k == 2) = false := by simpa using hk
        clear hk
        go_wp2_with (at_builtin; refine wpList_append_own_at _ rfl _ _ 22 rfl (w.heap.size + 2) 24 i0 _ 3 48 Tryd.underlying22 hi hz0 hz1 hz2 rfl (by decide) v (flatK 2 acc).length css0 rfl ((hown.alloc _).alloc _) ⟨w1.heap.size + 1, 0, none⟩ 1 1 [.int .i64 x.k, .string x.name, .slice A x.l.length c] rfl ?c1 ?c2 ?c3 ?c4 ?c5 ?c6 ?_)
        case c1 => rfl
        case c2 =>
          intro j u hj
          have hb := ((Blk.new_at (w1.alloc (Obj.cells #[.int .i64 x.k, .string x.name, .slice A x.l.length c] 24)) [.int .i64 x.k, .string x.name, .slice A x.l.length c] 24 (w1.heap.size + 1) (by simp)).cell j).trans hj
          rw [add_lit]
          exact hb
        case c3 => simp [Value.oneCell']
        case c4 => have := HI.out.few2; unfold maxLen; omega
        case c5 => have := HI.out.few2; omega
        case c6 => simp; omega
        intro v2 w2 hown2 hgr2 _ hat2
        have HA : SomeA w w1 w2 v2 (flatK 2 (acc ++ [x])) x [.int .i64 x.k, .string x.name, .slice A x.l.length c] := by
          rw [flatK_snoc, if_neg (by simpa using hk2)]
          exact SomeA.of (l' := [x]) HOL.out HFR.out.size (by omega) (((Fr.refl _ _).alloc _).alloc _) HREP.out (EReps.one (HX.out.fr0 (((Fr.refl _ _).alloc _).alloc _))) ((Blk.new_at _ _ _ _ rfl).alloc _) HX.out hown2 hgr2 (by simpa using hat2)
        clear hown2 hgr2 hat2 hown
        obtain ⟨bm, r2, hmr⟩ : ∃ bm r2, moreR r1 = (bm, r2) := ⟨_, _, rfl⟩
        have hml : r2.length ≤ r1.length := by have := moreR_le r1; rw [hmr] at this; exact this
        have hre := HI.out.run
        obtain ⟨A2, cp2, rfl⟩ := HA.own.slice
        have HA2 := Lib.hid HA
        have e1 := HB1.out.fr HA.f (by omega)
        have e2 := e1.cell 2
        have e3 := e1.frozen 2
        have e4 := e1.lt
        clear HA e1
        simp only [List.getElem?_cons_zero, List.getElem?_cons_succ] at e2
        have HMR := Lib.hid hmr
        have HRE := Lib.hid hre
        clear hmr hre
        go_wp2_with fail
        have fs := (Fr.refl (One (w.heap.size + 1)) w2).setCell (p := ⟨w.heap.size + 1, 2, none⟩) (.inl rfl) (.slice A2 (flatK 2 (acc ++ [x])).length cp2)
        refine (K2.out _ r1 ((HTx.out.fr HA2.out.f (by omega)).fr fs (fun h => by have : g = w.heap.size + 1 := h; omega)) ((((HB.out.fr HI.out.fr (fun h => hgb (Eq.symm h))).fr HFR.out (fun h => hgb (Eq.symm h))).fr HA2.out.f (by omega)).fr fs (fun h => by have : b = w.heap.size + 1 := h; omega))).mono ?_
        clear fs
        rw [HMR.out]
        rintro e w4 ⟨rfl, hT4, hF4⟩
        have hcc := SomeC.of HA2.out hgw HB0.out HB1.out (HI.out.fr.same HFR.out) hF4 hT4 (by omega)
        have HCC := Lib.hid hcc
        clear hT4 hF4
        have c0 := hcc.out.cell 0
        have c1 := hcc.out.cell 1
        have c2 := hcc.out.cell 2
        have f0 := hcc.out.frozen 0
        have f1 := hcc.out.frozen 1
        have f2 := hcc.out.frozen 2
        have d0 := hcc.e.cell 0
        have d1 := hcc.e.cell 1
        have d2 := hcc.e.cell 2
        have x0 := hcc.xb.cell 0
        have x1 := hcc.xb.cell 1
        have x2 := hcc.xb.cell 2
        have hl4 := hcc.xb.lt
        clear hcc
        simp only [List.getElem?_cons_zero, List.getElem?_cons_succ] at c0 c1 c2 d0 d1 d2 x0 x1 x2
        cases bm with
        | true =>
          go_wp2_with fail
          go_roundg r2.length
          case measure => have := HI.out.n; omega
          case rel =>
            refine ⟨acc ++ [x], r2, _, by simp, ⟨?_, HCC.out.text, HCC.out.out, HCC.out.e, HCC.out.own, ?_, ?_, HCC.out.fr, rfl⟩, by have := HLE.out; show r2.length ≤ r0.length; omega⟩
            · obtain ⟨m, hm, hq⟩ := HRE.out
              cases m with
              | zero => omega
              | succ m =>
                refine ⟨m, by omega, ?_⟩
                rw [← hq]
                simp only [someF, HFr.out, HMR.out]
            · simp only [List.length_append, List.length_singleton]; omega
            · have := HI.out.few2
              rw [flatK_snoc, List.length_append]
              split
              · omega
              · simp only [List.length_singleton]; omega
        | false =>
          have hres : someF 2 F moreR (r0.length + 1) [] r0 = .ok (joinK 2 (acc ++ [x])) r2 := by
            obtain ⟨m, hm, hq⟩ := HRE.out
            cases m with
            | zero => omega
            | succ m => rw [← hq]; simp only [someF, HFr.out, HMR.out]
          cases acc with
          | nil =>
            have HRS := Lib.hid hres
            clear hres
            go_wp2_with fail
            rw [HRS.out]
            exact some_ret HCC.out hgw _ _ _ _ _ rfl rfl rfl HCC.out.xr
          | cons y l =>
            rw [joinK_more _ _ _ (by simp)] at hres
            have HRS := Lib.hid hres
            clear hres
            go_wp2_with fail
            rw [HRS.out]
            exact some_ret HCC.out hgw _ _ _ _ _ rfl rfl rfl (HCC.out.own.rep (fun k hk h => by obtain ⟨css, ho, _⟩ := HCC.out.own; have := (own_base ho k hk).1; omega) _ _)
end Go.Proofs.YtgmjgflifgjpmaaDoor
