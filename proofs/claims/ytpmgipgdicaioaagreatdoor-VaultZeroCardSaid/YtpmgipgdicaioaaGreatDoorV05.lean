/- A part of the proof for chapter 10: ExprSomeR, ExprChoice, ExprGood, ExprGoodN, ExprWhole; no conditions. -/
import Derived.Test.YtpmgipgdicaioaaGreatDoorV02
import Derived.Test.YtpmgipgdicaioaaGreatDoorV04
import Derived.Test.YtpmgipgdicaioaaGreatDoorV03
/- 'some' for the parts of a row (written by gen_some.py out of the text for choices). -/
namespace Go.Proofs.YtpmgipgdicaioaaGreatDoor
open Go.RowKit

set_option maxRecDepth 100000 in
set_option maxHeartbeats 4000000 in
theorem some_r (F : List UInt8 → Res) (g b : Nat) (s : ByteArray) (hs : s.size ≤ 200) (hF : Good 2 F) (r0 : List UInt8) (w : World) (hT : Tx w g s r0) (hB : Blk w b [.pointer (some ⟨g, 0, none⟩)] 231) (hgb : g ≠ b)
    (H1 : ∀ w r, r.length ≤ r0.length → Tx w g s r → Calls Tryz.prog 178 #[.pointer (some ⟨g, 0, none⟩)] w (Out g s w (F r)))
    (H2 : ∀ w r, Tx w g s r → Blk w b [.pointer (some ⟨g, 0, none⟩)] 231 → Calls Tryz.prog 179 #[.pointer (some ⟨b, 0, none⟩)] w fun e w' => e = .returned (.bool (moreR r).1) ∧ Tx w' g s (moreR r).2 ∧ Fr (One g) w w') :
    Calls Tryz.prog 172 #[.pointer (some ⟨g, 0, none⟩), .int .i64 2, .func (.func 178) #[.pointer (some ⟨g, 0, none⟩)] #[], .func (.func 179) #[] #[.pointer (some ⟨b, 0, none⟩)]] w
      (Out g s w (someF 2 F moreR (r0.length + 1) [] r0)) := by
  have hgw : g < w.heap.size := hT.1.lt
  have hbw : b < w.heap.size := hB.lt
  have HB := Lib.hid hB
  have HT := Lib.hid hT
  have HF := Lib.hid hF
  have K1 := Lib.hid H1
  have K2 := Lib.hid H2
  clear hB hT hF H1 H2
  go_enter Tryz.func172, Tryz.ntmps172
  go_wp2_with fail
  go_loopg [11] (r0.length) (fun n i wr => ∃ acc r v, i = .int .i64 acc.length ∧ Hid (SomeI 2 F moreR g s w (someF 2 F moreR (r0.length + 1) [] r0) n acc r v wr) ∧ Hid (r.length ≤ r0.length))
  case atStart =>
    refine ⟨[], r0, .slice none 0 0, rfl, ⟨⟨_, Nat.lt_succ_self _, rfl⟩, ?_, ?_, ?_, OwnT.nil _ _ _, ?_, ?_, ?_, rfl⟩, Nat.le_refl _⟩
    · exact HT.out.fr (((Fr.refl Nob w).alloc _).alloc _) (fun h => h)
    · exact (Blk.new w _ _).alloc _
    · exact Blk.new_at _ _ _ _ (by simp)
    · have := HT.out.2.1; simpa using this
    · have := HT.out.2.1; simpa [flatK] using this
    · exact ((Fr.refl _ w).alloc _).alloc _
  case round =>
    obtain ⟨acc, r, v, rfl, HI, HLE⟩ := hrel
    have hfew := HI.out.few
    go_wp2_with fail
    refine (K1.out wr r HLE.out HI.out.text).mono ?_
    rintro e w1 hO
    cases hFr : F r with
    | err r1 =>
      rw [hFr] at hO
      obtain ⟨x, cs, bf, rfl, hx, hbf, hbl, hfr⟩ := hO
      obtain ⟨A, c, css, rfl, hc, hR, hE⟩ := hx.open_
      have HX := Lib.hid hx
      have HR := Lib.hid hR
      have HE := Lib.hid hE
      have HFr := Lib.hid hFr
      have HBf := Lib.hid hbf
      have HFR := Lib.hid hfr
      clear hx hR hE hFr hbf hfr
      have hne : ¬ One g w.heap.size := fun h => by have : w.heap.size = g := h; omega
      have hb0 : Blk w1 w.heap.size _ _ := HI.out.out.fr HFR.out hne
      have c0 := hb0.cell 0
      have c1 := hb0.cell 1
      have c2 := hb0.cell 2
      have f0 := hb0.frozen 0
      have f1 := hb0.frozen 1
      have f2 := hb0.frozen 2
      have hl0 := hb0.lt
      have HB0 := Lib.hid hb0
      clear hb0
      simp only [List.getElem?_cons_zero, List.getElem?_cons_succ] at c0 c1 c2
      go_wp2_with fail
      have hres : someF 2 F moreR (r0.length + 1) [] r0 = .err r1 := by
        obtain ⟨m, hm, hq⟩ := HI.out.run
        cases m with
        | zero => omega
        | succ m => rw [← hq]; simp only [someF, HFr.out]
      rw [hres]
      refine bodyPost_ret (v := .tuple #[.agg #[.int .i64 x.k, .string x.name, .slice A x.l.length c], .iface 236 (.pointer (some ⟨bf, 0, none⟩))]) ?_ rfl ?_
      · have qb := ((((HB0.out.set 0 (.int .i64 x.k)).set 1 (.string x.name)).set 2 (.slice A x.l.length c)).alloc (Obj.cells #[.int .i64 x.k, .string x.name, .slice A x.l.length c] 112))
        have q0 := qb.cell 0
        have q1 := qb.cell 1
        have q2 := qb.cell 2
        simp only [List.set_cons_zero, List.set_cons_succ, List.getElem?_cons_zero, List.getElem?_cons_succ] at q0 q1 q2
        simp [results, go_sem, q0, q1, q2]
      · have fw := (fr_store3 w1 w.heap.size (.int .i64 x.k) (.string x.name) (.slice A x.l.length c)).alloc (Obj.cells #[.int .i64 x.k, .string x.name, .slice A x.l.length c] 112)
        have hsz := HI.out.fr.size
        have hlt := HI.out.e.lt
        refine ⟨x, _, bf, rfl, ?_, ?_, ?_, ?_⟩
        · exact ERep.mono (fun k hk => by omega) _ _ (ERep.fr fw (fun k _ hk => by have : k = w.heap.size := hk; omega) _ _ HX.out)
        · exact HBf.out.fr fw (fun h => by have : bf = w.heap.size := h; omega)
        · omega
        · exact (HI.out.fr.same HFR.out).trans fw (fun k hk h => by have : k = w.heap.size := h; omega)
    | ok x r1 =>
      rw [hFr] at hO
      obtain ⟨cs, rfl, hx, hTx, hfr⟩ := hO
      obtain ⟨A, c, css, rfl, hc, hR, hE⟩ := hx.open_
      obtain ⟨gd1, gd2, gd3⟩ := HF.out r x r1 hFr
      have HX := Lib.hid hx
      have HR := Lib.hid hR
      have HE := Lib.hid hE
      have HFr := Lib.hid hFr
      have HTx := Lib.hid hTx
      have HFR := Lib.hid hfr
      clear hx hR hE hFr hTx hfr
      have hlt := HI.out.e.lt
      have hsz := HI.out.fr.size
      have hb0 : Blk w1 w.heap.size _ _ := HI.out.out.fr HFR.out (fun h => by have : w.heap.size = g := h; omega)
      have hb1 : Blk w1 (w.heap.size + 1) _ _ := HI.out.e.fr HFR.out (fun h => by have : w.heap.size + 1 = g := h; omega)
      have c0 := hb0.cell 0
      have c1 := hb0.cell 1
      have c2 := hb0.cell 2
      have f0 := hb0.frozen 0
      have f1 := hb0.frozen 1
      have f2 := hb0.frozen 2
      have d0 := hb1.cell 0
      have d1 := hb1.cell 1
      have d2 := hb1.cell 2
      have g0 := hb1.frozen 0
      have g1 := hb1.frozen 1
      have g2 := hb1.frozen 2
      have hl1 := hb1.lt
      have HB0 := Lib.hid hb0
      have HB1 := Lib.hid hb1
      clear hb0 hb1
      simp only [List.getElem?_cons_zero, List.getElem?_cons_succ] at c0 c1 c2 d0 d1 d2
      have hol := own_base (HI.out.own.choose_spec.1)
      obtain ⟨i0, hi, hz0, hz1, hz2⟩ := info_parts infoE
      obtain ⟨css0, hown, hrep⟩ := HI.out.own.fr (M' := One g) HFR.out (fun k hk => by have : k = g := hk; omega) (fun k hk h => by have := (hol k hk).1; have : k = g := h; omega)
      have HOL := Lib.hid hol
      have HREP := Lib.hid hrep
      clear hol hrep
      by_cases hk : x.k = 2
      · have hk2 : (x.k == 2) = true := by simpa using hk
        clear hk
        have hne : x.l ≠ [] := gd3 (by simpa using hk2)
        obtain ⟨ad, rfl, hnm, hcs⟩ := HR.out (by intro h; have := EReps.len _ _ HE.out; rw [h] at this; simp only [List.length_nil] at this; exact hne (List.length_eq_zero_iff.1 (by omega)))
        have HC := Lib.hid hcs
        have HNE := Lib.hid hne
        clear hcs hne
        go_wp2_with (at_builtin; refine wpList_append_own_at _ rfl _ _ 110 rfl (w.heap.size + 2) 112 i0 _ 3 48 Tryz.underlying110 hi hz0 hz1 hz2 rfl (by decide) v (flatK 2 acc).length css0 rfl (hown.alloc _) ad x.l.length c css rfl ?c1 ?c2 ?c3 ?c4 ?c5 ?c6 ?_)
        case c1 => exact EReps.len _ _ HE.out
        case c2 =>
          intro j u hj
          exact (((Fr.refl Nob w1).alloc _).cell (by have := cell_lt (HC.out j u hj); exact this) (fun h => h)).trans (HC.out j u hj)
        case c3 => exact EReps.one_cells _ _ HE.out
        case c4 => have := HI.out.few2; unfold maxLen; omega
        case c5 => have := HI.out.few2; omega
        case c6 => simp; omega
        intro v2 w2 hown2 hgr2 _ hat2
        have HA : SomeA w w1 w2 v2 (flatK 2 (acc ++ [x])) x [.int .i64 x.k, .string x.name, .slice (some ad) x.l.length c] := by
          rw [flatK_snoc, if_pos (by simpa using hk2)]
          exact SomeA.of HOL.out HFR.out.size (by omega) ((Fr.refl _ _).alloc _) HREP.out (HE.out.fr0 ((Fr.refl _ _).alloc _)) (Blk.new_at _ _ _ _ rfl) HX.out hown2 hgr2 (by simpa using hat2)
        clear hown2 hgr2 hat2 hown
        obtain ⟨bm, r2, hmr⟩ : ∃ bm r2, moreR r1 = (bm, r2) := ⟨_, _, rfl⟩
        have hml : r2.length ≤ r1.length := by have := moreR_le r1; rw [hmr] at this; exact this
        have hre := HI.out.run
        obtain ⟨A2, cp2, rfl⟩ := HA.own.slice
        have HA2 := Lib.hid HA
        have e1 := HB1.out.fr HA.f (by omega)
        have e2 := e1.cell 2
        have e3 := e1.frozen 2
        have e4 := e1.lt
        clear HA e1
        simp only [List.getElem?_cons_zero, List.getElem?_cons_succ] at e2
        have HMR := Lib.hid hmr
        have HRE := Lib.hid hre
        clear hmr hre
        go_wp2_with fail
        have fs := (Fr.refl (One (w.heap.size + 1)) w2).setCell (p := ⟨w.heap.size + 1, 2, none⟩) (.inl rfl) (.slice A2 (flatK 2 (acc ++ [x])).length cp2)
        refine (K2.out _ r1 ((HTx.out.fr HA2.out.f (by omega)).fr fs (fun h => by have : g = w.heap.size + 1 := h; omega)) ((((HB.out.fr HI.out.fr (fun h => hgb (Eq.symm h))).fr HFR.out (fun h => hgb (Eq.symm h))).fr HA2.out.f (by omega)).fr fs (fun h => by have : b = w.heap.size + 1 := h; omega))).mono ?_
        clear fs
        rw [HMR.out]
        rintro e w4 ⟨rfl, hT4, hF4⟩
        have hcc := SomeC.of HA2.out hgw HB0.out HB1.out (HI.out.fr.same HFR.out) hF4 hT4 (by omega)
        have HCC := Lib.hid hcc
        clear hT4 hF4
        have c0 := hcc.out.cell 0
        have c1 := hcc.out.cell 1
        have c2 := hcc.out.cell 2
        have f0 := hcc.out.frozen 0
        have f1 := hcc.out.frozen 1
        have f2 := hcc.out.frozen 2
        have d0 := hcc.e.cell 0
        have d1 := hcc.e.cell 1
        have d2 := hcc.e.cell 2
        have x0 := hcc.xb.cell 0
        have x1 := hcc.xb.cell 1
        have x2 := hcc.xb.cell 2
        have hl4 := hcc.xb.lt
        clear hcc
        simp only [List.getElem?_cons_zero, List.getElem?_cons_succ] at c0 c1 c2 d0 d1 d2 x0 x1 x2
        cases bm with
        | true =>
          go_wp2_with fail
          go_roundg r2.length
          case measure => have := HI.out.n; omega
          case rel =>
            refine ⟨acc ++ [x], r2, _, by simp, ⟨?_, HCC.out.text, HCC.out.out, HCC.out.e, HCC.out.own, ?_, ?_, HCC.out.fr, rfl⟩, by have := HLE.out; show r2.length ≤ r0.length; omega⟩
            · obtain ⟨m, hm, hq⟩ := HRE.out
              cases m with
              | zero => omega
              | succ m =>
                refine ⟨m, by omega, ?_⟩
                rw [← hq]
                simp only [someF, HFr.out, HMR.out]
            · simp only [List.length_append, List.length_singleton]; omega
            · have := HI.out.few2
              rw [flatK_snoc, List.length_append]
              split
              · omega
              · simp only [List.length_singleton]; omega
        | false =>
          have hres : someF 2 F moreR (r0.length + 1) [] r0 = .ok (joinK 2 (acc ++ [x])) r2 := by
            obtain ⟨m, hm, hq⟩ := HRE.out
            cases m with
            | zero => omega
            | succ m => rw [← hq]; simp only [someF, HFr.out, HMR.out]
          cases acc with
          | nil =>
            have HRS := Lib.hid hres
            clear hres
            go_wp2_with fail
            rw [HRS.out]
            exact some_ret HCC.out hgw _ _ _ _ _ rfl rfl rfl HCC.out.xr
          | cons y l =>
            rw [joinK_more _ _ _ (by simp)] at hres
            have HRS := Lib.hid hres
            clear hres
            go_wp2_with fail
            rw [HRS.out]
            exact some_ret HCC.out hgw _ _ _ _ _ rfl rfl rfl (HCC.out.own.rep (fun k hk h => by obtain ⟨css, ho, _⟩ := HCC.out.own; have := (own_base ho k hk).1; omega) _ _)
      · have hk2 : (x.k == 2) = false := by simpa using hk
        clear hk
        go_wp2_with (at_builtin; refine wpList_append_own_at _ rfl _ _ 110 rfl (w.heap.size + 2) 112 i0 _ 3 48 Tryz.underlying110 hi hz0 hz1 hz2 rfl (by decide) v (flatK 2 acc).length css0 rfl ((hown.alloc _).alloc _) ⟨w1.heap.size + 1, 0, none⟩ 1 1 [.int .i64 x.k, .string x.name, .slice A x.l.length c] rfl ?c1 ?c2 ?c3 ?c4 ?c5 ?c6 ?_)
        case c1 => rfl
        case c2 =>
          intro j u hj
          have hb := ((Blk.new_at (w1.alloc (Obj.cells #[.int .i64 x.k, .string x.name, .slice A x.l.length c] 112)) [.int .i64 x.k, .string x.name, .slice A x.l.length c] 112 (w1.heap.size + 1) (by simp)).cell j).trans hj
          rw [add_lit]
          exact hb
        case c3 => simp [Value.oneCell']
        case c4 => have := HI.out.few2; unfold maxLen; omega
        case c5 => have := HI.out.few2; omega
        case c6 => simp; omega
        intro v2 w2 hown2 hgr2 _ hat2
        have HA : SomeA w w1 w2 v2 (flatK 2 (acc ++ [x])) x [.int .i64 x.k, .string x.name, .slice A x.l.length c] := by
          rw [flatK_snoc, if_neg (by simpa using hk2)]
          exact SomeA.of (l' := [x]) HOL.out HFR.out.size (by omega) (((Fr.refl _ _).alloc _).alloc _) HREP.out (EReps.one (HX.out.fr0 (((Fr.refl _ _).alloc _).alloc _))) ((Blk.new_at _ _ _ _ rfl).alloc _) HX.out hown2 hgr2 (by simpa using hat2)
        clear hown2 hgr2 hat2 hown
        obtain ⟨bm, r2, hmr⟩ : ∃ bm r2, moreR r1 = (bm, r2) := ⟨_, _, rfl⟩
        have hml : r2.length ≤ r1.length := by have := moreR_le r1; rw [hmr] at this; exact this
        have hre := HI.out.run
        obtain ⟨A2, cp2, rfl⟩ := HA.own.slice
        have HA2 := Lib.hid HA
        have e1 := HB1.out.fr HA.f (by omega)
        have e2 := e1.cell 2
        have e3 := e1.frozen 2
        have e4 := e1.lt
        clear HA e1
        simp only [List.getElem?_cons_zero, List.getElem?_cons_succ] at e2
        have HMR := Lib.hid hmr
        have HRE := Lib.hid hre
        clear hmr hre
        go_wp2_with fail
        have fs := (Fr.refl (One (w.heap.size + 1)) w2).setCell (p := ⟨w.heap.size + 1, 2, none⟩) (.inl rfl) (.slice A2 (flatK 2 (acc ++ [x])).length cp2)
        refine (K2.out _ r1 ((HTx.out.fr HA2.out.f (by omega)).fr fs (fun h => by have : g = w.heap.size + 1 := h; omega)) ((((HB.out.fr HI.out.fr (fun h => hgb (Eq.symm h))).fr HFR.out (fun h => hgb (Eq.symm h))).fr HA2.out.f (by omega)).fr fs (fun h => by have : b = w.heap.size + 1 := h; omega))).mono ?_
        clear fs
        rw [HMR.out]
        rintro e w4 ⟨rfl, hT4, hF4⟩
        have hcc := SomeC.of HA2.out hgw HB0.out HB1.out (HI.out.fr.same HFR.out) hF4 hT4 (by omega)
        have HCC := Lib.hid hcc
        clear hT4 hF4
        have c0 := hcc.out.cell 0
        have c1 := hcc.out.cell 1
        have c2 := hcc.out.cell 2
        have f0 := hcc.out.frozen 0
        have f1 := hcc.out.frozen 1
        have f2 := hcc.out.frozen 2
        have d0 := hcc.e.cell 0
        have d1 := hcc.e.cell 1
        have d2 := hcc.e.cell 2
        have x0 := hcc.xb.cell 0
        have x1 := hcc.xb.cell 1
        have x2 := hcc.xb.cell 2
        have hl4 := hcc.xb.lt
        clear hcc
        simp only [List.getElem?_cons_zero, List.getElem?_cons_succ] at c0 c1 c2 d0 d1 d2 x0 x1 x2
        cases bm with
        | true =>
          go_wp2_with fail
          go_roundg r2.length
          case measure => have := HI.out.n; omega
          case rel =>
            refine ⟨acc ++ [x], r2, _, by simp, ⟨?_, HCC.out.text, HCC.out.out, HCC.out.e, HCC.out.own, ?_, ?_, HCC.out.fr, rfl⟩, by have := HLE.out; show r2.length ≤ r0.length; omega⟩
            · obtain ⟨m, hm, hq⟩ := HRE.out
              cases m with
              | zero => omega
              | succ m =>
                refine ⟨m, by omega, ?_⟩
                rw [← hq]
                simp only [someF, HFr.out, HMR.out]
            · simp only [List.length_append, List.length_singleton]; omega
            · have := HI.out.few2
              rw [flatK_snoc, List.length_append]
              split
              · omega
              · simp only [List.length_singleton]; omega
        | false =>
          have hres : someF 2 F moreR (r0.length + 1) [] r0 = .ok (joinK 2 (acc ++ [x])) r2 := by
            obtain ⟨m, hm, hq⟩ := HRE.out
            cases m with
            | zero => omega
            | succ m => rw [← hq]; simp only [someF, HFr.out, HMR.out]
          cases acc with
          | nil =>
            have HRS := Lib.hid hres
            clear hres
            go_wp2_with fail
            rw [HRS.out]
            exact some_ret HCC.out hgw _ _ _ _ _ rfl rfl rfl HCC.out.xr
          | cons y l =>
            rw [joinK_more _ _ _ (by simp)] at hres
            have HRS := Lib.hid hres
            clear hres
            go_wp2_with fail
            rw [HRS.out]
            exact some_ret HCC.out hgw _ _ _ _ _ rfl rfl rfl (HCC.out.own.rep (fun k hk h => by obtain ⟨css, ho, _⟩ := HCC.out.own; have := (own_base ho k hk).1; omega) _ _)
end Go.Proofs.YtpmgipgdicaioaaGreatDoor

/- 'row' and 'choice', one within the other: by induction on how deep brackets may stand. -/
namespace Go.Proofs.YtpmgipgdicaioaaGreatDoor
open Go.RowKit

set_option maxRecDepth 100000 in
set_option maxHeartbeats 4000000 in
theorem row_any (C : List UInt8 → Res) (N : Nat) (g : Nat) (s : ByteArray) (hs : s.size ≤ 200) (hG : Good 2 (partF C)) (r0 : List UInt8) (hN : r0.length ≤ N) (w : World) (hT : Tx w g s r0)
    (H1 : ∀ w r, r.length < N → Tx w g s r → Calls Tryz.prog 150 #[.pointer (some ⟨g, 0, none⟩)] w (Out g s w (C r))) :
    Calls Tryz.prog 171 #[.pointer (some ⟨g, 0, none⟩)] w (Out g s w (rowF C r0)) := by
  have hgw := hT.1.lt
  have HT := Lib.hid hT
  have K1 := Lib.hid H1
  have HG := Lib.hid hG
  clear hT H1 hG
  go_enter Tryz.func171, Tryz.ntmps171
  go_wp2_with fail
  have hFa := ((Fr.refl (One g) w).alloc (Obj.cells #[.pointer (some ⟨g, 0, none⟩)] 231)).alloc (Obj.cells #[.int .i64 0, .string ⟨#[]⟩, .slice none 0 0] 112)
  have hBa := (Blk.new w [.pointer (some ⟨g, 0, none⟩)] 231).alloc (Obj.cells #[.int .i64 0, .string ⟨#[]⟩, .slice none 0 0] 112)
  have hBb := Blk.new_at (w.alloc (Obj.cells #[.pointer (some ⟨g, 0, none⟩)] 231)) [.int .i64 0, .string ⟨#[]⟩, .slice none 0 0] 112 (w.heap.size + 1) (by simp)
  have hsa : ((w.alloc (Obj.cells #[.pointer (some ⟨g, 0, none⟩)] 231)).alloc (Obj.cells #[.int .i64 0, .string ⟨#[]⟩, .slice none 0 0] 112)).heap.size = w.heap.size + 2 := by simp
  have hTa := HT.out.fr (((Fr.refl Nob w).alloc (Obj.cells #[.pointer (some ⟨g, 0, none⟩)] 231)).alloc (Obj.cells #[.int .i64 0, .string ⟨#[]⟩, .slice none 0 0] 112)) (fun h => h)
  have HFa := Lib.hid hFa
  have HBb := Lib.hid hBb
  have HSa := Lib.hid hsa
  have hne : g ≠ w.heap.size := by omega
  have L1 : ∀ w r, r.length ≤ r0.length → Tx w g s r → Calls Tryz.prog 178 #[.pointer (some ⟨g, 0, none⟩)] w (Out g s w (partF C r)) := fun w r hr ht => part_any C N g s hs r (Nat.le_trans hr hN) w ht K1.out
  have L2 : ∀ W r, Tx W g s r → Blk W w.heap.size [.pointer (some ⟨g, 0, none⟩)] 231 → Calls Tryz.prog 179 #[.pointer (some ⟨w.heap.size, 0, none⟩)] W fun e w' => e = .returned (.bool (moreR r).1) ∧ Tx w' g s (moreR r).2 ∧ Fr (One g) W w' := fun W r ht hb => row1_any g w.heap.size s (Nat.le_trans hs (by decide)) r W ht hb
  have KS := some_r (partF C) g w.heap.size s hs HG.out r0 _ hTa hBa hne L1 L2
  rw [show someF 2 (partF C) moreR (r0.length + 1) [] r0 = rowF C r0 from rfl] at KS
  refine KS.mono ?_
  clear KS L1 L2 hne
  clear hFa hBa hBb hsa hTa
  rintro e w1 hO
  cases hA : rowF C r0 with
  | err r1 =>
    rw [hA] at hO
    obtain ⟨x, cs, bf, rfl, hx, hbf, hbl, hfr⟩ := hO
    obtain ⟨A, c, css, rfl, hc, hR, hE⟩ := hx.open_
    have hb := HBb.out.fr hfr (fun h => by have : w.heap.size + 1 = g := h; omega)
    have d0 := hb.cell 0
    have d1 := hb.cell 1
    have d2 := hb.cell 2
    have g0 := hb.frozen 0
    have g1 := hb.frozen 1
    have g2 := hb.frozen 2
    have hl1 := hb.lt
    simp only [List.getElem?_cons_zero, List.getElem?_cons_succ] at d0 d1 d2
    have HX := Lib.hid hx
    have HBf := Lib.hid hbf
    have HFR := Lib.hid hfr
    have HB3 := Lib.hid hb
    have HA := Lib.hid hA
    clear hx hR hE hbf hfr hb hA
    go_wp2_with fail
    rw [HA.out]
    have hsa := HSa.out
    refine ret_tree (ev := .iface 236 (.pointer (some ⟨bf, 0, none⟩))) rfl rfl rfl rfl (((HB3.out.set 0 _).set 1 _).set 2 _) ⟨x, _, bf, rfl, ?_, ?_, ?_, ?_⟩
    · exact ERep.mono (fun k hk => by omega) _ _ (ERep.fr (fr_store3 w1 (w.heap.size + 1) _ _ _) (fun k _ hk => by have : k = w.heap.size + 1 := hk; omega) _ _ HX.out)
    · exact HBf.out.fr (fr_store3 w1 (w.heap.size + 1) _ _ _) (fun h => by have : bf = w.heap.size + 1 := h; omega)
    · omega
    · exact (HFa.out.same HFR.out).trans (fr_store3 w1 (w.heap.size + 1) _ _ _) (fun k hk h => by have : k = w.heap.size + 1 := h; omega)
  | ok x r1 =>
    rw [hA] at hO
    obtain ⟨cs, rfl, hx, hTx, hfr⟩ := hO
    obtain ⟨A, c, css, rfl, hc, hR, hE⟩ := hx.open_
    have hb := HBb.out.fr hfr (fun h => by have : w.heap.size + 1 = g := h; omega)
    have d0 := hb.cell 0
    have d1 := hb.cell 1
    have d2 := hb.cell 2
    have g0 := hb.frozen 0
    have g1 := hb.frozen 1
    have g2 := hb.frozen 2
    have hl1 := hb.lt
    simp only [List.getElem?_cons_zero, List.getElem?_cons_succ] at d0 d1 d2
    have HX := Lib.hid hx
    have HTx := Lib.hid hTx
    have HFR := Lib.hid hfr
    have HB3 := Lib.hid hb
    have HA := Lib.hid hA
    clear hx hR hE hTx hfr hb hA
    go_wp2_with fail
    rw [HA.out]
    have hsa := HSa.out
    refine ret_tree (ev := .nilIface) rfl rfl rfl rfl (((HB3.out.set 0 _).set 1 _).set 2 _) ⟨_, rfl, ?_, ?_, ?_⟩
    · exact ERep.mono (fun k hk => by omega) _ _ (ERep.fr (fr_store3 w1 (w.heap.size + 1) _ _ _) (fun k _ hk => by have : k = w.heap.size + 1 := hk; omega) _ _ HX.out)
    · exact HTx.out.fr (fr_store3 w1 (w.heap.size + 1) _ _ _) (fun h => by have : g = w.heap.size + 1 := h; omega)
    · exact (HFa.out.same HFR.out).trans (fr_store3 w1 (w.heap.size + 1) _ _ _) (fun k hk h => by have : k = w.heap.size + 1 := h; omega)
set_option maxRecDepth 100000 in
set_option maxHeartbeats 4000000 in
theorem choice_step (n : Nat) (g : Nat) (s : ByteArray) (hs : s.size ≤ 200) (hG : Good 3 (rowF (choiceF n))) (r0 : List UInt8) (hN : r0.length ≤ n) (w : World) (hT : Tx w g s r0)
    (H1 : ∀ w r, r.length ≤ n → Tx w g s r → Calls Tryz.prog 171 #[.pointer (some ⟨g, 0, none⟩)] w (Out g s w (rowF (choiceF n) r))) :
    Calls Tryz.prog 150 #[.pointer (some ⟨g, 0, none⟩)] w (Out g s w (choiceF (n + 1) r0)) := by
  have hgw := hT.1.lt
  have HT := Lib.hid hT
  have K1 := Lib.hid H1
  have HG := Lib.hid hG
  clear hT H1 hG
  go_enter Tryz.func150, Tryz.ntmps150
  go_wp2_with fail
  have hFa := ((Fr.refl (One g) w).alloc (Obj.cells #[.pointer (some ⟨g, 0, none⟩)] 231)).alloc (Obj.cells #[.int .i64 0, .string ⟨#[]⟩, .slice none 0 0] 112)
  have hBa := (Blk.new w [.pointer (some ⟨g, 0, none⟩)] 231).alloc (Obj.cells #[.int .i64 0, .string ⟨#[]⟩, .slice none 0 0] 112)
  have hBb := Blk.new_at (w.alloc (Obj.cells #[.pointer (some ⟨g, 0, none⟩)] 231)) [.int .i64 0, .string ⟨#[]⟩, .slice none 0 0] 112 (w.heap.size + 1) (by simp)
  have hsa : ((w.alloc (Obj.cells #[.pointer (some ⟨g, 0, none⟩)] 231)).alloc (Obj.cells #[.int .i64 0, .string ⟨#[]⟩, .slice none 0 0] 112)).heap.size = w.heap.size + 2 := by simp
  have hTa := HT.out.fr (((Fr.refl Nob w).alloc (Obj.cells #[.pointer (some ⟨g, 0, none⟩)] 231)).alloc (Obj.cells #[.int .i64 0, .string ⟨#[]⟩, .slice none 0 0] 112)) (fun h => h)
  have HFa := Lib.hid hFa
  have HBb := Lib.hid hBb
  have HSa := Lib.hid hsa
  have hne : g ≠ w.heap.size := by omega
  have L1 : ∀ w r, r.length ≤ r0.length → Tx w g s r → Calls Tryz.prog 171 #[.pointer (some ⟨g, 0, none⟩)] w (Out g s w (rowF (choiceF n) r)) := fun w r hr ht => K1.out w r (Nat.le_trans hr hN) ht
  have L2 : ∀ W r, Tx W g s r → Blk W w.heap.size [.pointer (some ⟨g, 0, none⟩)] 231 → Calls Tryz.prog 173 #[.pointer (some ⟨w.heap.size, 0, none⟩)] W fun e w' => e = .returned (.bool (moreC r).1) ∧ Tx w' g s (moreC r).2 ∧ Fr (One g) W w' := fun W r ht hb => choice1_any g w.heap.size s (Nat.le_trans hs (by decide)) r W ht hb hne
  have KS := some_c (rowF (choiceF n)) g w.heap.size s hs HG.out r0 _ hTa hBa hne L1 L2
  rw [show someF 3 (rowF (choiceF n)) moreC (r0.length + 1) [] r0 = choiceF (n + 1) r0 from rfl] at KS
  refine KS.mono ?_
  clear KS L1 L2 hne
  clear hFa hBa hBb hsa hTa
  rintro e w1 hO
  cases hA : choiceF (n + 1) r0 with
  | err r1 =>
    rw [hA] at hO
    obtain ⟨x, cs, bf, rfl, hx, hbf, hbl, hfr⟩ := hO
    obtain ⟨A, c, css, rfl, hc, hR, hE⟩ := hx.open_
    have hb := HBb.out.fr hfr (fun h => by have : w.heap.size + 1 = g := h; omega)
    have d0 := hb.cell 0
    have d1 := hb.cell 1
    have d2 := hb.cell 2
    have g0 := hb.frozen 0
    have g1 := hb.frozen 1
    have g2 := hb.frozen 2
    have hl1 := hb.lt
    simp only [List.getElem?_cons_zero, List.getElem?_cons_succ] at d0 d1 d2
    have HX := Lib.hid hx
    have HBf := Lib.hid hbf
    have HFR := Lib.hid hfr
    have HB3 := Lib.hid hb
    have HA := Lib.hid hA
    clear hx hR hE hbf hfr hb hA
    go_wp2_with fail
    rw [HA.out]
    have hsa := HSa.out
    refine ret_tree (ev := .iface 236 (.pointer (some ⟨bf, 0, none⟩))) rfl rfl rfl rfl (((HB3.out.set 0 _).set 1 _).set 2 _) ⟨x, _, bf, rfl, ?_, ?_, ?_, ?_⟩
    · exact ERep.mono (fun k hk => by omega) _ _ (ERep.fr (fr_store3 w1 (w.heap.size + 1) _ _ _) (fun k _ hk => by have : k = w.heap.size + 1 := hk; omega) _ _ HX.out)
    · exact HBf.out.fr (fr_store3 w1 (w.heap.size + 1) _ _ _) (fun h => by have : bf = w.heap.size + 1 := h; omega)
    · omega
    · exact (HFa.out.same HFR.out).trans (fr_store3 w1 (w.heap.size + 1) _ _ _) (fun k hk h => by have : k = w.heap.size + 1 := h; omega)
  | ok x r1 =>
    rw [hA] at hO
    obtain ⟨cs, rfl, hx, hTx, hfr⟩ := hO
    obtain ⟨A, c, css, rfl, hc, hR, hE⟩ := hx.open_
    have hb := HBb.out.fr hfr (fun h => by have : w.heap.size + 1 = g := h; omega)
    have d0 := hb.cell 0
    have d1 := hb.cell 1
    have d2 := hb.cell 2
    have g0 := hb.frozen 0
    have g1 := hb.frozen 1
    have g2 := hb.frozen 2
    have hl1 := hb.lt
    simp only [List.getElem?_cons_zero, List.getElem?_cons_succ] at d0 d1 d2
    have HX := Lib.hid hx
    have HTx := Lib.hid hTx
    have HFR := Lib.hid hfr
    have HB3 := Lib.hid hb
    have HA := Lib.hid hA
    clear hx hR hE hTx hfr hb hA
    go_wp2_with fail
    rw [HA.out]
    have hsa := HSa.out
    refine ret_tree (ev := .nilIface) rfl rfl rfl rfl (((HB3.out.set 0 _).set 1 _).set 2 _) ⟨_, rfl, ?_, ?_, ?_⟩
    · exact ERep.mono (fun k hk => by omega) _ _ (ERep.fr (fr_store3 w1 (w.heap.size + 1) _ _ _) (fun k _ hk => by have : k = w.heap.size + 1 := hk; omega) _ _ HX.out)
    · exact HTx.out.fr (fr_store3 w1 (w.heap.size + 1) _ _ _) (fun h => by have : g = w.heap.size + 1 := h; omega)
    · exact (HFa.out.same HFR.out).trans (fr_store3 w1 (w.heap.size + 1) _ _ _) (fun k hk h => by have : k = w.heap.size + 1 := h; omega)

/-- What is known of the readers as plain functions. -/
def Goods : Prop := ∀ n, Good 2 (partF (choiceF n)) ∧ Good 3 (rowF (choiceF n))
/-- 'choice', however deep brackets stand. -/
theorem choice_any (HG : Goods) (g : Nat) (s : ByteArray) (hs : s.size ≤ 200) : ∀ (n : Nat) (r0 : List UInt8) (w : World), r0.length < n → Tx w g s r0 →
    Calls Tryz.prog 150 #[.pointer (some ⟨g, 0, none⟩)] w (Out g s w (choiceF n r0)) := by
  intro n
  induction n with
  | zero => intro r0 w h; omega
  | succ n ih =>
    intro r0 w h hT
    exact choice_step n g s hs (HG n).2 r0 (Nat.lt_succ_iff.1 h) w hT (fun w r hr ht => row_any (choiceF n) n g s hs (HG n).1 r hr w ht (fun w r hr ht => ih r w hr ht))
end Go.Proofs.YtpmgipgdicaioaaGreatDoor

/- The readers as plain functions: each eats something; a tree has no more parts than were eaten. -/
namespace Go.Proofs.YtpmgipgdicaioaaGreatDoor

def GoodA (F : List UInt8 → Res) : Prop := ∀ r x r1, F r = .ok x r1 → r1.length < r.length ∧ x.l.length + r1.length ≤ r.length ∧ (x.k = 2 ∨ x.k = 3 → x.l ≠ [])
theorem GoodA.good {F : List UInt8 → Res} (h : GoodA F) (kind : Int) (hk : kind = 2 ∨ kind = 3) : Good kind F := fun r x r1 e => by
  obtain ⟨a, b, c⟩ := h r x r1 e
  exact ⟨a, b, fun hx => c (by rw [hx]; exact hk)⟩
theorem flatK_ne {kind : Int} (hk : kind = 2 ∨ kind = 3) (acc : List Tree) (x : Tree) (hx : x.k = 2 ∨ x.k = 3 → x.l ≠ []) : flatK kind (acc ++ [x]) ≠ [] := by
  rw [flatK_snoc]
  split
  · rename_i h
    have := hx (by rw [h]; exact hk)
    intro hh
    exact this (List.append_eq_nil_iff.1 hh).2
  · simp
theorem someF_good {kind : Int} (hk : kind = 2 ∨ kind = 3) {F : List UInt8 → Res} {G : List UInt8 → Bool × List UInt8} (hF : GoodA F) (hG : ∀ r, (G r).2.length ≤ r.length) :
    ∀ (n : Nat) (acc : List Tree) (r : List UInt8) (x : Tree) (r1 : List UInt8), someF kind F G n acc r = .ok x r1 →
      r1.length < r.length ∧ (acc = [] ∨ True) ∧ x.l.length + r1.length ≤ (flatK kind acc).length + r.length ∧ (x.k = 2 ∨ x.k = 3 → x.l ≠ []) := by
  intro n
  induction n with
  | zero => intro acc r x r1 h; simp [someF] at h
  | succ n ih =>
    intro acc r x r1 h
    unfold someF at h
    cases hf : F r with
    | err q => rw [hf] at h; cases h
    | ok y q =>
      rw [hf] at h
      obtain ⟨h1, h2, h3⟩ := hF r y q hf
      have h4 := hG q
      cases hg : G q with
      | mk b q2 =>
        simp only [hg] at h
        rw [hg] at h4
        have hfl : (flatK kind (acc ++ [y])).length + q.length ≤ (flatK kind acc).length + r.length := by
          rw [flatK_snoc, List.length_append]
          split
          · omega
          · simp only [List.length_singleton]; omega
        cases b with
        | false =>
          simp only [Res.ok.injEq] at h
          obtain ⟨rfl, rfl⟩ := h
          simp only at h4
          cases acc with
          | nil =>
            rw [List.nil_append, joinK_one]
            refine ⟨by omega, .inr trivial, ?_, h3⟩
            simp [flatK]; omega
          | cons z l =>
            rw [joinK_more kind (z :: l) y (by simp)]
            exact ⟨by omega, .inr trivial, by show (flatK kind (z :: l ++ [y])).length + _ ≤ _; omega, fun _ => flatK_ne hk (z :: l) y h3⟩
        | true =>
          simp only at h h4
          obtain ⟨a, _, c, d⟩ := ih _ _ _ _ h
          exact ⟨by omega, .inr trivial, by omega, d⟩
theorem signsF_good : ∀ (n : Nat) (e : Tree) (r : List UInt8), (signsF n e r).2.length ≤ r.length ∧ (signsF n e r).1.l.length + (signsF n e r).2.length ≤ e.l.length + r.length ∧ ((e.k = 2 ∨ e.k = 3 → e.l ≠ []) → (signsF n e r).1.k = 2 ∨ (signsF n e r).1.k = 3 → (signsF n e r).1.l ≠ []) := by
  intro n
  induction n with
  | zero => intro e r; exact ⟨Nat.le_refl _, Nat.le_refl _, fun h => h⟩
  | succ n ih =>
    intro e r
    have hs := skipB_le r
    unfold signsF
    split
    · rename_i h
      refine ⟨by simp, by simp, fun h => h⟩
    · rename_i c t h
      rw [h] at hs
      split
      · exact ⟨hs, Nat.add_le_add_left hs _, fun h => h⟩
      · obtain ⟨a, b, d⟩ := ih (.node (signK c) ⟨#[]⟩ [e]) t
        simp only [List.length_cons] at hs
        refine ⟨by omega, ?_, fun _ => d (fun _ => by simp [Tree.l])⟩
        have : (Tree.node (signK c) ⟨#[]⟩ [e]).l.length = 1 := rfl
        omega
theorem closeF_ok {R : Res} {x : Tree} {r1 : List UInt8} (h : closeF R = .ok x r1) : ∃ q, R = .ok x q ∧ skipB q = 41 :: r1 := by
  unfold closeF at h
  split at h
  · cases h
  · rename_i e r
    split at h
    · rename_i t hq
      simp only [Res.ok.injEq] at h
      obtain ⟨rfl, rfl⟩ := h
      exact ⟨r, rfl, hq⟩
    · cases h
theorem atomF_good {C : List UInt8 → Res} (hC : GoodA C) : GoodA (atomF C) := by
  intro r x r1 h
  have hs := skipB_le r
  unfold atomF at h
  split at h
  · rename_i t hq
    rw [hq] at hs
    obtain ⟨q, h1, h2⟩ := closeF_ok h
    obtain ⟨a, b, c⟩ := hC _ _ _ h1
    have h3 := skipB_le q
    rw [h2] at h3
    simp only [List.length_cons] at hs h3
    exact ⟨by omega, by omega, c⟩
  · split at h
    · cases h
    · rename_i hne
      simp only [Res.ok.injEq] at h
      obtain ⟨rfl, rfl⟩ := h
      have h1 : (List.takeWhile letter (skipB r)).length + (List.dropWhile letter (skipB r)).length = (skipB r).length := by
        rw [← List.length_append, List.takeWhile_append_dropWhile]
      have h2 : 0 < (List.takeWhile letter (skipB r)).length := List.length_pos_iff.2 hne
      refine ⟨by omega, ?_, fun h => by rcases h with h | h <;> cases h⟩
      show 0 + _ ≤ _
      omega
theorem partF_good {C : List UInt8 → Res} (hC : GoodA C) : GoodA (partF C) := by
  intro r x r1 h
  unfold partF at h
  split at h
  · cases h
  · rename_i e q hq
    obtain ⟨a, b, c⟩ := atomF_good hC _ _ _ hq
    simp only [Res.ok.injEq] at h
    obtain ⟨rfl, rfl⟩ := h
    obtain ⟨a', b', c'⟩ := signsF_good (q.length + 1) e q
    exact ⟨by omega, by omega, c' c⟩
theorem rowF_good {C : List UInt8 → Res} (hC : GoodA C) : GoodA (rowF C) := by
  intro r x r1 h
  obtain ⟨a, _, b, c⟩ := someF_good (.inl rfl) (partF_good hC) moreR_le _ _ _ _ _ h
  exact ⟨a, by simpa [flatK] using b, c⟩
theorem choiceF_good : ∀ n, GoodA (choiceF n)
  | 0 => by intro r x r1 h; cases h
  | n + 1 => by
    intro r x r1 h
    obtain ⟨a, _, b, c⟩ := someF_good (.inr rfl) (rowF_good (choiceF_good n)) moreC_le _ _ _ _ _ h
    exact ⟨a, by simpa [flatK] using b, c⟩
theorem goods : Goods := fun n => ⟨(partF_good (choiceF_good n)).good 2 (.inl rfl), (rowF_good (choiceF_good n)).good 3 (.inr rfl)⟩
end Go.Proofs.YtpmgipgdicaioaaGreatDoor

/- How large what is read is: no more trees than twice the letters, no more letters in names than letters. -/
namespace Go.Proofs.YtpmgipgdicaioaaGreatDoor
def Few (F : List UInt8 → Res) : Prop := ∀ r x r1, F r = .ok x r1 → x.count + 1 + 2 * r1.length ≤ 2 * r.length ∧ x.bytes + r1.length ≤ r.length
theorem countL_append (a b : List Tree) : countL (a ++ b) = countL a + countL b := by
  induction a with
  | nil => simp [countL]
  | cons x a ih => simp only [List.cons_append, countL, ih]; omega
theorem bytesL_append (a b : List Tree) : bytesL (a ++ b) = bytesL a + bytesL b := by
  induction a with
  | nil => simp [bytesL]
  | cons x a ih => simp only [List.cons_append, bytesL, ih]; omega
theorem flatK_few (kind : Int) (l : List Tree) : countL (flatK kind l) ≤ countL l ∧ bytesL (flatK kind l) ≤ bytesL l := by
  induction l with
  | nil => simp [flatK]
  | cons x l ih =>
    have e : flatK kind (x :: l) = (if x.k = kind then x.l else [x]) ++ flatK kind l := by simp [flatK]
    have h1 := count_eq x
    have h2 := bytes_eq x
    rw [e, countL_append, bytesL_append]
    simp only [countL, bytesL]
    split
    · omega
    · simp only [countL, bytesL]; omega
theorem someF_few {kind : Int} {F : List UInt8 → Res} {G : List UInt8 → Bool × List UInt8} (hF : Few F) (hG : ∀ r, (G r).2.length ≤ r.length) :
    ∀ (n : Nat) (acc : List Tree) (r : List UInt8) (x : Tree) (r1 : List UInt8), someF kind F G n acc r = .ok x r1 →
      x.count + 1 + 2 * r1.length ≤ countL acc + acc.length + 2 * r.length ∧ x.bytes + r1.length ≤ bytesL acc + r.length := by
  intro n
  induction n with
  | zero => intro acc r x r1 h; simp [someF] at h
  | succ n ih =>
    intro acc r x r1 h
    unfold someF at h
    cases hf : F r with
    | err q => rw [hf] at h; cases h
    | ok y q =>
      rw [hf] at h
      obtain ⟨h1, h2⟩ := hF r y q hf
      have h4 := hG q
      cases hg : G q with
      | mk b q2 =>
        simp only [hg] at h
        rw [hg] at h4
        cases b with
        | false =>
          simp only [Res.ok.injEq] at h
          obtain ⟨rfl, rfl⟩ := h
          simp only at h4
          cases acc with
          | nil =>
            rw [List.nil_append, joinK_one]
            simp only [countL, bytesL, List.length_nil]
            omega
          | cons z l =>
            rw [joinK_more kind (z :: l) y (by simp)]
            have hk := flatK_few kind (z :: l ++ [y])
            rw [countL_append, bytesL_append] at hk
            simp only [countL, bytesL] at hk
            have e1 : (Tree.node kind ⟨#[]⟩ (flatK kind (z :: l ++ [y]))).count = countL (flatK kind (z :: l ++ [y])) + 1 := by simp only [Tree.count]
            have e2 : (Tree.node kind ⟨#[]⟩ (flatK kind (z :: l ++ [y]))).bytes = bytesL (flatK kind (z :: l ++ [y])) := by rw [bytes_eq]; rfl
            rw [e1, e2]
            simp only [countL, bytesL, List.length_cons]
            omega
        | true =>
          simp only at h h4
          have := ih _ _ _ _ h
          rw [countL_append, bytesL_append] at this
          simp only [countL, bytesL, List.length_append, List.length_cons, List.length_nil] at this
          omega
theorem signsF_few : ∀ (n : Nat) (e : Tree) (r : List UInt8), (signsF n e r).1.count + 2 * (signsF n e r).2.length ≤ e.count + 2 * r.length ∧ (signsF n e r).1.bytes + (signsF n e r).2.length ≤ e.bytes + r.length := by
  intro n
  induction n with
  | zero => intro e r; exact ⟨Nat.le_refl _, Nat.le_refl _⟩
  | succ n ih =>
    intro e r
    have hs := skipB_le r
    unfold signsF
    split
    · rename_i h
      simp
    · rename_i c t h
      rw [h] at hs
      simp only [List.length_cons] at hs
      split
      · simp only [List.length_cons]; omega
      · have := ih (.node (signK c) ⟨#[]⟩ [e]) t
        have e1 : (Tree.node (signK c) ⟨#[]⟩ [e]).count = e.count + 1 := by simp [Tree.count, countL]
        have e2 : (Tree.node (signK c) ⟨#[]⟩ [e]).bytes = e.bytes := by rw [bytes_eq]; simp [Tree.l, Tree.name, bytesL]; rfl
        rw [e1, e2] at this
        omega
theorem atomF_few {C : List UInt8 → Res} (hC : Few C) : Few (atomF C) := by
  intro r x r1 h
  have hs := skipB_le r
  unfold atomF at h
  split at h
  · rename_i t hq
    rw [hq] at hs
    obtain ⟨q, h1, h2⟩ := closeF_ok h
    have := hC _ _ _ h1
    have h3 := skipB_le q
    rw [h2] at h3
    simp only [List.length_cons] at hs h3
    omega
  · split at h
    · cases h
    · rename_i hne
      simp only [Res.ok.injEq] at h
      obtain ⟨rfl, rfl⟩ := h
      have h1 : (List.takeWhile letter (skipB r)).length + (List.dropWhile letter (skipB r)).length = (skipB r).length := by
        rw [← List.length_append, List.takeWhile_append_dropWhile]
      have h2 : 0 < (List.takeWhile letter (skipB r)).length := List.length_pos_iff.2 hne
      have e1 : (Tree.node 1 ⟨(List.takeWhile letter (skipB r)).toArray⟩ []).count = 1 := by simp [Tree.count, countL]
      have e2 : (Tree.node 1 ⟨(List.takeWhile letter (skipB r)).toArray⟩ []).bytes = (List.takeWhile letter (skipB r)).length := by rw [bytes_eq]; simp [Tree.l, Tree.name, bytesL, ByteArray.size]
      rw [e1, e2]
      omega
theorem partF_few {C : List UInt8 → Res} (hC : Few C) : Few (partF C) := by
  intro r x r1 h
  unfold partF at h
  split at h
  · cases h
  · rename_i e q hq
    have h1 := atomF_few hC _ _ _ hq
    simp only [Res.ok.injEq] at h
    obtain ⟨rfl, rfl⟩ := h
    have h2 := signsF_few (q.length + 1) e q
    omega
theorem rowF_few {C : List UInt8 → Res} (hC : Few C) : Few (rowF C) := by
  intro r x r1 h
  have := someF_few (partF_few hC) moreR_le _ _ _ _ _ h
  simpa [countL, bytesL] using this
theorem choiceF_few : ∀ n, Few (choiceF n)
  | 0 => by intro r x r1 h; cases h
  | n + 1 => by
    intro r x r1 h
    have := someF_few (rowF_few (choiceF_few n)) moreC_le _ _ _ _ _ h
    simpa [countL, bytesL] using this
end Go.Proofs.YtpmgipgdicaioaaGreatDoor

/- 'whole': all of a text. -/
namespace Go.Proofs.YtpmgipgdicaioaaGreatDoor
open Go.RowKit
/-- What 'whole' comes to; a fault at the place 0 where the tree may not be. -/
inductive Whole where
  | ok (x : Tree)
  | err (at_ : Int)
def wholeC (n : Nat) : Res → Whole
  | .err r1 => .err ((n : Int) - r1.length)
  | .ok x r1 => if skipB r1 = [] then (if checkT x = 0 then .ok x else .err 0) else .err ((n : Int) - (skipB r1).length)
def wholeF (n : Nat) (r : List UInt8) : Whole := if skipB r = [] then .ok (.node 0 ⟨#[]⟩ []) else wholeC n (choiceF (n + 1) (skipB r))
def OutW (w : World) : Whole → Ending → World → Prop
  | .ok x, e, w' => ∃ cs, e = .returned (.tuple #[.agg cs.toArray, .nilIface]) ∧ ERep (fun k => k < w.heap.size) w' x cs
  | .err n, e, w' => ∃ cs b, e = .returned (.tuple #[.agg cs.toArray, .iface 236 (.pointer (some ⟨b, 0, none⟩))]) ∧ (∃ x, ERep (fun k => k < w.heap.size) w' x cs) ∧ Blk w' b [.int .i64 n, .iface 30 (.int .i64 4)] 239 ∧ w.heap.size ≤ b
theorem nextB_pos {r : List UInt8} (h : skipB r ≠ []) : nextB r ≠ 0 := by
  unfold nextB
  split
  · rename_i e; exact absurd e h
  · split <;> omega
set_option maxRecDepth 100000 in
set_option maxHeartbeats 4000000 in
theorem whole_any (g : Nat) (s : ByteArray) (hs : s.size ≤ 200) (w : World) (hT : Tx w g s s.data.toList) :
    Calls Tryz.prog 129 #[.pointer (some ⟨g, 0, none⟩)] w fun e w' => OutW w (wholeF s.size s.data.toList) e w' ∧ Fr (One g) w w' := by
  have hgw := hT.1.lt
  have HT := Lib.hid hT
  clear hT
  go_enter Tryz.func129, Tryz.ntmps129
  go_wp2_with fail
  refine (next_any g s (by omega) _ _ (HT.out.fr ((Fr.refl Nob w).alloc _) (fun h => h))).mono ?_
  rintro e w1 ⟨rfl, hT1, hF1⟩
  have hb0 := (Blk.new w [.int .i64 0, .string ⟨#[]⟩, .slice none 0 0] 112).fr hF1 (fun h => by have : w.heap.size = g := h; omega)
  have hFw : Fr (One g) w w1 := ((Fr.refl (One g) w).alloc _).same hF1
  have HT1 := Lib.hid hT1
  have HB0 := Lib.hid hb0
  have HF := Lib.hid hFw
  have hlt := hb0.lt
  have c0 := hb0.cell 0
  have c1 := hb0.cell 1
  have c2 := hb0.cell 2
  have f0 := hb0.frozen 0
  have f1 := hb0.frozen 1
  have f2 := hb0.frozen 2
  simp only [List.getElem?_cons_zero, List.getElem?_cons_succ] at c0 c1 c2
  clear hT1 hF1 hFw hb0
  by_cases hnil : skipB s.data.toList = []
  · have hn : nextB s.data.toList = 0 := nextB_nil hnil
    have hw : wholeF s.size s.data.toList = .ok (.node 0 ⟨#[]⟩ []) := by unfold wholeF; rw [if_pos hnil]
    have HW := Lib.hid hw
    rw [hn]
    clear hnil hn hw
    go_wp2_with fail
    rw [HW.out]
    refine ret_tree (ev := .nilIface) rfl rfl rfl rfl (((HB0.out.set 0 _).set 1 _).set 2 _) ⟨⟨_, rfl, ?_⟩, ?_⟩
    · exact ERep.empty _ _ _ _
    · exact HF.out.trans (fr_store3 w1 w.heap.size _ _ _) (fun k hk h => by have : k = w.heap.size := h; omega)
  · have hn : (nextB s.data.toList == 0) = false := by simpa using nextB_pos hnil
    have hw : wholeF s.size s.data.toList = wholeC s.size (choiceF (s.size + 1) (skipB s.data.toList)) := by unfold wholeF; rw [if_neg hnil]
    have HW := Lib.hid hw
    generalize nextB s.data.toList = nb at hn
    clear hnil hw
    go_wp2_with fail
    have hlen : (skipB s.data.toList).length < s.size + 1 := by have := HT1.out.2.1; omega
    refine (choice_any goods g s hs (s.size + 1) (skipB s.data.toList) w1 hlen HT1.out).mono ?_
    rintro e w2 hO
    clear hlen
    cases hC : choiceF (s.size + 1) (skipB s.data.toList) with
    | err r1 =>
      rw [hC] at hO
      obtain ⟨x, cs, bf, rfl, hx, hbf, hbl, hfr⟩ := hO
      obtain ⟨A, c, css, rfl, hc, hR, hE⟩ := hx.open_
      have hb := HB0.out.fr hfr (fun h => by have : w.heap.size = g := h; omega)
      have HX := Lib.hid hx
      have HBf := Lib.hid hbf
      have HFR := Lib.hid hfr
      have HB3 := Lib.hid hb
      have d0 := hb.cell 0
      have d1 := hb.cell 1
      have d2 := hb.cell 2
      have g0 := hb.frozen 0
      have g1 := hb.frozen 1
      have g2 := hb.frozen 2
      have hl2 := hb.lt
      have HC := Lib.hid hC
      clear hx hR hE hbf hfr hb hC c0 c1 c2 f0 f1 f2
      simp only [List.getElem?_cons_zero, List.getElem?_cons_succ] at d0 d1 d2
      go_wp2_with fail
      rw [HW.out, HC.out, show wholeC s.size (.err r1) = .err ((s.size : Int) - r1.length) from rfl]
      refine ret_tree (ev := .iface 236 (.pointer (some ⟨bf, 0, none⟩))) rfl rfl rfl rfl ((((HB3.out.set 0 _).set 1 _).set 2 _).alloc _) ⟨⟨_, bf, rfl, ⟨x, ?_⟩, ?_, ?_⟩, ?_⟩
      · exact ERep.mono (fun k hk => by omega) _ _ (ERep.fr ((fr_store3 w2 w.heap.size _ _ _).alloc _) (fun k _ hk => by have : k = w.heap.size := hk; omega) _ _ HX.out)
      · exact HBf.out.fr ((fr_store3 w2 w.heap.size _ _ _).alloc _) (fun h => by have : bf = w.heap.size := h; omega)
      · omega
      · exact (HF.out.same HFR.out).trans ((fr_store3 w2 w.heap.size _ _ _).alloc _) (fun k hk h => by have : k = w.heap.size := h; omega)
    | ok x r1 =>
      have hfew := choiceF_few _ _ _ _ hC
      have hsk := skipB_le s.data.toList
      rw [hC] at hO
      obtain ⟨cs, rfl, hx, hTx, hfr⟩ := hO
      obtain ⟨A, c, css, rfl, hc, hR, hE⟩ := hx.open_
      have hb := HB0.out.fr hfr (fun h => by have : w.heap.size = g := h; omega)
      have hl2 := hb.lt
      have hlen2 : s.data.toList.length = s.size := by simp
      have HX := Lib.hid hx
      have HFR := Lib.hid hfr
      have HB3 := Lib.hid hb
      have HTx := Lib.hid hTx
      have HC := Lib.hid hC
      have HFEW := Lib.hid (show x.count ≤ 400 ∧ x.bytes ≤ 200 by omega)
      clear hx hR hE hfr hb hC hTx c0 c1 c2 f0 f1 f2 hfew hsk hlen2
      go_wp2_with fail
      refine (next_any g s (by omega) r1 _ (HTx.out.fr ((Fr.refl Nob w2).alloc _) (fun h => h))).mono ?_
      rintro e w3 ⟨rfl, hT3, hF3⟩
      have hF23 := ((Fr.refl (One g) w2).alloc (Obj.cells #[.int .i64 x.k, .string x.name, .slice A x.l.length c] 112)).same hF3
      have hxb := (Blk.new_at w2 [.int .i64 x.k, .string x.name, .slice A x.l.length c] 112 _ rfl).fr hF3 (fun h => by have : w2.heap.size = g := h; omega)
      have hb3 := HB3.out.fr hF23 (fun h => by have : w.heap.size = g := h; omega)
      have d0 := hb3.cell 0
      have d1 := hb3.cell 1
      have d2 := hb3.cell 2
      have f0 := hb3.frozen 0
      have f1 := hb3.frozen 1
      have f2 := hb3.frozen 2
      have x0 := hxb.cell 0
      have x1 := hxb.cell 1
      have x2 := hxb.cell 2
      simp only [List.getElem?_cons_zero, List.getElem?_cons_succ] at d0 d1 d2 x0 x1 x2
      have hl3 := hb3.lt
      have hl4 := hxb.lt
      have hX3 := ERep.fr hF23 (fun k _ hk => by have : k = g := hk; omega) _ _ HX.out
      have HT3 := Lib.hid hT3
      have HB4 := Lib.hid hb3
      have HXB := Lib.hid hxb
      have HX3 := Lib.hid hX3
      have HF03 := Lib.hid (HF.out.same (HFR.out.same hF23))
      clear hT3 hF3 hF23 hxb hb3 hX3
      by_cases hnil : skipB r1 = []
      · have hn : nextB r1 = 0 := nextB_nil hnil
        have hw2 : wholeC s.size (.ok x r1) = if checkT x = 0 then .ok x else .err 0 := by unfold wholeC; exact if_pos hnil
        have HW2 := Lib.hid hw2
        rw [hn]
        clear hnil hn hw2
        go_wp2_with fail
        refine (check_any x _ _ (ERep.mono (fun k h => h.elim) _ _ HX3.out) (by have := HFEW.out; omega) (by have := HFEW.out; omega)).mono ?_
        rintro e w4 ⟨rfl, hF4⟩
        have hF14 : Fr (One w.heap.size) w3 w4 := hF4.any
        have hb4 := HB4.out.fr hF4 (fun h => h)
        have hxb4 := HXB.out.fr hF4 (fun h => h)
        have d0 := hb4.cell 0
        have d1 := hb4.cell 1
        have d2 := hb4.cell 2
        have f0 := hb4.frozen 0
        have f1 := hb4.frozen 1
        have f2 := hb4.frozen 2
        have x0 := hxb4.cell 0
        have x1 := hxb4.cell 1
        have x2 := hxb4.cell 2
        simp only [List.getElem?_cons_zero, List.getElem?_cons_succ] at d0 d1 d2 x0 x1 x2
        have hl5 := hb4.lt
        have hl6 := hxb4.lt
        have hX4 := ERep.fr hF4 (fun k _ hk => hk.elim) _ _ HX3.out
        have HX4 := Lib.hid hX4
        have HB5 := Lib.hid hb4
        have HF04 := Lib.hid (HF03.out.none hF4)
        clear hF14 hF4 hb4 hxb4 hX4
        by_cases hck : checkT x = 0
        · have hw3 : wholeC s.size (.ok x r1) = .ok x := by rw [HW2.out, if_pos hck]
          have HW3 := Lib.hid hw3
          rw [hck]
          clear hck hw3
          go_wp2_with fail
          rw [HW.out, HC.out, HW3.out]
          refine ret_tree (ev := .nilIface) rfl rfl rfl rfl (((HB5.out.set 0 _).set 1 _).set 2 _) ⟨⟨_, rfl, ?_⟩, ?_⟩
          · exact ERep.mono (fun k hk => by omega) _ _ (ERep.fr (fr_store3 w4 w.heap.size _ _ _) (fun k _ hk => by have : k = w.heap.size := hk; omega) _ _ HX4.out)
          · exact HF04.out.trans (fr_store3 w4 w.heap.size _ _ _) (fun k hk h => by have : k = w.heap.size := h; omega)
        · have hw3 : wholeC s.size (.ok x r1) = .err 0 := by rw [HW2.out, if_neg hck]
          have HW3 := Lib.hid hw3
          have hck2 : (checkT x == 0) = false := by simpa using hck
          generalize checkT x = ck at hck2
          clear hck hw3
          go_wp2_with fail
          rw [HW.out, HC.out, HW3.out]
          refine ret_tree (ev := .iface 236 (.pointer (some ⟨w4.heap.size, 0, none⟩))) rfl rfl rfl rfl ((((HB5.out.set 0 _).set 1 _).set 2 _).alloc _) ⟨⟨_, w4.heap.size, rfl, ⟨x, ?_⟩, Blk.new_at _ _ _ _ (by simp), by omega⟩, ?_⟩
          · exact ERep.mono (fun k hk => by omega) _ _ (ERep.fr ((fr_store3 w4 w.heap.size _ _ _).alloc _) (fun k _ hk => by have : k = w.heap.size := hk; omega) _ _ HX4.out)
          · exact HF04.out.trans ((fr_store3 w4 w.heap.size _ _ _).alloc _) (fun k hk h => by have : k = w.heap.size := h; omega)
      · have hn : (nextB r1 == 0) = false := by simpa using nextB_pos hnil
        have hw2 : wholeC s.size (.ok x r1) = .err ((s.size : Int) - (skipB r1).length) := by unfold wholeC; exact if_neg hnil
        have HW2 := Lib.hid hw2
        generalize nextB r1 = nb2 at hn
        clear hnil hw2
        go_wp2_with fail
        go_region_with (go_at_call 151; refine (wrong_any g s (skipB r1) _ ?_).mono ?_; exact HT3.out; rintro e w4 ⟨rfl, rfl⟩)
        all_goals go_wp2_with fail
        all_goals rw [HW.out, HC.out, HW2.out]
        all_goals refine ret_tree (ev := .iface 236 (.pointer (some ⟨w3.heap.size, 0, none⟩))) rfl rfl rfl rfl ((((HB4.out.set 0 _).set 1 _).set 2 _).alloc _) ⟨⟨_, w3.heap.size, rfl, ⟨x, ?_⟩, Blk.new_at _ _ _ _ (by simp), by omega⟩, ?_⟩
        all_goals first
          | exact ERep.mono (fun k hk => by omega) _ _ (ERep.fr ((fr_store3 w3 w.heap.size _ _ _).alloc _).drew (fun k _ hk => by have : k = w.heap.size := hk; omega) _ _ HX3.out)
          | exact HF03.out.trans ((fr_store3 w3 w.heap.size _ _ _).alloc _).drew (fun k hk h => by have : k = w.heap.size := h; omega)
end Go.Proofs.YtpmgipgdicaioaaGreatDoor
