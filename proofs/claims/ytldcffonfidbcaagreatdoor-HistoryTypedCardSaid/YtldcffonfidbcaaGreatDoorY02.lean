/- A part of the proof for chapter 10: ExprSome, ExprSmall; no conditions. -/
import Derived.Test.YtldcffonfidbcaaGreatDoorY01
import Derived.Lib.ConvBytes
import Derived.Outline
/- 'some': things of one kind, one behind the other. -/
namespace Go.Proofs.YtldcffonfidbcaaGreatDoor
open Go.RowKit

theorem infoE : (Tryz.prog.info? 82).map (fun i => (i.zero, i.size, i.bytes)) = some (some (.agg #[.int .i64 0, .string ⟨#[]⟩, .slice none 0 0]), 3, 48) := by kernel_rfl

/-- A return of 'some': the three cells of a tree are stored into its result's. -/
theorem some_ret {kind : Int} {g : Nat} {s : ByteArray} {w w1 w4 : World} {v2 : Value} {l : List Tree} {x : Tree} {xc : List Value} {r2 : List UInt8} (h : SomeC kind g s w w1 w4 v2 l x xc r2) (hg : g < w.heap.size)
    (a : Act) (y : Tree) (c0 c1 c2 : Value) (h8 : a.tmps[8]?.getD undef = .pointer (some ⟨w.heap.size, 0, none⟩)) (h9 : a.tmps[9]?.getD undef = .nilIface) (hd : a.defers = [])
    (hy : ERep (fun k => k < w.heap.size + 2) w4 y [c0, c1, c2]) :
    bodyPost Tryz.prog Tryz.f155 (Out g s w (.ok y r2)) .ret a (((w4.setCell ⟨w.heap.size, 0, none⟩ c0).setCell ⟨w.heap.size, 1, none⟩ c1).setCell ⟨w.heap.size, 2, none⟩ c2) := by
  have fw := fr_store3 w4 w.heap.size c0 c1 c2
  have qb := (((h.out.set 0 c0).set 1 c1).set 2 c2)
  have q0 := qb.cell 0
  have q1 := qb.cell 1
  have q2 := qb.cell 2
  simp only [List.set_cons_zero, List.set_cons_succ, List.getElem?_cons_zero, List.getElem?_cons_succ] at q0 q1 q2
  refine bodyPost_ret (v := .tuple #[.agg #[c0, c1, c2], .nilIface]) ?_ hd ⟨[c0, c1, c2], rfl, ?_, ?_, ?_⟩
  · simp [results, go_sem, q0, q1, q2, h8, h9]
  · exact ERep.mono (fun k hk => by omega) _ _ (ERep.fr fw (fun k _ hk => by have : k = w.heap.size := hk; omega) _ _ hy)
  · exact h.text.fr fw (fun h => by have : g = w.heap.size := h; omega)
  · exact h.fr.trans fw (fun k hk h => by have : k = w.heap.size := h; omega)

set_option maxRecDepth 100000 in
set_option maxHeartbeats 4000000 in
theorem some_c (F : List UInt8 → Res) (g b : Nat) (s : ByteArray) (hs : s.size ≤ 200) (hF : Good 3 F) (r0 : List UInt8) (w : World) (hT : Tx w g s r0) (hB : Blk w b [.pointer (some ⟨g, 0, none⟩)] 158) (hgb : g ≠ b)
    (H1 : ∀ w r, r.length ≤ r0.length → Tx w g s r → Calls Tryz.prog 154 #[.pointer (some ⟨g, 0, none⟩)] w (Out g s w (F r)))
    (H2 : ∀ w r, Tx w g s r → Blk w b [.pointer (some ⟨g, 0, none⟩)] 158 → Calls Tryz.prog 156 #[.pointer (some ⟨b, 0, none⟩)] w fun e w' => e = .returned (.bool (moreC r).1) ∧ Tx w' g s (moreC r).2 ∧ Fr (One g) w w') :
    Calls Tryz.prog 155 #[.pointer (some ⟨g, 0, none⟩), .int .i64 3, .func (.func 154) #[.pointer (some ⟨g, 0, none⟩)] #[], .func (.func 156) #[] #[.pointer (some ⟨b, 0, none⟩)]] w
      (Out g s w (someF 3 F moreC (r0.length + 1) [] r0)) := by
  have hgw : g < w.heap.size := hT.1.lt
  have hbw : b < w.heap.size := hB.lt
  have HB := Lib.hid hB
  have HT := Lib.hid hT
  have HF := Lib.hid hF
  have K1 := Lib.hid H1
  have K2 := Lib.hid H2
  clear hB hT hF H1 H2
  go_enter Tryz.func155, Tryz.ntmps155
  go_wp2_with fail
  go_loopg [11] (r0.length) (fun n i wr => ∃ acc r v, i = .int .i64 acc.length ∧ Hid (SomeI 3 F moreC g s w (someF 3 F moreC (r0.length + 1) [] r0) n acc r v wr) ∧ Hid (r.length ≤ r0.length))
  case atStart =>
    refine ⟨[], r0, .slice none 0 0, rfl, ⟨⟨_, Nat.lt_succ_self _, rfl⟩, ?_, ?_, ?_, OwnT.nil _ _ _, ?_, ?_, ?_, rfl⟩, Nat.le_refl _⟩
    · exact HT.out.fr (((Fr.refl Nob w).alloc _).alloc _) (fun h => h)
    · exact (Blk.new w _ _).alloc _
    · exact Blk.new_at _ _ _ _ (by simp)
    · have := HT.out.2.1; simpa using this
    · have := HT.out.2.1; simpa [flatK] using this
    · exact ((Fr.refl _ w).alloc _).alloc _
  case round =>
    obtain ⟨acc, r, v, rfl, HI, HLE⟩ := hrel
    have hfew := HI.out.few
    go_wp2_with fail
    refine (K1.out wr r HLE.out HI.out.text).mono ?_
    rintro e w1 hO
    cases hFr : F r with
    | err r1 =>
      rw [hFr] at hO
      obtain ⟨x, cs, bf, rfl, hx, hbf, hbl, hfr⟩ := hO
      obtain ⟨A, c, css, rfl, hc, hR, hE⟩ := hx.open_
      have HX := Lib.hid hx
      have HR := Lib.hid hR
      have HE := Lib.hid hE
      have HFr := Lib.hid hFr
      have HBf := Lib.hid hbf
      have HFR := Lib.hid hfr
      clear hx hR hE hFr hbf hfr
      have hne : ¬ One g w.heap.size := fun h => by have : w.heap.size = g := h; omega
      have hb0 : Blk w1 w.heap.size _ _ := HI.out.out.fr HFR.out hne
      have c0 := hb0.cell 0
      have c1 := hb0.cell 1
      have c2 := hb0.cell 2
      have f0 := hb0.frozen 0
      have f1 := hb0.frozen 1
      have f2 := hb0.frozen 2
      have hl0 := hb0.lt
      have HB0 := Lib.hid hb0
      clear hb0
      simp only [List.getElem?_cons_zero, List.getElem?_cons_succ] at c0 c1 c2
      go_wp2_with fail
      have hres : someF 3 F moreC (r0.length + 1) [] r0 = .err r1 := by
        obtain ⟨m, hm, hq⟩ := HI.out.run
        cases m with
        | zero => omega
        | succ m => rw [← hq]; simp only [someF, HFr.out]
      rw [hres]
      refine bodyPost_ret (v := .tuple #[.agg #[.int .i64 x.k, .string x.name, .slice A x.l.length c], .iface 163 (.pointer (some ⟨bf, 0, none⟩))]) ?_ rfl ?_
      · have qb := ((((HB0.out.set 0 (.int .i64 x.k)).set 1 (.string x.name)).set 2 (.slice A x.l.length c)).alloc (Obj.cells #[.int .i64 x.k, .string x.name, .slice A x.l.length c] 82))
        have q0 := qb.cell 0
        have q1 := qb.cell 1
        have q2 := qb.cell 2
        simp only [List.set_cons_zero, List.set_cons_succ, List.getElem?_cons_zero, List.getElem?_cons_succ] at q0 q1 q2
        simp [results, go_sem, q0, q1, q2]
      · have fw := (fr_store3 w1 w.heap.size (.int .i64 x.k) (.string x.name) (.slice A x.l.length c)).alloc (Obj.cells #[.int .i64 x.k, .string x.name, .slice A x.l.length c] 82)
        have hsz := HI.out.fr.size
        have hlt := HI.out.e.lt
        refine ⟨x, _, bf, rfl, ?_, ?_, ?_, ?_⟩
        · exact ERep.mono (fun k hk => by omega) _ _ (ERep.fr fw (fun k _ hk => by have : k = w.heap.size := hk; omega) _ _ HX.out)
        · exact HBf.out.fr fw (fun h => by have : bf = w.heap.size := h; omega)
        · omega
        · exact (HI.out.fr.same HFR.out).trans fw (fun k hk h => by have : k = w.heap.size := h; omega)
    | ok x r1 =>
      rw [hFr] at hO
      obtain ⟨cs, rfl, hx, hTx, hfr⟩ := hO
      obtain ⟨A, c, css, rfl, hc, hR, hE⟩ := hx.open_
      obtain ⟨gd1, gd2, gd3⟩ := HF.out r x r1 hFr
      have HX := Lib.hid hx
      have HR := Lib.hid hR
      have HE := Lib.hid hE
      have HFr := Lib.hid hFr
      have HTx := Lib.hid hTx
      have HFR := Lib.hid hfr
      clear hx hR hE hFr hTx hfr
      have hlt := HI.out.e.lt
      have hsz := HI.out.fr.size
      have hb0 : Blk w1 w.heap.size _ _ := HI.out.out.fr HFR.out (fun h => by have : w.heap.size = g := h; omega)
      have hb1 : Blk w1 (w.heap.size + 1) _ _ := HI.out.e.fr HFR.out (fun h => by have : w.heap.size + 1 = g := h; omega)
      have c0 := hb0.cell 0
      have c1 := hb0.cell 1
      have c2 := hb0.cell 2
      have f0 := hb0.frozen 0
      have f1 := hb0.frozen 1
      have f2 := hb0.frozen 2
      have d0 := hb1.cell 0
      have d1 := hb1.cell 1
      have d2 := hb1.cell 2
      have g0 := hb1.frozen 0
      have g1 := hb1.frozen 1
      have g2 := hb1.frozen 2
      have hl1 := hb1.lt
      have HB0 := Lib.hid hb0
      have HB1 := Lib.hid hb1
      clear hb0 hb1
      simp only [List.getElem?_cons_zero, List.getElem?_cons_succ] at c0 c1 c2 d0 d1 d2
      have hol := own_base (HI.out.own.choose_spec.1)
      obtain ⟨i0, hi, hz0, hz1, hz2⟩ := info_parts infoE
      obtain ⟨css0, hown, hrep⟩ := HI.out.own.fr (M' := One g) HFR.out (fun k hk => by have : k = g := hk; omega) (fun k hk h => by have := (hol k hk).1; have : k = g := h; omega)
      have HOL := Lib.hid hol
      have HREP := Lib.hid hrep
      clear hol hrep
      by_cases hk : x.k = 3
      · have hk2 : (x.k == 3) = true := by simpa using hk
        clear hk
        have hne : x.l ≠ [] := gd3 (by simpa using hk2)
        obtain ⟨ad, rfl, hnm, hcs⟩ := HR.out (by intro h; have := EReps.len _ _ HE.out; rw [h] at this; simp only [List.length_nil] at this; exact hne (List.length_eq_zero_iff.1 (by omega)))
        have HC := Lib.hid hcs
        have HNE := Lib.hid hne
        clear hcs hne
        go_wp2_with (at_builtin; refine wpList_append_own_at _ rfl _ _ 80 rfl (w.heap.size + 2) 82 i0 _ 3 48 Tryz.underlying80 hi hz0 hz1 hz2 rfl (by decide) v (flatK 3 acc).length css0 rfl (hown.alloc _) ad x.l.length c css rfl ?c1 ?c2 ?c3 ?c4 ?c5 ?c6 ?_)
        case c1 => exact EReps.len _ _ HE.out
        case c2 =>
          intro j u hj
          exact (((Fr.refl Nob w1).alloc _).cell (by have := cell_lt (HC.out j u hj); exact this) (fun h => h)).trans (HC.out j u hj)
        case c3 => exact EReps.one_cells _ _ HE.out
        case c4 => have := HI.out.few2; unfold maxLen; omega
        case c5 => have := HI.out.few2; omega
        case c6 => simp; omega
        intro v2 w2 hown2 hgr2 _ hat2
        have HA : SomeA w w1 w2 v2 (flatK 3 (acc ++ [x])) x [.int .i64 x.k, .string x.name, .slice (some ad) x.l.length c] := by
          rw [flatK_snoc, if_pos (by simpa using hk2)]
          exact SomeA.of HOL.out HFR.out.size (by omega) ((Fr.refl _ _).alloc _) HREP.out (HE.out.fr0 ((Fr.refl _ _).alloc _)) (Blk.new_at _ _ _ _ rfl) HX.out hown2 hgr2 (by simpa using hat2)
        clear hown2 hgr2 hat2 hown
        obtain ⟨bm, r2, hmr⟩ : ∃ bm r2, moreC r1 = (bm, r2) := ⟨_, _, rfl⟩
        have hml : r2.length ≤ r1.length := by have := moreC_le r1; rw [hmr] at this; exact this
        have hre := HI.out.run
        obtain ⟨A2, cp2, rfl⟩ := HA.own.slice
        have HA2 := Lib.hid HA
        have e1 := HB1.out.fr HA.f (by omega)
        have e2 := e1.cell 2
        have e3 := e1.frozen 2
        have e4 := e1.lt
        clear HA e1
        simp only [List.getElem?_cons_zero, List.getElem?_cons_succ] at e2
        have HMR := Lib.hid hmr
        have HRE := Lib.hid hre
        clear hmr hre
        go_wp2_with fail
        have fs := (Fr.refl (One (w.heap.size + 1)) w2).setCell (p := ⟨w.heap.size + 1, 2, none⟩) (.inl rfl) (.slice A2 (flatK 3 (acc ++ [x])).length cp2)
        refine (K2.out _ r1 ((HTx.out.fr HA2.out.f (by omega)).fr fs (fun h => by have : g = w.heap.size + 1 := h; omega)) ((((HB.out.fr HI.out.fr (fun h => hgb (Eq.symm h))).fr HFR.out (fun h => hgb (Eq.symm h))).fr HA2.out.f (by omega)).fr fs (fun h => by have : b = w.heap.size + 1 := h; omega))).mono ?_
        clear fs
        rw [HMR.out]
        rintro e w4 ⟨rfl, hT4, hF4⟩
        have hcc := SomeC.of HA2.out hgw HB0.out HB1.out (HI.out.fr.same HFR.out) hF4 hT4 (by omega)
        have HCC := Lib.hid hcc
        clear hT4 hF4
        have c0 := hcc.out.cell 0
        have c1 := hcc.out.cell 1
        have c2 := hcc.out.cell 2
        have f0 := hcc.out.frozen 0
        have f1 := hcc.out.frozen 1
        have f2 := hcc.out.frozen 2
        have d0 := hcc.e.cell 0
        have d1 := hcc.e.cell 1
        have d2 := hcc.e.cell 2
        have x0 := hcc.xb.cell 0
        have x1 := hcc.xb.cell 1
        have x2 := hcc.xb.cell 2
        have hl4 := hcc.xb.lt
        clear hcc
        simp only [List.getElem?_cons_zero, List.getElem?_cons_succ] at c0 c1 c2 d0 d1 d2 x0 x1 x2
        cases bm with
        | true =>
          go_wp2_with fail
          go_roundg r2.length
          case measure => have := HI.out.n; omega
          case rel =>
            refine ⟨acc ++ [x], r2, _, by simp, ⟨?_, HCC.out.text, HCC.out.out, HCC.out.e, HCC.out.own, ?_, ?_, HCC.out.fr, rfl⟩, by have := HLE.out; show r2.length ≤ r0.length; omega⟩
            · obtain ⟨m, hm, hq⟩ := HRE.out
              cases m with
              | zero => omega
              | succ m =>
                refine ⟨m, by omega, ?_⟩
                rw [← hq]
                simp only [someF, HFr.out, HMR.out]
            · simp only [List.length_append, List.length_singleton]; omega
            · have := HI.out.few2
              rw [flatK_snoc, List.length_append]
              split
              · omega
              · simp only [List.length_singleton]; omega
        | false =>
          have hres : someF 3 F moreC (r0.length + 1) [] r0 = .ok (joinK 3 (acc ++ [x])) r2 := by
            obtain ⟨m, hm, hq⟩ := HRE.out
            cases m with
            | zero => omega
            | succ m => rw [← hq]; simp only [someF, HFr.out, HMR.out]
          cases acc with
          | nil =>
            have HRS := Lib.hid hres
            clear hres
            go_wp2_with fail
            rw [HRS.out]
            exact some_ret HCC.out hgw _ _ _ _ _ rfl rfl rfl HCC.out.xr
          | cons y l =>
            rw [joinK_more _ _ _ (by simp)] at hres
            have HRS := Lib.hid hres
            clear hres
            go_wp2_with fail
            rw [HRS.out]
            exact some_ret HCC.out hgw _ _ _ _ _ rfl rfl rfl (HCC.out.own.rep (fun k hk h => by obtain ⟨css, ho, _⟩ := HCC.out.own; have := (own_base ho k hk).1; omega) _ _)
      · have hk2 : (x.k == 3) = false := by simpa using hk
        clear hk
        go_wp2_with (at_builtin; refine wpList_append_own_at _ rfl _ _ 80 rfl (w.heap.size + 2) 82 i0 _ 3 48 Tryz.underlying80 hi hz0 hz1 hz2 rfl (by decide) v (flatK 3 acc).length css0 rfl ((hown.alloc _).alloc _) ⟨w1.heap.size + 1, 0, none⟩ 1 1 [.int .i64 x.k, .string x.name, .slice A x.l.length c] rfl ?c1 ?c2 ?c3 ?c4 ?c5 ?c6 ?_)
        case c1 => rfl
        case c2 =>
          intro j u hj
          have hb := ((Blk.new_at (w1.alloc (Obj.cells #[.int .i64 x.k, .string x.name, .slice A x.l.length c] 82)) [.int .i64 x.k, .string x.name, .slice A x.l.length c] 82 (w1.heap.size + 1) (by simp)).cell j).trans hj
          rw [add_lit]
          exact hb
        case c3 => simp [Value.oneCell']
        case c4 => have := HI.out.few2; unfold maxLen; omega
        case c5 => have := HI.out.few2; omega
        case c6 => simp; omega
        intro v2 w2 hown2 hgr2 _ hat2
        have HA : SomeA w w1 w2 v2 (flatK 3 (acc ++ [x])) x [.int .i64 x.k, .string x.name, .slice A x.l.length c] := by
          rw [flatK_snoc, if_neg (by simpa using hk2)]
          exact SomeA.of (l' := [x]) HOL.out HFR.out.size (by omega) (((Fr.refl _ _).alloc _).alloc _) HREP.out (EReps.one (HX.out.fr0 (((Fr.refl _ _).alloc _).alloc _))) ((Blk.new_at _ _ _ _ rfl).alloc _) HX.out hown2 hgr2 (by simpa using hat2)
        clear hown2 hgr2 hat2 hown
        obtain ⟨bm, r2, hmr⟩ : ∃ bm r2, moreC r1 = (bm, r2) := ⟨_, _, rfl⟩
        have hml : r2.length ≤ r1.length := by have := moreC_le r1; rw [hmr] at this; exact this
        have hre := HI.out.run
        obtain ⟨A2, cp2, rfl⟩ := HA.own.slice
        have HA2 := Lib.hid HA
        have e1 := HB1.out.fr HA.f (by omega)
        have e2 := e1.cell 2
        have e3 := e1.frozen 2
        have e4 := e1.lt
        clear HA e1
        simp only [List.getElem?_cons_zero, List.getElem?_cons_succ] at e2
        have HMR := Lib.hid hmr
        have HRE := Lib.hid hre
        clear hmr hre
        go_wp2_with fail
        have fs := (Fr.refl (One (w.heap.size + 1)) w2).setCell (p := ⟨w.heap.size + 1, 2, none⟩) (.inl rfl) (.slice A2 (flatK 3 (acc ++ [x])).length cp2)
        refine (K2.out _ r1 ((HTx.out.fr HA2.out.f (by omega)).fr fs (fun h => by have : g = w.heap.size + 1 := h; omega)) ((((HB.out.fr HI.out.fr (fun h => hgb (Eq.symm h))).fr HFR.out (fun h => hgb (Eq.symm h))).fr HA2.out.f (by omega)).fr fs (fun h => by have : b = w.heap.size + 1 := h; omega))).mono ?_
        clear fs
        rw [HMR.out]
        rintro e w4 ⟨rfl, hT4, hF4⟩
        have hcc := SomeC.of HA2.out hgw HB0.out HB1.out (HI.out.fr.same HFR.out) hF4 hT4 (by omega)
        have HCC := Lib.hid hcc
        clear hT4 hF4
        have c0 := hcc.out.cell 0
        have c1 := hcc.out.cell 1
        have c2 := hcc.out.cell 2
        have f0 := hcc.out.frozen 0
        have f1 := hcc.out.frozen 1
        have f2 := hcc.out.frozen 2
        have d0 := hcc.e.cell 0
        have d1 := hcc.e.cell 1
        have d2 := hcc.e.cell 2
        have x0 := hcc.xb.cell 0
        have x1 := hcc.xb.cell 1
        have x2 := hcc.xb.cell 2
        have hl4 := hcc.xb.lt
        clear hcc
        simp only [List.getElem?_cons_zero, List.getElem?_cons_succ] at c0 c1 c2 d0 d1 d2 x0 x1 x2
        cases bm with
        | true =>
          go_wp2_with fail
          go_roundg r2.length
          case measure => have := HI.out.n; omega
          case rel =>
            refine ⟨acc ++ [x], r2, _, by simp, ⟨?_, HCC.out.text, HCC.out.out, HCC.out.e, HCC.out.own, ?_, ?_, HCC.out.fr, rfl⟩, by have := HLE.out; show r2.length ≤ r0.length; omega⟩
            · obtain ⟨m, hm, hq⟩ := HRE.out
              cases m with
              | zero => omega
              | succ m =>
                refine ⟨m, by omega, ?_⟩
                rw [← hq]
                simp only [someF, HFr.out, HMR.out]
            · simp only [List.length_append, List.length_singleton]; omega
            · have := HI.out.few2
              rw [flatK_snoc, List.length_append]
              split
              · omega
              · simp only [List.length_singleton]; omega
        | false =>
          have hres : someF 3 F moreC (r0.length + 1) [] r0 = .ok (joinK 3 (acc ++ [x])) r2 := by
            obtain ⟨m, hm, hq⟩ := HRE.out
            cases m with
            | zero => omega
            | succ m => rw [← hq]; simp only [someF, HFr.out, HMR.out]
          cases acc with
          | nil =>
            have HRS := Lib.hid hres
            clear hres
            go_wp2_with fail
            rw [HRS.out]
            exact some_ret HCC.out hgw _ _ _ _ _ rfl rfl rfl HCC.out.xr
          | cons y l =>
            rw [joinK_more _ _ _ (by simp)] at hres
            have HRS := Lib.hid hres
            clear hres
            go_wp2_with fail
            rw [HRS.out]
            exact some_ret HCC.out hgw _ _ _ _ _ rfl rfl rfl (HCC.out.own.rep (fun k hk h => by obtain ⟨css, ho, _⟩ := HCC.out.own; have := (own_base ho k hk).1; omega) _ _)
end Go.Proofs.YtldcffonfidbcaaGreatDoor

/- The small functions of the reader: names, signs, faults, the two questions for more. -/
namespace Go.Proofs.YtldcffonfidbcaaGreatDoor
open Go.RowKit

def signI (c : Int) : Int := if c = 42 then 4 else if c = 43 then 5 else if c = 63 then 6 else 0
set_option maxHeartbeats 400000 in
theorem sign_any (c : Int) (w : World) :
    Calls Tryz.prog 181 #[.int .u8 c] w fun e w' => e = .returned (.int .i64 (signI c)) ∧ w = w' := by
  unfold signI
  go_enter Tryz.func181, Tryz.ntmps181
  go_wp2
  all_goals (go_ret; refine ⟨?_, rfl⟩; simp_all)

set_option maxHeartbeats 1000000 in
theorem wrong_any (g : Nat) (s : ByteArray) (r : List UInt8) (w : World) (hT : Tx w g s r) :
    Calls Tryz.prog 120 #[.pointer (some ⟨g, 0, none⟩)] w fun e w' => e = .returned (.iface 163 (.pointer (some ⟨w.heap.size, 0, none⟩))) ∧ w' = w.alloc (.cells #[.int .i64 ((s.size : Int) - r.length), .iface 25 (.int .i64 4)] 167) := by
  have c1 := hT.ci
  have HT := Lib.hid hT
  clear hT
  go_enter Tryz.func120, Tryz.ntmps120
  go_wp2
  go_ret
  exact ⟨rfl, rfl⟩

def nameB (l : List UInt8) : Bool := l.all letter && !l.isEmpty
theorem letter_nat (c : UInt8) : letter c = (decide (97 ≤ c.toNat) && decide (c.toNat ≤ 122)) := by
  simp [letter, UInt8.le_iff_toNat_le]

theorem nameB_no {l : List UInt8} {k : Nat} {c : UInt8} (h : l.take (k + 1) = l.take k ++ [c]) (hc : letter c = false) : nameB l = false := by
  have : l.all letter = false := by
    rw [← List.take_append_drop (k + 1) l, h]
    simp [hc]
  simp [nameB, this]
set_option maxRecDepth 100000 in
set_option maxHeartbeats 2000000 in
theorem name_any (s : ByteArray) (hs : s.size ≤ 4611686018427387904) (w : World) :
    Calls Tryz.prog 83 #[.string s] w fun e w' => e = .returned (.bool (nameB s.data.toList)) ∧ Fr Nob w w' := by
  have hcv := fun w => Lib.run_convert_string_bytes (P := Tryz.prog) w 9 47 5 s Tryz.underlying9 Tryz.underlying47 Tryz.underlying5
  go_enter Tryz.func83, Tryz.ntmps83
  go_wp2_with fail
  have HCV := Lib.hid hcv
  clear hcv
  generalize hW : Lib.bytesWorld w 5 s = W
  have hFW : Fr Nob w W := by
    subst hW
    exact ⟨rfl, rfl, rfl, by rw [Lib.bytesWorld_size]; omega, fun k hk _ => Lib.bytesWorld_at_old _ _ _ _ hk⟩
  have hcell : ∀ j, j < s.size → W.cell? ⟨w.heap.size, j, none⟩ = some (.int .u8 (s.data.toList.getD j 0).toNat) := by
    subst hW
    exact fun j hj => Lib.bytesWorld_cell _ _ _ _ hj
  have HC := Lib.hid hcell
  clear hW hcell
  generalize grownCap w s.size 0 5 = cap
  go_loop [8] (fun i => ∃ k : Nat, k ≤ s.size ∧ i = .int .i64 k ∧ Hid ((s.data.toList.take k).all letter = true)) (fun i => s.size - (intOf i).toNat)
  case atStart => exact ⟨0, Nat.zero_le _, rfl, by simp [Hid]⟩
  case round =>
    obtain ⟨k, hk, rfl, HA⟩ := hrel
    by_cases hlt : k < s.size
    · have hc := HC.out k hlt
      have hlen : s.data.toList.length = s.size := by simp
      have hget : s.data.toList.getD k 0 = s.data.toList[k]'(by omega) := by simp [List.getD, hlt]
      have hb := (s.data.toList.getD k 0).toNat_lt
      have HG : s.data.toList.take (k + 1) = s.data.toList.take k ++ [s.data.toList.getD k 0] := by rw [hget]; exact List.take_succ_eq_append_getElem (by omega)
      have HG2 := Lib.hid HG
      clear HG hget hlen
      generalize s.data.toList.getD k 0 = c at hc hb HG2
      by_cases h1 : c.toNat < 97
      · go_wp2
        go_ret
        refine ⟨?_, hFW⟩
        rw [nameB_no HG2.out (by rw [letter_nat]; simp; omega)]
        rfl
      · by_cases h2 : 122 < c.toNat
        · go_wp2
          go_ret
          refine ⟨?_, hFW⟩
          rw [nameB_no HG2.out (by rw [letter_nat]; simp; omega)]
          rfl
        · go_wp2
          go_round
          case rel => exact ⟨k + 1, by omega, by go_num, by rw [Hid, HG2.out]; have := HA.out; simp [this, letter_nat]; omega⟩
          case measure => simp [intOf]; omega
    · go_wp2
      go_ret
      refine ⟨?_, hFW⟩
      have hlen : s.data.toList.length = s.size := by simp
      have ha : s.data.toList.all letter = true := by have := HA.out; rwa [List.take_of_length_le (by omega)] at this
      simp only [nameB, ha, Bool.true_and]
      simp [ByteArray.toList_eq]

theorem nextB_eq {r : List UInt8} {c : UInt8} {t : List UInt8} (h : skipB r = c :: t) (hc : c.toNat ≠ 0) : nextB r = c.toNat := by
  unfold nextB; rw [h]; simp [hc]
theorem nextB_nil {r : List UInt8} (h : skipB r = []) : nextB r = 0 := by unfold nextB; rw [h]
theorem nextB_ne {r : List UInt8} {c : UInt8} {t : List UInt8} (h : skipB r = c :: t) (n : Nat) (hn : 1 < n) (hc : c.toNat ≠ n) : nextB r ≠ (n : Int) := by
  unfold nextB; rw [h]; simp only []; split <;> omega

set_option maxRecDepth 100000 in
set_option maxHeartbeats 2000000 in
theorem choice1_any (g b : Nat) (s : ByteArray) (hs : s.size ≤ 4611686018427387904) (r : List UInt8) (w : World) (hT : Tx w g s r) (hB : Blk w b [.pointer (some ⟨g, 0, none⟩)] 158) (hgb : g ≠ b) :
    Calls Tryz.prog 156 #[.pointer (some ⟨b, 0, none⟩)] w fun e w' => e = .returned (.bool (moreC r).1) ∧ Tx w' g s (moreC r).2 ∧ Fr (One g) w w' := by
  have b0 := hB.cell 0
  simp only [List.getElem?_cons_zero] at b0
  have HT := Lib.hid hT
  have HB := Lib.hid hB
  clear hT hB
  go_enter Tryz.func156, Tryz.ntmps156
  go_wp2_with fail
  refine (next_any g s hs r w HT.out).mono ?_
  rintro e w1 ⟨rfl, hT1, hF1⟩
  have c1 := hT1.ci
  have f1 := hT1.fz 1
  have b1 : w1.cell? ⟨b, 0, none⟩ = some (.pointer (some ⟨g, 0, none⟩)) := (hF1.cell (p := ⟨b, 0, none⟩) HB.out.lt (fun h => hgb (Eq.symm h))).trans b0
  have HF := Lib.hid hF1
  have hl := hT1.2.1
  have HT1 := Lib.hid hT1
  clear hT1 hF1 b0
  cases hsk : skipB r with
  | nil =>
    have hn : nextB r = 0 := nextB_nil hsk
    have hm : moreC r = (false, []) := by unfold moreC; rw [hsk]
    have HM := Lib.hid hm
    have HS := Lib.hid hsk
    rw [hn]
    clear hm hsk hn
    go_wp2_with fail
    go_ret
    rw [HM.out]
    exact ⟨rfl, by have := HT1.out; rwa [HS.out] at this, HF.out⟩
  | cons c t =>
    by_cases hc : c = 124
    · subst hc
      have hn : nextB r = 124 := nextB_eq hsk (by decide)
      have hm : moreC r = (true, t) := by unfold moreC; rw [hsk]; rfl
      have HM := Lib.hid hm
      have HS := Lib.hid hsk
      rw [hn]
      rw [hsk] at c1 hl
      simp only [List.length_cons] at c1 hl
      have e : ((s.size : Int) - ((t.length + 1 : Nat) : Int)) = ((s.size - (t.length + 1) : Nat) : Int) := by omega
      rw [e] at c1
      clear hm hsk hn e
      go_wp2_with fail
      go_ret
      rw [HM.out]
      have hT2 := HT1.out
      rw [HS.out] at hT2
      exact ⟨rfl, hT2.step _ (by omega), HF.out.setCell (p := ⟨g, 1, none⟩) (.inl rfl) _⟩
    · have hn : (nextB r == 124) = false := by
        have := nextB_ne hsk 124 (by omega) (fun h => hc (UInt8.toNat_inj.1 h))
        simpa using this
      have hm : moreC r = (false, c :: t) := by
        unfold moreC
        rw [hsk]
        split
        · rename_i heq; injection heq with h1 _; exact absurd h1 hc
        · rfl
      have HM := Lib.hid hm
      have HS := Lib.hid hsk
      clear hm hsk hc
      go_wp2_with fail
      go_ret
      rw [HM.out]
      exact ⟨rfl, by have := HT1.out; rwa [HS.out] at this, HF.out⟩

set_option maxRecDepth 100000 in
set_option maxHeartbeats 2000000 in
theorem row1_any (g b : Nat) (s : ByteArray) (hs : s.size ≤ 4611686018427387904) (r : List UInt8) (w : World) (hT : Tx w g s r) (hB : Blk w b [.pointer (some ⟨g, 0, none⟩)] 158) :
    Calls Tryz.prog 175 #[.pointer (some ⟨b, 0, none⟩)] w fun e w' => e = .returned (.bool (moreR r).1) ∧ Tx w' g s (moreR r).2 ∧ Fr (One g) w w' := by
  have b0 := hB.cell 0
  simp only [List.getElem?_cons_zero] at b0
  have HT := Lib.hid hT
  clear hT hB
  go_enter Tryz.func175, Tryz.ntmps175
  go_wp2_with fail
  refine (next_any g s hs r w HT.out).mono ?_
  rintro e w1 ⟨rfl, hT1, hF1⟩
  have HF := Lib.hid hF1
  have HT1 := Lib.hid hT1
  clear hT1 hF1 b0
  cases hsk : skipB r with
  | nil =>
    have hn : nextB r = 0 := nextB_nil hsk
    have hm : moreR r = (false, []) := by unfold moreR; rw [hsk]
    have HM := Lib.hid hm
    have HS := Lib.hid hsk
    rw [hn]
    clear hm hsk hn
    go_wp2_with fail
    go_ret
    rw [HM.out]
    exact ⟨rfl, by have := HT1.out; rwa [HS.out] at this, HF.out⟩
  | cons c t =>
    have hm : moreR r = (c != 124 && c != 41, c :: t) := by unfold moreR; rw [hsk]
    have hn0 : (nextB r != 0) = true := by
      unfold nextB; rw [hsk]; simp only []; split <;> simp; omega
    by_cases hc : c = 124
    · subst hc
      have hn : nextB r = 124 := nextB_eq hsk (by decide)
      have HM := Lib.hid hm
      have HS := Lib.hid hsk
      rw [hn]
      clear hm hsk hn hn0
      go_wp2_with fail
      go_ret
      rw [HM.out]
      exact ⟨rfl, by have := HT1.out; rwa [HS.out] at this, HF.out⟩
    · have hn1 : (nextB r != 124) = true := by
        have := nextB_ne hsk 124 (by omega) (fun h => hc (UInt8.toNat_inj.1 h))
        simpa using this
      by_cases hd : c = 41
      · subst hd
        have hn : nextB r = 41 := nextB_eq hsk (by decide)
        have HM := Lib.hid hm
        have HS := Lib.hid hsk
        rw [hn]
        clear hm hsk hn hn0 hn1
        go_wp2_with fail
        go_ret
        rw [HM.out]
        exact ⟨rfl, by have := HT1.out; rwa [HS.out] at this, HF.out⟩
      · have hn2 : (nextB r != 41) = true := by
          have := nextB_ne hsk 41 (by omega) (fun h => hd (UInt8.toNat_inj.1 h))
          simpa using this
        have HM := Lib.hid hm
        have HS := Lib.hid hsk
        have HE := Lib.hid (show (c != 124 && c != 41) = true by simp [hc, hd])
        clear hm hsk hc hd
        go_wp2_with fail
        go_ret
        rw [HM.out, HE.out]
        exact ⟨rfl, by have := HT1.out; rwa [HS.out] at this, HF.out⟩
end Go.Proofs.YtldcffonfidbcaaGreatDoor
