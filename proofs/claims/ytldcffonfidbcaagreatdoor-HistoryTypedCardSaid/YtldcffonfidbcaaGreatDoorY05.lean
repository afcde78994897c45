/- A part of the proof for chapter 10: ExprPart, ExprSomeR, ExprChoice, ExprGood, ExprGoodN; no conditions. -/
import Derived.Test.YtldcffonfidbcaaGreatDoorY04
import Derived.Test.YtldcffonfidbcaaGreatDoorY02
import Derived.Test.YtldcffonfidbcaaGreatDoorY03
/- 'part': an atom, and the signs behind it. -/
namespace Go.Proofs.YtldcffonfidbcaaGreatDoor
open Go.RowKit

/-- What the loop of 'part' holds at a round's head, where the atom is read. -/
structure PartI (g : Nat) (s : ByteArray) (w : World) (b4 : Nat) (x : Tree) (r : List UInt8) (xc : List Value) (wr : World) : Prop where
  text : Tx wr g s r
  out : Blk wr w.heap.size [.int .i64 0, .string ⟨#[]⟩, .slice none 0 0] 82
  xb : Blk wr b4 xc 82
  xr : ERep (fun k => k < w.heap.size + 1 ∨ k = b4) wr x xc
  fr : Fr (One g) w wr

theorem signI_next {r : List UInt8} {c : UInt8} {t : List UInt8} (h : skipB r = c :: t) : signI (nextB r) = signK c := by
  by_cases hc : c.toNat = 0
  · have : c = 0 := UInt8.toNat_inj.1 hc
    subst this
    unfold nextB; rw [h]; rfl
  · rw [nextB_eq h hc]
    unfold signI signK
    have e : ∀ n : UInt8, ((c.toNat : Int) = (n.toNat : Int)) ↔ c = n := fun n => ⟨fun h => UInt8.toNat_inj.1 (by omega), fun h => by rw [h]⟩
    have e1 := e 42
    have e2 := e 43
    have e3 := e 63
    simp only [show ((42 : UInt8).toNat : Int) = 42 from rfl, show ((43 : UInt8).toNat : Int) = 43 from rfl, show ((63 : UInt8).toNat : Int) = 63 from rfl] at e1 e2 e3
    simp only [e1, e2, e3]

set_option maxRecDepth 100000 in
set_option maxHeartbeats 4000000 in
theorem part_any (C : List UInt8 → Res) (N : Nat) (g : Nat) (s : ByteArray) (hs : s.size ≤ 200) (r0 : List UInt8) (hN : r0.length ≤ N) (w : World) (hT : Tx w g s r0)
    (H1 : ∀ w r, r.length < N → Tx w g s r → Calls Tryz.prog 119 #[.pointer (some ⟨g, 0, none⟩)] w (Out g s w (C r))) :
    Calls Tryz.prog 174 #[.pointer (some ⟨g, 0, none⟩)] w (Out g s w (partF C r0)) := by
  have hgw := hT.1.lt
  have HT := Lib.hid hT
  have K1 := Lib.hid H1
  clear hT H1
  go_enter Tryz.func174, Tryz.ntmps174
  go_wp2_with fail
  refine (atom_any C N g s hs r0 hN _ (HT.out.fr ((Fr.refl Nob w).alloc _) (fun h => h)) K1.out).mono ?_
  rintro e w1 hO
  have hFa := ((Fr.refl (One g) w).alloc (Obj.cells #[.int .i64 0, .string ⟨#[]⟩, .slice none 0 0] 82))
  have HFa := Lib.hid hFa
  have hBa := Blk.new w [.int .i64 0, .string ⟨#[]⟩, .slice none 0 0] 82
  have HBa := Lib.hid hBa
  have hsa : (w.alloc (Obj.cells #[.int .i64 0, .string ⟨#[]⟩, .slice none 0 0] 82)).heap.size = w.heap.size + 1 := by simp
  have HSa := Lib.hid hsa
  clear hFa hBa hsa
  cases hA : atomF C r0 with
  | err r1 =>
    rw [hA] at hO
    obtain ⟨x, cs, bf, rfl, hx, hbf, hbl, hfr⟩ := hO
    obtain ⟨A, c, css, rfl, hc, hR, hE⟩ := hx.open_
    have hb := HBa.out.fr hfr (fun h => by have : w.heap.size = g := h; omega)
    have HX := Lib.hid hx
    have HBf := Lib.hid hbf
    have HFR := Lib.hid hfr
    have HB3 := Lib.hid hb
    have hl1 := hb.lt
    have ha : partF C r0 = .err r1 := by unfold partF; rw [hA]
    have HA := Lib.hid ha
    clear hx hR hE hbf hfr hb hA ha
    have d0 := HB3.out.cell 0
    have d1 := HB3.out.cell 1
    have d2 := HB3.out.cell 2
    have g0 := HB3.out.frozen 0
    have g1 := HB3.out.frozen 1
    have g2 := HB3.out.frozen 2
    simp only [List.getElem?_cons_zero, List.getElem?_cons_succ] at d0 d1 d2
    go_wp2_with fail
    refine wp_loop_rounds 1 ?_
    rw [rounds_succ]
    go_wp2_with fail
    rw [HA.out]
    have hsa := HSa.out
    exact ret_tree (ev := .iface 163 (.pointer (some ⟨bf, 0, none⟩))) rfl rfl rfl rfl ((((HB3.out.set 0 _).set 1 _).set 2 _).alloc _) (Out.err_of HFa.out (by omega) HFR.out HX.out (HBf.out.fr ((fr_store3 w1 w.heap.size _ _ _).alloc _) (fun h => by have : bf = w.heap.size := h; omega)) hbl ((fr_store3 w1 w.heap.size _ _ _).alloc _))
  | ok x0 r1 =>
    rw [hA] at hO
    obtain ⟨cs, rfl, hx, hTx, hfr⟩ := hO
    obtain ⟨A0, c0, css, rfl, hc, hR, hE⟩ := hx.open_
    have hb := HBa.out.fr hfr (fun h => by have : w.heap.size = g := h; omega)
    have hl1 := hb.lt
    have ha : partF C r0 = .ok (signsF (r1.length + 1) x0 r1).1 (signsF (r1.length + 1) x0 r1).2 := by unfold partF; rw [hA]
    have HA := Lib.hid ha
    have hi : PartI g s w w1.heap.size x0 r1 [.int .i64 x0.k, .string x0.name, .slice A0 x0.l.length c0] (w1.alloc (Obj.cells #[.int .i64 x0.k, .string x0.name, .slice A0 x0.l.length c0] 82)) := by
      have fa := (Fr.refl Nob w1).alloc (Obj.cells #[.int .i64 x0.k, .string x0.name, .slice A0 x0.l.length c0] 82)
      refine ⟨hTx.fr fa (fun h => h), hb.fr fa (fun h => h), Blk.new _ _ _, ?_, (HFa.out.same hfr).none fa⟩
      refine ERep.mono (fun k hk => ?_) _ _ (ERep.fr fa (fun _ _ h => h.elim) _ _ (ERep.bound _ _ hx))
      rcases hk with hk | hk
      · left; rw [HSa.out]; exact hk
      · right; omega
    have HI := Lib.hid hi
    clear hx hR hE hfr hb hA ha hi hTx
    go_wp2_with fail
    go_loopg [] (r1.length) (fun n wr => ∃ x r A c m, r.length = n ∧ Hid (PartI g s w w1.heap.size x r [.int .i64 x.k, .string x.name, .slice A x.l.length c] wr) ∧ Hid (r.length < m ∧ signsF m x r = signsF (r1.length + 1) x0 r1))
    case atStart => exact ⟨x0, r1, A0, c0, _, rfl, HI.out, Nat.lt_succ_self _, rfl⟩
    case round =>
      obtain ⟨x, r, A, c, m, rfl, HP, HM⟩ := hrel
      go_wp2_with fail
      refine (next_any g s (by omega) r _ HP.out.text).mono ?_
      rintro e w2 ⟨rfl, hT2, hF2⟩
      have hlw := HP.out.xb.lt
      have hB2 := HP.out.out.fr hF2 (fun h => by have : w.heap.size = g := h; omega)
      have hX2 := HP.out.xb.fr hF2 (fun h => by have : w1.heap.size = g := h; omega)
      have d0 := hB2.cell 0
      have d1 := hB2.cell 1
      have d2 := hB2.cell 2
      have g0 := hB2.frozen 0
      have g1 := hB2.frozen 1
      have g2 := hB2.frozen 2
      have x0' := hX2.cell 0
      have x1' := hX2.cell 1
      have x2' := hX2.cell 2
      have y0 := hX2.frozen 0
      have y1 := hX2.frozen 1
      have y2 := hX2.frozen 2
      have t1 := hT2.ci
      have t2 := hT2.fz 1
      have hl := hT2.2.1
      have hl2 := hX2.lt
      simp only [List.getElem?_cons_zero, List.getElem?_cons_succ] at d0 d1 d2 x0' x1' x2'
      have HT2 := Lib.hid hT2
      have HB2 := Lib.hid hB2
      have HX2 := Lib.hid hX2
      have HF2 := Lib.hid (HP.out.fr.same hF2)
      have HR2 := Lib.hid (ERep.fr hF2 (fun k _ hk => by have : k = g := hk; left; omega) _ _ HP.out.xr)
      clear hT2 hF2 hB2 hX2
      go_wp2_with fail
      refine (sign_any _ _).mono ?_
      rintro e w3 ⟨rfl, rfl⟩
      by_cases hk : signI (nextB r) = 0
      · rw [hk]
        have hs2 : signsF (r1.length + 1) x0 r1 = (x, skipB r) := by
          have := HM.out.2
          rw [← this]
          cases m with
          | zero => have := HM.out.1; omega
          | succ m =>
            unfold signsF
            cases hsk : skipB r with
            | nil => rfl
            | cons c t => rw [signI_next hsk] at hk; simp only [hk, if_true]
        have HS2 := Lib.hid hs2
        clear hk hs2
        go_wp2_with fail
        rw [HA.out, HS2.out]
        refine ret_tree (ev := .nilIface) rfl rfl rfl rfl (((HB2.out.set 0 _).set 1 _).set 2 _) ⟨_, rfl, ?_, ?_, ?_⟩
        · exact ERep.mono (fun k hk => .inl (by omega)) _ _ (ERep.fr (fr_store3 w2 w.heap.size _ _ _) (fun k _ hk => by have : k = w.heap.size := hk; left; omega) _ _ HR2.out)
        · exact HT2.out.fr (fr_store3 w2 w.heap.size _ _ _) (fun h => by have : g = w.heap.size := h; omega)
        · exact HF2.out.trans (fr_store3 w2 w.heap.size _ _ _) (fun k hk h => by have : k = w.heap.size := h; omega)
      · have hk2 : (signI (nextB r) == 0) = false := by simpa using hk
        obtain ⟨c', t, hsk⟩ : ∃ c' t, skipB r = c' :: t := by
          cases hsk : skipB r with
          | nil => rw [nextB_nil hsk] at hk; exact absurd rfl hk
          | cons c t => exact ⟨c, t, rfl⟩
        have HSK := Lib.hid hsk
        rw [hsk] at t1 hl
        obtain ⟨n, hn2⟩ : ∃ n, n = s.size - (c' :: t).length := ⟨_, rfl⟩
        have en : ((s.size : Int) - ((c' :: t).length : Int)) = (n : Int) := by omega
        rw [en] at t1
        have HN := Lib.hid hn2
        have HK := Lib.hid hk
        have hn3 : n + 1 ≤ 200 := by simp only [List.length_cons] at hn2; omega
        clear hn2 en hk hsk
        have hsg := signI_next HSK.out
        have HSG := Lib.hid hsg
        clear hsg
        go_wp2_with fail
        go_roundg t.length
        case measure => have := skipB_le r; rw [HSK.out] at this; simp only [List.length_cons] at this; omega
        case rel =>
          have hT3 := HT2.out
          rw [HSK.out] at hT3
          have hn4 : (n : Int) + 1 = (s.size : Int) - t.length := by have h1 := HN.out; simp only [List.length_cons] at h1 hl; omega
          have hT4 := hT3.step _ hn4
          have f1 := (Fr.refl (One g) w2).setCell (p := ⟨g, 1, none⟩) (.inl rfl) (.int .i64 ((n : Int) + 1))
          have f2 := fr_store3 (w2.setCell ⟨g, 1, none⟩ (.int .i64 ((n : Int) + 1))) w1.heap.size (.int .i64 (signI (nextB r))) (.string ⟨#[]⟩) (.slice (some ⟨w2.heap.size, 0, none⟩) 1 1)
          have f3 := (Fr.refl Nob ((((w2.setCell ⟨g, 1, none⟩ (.int .i64 ((n : Int) + 1))).setCell ⟨w1.heap.size, 0, none⟩ (.int .i64 (signI (nextB r)))).setCell ⟨w1.heap.size, 1, none⟩ (.string ⟨#[]⟩)).setCell ⟨w1.heap.size, 2, none⟩ (.slice (some ⟨w2.heap.size, 0, none⟩) 1 1))).alloc (Obj.cells #[.int .i64 x.k, .string x.name, .slice A x.l.length c] 82)
          refine ⟨.node (signK c') ⟨#[]⟩ [x], t, some ⟨w2.heap.size, 0, none⟩, 1, m - 1, rfl, ⟨?_, ?_, ?_, ?_, ?_⟩, ?_, ?_⟩
          · exact (hT4.fr f2 (fun h => by have : g = w1.heap.size := h; omega)).fr f3 (fun h => h)
          · exact ((HB2.out.fr f1 (fun h => by have : w.heap.size = g := h; omega)).fr f2 (fun h => by have : w.heap.size = w1.heap.size := h; omega)).fr f3 (fun h => h)
          · rw [show (Tree.node (signK c') ⟨#[]⟩ [x]).k = signI (nextB r) from HSG.out.symm]
            exact (((((HX2.out.fr f1 (fun h => by have : w1.heap.size = g := h; omega)).set 0 _).set 1 _).set 2 _).alloc _)
          · have hr := ERep.fr f3 (fun _ _ h => h.elim) _ _ (ERep.fr f2 (fun k _ hk => .inr hk) _ _ (ERep.fr f1 (fun k _ hk => by have : k = g := hk; left; omega) _ _ HR2.out))
            refine ERep.mk (l := [x]) (Nat.le_refl _) ?_ (EReps.one hr)
            refine fun _ => ⟨_, rfl, ?_, fun j u hu => ?_⟩
            · rintro (h | h)
              · have : w2.heap.size < w.heap.size + 1 := h; omega
              · have : w2.heap.size = w1.heap.size := h; omega
            · rw [add_lit]
              exact ((Blk.new_at _ _ _ _ (by simp)).cell j).trans hu
          · exact ((HF2.out.same f1).trans f2 (fun k hk h => by have : k = w1.heap.size := h; omega)).none f3
          · have h1 := HM.out.1
            have h2 := skipB_le r
            rw [HSK.out] at h2
            simp only [List.length_cons] at h2
            omega
          · have h1 := HM.out.1
            rw [← HM.out.2]
            obtain ⟨m', rfl⟩ : ∃ m', m = m' + 1 := ⟨m - 1, by omega⟩
            have hk : ¬ signK c' = 0 := by rw [← HSG.out]; exact HK.out
            simp only [signsF, HSK.out, hk, if_false, Nat.add_sub_cancel]
end Go.Proofs.YtldcffonfidbcaaGreatDoor

/- 'some' for the parts of a row (written by gen_some.py out of the text for choices). -/
namespace Go.Proofs.YtldcffonfidbcaaGreatDoor
open Go.RowKit

set_option maxRecDepth 100000 in
set_option maxHeartbeats 4000000 in
theorem some_r (F : List UInt8 → Res) (g b : Nat) (s : ByteArray) (hs : s.size ≤ 200) (hF : Good 2 F) (r0 : List UInt8) (w : World) (hT : Tx w g s r0) (hB : Blk w b [.pointer (some ⟨g, 0, none⟩)] 158) (hgb : g ≠ b)
    (H1 : ∀ w r, r.length ≤ r0.length → Tx w g s r → Calls Tryz.prog 174 #[.pointer (some ⟨g, 0, none⟩)] w (Out g s w (F r)))
    (H2 : ∀ w r, Tx w g s r → Blk w b [.pointer (some ⟨g, 0, none⟩)] 158 → Calls Tryz.prog 175 #[.pointer (some ⟨b, 0, none⟩)] w fun e w' => e = .returned (.bool (moreR r).1) ∧ Tx w' g s (moreR r).2 ∧ Fr (One g) w w') :
    Calls Tryz.prog 155 #[.pointer (some ⟨g, 0, none⟩), .int .i64 2, .func (.func 174) #[.pointer (some ⟨g, 0, none⟩)] #[], .func (.func 175) #[] #[.pointer (some ⟨b, 0, none⟩)]] w
      (Out g s w (someF 2 F moreR (r0.length + 1) [] r0)) := by
  have hgw : g < w.heap.size := hT.1.lt
  have hbw : b < w.heap.size := hB.lt
  have HB := Lib.hid hB
  have HT := Lib.hid hT
  have HF := Lib.hid hF
  have K1 := Lib.hid H1
  have K2 := Lib.hid H2
  clear hB hT hF H1 H2
  go_enter Tryz.func155, Tryz.ntmps155
  go_wp2_with fail
  go_loopg [11] (r0.length) (fun n i wr => ∃ acc r v, i = .int .i64 acc.length ∧ Hid (SomeI 2 F moreR g s w (someF 2 F moreR (r0.length + 1) [] r0) n acc r v wr) ∧ Hid (r.length ≤ r0.length))
  case atStart =>
    refine ⟨[], r0, .slice none 0 0, rfl, ⟨⟨_, Nat.lt_succ_self _, rfl⟩, ?_, ?_, ?_, OwnT.nil _ _ _, ?_, ?_, ?_, rfl⟩, Nat.le_refl _⟩
    · exact HT.out.fr (((Fr.refl Nob w).alloc _).alloc _) (fun h => h)
    · exact (Blk.new w _ _).alloc _
    · exact Blk.new_at _ _ _ _ (by simp)
    · have := HT.out.2.1; simpa using this
    · have := HT.out.2.1; simpa [flatK] using this
    · exact ((Fr.refl _ w).alloc _).alloc _
  case round =>
    obtain ⟨acc, r, v, rfl, HI, HLE⟩ := hrel
    have hfew := HI.out.few
    go_wp2_with fail
    refine (K1.out wr r HLE.out HI.out.text).mono ?_
    rintro e w1 hO
    cases hFr : F r with
    | err r1 =>
      rw [hFr] at hO
      obtain ⟨x, cs, bf, rfl, hx, hbf, hbl, hfr⟩ := hO
      obtain ⟨A, c, css, rfl, hc, hR, hE⟩ := hx.open_
      have HX := Lib.hid hx
      have HR := Lib.hid hR
      have HE := Lib.hid hE
      have HFr := Lib.hid hFr
      have HBf := Lib.hid hbf
      have HFR := Lib.hid hfr
      clear hx hR hE hFr hbf hfr
      have hne : ¬ One g w.heap.size := fun h => by have : w.heap.size = g := h; omega
      have hb0 : Blk w1 w.heap.size _ _ := HI.out.out.fr HFR.out hne
      have c0 := hb0.cell 0
      have c1 := hb0.cell 1
      have c2 := hb0.cell 2
      have f0 := hb0.frozen 0
      have f1 := hb0.frozen 1
      have f2 := hb0.frozen 2
      have hl0 := hb0.lt
      have HB0 := Lib.hid hb0
      clear hb0
      simp only [List.getElem?_cons_zero, List.getElem?_cons_succ] at c0 c1 c2
      go_wp2_with fail
      have hres : someF 2 F moreR (r0.length + 1) [] r0 = .err r1 := by
        obtain ⟨m, hm, hq⟩ := HI.out.run
        cases m with
        | zero => omega
        | succ m => rw [← hq]; simp only [someF, HFr.out]
      rw [hres]
      refine bodyPost_ret (v := .tuple #[.agg #[.int .i64 x.k, .string x.name, .slice A x.l.length c], .iface 163 (.pointer (some ⟨bf, 0, none⟩))]) ?_ rfl ?_
      · have qb := ((((HB0.out.set 0 (.int .i64 x.k)).set 1 (.string x.name)).set 2 (.slice A x.l.length c)).alloc (Obj.cells #[.int .i64 x.k, .string x.name, .slice A x.l.length c] 82))
        have q0 := qb.cell 0
        have q1 := qb.cell 1
        have q2 := qb.cell 2
        simp only [List.set_cons_zero, List.set_cons_succ, List.getElem?_cons_zero, List.getElem?_cons_succ] at q0 q1 q2
        simp [results, go_sem, q0, q1, q2]
      · have fw := (fr_store3 w1 w.heap.size (.int .i64 x.k) (.string x.name) (.slice A x.l.length c)).alloc (Obj.cells #[.int .i64 x.k, .string x.name, .slice A x.l.length c] 82)
        have hsz := HI.out.fr.size
        have hlt := HI.out.e.lt
        refine ⟨x, _, bf, rfl, ?_, ?_, ?_, ?_⟩
        · exact ERep.mono (fun k hk => by omega) _ _ (ERep.fr fw (fun k _ hk => by have : k = w.heap.size := hk; omega) _ _ HX.out)
        · exact HBf.out.fr fw (fun h => by have : bf = w.heap.size := h; omega)
        · omega
        · exact (HI.out.fr.same HFR.out).trans fw (fun k hk h => by have : k = w.heap.size := h; omega)
    | ok x r1 =>
      rw [hFr] at hO
      obtain ⟨cs, rfl, hx, hTx, hfr⟩ := hO
      obtain ⟨A, c, css, rfl, hc, hR, hE⟩ := hx.open_
      obtain ⟨gd1, gd2, gd3⟩ := HF.out r x r1 hFr
      have HX := Lib.hid hx
      have HR := Lib.hid hR
      have HE := Lib.hid hE
      have HFr := Lib.hid hFr
      have HTx := Lib.hid hTx
      have HFR := Lib.hid hfr
      clear hx hR hE hFr hTx hfr
      have hlt := HI.out.e.lt
      have hsz := HI.out.fr.size
      have hb0 : Blk w1 w.heap.size _ _ := HI.out.out.fr HFR.out (fun h => by have : w.heap.size = g := h; omega)
      have hb1 : Blk w1 (w.heap.size + 1) _ _ := HI.out.e.fr HFR.out (fun h => by have : w.heap.size + 1 = g := h; omega)
      have c0 := hb0.cell 0
      have c1 := hb0.cell 1
      have c2 := hb0.cell 2
      have f0 := hb0.frozen 0
      have f1 := hb0.frozen 1
      have f2 := hb0.frozen 2
      have d0 := hb1.cell 0
      have d1 := hb1.cell 1
      have d2 := hb1.cell 2
      have g0 := hb1.frozen 0
      have g1 := hb1.frozen 1
      have g2 := hb1.frozen 2
      have hl1 := hb1.lt
      have HB0 := Lib.hid hb0
      have HB1 := Lib.hid hb1
      clear hb0 hb1
      simp only [List.getElem?_cons_zero, List.getElem?_cons_succ] at c0 c1 c2 d0 d1 d2
      have hol := own_base (HI.out.own.choose_spec.1)
      obtain ⟨i0, hi, hz0, hz1, hz2⟩ := info_parts infoE
      obtain ⟨css0, hown, hrep⟩ := HI.out.own.fr (M' := One g) HFR.out (fun k hk => by have : k = g := hk; omega) (fun k hk h => by have := (hol k hk).1; have : k = g := h; omega)
      have HOL := Lib.hid hol
      have HREP := Lib.hid hrep
      clear hol hrep
      by_cases hk : x.k = 2
      · have hk2 : (x.k == 2) = true := by simpa using hk
        clear hk
        have hne : x.l ≠ [] := gd3 (by simpa using hk2)
        obtain ⟨ad, rfl, hnm, hcs⟩ := HR.out (by intro h; have := EReps.len _ _ HE.out; rw [h] at this; simp only [List.length_nil] at this; exact hne (List.length_eq_zero_iff.1 (by omega)))
        have HC := Lib.hid hcs
        have HNE := Lib.hid hne
        clear hcs hne
        go_wp2_with (at_builtin; refine wpList_append_own_at _ rfl _ _ 80 rfl (w.heap.size + 2) 82 i0 _ 3 48 Tryz.underlying80 hi hz0 hz1 hz2 rfl (by decide) v (flatK 2 acc).length css0 rfl (hown.alloc _) ad x.l.length c css rfl ?c1 ?c2 ?c3 ?c4 ?c5 ?c6 ?_)
        case c1 => exact EReps.len _ _ HE.out
        case c2 =>
          intro j u hj
          exact (((Fr.refl Nob w1).alloc _).cell (by have := cell_lt (HC.out j u hj); exact this) (fun h => h)).trans (HC.out j u hj)
        case c3 => exact EReps.one_cells _ _ HE.out
        case c4 => have := HI.out.few2; unfold maxLen; omega
        case c5 => have := HI.out.few2; omega
        case c6 => simp; omega
        intro v2 w2 hown2 hgr2 _ hat2
        have HA : SomeA w w1 w2 v2 (flatK 2 (acc ++ [x])) x [.int .i64 x.k, .string x.name, .slice (some ad) x.l.length c] := by
          rw [flatK_snoc, if_pos (by simpa using hk2)]
          exact SomeA.of HOL.out HFR.out.size (by omega) ((Fr.refl _ _).alloc _) HREP.out (HE.out.fr0 ((Fr.refl _ _).alloc _)) (Blk.new_at _ _ _ _ rfl) HX.out hown2 hgr2 (by simpa using hat2)
        clear hown2 hgr2 hat2 hown
        obtain ⟨bm, r2, hmr⟩ : ∃ bm r2, moreR r1 = (bm, r2) := ⟨_, _, rfl⟩
        have hml : r2.length ≤ r1.length := by have := moreR_le r1; rw [hmr] at this; exact this
        have hre := HI.out.run
        obtain ⟨A2, cp2, rfl⟩ := HA.own.slice
        have HA2 := Lib.hid HA
        have e1 := HB1.out.fr HA.f (by omega)
        have e2 := e1.cell 2
        have e3 := e1.frozen 2
        have e4 := e1.lt
        clear HA e1
        simp only [List.getElem?_cons_zero, List.getElem?_cons_succ] at e2
        have HMR := Lib.hid hmr
        have HRE := Lib.hid hre
        clear hmr hre
        go_wp2_with fail
        have fs := (Fr.refl (One (w.heap.size + 1)) w2).setCell (p := ⟨w.heap.size + 1, 2, none⟩) (.inl rfl) (.slice A2 (flatK 2 (acc ++ [x])).length cp2)
        refine (K2.out _ r1 ((HTx.out.fr HA2.out.f (by omega)).fr fs (fun h => by have : g = w.heap.size + 1 := h; omega)) ((((HB.out.fr HI.out.fr (fun h => hgb (Eq.symm h))).fr HFR.out (fun h => hgb (Eq.symm h))).fr HA2.out.f (by omega)).fr fs (fun h => by have : b = w.heap.size + 1 := h; omega))).mono ?_
        clear fs
        rw [HMR.out]
        rintro e w4 ⟨rfl, hT4, hF4⟩
        have hcc := SomeC.of HA2.out hgw HB0.out HB1.out (HI.out.fr.same HFR.out) hF4 hT4 (by omega)
        have HCC := Lib.hid hcc
        clear hT4 hF4
        have c0 := hcc.out.cell 0
        have c1 := hcc.out.cell 1
        have c2 := hcc.out.cell 2
        have f0 := hcc.out.frozen 0
        have f1 := hcc.out.frozen 1
        have f2 := hcc.out.frozen 2
        have d0 := hcc.e.cell 0
        have d1 := hcc.e.cell 1
        have d2 := hcc.e.cell 2
        have x0 := hcc.xb.cell 0
        have x1 := hcc.xb.cell 1
        have x2 := hcc.xb.cell 2
        have hl4 := hcc.xb.lt
        clear hcc
        simp only [List.getElem?_cons_zero, List.getElem?_cons_succ] at c0 c1 c2 d0 d1 d2 x0 x1 x2
        cases bm with
        | true =>
          go_wp2_with fail
          go_roundg r2.length
          case measure => have := HI.out.n; omega
          case rel =>
            refine ⟨acc ++ [x], r2, _, by simp, ⟨?_, HCC.out.text, HCC.out.out, HCC.out.e, HCC.out.own, ?_, ?_, HCC.out.fr, rfl⟩, by have := HLE.out; show r2.length ≤ r0.length; omega⟩
            · obtain ⟨m, hm, hq⟩ := HRE.out
              cases m with
              | zero => omega
              | succ m =>
                refine ⟨m, by omega, ?_⟩
                rw [← hq]
                simp only [someF, HFr.out, HMR.out]
            · simp only [List.length_append, List.length_singleton]; omega
            · have := HI.out.few2
              rw [flatK_snoc, List.length_append]
              split
              · omega
              · simp only [List.length_singleton]; omega
        | false =>
          have hres : someF 2 F moreR (r0.length + 1) [] r0 = .ok (joinK 2 (acc ++ [x])) r2 := by
            obtain ⟨m, hm, hq⟩ := HRE.out
            cases m with
            | zero => omega
            | succ m => rw [← hq]; simp only [someF, HFr.out, HMR.out]
          cases acc with
          | nil =>
            have HRS := Lib.hid hres
            clear hres
            go_wp2_with fail
            rw [HRS.out]
            exact some_ret HCC.out hgw _ _ _ _ _ rfl rfl rfl HCC.out.xr
          | cons y l =>
            rw [joinK_more _ _ _ (by simp)] at hres
            have HRS := Lib.hid hres
            clear hres
            go_wp2_with fail
            rw [HRS.out]
            exact some_ret HCC.out hgw _ _ _ _ _ rfl rfl rfl (HCC.out.own.rep (fun k hk h => by obtain ⟨css, ho, _⟩ := HCC.out.own; have := (own_base ho k hk).1; omega) _ _)
      · have hk2 : (x.k == 2) = false := by simpa using hk
        clear hk
        go_wp2_with (at_builtin; refine wpList_append_own_at _ rfl _ _ 80 rfl (w.heap.size + 2) 82 i0 _ 3 48 Tryz.underlying80 hi hz0 hz1 hz2 rfl (by decide) v (flatK 2 acc).length css0 rfl ((hown.alloc _).alloc _) ⟨w1.heap.size + 1, 0, none⟩ 1 1 [.int .i64 x.k, .string x.name, .slice A x.l.length c] rfl ?c1 ?c2 ?c3 ?c4 ?c5 ?c6 ?_)
        case c1 => rfl
        case c2 =>
          intro j u hj
          have hb := ((Blk.new_at (w1.alloc (Obj.cells #[.int .i64 x.k, .string x.name, .slice A x.l.length c] 82)) [.int .i64 x.k, .string x.name, .slice A x.l.length c] 82 (w1.heap.size + 1) (by simp)).cell j).trans hj
          rw [add_lit]
          exact hb
        case c3 => simp [Value.oneCell']
        case c4 => have := HI.out.few2; unfold maxLen; omega
        case c5 => have := HI.out.few2; omega
        case c6 => simp; omega
        intro v2 w2 hown2 hgr2 _ hat2
        have HA : SomeA w w1 w2 v2 (flatK 2 (acc ++ [x])) x [.int .i64 x.k, .string x.name, .slice A x.l.length c] := by
          rw [flatK_snoc, if_neg (by simpa using hk2)]
          exact SomeA.of (l' := [x]) HOL.out HFR.out.size (by omega) (((Fr.refl _ _).alloc _).alloc _) HREP.out (EReps.one (HX.out.fr0 (((Fr.refl _ _).alloc _).alloc _))) ((Blk.new_at _ _ _ _ rfl).alloc _) HX.out hown2 hgr2 (by simpa using hat2)
        clear hown2 hgr2 hat2 hown
        obtain ⟨bm, r2, hmr⟩ : ∃ bm r2, moreR r1 = (bm, r2) := ⟨_, _, rfl⟩
        have hml : r2.length ≤ r1.length := by have := moreR_le r1; rw [hmr] at this; exact this
        have hre := HI.out.run
        obtain ⟨A2, cp2, rfl⟩ := HA.own.slice
        have HA2 := Lib.hid HA
        have e1 := HB1.out.fr HA.f (by omega)
        have e2 := e1.cell 2
        have e3 := e1.frozen 2
        have e4 := e1.lt
        clear HA e1
        simp only [List.getElem?_cons_zero, List.getElem?_cons_succ] at e2
        have HMR := Lib.hid hmr
        have HRE := Lib.hid hre
        clear hmr hre
        go_wp2_with fail
        have fs := (Fr.refl (One (w.heap.size + 1)) w2).setCell (p := ⟨w.heap.size + 1, 2, none⟩) (.inl rfl) (.slice A2 (flatK 2 (acc ++ [x])).length cp2)
        refine (K2.out _ r1 ((HTx.out.fr HA2.out.f (by omega)).fr fs (fun h => by have : g = w.heap.size + 1 := h; omega)) ((((HB.out.fr HI.out.fr (fun h => hgb (Eq.symm h))).fr HFR.out (fun h => hgb (Eq.symm h))).fr HA2.out.f (by omega)).fr fs (fun h => by have : b = w.heap.size + 1 := h; omega))).mono ?_
        clear fs
        rw [HMR.out]
        rintro e w4 ⟨rfl, hT4, hF4⟩
        have hcc := SomeC.of HA2.out hgw HB0.out HB1.out (HI.out.fr.same HFR.out) hF4 hT4 (by omega)
        have HCC := Lib.hid hcc
        clear hT4 hF4
        have c0 := hcc.out.cell 0
        have c1 := hcc.out.cell 1
        have c2 := hcc.out.cell 2
        have f0 := hcc.out.frozen 0
        have f1 := hcc.out.frozen 1
        have f2 := hcc.out.frozen 2
        have d0 := hcc.e.cell 0
        have d1 := hcc.e.cell 1
        have d2 := hcc.e.cell 2
        have x0 := hcc.xb.cell 0
        have x1 := hcc.xb.cell 1
        have x2 := hcc.xb.cell 2
        have hl4 := hcc.xb.lt
        clear hcc
        simp only [List.getElem?_cons_zero, List.getElem?_cons_succ] at c0 c1 c2 d0 d1 d2 x0 x1 x2
        cases bm with
        | true =>
          go_wp2_with fail
          go_roundg r2.length
          case measure => have := HI.out.n; omega
          case rel =>
            refine ⟨acc ++ [x], r2, _, by simp, ⟨?_, HCC.out.text, HCC.out.out, HCC.out.e, HCC.out.own, ?_, ?_, HCC.out.fr, rfl⟩, by have := HLE.out; show r2.length ≤ r0.length; omega⟩
            · obtain ⟨m, hm, hq⟩ := HRE.out
              cases m with
              | zero => omega
              | succ m =>
                refine ⟨m, by omega, ?_⟩
                rw [← hq]
                simp only [someF, HFr.out, HMR.out]
            · simp only [List.length_append, List.length_singleton]; omega
            · have := HI.out.few2
              rw [flatK_snoc, List.length_append]
              split
              · omega
              · simp only [List.length_singleton]; omega
        | false =>
          have hres : someF 2 F moreR (r0.length + 1) [] r0 = .ok (joinK 2 (acc ++ [x])) r2 := by
            obtain ⟨m, hm, hq⟩ := HRE.out
            cases m with
            | zero => omega
            | succ m => rw [← hq]; simp only [someF, HFr.out, HMR.out]
          cases acc with
          | nil =>
            have HRS := Lib.hid hres
            clear hres
            go_wp2_with fail
            rw [HRS.out]
            exact some_ret HCC.out hgw _ _ _ _ _ rfl rfl rfl HCC.out.xr
          | cons y l =>
            rw [joinK_more _ _ _ (by simp)] at hres
            have HRS := Lib.hid hres
            clear hres
            go_wp2_with fail
            rw [HRS.out]
            exact some_ret HCC.out hgw _ _ _ _ _ rfl rfl rfl (HCC.out.own.rep (fun k hk h => by obtain ⟨css, ho, _⟩ := HCC.out.own; have := (own_base ho k hk).1; omega) _ _)
end Go.Proofs.YtldcffonfidbcaaGreatDoor

/- 'row' and 'choice', one within the other: by induction on how deep brackets may stand. -/
namespace Go.Proofs.YtldcffonfidbcaaGreatDoor
open Go.RowKit

set_option maxRecDepth 100000 in
set_option maxHeartbeats 4000000 in
theorem row_any (C : List UInt8 → Res) (N : Nat) (g : Nat) (s : ByteArray) (hs : s.size ≤ 200) (hG : Good 2 (partF C)) (r0 : List UInt8) (hN : r0.length ≤ N) (w : World) (hT : Tx w g s r0)
    (H1 : ∀ w r, r.length < N → Tx w g s r → Calls Tryz.prog 119 #[.pointer (some ⟨g, 0, none⟩)] w (Out g s w (C r))) :
    Calls Tryz.prog 154 #[.pointer (some ⟨g, 0, none⟩)] w (Out g s w (rowF C r0)) := by
  have hgw := hT.1.lt
  have HT := Lib.hid hT
  have K1 := Lib.hid H1
  have HG := Lib.hid hG
  clear hT H1 hG
  go_enter Tryz.func154, Tryz.ntmps154
  go_wp2_with fail
  have hFa := ((Fr.refl (One g) w).alloc (Obj.cells #[.pointer (some ⟨g, 0, none⟩)] 158)).alloc (Obj.cells #[.int .i64 0, .string ⟨#[]⟩, .slice none 0 0] 82)
  have hBa := (Blk.new w [.pointer (some ⟨g, 0, none⟩)] 158).alloc (Obj.cells #[.int .i64 0, .string ⟨#[]⟩, .slice none 0 0] 82)
  have hBb := Blk.new_at (w.alloc (Obj.cells #[.pointer (some ⟨g, 0, none⟩)] 158)) [.int .i64 0, .string ⟨#[]⟩, .slice none 0 0] 82 (w.heap.size + 1) (by simp)
  have hsa : ((w.alloc (Obj.cells #[.pointer (some ⟨g, 0, none⟩)] 158)).alloc (Obj.cells #[.int .i64 0, .string ⟨#[]⟩, .slice none 0 0] 82)).heap.size = w.heap.size + 2 := by simp
  have hTa := HT.out.fr (((Fr.refl Nob w).alloc (Obj.cells #[.pointer (some ⟨g, 0, none⟩)] 158)).alloc (Obj.cells #[.int .i64 0, .string ⟨#[]⟩, .slice none 0 0] 82)) (fun h => h)
  have HFa := Lib.hid hFa
  have HBb := Lib.hid hBb
  have HSa := Lib.hid hsa
  have hne : g ≠ w.heap.size := by omega
  have L1 : ∀ w r, r.length ≤ r0.length → Tx w g s r → Calls Tryz.prog 174 #[.pointer (some ⟨g, 0, none⟩)] w (Out g s w (partF C r)) := fun w r hr ht => part_any C N g s hs r (Nat.le_trans hr hN) w ht K1.out
  have L2 : ∀ W r, Tx W g s r → Blk W w.heap.size [.pointer (some ⟨g, 0, none⟩)] 158 → Calls Tryz.prog 175 #[.pointer (some ⟨w.heap.size, 0, none⟩)] W fun e w' => e = .returned (.bool (moreR r).1) ∧ Tx w' g s (moreR r).2 ∧ Fr (One g) W w' := fun W r ht hb => row1_any g w.heap.size s (Nat.le_trans hs (by decide)) r W ht hb
  have KS := some_r (partF C) g w.heap.size s hs HG.out r0 _ hTa hBa hne L1 L2
  rw [show someF 2 (partF C) moreR (r0.length + 1) [] r0 = rowF C r0 from rfl] at KS
  refine KS.mono ?_
  clear KS L1 L2 hne
  clear hFa hBa hBb hsa hTa
  rintro e w1 hO
  cases hA : rowF C r0 with
  | err r1 =>
    rw [hA] at hO
    obtain ⟨x, cs, bf, rfl, hx, hbf, hbl, hfr⟩ := hO
    obtain ⟨A, c, css, rfl, hc, hR, hE⟩ := hx.open_
    have hb := HBb.out.fr hfr (fun h => by have : w.heap.size + 1 = g := h; omega)
    have d0 := hb.cell 0
    have d1 := hb.cell 1
    have d2 := hb.cell 2
    have g0 := hb.frozen 0
    have g1 := hb.frozen 1
    have g2 := hb.frozen 2
    have hl1 := hb.lt
    simp only [List.getElem?_cons_zero, List.getElem?_cons_succ] at d0 d1 d2
    have HX := Lib.hid hx
    have HBf := Lib.hid hbf
    have HFR := Lib.hid hfr
    have HB3 := Lib.hid hb
    have HA := Lib.hid hA
    clear hx hR hE hbf hfr hb hA
    go_wp2_with fail
    rw [HA.out]
    have hsa := HSa.out
    refine ret_tree (ev := .iface 163 (.pointer (some ⟨bf, 0, none⟩))) rfl rfl rfl rfl (((HB3.out.set 0 _).set 1 _).set 2 _) ⟨x, _, bf, rfl, ?_, ?_, ?_, ?_⟩
    · exact ERep.mono (fun k hk => by omega) _ _ (ERep.fr (fr_store3 w1 (w.heap.size + 1) _ _ _) (fun k _ hk => by have : k = w.heap.size + 1 := hk; omega) _ _ HX.out)
    · exact HBf.out.fr (fr_store3 w1 (w.heap.size + 1) _ _ _) (fun h => by have : bf = w.heap.size + 1 := h; omega)
    · omega
    · exact (HFa.out.same HFR.out).trans (fr_store3 w1 (w.heap.size + 1) _ _ _) (fun k hk h => by have : k = w.heap.size + 1 := h; omega)
  | ok x r1 =>
    rw [hA] at hO
    obtain ⟨cs, rfl, hx, hTx, hfr⟩ := hO
    obtain ⟨A, c, css, rfl, hc, hR, hE⟩ := hx.open_
    have hb := HBb.out.fr hfr (fun h => by have : w.heap.size + 1 = g := h; omega)
    have d0 := hb.cell 0
    have d1 := hb.cell 1
    have d2 := hb.cell 2
    have g0 := hb.frozen 0
    have g1 := hb.frozen 1
    have g2 := hb.frozen 2
    have hl1 := hb.lt
    simp only [List.getElem?_cons_zero, List.getElem?_cons_succ] at d0 d1 d2
    have HX := Lib.hid hx
    have HTx := Lib.hid hTx
    have HFR := Lib.hid hfr
    have HB3 := Lib.hid hb
    have HA := Lib.hid hA
    clear hx hR hE hTx hfr hb hA
    go_wp2_with fail
    rw [HA.out]
    have hsa := HSa.out
    refine ret_tree (ev := .nilIface) rfl rfl rfl rfl (((HB3.out.set 0 _).set 1 _).set 2 _) ⟨_, rfl, ?_, ?_, ?_⟩
    · exact ERep.mono (fun k hk => by omega) _ _ (ERep.fr (fr_store3 w1 (w.heap.size + 1) _ _ _) (fun k _ hk => by have : k = w.heap.size + 1 := hk; omega) _ _ HX.out)
    · exact HTx.out.fr (fr_store3 w1 (w.heap.size + 1) _ _ _) (fun h => by have : g = w.heap.size + 1 := h; omega)
    · exact (HFa.out.same HFR.out).trans (fr_store3 w1 (w.heap.size + 1) _ _ _) (fun k hk h => by have : k = w.heap.size + 1 := h; omega)
set_option maxRecDepth 100000 in
set_option maxHeartbeats 4000000 in
theorem choice_step (n : Nat) (g : Nat) (s : ByteArray) (hs : s.size ≤ 200) (hG : Good 3 (rowF (choiceF n))) (r0 : List UInt8) (hN : r0.length ≤ n) (w : World) (hT : Tx w g s r0)
    (H1 : ∀ w r, r.length ≤ n → Tx w g s r → Calls Tryz.prog 154 #[.pointer (some ⟨g, 0, none⟩)] w (Out g s w (rowF (choiceF n) r))) :
    Calls Tryz.prog 119 #[.pointer (some ⟨g, 0, none⟩)] w (Out g s w (choiceF (n + 1) r0)) := by
  have hgw := hT.1.lt
  have HT := Lib.hid hT
  have K1 := Lib.hid H1
  have HG := Lib.hid hG
  clear hT H1 hG
  go_enter Tryz.func119, Tryz.ntmps119
  go_wp2_with fail
  have hFa := ((Fr.refl (One g) w).alloc (Obj.cells #[.pointer (some ⟨g, 0, none⟩)] 158)).alloc (Obj.cells #[.int .i64 0, .string ⟨#[]⟩, .slice none 0 0] 82)
  have hBa := (Blk.new w [.pointer (some ⟨g, 0, none⟩)] 158).alloc (Obj.cells #[.int .i64 0, .string ⟨#[]⟩, .slice none 0 0] 82)
  have hBb := Blk.new_at (w.alloc (Obj.cells #[.pointer (some ⟨g, 0, none⟩)] 158)) [.int .i64 0, .string ⟨#[]⟩, .slice none 0 0] 82 (w.heap.size + 1) (by simp)
  have hsa : ((w.alloc (Obj.cells #[.pointer (some ⟨g, 0, none⟩)] 158)).alloc (Obj.cells #[.int .i64 0, .string ⟨#[]⟩, .slice none 0 0] 82)).heap.size = w.heap.size + 2 := by simp
  have hTa := HT.out.fr (((Fr.refl Nob w).alloc (Obj.cells #[.pointer (some ⟨g, 0, none⟩)] 158)).alloc (Obj.cells #[.int .i64 0, .string ⟨#[]⟩, .slice none 0 0] 82)) (fun h => h)
  have HFa := Lib.hid hFa
  have HBb := Lib.hid hBb
  have HSa := Lib.hid hsa
  have hne : g ≠ w.heap.size := by omega
  have L1 : ∀ w r, r.length ≤ r0.length → Tx w g s r → Calls Tryz.prog 154 #[.pointer (some ⟨g, 0, none⟩)] w (Out g s w (rowF (choiceF n) r)) := fun w r hr ht => K1.out w r (Nat.le_trans hr hN) ht
  have L2 : ∀ W r, Tx W g s r → Blk W w.heap.size [.pointer (some ⟨g, 0, none⟩)] 158 → Calls Tryz.prog 156 #[.pointer (some ⟨w.heap.size, 0, none⟩)] W fun e w' => e = .returned (.bool (moreC r).1) ∧ Tx w' g s (moreC r).2 ∧ Fr (One g) W w' := fun W r ht hb => choice1_any g w.heap.size s (Nat.le_trans hs (by decide)) r W ht hb hne
  have KS := some_c (rowF (choiceF n)) g w.heap.size s hs HG.out r0 _ hTa hBa hne L1 L2
  rw [show someF 3 (rowF (choiceF n)) moreC (r0.length + 1) [] r0 = choiceF (n + 1) r0 from rfl] at KS
  refine KS.mono ?_
  clear KS L1 L2 hne
  clear hFa hBa hBb hsa hTa
  rintro e w1 hO
  cases hA : choiceF (n + 1) r0 with
  | err r1 =>
    rw [hA] at hO
    obtain ⟨x, cs, bf, rfl, hx, hbf, hbl, hfr⟩ := hO
    obtain ⟨A, c, css, rfl, hc, hR, hE⟩ := hx.open_
    have hb := HBb.out.fr hfr (fun h => by have : w.heap.size + 1 = g := h; omega)
    have d0 := hb.cell 0
    have d1 := hb.cell 1
    have d2 := hb.cell 2
    have g0 := hb.frozen 0
    have g1 := hb.frozen 1
    have g2 := hb.frozen 2
    have hl1 := hb.lt
    simp only [List.getElem?_cons_zero, List.getElem?_cons_succ] at d0 d1 d2
    have HX := Lib.hid hx
    have HBf := Lib.hid hbf
    have HFR := Lib.hid hfr
    have HB3 := Lib.hid hb
    have HA := Lib.hid hA
    clear hx hR hE hbf hfr hb hA
    go_wp2_with fail
    rw [HA.out]
    have hsa := HSa.out
    refine ret_tree (ev := .iface 163 (.pointer (some ⟨bf, 0, none⟩))) rfl rfl rfl rfl (((HB3.out.set 0 _).set 1 _).set 2 _) ⟨x, _, bf, rfl, ?_, ?_, ?_, ?_⟩
    · exact ERep.mono (fun k hk => by omega) _ _ (ERep.fr (fr_store3 w1 (w.heap.size + 1) _ _ _) (fun k _ hk => by have : k = w.heap.size + 1 := hk; omega) _ _ HX.out)
    · exact HBf.out.fr (fr_store3 w1 (w.heap.size + 1) _ _ _) (fun h => by have : bf = w.heap.size + 1 := h; omega)
    · omega
    · exact (HFa.out.same HFR.out).trans (fr_store3 w1 (w.heap.size + 1) _ _ _) (fun k hk h => by have : k = w.heap.size + 1 := h; omega)
  | ok x r1 =>
    rw [hA] at hO
    obtain ⟨cs, rfl, hx, hTx, hfr⟩ := hO
    obtain ⟨A, c, css, rfl, hc, hR, hE⟩ := hx.open_
    have hb := HBb.out.fr hfr (fun h => by have : w.heap.size + 1 = g := h; omega)
    have d0 := hb.cell 0
    have d1 := hb.cell 1
    have d2 := hb.cell 2
    have g0 := hb.frozen 0
    have g1 := hb.frozen 1
    have g2 := hb.frozen 2
    have hl1 := hb.lt
    simp only [List.getElem?_cons_zero, List.getElem?_cons_succ] at d0 d1 d2
    have HX := Lib.hid hx
    have HTx := Lib.hid hTx
    have HFR := Lib.hid hfr
    have HB3 := Lib.hid hb
    have HA := Lib.hid hA
    clear hx hR hE hTx hfr hb hA
    go_wp2_with fail
    rw [HA.out]
    have hsa := HSa.out
    refine ret_tree (ev := .nilIface) rfl rfl rfl rfl (((HB3.out.set 0 _).set 1 _).set 2 _) ⟨_, rfl, ?_, ?_, ?_⟩
    · exact ERep.mono (fun k hk => by omega) _ _ (ERep.fr (fr_store3 w1 (w.heap.size + 1) _ _ _) (fun k _ hk => by have : k = w.heap.size + 1 := hk; omega) _ _ HX.out)
    · exact HTx.out.fr (fr_store3 w1 (w.heap.size + 1) _ _ _) (fun h => by have : g = w.heap.size + 1 := h; omega)
    · exact (HFa.out.same HFR.out).trans (fr_store3 w1 (w.heap.size + 1) _ _ _) (fun k hk h => by have : k = w.heap.size + 1 := h; omega)

/-- What is known of the readers as plain functions. -/
def Goods : Prop := ∀ n, Good 2 (partF (choiceF n)) ∧ Good 3 (rowF (choiceF n))
/-- 'choice', however deep brackets stand. -/
theorem choice_any (HG : Goods) (g : Nat) (s : ByteArray) (hs : s.size ≤ 200) : ∀ (n : Nat) (r0 : List UInt8) (w : World), r0.length < n → Tx w g s r0 →
    Calls Tryz.prog 119 #[.pointer (some ⟨g, 0, none⟩)] w (Out g s w (choiceF n r0)) := by
  intro n
  induction n with
  | zero => intro r0 w h; omega
  | succ n ih =>
    intro r0 w h hT
    exact choice_step n g s hs (HG n).2 r0 (Nat.lt_succ_iff.1 h) w hT (fun w r hr ht => row_any (choiceF n) n g s hs (HG n).1 r hr w ht (fun w r hr ht => ih r w hr ht))
end Go.Proofs.YtldcffonfidbcaaGreatDoor

/- The readers as plain functions: each eats something; a tree has no more parts than were eaten. -/
namespace Go.Proofs.YtldcffonfidbcaaGreatDoor

def GoodA (F : List UInt8 → Res) : Prop := ∀ r x r1, F r = .ok x r1 → r1.length < r.length ∧ x.l.length + r1.length ≤ r.length ∧ (x.k = 2 ∨ x.k = 3 → x.l ≠ [])
theorem GoodA.good {F : List UInt8 → Res} (h : GoodA F) (kind : Int) (hk : kind = 2 ∨ kind = 3) : Good kind F := fun r x r1 e => by
  obtain ⟨a, b, c⟩ := h r x r1 e
  exact ⟨a, b, fun hx => c (by rw [hx]; exact hk)⟩
theorem flatK_ne {kind : Int} (hk : kind = 2 ∨ kind = 3) (acc : List Tree) (x : Tree) (hx : x.k = 2 ∨ x.k = 3 → x.l ≠ []) : flatK kind (acc ++ [x]) ≠ [] := by
  rw [flatK_snoc]
  split
  · rename_i h
    have := hx (by rw [h]; exact hk)
    intro hh
    exact this (List.append_eq_nil_iff.1 hh).2
  · simp
theorem someF_good {kind : Int} (hk : kind = 2 ∨ kind = 3) {F : List UInt8 → Res} {G : List UInt8 → Bool × List UInt8} (hF : GoodA F) (hG : ∀ r, (G r).2.length ≤ r.length) :
    ∀ (n : Nat) (acc : List Tree) (r : List UInt8) (x : Tree) (r1 : List UInt8), someF kind F G n acc r = .ok x r1 →
      r1.length < r.length ∧ (acc = [] ∨ True) ∧ x.l.length + r1.length ≤ (flatK kind acc).length + r.length ∧ (x.k = 2 ∨ x.k = 3 → x.l ≠ []) := by
  intro n
  induction n with
  | zero => intro acc r x r1 h; simp [someF] at h
  | succ n ih =>
    intro acc r x r1 h
    unfold someF at h
    cases hf : F r with
    | err q => rw [hf] at h; cases h
    | ok y q =>
      rw [hf] at h
      obtain ⟨h1, h2, h3⟩ := hF r y q hf
      have h4 := hG q
      cases hg : G q with
      | mk b q2 =>
        simp only [hg] at h
        rw [hg] at h4
        have hfl : (flatK kind (acc ++ [y])).length + q.length ≤ (flatK kind acc).length + r.length := by
          rw [flatK_snoc, List.length_append]
          split
          · omega
          · simp only [List.length_singleton]; omega
        cases b with
        | false =>
          simp only [Res.ok.injEq] at h
          obtain ⟨rfl, rfl⟩ := h
          simp only at h4
          cases acc with
          | nil =>
            rw [List.nil_append, joinK_one]
            refine ⟨by omega, .inr trivial, ?_, h3⟩
            simp [flatK]; omega
          | cons z l =>
            rw [joinK_more kind (z :: l) y (by simp)]
            exact ⟨by omega, .inr trivial, by show (flatK kind (z :: l ++ [y])).length + _ ≤ _; omega, fun _ => flatK_ne hk (z :: l) y h3⟩
        | true =>
          simp only at h h4
          obtain ⟨a, _, c, d⟩ := ih _ _ _ _ h
          exact ⟨by omega, .inr trivial, by omega, d⟩
theorem signsF_good : ∀ (n : Nat) (e : Tree) (r : List UInt8), (signsF n e r).2.length ≤ r.length ∧ (signsF n e r).1.l.length + (signsF n e r).2.length ≤ e.l.length + r.length ∧ ((e.k = 2 ∨ e.k = 3 → e.l ≠ []) → (signsF n e r).1.k = 2 ∨ (signsF n e r).1.k = 3 → (signsF n e r).1.l ≠ []) := by
  intro n
  induction n with
  | zero => intro e r; exact ⟨Nat.le_refl _, Nat.le_refl _, fun h => h⟩
  | succ n ih =>
    intro e r
    have hs := skipB_le r
    unfold signsF
    split
    · rename_i h
      refine ⟨by simp, by simp, fun h => h⟩
    · rename_i c t h
      rw [h] at hs
      split
      · exact ⟨hs, Nat.add_le_add_left hs _, fun h => h⟩
      · obtain ⟨a, b, d⟩ := ih (.node (signK c) ⟨#[]⟩ [e]) t
        simp only [List.length_cons] at hs
        refine ⟨by omega, ?_, fun _ => d (fun _ => by simp [Tree.l])⟩
        have : (Tree.node (signK c) ⟨#[]⟩ [e]).l.length = 1 := rfl
        omega
theorem closeF_ok {R : Res} {x : Tree} {r1 : List UInt8} (h : closeF R = .ok x r1) : ∃ q, R = .ok x q ∧ skipB q = 41 :: r1 := by
  unfold closeF at h
  split at h
  · cases h
  · rename_i e r
    split at h
    · rename_i t hq
      simp only [Res.ok.injEq] at h
      obtain ⟨rfl, rfl⟩ := h
      exact ⟨r, rfl, hq⟩
    · cases h
theorem atomF_good {C : List UInt8 → Res} (hC : GoodA C) : GoodA (atomF C) := by
  intro r x r1 h
  have hs := skipB_le r
  unfold atomF at h
  split at h
  · rename_i t hq
    rw [hq] at hs
    obtain ⟨q, h1, h2⟩ := closeF_ok h
    obtain ⟨a, b, c⟩ := hC _ _ _ h1
    have h3 := skipB_le q
    rw [h2] at h3
    simp only [List.length_cons] at hs h3
    exact ⟨by omega, by omega, c⟩
  · split at h
    · cases h
    · rename_i hne
      simp only [Res.ok.injEq] at h
      obtain ⟨rfl, rfl⟩ := h
      have h1 : (List.takeWhile letter (skipB r)).length + (List.dropWhile letter (skipB r)).length = (skipB r).length := by
        rw [← List.length_append, List.takeWhile_append_dropWhile]
      have h2 : 0 < (List.takeWhile letter (skipB r)).length := List.length_pos_iff.2 hne
      refine ⟨by omega, ?_, fun h => by rcases h with h | h <;> cases h⟩
      show 0 + _ ≤ _
      omega
theorem partF_good {C : List UInt8 → Res} (hC : GoodA C) : GoodA (partF C) := by
  intro r x r1 h
  unfold partF at h
  split at h
  · cases h
  · rename_i e q hq
    obtain ⟨a, b, c⟩ := atomF_good hC _ _ _ hq
    simp only [Res.ok.injEq] at h
    obtain ⟨rfl, rfl⟩ := h
    obtain ⟨a', b', c'⟩ := signsF_good (q.length + 1) e q
    exact ⟨by omega, by omega, c' c⟩
theorem rowF_good {C : List UInt8 → Res} (hC : GoodA C) : GoodA (rowF C) := by
  intro r x r1 h
  obtain ⟨a, _, b, c⟩ := someF_good (.inl rfl) (partF_good hC) moreR_le _ _ _ _ _ h
  exact ⟨a, by simpa [flatK] using b, c⟩
theorem choiceF_good : ∀ n, GoodA (choiceF n)
  | 0 => by intro r x r1 h; cases h
  | n + 1 => by
    intro r x r1 h
    obtain ⟨a, _, b, c⟩ := someF_good (.inr rfl) (rowF_good (choiceF_good n)) moreC_le _ _ _ _ _ h
    exact ⟨a, by simpa [flatK] using b, c⟩
theorem goods : Goods := fun n => ⟨(partF_good (choiceF_good n)).good 2 (.inl rfl), (rowF_good (choiceF_good n)).good 3 (.inr rfl)⟩
end Go.Proofs.YtldcffonfidbcaaGreatDoor

/- How large what is read is: no more trees than twice the letters, no more letters in names than letters. -/
namespace Go.Proofs.YtldcffonfidbcaaGreatDoor
def Few (F : List UInt8 → Res) : Prop := ∀ r x r1, F r = .ok x r1 → x.count + 1 + 2 * r1.length ≤ 2 * r.length ∧ x.bytes + r1.length ≤ r.length
theorem countL_append (a b : List Tree) : countL (a ++ b) = countL a + countL b := by
  induction a with
  | nil => simp [countL]
  | cons x a ih => simp only [List.cons_append, countL, ih]; omega
theorem bytesL_append (a b : List Tree) : bytesL (a ++ b) = bytesL a + bytesL b := by
  induction a with
  | nil => simp [bytesL]
  | cons x a ih => simp only [List.cons_append, bytesL, ih]; omega
theorem flatK_few (kind : Int) (l : List Tree) : countL (flatK kind l) ≤ countL l ∧ bytesL (flatK kind l) ≤ bytesL l := by
  induction l with
  | nil => simp [flatK]
  | cons x l ih =>
    have e : flatK kind (x :: l) = (if x.k = kind then x.l else [x]) ++ flatK kind l := by simp [flatK]
    have h1 := count_eq x
    have h2 := bytes_eq x
    rw [e, countL_append, bytesL_append]
    simp only [countL, bytesL]
    split
    · omega
    · simp only [countL, bytesL]; omega
theorem someF_few {kind : Int} {F : List UInt8 → Res} {G : List UInt8 → Bool × List UInt8} (hF : Few F) (hG : ∀ r, (G r).2.length ≤ r.length) :
    ∀ (n : Nat) (acc : List Tree) (r : List UInt8) (x : Tree) (r1 : List UInt8), someF kind F G n acc r = .ok x r1 →
      x.count + 1 + 2 * r1.length ≤ countL acc + acc.length + 2 * r.length ∧ x.bytes + r1.length ≤ bytesL acc + r.length := by
  intro n
  induction n with
  | zero => intro acc r x r1 h; simp [someF] at h
  | succ n ih =>
    intro acc r x r1 h
    unfold someF at h
    cases hf : F r with
    | err q => rw [hf] at h; cases h
    | ok y q =>
      rw [hf] at h
      obtain ⟨h1, h2⟩ := hF r y q hf
      have h4 := hG q
      cases hg : G q with
      | mk b q2 =>
        simp only [hg] at h
        rw [hg] at h4
        cases b with
        | false =>
          simp only [Res.ok.injEq] at h
          obtain ⟨rfl, rfl⟩ := h
          simp only at h4
          cases acc with
          | nil =>
            rw [List.nil_append, joinK_one]
            simp only [countL, bytesL, List.length_nil]
            omega
          | cons z l =>
            rw [joinK_more kind (z :: l) y (by simp)]
            have hk := flatK_few kind (z :: l ++ [y])
            rw [countL_append, bytesL_append] at hk
            simp only [countL, bytesL] at hk
            have e1 : (Tree.node kind ⟨#[]⟩ (flatK kind (z :: l ++ [y]))).count = countL (flatK kind (z :: l ++ [y])) + 1 := by simp only [Tree.count]
            have e2 : (Tree.node kind ⟨#[]⟩ (flatK kind (z :: l ++ [y]))).bytes = bytesL (flatK kind (z :: l ++ [y])) := by rw [bytes_eq]; rfl
            rw [e1, e2]
            simp only [countL, bytesL, List.length_cons]
            omega
        | true =>
          simp only at h h4
          have := ih _ _ _ _ h
          rw [countL_append, bytesL_append] at this
          simp only [countL, bytesL, List.length_append, List.length_cons, List.length_nil] at this
          omega
theorem signsF_few : ∀ (n : Nat) (e : Tree) (r : List UInt8), (signsF n e r).1.count + 2 * (signsF n e r).2.length ≤ e.count + 2 * r.length ∧ (signsF n e r).1.bytes + (signsF n e r).2.length ≤ e.bytes + r.length := by
  intro n
  induction n with
  | zero => intro e r; exact ⟨Nat.le_refl _, Nat.le_refl _⟩
  | succ n ih =>
    intro e r
    have hs := skipB_le r
    unfold signsF
    split
    · rename_i h
      simp
    · rename_i c t h
      rw [h] at hs
      simp only [List.length_cons] at hs
      split
      · simp only [List.length_cons]; omega
      · have := ih (.node (signK c) ⟨#[]⟩ [e]) t
        have e1 : (Tree.node (signK c) ⟨#[]⟩ [e]).count = e.count + 1 := by simp [Tree.count, countL]
        have e2 : (Tree.node (signK c) ⟨#[]⟩ [e]).bytes = e.bytes := by rw [bytes_eq]; simp [Tree.l, Tree.name, bytesL]; rfl
        rw [e1, e2] at this
        omega
theorem atomF_few {C : List UInt8 → Res} (hC : Few C) : Few (atomF C) := by
  intro r x r1 h
  have hs := skipB_le r
  unfold atomF at h
  split at h
  · rename_i t hq
    rw [hq] at hs
    obtain ⟨q, h1, h2⟩ := closeF_ok h
    have := hC _ _ _ h1
    have h3 := skipB_le q
    rw [h2] at h3
    simp only [List.length_cons] at hs h3
    omega
  · split at h
    · cases h
    · rename_i hne
      simp only [Res.ok.injEq] at h
      obtain ⟨rfl, rfl⟩ := h
      have h1 : (List.takeWhile letter (skipB r)).length + (List.dropWhile letter (skipB r)).length = (skipB r).length := by
        rw [← List.length_append, List.takeWhile_append_dropWhile]
      have h2 : 0 < (List.takeWhile letter (skipB r)).length := List.length_pos_iff.2 hne
      have e1 : (Tree.node 1 ⟨(List.takeWhile letter (skipB r)).toArray⟩ []).count = 1 := by simp [Tree.count, countL]
      have e2 : (Tree.node 1 ⟨(List.takeWhile letter (skipB r)).toArray⟩ []).bytes = (List.takeWhile letter (skipB r)).length := by rw [bytes_eq]; simp [Tree.l, Tree.name, bytesL, ByteArray.size]
      rw [e1, e2]
      omega
theorem partF_few {C : List UInt8 → Res} (hC : Few C) : Few (partF C) := by
  intro r x r1 h
  unfold partF at h
  split at h
  · cases h
  · rename_i e q hq
    have h1 := atomF_few hC _ _ _ hq
    simp only [Res.ok.injEq] at h
    obtain ⟨rfl, rfl⟩ := h
    have h2 := signsF_few (q.length + 1) e q
    omega
theorem rowF_few {C : List UInt8 → Res} (hC : Few C) : Few (rowF C) := by
  intro r x r1 h
  have := someF_few (partF_few hC) moreR_le _ _ _ _ _ h
  simpa [countL, bytesL] using this
theorem choiceF_few : ∀ n, Few (choiceF n)
  | 0 => by intro r x r1 h; cases h
  | n + 1 => by
    intro r x r1 h
    have := someF_few (rowF_few (choiceF_few n)) moreC_le _ _ _ _ _ h
    simpa [countL, bytesL] using this
end Go.Proofs.YtldcffonfidbcaaGreatDoor
