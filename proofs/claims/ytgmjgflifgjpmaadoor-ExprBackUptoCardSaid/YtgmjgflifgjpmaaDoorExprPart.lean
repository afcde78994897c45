/- 'part': an atom, and the signs behind it. -/
import Derived.Test.YtgmjgflifgjpmaaDoorExprAtom
namespace Go.Proofs.YtgmjgflifgjpmaaDoor
open Go.RowKit

/-- What the loop of 'part' holds at a round's head, where the atom is read. -/
structure PartI (g : Nat) (s : ByteArray) (w : World) (b4 : Nat) (x : Tree) (r : List UInt8) (xc : List Value) (wr : World) : Prop where
  text : Tx wr g s r
  out : Blk wr w.heap.size [.int .i64 0, .string ⟨#[]⟩, .slice none 0 0] 24
  xb : Blk wr b4 xc 24
  xr : ERep (fun k => k < w.heap.size + 1 ∨ k = b4) wr x xc
  fr : Fr (One g) w wr

theorem signI_one : signI 1 = 0 := rfl
theorem signI_next {r : List UInt8} {c : UInt8} {t : List UInt8} (h : skipB r = c :: t) : signI (nextB r) = signK c := by
  by_cases hc : c.toNat = 0
  · have : c = 0 := UInt8.toNat_inj.1 hc
    subst this
    unfold nextB; rw [h]; rfl
  · rw [nextB_eq h hc]
    unfold signI signK
    have e : ∀ n : UInt8, ((c.toNat : Int) = (n.toNat : Int)) ↔ c = n := fun n => ⟨fun h => UInt8.toNat_inj.1 (by omega), fun h => by rw [h]⟩
    have e1 := e 42
    have e2 := e 43
    have e3 := e 63
    simp only [show ((42 : UInt8).toNat : Int) = 42 from rfl, show ((43 : UInt8).toNat : Int) = 43 from rfl, show ((63 : UInt8).toNat : Int) = 63 from rfl] at e1 e2 e3
    simp only [e1, e2, e3]

set_option maxRecDepth 100000 in
set_option maxHeartbeats 4000000 in
theorem part_any (C : List UInt8 → Res) (N : Nat) (g : Nat) (s : ByteArray) (hs : s.size ≤ 200) (r0 : List UInt8) (hN : r0.length ≤ N) (w : World) (hT : Tx w g s r0)
    (H1 : ∀ w r, r.length < N → Tx w g s r → Calls Tryd.prog 30 #[.pointer (some ⟨g, 0, none⟩)] w (Out g s w (C r))) :
    Calls Tryd.prog 51 #[.pointer (some ⟨g, 0, none⟩)] w (Out g s w (partF C r0)) := by
  have hgw := hT.1.lt
  have HT := Lib.hid hT
  have K1 := Lib.hid H1
  clear hT H1
  go_enter Tryd.func51, Tryd.ntmps51
  go_wp2_with fail
  refine (atom_any C N g s hs r0 hN _ (HT.out.fr ((Fr.refl Nob w).alloc _) (fun h => h)) K1.out).mono ?_
  rintro e w1 hO
  have hFa := ((Fr.refl (One g) w).alloc (Obj.cells #[.int .i64 0, .string ⟨#[]⟩, .slice none 0 0] 24))
  have HFa := Lib.hid hFa
  have hBa := Blk.new w [.int .i64 0, .string ⟨#[]⟩, .slice none 0 0] 24
  have HBa := Lib.hid hBa
  have hsa : (w.alloc (Obj.cells #[.int .i64 0, .string ⟨#[]⟩, .slice none 0 0] 24)).heap.size = w.heap.size + 1 := by simp
  have HSa := Lib.hid hsa
  clear hFa hBa hsa
  cases hA : atomF C r0 with
  | err r1 =>
    rw [hA] at hO
    obtain ⟨x, cs, bf, rfl, hx, hbf, hbl, hfr⟩ := hO
    obtain ⟨A, c, css, rfl, hc, hR, hE⟩ := hx.open_
    have hb := HBa.out.fr hfr (fun h => by have : w.heap.size = g := h; omega)
    have HX := Lib.hid hx
    have HBf := Lib.hid hbf
    have HFR := Lib.hid hfr
    have HB3 := Lib.hid hb
    have hl1 := hb.lt
    have ha : partF C r0 = .err r1 := by unfold partF; rw [hA]
    have HA := Lib.hid ha
    clear hx hR hE hbf hfr hb hA ha
    have d0 := HB3.out.cell 0
    have d1 := HB3.out.cell 1
    have d2 := HB3.out.cell 2
    have g0 := HB3.out.frozen 0
    have g1 := HB3.out.frozen 1
    have g2 := HB3.out.frozen 2
    simp only [List.getElem?_cons_zero, List.getElem?_cons_succ] at d0 d1 d2
    go_wp2_with fail
    refine wp_loop_rounds 1 ?_
    rw [rounds_succ]
    go_wp2_with fail
    rw [HA.out]
    have hsa := HSa.out
    exact ret_tree (ev := .iface 51 (.pointer (some ⟨bf, 0, none⟩))) rfl rfl rfl rfl ((((HB3.out.set 0 _).set 1 _).set 2 _).alloc _) (Out.err_of HFa.out (by omega) HFR.out HX.out (HBf.out.fr ((fr_store3 w1 w.heap.size _ _ _).alloc _) (fun h => by have : bf = w.heap.size := h; omega)) hbl ((fr_store3 w1 w.heap.size _ _ _).alloc _))
  | ok x0 r1 =>
    rw [hA] at hO
    obtain ⟨cs, rfl, hx, hTx, hfr⟩ := hO
    obtain ⟨A0, c0, css, rfl, hc, hR, hE⟩ := hx.open_
    have hb := HBa.out.fr hfr (fun h => by have : w.heap.size = g := h; omega)
    have hl1 := hb.lt
    have ha : partF C r0 = .ok (signsF (r1.length + 1) x0 r1).1 (signsF (r1.length + 1) x0 r1).2 := by unfold partF; rw [hA]
    have HA := Lib.hid ha
    have hi : PartI g s w w1.heap.size x0 r1 [.int .i64 x0.k, .string x0.name, .slice A0 x0.l.length c0] (w1.alloc (Obj.cells #[.int .i64 x0.k, .string x0.name, .slice A0 x0.l.length c0] 24)) := by
      have fa := (Fr.refl Nob w1).alloc (Obj.cells #[.int .i64 x0.k, .string x0.name, .slice A0 x0.l.length c0] 24)
      refine ⟨hTx.fr fa (fun h => h), hb.fr fa (fun h => h), Blk.new _ _ _, ?_, (HFa.out.same hfr).none fa⟩
      refine ERep.mono (fun k hk => ?_) _ _ (ERep.fr fa (fun _ _ h => h.elim) _ _ (ERep.bound _ _ hx))
      rcases hk with hk | hk
      · left; rw [HSa.out]; exact hk
      · right; omega
    have HI := Lib.hid hi
    clear hx hR hE hfr hb hA ha hi hTx
    go_wp2_with fail
    go_loopg [] (r1.length) (fun n wr => ∃ x r A c m, r.length = n ∧ Hid (PartI g s w w1.heap.size x r [.int .i64 x.k, .string x.name, .slice A x.l.length c] wr) ∧ Hid (r.length < m ∧ signsF m x r = signsF (r1.length + 1) x0 r1))
    case atStart => exact ⟨x0, r1, A0, c0, _, rfl, HI.out, Nat.lt_succ_self _, rfl⟩
    case round =>
      obtain ⟨x, r, A, c, m, rfl, HP, HM⟩ := hrel
      go_wp2_with fail
      refine (next_any g s (by omega) r _ HP.out.text).mono ?_
      rintro e w2 ⟨rfl, hT2, hF2⟩
      have hlw := HP.out.xb.lt
      have hB2 := HP.out.out.fr hF2 (fun h => by have : w.heap.size = g := h; omega)
      have hX2 := HP.out.xb.fr hF2 (fun h => by have : w1.heap.size = g := h; omega)
      have d0 := hB2.cell 0
      have d1 := hB2.cell 1
      have d2 := hB2.cell 2
      have g0 := hB2.frozen 0
      have g1 := hB2.frozen 1
      have g2 := hB2.frozen 2
      have x0' := hX2.cell 0
      have x1' := hX2.cell 1
      have x2' := hX2.cell 2
      have y0 := hX2.frozen 0
      have y1 := hX2.frozen 1
      have y2 := hX2.frozen 2
      have t1 := hT2.ci
      have t2 := hT2.fz 1
      have hl := hT2.2.1
      have hl2 := hX2.lt
      simp only [List.getElem?_cons_zero, List.getElem?_cons_succ] at d0 d1 d2 x0' x1' x2'
      have HT2 := Lib.hid hT2
      have HB2 := Lib.hid hB2
      have HX2 := Lib.hid hX2
      have HF2 := Lib.hid (HP.out.fr.same hF2)
      have HR2 := Lib.hid (ERep.fr hF2 (fun k _ hk => by have : k = g := hk; left; omega) _ _ HP.out.xr)
      clear hT2 hF2 hB2 hX2
      go_wp2_with fail
      refine (sign_any _ _).mono ?_
      rintro e w3 ⟨rfl, rfl⟩
      by_cases hk : signI (nextB r) = 0
      · rw [hk]
        have hs2 : signsF (r1.length + 1) x0 r1 = (x, skipB r) := by
          have := HM.out.2
          rw [← this]
          cases m with
          | zero => have := HM.out.1; omega
          | succ m =>
            unfold signsF
            cases hsk : skipB r with
            | nil => rfl
            | cons c t => rw [signI_next hsk] at hk; simp only [hk, if_true]
        have HS2 := Lib.hid hs2
        clear hk hs2
        go_wp2_with fail
        rw [HA.out, HS2.out]
        refine ret_tree (ev := .nilIface) rfl rfl rfl rfl (((HB2.out.set 0 _).set 1 _).set 2 _) ⟨_, rfl, ?_, ?_, ?_⟩
        · exact ERep.mono (fun k hk => .inl (by omega)) _ _ (ERep.fr (fr_store3 w2 w.heap.size _ _ _) (fun k _ hk => by have : k = w.heap.size := hk; left; omega) _ _ HR2.out)
        · exact HT2.out.fr (fr_store3 w2 w.heap.size _ _ _) (fun h => by have : g = w.heap.size := h; omega)
        · exact HF2.out.trans (fr_store3 w2 w.heap.size _ _ _) (fun k hk h => by have : k = w.heap.size := h; omega)
      · have hk2 : (signI (nextB r) == 0) = false := by simpa using hk
        obtain ⟨c', t, hsk⟩ : ∃ c' t, skipB r = c' :: t := by
          cases hsk : skipB r with
          | nil => rw [nextB_nil hsk] at hk; exact absurd rfl hk
          | cons c t => exact ⟨c, t, rfl⟩
        have HSK := Lib.hid hsk
        rw [hsk] at t1 hl
        obtain ⟨n, hn2⟩ : ∃ n, n = s.size - (c' :: t).length := ⟨_, rfl⟩
        have en : ((s.size : Int) - ((c' :: t).length : Int)) = (n : Int) := by omega
        rw [en] at t1
        have HN := Lib.hid hn2
        have HK := Lib.hid hk
        have hn3 : n + 1 ≤ 200 := by simp only [List.length_cons] at hn2; omega
        clear hn2 en hk hsk
        have hsg := signI_next HSK.out
        have HSG := Lib.hid hsg
        clear hsg
        go_wp2_with fail
        go_roundg t.length
        case measure => have := skipB_le r; rw [HSK.out] at this; simp only [List.length_cons] at this; omega
        case rel =>
          have hT3 := HT2.out
          rw [HSK.out] at hT3
          have hn4 : (n : Int) + 1 = (s.size : Int) - t.length := by have h1 := HN.out; simp only [List.length_cons] at h1 hl; omega
          have hT4 := hT3.step _ hn4
          have f1 := (Fr.refl (One g) w2).setCell (p := ⟨g, 1, none⟩) (.inl rfl) (.int .i64 ((n : Int) + 1))
          have f2 := fr_store3 (w2.setCell ⟨g, 1, none⟩ (.int .i64 ((n : Int) + 1))) w1.heap.size (.int .i64 (signI (nextB r))) (.string ⟨#[]⟩) (.slice (some ⟨w2.heap.size, 0, none⟩) 1 1)
          have f3 := (Fr.refl Nob ((((w2.setCell ⟨g, 1, none⟩ (.int .i64 ((n : Int) + 1))).setCell ⟨w1.heap.size, 0, none⟩ (.int .i64 (signI (nextB r)))).setCell ⟨w1.heap.size, 1, none⟩ (.string ⟨#[]⟩)).setCell ⟨w1.heap.size, 2, none⟩ (.slice (some ⟨w2.heap.size, 0, none⟩) 1 1))).alloc (Obj.cells #[.int .i64 x.k, .string x.name, .slice A x.l.length c] 24)
          refine ⟨.node (signK c') ⟨#[]⟩ [x], t, some ⟨w2.heap.size, 0, none⟩, 1, m - 1, rfl, ⟨?_, ?_, ?_, ?_, ?_⟩, ?_, ?_⟩
          · exact (hT4.fr f2 (fun h => by have : g = w1.heap.size := h; omega)).fr f3 (fun h => h)
          · exact ((HB2.out.fr f1 (fun h => by have : w.heap.size = g := h; omega)).fr f2 (fun h => by have : w.heap.size = w1.heap.size := h; omega)).fr f3 (fun h => h)
          · rw [show (Tree.node (signK c') ⟨#[]⟩ [x]).k = signI (nextB r) from HSG.out.symm]
            exact (((((HX2.out.fr f1 (fun h => by have : w1.heap.size = g := h; omega)).set 0 _).set 1 _).set 2 _).alloc _)
          · have hr := ERep.fr f3 (fun _ _ h => h.elim) _ _ (ERep.fr f2 (fun k _ hk => .inr hk) _ _ (ERep.fr f1 (fun k _ hk => by have : k = g := hk; left; omega) _ _ HR2.out))
            refine ERep.mk (l := [x]) (Nat.le_refl _) ?_ (EReps.one hr)
            refine fun _ => ⟨_, rfl, ?_, fun j u hu => ?_⟩
            · rintro (h | h)
              · have : w2.heap.size < w.heap.size + 1 := h; omega
              · have : w2.heap.size = w1.heap.size := h; omega
            · rw [add_lit]
              exact ((Blk.new_at _ _ _ _ (by simp)).cell j).trans hu
          · exact ((HF2.out.same f1).trans f2 (fun k hk h => by have : k = w1.heap.size := h; omega)).none f3
          · have h1 := HM.out.1
            have h2 := skipB_le r
            rw [HSK.out] at h2
            simp only [List.length_cons] at h2
            omega
          · have h1 := HM.out.1
            rw [← HM.out.2]
            obtain ⟨m', rfl⟩ : ∃ m', m = m' + 1 := ⟨m - 1, by omega⟩
            have hk : ¬ signK c' = 0 := by rw [← HSG.out]; exact HK.out
            simp only [signsF, HSK.out, hk, if_false, Nat.add_sub_cancel]
end Go.Proofs.YtgmjgflifgjpmaaDoor
