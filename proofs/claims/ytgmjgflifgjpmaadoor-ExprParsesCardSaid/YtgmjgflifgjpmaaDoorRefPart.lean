/- The reference's 'part'. -/
import Derived.Test.YtgmjgflifgjpmaaDoorRefAlt
import Derived.Test.YtgmjgflifgjpmaaDoorExprAtom
import Derived.Test.YtgmjgflifgjpmaaDoorExprPart
namespace Go.Proofs.YtgmjgflifgjpmaaDoor
open Go.RowKit
/-- What the loop of 'part' holds at a round's head. -/
structure RPartI (g : Nat) (s : ByteArray) (w : World) (B : Nat) (x : Tree) (r : List UInt8) (xc : List Value) (wr : World) : Prop where
  text : TxR wr g s r false
  out : Blk wr w.heap.size [.int .i64 0, .string ⟨#[]⟩, .slice none 0 0] 24
  xb : Blk wr B xc 24
  xr : ERep (fun k => k < w.heap.size + 1 ∨ k = B) wr x xc
  fr : Fr (One g) w wr
set_option maxRecDepth 100000 in
set_option maxHeartbeats 4000000 in
theorem refpart_any (C : List UInt8 → Res) (hG : GoodA C) (hS : ∀ r q, C r = .err q → skipB q = q) (g : Nat) (s : ByteArray) (hs : s.size ≤ 200) (r0 : List UInt8) (w : World) (hT : TxR w g s r0 false)
    (H1 : ∀ w r, r.length < r0.length → TxR w g s r false → Calls Tryd.prog 21 #[.pointer (some ⟨g, 0, none⟩)] w (OutR g s w (r.length + 1) r.length (C r))) :
    Calls Tryd.prog 47 #[.pointer (some ⟨g, 0, none⟩)] w (OutR g s w r0.length r0.length (partF C r0)) := by
  have hgw := hT.1.lt
  have HN0 := Lib.hid (Nat.le_trans hT.2.1 hs)
  have HT := Lib.hid hT
  have K1 := Lib.hid H1
  have HG := Lib.hid hG
  have HSK := Lib.hid hS
  clear hT H1 hG hS
  go_enter Tryd.func47, Tryd.ntmps47
  go_wp2_with fail
  refine (peek_any g s (by omega) r0 false _ (HT.out.fr ((Fr.refl Nob w).alloc _) (fun h => h))).mono ?_
  rintro e w1 ⟨rfl, hT1, hF1⟩
  rw [show peekB false r0 = nextB r0 from rfl]
  have HT1 := Lib.hid hT1
  have hb0 := (Blk.new w [.int .i64 0, .string ⟨#[]⟩, .slice none 0 0] 24).fr hF1 (fun h => by have : w.heap.size = g := h; omega)
  have HB0 := Lib.hid hb0
  have HF1 := Lib.hid (((Fr.refl (One g) w).alloc (.cells #[.int .i64 0, .string ⟨#[]⟩, .slice none 0 0] 24)).same hF1)
  clear hF1
  by_cases hp : ∃ t, skipB r0 = 40 :: t
  · obtain ⟨t, hsk⟩ := hp
    have ha : atomF C r0 = closeF (C t) := by unfold atomF; rw [hsk]; rfl
    have hlt : t.length < r0.length := by have := skipB_le r0; rw [hsk] at this; simp only [List.length_cons] at this; omega
    rw [nextB_eq hsk (by decide)]
    rw [hsk] at hT1
    have c1 := hT1.ci
    have f1 := hT1.fz 1
    have hlg := hT1.1.lt
    have hl := hT1.2.1
    have hTs := hT1.step ((s.size : Int) - t.length) rfl
    simp only [List.length_cons] at c1 hl
    have e1 : ((s.size : Int) - ((t.length + 1 : Nat) : Int)) = ((s.size - (t.length + 1) : Nat) : Int) := by omega
    have e2 : ((s.size : Int) - (t.length : Int)) = ((s.size - (t.length + 1) : Nat) : Int) + 1 := by omega
    rw [e1] at c1
    rw [e2] at hTs
    have HA := Lib.hid ha
    have HTS := Lib.hid hTs
    clear hT1 ha hsk hTs e1 e2 hb0
    go_wp2_with fail
    have hfs : Fr (One g) w1 (w1.setCell ⟨g, 1, none⟩ (.int .i64 (((s.size - (t.length + 1) : Nat) : Int) + 1))) := (Fr.refl (One g) w1).setCell (p := ⟨g, 1, none⟩) (.inl rfl) _
    have HFS := Lib.hid hfs
    have hsz : (w1.setCell ⟨g, 1, none⟩ (.int .i64 (((s.size - (t.length + 1) : Nat) : Int) + 1))).heap.size = w1.heap.size := by simp [World.setCell]
    generalize hws : w1.setCell ⟨g, 1, none⟩ (.int .i64 (((s.size - (t.length + 1) : Nat) : Int) + 1)) = ws at HFS HTS hsz
    clear hws hfs c1 f1
    refine (K1.out (ws.alloc (.cells #[.int .i64 0, .string ⟨#[]⟩, .slice none 0 0] 24)) t hlt (HTS.out.fr ((Fr.refl Nob ws).alloc _) (fun h => h))).mono ?_
    rintro e w2 hO
    have hout : ∃ x A c q b, e = .returned (.agg #[.int .i64 x.k, .string x.name, .slice A x.l.length c]) ∧ ERep (fun k => k < w1.heap.size + 1) w2 x [.int .i64 x.k, .string x.name, .slice A x.l.length c] ∧ TxR w2 g s q b ∧ Fr (One g) (ws.alloc (.cells #[.int .i64 0, .string ⟨#[]⟩, .slice none 0 0] 24)) w2 ∧ x.l.length + q.length ≤ t.length + 1 ∧ q.length ≤ t.length ∧ (x.k = 2 ∨ x.k = 3 → x.l ≠ []) ∧ (b = true → C t = .err q ∧ skipB q = q) ∧ (b = false → C t = .ok x q) := by
      have hs1 : (ws.alloc (.cells #[.int .i64 0, .string ⟨#[]⟩, .slice none 0 0] 24)).heap.size = w1.heap.size + 1 := by simp [hsz]
      cases hC : C t with
      | err q =>
        rw [hC] at hO
        obtain ⟨x, cs, rfl, hx, hTx, hfr, b1, b2, b3⟩ := hO
        rw [hs1] at hx
        obtain ⟨A, c, css, rfl, _, _, _⟩ := hx.open_
        exact ⟨x, A, c, q, true, rfl, hx, hTx, hfr, b1, b3, b2, fun _ => ⟨rfl, HSK.out t q hC⟩, fun h => by cases h⟩
      | ok x q =>
        rw [hC] at hO
        obtain ⟨cs, rfl, hx, hTx, hfr⟩ := hO
        rw [hs1] at hx
        obtain ⟨A, c, css, rfl, _, _, _⟩ := hx.open_
        obtain ⟨a1, a2, a3⟩ := HG.out t x q hC
        exact ⟨x, A, c, q, false, rfl, hx, hTx, hfr, by omega, by omega, a3, fun h => (by cases h), fun _ => rfl⟩
    obtain ⟨x0, A0, c0, q, b, rfl, hx, hTx, hfr, l1, l2, hgood, p1, p2⟩ := hout
    clear hO
    have hbe := (Blk.new ws [.int .i64 0, .string ⟨#[]⟩, .slice none 0 0] 24).fr hfr (fun h => by have : ws.heap.size = g := h; omega)
    rw [hsz] at hbe
    have hbo := ((HB0.out.fr HFS.out (fun h => by have : w.heap.size = g := h; omega)).alloc (.cells #[.int .i64 0, .string ⟨#[]⟩, .slice none 0 0] 24)).fr hfr (fun h => by have : w.heap.size = g := h; omega)
    have d0 := hbe.cell 0
    have d1 := hbe.cell 1
    have d2 := hbe.cell 2
    have g0 := hbe.frozen 0
    have g1 := hbe.frozen 1
    have g2 := hbe.frozen 2
    have hlbe := hbe.lt
    simp only [List.getElem?_cons_zero, List.getElem?_cons_succ] at d0 d1 d2
    have hgB : g < w1.heap.size := hlg
    have hoB : w.heap.size < w1.heap.size := HB0.out.lt
    have HX := Lib.hid hx
    have HBE := Lib.hid hbe
    have HBO := Lib.hid hbo
    have HTX := Lib.hid hTx
    have HP := Lib.hid (And.intro l1 (And.intro l2 (And.intro hgood (And.intro p1 p2))))
    have hF2 : Fr (One g) w w2 := ((HF1.out.same HFS.out).alloc _).same hfr
    have HF2 := Lib.hid hF2
    clear hx hbe hbo hTx l1 l2 hgood p1 p2 hF2 hfr
    go_wp2_with fail
    have fe := fr_store3 w2 w1.heap.size (.int .i64 x0.k) (.string x0.name) (.slice A0 x0.l.length c0)
    have FE := Lib.hid fe
    refine (peek_any g s (by omega) q b _ (HTX.out.fr fe (fun h => by have : g = w1.heap.size := h; omega))).mono ?_
    rintro e w3 ⟨rfl, hT3, hF3⟩
    clear fe d0 d1 d2 g0 g1 g2
    have HF3 := Lib.hid hF3
    have HT3 := Lib.hid hT3
    have be3 := (((HBE.out.set 0 (.int .i64 x0.k)).set 1 (.string x0.name)).set 2 (.slice A0 x0.l.length c0)).fr hF3 (fun h => by have : w1.heap.size = g := h; omega)
    have bo3 := (HBO.out.fr FE.out (fun h => by have : w.heap.size = w1.heap.size := h; omega)).fr hF3 (fun h => by have : w.heap.size = g := h; omega)
    have d0 := be3.cell 0
    have d1 := be3.cell 1
    have d2 := be3.cell 2
    have g0 := be3.frozen 0
    have g1 := be3.frozen 1
    have g2 := be3.frozen 2
    have a0 := bo3.cell 0
    have a1 := bo3.cell 1
    have a2 := bo3.cell 2
    have b0 := bo3.frozen 0
    have b1 := bo3.frozen 1
    have b2 := bo3.frozen 2
    have e2 := hT3.cb
    have f2 := hT3.fz 2
    have hl3 := be3.lt
    have ho3 := bo3.lt
    have hg3 := hT3.1.lt
    simp only [List.set_cons_zero, List.set_cons_succ, List.getElem?_cons_zero, List.getElem?_cons_succ] at d0 d1 d2 a0 a1 a2
    have hX3 := ERep.mono (M' := fun k => k < w1.heap.size) (fun k hk => by have : k < w1.heap.size := hk; show k < w1.heap.size + 1; omega) _ _ (ERep.fr hF3 (fun k _ hk => by have : k = g := hk; show k < w1.heap.size + 1; omega) _ _ (ERep.fr FE.out (fun k _ hk => by have : k = w1.heap.size := hk; show k < w1.heap.size + 1; omega) _ _ HX.out))
    have HX3 := Lib.hid hX3
    have HBO3 := Lib.hid bo3
    have HBE3 := Lib.hid be3
    have hF23 : Fr (One g) w w3 := (HF2.out.trans FE.out (fun k hk h => by have : k = w1.heap.size := h; have := HF1.out.size; omega)).same hF3
    have HF23 := Lib.hid hF23
    clear hF3 hT3 be3 bo3 hX3 hF23
    have hneg : w.heap.size ≠ g := by omega
    have hneB : w.heap.size ≠ w1.heap.size := by omega
    have hnegB : w1.heap.size ≠ g := by omega
    by_cases hok : b = false ∧ ∃ tq, skipB q = 41 :: tq
    · obtain ⟨rfl, tq, hsk2⟩ := hok
      rw [show peekB false q = nextB q from rfl, nextB_eq hsk2 (by decide)]
      have hat : atomF C r0 = .ok x0 tq := by
        rw [HA.out, HP.out.2.2.2.2 rfl, closeF_of hsk2, if_pos rfl]
      have hT4 := HT3.out
      rw [hsk2] at hT4
      have c1 := hT4.ci
      have f1 := hT4.fz 1
      have hl4 := hT4.2.1
      have hTs := hT4.step ((s.size : Int) - tq.length) rfl
      simp only [List.length_cons] at c1 hl4
      have e1 : ((s.size : Int) - ((tq.length + 1 : Nat) : Int)) = ((s.size - (tq.length + 1) : Nat) : Int) := by omega
      have e3 : ((s.size : Int) - (tq.length : Int)) = ((s.size - (tq.length + 1) : Nat) : Int) + 1 := by omega
      rw [e1] at c1
      rw [e3] at hTs
      have hq2 := skipB_le q
      rw [hsk2] at hq2
      simp only [List.length_cons] at hq2
      have hft : Fr (One g) w3 (w3.setCell ⟨g, 1, none⟩ (.int .i64 (((s.size - (tq.length + 1) : Nat) : Int) + 1))) := (Fr.refl (One g) w3).setCell (p := ⟨g, 1, none⟩) (.inl rfl) _
      have hi : RPartI g s w w1.heap.size x0 tq [.int .i64 x0.k, .string x0.name, .slice A0 x0.l.length c0] (w3.setCell ⟨g, 1, none⟩ (.int .i64 (((s.size - (tq.length + 1) : Nat) : Int) + 1))) := by
        refine ⟨hTs, HBO3.out.fr hft (fun h => hneg h), HBE3.out.fr hft (fun h => hnegB h), ?_, HF23.out.same hft⟩
        have h1 := ERep.fr hft (M := fun k => k < w1.heap.size + 1) (fun k _ hk => by have : k = g := hk; show k < w1.heap.size + 1; omega) _ _ (ERep.fr HF3.out (fun k _ hk => by have : k = g := hk; show k < w1.heap.size + 1; omega) _ _ (ERep.fr FE.out (fun k _ hk => by have : k = w1.heap.size := hk; show k < w1.heap.size + 1; omega) _ _ HX.out))
        exact ERep.mono (fun k hk => by rcases hk with hk | hk <;> (show k < w1.heap.size + 1) <;> omega) _ _ h1
      have HI := Lib.hid hi
      have HAT := Lib.hid hat
      clear hi hat hTs hT4 hft e1 e3 hsk2
      go_wp2_with fail
      have hres : partF C r0 = .ok (signsF (tq.length + 1) x0 tq).1 (signsF (tq.length + 1) x0 tq).2 := by unfold partF; rw [HAT.out]
      have HRES := Lib.hid hres
      clear hres
      go_loopg [] (tq.length) (fun n wr => ∃ x r A c m, r.length = n ∧ Hid (RPartI g s w w1.heap.size x r [.int .i64 x.k, .string x.name, .slice A x.l.length c] wr) ∧ Hid (r.length < m ∧ signsF m x r = signsF (tq.length + 1) x0 tq))
      case atStart => exact ⟨x0, tq, A0, c0, _, rfl, HI.out, Nat.lt_succ_self _, rfl⟩
      case round =>
        obtain ⟨x, r, A, c, m, rfl, HP, HM⟩ := hrel
        go_wp2_with fail
        refine (peek_any g s (by omega) r false _ HP.out.text).mono ?_
        rintro e w2 ⟨rfl, hT2, hF2⟩
        rw [show peekB false r = nextB r from rfl]
        have hlw := HP.out.xb.lt
        have hB2 := HP.out.out.fr hF2 (fun h => by have : w.heap.size = g := h; omega)
        have hX2 := HP.out.xb.fr hF2 (fun h => by have : w1.heap.size = g := h; omega)
        have d0 := hB2.cell 0
        have d1 := hB2.cell 1
        have d2 := hB2.cell 2
        have g0 := hB2.frozen 0
        have g1 := hB2.frozen 1
        have g2 := hB2.frozen 2
        have x0' := hX2.cell 0
        have x1' := hX2.cell 1
        have x2' := hX2.cell 2
        have y0 := hX2.frozen 0
        have y1 := hX2.frozen 1
        have y2 := hX2.frozen 2
        have t1 := hT2.ci
        have tfz := hT2.fz 1
        have hl := hT2.2.1
        have hl2 := hX2.lt
        simp only [List.getElem?_cons_zero, List.getElem?_cons_succ] at d0 d1 d2 x0' x1' x2'
        have HT2 := Lib.hid hT2
        have HB2 := Lib.hid hB2
        have HX2 := Lib.hid hX2
        have HF2 := Lib.hid (HP.out.fr.same hF2)
        have HR2 := Lib.hid (ERep.fr hF2 (fun k _ hk => by have : k = g := hk; left; omega) _ _ HP.out.xr)
        clear hT2 hF2 hB2 hX2
        by_cases hk : signI (nextB r) = 0
        · have hs2 : signsF (tq.length + 1) x0 tq = (x, skipB r) := by
            have := HM.out.2
            rw [← this]
            cases m with
            | zero => have := HM.out.1; omega
            | succ m =>
              unfold signsF
              cases hsk : skipB r with
              | nil => rfl
              | cons c t => rw [signI_next hsk] at hk; simp only [hk, if_true]
          have HS2 := Lib.hid hs2
          have hk3 : (nextB r == 42) = false ∧ (nextB r == 43) = false ∧ (nextB r == 63) = false := by
            unfold signI at hk
            refine ⟨?_, ?_, ?_⟩ <;> simp only [beq_eq_false_iff_ne, ne_eq] <;> intro h <;> rw [h] at hk <;> simp at hk
          obtain ⟨k1, k2, k3⟩ := hk3
          generalize nextB r = nb at k1 k2 k3
          clear hk hs2
          go_wp2_with fail
          rw [HRES.out, HS2.out]
          refine ret_tree1 rfl rfl rfl (((HB2.out.set 0 _).set 1 _).set 2 _) ⟨_, rfl, ?_, ?_, ?_⟩
          · exact ERep.mono (fun k hk => .inl (by have : k < w.heap.size := hk; omega)) _ _ (ERep.fr (fr_store3 w2 w.heap.size _ _ _) (fun k _ hk => by have : k = w.heap.size := hk; left; omega) _ _ HR2.out)
          · exact HT2.out.fr (fr_store3 w2 w.heap.size _ _ _) (fun h => by have : g = w.heap.size := h; omega)
          · exact HF2.out.trans (fr_store3 w2 w.heap.size _ _ _) (fun k hk h => by have : k = w.heap.size := h; omega)
        · obtain ⟨c', t, hsk⟩ : ∃ c' t, skipB r = c' :: t := by
            cases hsk : skipB r with
            | nil => rw [nextB_nil hsk] at hk; exact absurd rfl hk
            | cons c t => exact ⟨c, t, rfl⟩
          have HSK2 := Lib.hid hsk
          rw [hsk] at t1 hl
          obtain ⟨n, hn2⟩ : ∃ n, n = s.size - (c' :: t).length := ⟨_, rfl⟩
          have en : ((s.size : Int) - ((c' :: t).length : Int)) = (n : Int) := by omega
          rw [en] at t1
          have HN := Lib.hid hn2
          have hn3 : n + 1 ≤ 200 := by simp only [List.length_cons] at hn2; omega
          have hsg := signI_next hsk
          have HK := Lib.hid (show signK c' ≠ 0 by rw [← hsg]; exact hk)
          have h3 : nextB r = 42 ∧ signK c' = 4 ∨ nextB r = 43 ∧ signK c' = 5 ∨ nextB r = 63 ∧ signK c' = 6 := by
            rw [← hsg]
            unfold signI at hk ⊢
            by_cases q1 : nextB r = 42
            · left; exact ⟨q1, by rw [q1]; rfl⟩
            · by_cases q2 : nextB r = 43
              · right; left; exact ⟨q2, by rw [q2]; rfl⟩
              · by_cases q3 : nextB r = 63
                · right; right; exact ⟨q3, by rw [q3]; rfl⟩
                · exact absurd (by simp [q1, q2, q3]) hk
          clear hn2 en hk hsk hsg
          rcases h3 with ⟨hnx, hkx⟩ | ⟨hnx, hkx⟩ | ⟨hnx, hkx⟩
          all_goals
            rw [hnx]
            have HKX := Lib.hid hkx
            clear hnx hkx
            go_wp2_with fail
            go_roundg t.length
            case measure => have := skipB_le r; rw [HSK2.out] at this; simp only [List.length_cons] at this; omega
            case rel =>
              have hT3 := HT2.out
              rw [HSK2.out] at hT3
              have hn4 : (n : Int) + 1 = (s.size : Int) - t.length := by have h1 := HN.out; simp only [List.length_cons] at h1 hl; omega
              have hT4 := hT3.step _ hn4
              have f1 := (Fr.refl (One g) w2).setCell (p := ⟨g, 1, none⟩) (.inl rfl) (.int .i64 ((n : Int) + 1))
              have f2 := fr_store3 (w2.setCell ⟨g, 1, none⟩ (.int .i64 ((n : Int) + 1))) w1.heap.size (.int .i64 (signK c')) (.string ⟨#[]⟩) (.slice (some ⟨w2.heap.size, 0, none⟩) 1 1)
              rw [HKX.out] at f2
              have f3 := fun (W : World) => (Fr.refl Nob W).alloc (Obj.cells #[.int .i64 x.k, .string x.name, .slice A x.l.length c] 24)
              refine ⟨.node (signK c') ⟨#[]⟩ [x], t, some ⟨w2.heap.size, 0, none⟩, 1, m - 1, rfl, ⟨?_, ?_, ?_, ?_, ?_⟩, ?_, ?_⟩
              · exact (hT4.fr f2 (fun h => by have : g = w1.heap.size := h; omega)).fr (f3 _) (fun h => h)
              · exact ((HB2.out.fr f1 (fun h => by have : w.heap.size = g := h; omega)).fr f2 (fun h => by have : w.heap.size = w1.heap.size := h; omega)).fr (f3 _) (fun h => h)
              · rw [show (Tree.node (signK c') ⟨#[]⟩ [x]).k = signK c' from rfl, HKX.out]
                exact (((((HX2.out.fr f1 (fun h => by have : w1.heap.size = g := h; omega)).set 0 _).set 1 _).set 2 _).alloc _)
              · have hr := ERep.fr (f3 _) (fun _ _ h => h.elim) _ _ (ERep.fr f2 (fun k _ hk => .inr hk) _ _ (ERep.fr f1 (fun k _ hk => by have : k = g := hk; left; omega) _ _ HR2.out))
                refine ERep.mk (l := [x]) (Nat.le_refl _) ?_ (EReps.one hr)
                refine fun _ => ⟨_, rfl, ?_, fun j u hu => ?_⟩
                · rintro (h | h)
                  · have : w2.heap.size < w.heap.size + 1 := h; omega
                  · have : w2.heap.size = w1.heap.size := h; omega
                · rw [add_lit]
                  exact ((Blk.new_at _ _ _ _ (by simp)).cell j).trans hu
              · exact ((HF2.out.same f1).trans f2 (fun k hk h => by have : k = w1.heap.size := h; omega)).none (f3 _)
              · have h1 := HM.out.1
                have h2 := skipB_le r
                rw [HSK2.out] at h2
                simp only [List.length_cons] at h2
                omega
              · have h1 := HM.out.1
                rw [← HM.out.2]
                obtain ⟨m', rfl⟩ : ∃ m', m = m' + 1 := ⟨m - 1, by omega⟩
                have hk : ¬ signK c' = 0 := HK.out
                simp only [signsF, HSK2.out, hk, if_false, Nat.add_sub_cancel]
    · have hpk : (peekB b q == 41) = false := by
        cases b with
        | true => rfl
        | false =>
          show (nextB q == 41) = false
          cases hsk : skipB q with
          | nil => rw [nextB_nil hsk]; rfl
          | cons cc tq =>
            have := nextB_ne hsk 41 (by omega) (fun h => hok ⟨rfl, tq, by rw [hsk, UInt8.toNat_inj.1 (show cc.toNat = (41 : UInt8).toNat from h)]⟩)
            simpa using this
      have hres : partF C r0 = .err (skipB q) := by
        obtain ⟨_, _, _, p1, p2⟩ := HP.out
        have hat : atomF C r0 = .err (skipB q) := by
          rw [HA.out]
          cases b with
          | true => rw [(p1 rfl).1, (p1 rfl).2]; rfl
          | false =>
            rw [p2 rfl]
            cases hsk : skipB q with
            | nil => exact closeF_nil hsk
            | cons cc tq => rw [closeF_of hsk, if_neg (fun h => hok ⟨rfl, tq, by rw [hsk, h]⟩)]
        unfold partF
        rw [hat]
      have HRES := Lib.hid hres
      clear hok hres
      generalize peekB b q = nb at hpk
      go_wp2_with fail
      rw [HRES.out]
      have ft : Fr (One g) w3 (w3.setCell ⟨g, 2, none⟩ (.bool true)) := (Fr.refl (One g) w3).setCell (p := ⟨g, 2, none⟩) (.inl rfl) _
      have f3 := fr_store3 (w3.setCell ⟨g, 2, none⟩ (.bool true)) w.heap.size (.int .i64 x0.k) (.string x0.name) (.slice A0 x0.l.length c0)
      have hkq := skipB_le q
      obtain ⟨q1, q2, q3, _, _⟩ := HP.out
      refine ret_tree1 rfl rfl rfl ((((HBO3.out.fr ft (fun h => hneg h)).set 0 _).set 1 _).set 2 _) ⟨x0, _, rfl, ?_, ?_, ?_, ?_, q3, ?_⟩
      · exact ERep.mono (fun k hk => by have : k < w.heap.size := hk; show k < w1.heap.size; omega) _ _ (ERep.fr f3 (fun k _ hk => by have : k = w.heap.size := hk; show k < w1.heap.size; omega) _ _ (ERep.fr ft (fun k _ hk => by have : k = g := hk; show k < w1.heap.size; omega) _ _ HX3.out))
      · exact HT3.out.err.fr f3 (fun h => hneg (Eq.symm h))
      · exact (HF23.out.same ft).trans f3 (fun k hk h => by have : k = w.heap.size := h; omega)
      · omega
      · omega
  · by_cases hl : ∃ c t, skipB r0 = c :: t ∧ letter c = true
    · obtain ⟨cc, tt, hsk, hlet⟩ := hl
      have hat : atomF C r0 = .ok (.node 1 ⟨((skipB r0).takeWhile letter).toArray⟩ []) ((skipB r0).dropWhile letter) := by
        unfold atomF
        split
        · rename_i t h; exact absurd ⟨t, h⟩ hp
        · rw [if_neg]
          rw [hsk, List.takeWhile_cons, if_pos hlet]
          simp
      have hnb : nextB r0 = cc.toNat := nextB_eq hsk (by intro h; have : cc = 0 := UInt8.toNat_inj.1 h; subst this; cases hlet)
      rw [letter_nat] at hlet
      simp only [Bool.and_eq_true, decide_eq_true_eq] at hlet
      have n1 : nextB r0 ≥ 97 := by omega
      have n2 : nextB r0 ≤ 122 := by omega
      have HAT := Lib.hid hat
      generalize nextB r0 = nb at n1 n2
      generalize hq : skipB r0 = q0 at *
      have HQ0 := Lib.hid hq
      have c1 := HT1.out.ci
      have hlq : q0.length ≤ s.size := HT1.out.2.1
      obtain ⟨m, hm⟩ : ∃ m, m = s.size - q0.length := ⟨_, rfl⟩
      have em : ((s.size : Int) - (q0.length : Int)) = (m : Int) := by omega
      rw [em] at c1
      have HM0 := Lib.hid hm
      have hlg := HT1.out.1.lt
      have hoB : w.heap.size < w1.heap.size := HB0.out.lt
      clear hat hsk hlet hnb hq hm em hp hb0 hT1
      go_wp2_with fail
      go_loopg [] (q0.length) (fun n wr => ∃ pre r : List UInt8, r.length = n ∧ Hid (q0 = pre ++ r) ∧ Hid (pre.all letter = true) ∧ Hid (TxR wr g s r false) ∧ Hid (Fr (One g) w wr) ∧ Hid (Blk wr w.heap.size [.int .i64 0, .string ⟨#[]⟩, .slice none 0 0] 24) ∧ Hid (Blk wr w1.heap.size [.int .i64 0, .string ⟨#[]⟩, .slice none 0 0] 24))
      case atStart => exact ⟨[], q0, rfl, rfl, rfl, HT1.out.fr ((Fr.refl Nob w1).alloc _) (fun h => h), HF1.out.alloc _, HB0.out.alloc _, Blk.new _ _ _⟩
      case round =>
        obtain ⟨pre, r, rfl, HQ, HP, HTr, HFr, HBr, HEr⟩ := hrel
        clear c1
        have c0 := HTr.out.cs
        have c1 := HTr.out.ci
        have f1 := HTr.out.fz 1
        have hl : r.length ≤ s.size := HTr.out.2.1
        have hlr := HTr.out.1.lt
        cases r with
        | nil =>
          simp only [List.length_nil, Int.natCast_zero, Int.sub_zero] at c1 hl ⊢
          have hms : m ≤ s.size := by have := HM0.out; omega
          have y0 := HEr.out.cell 0
          have y1 := HEr.out.cell 1
          have y2 := HEr.out.cell 2
          have z0 := HEr.out.frozen 0
          have z1 := HEr.out.frozen 1
          have z2 := HEr.out.frozen 2
          have hle := HEr.out.lt
          simp only [List.getElem?_cons_zero, List.getElem?_cons_succ] at y0 y1 y2
          go_wp2_with (fail)
          go_quiet (fail)
          go_wp2_with (fail)
          go_region
          all_goals go_wp2_with fail
          have htw : q0.takeWhile letter = pre ∧ q0.dropWhile letter = [] := by rw [HQ.out]; exact split_at_end HP.out rfl
          have hT0 := HT1.out
          rw [HQ.out] at hT0
          have hname : s.extract m s.size = ⟨pre.toArray⟩ := by rw [HM0.out, HQ.out]; exact cut_pre s pre [] hT0.2.1 hT0.2.2
          have HAT1 := Lib.hid (show atomF C r0 = .ok (.node 1 ⟨pre.toArray⟩ []) [] by rw [HAT.out, htw.1, htw.2])
          clear htw hT0
          all_goals rw [hname]
          all_goals
            obtain ⟨xN, hxN⟩ : ∃ xN : Tree, xN = .node 1 ⟨pre.toArray⟩ [] := ⟨_, rfl⟩
            obtain ⟨rN, hrN⟩ : ∃ rN : List UInt8, rN = [] := ⟨_, rfl⟩
            have f3 := fr_store3 (wr.drewN (nq + 1)) w1.heap.size (.int .i64 1) (.string ⟨pre.toArray⟩) (.slice none 0 0)
            have fd : Fr Nob wr (wr.drewN (nq + 1)) := (Fr.refl Nob wr).drewN _
            have hi : RPartI g s w w1.heap.size xN rN [.int .i64 xN.k, .string xN.name, .slice none xN.l.length 0] ((((wr.drewN (nq + 1)).setCell ⟨w1.heap.size, 0, none⟩ (.int .i64 1)).setCell ⟨w1.heap.size, 1, none⟩ (.string ⟨pre.toArray⟩)).setCell ⟨w1.heap.size, 2, none⟩ (.slice none 0 0)) := by
              subst hxN hrN
              refine ⟨(HTr.out.drewN _).fr f3 (fun h => by have : g = w1.heap.size := h; omega), (HBr.out.fr fd (fun h => h)).fr f3 (fun h => by have : w.heap.size = w1.heap.size := h; omega), (((HEr.out.drewN _).set 0 _).set 1 _).set 2 _, ERep.empty _ _ _ _, (HFr.out.drewN _).trans f3 (fun k hk h => by have : k = w1.heap.size := h; have := HF1.out.size; omega)⟩
            have HI := Lib.hid hi
            have HAT2 := Lib.hid (show atomF C r0 = .ok xN rN by rw [HAT1.out, hxN, hrN])
            clear hi f3 fd hxN hrN y0 y1 y2 z0 z1 z2 c0 c1 f1
            have hres : partF C r0 = .ok (signsF (rN.length + 1) xN rN).1 (signsF (rN.length + 1) xN rN).2 := by unfold partF; rw [HAT2.out]
            have HRES := Lib.hid hres
            clear hres
            go_loopg [] (rN.length) (fun n wr => ∃ x r A c m, r.length = n ∧ Hid (RPartI g s w w1.heap.size x r [.int .i64 x.k, .string x.name, .slice A x.l.length c] wr) ∧ Hid (r.length < m ∧ signsF m x r = signsF (rN.length + 1) xN rN))
            case atStart => exact ⟨xN, rN, none, 0, _, rfl, HI.out, Nat.lt_succ_self _, rfl⟩
            case round =>
              obtain ⟨x, r, A, c, m, rfl, HP, HM⟩ := hrel
              go_wp2_with fail
              refine (peek_any g s (by omega) r false _ HP.out.text).mono ?_
              rintro e w2 ⟨rfl, hT2, hF2⟩
              rw [show peekB false r = nextB r from rfl]
              have hlw := HP.out.xb.lt
              have hB2 := HP.out.out.fr hF2 (fun h => by have : w.heap.size = g := h; omega)
              have hX2 := HP.out.xb.fr hF2 (fun h => by have : w1.heap.size = g := h; omega)
              have d0 := hB2.cell 0
              have d1 := hB2.cell 1
              have d2 := hB2.cell 2
              have g0 := hB2.frozen 0
              have g1 := hB2.frozen 1
              have g2 := hB2.frozen 2
              have x0' := hX2.cell 0
              have x1' := hX2.cell 1
              have x2' := hX2.cell 2
              have y0 := hX2.frozen 0
              have y1 := hX2.frozen 1
              have y2 := hX2.frozen 2
              have t1 := hT2.ci
              have tfz := hT2.fz 1
              have hl := hT2.2.1
              have hl2 := hX2.lt
              simp only [List.getElem?_cons_zero, List.getElem?_cons_succ] at d0 d1 d2 x0' x1' x2'
              have HT2 := Lib.hid hT2
              have HB2 := Lib.hid hB2
              have HX2 := Lib.hid hX2
              have HF2 := Lib.hid (HP.out.fr.same hF2)
              have HR2 := Lib.hid (ERep.fr hF2 (fun k _ hk => by have : k = g := hk; left; omega) _ _ HP.out.xr)
              clear hT2 hF2 hB2 hX2
              by_cases hk : signI (nextB r) = 0
              · have hs2 : signsF (rN.length + 1) xN rN = (x, skipB r) := by
                  have := HM.out.2
                  rw [← this]
                  cases m with
                  | zero => have := HM.out.1; omega
                  | succ m =>
                    unfold signsF
                    cases hsk : skipB r with
                    | nil => rfl
                    | cons c t => rw [signI_next hsk] at hk; simp only [hk, if_true]
                have HS2 := Lib.hid hs2
                have hk3 : (nextB r == 42) = false ∧ (nextB r == 43) = false ∧ (nextB r == 63) = false := by
                  unfold signI at hk
                  refine ⟨?_, ?_, ?_⟩ <;> simp only [beq_eq_false_iff_ne, ne_eq] <;> intro h <;> rw [h] at hk <;> simp at hk
                obtain ⟨k1, k2, k3⟩ := hk3
                generalize nextB r = nb at k1 k2 k3
                clear hk hs2
                go_wp2_with fail
                rw [HRES.out, HS2.out]
                refine ret_tree1 rfl rfl rfl (((HB2.out.set 0 _).set 1 _).set 2 _) ⟨_, rfl, ?_, ?_, ?_⟩
                · exact ERep.mono (fun k hk => .inl (by have : k < w.heap.size := hk; omega)) _ _ (ERep.fr (fr_store3 w2 w.heap.size _ _ _) (fun k _ hk => by have : k = w.heap.size := hk; left; omega) _ _ HR2.out)
                · exact HT2.out.fr (fr_store3 w2 w.heap.size _ _ _) (fun h => by have : g = w.heap.size := h; omega)
                · exact HF2.out.trans (fr_store3 w2 w.heap.size _ _ _) (fun k hk h => by have : k = w.heap.size := h; omega)
              · obtain ⟨c', t, hsk⟩ : ∃ c' t, skipB r = c' :: t := by
                  cases hsk : skipB r with
                  | nil => rw [nextB_nil hsk] at hk; exact absurd rfl hk
                  | cons c t => exact ⟨c, t, rfl⟩
                have HSK2 := Lib.hid hsk
                rw [hsk] at t1 hl
                obtain ⟨n, hn2⟩ : ∃ n, n = s.size - (c' :: t).length := ⟨_, rfl⟩
                have en : ((s.size : Int) - ((c' :: t).length : Int)) = (n : Int) := by omega
                rw [en] at t1
                have HN := Lib.hid hn2
                have hn3 : n + 1 ≤ 200 := by simp only [List.length_cons] at hn2; omega
                have hsg := signI_next hsk
                have HK := Lib.hid (show signK c' ≠ 0 by rw [← hsg]; exact hk)
                have h3 : nextB r = 42 ∧ signK c' = 4 ∨ nextB r = 43 ∧ signK c' = 5 ∨ nextB r = 63 ∧ signK c' = 6 := by
                  rw [← hsg]
                  unfold signI at hk ⊢
                  by_cases q1 : nextB r = 42
                  · left; exact ⟨q1, by rw [q1]; rfl⟩
                  · by_cases q2 : nextB r = 43
                    · right; left; exact ⟨q2, by rw [q2]; rfl⟩
                    · by_cases q3 : nextB r = 63
                      · right; right; exact ⟨q3, by rw [q3]; rfl⟩
                      · exact absurd (by simp [q1, q2, q3]) hk
                clear hn2 en hk hsk hsg
                rcases h3 with ⟨hnx, hkx⟩ | ⟨hnx, hkx⟩ | ⟨hnx, hkx⟩
                all_goals
                  rw [hnx]
                  have HKX := Lib.hid hkx
                  clear hnx hkx
                  go_wp2_with fail
                  go_roundg t.length
                  case measure => have := skipB_le r; rw [HSK2.out] at this; simp only [List.length_cons] at this; omega
                  case rel =>
                    have hT3 := HT2.out
                    rw [HSK2.out] at hT3
                    have hn4 : (n : Int) + 1 = (s.size : Int) - t.length := by have h1 := HN.out; simp only [List.length_cons] at h1 hl; omega
                    have hT4 := hT3.step _ hn4
                    have f1 := (Fr.refl (One g) w2).setCell (p := ⟨g, 1, none⟩) (.inl rfl) (.int .i64 ((n : Int) + 1))
                    have f2 := fr_store3 (w2.setCell ⟨g, 1, none⟩ (.int .i64 ((n : Int) + 1))) w1.heap.size (.int .i64 (signK c')) (.string ⟨#[]⟩) (.slice (some ⟨w2.heap.size, 0, none⟩) 1 1)
                    rw [HKX.out] at f2
                    have f3 := fun (W : World) => (Fr.refl Nob W).alloc (Obj.cells #[.int .i64 x.k, .string x.name, .slice A x.l.length c] 24)
                    refine ⟨.node (signK c') ⟨#[]⟩ [x], t, some ⟨w2.heap.size, 0, none⟩, 1, m - 1, rfl, ⟨?_, ?_, ?_, ?_, ?_⟩, ?_, ?_⟩
                    · exact (hT4.fr f2 (fun h => by have : g = w1.heap.size := h; omega)).fr (f3 _) (fun h => h)
                    · exact ((HB2.out.fr f1 (fun h => by have : w.heap.size = g := h; omega)).fr f2 (fun h => by have : w.heap.size = w1.heap.size := h; omega)).fr (f3 _) (fun h => h)
                    · rw [show (Tree.node (signK c') ⟨#[]⟩ [x]).k = signK c' from rfl, HKX.out]
                      exact (((((HX2.out.fr f1 (fun h => by have : w1.heap.size = g := h; omega)).set 0 _).set 1 _).set 2 _).alloc _)
                    · have hr := ERep.fr (f3 _) (fun _ _ h => h.elim) _ _ (ERep.fr f2 (fun k _ hk => .inr hk) _ _ (ERep.fr f1 (fun k _ hk => by have : k = g := hk; left; omega) _ _ HR2.out))
                      refine ERep.mk (l := [x]) (Nat.le_refl _) ?_ (EReps.one hr)
                      refine fun _ => ⟨_, rfl, ?_, fun j u hu => ?_⟩
                      · rintro (h | h)
                        · have : w2.heap.size < w.heap.size + 1 := h; omega
                        · have : w2.heap.size = w1.heap.size := h; omega
                      · rw [add_lit]
                        exact ((Blk.new_at _ _ _ _ (by simp)).cell j).trans hu
                    · exact ((HF2.out.same f1).trans f2 (fun k hk h => by have : k = w1.heap.size := h; omega)).none (f3 _)
                    · have h1 := HM.out.1
                      have h2 := skipB_le r
                      rw [HSK2.out] at h2
                      simp only [List.length_cons] at h2
                      omega
                    · have h1 := HM.out.1
                      rw [← HM.out.2]
                      obtain ⟨m', rfl⟩ : ∃ m', m = m' + 1 := ⟨m - 1, by omega⟩
                      have hk : ¬ signK c' = 0 := HK.out
                      simp only [signsF, HSK2.out, hk, if_false, Nat.add_sub_cancel]
        | cons c t =>
          obtain ⟨hn, hc⟩ := HTr.out.byte
          simp only [List.length_cons] at hl c1
          obtain ⟨n, hN⟩ : ∃ n, n = s.size - (t.length + 1) := ⟨_, rfl⟩
          have e : ((s.size : Int) - ((t.length + 1 : Nat) : Int)) = (n : Int) := by omega
          rw [e] at c1
          have hlt : n < s.size := by omega
          have hb : ((s[n]'hlt).toNat : Int) = (c.toNat : Int) := by rw [← hc]; simp [hN]
          have H2 := Lib.hid hN
          clear hN hc e
          by_cases hlc : letter c = true
          · have hlc2 := hlc
            rw [letter_nat] at hlc2
            simp only [Bool.and_eq_true, decide_eq_true_eq] at hlc2
            have k1 : (c.toNat : Int) ≥ 97 := by omega
            have k2 : (c.toNat : Int) ≤ 122 := by omega
            have HLC := Lib.hid hlc
            clear hlc hlc2
            go_wp2_with (fail)
            go_quiet (fail)
            go_wp2_with (fail)
            go_roundg t.length
            case measure => simp
            case rel =>
              have hn4 : (n : Int) + 1 = (s.size : Int) - t.length := by have := H2.out; omega
              have fs : Fr (One g) wr ((wr.drewN nq).setCell ⟨g, 1, none⟩ (.int .i64 ((n : Int) + 1))) := ((Fr.refl (One g) wr).drewN nq).setCell (p := ⟨g, 1, none⟩) (.inl rfl) _
              refine ⟨pre ++ [c], t, rfl, ?_, ?_, HTr.out.step _ hn4, HFr.out.same fs, HBr.out.fr fs (fun h => by have : w.heap.size = g := h; omega), HEr.out.fr fs (fun h => by have : w1.heap.size = g := h; omega)⟩
              · rw [Hid, HQ.out]; simp
              · have := HP.out; simp [Hid, this, HLC.out]
          · skip
            have hnl : c.toNat < 97 ∨ 122 < c.toNat := by rw [letter_nat] at hlc; simp only [Bool.and_eq_true, decide_eq_true_eq] at hlc; omega
            have HNL := Lib.hid hlc
            clear hlc
            have hns : n ≤ s.size := by omega
            rcases hnl with hnl | hnl
            · have k1 : (c.toNat : Int) < 97 := by omega
              have k3 : ¬ (97 ≤ (c.toNat : Int)) := by omega
              have k4 : decide ((c.toNat : Int) ≥ 97) = false := by simp; omega
              have k5 : decide (97 ≤ (c.toNat : Int)) = false := by simp; omega
              have k6 : decide (97 ≤ c.toNat) = false := by simp; omega
              have hms : m ≤ n := by have h1 := HM0.out; have h2 := H2.out; have h3 := congrArg List.length HQ.out; simp only [List.length_append, List.length_cons] at h3; omega
              have y0 := HEr.out.cell 0
              have y1 := HEr.out.cell 1
              have y2 := HEr.out.cell 2
              have z0 := HEr.out.frozen 0
              have z1 := HEr.out.frozen 1
              have z2 := HEr.out.frozen 2
              have hle := HEr.out.lt
              simp only [List.getElem?_cons_zero, List.getElem?_cons_succ] at y0 y1 y2
              go_wp2_with (fail)
              go_quiet (fail)
              go_wp2_with (fail)
              go_region
              all_goals go_wp2_with fail
              have htw : q0.takeWhile letter = pre ∧ q0.dropWhile letter = c :: t := by rw [HQ.out]; exact split_at_end HP.out (by rw [List.takeWhile_cons, if_neg HNL.out])
              have hT0 := HT1.out
              rw [HQ.out] at hT0
              have hname : s.extract m n = ⟨pre.toArray⟩ := by rw [HM0.out, H2.out, HQ.out]; exact cut_pre s pre (c :: t) hT0.2.1 hT0.2.2
              have HAT1 := Lib.hid (show atomF C r0 = .ok (.node 1 ⟨pre.toArray⟩ []) (c :: t) by rw [HAT.out, htw.1, htw.2])
              clear htw hT0
              all_goals rw [hname]
              all_goals
                obtain ⟨xN, hxN⟩ : ∃ xN : Tree, xN = .node 1 ⟨pre.toArray⟩ [] := ⟨_, rfl⟩
                obtain ⟨rN, hrN⟩ : ∃ rN : List UInt8, rN = (c :: t) := ⟨_, rfl⟩
                have f3 := fr_store3 (wr.drewN (nq + 1)) w1.heap.size (.int .i64 1) (.string ⟨pre.toArray⟩) (.slice none 0 0)
                have fd : Fr Nob wr (wr.drewN (nq + 1)) := (Fr.refl Nob wr).drewN _
                have hi : RPartI g s w w1.heap.size xN rN [.int .i64 xN.k, .string xN.name, .slice none xN.l.length 0] ((((wr.drewN (nq + 1)).setCell ⟨w1.heap.size, 0, none⟩ (.int .i64 1)).setCell ⟨w1.heap.size, 1, none⟩ (.string ⟨pre.toArray⟩)).setCell ⟨w1.heap.size, 2, none⟩ (.slice none 0 0)) := by
                  subst hxN hrN
                  refine ⟨(HTr.out.drewN _).fr f3 (fun h => by have : g = w1.heap.size := h; omega), (HBr.out.fr fd (fun h => h)).fr f3 (fun h => by have : w.heap.size = w1.heap.size := h; omega), (((HEr.out.drewN _).set 0 _).set 1 _).set 2 _, ERep.empty _ _ _ _, (HFr.out.drewN _).trans f3 (fun k hk h => by have : k = w1.heap.size := h; have := HF1.out.size; omega)⟩
                have HI := Lib.hid hi
                have HAT2 := Lib.hid (show atomF C r0 = .ok xN rN by rw [HAT1.out, hxN, hrN])
                clear hi f3 fd hxN hrN y0 y1 y2 z0 z1 z2 c0 c1 f1
                have hres : partF C r0 = .ok (signsF (rN.length + 1) xN rN).1 (signsF (rN.length + 1) xN rN).2 := by unfold partF; rw [HAT2.out]
                have HRES := Lib.hid hres
                clear hres
                go_loopg [] (rN.length) (fun n wr => ∃ x r A c m, r.length = n ∧ Hid (RPartI g s w w1.heap.size x r [.int .i64 x.k, .string x.name, .slice A x.l.length c] wr) ∧ Hid (r.length < m ∧ signsF m x r = signsF (rN.length + 1) xN rN))
                case atStart => exact ⟨xN, rN, none, 0, _, rfl, HI.out, Nat.lt_succ_self _, rfl⟩
                case round =>
                  obtain ⟨x, r, A, c, m, rfl, HP, HM⟩ := hrel
                  go_wp2_with fail
                  refine (peek_any g s (by omega) r false _ HP.out.text).mono ?_
                  rintro e w2 ⟨rfl, hT2, hF2⟩
                  rw [show peekB false r = nextB r from rfl]
                  have hlw := HP.out.xb.lt
                  have hB2 := HP.out.out.fr hF2 (fun h => by have : w.heap.size = g := h; omega)
                  have hX2 := HP.out.xb.fr hF2 (fun h => by have : w1.heap.size = g := h; omega)
                  have d0 := hB2.cell 0
                  have d1 := hB2.cell 1
                  have d2 := hB2.cell 2
                  have g0 := hB2.frozen 0
                  have g1 := hB2.frozen 1
                  have g2 := hB2.frozen 2
                  have x0' := hX2.cell 0
                  have x1' := hX2.cell 1
                  have x2' := hX2.cell 2
                  have y0 := hX2.frozen 0
                  have y1 := hX2.frozen 1
                  have y2 := hX2.frozen 2
                  have t1 := hT2.ci
                  have tfz := hT2.fz 1
                  have hl := hT2.2.1
                  have hl2 := hX2.lt
                  simp only [List.getElem?_cons_zero, List.getElem?_cons_succ] at d0 d1 d2 x0' x1' x2'
                  have HT2 := Lib.hid hT2
                  have HB2 := Lib.hid hB2
                  have HX2 := Lib.hid hX2
                  have HF2 := Lib.hid (HP.out.fr.same hF2)
                  have HR2 := Lib.hid (ERep.fr hF2 (fun k _ hk => by have : k = g := hk; left; omega) _ _ HP.out.xr)
                  clear hT2 hF2 hB2 hX2
                  by_cases hk : signI (nextB r) = 0
                  · have hs2 : signsF (rN.length + 1) xN rN = (x, skipB r) := by
                      have := HM.out.2
                      rw [← this]
                      cases m with
                      | zero => have := HM.out.1; omega
                      | succ m =>
                        unfold signsF
                        cases hsk : skipB r with
                        | nil => rfl
                        | cons c t => rw [signI_next hsk] at hk; simp only [hk, if_true]
                    have HS2 := Lib.hid hs2
                    have hk3 : (nextB r == 42) = false ∧ (nextB r == 43) = false ∧ (nextB r == 63) = false := by
                      unfold signI at hk
                      refine ⟨?_, ?_, ?_⟩ <;> simp only [beq_eq_false_iff_ne, ne_eq] <;> intro h <;> rw [h] at hk <;> simp at hk
                    obtain ⟨k1, k2, k3⟩ := hk3
                    generalize nextB r = nb at k1 k2 k3
                    clear hk hs2
                    go_wp2_with fail
                    rw [HRES.out, HS2.out]
                    refine ret_tree1 rfl rfl rfl (((HB2.out.set 0 _).set 1 _).set 2 _) ⟨_, rfl, ?_, ?_, ?_⟩
                    · exact ERep.mono (fun k hk => .inl (by have : k < w.heap.size := hk; omega)) _ _ (ERep.fr (fr_store3 w2 w.heap.size _ _ _) (fun k _ hk => by have : k = w.heap.size := hk; left; omega) _ _ HR2.out)
                    · exact HT2.out.fr (fr_store3 w2 w.heap.size _ _ _) (fun h => by have : g = w.heap.size := h; omega)
                    · exact HF2.out.trans (fr_store3 w2 w.heap.size _ _ _) (fun k hk h => by have : k = w.heap.size := h; omega)
                  · obtain ⟨c', t, hsk⟩ : ∃ c' t, skipB r = c' :: t := by
                      cases hsk : skipB r with
                      | nil => rw [nextB_nil hsk] at hk; exact absurd rfl hk
                      | cons c t => exact ⟨c, t, rfl⟩
                    have HSK2 := Lib.hid hsk
                    rw [hsk] at t1 hl
                    obtain ⟨n, hn2⟩ : ∃ n, n = s.size - (c' :: t).length := ⟨_, rfl⟩
                    have en : ((s.size : Int) - ((c' :: t).length : Int)) = (n : Int) := by omega
                    rw [en] at t1
                    have HN := Lib.hid hn2
                    have hn3 : n + 1 ≤ 200 := by simp only [List.length_cons] at hn2; omega
                    have hsg := signI_next hsk
                    have HK := Lib.hid (show signK c' ≠ 0 by rw [← hsg]; exact hk)
                    have h3 : nextB r = 42 ∧ signK c' = 4 ∨ nextB r = 43 ∧ signK c' = 5 ∨ nextB r = 63 ∧ signK c' = 6 := by
                      rw [← hsg]
                      unfold signI at hk ⊢
                      by_cases q1 : nextB r = 42
                      · left; exact ⟨q1, by rw [q1]; rfl⟩
                      · by_cases q2 : nextB r = 43
                        · right; left; exact ⟨q2, by rw [q2]; rfl⟩
                        · by_cases q3 : nextB r = 63
                          · right; right; exact ⟨q3, by rw [q3]; rfl⟩
                          · exact absurd (by simp [q1, q2, q3]) hk
                    clear hn2 en hk hsk hsg
                    rcases h3 with ⟨hnx, hkx⟩ | ⟨hnx, hkx⟩ | ⟨hnx, hkx⟩
                    all_goals
                      rw [hnx]
                      have HKX := Lib.hid hkx
                      clear hnx hkx
                      go_wp2_with fail
                      go_roundg t.length
                      case measure => have := skipB_le r; rw [HSK2.out] at this; simp only [List.length_cons] at this; omega
                      case rel =>
                        have hT3 := HT2.out
                        rw [HSK2.out] at hT3
                        have hn4 : (n : Int) + 1 = (s.size : Int) - t.length := by have h1 := HN.out; simp only [List.length_cons] at h1 hl; omega
                        have hT4 := hT3.step _ hn4
                        have f1 := (Fr.refl (One g) w2).setCell (p := ⟨g, 1, none⟩) (.inl rfl) (.int .i64 ((n : Int) + 1))
                        have f2 := fr_store3 (w2.setCell ⟨g, 1, none⟩ (.int .i64 ((n : Int) + 1))) w1.heap.size (.int .i64 (signK c')) (.string ⟨#[]⟩) (.slice (some ⟨w2.heap.size, 0, none⟩) 1 1)
                        rw [HKX.out] at f2
                        have f3 := fun (W : World) => (Fr.refl Nob W).alloc (Obj.cells #[.int .i64 x.k, .string x.name, .slice A x.l.length c] 24)
                        refine ⟨.node (signK c') ⟨#[]⟩ [x], t, some ⟨w2.heap.size, 0, none⟩, 1, m - 1, rfl, ⟨?_, ?_, ?_, ?_, ?_⟩, ?_, ?_⟩
                        · exact (hT4.fr f2 (fun h => by have : g = w1.heap.size := h; omega)).fr (f3 _) (fun h => h)
                        · exact ((HB2.out.fr f1 (fun h => by have : w.heap.size = g := h; omega)).fr f2 (fun h => by have : w.heap.size = w1.heap.size := h; omega)).fr (f3 _) (fun h => h)
                        · rw [show (Tree.node (signK c') ⟨#[]⟩ [x]).k = signK c' from rfl, HKX.out]
                          exact (((((HX2.out.fr f1 (fun h => by have : w1.heap.size = g := h; omega)).set 0 _).set 1 _).set 2 _).alloc _)
                        · have hr := ERep.fr (f3 _) (fun _ _ h => h.elim) _ _ (ERep.fr f2 (fun k _ hk => .inr hk) _ _ (ERep.fr f1 (fun k _ hk => by have : k = g := hk; left; omega) _ _ HR2.out))
                          refine ERep.mk (l := [x]) (Nat.le_refl _) ?_ (EReps.one hr)
                          refine fun _ => ⟨_, rfl, ?_, fun j u hu => ?_⟩
                          · rintro (h | h)
                            · have : w2.heap.size < w.heap.size + 1 := h; omega
                            · have : w2.heap.size = w1.heap.size := h; omega
                          · rw [add_lit]
                            exact ((Blk.new_at _ _ _ _ (by simp)).cell j).trans hu
                        · exact ((HF2.out.same f1).trans f2 (fun k hk h => by have : k = w1.heap.size := h; omega)).none (f3 _)
                        · have h1 := HM.out.1
                          have h2 := skipB_le r
                          rw [HSK2.out] at h2
                          simp only [List.length_cons] at h2
                          omega
                        · have h1 := HM.out.1
                          rw [← HM.out.2]
                          obtain ⟨m', rfl⟩ : ∃ m', m = m' + 1 := ⟨m - 1, by omega⟩
                          have hk : ¬ signK c' = 0 := HK.out
                          simp only [signsF, HSK2.out, hk, if_false, Nat.add_sub_cancel]
            · have k1 : ((c.toNat : Int) ≥ 97) := by omega
              have k2 : ¬ ((c.toNat : Int) ≤ 122) := by omega
              have hms : m ≤ n := by have h1 := HM0.out; have h2 := H2.out; have h3 := congrArg List.length HQ.out; simp only [List.length_append, List.length_cons] at h3; omega
              have y0 := HEr.out.cell 0
              have y1 := HEr.out.cell 1
              have y2 := HEr.out.cell 2
              have z0 := HEr.out.frozen 0
              have z1 := HEr.out.frozen 1
              have z2 := HEr.out.frozen 2
              have hle := HEr.out.lt
              simp only [List.getElem?_cons_zero, List.getElem?_cons_succ] at y0 y1 y2
              go_wp2_with (fail)
              go_quiet (fail)
              go_wp2_with (fail)
              go_region
              all_goals go_wp2_with fail
              have htw : q0.takeWhile letter = pre ∧ q0.dropWhile letter = c :: t := by rw [HQ.out]; exact split_at_end HP.out (by rw [List.takeWhile_cons, if_neg HNL.out])
              have hT0 := HT1.out
              rw [HQ.out] at hT0
              have hname : s.extract m n = ⟨pre.toArray⟩ := by rw [HM0.out, H2.out, HQ.out]; exact cut_pre s pre (c :: t) hT0.2.1 hT0.2.2
              have HAT1 := Lib.hid (show atomF C r0 = .ok (.node 1 ⟨pre.toArray⟩ []) (c :: t) by rw [HAT.out, htw.1, htw.2])
              clear htw hT0
              all_goals rw [hname]
              all_goals
                obtain ⟨xN, hxN⟩ : ∃ xN : Tree, xN = .node 1 ⟨pre.toArray⟩ [] := ⟨_, rfl⟩
                obtain ⟨rN, hrN⟩ : ∃ rN : List UInt8, rN = (c :: t) := ⟨_, rfl⟩
                have f3 := fr_store3 (wr.drewN (nq + 1)) w1.heap.size (.int .i64 1) (.string ⟨pre.toArray⟩) (.slice none 0 0)
                have fd : Fr Nob wr (wr.drewN (nq + 1)) := (Fr.refl Nob wr).drewN _
                have hi : RPartI g s w w1.heap.size xN rN [.int .i64 xN.k, .string xN.name, .slice none xN.l.length 0] ((((wr.drewN (nq + 1)).setCell ⟨w1.heap.size, 0, none⟩ (.int .i64 1)).setCell ⟨w1.heap.size, 1, none⟩ (.string ⟨pre.toArray⟩)).setCell ⟨w1.heap.size, 2, none⟩ (.slice none 0 0)) := by
                  subst hxN hrN
                  refine ⟨(HTr.out.drewN _).fr f3 (fun h => by have : g = w1.heap.size := h; omega), (HBr.out.fr fd (fun h => h)).fr f3 (fun h => by have : w.heap.size = w1.heap.size := h; omega), (((HEr.out.drewN _).set 0 _).set 1 _).set 2 _, ERep.empty _ _ _ _, (HFr.out.drewN _).trans f3 (fun k hk h => by have : k = w1.heap.size := h; have := HF1.out.size; omega)⟩
                have HI := Lib.hid hi
                have HAT2 := Lib.hid (show atomF C r0 = .ok xN rN by rw [HAT1.out, hxN, hrN])
                clear hi f3 fd hxN hrN y0 y1 y2 z0 z1 z2 c0 c1 f1
                have hres : partF C r0 = .ok (signsF (rN.length + 1) xN rN).1 (signsF (rN.length + 1) xN rN).2 := by unfold partF; rw [HAT2.out]
                have HRES := Lib.hid hres
                clear hres
                go_loopg [] (rN.length) (fun n wr => ∃ x r A c m, r.length = n ∧ Hid (RPartI g s w w1.heap.size x r [.int .i64 x.k, .string x.name, .slice A x.l.length c] wr) ∧ Hid (r.length < m ∧ signsF m x r = signsF (rN.length + 1) xN rN))
                case atStart => exact ⟨xN, rN, none, 0, _, rfl, HI.out, Nat.lt_succ_self _, rfl⟩
                case round =>
                  obtain ⟨x, r, A, c, m, rfl, HP, HM⟩ := hrel
                  go_wp2_with fail
                  refine (peek_any g s (by omega) r false _ HP.out.text).mono ?_
                  rintro e w2 ⟨rfl, hT2, hF2⟩
                  rw [show peekB false r = nextB r from rfl]
                  have hlw := HP.out.xb.lt
                  have hB2 := HP.out.out.fr hF2 (fun h => by have : w.heap.size = g := h; omega)
                  have hX2 := HP.out.xb.fr hF2 (fun h => by have : w1.heap.size = g := h; omega)
                  have d0 := hB2.cell 0
                  have d1 := hB2.cell 1
                  have d2 := hB2.cell 2
                  have g0 := hB2.frozen 0
                  have g1 := hB2.frozen 1
                  have g2 := hB2.frozen 2
                  have x0' := hX2.cell 0
                  have x1' := hX2.cell 1
                  have x2' := hX2.cell 2
                  have y0 := hX2.frozen 0
                  have y1 := hX2.frozen 1
                  have y2 := hX2.frozen 2
                  have t1 := hT2.ci
                  have tfz := hT2.fz 1
                  have hl := hT2.2.1
                  have hl2 := hX2.lt
                  simp only [List.getElem?_cons_zero, List.getElem?_cons_succ] at d0 d1 d2 x0' x1' x2'
                  have HT2 := Lib.hid hT2
                  have HB2 := Lib.hid hB2
                  have HX2 := Lib.hid hX2
                  have HF2 := Lib.hid (HP.out.fr.same hF2)
                  have HR2 := Lib.hid (ERep.fr hF2 (fun k _ hk => by have : k = g := hk; left; omega) _ _ HP.out.xr)
                  clear hT2 hF2 hB2 hX2
                  by_cases hk : signI (nextB r) = 0
                  · have hs2 : signsF (rN.length + 1) xN rN = (x, skipB r) := by
                      have := HM.out.2
                      rw [← this]
                      cases m with
                      | zero => have := HM.out.1; omega
                      | succ m =>
                        unfold signsF
                        cases hsk : skipB r with
                        | nil => rfl
                        | cons c t => rw [signI_next hsk] at hk; simp only [hk, if_true]
                    have HS2 := Lib.hid hs2
                    have hk3 : (nextB r == 42) = false ∧ (nextB r == 43) = false ∧ (nextB r == 63) = false := by
                      unfold signI at hk
                      refine ⟨?_, ?_, ?_⟩ <;> simp only [beq_eq_false_iff_ne, ne_eq] <;> intro h <;> rw [h] at hk <;> simp at hk
                    obtain ⟨k1, k2, k3⟩ := hk3
                    generalize nextB r = nb at k1 k2 k3
                    clear hk hs2
                    go_wp2_with fail
                    rw [HRES.out, HS2.out]
                    refine ret_tree1 rfl rfl rfl (((HB2.out.set 0 _).set 1 _).set 2 _) ⟨_, rfl, ?_, ?_, ?_⟩
                    · exact ERep.mono (fun k hk => .inl (by have : k < w.heap.size := hk; omega)) _ _ (ERep.fr (fr_store3 w2 w.heap.size _ _ _) (fun k _ hk => by have : k = w.heap.size := hk; left; omega) _ _ HR2.out)
                    · exact HT2.out.fr (fr_store3 w2 w.heap.size _ _ _) (fun h => by have : g = w.heap.size := h; omega)
                    · exact HF2.out.trans (fr_store3 w2 w.heap.size _ _ _) (fun k hk h => by have : k = w.heap.size := h; omega)
                  · obtain ⟨c', t, hsk⟩ : ∃ c' t, skipB r = c' :: t := by
                      cases hsk : skipB r with
                      | nil => rw [nextB_nil hsk] at hk; exact absurd rfl hk
                      | cons c t => exact ⟨c, t, rfl⟩
                    have HSK2 := Lib.hid hsk
                    rw [hsk] at t1 hl
                    obtain ⟨n, hn2⟩ : ∃ n, n = s.size - (c' :: t).length := ⟨_, rfl⟩
                    have en : ((s.size : Int) - ((c' :: t).length : Int)) = (n : Int) := by omega
                    rw [en] at t1
                    have HN := Lib.hid hn2
                    have hn3 : n + 1 ≤ 200 := by simp only [List.length_cons] at hn2; omega
                    have hsg := signI_next hsk
                    have HK := Lib.hid (show signK c' ≠ 0 by rw [← hsg]; exact hk)
                    have h3 : nextB r = 42 ∧ signK c' = 4 ∨ nextB r = 43 ∧ signK c' = 5 ∨ nextB r = 63 ∧ signK c' = 6 := by
                      rw [← hsg]
                      unfold signI at hk ⊢
                      by_cases q1 : nextB r = 42
                      · left; exact ⟨q1, by rw [q1]; rfl⟩
                      · by_cases q2 : nextB r = 43
                        · right; left; exact ⟨q2, by rw [q2]; rfl⟩
                        · by_cases q3 : nextB r = 63
                          · right; right; exact ⟨q3, by rw [q3]; rfl⟩
                          · exact absurd (by simp [q1, q2, q3]) hk
                    clear hn2 en hk hsk hsg
                    rcases h3 with ⟨hnx, hkx⟩ | ⟨hnx, hkx⟩ | ⟨hnx, hkx⟩
                    all_goals
                      rw [hnx]
                      have HKX := Lib.hid hkx
                      clear hnx hkx
                      go_wp2_with fail
                      go_roundg t.length
                      case measure => have := skipB_le r; rw [HSK2.out] at this; simp only [List.length_cons] at this; omega
                      case rel =>
                        have hT3 := HT2.out
                        rw [HSK2.out] at hT3
                        have hn4 : (n : Int) + 1 = (s.size : Int) - t.length := by have h1 := HN.out; simp only [List.length_cons] at h1 hl; omega
                        have hT4 := hT3.step _ hn4
                        have f1 := (Fr.refl (One g) w2).setCell (p := ⟨g, 1, none⟩) (.inl rfl) (.int .i64 ((n : Int) + 1))
                        have f2 := fr_store3 (w2.setCell ⟨g, 1, none⟩ (.int .i64 ((n : Int) + 1))) w1.heap.size (.int .i64 (signK c')) (.string ⟨#[]⟩) (.slice (some ⟨w2.heap.size, 0, none⟩) 1 1)
                        rw [HKX.out] at f2
                        have f3 := fun (W : World) => (Fr.refl Nob W).alloc (Obj.cells #[.int .i64 x.k, .string x.name, .slice A x.l.length c] 24)
                        refine ⟨.node (signK c') ⟨#[]⟩ [x], t, some ⟨w2.heap.size, 0, none⟩, 1, m - 1, rfl, ⟨?_, ?_, ?_, ?_, ?_⟩, ?_, ?_⟩
                        · exact (hT4.fr f2 (fun h => by have : g = w1.heap.size := h; omega)).fr (f3 _) (fun h => h)
                        · exact ((HB2.out.fr f1 (fun h => by have : w.heap.size = g := h; omega)).fr f2 (fun h => by have : w.heap.size = w1.heap.size := h; omega)).fr (f3 _) (fun h => h)
                        · rw [show (Tree.node (signK c') ⟨#[]⟩ [x]).k = signK c' from rfl, HKX.out]
                          exact (((((HX2.out.fr f1 (fun h => by have : w1.heap.size = g := h; omega)).set 0 _).set 1 _).set 2 _).alloc _)
                        · have hr := ERep.fr (f3 _) (fun _ _ h => h.elim) _ _ (ERep.fr f2 (fun k _ hk => .inr hk) _ _ (ERep.fr f1 (fun k _ hk => by have : k = g := hk; left; omega) _ _ HR2.out))
                          refine ERep.mk (l := [x]) (Nat.le_refl _) ?_ (EReps.one hr)
                          refine fun _ => ⟨_, rfl, ?_, fun j u hu => ?_⟩
                          · rintro (h | h)
                            · have : w2.heap.size < w.heap.size + 1 := h; omega
                            · have : w2.heap.size = w1.heap.size := h; omega
                          · rw [add_lit]
                            exact ((Blk.new_at _ _ _ _ (by simp)).cell j).trans hu
                        · exact ((HF2.out.same f1).trans f2 (fun k hk h => by have : k = w1.heap.size := h; omega)).none (f3 _)
                        · have h1 := HM.out.1
                          have h2 := skipB_le r
                          rw [HSK2.out] at h2
                          simp only [List.length_cons] at h2
                          omega
                        · have h1 := HM.out.1
                          rw [← HM.out.2]
                          obtain ⟨m', rfl⟩ : ∃ m', m = m' + 1 := ⟨m - 1, by omega⟩
                          have hk : ¬ signK c' = 0 := HK.out
                          simp only [signsF, HSK2.out, hk, if_false, Nat.add_sub_cancel]
    · -- neither a letter nor a bracket
      have hn : (nextB r0 ≥ 97 → ¬ nextB r0 ≤ 122) ∧ nextB r0 ≠ 40 := by
        cases hsk : skipB r0 with
        | nil => rw [nextB_nil hsk]; omega
        | cons c t =>
          have h1 := nextB_ne hsk 40 (by omega) (fun h => hp ⟨t, by rw [hsk, UInt8.toNat_inj.1 (show c.toNat = (40 : UInt8).toNat from h)]⟩)
          refine ⟨fun h2 h3 => hl ⟨c, t, hsk, ?_⟩, h1⟩
          unfold nextB at h2 h3
          rw [hsk] at h2 h3
          simp only at h2 h3
          rw [letter_nat]
          split at h2 <;> split at h3 <;> simp <;> omega
      have hbad : partF C r0 = .err (skipB r0) := by
        have ha : atomF C r0 = .err (skipB r0) := by
          unfold atomF
          split
          · rename_i t h; exact absurd ⟨t, h⟩ hp
          · rw [if_pos]
            cases hsk : skipB r0 with
            | nil => rfl
            | cons c t => rw [List.takeWhile_cons, if_neg (fun h => hl ⟨c, t, hsk, h⟩)]
        unfold partF
        rw [ha]
      have HBAD := Lib.hid hbad
      have e2 := HT1.out.cb
      have f2 := HT1.out.fz 2
      have hlg := HT1.out.1.lt
      have hlb := hb0.lt
      have a0 := hb0.cell 0
      have a1 := hb0.cell 1
      have a2 := hb0.cell 2
      have b0 := hb0.frozen 0
      have b1 := hb0.frozen 1
      have b2 := hb0.frozen 2
      simp only [List.getElem?_cons_zero, List.getElem?_cons_succ] at a0 a1 a2
      generalize nextB r0 = nb at hn
      obtain ⟨hn1, hn2⟩ := hn
      have hn3 : (nb == 40) = false := by simpa using hn2
      have hne : w.heap.size ≠ g := by omega
      clear hp hl hbad hb0 hT1
      by_cases h97 : nb ≥ 97
      · have h122 : ¬ nb ≤ 122 := hn1 h97
        clear hn1 hn2
        go_wp2_with fail
        rw [HBAD.out]
        have ft : Fr (One g) w1 (w1.setCell ⟨g, 2, none⟩ (.bool true)) := (Fr.refl (One g) w1).setCell (p := ⟨g, 2, none⟩) (.inl rfl) _
        have f3 := (fr_store3 (w1.setCell ⟨g, 2, none⟩ (.bool true)) w.heap.size (.int .i64 0) (.string ⟨#[]⟩) (.slice none 0 0)).alloc (.cells #[.int .i64 0, .string ⟨#[]⟩, .slice none 0 0] 24)
        have hk := skipB_le r0
        refine ret_tree1 rfl rfl rfl (((((HB0.out.fr ft (fun h => hne h)).set 0 _).set 1 _).set 2 _).alloc _) ⟨.node 0 ⟨#[]⟩ [], _, rfl, ERep.empty _ _ _ _, ?_, ?_, ?_, ?_, ?_⟩
        · exact HT1.out.err.fr f3 (fun h => hne (Eq.symm h))
        · exact (HF1.out.same ft).trans f3 (fun k hk h => by have : k = w.heap.size := h; omega)
        · show 0 + (skipB r0).length ≤ r0.length; omega
        · intro h; rcases h with h | h <;> cases h
        · exact hk
      · clear hn1 hn2
        go_wp2_with fail
        rw [HBAD.out]
        have ft : Fr (One g) w1 (w1.setCell ⟨g, 2, none⟩ (.bool true)) := (Fr.refl (One g) w1).setCell (p := ⟨g, 2, none⟩) (.inl rfl) _
        have f3 := (fr_store3 (w1.setCell ⟨g, 2, none⟩ (.bool true)) w.heap.size (.int .i64 0) (.string ⟨#[]⟩) (.slice none 0 0)).alloc (.cells #[.int .i64 0, .string ⟨#[]⟩, .slice none 0 0] 24)
        have hk := skipB_le r0
        refine ret_tree1 rfl rfl rfl (((((HB0.out.fr ft (fun h => hne h)).set 0 _).set 1 _).set 2 _).alloc _) ⟨.node 0 ⟨#[]⟩ [], _, rfl, ERep.empty _ _ _ _, ?_, ?_, ?_, ?_, ?_⟩
        · exact HT1.out.err.fr f3 (fun h => hne (Eq.symm h))
        · exact (HF1.out.same ft).trans f3 (fun k hk h => by have : k = w.heap.size := h; omega)
        · show 0 + (skipB r0).length ≤ r0.length; omega
        · intro h; rcases h with h | h <;> cases h
        · exact hk
end Go.Proofs.YtgmjgflifgjpmaaDoor
