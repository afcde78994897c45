/- The reference's 'alt'. (Written from 'seq' by text.) -/
import Derived.Test.YtgmjgflifgjpmaaDoorRefSeq
namespace Go.Proofs.YtgmjgflifgjpmaaDoor
open Go.RowKit
set_option maxRecDepth 100000 in
set_option maxHeartbeats 4000000 in
theorem alt_any (C : List UInt8 → Res) (hG : GoodA (rowF C)) (g : Nat) (s : ByteArray) (hs : s.size ≤ 200) (r0 : List UInt8) (w : World) (hT : TxR w g s r0 false)
    (H1 : ∀ w r, r.length ≤ r0.length → TxR w g s r false → Calls Tryd.prog 36 #[.pointer (some ⟨g, 0, none⟩)] w (OutR g s w (r.length + 1) r.length (rowF C r))) :
    Calls Tryd.prog 21 #[.pointer (some ⟨g, 0, none⟩)] w (OutR g s w (r0.length + 1) r0.length (someF 3 (rowF C) moreC (r0.length + 1) [] r0)) := by
  have hgw := hT.1.lt
  have HN0 := Lib.hid (Nat.le_trans hT.2.1 hs)
  have HT := Lib.hid hT
  have K1 := Lib.hid H1
  have HG := Lib.hid hG
  clear hT H1 hG
  go_enter Tryd.func21, Tryd.ntmps21
  go_wp2_with fail
  refine (K1.out _ r0 (Nat.le_refl _) (HT.out.fr ((Fr.refl Nob w).alloc _) (fun h => h))).mono ?_
  rintro e w1 hO
  obtain ⟨i0, hi, hz0, hz1, hz2⟩ := info_parts infoE
  have hfirst : ∃ x A c r b, e = .returned (.agg #[.int .i64 x.k, .string x.name, .slice A x.l.length c]) ∧
      RefI 3 (rowF C) moreC (someF 3 (rowF C) moreC (r0.length + 1) [] r0) g s w r0.length [x] r b (.slice (some ⟨w1.heap.size, 0, none⟩) 1 1) (w1.alloc (.cells #[.int .i64 x.k, .string x.name, .slice A x.l.length c] 24)) := by
    cases hP : rowF C r0 with
    | err r1 =>
      rw [hP] at hO
      obtain ⟨x, cs, rfl, hx, hTx, hfr, hb1, hb2, hb3⟩ := hO
      obtain ⟨A, c, css, rfl, hc, hR, hE⟩ := hx.open_
      exact ⟨x, A, c, r1, true, rfl, RefI.first hgw hfr hTx hx hb2 (by simp; omega) (by simp; omega) (fun _ => hP) (fun h => by cases h)⟩
    | ok x r1 =>
      rw [hP] at hO
      obtain ⟨cs, rfl, hx, hTx, hfr⟩ := hO
      obtain ⟨A, c, css, rfl, hc, hR, hE⟩ := hx.open_
      obtain ⟨a1, a2, a3⟩ := HG.out r0 x r1 hP
      exact ⟨x, A, c, r1, false, rfl, RefI.first hgw hfr hTx hx a3 (by simp; omega) (by simp; omega) (fun h => by cases h) (fun _ => hP)⟩
  obtain ⟨x, A, c, r, b, rfl, hI⟩ := hfirst
  clear hO
  have HI0 := Lib.hid hI
  clear hI
  generalize hw2 : w1.alloc (.cells #[.int .i64 x.k, .string x.name, .slice A x.l.length c] 24) = w2 at HI0
  go_wp2_with fail
  clear hw2
  go_loopg [3] (if b then 0 else r.length + 1) (fun n lv wr => ∃ l r b, n = (if b then 0 else r.length + 1) ∧ Hid (r.length ≤ r0.length) ∧ Hid (RefI 3 (rowF C) moreC (someF 3 (rowF C) moreC (r0.length + 1) [] r0) g s w r0.length l r b lv wr))
  case atStart => exact ⟨[x], r, b, rfl, by have := HI0.out.few; simp at this; show r.length ≤ r0.length; split at this <;> omega, HI0.out⟩
  case round =>
    obtain ⟨l, r, b, rfl, HLE, HI⟩ := hrel
    obtain ⟨A2, c2, rfl⟩ := HI.out.own.slice
    have cb := HI.out.text.cb
    cases b with
    | true =>
      go_wp2_with fail
      refine (HI.out.join (.inr rfl) hgw HN0.out (Fr.refl _ _)).mono ?_
      rintro e w4 ⟨kk, nn, A3, m3, c3, rfl, hX, hF4⟩
      have hb4 := HI.out.out.fr hF4 (fun h => h)
      have a0 := hb4.cell 0
      have a1 := hb4.cell 1
      have a2 := hb4.cell 2
      have f0 := hb4.frozen 0
      have f1 := hb4.frozen 1
      have f2 := hb4.frozen 2
      have hl4 := hb4.lt
      simp only [List.getElem?_cons_zero, List.getElem?_cons_succ] at a0 a1 a2
      have hd := HI.out.done (.inr rfl) hgw (Fr.refl _ _) HI.out.text hF4 hX (fun _ => rfl) (fun h => by cases h)
      have HD := Lib.hid hd
      clear hX hF4 hb4 hd
      go_wp2_with fail
      exact ret_tree1 rfl rfl rfl HD.out.2 HD.out.1
    | false =>
      go_wp2_with fail
      refine (peek_any g s (by omega) r false _ HI.out.text).mono ?_
      rintro e w3 ⟨rfl, hT3, hF3⟩
      rw [show peekB false r = nextB r from rfl]
      have HT3 := Lib.hid hT3
      have HF3 := Lib.hid hF3
      by_cases hp : ∃ t, skipB r = 124 :: t
      · obtain ⟨t, hsk⟩ := hp
        have hmr : moreC r = (true, t) := by rw [moreC_of hsk, if_pos rfl]
        have htl : t.length ≤ r.length := by have := skipB_le r; rw [hsk] at this; simp only [List.length_cons] at this; omega
        have htl1 : t.length + 1 ≤ r.length := by have := skipB_le r; rw [hsk] at this; simpa using this
        rw [nextB_eq hsk (by decide)]
        rw [hsk] at hT3
        have c1 := hT3.ci
        have f1 := hT3.fz 1
        have hl := hT3.2.1
        have hTs := hT3.step ((s.size : Int) - t.length) rfl
        simp only [List.length_cons] at c1 hl
        have e1 : ((s.size : Int) - ((t.length + 1 : Nat) : Int)) = ((s.size - (t.length + 1) : Nat) : Int) := by omega
        have e2 : ((s.size : Int) - (t.length : Int)) = ((s.size - (t.length + 1) : Nat) : Int) + 1 := by omega
        rw [e1] at c1
        rw [e2] at hTs
        have HMR := Lib.hid hmr
        have HTS := Lib.hid hTs
        clear hT3 hF3 hmr hsk hTs e1 e2
        have hfa : Fr (One g) wr (w3.setCell ⟨g, 1, none⟩ (.int .i64 (((s.size - (t.length + 1) : Nat) : Int) + 1))) := HF3.out.same ((Fr.refl (One g) w3).setCell (p := ⟨g, 1, none⟩) (.inl rfl) _)
        have HFA := Lib.hid hfa
        clear hfa
        go_wp2_with fail
        have hle2 : t.length ≤ r0.length := by have := HLE.out; omega
        generalize hwa : w3.setCell ⟨g, 1, none⟩ (.int .i64 (((s.size - (t.length + 1) : Nat) : Int) + 1)) = wa at HFA HTS
        clear hwa
        refine (K1.out wa t hle2 HTS.out).mono ?_
        rintro e w4 hO
        obtain ⟨css0, hown, hrep⟩ := HI.out.own
        have hol := own_base hown
        have hnx : ∃ y A4 c4 q b2, e = .returned (.agg #[.int .i64 y.k, .string y.name, .slice A4 y.l.length c4]) ∧ Fr (One g) wa w4 ∧ TxR w4 g s q b2 ∧ ERep (fun k => k < wa.heap.size) w4 y [.int .i64 y.k, .string y.name, .slice A4 y.l.length c4] ∧ (y.k = 2 ∨ y.k = 3 → y.l ≠ []) ∧
            1 + q.length ≤ t.length + (if b2 then 1 else 0) ∧ y.l.length + q.length ≤ t.length + (if b2 then 1 else 0) ∧ (b2 = true → rowF C t = .err q) ∧ (b2 = false → rowF C t = .ok y q) := by
          cases hP : rowF C t with
          | err q =>
            rw [hP] at hO
            obtain ⟨y, cs, rfl, hx, hTx, hfr, hb1, hb2, hb3⟩ := hO
            obtain ⟨A4, c4, css4, rfl, _, _, _⟩ := hx.open_
            exact ⟨y, A4, c4, q, true, rfl, hfr, hTx, hx, hb2, by simp; omega, by simp; omega, fun _ => rfl, fun h => by cases h⟩
          | ok y q =>
            rw [hP] at hO
            obtain ⟨cs, rfl, hx, hTx, hfr⟩ := hO
            obtain ⟨A4, c4, css4, rfl, _, _, _⟩ := hx.open_
            obtain ⟨a1, a2, a3⟩ := HG.out t y q hP
            exact ⟨y, A4, c4, q, false, rfl, hfr, hTx, hx, a3, by simp; omega, by simp; omega, fun h => (by cases h), fun _ => rfl⟩
        obtain ⟨y, A4, c4, q, b2, rfl, hfr, hTx, hY, hyg, l1, l2, p1, p2⟩ := hnx
        clear hO
        have hf34 := HFA.out.same hfr
        have hown4 := own_fr hown hf34 (fun k hk h => by have := (hol k hk).1; have : k = g := h; omega)
        have hrep4 := EReps.fr hf34 (M := fun k => k < w.heap.size + 1 ∨ some k = (Value.slice A2 l.length c2).ownBlock) (fun k _ hk => by have : k = g := hk; exact .inl (by omega)) _ _ hrep
        have hfew := HI.out.few
        simp only [Bool.false_eq_true, if_false] at hfew
        have hn0 := HN0.out
        have HOL := Lib.hid hol
        have HREP := Lib.hid hrep4
        have HNX := Lib.hid (And.intro hfr (And.intro hTx (And.intro hY (And.intro hyg (And.intro l1 (And.intro l2 (And.intro p1 p2)))))))
        clear hol hrep hrep4 hfr hTx hY hyg p1 p2 hf34 hown hle2
        go_wp2_with (at_builtin; refine wpList_append_own_at _ rfl _ _ 22 rfl (w.heap.size + 1) 24 i0 _ 3 48 Tryd.underlying22 hi hz0 hz1 hz2 rfl (by decide) (.slice A2 l.length c2) l.length css0 rfl (hown4.alloc _) ⟨w4.heap.size, 0, none⟩ 1 1 [.int .i64 y.k, .string y.name, .slice A4 y.l.length c4] rfl ?c1 ?c2 ?c3 ?c4 ?c5 ?c6 ?_)
        case c1 => rfl
        case c2 =>
          intro j u hj
          have hb := ((Blk.new_at w4 [.int .i64 y.k, .string y.name, .slice A4 y.l.length c4] 24 w4.heap.size rfl).cell j).trans hj
          rw [add_lit]
          exact hb
        case c3 => simp [Value.oneCell']
        case c4 => unfold maxLen; omega
        case c5 => omega
        case c6 => have h1 := HFA.out.size; have h2 := HNX.out.1.size; have := HI.out.out.lt; simp; omega
        intro v2 w5 hown2 hgr2 _ hat2
        have hnext := HI.out.next hgw HMR.out htl HFA.out HNX.out.1 HNX.out.2.1 HNX.out.2.2.1 HNX.out.2.2.2.1 HNX.out.2.2.2.2.1 HNX.out.2.2.2.2.2.1 HNX.out.2.2.2.2.2.2.1 HNX.out.2.2.2.2.2.2.2 HREP.out hown2 hgr2 (by simpa using hat2) HOL.out
        have HNXT := Lib.hid hnext
        clear hnext hown2 hgr2 hat2 hown4
        go_wp2_with fail
        go_roundg (if b2 then 0 else q.length + 1)
        case measure =>
          cases b2
          · simp only [Bool.false_eq_true, if_false] at l1 ⊢; omega
          · show 0 < r.length + 1; omega
        case rel =>
          refine ⟨l ++ [y], q, b2, rfl, ?_, HNXT.out⟩
          show q.length ≤ r0.length
          have h2 := HLE.out
          split at l1 <;> omega
      · have hmr : moreC r = (false, skipB r) := by
          cases hsk : skipB r with
          | nil => unfold moreC; rw [hsk]
          | cons c t => rw [moreC_of hsk, if_neg (fun hc => hp ⟨t, by rw [hsk, hc]⟩)]
        have hn : (nextB r == 124) = false := by
          cases hsk : skipB r with
          | nil => rw [nextB_nil hsk]; rfl
          | cons c t =>
            have := nextB_ne hsk 124 (by omega) (fun h => hp ⟨t, by rw [hsk, UInt8.toNat_inj.1 (show c.toNat = (124 : UInt8).toNat from h)]⟩)
            simpa using this
        have hres : someF 3 (rowF C) moreC (r0.length + 1) [] r0 = .ok (joinK 3 l) (skipB r) := by
          obtain ⟨m, _, hq⟩ := HI.out.run2 rfl
          rw [hmr] at hq
          exact hq.symm
        have HRES := Lib.hid hres
        clear hres hmr hp hT3 hF3
        generalize nextB r = nb at hn
        go_wp2_with fail
        refine (HI.out.join (.inr rfl) hgw HN0.out HF3.out).mono ?_
        rintro e w4 ⟨kk, nn, A3, m3, c3, rfl, hX, hF4⟩
        have hb4 := (HI.out.out.fr HF3.out (fun h => by have : w.heap.size = g := h; omega)).fr hF4 (fun h => h)
        have a0 := hb4.cell 0
        have a1 := hb4.cell 1
        have a2 := hb4.cell 2
        have f0 := hb4.frozen 0
        have f1 := hb4.frozen 1
        have f2 := hb4.frozen 2
        have hl4 := hb4.lt
        simp only [List.getElem?_cons_zero, List.getElem?_cons_succ] at a0 a1 a2
        have hd := HI.out.done (.inr rfl) hgw HF3.out HT3.out hF4 hX (fun h => by cases h) (fun _ => HRES.out)
        have HD := Lib.hid hd
        clear hX hF4 hb4 hd
        go_wp2_with fail
        exact ret_tree1 rfl rfl rfl HD.out.2 HD.out.1
end Go.Proofs.YtgmjgflifgjpmaaDoor
