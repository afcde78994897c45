/- A part of the proof for chapter 10: ExprAtom; no conditions. -/
import Derived.Test.YtldcffonfidbcaaGreatDoorY02
import Derived.StillTailTactics
import Derived.Deep.RegionWith
import Derived.Lib.Strings
/- 'atom': a name, or what is in brackets. -/
namespace Go.Proofs.YtldcffonfidbcaaGreatDoor
open Go.RowKit

theorem bytes_ext {a b : ByteArray} (h : a.data.toList = b.data.toList) : a = b := by
  cases a; cases b
  simp only [ByteArray.mk.injEq]
  exact Array.toList_inj.1 h
theorem cut_pre (s : ByteArray) (pre r : List UInt8) (hl : (pre ++ r).length ≤ s.size) (h : s.data.toList.drop (s.size - (pre ++ r).length) = pre ++ r) : s.extract (s.size - (pre ++ r).length) (s.size - r.length) = ⟨pre.toArray⟩ := by
  apply bytes_ext
  rw [Lib.extract_data]
  simp only [List.length_append] at *
  have e : s.size - r.length - (s.size - (pre.length + r.length)) = pre.length := by omega
  rw [e, h]
  simp
theorem cut_one (s : ByteArray) (c : UInt8) (r : List UInt8) (hl : (c :: r).length ≤ s.size) (h : s.data.toList.drop (s.size - (c :: r).length) = c :: r) : (s.extract (s.size - (c :: r).length) (s.size - r.length)).data.toList = [c] := by
  have := cut_pre s [c] r hl h
  rw [show (c :: r) = [c] ++ r from rfl, this]

theorem split_at_end {pre r : List UInt8} (hp : pre.all letter = true) (hr : r.takeWhile letter = []) : (pre ++ r).takeWhile letter = pre ∧ (pre ++ r).dropWhile letter = r := by
  induction pre with
  | nil =>
    refine ⟨hr, ?_⟩
    have := List.takeWhile_append_dropWhile (p := letter) (l := r)
    rw [hr] at this
    exact this
  | cons c pre ih =>
    simp only [List.all_cons, Bool.and_eq_true] at hp
    obtain ⟨h1, h2⟩ := ih hp.2
    simp only [List.cons_append, List.takeWhile_cons, List.dropWhile_cons, hp.1, if_true, h1, h2, and_self]

set_option maxRecDepth 100000 in
set_option maxHeartbeats 4000000 in
theorem atom_any (C : List UInt8 → Res) (N : Nat) (g : Nat) (s : ByteArray) (hs : s.size ≤ 200) (r0 : List UInt8) (hN : r0.length ≤ N) (w : World) (hT : Tx w g s r0)
    (H1 : ∀ w r, r.length < N → Tx w g s r → Calls Tryz.prog 119 #[.pointer (some ⟨g, 0, none⟩)] w (Out g s w (C r))) :
    Calls Tryz.prog 180 #[.pointer (some ⟨g, 0, none⟩)] w (Out g s w (atomF C r0)) := by
  have hgw := hT.1.lt
  have HT := Lib.hid hT
  have K1 := Lib.hid H1
  clear hT H1
  go_enter Tryz.func180, Tryz.ntmps180
  go_wp2_with fail
  refine (next_any g s (by omega) r0 _ (HT.out.fr ((Fr.refl Nob w).alloc _) (fun h => h))).mono ?_
  rintro e w1 ⟨rfl, hT1, hF1⟩
  have hb0 := (Blk.new w [.int .i64 0, .string ⟨#[]⟩, .slice none 0 0] 82).fr hF1 (fun h => by have : w.heap.size = g := h; omega)
  have hFw : Fr (One g) w w1 := ((Fr.refl (One g) w).alloc _).same hF1
  have HB0 := Lib.hid hb0
  have HF := Lib.hid hFw
  have c1 := hT1.ci
  have f1 := hT1.fz 1
  have c0 := hT1.cs
  have hl := hT1.2.1
  have HT1 := Lib.hid hT1
  have hlt := hb0.lt
  clear hT1 hF1 hFw hb0
  by_cases hp : ∃ t, skipB r0 = 40 :: t
  · obtain ⟨t, hsk⟩ := hp
    have hn : nextB r0 = 40 := nextB_eq hsk (by decide)
    have ha : atomF C r0 = closeF (C t) := by unfold atomF; rw [hsk]; rfl
    have HS := Lib.hid hsk
    have HA := Lib.hid ha
    rw [hn]
    rw [hsk] at c1 hl
    simp only [List.length_cons] at c1 hl
    have e : ((s.size : Int) - ((t.length + 1 : Nat) : Int)) = ((s.size - (t.length + 1) : Nat) : Int) := by omega
    rw [e] at c1
    clear hsk ha hn e
    go_wp2_with fail
    have hT2 := HT1.out
    rw [HS.out] at hT2
    have hT3 := hT2.step _ (show ((s.size - (t.length + 1) : Nat) : Int) + 1 = _ by omega)
    have hFs := (Fr.refl (One g) w1).setCell (p := ⟨g, 1, none⟩) (.inl rfl) (.int .i64 (((s.size - (t.length + 1) : Nat) : Int) + 1))
    have hlen : t.length < N := by have := skipB_le r0; rw [HS.out] at this; simp at this; omega
    refine (K1.out _ t hlen hT3).mono ?_
    rintro e w2 hO
    have hF2 := HF.out.same hFs
    have HF2 := Lib.hid hF2
    have hb2 := HB0.out.fr hFs (fun h => by have : w.heap.size = g := h; omega)
    have HB2 := Lib.hid hb2
    have hsz := hFs.size
    clear hF2 hb2 hT2 hT3 hFs c0 c1 f1
    cases hC : C t with
    | err r1 =>
      rw [hC] at hO
      obtain ⟨x, cs, bf, rfl, hx, hbf, hbl, hfr⟩ := hO
      obtain ⟨A, c, css, rfl, hc, hR, hE⟩ := hx.open_
      have hb := HB2.out.fr hfr (fun h => by have : w.heap.size = g := h; omega)
      have HX := Lib.hid hx
      have HBf := Lib.hid hbf
      have HFR := Lib.hid hfr
      have HB3 := Lib.hid hb
      have c0 := hb.cell 0
      have c1 := hb.cell 1
      have c2 := hb.cell 2
      have f0 := hb.frozen 0
      have f1 := hb.frozen 1
      have f2 := hb.frozen 2
      have hl2 := hb.lt
      have HC := Lib.hid hC
      clear hx hR hE hbf hfr hb hC
      simp only [List.getElem?_cons_zero, List.getElem?_cons_succ] at c0 c1 c2
      go_wp2_with fail
      rw [HA.out, HC.out, show closeF (.err r1) = .err r1 from rfl]
      exact ret_tree (ev := .iface 163 (.pointer (some ⟨bf, 0, none⟩))) rfl rfl rfl rfl ((((HB3.out.set 0 _).set 1 _).set 2 _).alloc _) (Out.err_of HF2.out (by omega) HFR.out HX.out (HBf.out.fr ((fr_store3 w2 w.heap.size _ _ _).alloc _) (fun h => by have : bf = w.heap.size := h; omega)) hbl ((fr_store3 w2 w.heap.size _ _ _).alloc _))
    | ok x r1 =>
      rw [hC] at hO
      obtain ⟨cs, rfl, hx, hTx, hfr⟩ := hO
      obtain ⟨A, c, css, rfl, hc, hR, hE⟩ := hx.open_
      have hb := HB2.out.fr hfr (fun h => by have : w.heap.size = g := h; omega)
      have hl2 := hb.lt
      have HX := Lib.hid hx
      have HFR := Lib.hid hfr
      have HB3 := Lib.hid hb
      have HTx := Lib.hid hTx
      have HC := Lib.hid hC
      clear hx hR hE hfr hb hC hTx
      go_wp2_with fail
      refine (next_any g s (by omega) r1 _ (HTx.out.fr ((Fr.refl Nob w2).alloc _) (fun h => h))).mono ?_
      rintro e w3 ⟨rfl, hT3, hF3⟩
      have hF23 := ((Fr.refl (One g) w2).alloc (Obj.cells #[.int .i64 x.k, .string x.name, .slice A x.l.length c] 82)).same hF3
      have hxb := (Blk.new_at w2 [.int .i64 x.k, .string x.name, .slice A x.l.length c] 82 _ rfl).fr hF3 (fun h => by have : w2.heap.size = g := h; omega)
      have hb3 := HB3.out.fr hF23 (fun h => by have : w.heap.size = g := h; omega)
      have d0 := hb3.cell 0
      have d1 := hb3.cell 1
      have d2 := hb3.cell 2
      have f0 := hb3.frozen 0
      have f1 := hb3.frozen 1
      have f2 := hb3.frozen 2
      have x0 := hxb.cell 0
      have x1 := hxb.cell 1
      have x2 := hxb.cell 2
      simp only [List.getElem?_cons_zero, List.getElem?_cons_succ] at d0 d1 d2 x0 x1 x2
      have hl3 := hb3.lt
      have hl4 := hxb.lt
      have c1 := hT3.ci
      have g1 := hT3.fz 1
      have hl := hT3.2.1
      have HT3 := Lib.hid hT3
      have HB4 := Lib.hid hb3
      have HF23 := Lib.hid hF23
      have hX3 := ERep.fr HF23.out (M := fun k => k < (w1.setCell ⟨g, 1, none⟩ (.int .i64 (((s.size - (t.length + 1) : Nat) : Int) + 1))).heap.size) (fun k _ hk => by have : k = g := hk; omega) _ _ HX.out
      have HX3 := Lib.hid hX3
      clear hT3 hF3 hF23 hxb hb3 hX3
      by_cases hq : ∃ t2, skipB r1 = 41 :: t2
      · obtain ⟨t2, hsk⟩ := hq
        have hn : nextB r1 = 41 := nextB_eq hsk (by decide)
        have ha : closeF (.ok x r1) = .ok x t2 := by unfold closeF; simp only []; rw [hsk]; rfl
        have HS2 := Lib.hid hsk
        have HA2 := Lib.hid ha
        rw [hn]
        rw [hsk] at c1 hl
        simp only [List.length_cons] at c1 hl
        have e : ((s.size : Int) - ((t2.length + 1 : Nat) : Int)) = ((s.size - (t2.length + 1) : Nat) : Int) := by omega
        rw [e] at c1
        clear hsk ha hn e
        go_wp2_with fail
        rw [HA.out, HC.out, HA2.out]
        have hT4 := HT3.out
        rw [HS2.out] at hT4
        have hT5 := hT4.step _ (show ((s.size - (t2.length + 1) : Nat) : Int) + 1 = _ by omega)
        have hF4 := (Fr.refl (One g) w3).setCell (p := ⟨g, 1, none⟩) (.inl rfl) (.int .i64 (((s.size - (t2.length + 1) : Nat) : Int) + 1))
        refine ret_tree (ev := .nilIface) rfl rfl rfl rfl ((((HB4.out.fr hF4 (fun h => by have : w.heap.size = g := h; omega)).set 0 _).set 1 _).set 2 _) (Out.ok_of HF2.out (by omega) ((HFR.out.same HF23.out).same hF4) (ERep.fr hF4 (fun k _ hk => by have : k = g := hk; omega) _ _ HX3.out) hT5 hgw (fr_store3 _ w.heap.size _ _ _))
      · have ha : closeF (.ok x r1) = .err (skipB r1) := by
          unfold closeF
          simp only []
          split
          · rename_i t2 h; exact absurd ⟨t2, h⟩ hq
          · rfl
        have hn : (nextB r1 != 41) = true := by
          cases hsk : skipB r1 with
          | nil => rw [nextB_nil hsk]; rfl
          | cons c t2 =>
            have := nextB_ne hsk 41 (by omega) (fun h => hq ⟨t2, by rw [hsk, UInt8.toNat_inj.1 (show c.toNat = (41 : UInt8).toNat from h)]⟩)
            simpa using this
        have HA2 := Lib.hid ha
        clear ha hq
        go_wp2_with fail
        go_region_with (go_at_call 120; refine (wrong_any g s (skipB r1) _ ?_).mono ?_; exact HT3.out; rintro e w4 ⟨rfl, rfl⟩)
        all_goals go_wp2_with fail
        all_goals rw [HA.out, HC.out, HA2.out]
        all_goals refine ret_tree (ev := .iface 163 (.pointer (some ⟨w3.heap.size, 0, none⟩))) rfl rfl rfl rfl ((((HB4.out.set 0 _).set 1 _).set 2 _).alloc _) (Out.err_of HF2.out (by omega) (HFR.out.same HF23.out) HX3.out (Blk.new_at _ _ _ _ ?_) ?_ ((fr_store3 w3 w.heap.size _ _ _).alloc _).drew)
        all_goals first | (have := HF23.out.size; have := HFR.out.size; simp; done) | (have := HF23.out.size; have := HFR.out.size; omega)
  · have ha : atomF C r0 = if (skipB r0).takeWhile letter = [] then .err (skipB r0) else .ok (.node 1 ⟨((skipB r0).takeWhile letter).toArray⟩ []) ((skipB r0).dropWhile letter) := by
      unfold atomF
      split
      · rename_i t h; exact absurd ⟨t, h⟩ hp
      · rfl
    have hn : (nextB r0 == 40) = false := by
      cases hsk : skipB r0 with
      | nil => rw [nextB_nil hsk]; rfl
      | cons c t2 =>
        have := nextB_ne hsk 40 (by omega) (fun h => hp ⟨t2, by rw [hsk, UInt8.toNat_inj.1 (show c.toNat = (40 : UInt8).toNat from h)]⟩)
        simpa using this
    have HA := Lib.hid ha
    clear ha hp
    generalize hq : skipB r0 = q at *
    have hlq : q.length ≤ s.size := hl
    obtain ⟨m, hm⟩ : ∃ m, m = s.size - q.length := ⟨_, rfl⟩
    have em : ((s.size : Int) - (q.length : Int)) = (m : Int) := by omega
    rw [em] at c1
    have HM := Lib.hid hm
    have HQ0 := Lib.hid hq
    clear hm em hq
    go_wp2_with fail
    go_loopg [] (q.length) (fun n wr => ∃ pre r : List UInt8, r.length = n ∧ Hid (q = pre ++ r) ∧ Hid (pre.all letter = true) ∧ Hid (Tx wr g s r) ∧ Hid (Fr (One g) w wr) ∧ Hid (Blk wr w.heap.size [.int .i64 0, .string ⟨#[]⟩, .slice none 0 0] 82))
    case atStart => exact ⟨[], q, rfl, rfl, rfl, HT1.out, HF.out, HB0.out⟩
    case round =>
      obtain ⟨pre, r, rfl, HQ, HP, HTr, HFr, HBr⟩ := hrel
      clear c0 c1 f1 hl
      have c0 := HTr.out.cs
      have c1 := HTr.out.ci
      have f1 := HTr.out.fz 1
      have hl := HTr.out.2.1
      have d0 := HBr.out.cell 0
      have d1 := HBr.out.cell 1
      have d2 := HBr.out.cell 2
      have g0 := HBr.out.frozen 0
      have g1 := HBr.out.frozen 1
      have g2 := HBr.out.frozen 2
      simp only [List.getElem?_cons_zero, List.getElem?_cons_succ] at d0 d1 d2
      have hlr := HBr.out.lt
      obtain ⟨n, hn2⟩ : ∃ n, n = s.size - r.length := ⟨_, rfl⟩
      have en : ((s.size : Int) - (r.length : Int)) = (n : Int) := by omega
      rw [en] at c1
      have HN := Lib.hid hn2
      clear hn2 en
      by_cases hlt2 : n < s.size
      · cases r with
        | nil => have := HN.out; simp at this; omega
        | cons c t =>
        have hnm : (s.extract n (n + 1)).data.toList = [c] := by
          have := cut_one s c t HTr.out.2.1 HTr.out.2.2
          have h2 := HN.out
          have h3 : n + 1 = s.size - t.length := by have := HTr.out.2.1; simp at this h2; omega
          rw [h3, h2]
          exact this
        have HNM := Lib.hid hnm
        clear hnm
        have w1' : IntKind.i64.wrap ((n : Int) + 1) = (n : Int) + 1 := IntWalk.i64_in _ (by omega)
        have w2' : 0 ≤ (n : Int) + 1 := by omega
        have w3' : ((n : Int) + 1).toNat = n + 1 := by omega
        have hsl : ∀ W : World, (Instr.slice 9 (.string s) (some (.int .i64 (n : Int))) (some (.int .i64 ((n : Int) + 1))) none).run Tryz.prog W = .ok (.string (s.extract n (n + 1))) W := fun W => by
          have := run_slice_string (P := Tryz.prog) (w := W) 9 s .i64 .i64 (n : Int) ((n : Int) + 1) Tryz.underlying9 (by omega) (by omega) (by omega)
          rw [w3'] at this
          simpa using this
        go_wp2_with (fail)
        go_still_tail 25, (by kernel_rfl)
        change wpList _ _ _ _ _ wr.drew
        generalize hwd : wr.drew = w2
        have hFd : Fr Nob wr w2 := by subst hwd; exact (Fr.refl _ _).drew
        have HFd := Lib.hid hFd
        clear hFd hwd hsl w1' w2' w3'
        go_wp2_with fail
        refine (name_any (s.extract n (n + 1)) (by rw [ByteArray.size_extract]; omega) _).mono ?_
        rintro e w5 ⟨rfl, hF5⟩
        have hF5' := HFd.out.same hF5
        have hT5 := HTr.out.fr hF5' (fun h => h)
        have hB5 := HBr.out.fr hF5' (fun h => h)
        have HF5 := Lib.hid (HFr.out.none hF5')
        clear c0 c1 f1 hl d0 d1 d2 g0 g1 g2 hlr
        have c0 := hT5.cs
        have c1 := hT5.ci
        have f1 := hT5.fz 1
        have d0 := hB5.cell 0
        have d1 := hB5.cell 1
        have d2 := hB5.cell 2
        have g0 := hB5.frozen 0
        have g1 := hB5.frozen 1
        have g2 := hB5.frozen 2
        simp only [List.getElem?_cons_zero, List.getElem?_cons_succ] at d0 d1 d2
        have hlr := hB5.lt
        have en : ((s.size : Int) - ((c :: t).length : Int)) = (n : Int) := by have := HN.out; have := hT5.2.1; omega
        rw [en] at c1
        have HT5 := Lib.hid hT5
        have HB5 := Lib.hid hB5
        clear hF5 hF5' hT5 hB5 en
        have hnb : nameB (s.extract n (n + 1)).data.toList = letter c := by rw [HNM.out]; simp [nameB]
        rw [hnb]
        clear hnb
        by_cases hlet : letter c = true
        · rw [hlet]
          have HLET := Lib.hid hlet
          clear hlet
          go_wp2_with fail
          go_roundg t.length
          case measure => simp
          case rel =>
            have hn1 : (n : Int) + 1 = (s.size : Int) - t.length := by have h1 := HN.out; have h2 := HTr.out.2.1; simp only [List.length_cons] at h1 h2; omega
            have fs := (Fr.refl (One g) w5).setCell (p := ⟨g, 1, none⟩) (.inl rfl) (.int .i64 ((n : Int) + 1))
            exact ⟨pre ++ [c], t, rfl, by rw [Hid, HQ.out]; simp, by have := HP.out; have := HLET.out; simp_all [Hid], HT5.out.step _ hn1, HF5.out.same fs, HB5.out.fr fs (fun h => by have : w.heap.size = g := h; omega)⟩
        · have hlet' : letter c = false := by simpa using hlet
          rw [hlet']
          have HEND : Hid ((c :: t).takeWhile letter = []) := by simp [Hid, hlet']
          clear hlet hlet'
          by_cases hpre : pre = []
          · have hcmp : ((n : Int) == (m : Int)) = true := by
              have := HQ.out
              subst hpre
              have hqr : q.length = (c :: t).length := by rw [this]; rfl
              have := HM.out; have := HN.out
              simp; omega
            have HPR := Lib.hid hpre
            clear hpre
            go_wp2_with fail
            refine (wrong_any g s (c :: t) _ HT5.out).mono ?_
            rintro e w4 ⟨rfl, hw4⟩
            have hF4 : Fr (One g) w5 w4 := by rw [hw4]; exact (Fr.refl _ _).alloc _
            have hB4 := HB5.out.fr hF4 (fun h => by have : w.heap.size = g := h; omega)
            have hf4 : Blk w4 w5.heap.size [.int .i64 ((s.size : Int) - (c :: t).length), .iface 25 (.int .i64 4)] 167 := by rw [hw4]; exact Blk.new _ _ _
            have e0 := hB4.cell 0
            have e1 := hB4.cell 1
            have e2 := hB4.cell 2
            have k0 := hB4.frozen 0
            have k1 := hB4.frozen 1
            have k2 := hB4.frozen 2
            have hl4 := hB4.lt
            have HB4 := Lib.hid hB4
            have HF4 := Lib.hid hF4
            have Hf4 := Lib.hid hf4
            simp only [List.getElem?_cons_zero, List.getElem?_cons_succ] at e0 e1 e2
            clear hw4 hB4 hF4 hf4
            go_wp2_with fail
            have htw : q.takeWhile letter = [] := by rw [HQ.out, HPR.out]; exact HEND.out
            rw [HA.out, if_pos htw]
            have hqr : q = c :: t := by rw [HQ.out, HPR.out]; rfl
            rw [hqr]
            exact ret_tree (ev := .iface 163 (.pointer (some ⟨w5.heap.size, 0, none⟩))) rfl rfl rfl rfl (((HB4.out.set 0 _).set 1 _).set 2 _) (Out.err_of (x := .node 0 ⟨#[]⟩ []) HF5.out (by omega) HF4.out (ERep.empty _ _ _ _) (Hf4.out.fr (fr_store3 _ w.heap.size _ _ _) (fun h => by have : w5.heap.size = w.heap.size := h; omega)) (Nat.le_refl _) (fr_store3 _ w.heap.size _ _ _))
          · have hcmp : ((n : Int) == (m : Int)) = false := by
              have hqr : q.length = pre.length + (c :: t).length := by rw [HQ.out]; simp
              have : 0 < pre.length := List.length_pos_iff.2 hpre
              have := HM.out; have := HN.out; have := HT5.out.2.1
              simp; omega
            have HPR := Lib.hid hpre
            clear hpre
            go_wp2_with fail
            have hmn : m ≤ n := by have h1 := HM.out; have := HN.out; rw [HQ.out, List.length_append] at h1; omega
            have hns : n ≤ s.size := by have := HN.out; omega
            go_region
            all_goals go_wp2_with fail
            have htw : q.takeWhile letter = pre ∧ q.dropWhile letter = c :: t := by rw [HQ.out]; exact split_at_end HP.out HEND.out
            rw [HA.out, htw.1, if_neg HPR.out, htw.2]
            have hT0 := HT1.out
            rw [HQ.out] at hT0
            have hname : s.extract m n = ⟨pre.toArray⟩ := by rw [HM.out, HN.out, HQ.out]; exact cut_pre s pre (c :: t) hT0.2.1 hT0.2.2
            rw [hname]
            exact ret_tree (ev := .nilIface) rfl rfl rfl rfl ((((HB5.out.drewN _).set 0 _).set 1 _).set 2 _) (Out.ok_of HF5.out (by omega) ((Fr.refl (One g) w5).drewN _) (ERep.empty _ _ _ _) (HT5.out.drewN _) hgw (fr_store3 _ w.heap.size _ _ _))
      · have hw : r = [] := by have := HN.out; exact List.length_eq_zero_iff.1 (by omega)
        have HR := Lib.hid hw
        clear hw
        have HEND : Hid (r.takeWhile letter = []) := by rw [HR.out]; rfl
        have HL := Lib.hid hl
        clear hl
        go_wp2_with (fail)
        go_quiet (fail)
        generalize hwd : wr.drewN nq = w5
        have hT5 : Tx w5 g s r := by subst hwd; exact HTr.out.drewN _
        have hB5 : Blk w5 w.heap.size [.int .i64 0, .string ⟨#[]⟩, .slice none 0 0] 82 := by subst hwd; exact HBr.out.drewN _
        have HF5 : Hid (Fr (One g) w w5) := by subst hwd; exact HFr.out.drewN _
        clear c0 c1 f1 d0 d1 d2 g0 g1 g2 hlr hwd
        have c0 := hT5.cs
        have c1 := hT5.ci
        have f1 := hT5.fz 1
        have d0 := hB5.cell 0
        have d1 := hB5.cell 1
        have d2 := hB5.cell 2
        have g0 := hB5.frozen 0
        have g1 := hB5.frozen 1
        have g2 := hB5.frozen 2
        simp only [List.getElem?_cons_zero, List.getElem?_cons_succ] at d0 d1 d2
        have hlr := hB5.lt
        have en : ((s.size : Int) - (r.length : Int)) = (n : Int) := by have := HN.out; have := hT5.2.1; omega
        rw [en] at c1
        have HT5 := Lib.hid hT5
        have HB5 := Lib.hid hB5
        clear hT5 hB5 en
        by_cases hpre : pre = []
        · have hcmp : ((n : Int) == (m : Int)) = true := by
            have := HQ.out
            subst hpre
            have hqr : q.length = (r).length := by rw [this]; rfl
            have := HM.out; have := HN.out
            simp; omega
          have HPR := Lib.hid hpre
          clear hpre
          go_wp2_with fail
          refine (wrong_any g s (r) _ HT5.out).mono ?_
          rintro e w4 ⟨rfl, hw4⟩
          have hF4 : Fr (One g) w5 w4 := by rw [hw4]; exact (Fr.refl _ _).alloc _
          have hB4 := HB5.out.fr hF4 (fun h => by have : w.heap.size = g := h; omega)
          have hf4 : Blk w4 w5.heap.size [.int .i64 ((s.size : Int) - (r).length), .iface 25 (.int .i64 4)] 167 := by rw [hw4]; exact Blk.new _ _ _
          have e0 := hB4.cell 0
          have e1 := hB4.cell 1
          have e2 := hB4.cell 2
          have k0 := hB4.frozen 0
          have k1 := hB4.frozen 1
          have k2 := hB4.frozen 2
          have hl4 := hB4.lt
          have HB4 := Lib.hid hB4
          have HF4 := Lib.hid hF4
          have Hf4 := Lib.hid hf4
          simp only [List.getElem?_cons_zero, List.getElem?_cons_succ] at e0 e1 e2
          clear hw4 hB4 hF4 hf4
          go_wp2_with fail
          have htw : q.takeWhile letter = [] := by rw [HQ.out, HPR.out]; exact HEND.out
          rw [HA.out, if_pos htw]
          have hqr : q = r := by rw [HQ.out, HPR.out]; rfl
          rw [hqr]
          exact ret_tree (ev := .iface 163 (.pointer (some ⟨w5.heap.size, 0, none⟩))) rfl rfl rfl rfl (((HB4.out.set 0 _).set 1 _).set 2 _) (Out.err_of (x := .node 0 ⟨#[]⟩ []) HF5.out (by omega) HF4.out (ERep.empty _ _ _ _) (Hf4.out.fr (fr_store3 _ w.heap.size _ _ _) (fun h => by have : w5.heap.size = w.heap.size := h; omega)) (Nat.le_refl _) (fr_store3 _ w.heap.size _ _ _))
        · have hcmp : ((n : Int) == (m : Int)) = false := by
            have hqr : q.length = pre.length + (r).length := by rw [HQ.out]; simp
            have : 0 < pre.length := List.length_pos_iff.2 hpre
            have := HM.out; have := HN.out; have := HT5.out.2.1
            simp; omega
          have HPR := Lib.hid hpre
          clear hpre
          go_wp2_with fail
          have hmn : m ≤ n := by have h1 := HM.out; have := HN.out; rw [HQ.out, List.length_append] at h1; omega
          have hns : n ≤ s.size := by have := HN.out; omega
          go_region
          all_goals go_wp2_with fail
          have htw : q.takeWhile letter = pre ∧ q.dropWhile letter = r := by rw [HQ.out]; exact split_at_end HP.out HEND.out
          rw [HA.out, htw.1, if_neg HPR.out, htw.2]
          have hT0 := HT1.out
          rw [HQ.out] at hT0
          have hname : s.extract m n = ⟨pre.toArray⟩ := by rw [HM.out, HN.out, HQ.out]; exact cut_pre s pre (r) hT0.2.1 hT0.2.2
          rw [hname]
          exact ret_tree (ev := .nilIface) rfl rfl rfl rfl ((((HB5.out.drewN _).set 0 _).set 1 _).set 2 _) (Out.ok_of HF5.out (by omega) ((Fr.refl (One g) w5).drewN _) (ERep.empty _ _ _ _) (HT5.out.drewN _) hgw (fr_store3 _ w.heap.size _ _ _))
end Go.Proofs.YtldcffonfidbcaaGreatDoor
