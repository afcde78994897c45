/- The reference's 'Parse'. -/
import Derived.Test.YtgmjgflifgjpmaaDoorRefTie
import Derived.Test.YtgmjgflifgjpmaaDoorRefCheck
import Derived.Test.YtgmjgflifgjpmaaDoorExprParse2
namespace Go.Proofs.YtgmjgflifgjpmaaDoor
open Go.RowKit
set_option maxRecDepth 100000 in
set_option maxHeartbeats 4000000 in
theorem refparse_any (s : ByteArray) (w : World) :
    Calls Tryd.prog 10 #[.string s] w fun e w' => (∃ cs, e = .returned (.tuple #[.agg cs.toArray, .int .i64 (parseF s).2.1, .int .i64 (parseF s).2.2]) ∧ ERep (fun k => k < w.heap.size) w' (parseF s).1 cs) ∧ Fr Nob w w' := by
  by_cases hs : 200 < s.size
  · have hp : parseF s = (emptyT, 0, 2) := by unfold parseF; rw [if_pos hs]
    have HP := Lib.hid hp
    have ht : ((s.size : Int) > 200) := by omega
    clear hp hs
    go_enter Tryd.func10, Tryd.ntmps10
    go_wp2_with fail
    rw [HP.out]
    refine ret_tree3 (ev := .int .i64 0) (fv := .int .i64 2) rfl rfl rfl rfl rfl (Blk.new w [.int .i64 0, .string ⟨#[]⟩, .slice none 0 0] 24) ⟨⟨_, rfl, ?_⟩, (Fr.refl Nob w).alloc _⟩
    exact ERep.empty _ _ _ _
  · have hp : parseF s = parseW s.size (wholeF s.size s.data.toList) := by unfold parseF; rw [if_neg hs]
    have HP := Lib.hid hp
    have ht : ¬ ((s.size : Int) > 200) := by omega
    have hs2 : s.size ≤ 200 := by omega
    have hlen : s.data.toList.length = s.size := by simp
    have HS := Lib.hid (And.intro hs2 hlen)
    clear hp hs hs2 hlen
    go_enter Tryd.func10, Tryd.ntmps10
    go_wp2_with fail
    have hT : TxR ((w.alloc (.cells #[.int .i64 0, .string ⟨#[]⟩, .slice none 0 0] 24)).alloc (.cells #[.string s, .int .i64 0, .bool false] 58)) (w.heap.size + 1) s s.data.toList false := by
      obtain ⟨h1, h2⟩ := HS.out
      refine ⟨?_, by omega, ?_⟩
      · have e : ((s.size : Int) - (s.data.toList.length : Int)) = 0 := by omega
        rw [e]
        exact Blk.new_at _ [.string s, .int .i64 0, .bool false] _ _ (by simp)
      · rw [h2, Nat.sub_self, List.drop_zero]
    have hb := (Blk.new w [.int .i64 0, .string ⟨#[]⟩, .slice none 0 0] 24).alloc (.cells #[.string s, .int .i64 0, .bool false] 58)
    have hsz : ((w.alloc (.cells #[.int .i64 0, .string ⟨#[]⟩, .slice none 0 0] 24)).alloc (.cells #[.string s, .int .i64 0, .bool false] 58)).heap.size = w.heap.size + 2 := by simp
    have hf : Fr Nob w ((w.alloc (.cells #[.int .i64 0, .string ⟨#[]⟩, .slice none 0 0] 24)).alloc (.cells #[.string s, .int .i64 0, .bool false] 58)) := ((Fr.refl Nob w).alloc _).alloc _
    generalize (w.alloc (.cells #[.int .i64 0, .string ⟨#[]⟩, .slice none 0 0] 24)).alloc (.cells #[.string s, .int .i64 0, .bool false] 58) = w0 at hT hb hsz hf
    refine (peek_any (w.heap.size + 1) s (by have := HS.out.1; omega) _ false w0 hT).mono ?_
    rintro e w1 ⟨rfl, hT1, hF1⟩
    have hb1 := hb.fr hF1 (fun h => by have : w.heap.size = w.heap.size + 1 := h; omega)
    have hf1 : Fr Nob w w1 := hf.trans hF1 (fun k hk h => by have : k = w.heap.size + 1 := h; omega)
    have hz1 : w.heap.size + 2 ≤ w1.heap.size := by have := hF1.size; omega
    have HT1 := Lib.hid hT1
    have HB1 := Lib.hid hb1
    have HF1 := Lib.hid hf1
    rw [show peekB false s.data.toList = nextB s.data.toList from rfl]
    clear hT hb hsz hf hT1 hF1 hb1 hf1
    by_cases hnil : skipB s.data.toList = []
    · have hn : nextB s.data.toList = 0 := nextB_nil hnil
      have hw : wholeF s.size s.data.toList = .ok (.node 0 ⟨#[]⟩ []) := by unfold wholeF; rw [if_pos hnil]
      have HW := Lib.hid hw
      have d0 := HB1.out.cell 0
      have d1 := HB1.out.cell 1
      have d2 := HB1.out.cell 2
      have f0 := HB1.out.frozen 0
      have f1 := HB1.out.frozen 1
      have f2 := HB1.out.frozen 2
      have hl := HB1.out.lt
      simp only [List.getElem?_cons_zero, List.getElem?_cons_succ] at d0 d1 d2
      rw [hn]
      clear hnil hn hw
      go_wp2_with fail
      rw [HP.out, HW.out]
      refine ret_tree3 (ev := .int .i64 s.size) (fv := .int .i64 0) rfl rfl rfl rfl rfl (((HB1.out.set 0 _).set 1 _).set 2 _) ⟨⟨_, rfl, ERep.empty _ _ _ _⟩, ?_⟩
      exact HF1.out.trans (fr_store3 w1 w.heap.size _ _ _) (fun k hk h => by have : k = w.heap.size := h; omega)
    · have hn : (nextB s.data.toList == 0) = false := by simpa using nextB_pos hnil
      have hls := skipB_le s.data.toList
      have hw : wholeF s.size s.data.toList = wholeC s.size (Ch (skipB s.data.toList)) := by
        unfold wholeF
        rw [if_neg hnil, choiceF_Ch _ _ (by have := HS.out.2; omega)]
      have HW := Lib.hid hw
      clear hnil hw hls
      go_wp2_with fail
      refine (refalt_any (w.heap.size + 1) s HS.out.1 _ w1 HT1.out).mono ?_
      rintro e w2 hO
      cases hC : Ch (skipB s.data.toList) with
      | err r1 =>
        rw [hC] at hO
        obtain ⟨x, cs, rfl, hx, hT2, hF2, -, -, -⟩ := hO
        obtain ⟨A, c, css, rfl, hc, hR, hE⟩ := hx.open_
        have hb2 := HB1.out.fr hF2 (fun h => by have : w.heap.size = w.heap.size + 1 := h; omega)
        have hf2 : Fr Nob w w2 := HF1.out.trans hF2 (fun k hk h => by have : k = w.heap.size + 1 := h; omega)
        have hw : wholeF s.size s.data.toList = .err ((s.size : Int) - r1.length) := by rw [HW.out, hC]; rfl
        have HW2 := Lib.hid hw
        have c0 := hT2.cs
        have c1 := hT2.ci
        have c2 := hT2.cb
        have hlp := hT2.1.lt
        have d0 := hb2.cell 0
        have d1 := hb2.cell 1
        have d2 := hb2.cell 2
        have f0 := hb2.frozen 0
        have f1 := hb2.frozen 1
        have f2 := hb2.frozen 2
        have hl := hb2.lt
        simp only [List.getElem?_cons_zero, List.getElem?_cons_succ] at d0 d1 d2
        have HB2 := Lib.hid hb2
        have HF2 := Lib.hid hf2
        clear hC hx hT2 hF2 hc hR hE hb2 hf2 hw
        go_wp2_with fail
        go_region
        all_goals go_wp2_with fail
        all_goals rw [HP.out, HW2.out]
        all_goals refine ret_tree3 (ev := .int .i64 (s.size - r1.length)) (fv := .int .i64 4) rfl rfl rfl rfl rfl ((((HB2.out.set 0 _).set 1 _).set 2 _).alloc _).drew ⟨⟨_, rfl, ERep.empty _ _ _ _⟩, ?_⟩
        all_goals exact HF2.out.trans ((fr_store3 w2 w.heap.size _ _ _).alloc _).drew (fun k hk h => by have : k = w.heap.size := h; omega)
      | ok x r1 =>
        rw [hC] at hO
        obtain ⟨cs, rfl, hx, hT2, hF2⟩ := hO
        obtain ⟨A, c, css, rfl, hc, hR, hE⟩ := hx.open_
        have hb2 := HB1.out.fr hF2 (fun h => by have : w.heap.size = w.heap.size + 1 := h; omega)
        have hf2 : Fr Nob w w2 := HF1.out.trans hF2 (fun k hk h => by have : k = w.heap.size + 1 := h; omega)
        have hw : wholeF s.size s.data.toList = if skipB r1 = [] then (if checkT x = 0 then .ok x else .err 0) else .err ((s.size : Int) - (skipB r1).length) := by rw [HW.out, hC]; rfl
        have hfew := choiceF_few _ _ _ _ hC
        have HFEW := Lib.hid hfew
        have HW2 := Lib.hid hw
        have c2 := hT2.cb
        have hlp := hT2.1.lt
        have HT2 := Lib.hid hT2
        have HX := Lib.hid hx
        have HB2 := Lib.hid hb2
        have HF2 := Lib.hid hf2
        clear hC hx hT2 hF2 hc hR hE hb2 hf2 hw hfew
        go_wp2_with fail
        refine (peek_any (w.heap.size + 1) s (by have := HS.out.1; omega) r1 false _ (HT2.out.fr ((Fr.refl Nob w2).alloc _) (fun h => h))).mono ?_
        rintro e w3 ⟨rfl, hT3, hF3⟩
        have hsz2 : (w2.alloc (.cells #[.int .i64 x.k, .string x.name, .slice A x.l.length c] 24)).heap.size = w2.heap.size + 1 := by simp
        have hfa3 : Fr (One (w.heap.size + 1)) w2 w3 := ((Fr.refl (One (w.heap.size + 1)) w2).alloc _).same hF3
        have hb3 := HB2.out.fr hfa3 (fun h => by have : w.heap.size = w.heap.size + 1 := h; omega)
        have hf3 : Fr Nob w w3 := HF2.out.trans hfa3 (fun k hk h => by have : k = w.heap.size + 1 := h; omega)
        have hx3 := ERep.fr (M' := One (w.heap.size + 1)) hfa3 (fun k _ hk => by have : k = w.heap.size + 1 := hk; omega) _ _ HX.out
        have hbx3 := (Blk.new w2 [.int .i64 x.k, .string x.name, .slice A x.l.length c] 24).fr hF3 (fun h => by have : w2.heap.size = w.heap.size + 1 := h; omega)
        have HT3 := Lib.hid hT3
        have HB3 := Lib.hid hb3
        have HF3 := Lib.hid hf3
        have HX3 := Lib.hid hx3
        have HBX3 := Lib.hid hbx3
        have c1 := hT3.ci
        have hlp3 := hT3.1.lt
        have d0 := hb3.cell 0
        have d1 := hb3.cell 1
        have d2 := hb3.cell 2
        have f0 := hb3.frozen 0
        have f1 := hb3.frozen 1
        have f2 := hb3.frozen 2
        have hl := hb3.lt
        have x0 := hbx3.cell 0
        have x1 := hbx3.cell 1
        have x2 := hbx3.cell 2
        have hlx := hbx3.lt
        simp only [List.getElem?_cons_zero, List.getElem?_cons_succ] at d0 d1 d2 x0 x1 x2
        rw [show peekB false r1 = nextB r1 from rfl]
        clear hT3 hF3 hfa3 hb3 hf3 hx3 hbx3 c2 hsz2
        by_cases hr : skipB r1 = []
        · have hw : wholeF s.size s.data.toList = if checkT x = 0 then .ok x else .err 0 := by rw [HW2.out, if_pos hr]
          have HW3 := Lib.hid hw
          rw [nextB_nil hr]
          clear hr hw
          go_wp2_with fail
          refine (refcheck_any x _ w3 (ERep.mono (fun k hk => hk.elim) _ _ HX3.out) (by have := HFEW.out; have := skipB_le s.data.toList; have := HS.out; omega) (by have := HFEW.out; have := skipB_le s.data.toList; have := HS.out; omega)).mono ?_
          rintro e w4 ⟨rfl, hF4⟩
          have hb4 := HB3.out.fr hF4 (fun h => h)
          have hbx4 := HBX3.out.fr hF4 (fun h => h)
          have HX4 := Lib.hid (ERep.fr hF4 (fun _ _ h => h.elim) _ _ HX3.out)
          have HB4 := Lib.hid hb4
          have HF4 := Lib.hid (HF3.out.same hF4)
          clear d0 d1 d2 f0 f1 f2 hl x0 x1 x2 hlx c1
          have d0 := hb4.cell 0
          have d1 := hb4.cell 1
          have d2 := hb4.cell 2
          have f0 := hb4.frozen 0
          have f1 := hb4.frozen 1
          have f2 := hb4.frozen 2
          have hl := hb4.lt
          have x0 := hbx4.cell 0
          have x1 := hbx4.cell 1
          have x2 := hbx4.cell 2
          have hlx := hbx4.lt
          simp only [List.getElem?_cons_zero, List.getElem?_cons_succ] at d0 d1 d2 x0 x1 x2
          clear hb4 hbx4 hF4
          by_cases hck : checkT x = 0
          · have hw : wholeF s.size s.data.toList = .ok x := by rw [HW3.out, if_pos hck]
            have HW4 := Lib.hid hw
            rw [hck]
            clear hck hw
            go_wp2_with fail
            rw [HP.out, HW4.out]
            refine ret_tree3 (ev := .int .i64 s.size) (fv := .int .i64 0) rfl rfl rfl rfl rfl (((HB4.out.set 0 _).set 1 _).set 2 _) ⟨⟨_, rfl, ?_⟩, ?_⟩
            · exact ERep.mono (fun k hk => by omega) _ _ (ERep.fr (fr_store3 w4 w.heap.size _ _ _) (fun k _ hk => by have : k = w.heap.size := hk; omega) _ _ HX4.out)
            · exact HF4.out.trans (fr_store3 _ w.heap.size _ _ _) (fun k hk h => by have : k = w.heap.size := h; omega)
          · have hw : wholeF s.size s.data.toList = .err 0 := by rw [HW3.out, if_neg hck]
            have HW4 := Lib.hid hw
            have hck2 : (checkT x != 0) = true := by simpa using hck
            clear hck hw
            go_wp2_with fail
            rw [HP.out, HW4.out]
            refine ret_tree3 (ev := .int .i64 0) (fv := .int .i64 4) rfl rfl rfl rfl rfl (((HB4.out.set 0 _).set 1 _).set 2 _) ⟨⟨_, rfl, ERep.empty _ _ _ _⟩, ?_⟩
            exact HF4.out.trans (fr_store3 _ w.heap.size _ _ _) (fun k hk h => by have : k = w.heap.size := h; omega)
        · have hw : wholeF s.size s.data.toList = .err ((s.size : Int) - (skipB r1).length) := by rw [HW2.out, if_neg hr]
          have HW3 := Lib.hid hw
          have hn1 : (nextB r1 != 0) = true := by simpa using nextB_pos hr
          clear hr hw
          go_wp2_with fail
          go_region
          all_goals go_wp2_with fail
          all_goals rw [HP.out, HW3.out]
          all_goals refine ret_tree3 (ev := .int .i64 (s.size - (skipB r1).length)) (fv := .int .i64 4) rfl rfl rfl rfl rfl (((HB3.out.set 0 _).set 1 _).set 2 _).drew ⟨⟨_, rfl, ERep.empty _ _ _ _⟩, ?_⟩
          all_goals exact HF3.out.trans (fr_store3 _ w.heap.size _ _ _).drew (fun k hk h => by have : k = w.heap.size := h; omega)
end Go.Proofs.YtgmjgflifgjpmaaDoor
