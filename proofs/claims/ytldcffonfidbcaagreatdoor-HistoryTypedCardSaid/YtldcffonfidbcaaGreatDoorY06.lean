/- A part of the proof for chapter 10: ExprWhole; no conditions. -/
import Derived.Test.YtldcffonfidbcaaGreatDoorY03
import Derived.Test.YtldcffonfidbcaaGreatDoorY05
/- 'whole': all of a text. -/
namespace Go.Proofs.YtldcffonfidbcaaGreatDoor
open Go.RowKit
/-- What 'whole' comes to; a fault at the place 0 where the tree may not be. -/
inductive Whole where
  | ok (x : Tree)
  | err (at_ : Int)
def wholeC (n : Nat) : Res → Whole
  | .err r1 => .err ((n : Int) - r1.length)
  | .ok x r1 => if skipB r1 = [] then (if checkT x = 0 then .ok x else .err 0) else .err ((n : Int) - (skipB r1).length)
def wholeF (n : Nat) (r : List UInt8) : Whole := if skipB r = [] then .ok (.node 0 ⟨#[]⟩ []) else wholeC n (choiceF (n + 1) (skipB r))
def OutW (w : World) : Whole → Ending → World → Prop
  | .ok x, e, w' => ∃ cs, e = .returned (.tuple #[.agg cs.toArray, .nilIface]) ∧ ERep (fun k => k < w.heap.size) w' x cs
  | .err n, e, w' => ∃ cs b, e = .returned (.tuple #[.agg cs.toArray, .iface 163 (.pointer (some ⟨b, 0, none⟩))]) ∧ (∃ x, ERep (fun k => k < w.heap.size) w' x cs) ∧ Blk w' b [.int .i64 n, .iface 25 (.int .i64 4)] 167 ∧ w.heap.size ≤ b
theorem nextB_pos {r : List UInt8} (h : skipB r ≠ []) : nextB r ≠ 0 := by
  unfold nextB
  split
  · rename_i e; exact absurd e h
  · split <;> omega
set_option maxRecDepth 100000 in
set_option maxHeartbeats 4000000 in
theorem whole_any (g : Nat) (s : ByteArray) (hs : s.size ≤ 200) (w : World) (hT : Tx w g s s.data.toList) :
    Calls Tryz.prog 85 #[.pointer (some ⟨g, 0, none⟩)] w fun e w' => OutW w (wholeF s.size s.data.toList) e w' ∧ Fr (One g) w w' := by
  have hgw := hT.1.lt
  have HT := Lib.hid hT
  clear hT
  go_enter Tryz.func85, Tryz.ntmps85
  go_wp2_with fail
  refine (next_any g s (by omega) _ _ (HT.out.fr ((Fr.refl Nob w).alloc _) (fun h => h))).mono ?_
  rintro e w1 ⟨rfl, hT1, hF1⟩
  have hb0 := (Blk.new w [.int .i64 0, .string ⟨#[]⟩, .slice none 0 0] 82).fr hF1 (fun h => by have : w.heap.size = g := h; omega)
  have hFw : Fr (One g) w w1 := ((Fr.refl (One g) w).alloc _).same hF1
  have HT1 := Lib.hid hT1
  have HB0 := Lib.hid hb0
  have HF := Lib.hid hFw
  have hlt := hb0.lt
  have c0 := hb0.cell 0
  have c1 := hb0.cell 1
  have c2 := hb0.cell 2
  have f0 := hb0.frozen 0
  have f1 := hb0.frozen 1
  have f2 := hb0.frozen 2
  simp only [List.getElem?_cons_zero, List.getElem?_cons_succ] at c0 c1 c2
  clear hT1 hF1 hFw hb0
  by_cases hnil : skipB s.data.toList = []
  · have hn : nextB s.data.toList = 0 := nextB_nil hnil
    have hw : wholeF s.size s.data.toList = .ok (.node 0 ⟨#[]⟩ []) := by unfold wholeF; rw [if_pos hnil]
    have HW := Lib.hid hw
    rw [hn]
    clear hnil hn hw
    go_wp2_with fail
    rw [HW.out]
    refine ret_tree (ev := .nilIface) rfl rfl rfl rfl (((HB0.out.set 0 _).set 1 _).set 2 _) ⟨⟨_, rfl, ?_⟩, ?_⟩
    · exact ERep.empty _ _ _ _
    · exact HF.out.trans (fr_store3 w1 w.heap.size _ _ _) (fun k hk h => by have : k = w.heap.size := h; omega)
  · have hn : (nextB s.data.toList == 0) = false := by simpa using nextB_pos hnil
    have hw : wholeF s.size s.data.toList = wholeC s.size (choiceF (s.size + 1) (skipB s.data.toList)) := by unfold wholeF; rw [if_neg hnil]
    have HW := Lib.hid hw
    generalize nextB s.data.toList = nb at hn
    clear hnil hw
    go_wp2_with fail
    have hlen : (skipB s.data.toList).length < s.size + 1 := by have := HT1.out.2.1; omega
    refine (choice_any goods g s hs (s.size + 1) (skipB s.data.toList) w1 hlen HT1.out).mono ?_
    rintro e w2 hO
    clear hlen
    cases hC : choiceF (s.size + 1) (skipB s.data.toList) with
    | err r1 =>
      rw [hC] at hO
      obtain ⟨x, cs, bf, rfl, hx, hbf, hbl, hfr⟩ := hO
      obtain ⟨A, c, css, rfl, hc, hR, hE⟩ := hx.open_
      have hb := HB0.out.fr hfr (fun h => by have : w.heap.size = g := h; omega)
      have HX := Lib.hid hx
      have HBf := Lib.hid hbf
      have HFR := Lib.hid hfr
      have HB3 := Lib.hid hb
      have d0 := hb.cell 0
      have d1 := hb.cell 1
      have d2 := hb.cell 2
      have g0 := hb.frozen 0
      have g1 := hb.frozen 1
      have g2 := hb.frozen 2
      have hl2 := hb.lt
      have HC := Lib.hid hC
      clear hx hR hE hbf hfr hb hC c0 c1 c2 f0 f1 f2
      simp only [List.getElem?_cons_zero, List.getElem?_cons_succ] at d0 d1 d2
      go_wp2_with fail
      rw [HW.out, HC.out, show wholeC s.size (.err r1) = .err ((s.size : Int) - r1.length) from rfl]
      refine ret_tree (ev := .iface 163 (.pointer (some ⟨bf, 0, none⟩))) rfl rfl rfl rfl ((((HB3.out.set 0 _).set 1 _).set 2 _).alloc _) ⟨⟨_, bf, rfl, ⟨x, ?_⟩, ?_, ?_⟩, ?_⟩
      · exact ERep.mono (fun k hk => by omega) _ _ (ERep.fr ((fr_store3 w2 w.heap.size _ _ _).alloc _) (fun k _ hk => by have : k = w.heap.size := hk; omega) _ _ HX.out)
      · exact HBf.out.fr ((fr_store3 w2 w.heap.size _ _ _).alloc _) (fun h => by have : bf = w.heap.size := h; omega)
      · omega
      · exact (HF.out.same HFR.out).trans ((fr_store3 w2 w.heap.size _ _ _).alloc _) (fun k hk h => by have : k = w.heap.size := h; omega)
    | ok x r1 =>
      have hfew := choiceF_few _ _ _ _ hC
      have hsk := skipB_le s.data.toList
      rw [hC] at hO
      obtain ⟨cs, rfl, hx, hTx, hfr⟩ := hO
      obtain ⟨A, c, css, rfl, hc, hR, hE⟩ := hx.open_
      have hb := HB0.out.fr hfr (fun h => by have : w.heap.size = g := h; omega)
      have hl2 := hb.lt
      have hlen2 : s.data.toList.length = s.size := by simp
      have HX := Lib.hid hx
      have HFR := Lib.hid hfr
      have HB3 := Lib.hid hb
      have HTx := Lib.hid hTx
      have HC := Lib.hid hC
      have HFEW := Lib.hid (show x.count ≤ 400 ∧ x.bytes ≤ 200 by omega)
      clear hx hR hE hfr hb hC hTx c0 c1 c2 f0 f1 f2 hfew hsk hlen2
      go_wp2_with fail
      refine (next_any g s (by omega) r1 _ (HTx.out.fr ((Fr.refl Nob w2).alloc _) (fun h => h))).mono ?_
      rintro e w3 ⟨rfl, hT3, hF3⟩
      have hF23 := ((Fr.refl (One g) w2).alloc (Obj.cells #[.int .i64 x.k, .string x.name, .slice A x.l.length c] 82)).same hF3
      have hxb := (Blk.new_at w2 [.int .i64 x.k, .string x.name, .slice A x.l.length c] 82 _ rfl).fr hF3 (fun h => by have : w2.heap.size = g := h; omega)
      have hb3 := HB3.out.fr hF23 (fun h => by have : w.heap.size = g := h; omega)
      have d0 := hb3.cell 0
      have d1 := hb3.cell 1
      have d2 := hb3.cell 2
      have f0 := hb3.frozen 0
      have f1 := hb3.frozen 1
      have f2 := hb3.frozen 2
      have x0 := hxb.cell 0
      have x1 := hxb.cell 1
      have x2 := hxb.cell 2
      simp only [List.getElem?_cons_zero, List.getElem?_cons_succ] at d0 d1 d2 x0 x1 x2
      have hl3 := hb3.lt
      have hl4 := hxb.lt
      have hX3 := ERep.fr hF23 (fun k _ hk => by have : k = g := hk; omega) _ _ HX.out
      have HT3 := Lib.hid hT3
      have HB4 := Lib.hid hb3
      have HXB := Lib.hid hxb
      have HX3 := Lib.hid hX3
      have HF03 := Lib.hid (HF.out.same (HFR.out.same hF23))
      clear hT3 hF3 hF23 hxb hb3 hX3
      by_cases hnil : skipB r1 = []
      · have hn : nextB r1 = 0 := nextB_nil hnil
        have hw2 : wholeC s.size (.ok x r1) = if checkT x = 0 then .ok x else .err 0 := by unfold wholeC; exact if_pos hnil
        have HW2 := Lib.hid hw2
        rw [hn]
        clear hnil hn hw2
        go_wp2_with fail
        refine (check_any x _ _ (ERep.mono (fun k h => h.elim) _ _ HX3.out) (by have := HFEW.out; omega) (by have := HFEW.out; omega)).mono ?_
        rintro e w4 ⟨rfl, hF4⟩
        have hF14 : Fr (One w.heap.size) w3 w4 := hF4.any
        have hb4 := HB4.out.fr hF4 (fun h => h)
        have hxb4 := HXB.out.fr hF4 (fun h => h)
        have d0 := hb4.cell 0
        have d1 := hb4.cell 1
        have d2 := hb4.cell 2
        have f0 := hb4.frozen 0
        have f1 := hb4.frozen 1
        have f2 := hb4.frozen 2
        have x0 := hxb4.cell 0
        have x1 := hxb4.cell 1
        have x2 := hxb4.cell 2
        simp only [List.getElem?_cons_zero, List.getElem?_cons_succ] at d0 d1 d2 x0 x1 x2
        have hl5 := hb4.lt
        have hl6 := hxb4.lt
        have hX4 := ERep.fr hF4 (fun k _ hk => hk.elim) _ _ HX3.out
        have HX4 := Lib.hid hX4
        have HB5 := Lib.hid hb4
        have HF04 := Lib.hid (HF03.out.none hF4)
        clear hF14 hF4 hb4 hxb4 hX4
        by_cases hck : checkT x = 0
        · have hw3 : wholeC s.size (.ok x r1) = .ok x := by rw [HW2.out, if_pos hck]
          have HW3 := Lib.hid hw3
          rw [hck]
          clear hck hw3
          go_wp2_with fail
          rw [HW.out, HC.out, HW3.out]
          refine ret_tree (ev := .nilIface) rfl rfl rfl rfl (((HB5.out.set 0 _).set 1 _).set 2 _) ⟨⟨_, rfl, ?_⟩, ?_⟩
          · exact ERep.mono (fun k hk => by omega) _ _ (ERep.fr (fr_store3 w4 w.heap.size _ _ _) (fun k _ hk => by have : k = w.heap.size := hk; omega) _ _ HX4.out)
          · exact HF04.out.trans (fr_store3 w4 w.heap.size _ _ _) (fun k hk h => by have : k = w.heap.size := h; omega)
        · have hw3 : wholeC s.size (.ok x r1) = .err 0 := by rw [HW2.out, if_neg hck]
          have HW3 := Lib.hid hw3
          have hck2 : (checkT x == 0) = false := by simpa using hck
          generalize checkT x = ck at hck2
          clear hck hw3
          go_wp2_with fail
          rw [HW.out, HC.out, HW3.out]
          refine ret_tree (ev := .iface 163 (.pointer (some ⟨w4.heap.size, 0, none⟩))) rfl rfl rfl rfl ((((HB5.out.set 0 _).set 1 _).set 2 _).alloc _) ⟨⟨_, w4.heap.size, rfl, ⟨x, ?_⟩, Blk.new_at _ _ _ _ (by simp), by omega⟩, ?_⟩
          · exact ERep.mono (fun k hk => by omega) _ _ (ERep.fr ((fr_store3 w4 w.heap.size _ _ _).alloc _) (fun k _ hk => by have : k = w.heap.size := hk; omega) _ _ HX4.out)
          · exact HF04.out.trans ((fr_store3 w4 w.heap.size _ _ _).alloc _) (fun k hk h => by have : k = w.heap.size := h; omega)
      · have hn : (nextB r1 == 0) = false := by simpa using nextB_pos hnil
        have hw2 : wholeC s.size (.ok x r1) = .err ((s.size : Int) - (skipB r1).length) := by unfold wholeC; exact if_neg hnil
        have HW2 := Lib.hid hw2
        generalize nextB r1 = nb2 at hn
        clear hnil hw2
        go_wp2_with fail
        go_region_with (go_at_call 120; refine (wrong_any g s (skipB r1) _ ?_).mono ?_; exact HT3.out; rintro e w4 ⟨rfl, rfl⟩)
        all_goals go_wp2_with fail
        all_goals rw [HW.out, HC.out, HW2.out]
        all_goals refine ret_tree (ev := .iface 163 (.pointer (some ⟨w3.heap.size, 0, none⟩))) rfl rfl rfl rfl ((((HB4.out.set 0 _).set 1 _).set 2 _).alloc _) ⟨⟨_, w3.heap.size, rfl, ⟨x, ?_⟩, Blk.new_at _ _ _ _ (by simp), by omega⟩, ?_⟩
        all_goals first
          | exact ERep.mono (fun k hk => by omega) _ _ (ERep.fr ((fr_store3 w3 w.heap.size _ _ _).alloc _).drew (fun k _ hk => by have : k = w.heap.size := hk; omega) _ _ HX3.out)
          | exact HF03.out.trans ((fr_store3 w3 w.heap.size _ _ _).alloc _).drew (fun k hk h => by have : k = w.heap.size := h; omega)
end Go.Proofs.YtldcffonfidbcaaGreatDoor
