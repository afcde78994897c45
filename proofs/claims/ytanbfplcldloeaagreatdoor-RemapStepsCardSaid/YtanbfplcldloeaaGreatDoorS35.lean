/- A part of the proof for chapter 10: Rebase; no conditions. -/
import Derived.Test.YtanbfplcldloeaaGreatDoorS34
/- Chapter 10: steps behind others: the walk. -/
namespace Go.Proofs.YtanbfplcldloeaaGreatDoor
open Go.RowKit
theorem infoStepA : (Tryz.prog.info? 24).map (fun i => (i.zero, i.size, i.bytes)) = some (some (.agg #[.int .i64 0, .int .i64 0, .int .i64 0, .int .i64 0, .int .i64 0, .int .i64 0, .slice none 0 0, .int .i64 0]), 8, 80) := by kernel_rfl
set_option maxRecDepth 100000 in
set_option maxHeartbeats 8000000 in
theorem rebase_any (M : Nat → Prop) (p : Nat) (rs : List RuleM) (g : List Grp) (hok : SchOk rs g) (own over : List StepA) (OA VA : Option Addr) (oc vc : Nat) (v : Value) (l : List Tok) (w : World) (hM : ∀ k, M k → k < w.heap.size) (hs : Sch M w p rs g) (hd : Doc M w v l) (ho : StepsM M w OA own) (hv : StepsM M w VA over) (hn : l.length ≤ 9223372036854775807) (hnl : own.length ≤ 9223372036854775807 ∧ over.length ≤ 9223372036854775807) :
    Calls Tryz.prog 17 #[.pointer (some ⟨p, 0, none⟩), v, .slice OA own.length oc, .slice VA over.length vc] w fun e w' => ∃ dv sv kv, e = .returned (.tuple #[.agg #[dv, sv, kv], .int .i64 (rebaseF rs g l (own.map StepA.s) (over.map StepA.s)).2]) ∧ RebV M w' dv sv kv (rebaseF rs g l (own.map StepA.s) (over.map StepA.s)).1 ∧ Fr Nob w w' := by
  obtain ⟨R, hR⟩ : ∃ R, rebaseF rs g l (own.map StepA.s) (over.map StepA.s) = R := ⟨_, rfl⟩
  rw [hR]
  have HR := Lib.hid hR
  have HOK := Lib.hid hok
  have HM := Lib.hid hM
  have HS := Lib.hid hs
  have HD := Lib.hid hd
  have HO := Lib.hid ho
  have HV := Lib.hid hv
  have HN := Lib.hid hn
  have HNL := Lib.hid hnl
  clear hR hok hM hs hd ho hv hn hnl
  obtain ⟨on, hon⟩ : ∃ on, own.length = on := ⟨_, rfl⟩
  obtain ⟨vn, hvn⟩ : ∃ vn, over.length = vn := ⟨_, rfl⟩
  have HON := Lib.hid hon
  have HVN := Lib.hid hvn
  rw [hon, hvn]
  clear hon hvn
  obtain ⟨W, hW⟩ : ∃ W, w.alloc (.cells #[.slice none 0 0, .slice none 0 0, .slice none 0 0] 46) = W := ⟨_, rfl⟩
  have HF := Lib.hid (show Fr Nob w W by rw [← hW]; exact (Fr.refl _ _).alloc _)
  have HB := Lib.hid (show Blk W w.heap.size [.slice none 0 0, .slice none 0 0, .slice none 0 0] 46 by rw [← hW]; exact Blk.new _ _ _)
  go_enter Tryz.func17, Tryz.ntmps17
  go_upto_region 1 with (fail)
  clear hW
  go_wp2_with fail
  refine (schcheck_any M _ p rs g HOK.out v l W (HS.out.fr0 HF.out) (HD.out.fr0 HF.out) HN.out).mono ?_
  rintro e w1 ⟨rfl, hF1⟩
  have HF1 := Lib.hid (HF.out.same hF1)
  have HB1 := Lib.hid (HB.out.fr hF1 (fun h => h))
  clear hF1
  obtain ⟨⟨ci, ce⟩, hce⟩ : ∃ r, checkF rs g l = r := ⟨_, rfl⟩
  have HCE := Lib.hid hce
  rw [hce]
  clear hce
  by_cases h1 : ce = 0
  · have h1' : (ce != 0) = false := by simp [h1]
    have HC0 := Lib.hid h1
    clear h1
    go_upto_region 4 with (fail)
    go_cut [41] from 36 to 40 (fun b wx => b = .bool (bigB on vn) ∧ wx = w1)
    case first =>
      go_wp2_with fail
      all_goals
        go_meet
        refine ⟨?_, rfl⟩
        congr 1
        unfold bigB
        rw [decide_eq_decide]
        omega
    case rest =>
      obtain ⟨rfl, rfl⟩ := hcut
      by_cases h2 : 1000 < max on vn
      · have h2' : bigB on vn = true := decide_eq_true h2
        have HRE := Lib.hid (show R = (⟨[], [], []⟩, 2) by rw [← HR.out, rebaseF, if_neg (by rw [HCE.out, HC0.out]; simp), if_pos (by rw [List.length_map, List.length_map, HON.out, HVN.out]; exact h2)])
        clear h2
        rw [h2']
        have o0 := HB1.out.cell 0
        have o1 := HB1.out.cell 1
        have o2 := HB1.out.cell 2
        have f0 := HB1.out.frozen 0
        have f1 := HB1.out.frozen 1
        have f2 := HB1.out.frozen 2
        have ol := HB1.out.lt
        simp only [List.getElem?_cons_zero, List.getElem?_cons_succ] at o0 o1 o2
        go_wp2_with fail
        obtain ⟨hb9, hf9⟩ := store3 HB1.out (.slice none 0 0) (.slice none 0 0) (.slice none 0 0) _ rfl
        have hF9 := new_fr HF1.out (Nat.le_refl _) hf9
        clear o0 o1 o2 f0 f1 f2 ol hf9
        generalize ((wc.setCell ⟨w.heap.size, 0, none⟩ (.slice none 0 0)).setCell ⟨w.heap.size, 1, none⟩ (.slice none 0 0)).setCell ⟨w.heap.size, 2, none⟩ (.slice none 0 0) = W9 at hb9 hF9 ⊢
        have d0 := hb9.cell 0
        have d1 := hb9.cell 1
        have d2 := hb9.cell 2
        simp only [List.getElem?_cons_zero, List.getElem?_cons_succ] at d0 d1 d2
        refine bodyPost_ret (v := .tuple #[.agg #[.slice none 0 0, .slice none 0 0, .slice none 0 0], .int .i64 2]) (by simp [results, go_sem, d0, d1, d2]) rfl ?_
        rw [HRE.out]
        exact ⟨_, _, _, rfl, RebV.empty _ _, hF9⟩
      · have h2' : bigB on vn = false := decide_eq_false h2
        have hon : on ≤ 1000 := by omega
        have hvn : vn ≤ 1000 := by omega
        have HR2 := Lib.hid (show R = (if (runF rs g (own.map StepA.s) l).2 ≠ 0 then (⟨[], [], []⟩, numF (runF rs g (own.map StepA.s) l).2) else if (runF rs g (over.map StepA.s) l).2 ≠ 0 then (⟨[], [], []⟩, numF (runF rs g (over.map StepA.s) l).2) else (rbGo rs g on (own.map StepA.s) 0 (((own.map StepA.s).map undoM).reverse ++ (over.map StepA.s).map mapM) ⟨(runF rs g (over.map StepA.s) l).1, [], []⟩, 0)) by rw [← HR.out, rebaseF, if_neg (by rw [HCE.out, HC0.out]; simp), if_neg (by rw [List.length_map, List.length_map, HON.out, HVN.out]; exact h2), List.length_map, HON.out])
        clear h2 HR HB
        rw [h2']
        go_upto_region 7 with (fail)
        obtain ⟨Xp, hXp⟩ : ∃ Xp, wc.heap.size = Xp := ⟨_, rfl⟩
        obtain ⟨W2, hW2⟩ : ∃ W2, wc.alloc (.cells #[.slice none 0 0] 25) = W2 := ⟨_, rfl⟩
        have HXP := Lib.hid (show w.heap.size < Xp by rw [← hXp]; exact HB1.out.lt)
        have HJ := Lib.hid (show J1 w.heap.size Xp [] (fun k => k = Xp) W2 by
          refine ⟨.slice none 0 0, [], ?_, World.ownsRow_nil _ _ _ _, Nat.le_of_lt HXP.out, by simp [Value.ownBlock], ?_, ?_, rfl, fun i h1 _ => by simp at h1⟩
          · rw [← hW2, ← hXp]; exact Blk.new _ _ _
          · rintro k (rfl | h)
            · rfl
            · cases h
          · rintro k rfl
            rw [← hW2, ← hXp]; simp)
        have HF2 := Lib.hid (show Fr Nob w W2 by rw [← hW2]; exact HF1.out.alloc _)
        have HB2 := Lib.hid (show Blk W2 w.heap.size [.slice none 0 0, .slice none 0 0, .slice none 0 0] 46 by rw [← hW2]; exact HB1.out.alloc _)
        rw [hW2, hXp]
        clear hW2 hXp HB1
        have HL1 := Lib.hid (later_new (M := M) (Nat.le_of_lt HXP.out))
        go_wp2_with fail
        have hrun := remrun_any 35 #[.pointer (some ⟨Xp, 0, none⟩)] 1000 (J1 w.heap.size Xp) (told1 _ _) (fun k => k = Xp) M p rs g HOK.out own OA oc v l W2 (by rw [HON.out]; exact hon) (Nat.le_refl _) HJ.out (HS.out.later HF2.out.any HL1.out) (HO.out.later HF2.out.any HL1.out) (fun k hk => Nat.lt_of_lt_of_le (HM.out k hk) HF2.out.size) ((HD.out.bound.fr HF2.out.any (fun _ _ h => .inl h)).mono (fun k hk => by
          rcases hk with hk | hk
          · exact HL1.out k hk
          · exact .inl hk)) HN.out
        rw [HON.out] at hrun
        refine hrun.mono ?_
        clear hrun
        rintro e w3 ⟨v3, rfl, hJ3, hF3⟩
        obtain ⟨⟨rl, re⟩, hre⟩ : ∃ r, runF rs g (own.map StepA.s) l = r := ⟨_, rfl⟩
        rw [hre] at hJ3 HR2 ⊢
        clear hre
        have HF3 := Lib.hid (HF2.out.trans hF3 (fun k hk e => by have h1 : k = Xp := e; have := HXP.out; omega))
        have HB3 := Lib.hid (HB2.out.fr hF3 (fun e => by have h1 : w.heap.size = Xp := e; have := HXP.out; omega))
        clear hF3
        by_cases h3 : re = 0
        · subst h3
          have HJ3 := Lib.hid (hJ3 rfl)
          have HR3 := HR2
          simp only [ne_eq, not_true, if_false, refV, if_true] at HR3 ⊢
          clear hJ3 HR2
          go_wp2_with fail
          refine (posnew_any w3).mono ?_
          rintro e w4 ⟨rfl, rfl⟩
          obtain ⟨N2, ⟨v1, vs, hJ2⟩, _, _⟩ := HJ3.out
          obtain ⟨VB, vb, rfl, hvb, hrv⟩ := Rd.of_own (M := Nob) hJ2.own (fun _ _ h => h)
          have hvl : vs.length = on := by rw [hJ2.len, List.length_map, HON.out]
          rw [hvl] at hJ2 hvb
          obtain ⟨m, hm⟩ : ∃ m, w3.heap.size = m := ⟨_, rfl⟩
          have hXm : Xp < m := by rw [← hm]; exact hJ2.blk.lt
          have hF3s := HF3.out.size
          have hWP := HXP.out
          go_upto_region 11 with (fail)
          obtain ⟨W5, hW5⟩ : ∃ W5, (w3.alloc (.cells #[.slice none 0 0, .bool true] 71)).alloc (.cells #[.pointer (some ⟨m, 0, none⟩)] 26) = W5 := ⟨_, rfl⟩
          have hs4 : (w3.alloc (.cells #[.slice none 0 0, .bool true] 71)).heap.size = m + 1 := by rw [← hm]; simp
          have HF5 := Lib.hid (show Fr Nob w W5 by rw [← hW5]; exact (HF3.out.alloc _).alloc _)
          have HF35 := Lib.hid (show Fr Nob w3 W5 by rw [← hW5]; exact ((Fr.refl _ _).alloc _).alloc _)
          have HB5 := Lib.hid (HB3.out.fr HF35.out (fun h => h))
          have HX5 := Lib.hid (hJ2.blk.fr HF35.out (fun h => h))
          have HVS := Lib.hid (show Rd (fun k => k = m) W5 VB vs from ((hrv.bound.fr HF35.out (fun _ _ h => h.elim)).mono (fun k hk => by right; omega)))
          have HEV := Lib.hid (show ∀ i (h1 : i < vs.length) (h2 : i < (own.map StepA.s).length), Rngs (fun k => k = m) W5 vs[i] (invM (own.map StepA.s)[i]) from fun i h1 h2 => ((hJ2.each i h1 h2).bound.fr HF35.out (fun _ _ h => h.elim)).mono (fun k hk => by right; omega))
          have HVL := Lib.hid hvl
          have HJ5 := Lib.hid (show J2R w.heap.size (m + 1) m [] [] (fun k => k = m) W5 (.slice none 0 0) [] by
            have hbm : Blk W5 m [.slice none 0 0, .bool true] 71 := by rw [← hW5, ← hm]; exact (Blk.new _ _ _).alloc _
            have hbx : Blk W5 (m + 1) [.pointer (some ⟨m, 0, none⟩)] 26 := by rw [← hW5]; exact Blk.new_at _ _ _ _ hs4.symm
            refine ⟨⟨hbm, by omega, World.ownsRow_nil _ _ _ _, by simp [Value.ownBlock], ?_, fun _ h => (by cases h), fun _ h => (by cases h), fun _ h => (by cases h)⟩, hbx, by omega, ?_, rfl⟩
            · rintro k (rfl | h)
              · rfl
              · cases h
            · rintro k rfl; exact hbm.lt)
          have HMM := Lib.hid (show w.heap.size < Xp ∧ Xp < m from ⟨hWP, hXm⟩)
          rw [hW5]
          clear hW5 hm hJ2 hrv hvb hvl hs4 HF3 HF35 HB3 HJ3 hXm hF3s hWP HF2 HB2 HF1 HF HJ HL1 HXP
          have x0 := HX5.out.cell 0
          have xl := HX5.out.lt
          simp only [List.getElem?_cons_zero] at x0
          have wk0 := wrp64 ((on : Int) - 1) (by omega) (by omega)
          go_wp2_with fail
          clear x0 xl wk0
          go_loopg [16] (on) (fun n s16 wr => ∃ (k : Nat) (Nk : Nat → Prop) (vk : Value) (msk : List OneM), n = on - k ∧ k ≤ on ∧ s16 = .int .i64 ((on : Int) - 1 - k) ∧ Hid (J2R w.heap.size (m + 1) m ((((own.map StepA.s).map undoM).reverse).take k) [] Nk wr vk msk) ∧ Hid (Fr (fun k => k = m) W5 wr) ∧ Hid (Later (fun k => k = m) W5 Nk))
          case atStart => exact ⟨0, _, _, _, rfl, Nat.zero_le _, by simp, HJ5.out, Fr.refl _ _, Later.refl _ _⟩
          case round =>
            obtain ⟨k, Nk, vk, msk, rfl, hk, rfl, HJk, HFk, HLk⟩ := hrel
            by_cases hlt : k < on
            · have ht : (0 : Int) ≤ (on : Int) - 1 - k := by omega
              have HXk := Lib.hid (HX5.out.fr HFk.out (fun e => by have h1 : Xp = m := e; have := HMM.out; omega))
              have hRk := HVS.out.later HFk.out HLk.out
              have hgk : on - 1 - k < vs.length := by rw [HVL.out]; omega
              obtain ⟨ad, rfl, hnb, hadl⟩ := hRk.at_ hgk
              have hEk := (HEV.out (on - 1 - k) hgk (by rw [List.length_map, HON.out]; omega)).bound.fr HFk.out (fun _ _ h => .inl h)
              obtain ⟨xs, hxs⟩ : ∃ xs, invM ((own.map StepA.s)[on - 1 - k]'(by rw [List.length_map, HON.out]; omega)) = xs := ⟨_, rfl⟩
              rw [hxs] at hEk
              have HXS := Lib.hid hxs
              have HRX := Lib.hid (show rightP xs = true by rw [← hxs]; exact right_inv _)
              clear hxs
              obtain ⟨A7, c7, hv7, hr7⟩ := hEk.mono HLk.out
              have HR7 := Lib.hid hr7
              rw [hv7] at hadl
              have hab := cell_lt hadl
              rw [add_block] at hab
              clear hRk hEk hr7 hv7
              have x0 := HXk.out.cell 0
              have xl := HXk.out.lt
              have y0 := HJk.out.box.cell 0
              have yl := HJk.out.box.lt
              simp only [List.getElem?_cons_zero] at x0 y0
              have hcast : ((on : Int) - 1 - k) = ((on - 1 - k : Nat) : Int) := by omega
              have hix : ((on - 1 - k : Nat) : Int) < (on : Int) := by omega
              rw [hcast] at ht ⊢
              go_upto_region 14 with (fail)
              go_still_tail 5, (by kernel_rfl)
              change wpList _ _ _ _ _ wr.drew
              generalize hwd : wr.drew = wd
              have hFd : Fr Nob wr wd := by subst hwd; exact (Fr.refl _ _).drew
              have HJd := Lib.hid (HJk.out.fr0 hFd)
              have HFd := Lib.hid (HFk.out.trans hFd (fun _ _ h => h.elim))
              have HRd := Lib.hid (HR7.out.fr hFd (fun _ _ h => h.elim))
              have HIX := Lib.hid (And.intro hcast hlt)
              clear hwd hFd x0 xl y0 yl hadl hab
              go_wp2_with fail
              refine (posadd_any Nk Nk w.heap.size m vk msk xs A7 c7 wd HJd.out.mp HRd.out HRX.out (by have := HJd.out.len; simp at this; omega)).mono ?_
              rintro e w6 ⟨rfl, v', A', c', hM6, hF6, hown⟩
              have hown2 : ∀ j, v'.ownBlock = some j → Nk j ∨ wd.heap.size ≤ j := fun j hj => by
                rcases hown with h | ⟨g, h, hg⟩
                · exact .inl (HJd.out.mp.mine _ (.inr (by rw [← h]; exact hj)))
                · rw [hj] at h; cases h; exact .inr hg
              have hxl := HJd.out.box.lt
              have HL6 := Lib.hid (show Later (fun j => j = m) W5 (fun j => Nk j ∧ j < wd.heap.size ∨ v'.ownBlock = some j) from HLk.out.trans (w' := wd) (N' := Nk) (fun j hj => by
                rcases hj with ⟨h, _⟩ | h
                · exact .inl h
                · exact hown2 j h) HFd.out.size)
              have HF6 := Lib.hid (HFd.out.later HLk.out (hF6.mono (fun j _ h => HJd.out.mp.mine j h)))
              have HJ6 := Lib.hid (show J2R w.heap.size (m + 1) m ((((own.map StepA.s).map undoM).reverse).take (k + 1)) [] (fun j => Nk j ∧ j < wd.heap.size ∨ v'.ownBlock = some j) w6 v' (msk ++ [⟨xs, -1, A', c'⟩]) by
                refine ⟨hM6, HJd.out.box.fr hF6 (fun h => HJd.out.nbox (HJd.out.mp.mine _ h)), ?_, ?_, ?_⟩
                · rintro (⟨h, _⟩ | h)
                  · exact HJd.out.nbox h
                  · rcases hown2 _ h with h | h
                    · exact HJd.out.nbox h
                    · omega
                · rintro j (⟨_, h⟩ | h)
                  · exact Nat.lt_of_lt_of_le h hF6.size
                  · exact (World.ownsRow.lt hM6.own j h).2
                · have hl : (((own.map StepA.s).map undoM).reverse).length = on := by simp [HON.out]
                  have h1 := HJd.out.sh
                  simp only [List.map_nil, List.append_nil] at h1
                  rw [List.map_append, h1, List.map_nil, List.append_nil, List.take_succ_eq_append_getElem (by rw [hl]; omega), List.getElem_reverse]
                  congr 1
                  simp only [List.map_cons, List.map_nil, List.length_map, List.getElem_map, HON.out, OneM.pure, undoM]
                  have hx := HXS.out
                  simp only [List.getElem_map] at hx
                  rw [hx])
              clear hM6 hF6 hown hown2 hxl
              have wk := wrp64 (((on - 1 - k : Nat) : Int) - 1) (by omega) (by omega)
              go_wp2_with fail
              go_roundg (on - (k + 1))
              case measure => omega
              case rel => exact ⟨k + 1, _, _, _, rfl, by omega, by congr 1; omega, HJ6.out, HF6.out, HL6.out⟩
            · have hke : k = on := by omega
              have ht : ¬ ((0 : Int) ≤ (on : Int) - 1 - k) := by omega
              have HJ7 := Lib.hid (show J2R w.heap.size (m + 1) m (((own.map StepA.s).map undoM).reverse) [] Nk wr vk msk by
                have h := HJk.out
                rwa [List.take_of_length_le (by simp [HON.out]; omega)] at h)
              have HF7 := Lib.hid (HF5.out.trans HFk.out (fun j _ h => by have h1 : j = m := h; have := HMM.out; omega))
              have HBk := Lib.hid (HB5.out.fr HFk.out (fun h => by have h1 : w.heap.size = m := h; have := HMM.out; omega))
              have HNk := Lib.hid (show ∀ j, Nk j → w.heap.size ≤ j from fun j hj => by
                have h1 := HMM.out
                have h2 := HF5.out.size
                rcases HLk.out j hj with h | h
                · have h' : j = m := h; omega
                · omega)
              have HNO := Lib.hid (show ¬ Nk w.heap.size from fun h => by
                have h1 := HMM.out
                have h2 := HB5.out.lt
                rcases HLk.out _ h with h | h
                · have h' : w.heap.size = m := h; omega
                · omega)
              clear hke HJk HFk HLk HB5 HVS HEV HX5 HJ5 HVL
              go_upto_region 16 with (fail)
              have HLM := Lib.hid (show Later M w Nk from fun j hj => .inr (HNk.out j hj))
              have HW := Lib.hid (show ∀ j, (M j ∨ j = w.heap.size) → j < wr.heap.size from fun j hj => by
                rcases hj with hj | hj
                · exact Nat.lt_of_lt_of_le (HM.out j hj) HF7.out.size
                · have := HBk.out.lt; omega)
              go_wp2_with fail
              have hrun := remrun_any 39 #[.pointer (some ⟨m + 1, 0, none⟩)] 1000 (J2 w.heap.size (m + 1) m (((own.map StepA.s).map undoM).reverse)) (told2 _ _ _ 1000 _ (by simp [HON.out]; omega)) Nk (fun k => M k ∨ k = w.heap.size) p rs g HOK.out over VA vc v l wr (by rw [HVN.out]; exact hvn) (Nat.le_refl _) ⟨_, _, HJ7.out⟩ (HS.out.later HF7.out.any HLM.out) (HV.out.later HF7.out.any HLM.out) HW.out ((HD.out.bound.fr HF7.out.any (fun _ _ h => .inl h)).mono (fun j hj => by
                rcases hj with hj | hj | hj
                · exact HLM.out j hj
                · exact .inl hj
                · exact .inr (by omega))) HN.out
              rw [HVN.out] at hrun
              refine hrun.mono ?_
              clear hrun
              rintro e w8 ⟨v8, rfl, hJ8, hF8⟩
              obtain ⟨⟨rl2, re2⟩, hre⟩ : ∃ r, runF rs g (over.map StepA.s) l = r := ⟨_, rfl⟩
              rw [hre] at hJ8 HR3 ⊢
              have HRUN2 := Lib.hid hre
              clear hre
              have HF8 := Lib.hid (HF7.out.trans hF8 (fun j _ h => by have h1 := HNk.out j h; omega))
              have HB8 := Lib.hid (HBk.out.fr hF8 (fun h => by
                have h1 := HLM.out _ h
                have h2 := HJ7.out.nbox
                exact HNO.out h))
              clear hF8
              by_cases h4 : re2 = 0
              · subst h4
                obtain ⟨N8, ⟨v9, ms8, hJ9⟩, hL9, hD9⟩ := hJ8 rfl
                have HR4 := HR3
                simp only [ne_eq, not_true, if_false, refV, if_true] at HR4 ⊢
                have HJ9 := Lib.hid (show J2R w.heap.size (m + 1) m ((((own.map StepA.s).map undoM).reverse) ++ (over.map StepA.s).map mapM) [] N8 w8 v9 ms8 from ⟨hJ9.mp, hJ9.box, hJ9.nbox, hJ9.lt, by rw [hJ9.sh]; simp⟩)
                obtain ⟨DA, dc, rfl, hdc, hdr⟩ := hD9
                obtain ⟨Xo, hXo⟩ : ∃ Xo, w8.heap.size = Xo := ⟨_, rfl⟩
                have hN8 : ∀ j, N8 j → w.heap.size < j := fun j hj => by
                  have h2 := HBk.out.lt
                  rcases hL9 j hj with h | h
                  · have h1 := HNk.out j h
                    have h3 : j ≠ w.heap.size := fun e => HNO.out (e ▸ h)
                    omega
                  · omega
                have hlt9 := HJ9.out.lt
                rw [hXo] at hlt9
                have hB8l := HB8.out.lt
                rw [hXo] at hB8l
                go_upto_region 20 with (fail)
                obtain ⟨W9, hW9⟩ : ∃ W9, w8.alloc (.cells #[.slice DA rl2.length dc, .slice none 0 0, .slice none 0 0] 46) = W9 := ⟨_, rfl⟩
                have HB9 := Lib.hid (show Blk W9 w.heap.size [.slice none 0 0, .slice none 0 0, .slice none 0 0] 46 by rw [← hW9]; exact HB8.out.alloc _)
                have HF9 := Lib.hid (show Fr Nob w W9 by rw [← hW9]; exact HF8.out.alloc _)
                have hxo : Blk W9 Xo [.slice DA rl2.length dc, .slice none 0 0, .slice none 0 0] 46 := by rw [← hW9]; exact Blk.new_at _ _ _ _ hXo.symm
                have HN9 := Lib.hid (show ∀ j, (N8 j ∨ j = Xo) → w.heap.size < j ∧ j < W9.heap.size by
                  rintro j (h | rfl)
                  · exact ⟨hN8 j h, by have := hlt9 j h; have := hxo.lt; omega⟩
                  · exact ⟨hB8l, hxo.lt⟩)
                have HLM9 := Lib.hid (show Later M w (fun j => N8 j ∨ j = Xo) from fun j hj => .inr (by
                  rcases hj with h | h
                  · exact Nat.le_of_lt (hN8 j h)
                  · omega))
                have HI := Lib.hid (show RbI (fun k => M k ∨ k = w.heap.size) (fun j => N8 j ∨ j = Xo) w.heap.size m Xo vn own rs g R.1 W9 0 W9 (fun j => N8 j ∨ j = Xo) ((((own.map StepA.s).map undoM).reverse) ++ (over.map StepA.s).map mapM) v9 ms8 rl2 DA dc [] [] (.slice none 0 0) (.slice none 0 0) by
                  refine ⟨Nat.zero_le _, ?_, ⟨hxo, World.ownsRow_nil _ _ _ _, World.ownsRow_nil _ _ _ _, by simp [Value.ownBlock], by simp [Value.ownBlock], fun k h => (by cases h), ?_⟩, ?_, Fr.refl _ _, Later.refl _ _, ?_, ?_, fun x hx => (by cases hx), ?_, ?_, ?_, Nat.le_refl _, rfl⟩
                  · have h9 := HJ9.out.fr0 (show Fr Nob w8 W9 by rw [← hW9]; exact (Fr.refl _ _).alloc _)
                    have hbx := HJ9.out.box.lt
                    refine ⟨((HJ9.out.mp.bound).fr0 (show Fr Nob w8 W9 by rw [← hW9]; exact (Fr.refl _ _).alloc _)).less (fun k hk => ?_) (fun k hk => .inl (HJ9.out.mp.mine k hk)), h9.box, ?_, fun k hk => (HN9.out k hk).2, h9.sh⟩
                    · rcases hk with hk | hk
                      · exact .inl hk
                      · exact .inr (by have h1 : k = Xo := hk; omega)
                    · rintro (h | h)
                      · exact h9.nbox h
                      · have h1 : m + 1 = Xo := h; omega
                  · rintro k (h | h | h)
                    · exact .inr h
                    · cases h
                    · cases h
                  · rintro k hk (h | h | h)
                    · have h1 := hlt9 k (HJ9.out.mp.mine k hk)
                      omega
                    · cases h
                    · cases h
                  · refine Doc.mono (Doc.fr0 (Doc.bound ⟨DA, dc, rfl, hdc, hdr⟩) (show Fr Nob w8 W9 by rw [← hW9]; exact (Fr.refl _ _).alloc _)) (fun k hk => ?_)
                    rcases hk with (hk | hk) | hk
                    · exact .inl (.inl hk)
                    · exact .inr (by have h1 : k = Xo := hk; omega)
                    · exact .inl (.inr hk)
                  · exact remrun_len HN.out HRUN2.out
                  · have := HR4.out
                    rw [this]
                    simp only [List.drop_zero, HON.out, List.map_nil]
                  · intro j hj
                    rw [List.getElem?_append_left (by simp; omega), List.getElem?_eq_getElem (by simp; omega)]
                    simp [undoM]
                  · simp [HVN.out])
                have HR5 := Lib.hid (show R.2 = 0 by rw [HR4.out])
                try rw [hW9]
                clear hW9 hxo hN8 hlt9 hB8l hdc hdr hL9 hXo hJ9 HJ9 HR4 HR3 HB8 HF8 HBk HJ7 HNO HF7 HNk HLM HW
                go_wp2_with fail
                go_loopg [88] (on) (fun n s88 wr => ∃ (i : Nat) (N : Nat → Prop) (Lk : List OneM) (vk : Value) (msk : List OneM) (doc : List Tok) (DA : Option Addr) (dc : Nat) (L : List StepA) (kept : List Nat) (sv kv : Value), n = on - i ∧ i ≤ on ∧ s88 = .int .i64 i ∧ Hid (RbI (fun k => M k ∨ k = w.heap.size) (fun j => N8 j ∨ j = Xo) w.heap.size m Xo vn own rs g R.1 W9 i wr N Lk vk msk doc DA dc L kept sv kv))
                case atStart => exact ⟨0, _, _, _, _, _, _, _, _, _, _, _, rfl, Nat.zero_le _, rfl, HI.out⟩
                case round =>
                  clear HI
                  obtain ⟨i, N, Lk, vk, msk, doc, DA, dc, L, kept, sv, kv, rfl, hi, rfl, HI⟩ := hrel
                  by_cases hlt : i < on
                  · have ht : ((i : Int) < (on : Int)) := by omega
                    have HOk := Lib.hid ((((HO.out.later HF9.out.any HLM9.out)).later HI.out.fw HI.out.lat))
                    have hlo : i < own.length := by rw [HON.out]; exact hlt
                    obtain ⟨ad, rfl, hnb, hbl, h0, hj⟩ := Rd.elt StepA.cells_len (by omega) HOk.out.row hlo
                    obtain ⟨⟨s, B, b⟩, hx⟩ : ∃ x, own[i] = x := ⟨_, rfl⟩
                    have HX := Lib.hid hx
                    rw [hx] at h0 hj
                    have q1 := hj 0 (by omega)
                    have q2 := hj 1 (by omega)
                    have q3 := hj 2 (by omega)
                    have q4 := hj 3 (by omega)
                    have q5 := hj 4 (by omega)
                    have q6 := hj 5 (by omega)
                    have q7 := hj 6 (by omega)
                    clear hj hx
                    simp only [StepA.cells, StepM.cells, List.getElem?_cons_zero, List.getElem?_cons_succ] at h0 q1 q2 q3 q4 q5 q6 q7
                    go_upto_region 23 with (fail)
                    obtain ⟨W2, hW2⟩ : ∃ W2, wr.alloc (.cells #[.int .i64 s.k, .int .i64 s.f, .int .i64 s.t, .int .i64 s.gf, .int .i64 s.gt, .int .i64 s.ins, .slice B s.l.length b, .int .i64 s.m] 24) = W2 := ⟨_, rfl⟩
                    have HFa := Lib.hid (show Fr Nob wr W2 by rw [← hW2]; exact (Fr.refl _ _).alloc _)
                    have HBa := Lib.hid (show Blk W2 wr.heap.size [.int .i64 s.k, .int .i64 s.f, .int .i64 s.t, .int .i64 s.gf, .int .i64 s.gt, .int .i64 s.ins, .slice B s.l.length b, .int .i64 s.m] 24 by rw [← hW2]; exact Blk.new _ _ _)
                    rw [hW2]
                    clear hW2 h0 q1 q2 q3 q4 q5 q6 q7 hnb hbl
                    have HXB := Lib.hid (show Rd N wr B (tokC s.l) ∧ s.l.length ≤ b by
                      have h1 := HOk.out.each own[i] (List.getElem_mem _)
                      have h2 := HOk.out.cap own[i] (List.getElem_mem _)
                      rw [HX.out] at h1 h2
                      exact ⟨h1, h2⟩)
                    clear HOk
                    have HJ2 := Lib.hid (HI.out.jm.fr0 HFa.out)
                    have HMS := Lib.hid (show msk.length ≤ 3000 by
                      have h1 := HI.out.jm.len
                      have h2 := HI.out.len
                      have h3 := HI.out.few
                      simp only [List.length_nil, Nat.add_zero] at h1
                      rw [HON.out] at h2
                      omega)
                    have b0 := HBa.out.cell 0
                    have b1 := HBa.out.cell 1
                    have b2 := HBa.out.cell 2
                    have b3 := HBa.out.cell 3
                    have b4 := HBa.out.cell 4
                    have b5 := HBa.out.cell 5
                    have b6 := HBa.out.cell 6
                    have b7 := HBa.out.cell 7
                    have hlb := HBa.out.lt
                    have y0 := HJ2.out.box.cell 0
                    have yl := HJ2.out.box.lt
                    have wk := wrp64 ((on : Int) - i) (by omega) (by omega)
                    simp only [List.getElem?_cons_zero, List.getElem?_cons_succ] at b0 b1 b2 b3 b4 b5 b6 b7 y0
                    go_wp2_with fail
                    have hst := remstep_any N _ w.heap.size m vk msk s B b ((on : Int) - i) W2 HJ2.out.mp (by have := HMS.out; omega) (HXB.out.1.fr HFa.out (fun _ _ h => h.elim))
                    simp only [StepM.cells] at hst
                    refine hst.mono ?_
                    clear hst b0 b1 b2 b3 b4 b5 b6 b7 hlb y0 yl wk
                    rintro e w3' ⟨rfl, hFb⟩
                    have HFb := Lib.hid (HFa.out.same hFb)
                    clear hFb
                    have HTH := Lib.hid (show stepThru msk ((on : Int) - i) s = stepThru Lk ((on : Int) - i) s by
                      have h := HJ2.out.sh
                      simp only [List.map_nil, List.append_nil] at h
                      rw [← h, stepThru_pure])
                    obtain ⟨r, hr⟩ : ∃ r, stepThru msk ((on : Int) - i) s = r := ⟨_, rfl⟩
                    have HTR := Lib.hid (show stepThru Lk ((on : Int) - i) s = r by rw [← HTH.out, hr])
                    have HTM := Lib.hid hr
                    rw [hr]
                    clear hr HTH
                    have HGO := Lib.hid (show rbGo rs g own.length (s :: (own.drop (i + 1)).map StepA.s) i Lk ⟨doc, L.map StepA.s, kept⟩ = R.1 by
                      have h := HI.out.go
                      rwa [List.drop_eq_getElem_cons hlo, List.map_cons, HX.out] at h)
                    have wk := wrp64 ((i : Int) + 1) (by omega) (by omega)
                    cases r with
                    | none =>
                      have HG2 := Lib.hid (show rbGo rs g own.length ((own.drop (i + 1)).map StepA.s) (i + 1) Lk ⟨doc, L.map StepA.s, kept⟩ = R.1 by
                        have h := HGO.out
                        rw [rbGo, HON.out, HTR.out] at h
                        rw [HON.out]
                        exact h)
                      simp only [Option.elim, Option.isSome, zeroStep]
                      go_wp2_with fail
                      go_roundg (on - (i + 1))
                      case measure => omega
                      case rel => exact ⟨i + 1, N, Lk, vk, msk, doc, DA, dc, L, kept, sv, kv, rfl, by omega, by simp, HI.out.skip (HFb.out.alloc _) hlo HG2.out⟩
                    | some x =>
                      have HXL := Lib.hid (stepThru_l HTM.out)
                      simp only [Option.elim, Option.isSome]
                      go_upto_region 25 with (fail)
                      obtain ⟨xn, hxn⟩ : ∃ xn, s.l.length = xn := ⟨_, rfl⟩
                      have HXN := Lib.hid hxn
                      rw [hxn]
                      clear hxn
                      obtain ⟨Bx, hBx⟩ : ∃ Bx, w3'.heap.size = Bx := ⟨_, rfl⟩
                      obtain ⟨W4, hW4⟩ : ∃ W4, w3'.alloc (.cells #[.int .i64 x.k, .int .i64 x.f, .int .i64 x.t, .int .i64 x.gf, .int .i64 x.gt, .int .i64 x.ins, .slice B xn b, .int .i64 x.m] 24) = W4 := ⟨_, rfl⟩
                      have HFc := Lib.hid (show Fr Nob wr W4 by rw [← hW4]; exact HFb.out.alloc _)
                      have HBx := Lib.hid (show Blk W4 Bx [.int .i64 x.k, .int .i64 x.f, .int .i64 x.t, .int .i64 x.gf, .int .i64 x.gt, .int .i64 x.ins, .slice B xn b, .int .i64 x.m] 24 by rw [← hW4, ← hBx]; exact Blk.new _ _ _)
                      have HBXL := Lib.hid (show wr.heap.size ≤ Bx by rw [← hBx]; exact HFb.out.size)
                      rw [hW4, hBx]
                      clear hW4 hBx
                      have HO4 := Lib.hid (HI.out.out.fr0 HFc.out)
                      have HDC := HI.out.dcm
                      obtain ⟨_, _, he, hdc, hdr⟩ := HDC
                      cases he
                      have HDR := Lib.hid hdr
                      clear hdr
                      have b0 := HBx.out.cell 0
                      have b1 := HBx.out.cell 1
                      have b2 := HBx.out.cell 2
                      have b3 := HBx.out.cell 3
                      have b4 := HBx.out.cell 4
                      have b5 := HBx.out.cell 5
                      have b6 := HBx.out.cell 6
                      have b7 := HBx.out.cell 7
                      have hlb := HBx.out.lt
                      have o0 := HO4.out.blk.cell 0
                      have ol := HO4.out.blk.lt
                      simp only [List.getElem?_cons_zero, List.getElem?_cons_succ] at b0 b1 b2 b3 b4 b5 b6 b7 o0
                      go_wp2_with fail
                      have hap := remdo_any N _ N p rs g HOK.out x DA B doc dc b W4 ((((HS.out.later HF9.out.any HLM9.out).later HI.out.fw HI.out.lat)).fr0 HFc.out) (HDR.out.fr HFc.out (fun _ _ h => h.elim)) (by rw [HXL.out.1]; exact HXB.out.1.fr HFc.out (fun _ _ h => h.elim)) hdc (by rw [HXL.out.1]; exact HXB.out.2) HI.out.docn
                      simp only [StepM.cells, HXL.out.1, HXN.out] at hap
                      refine hap.mono ?_
                      clear hap b0 b1 b2 b3 b4 b5 b6 b7 hlb o0 ol hdc
                      rintro e w5 ⟨v5, rfl, hv5, _, hF5⟩
                      have HF5b := Lib.hid (HFc.out.same hF5)
                      have HF45 := Lib.hid hF5
                      clear hF5
                      by_cases hz0 : doE rs g x doc = 0
                      · have HV5 := Lib.hid (hv5 hz0)
                        have HZ0 := Lib.hid hz0
                        rw [hz0]
                        clear hv5 hz0
                        simp only [refV, if_true]
                        have HBx5 := Lib.hid (HBx.out.fr HF45.out (fun h => h))
                        obtain ⟨gd, rfl, hgd, hbd⟩ := HV5.out
                        have HGD := Lib.hid (And.intro hgd hbd)
                        clear hgd hbd
                        have b0 := HBx5.out.cell 0
                        have b1 := HBx5.out.cell 1
                        have b2 := HBx5.out.cell 2
                        have b3 := HBx5.out.cell 3
                        have b4 := HBx5.out.cell 4
                        have b5 := HBx5.out.cell 5
                        have b6 := HBx5.out.cell 6
                        have b7 := HBx5.out.cell 7
                        have hlb := HBx5.out.lt
                        simp only [List.getElem?_cons_zero, List.getElem?_cons_succ] at b0 b1 b2 b3 b4 b5 b6 b7
                        go_wp2_with fail
                        have hJL := HI.out.jm.len
                        have hLL := HI.out.len
                        have hLF := HI.out.few
                        simp only [List.length_nil, Nat.add_zero] at hJL
                        rw [HON.out] at hLL
                        have htl := told2_one w.heap.size (m + 1) m Lk [] x N w5 B b _ _ (HI.out.jm.fr0 HF5b.out) (by simp only [List.length_nil]; omega) HXL.out.2 (by rw [HXL.out.1]; exact HXB.out.1.fr HF5b.out (fun _ _ h => h.elim))
                        simp only [StepM.cells, HXL.out.1, HXN.out] at htl
                        refine htl.mono ?_
                        clear htl b0 b1 b2 b3 b4 b5 b6 b7 hlb
                        rintro e w6 ⟨rfl, N6, v6, ms6, hJ6, hF6, hN1, hN2, hMB⟩
                        have HJ6 := Lib.hid (show J2R w.heap.size (m + 1) m (Lk ++ [mapM x]) [] N6 w6 v6 ms6 from ⟨hJ6.mp, hJ6.box, hJ6.nbox, hJ6.lt, by rw [hJ6.sh]; simp⟩)
                        have HF6 := Lib.hid hF6
                        have HL6 := Lib.hid (And.intro hN1 (And.intro hN2 hMB))
                        clear hJ6 hF6 hN1 hN2 hMB
                        have hm6 : ms6.length = Lk.length + 1 := by have := HJ6.out.len; simpa using this
                        obtain ⟨A6, c6, rfl, _, _⟩ := Rd.of_own (M := Nob) HJ6.out.mp.own (fun _ _ h => h)
                        go_upto_region 28 with (fail)
                        obtain ⟨lk, hlk⟩ : ∃ n, Lk.length = n := ⟨_, rfl⟩
                        have HLK := Lib.hid hlk
                        rw [hlk] at hm6 hLL
                        have hlb : on + lk ≤ 4000 ∧ on ≤ lk := by omega
                        have hjb : msk.length + 1 ≤ 4095 := by omega
                        clear hlk hLL hLF hJL
                        refine wp_region_held_drew (S := fun W => W.cell? ⟨m + 1, 0, none⟩ = some (.pointer (some ⟨m, 0, none⟩))) (by kernel_rfl) (HJ6.out.box.cell 0) (fun _ => ?_)
                        have HJd := Lib.hid (HJ6.out.fr0 ((Fr.refl Nob w6).drew))
                        have HF6d := Lib.hid (show Fr Nob w6 w6.drew from (Fr.refl Nob w6).drew)
                        have HS := Lib.hid (show w6.drew.cell? ⟨m + 1, 0, none⟩ = some (.pointer (some ⟨m, 0, none⟩)) from HJ6.out.box.cell 0)
                        generalize w6.drew = wd at HJd HF6d HS ⊢
                        have wk1 : IntKind.i64.wrap ((on : Int) - 1) = (on : Int) - 1 := by rw [IntKind.wrap_i64]; omega
                        have hc5 : ((on : Int) - 1 - i) = ((on - 1 - i : Nat) : Int) := by omega
                        have wk2 : IntKind.i64.wrap ((on : Int) - 1 - i) = ((on - 1 - i : Nat) : Int) := by rw [IntKind.wrap_i64, hc5]; omega
                        have wk3 : IntKind.i64.wrap (((lk + 1 : Nat) : Int) - 1) = ((lk : Nat) : Int) := by rw [IntKind.wrap_i64]; omega
                        clear hc5
                        refine wpAnyH_take (i := 0) (v := .pointer (some ⟨m, 0, none⟩)) rfl (by kernel_rfl) (by kernel_rfl) (by kernel_rfl) (fun _ _ _ h => h) (Or.inl ⟨by rfl, fun w hSw => by (try dsimp only at hSw); go_simp⟩) HS.out ?_
                        try simp only [List.getElem_toArray, List.getElem_cons_succ, List.getElem_cons_zero, Act.put, List.setIfInBounds_toArray, List.set_cons_zero, List.set_cons_succ]
                        refine wpAnyH_take (i := 1) (v := .slice (some ad) on oc) rfl (by kernel_rfl) (by kernel_rfl) (by kernel_rfl) (fun _ _ _ h => h) (Or.inl ⟨by rfl, fun w hSw => by (try dsimp only at hSw); go_simp⟩) HS.out ?_
                        try simp only [List.getElem_toArray, List.getElem_cons_succ, List.getElem_cons_zero, Act.put, List.setIfInBounds_toArray, List.set_cons_zero, List.set_cons_succ]
                        refine wpAnyH_take (i := 2) (v := .int .i64 on) rfl (by kernel_rfl) (by kernel_rfl) (by kernel_rfl) (fun _ _ _ h => h) (Or.inl ⟨by rfl, fun w hSw => by (try dsimp only at hSw); go_simp⟩) HS.out ?_
                        try simp only [List.getElem_toArray, List.getElem_cons_succ, List.getElem_cons_zero, Act.put, List.setIfInBounds_toArray, List.set_cons_zero, List.set_cons_succ]
                        refine wpAnyH_take (i := 3) (v := .int .i64 ((on : Int) - 1)) rfl (by kernel_rfl) (by kernel_rfl) (by kernel_rfl) (fun _ _ _ h => h) (Or.inl ⟨by rfl, fun w hSw => by (try dsimp only at hSw); go_simp; try exact wk1⟩) HS.out ?_
                        try simp only [List.getElem_toArray, List.getElem_cons_succ, List.getElem_cons_zero, Act.put, List.setIfInBounds_toArray, List.set_cons_zero, List.set_cons_succ]
                        refine wpAnyH_take (i := 4) (v := .int .i64 i) rfl (by kernel_rfl) (by kernel_rfl) (by kernel_rfl) (fun _ _ _ h => h) (Or.inl ⟨by rfl, fun w hSw => by (try dsimp only at hSw); go_simp⟩) HS.out ?_
                        try simp only [List.getElem_toArray, List.getElem_cons_succ, List.getElem_cons_zero, Act.put, List.setIfInBounds_toArray, List.set_cons_zero, List.set_cons_succ]
                        refine wpAnyH_take (i := 5) (v := .int .i64 ((on - 1 - i : Nat) : Int)) rfl (by kernel_rfl) (by kernel_rfl) (by kernel_rfl) (fun _ _ _ h => h) (Or.inl ⟨by rfl, fun w hSw => by (try dsimp only at hSw); go_simp; try exact wk2⟩) HS.out ?_
                        try simp only [List.getElem_toArray, List.getElem_cons_succ, List.getElem_cons_zero, Act.put, List.setIfInBounds_toArray, List.set_cons_zero, List.set_cons_succ]
                        refine wpAnyH_take (i := 6) (v := .pointer (some ⟨m, 0, none⟩)) rfl (by kernel_rfl) (by kernel_rfl) (by kernel_rfl) (fun _ _ _ h => h) (Or.inl ⟨by rfl, fun w hSw => by (try dsimp only at hSw); go_simp⟩) HS.out ?_
                        try simp only [List.getElem_toArray, List.getElem_cons_succ, List.getElem_cons_zero, Act.put, List.setIfInBounds_toArray, List.set_cons_zero, List.set_cons_succ]
                        clear wk1 wk2
                        refine wpAnyH_ready (rs := [7]) (by kernel_rfl) (by simp) (AllReadyH.cons (o := _) rfl (fun K hK => ?_) AllReadyH.nil)
                        go_simp
                        refine (poslen_any m A6 ms6.length c6 wd (HJd.out.mp.blk.cell 0) (HJd.out.mp.blk.cell 1)).mono ?_
                        rintro e w' ⟨rfl, rfl⟩
                        rw [hm6]
                        go_wp2_with fail
                        refine hK.out _ _ HS.out (fun _ => ?_)
                        clear hK K
                        try simp only [List.getElem_toArray, List.getElem_cons_succ, List.getElem_cons_zero, Act.put, List.setIfInBounds_toArray, List.set_cons_zero, List.set_cons_succ]
                        refine wpAnyH_take (i := 8) (v := .int .i64 ((lk : Nat) : Int)) rfl (by kernel_rfl) (by kernel_rfl) (by kernel_rfl) (fun _ _ _ h => h) (Or.inl ⟨by rfl, fun w hSw => by (try dsimp only at hSw); go_simp; try (rw [IntKind.wrap_i64]; omega)⟩) HS.out ?_
                        try simp only [List.getElem_toArray, List.getElem_cons_succ, List.getElem_cons_zero, Act.put, List.setIfInBounds_toArray, List.set_cons_zero, List.set_cons_succ]
                        clear wk3
                        refine wpAnyH_ready (rs := [9]) (by kernel_rfl) (by simp) (AllReadyH.cons (o := _) rfl (fun K hK => ?_) AllReadyH.nil)
                        go_simp
                        refine (mirror_any N6 w.heap.size m (.slice A6 ms6.length c6) ms6 (on - 1 - i) lk w' HJd.out.mp (by omega) (by omega) (by have h1 := mir_get HJ6.out.sh (j := on - 1 - i) (by omega); have h0 := HLK.out; rw [List.map_nil, List.append_nil, List.getElem?_append_left (by omega), HI.out.mirs _ (by rw [HON.out]; omega)] at h1; injection h1 with h1; omega) (mir_last (by have h := HJ6.out.sh; rwa [List.map_nil, List.append_nil] at h) HLK.out (by omega)) (by omega)).mono ?_
                        rintro e w7 ⟨rfl, hM7, hF7⟩
                        have HJ7 := Lib.hid (show J2R w.heap.size (m + 1) m (mirL (Lk ++ [mapM x]) (on - 1 - i) lk) [] N6 w7 (.slice A6 ms6.length c6) (mirL ms6 (on - 1 - i) lk) from ⟨hM7, HJd.out.box.fr hF7 (fun h => HJd.out.nbox (HJd.out.mp.mine _ h)), HJd.out.nbox, fun k hk => Nat.lt_of_lt_of_le (HJd.out.lt k hk) hF7.size, by rw [mirL_pure, HJd.out.sh]; simp⟩)
                        have HF67 := Lib.hid (show Fr (MB m (.slice A6 ms6.length c6)) w6 w7 from HF6d.out.any.trans hF7 (fun k _ h => h))
                        have HS7 := Lib.hid (show w7.cell? ⟨m + 1, 0, none⟩ = some (.pointer (some ⟨m, 0, none⟩)) from HJ7.out.box.cell 0)
                        clear hM7 hF7
                        go_wp2_with fail
                        refine hK.out _ _ HS7.out (fun _ => ?_)
                        clear hK K
                        try simp only [List.getElem_toArray, List.getElem_cons_succ, List.getElem_cons_zero, Act.put, List.setIfInBounds_toArray, List.set_cons_zero, List.set_cons_succ]
                        refine wpAnyH_done (by kernel_rfl) ?_ _
                        have HS := HS7
                        have HUC := HI.out.outw HF5b.out HBx5.out HBXL.out HF6.out HF67.out HL6.out.2.2
                        have HU7 := Lib.hid HUC.1
                        have HC7 := Lib.hid HUC.2
                        clear HUC
                        have HWS := Lib.hid (show w.heap.size ≤ w7.heap.size by
                          have h1 := HF9.out.size
                          have h2 := HI.out.fw.size
                          have h3 := HF5b.out.size
                          have h4 := HF6.out.size
                          have h5 := HF67.out.size
                          omega)
                        have HMr := Lib.hid (show ∀ k, (M k ∨ k = w.heap.size) → k < wr.heap.size from fun k hk => by
                          have h1 := HF9.out.size
                          have h2 := HI.out.fw.size
                          have h3 := HB9.out.lt
                          rcases hk with hk | hk
                          · have := HM.out k hk; omega
                          · omega)
                        have FIN : Hid (∀ W gs cs gk ck, OutRW w.heap.size Xo Bx [.int .i64 x.k, .int .i64 x.f, .int .i64 x.t, .int .i64 x.gf, .int .i64 x.gt, .int .i64 x.ins, .slice B xn b, .int .i64 x.m] (.slice DA doc.length dc) sv kv w7.drew W (.slice (some ⟨gs, 0, none⟩) (L.length + 1) cs) (.slice (some ⟨gk, 0, none⟩) (kept.length + 1) ck) (L.length + 1) (kept.length + 1) (stepC L ++ [.int .i64 x.k, .int .i64 x.f, .int .i64 x.t, .int .i64 x.gf, .int .i64 x.gt, .int .i64 x.ins, .slice B xn b, .int .i64 x.m]) ((kept.map fun (k : Nat) => Value.int .i64 (k : Int)) ++ [.int .i64 i]) →
                            ∀ WE, ((W.setCell ⟨Xo, 0, none⟩ (.slice (some ⟨gd, 0, none⟩) (doF x doc).length (doF x doc).length)).setCell ⟨Xo, 1, none⟩ (.slice (some ⟨gs, 0, none⟩) (L.length + 1) cs)).setCell ⟨Xo, 2, none⟩ (.slice (some ⟨gk, 0, none⟩) (kept.length + 1) ck) = WE →
                              ∃ N', RbI (fun k => M k ∨ k = w.heap.size) (fun j => N8 j ∨ j = Xo) w.heap.size m Xo vn own rs g R.1 W9 (i + 1) WE N' (mirL (Lk ++ [mapM x]) (on - 1 - i) lk) (.slice A6 ms6.length c6) (mirL ms6 (on - 1 - i) lk) (doF x doc) (some ⟨gd, 0, none⟩) (doF x doc).length (L ++ [⟨x, B, b⟩]) (kept ++ [i]) (.slice (some ⟨gs, 0, none⟩) (L.length + 1) cs) (.slice (some ⟨gk, 0, none⟩) (kept.length + 1) ck)) := fun W gs cs gk ck hU WE hWE => by
                          have h := HI.out.next HMr.out hlo HX.out (by rw [HON.out]; exact HTR.out) HZ0.out HXL.out.1 HF5b.out (Nat.le_trans HFc.out.size HGD.out.1) HGD.out.2 HF6.out HF67.out HL6.out.1 HL6.out.2.1 HL6.out.2.2 (by rw [HON.out, HLK.out]; exact HJ7.out) (by rw [StepM.cells, HXN.out]) hU hWE
                          rw [HON.out, HLK.out] at h
                          exact h
                        obtain ⟨iS, hiS, hzS0, hzS1, hzS2⟩ := info_parts infoStepA
                        obtain ⟨iI, hiI, hzI0, hzI1, hzI2⟩ := info_parts infoI
                        have hlb9 : L.length ≤ 1000 ∧ kept.length ≤ 1000 := by have h1 := HI.out.few; have h2 := HI.out.klen; omega
                        go_upto_region 29 with (fail)
                        refine wp_region_F 12 (S := fun W => W.cell? ⟨Xo, 1, none⟩ = some sv ∧ W.cell? ⟨Xo, 2, none⟩ = some kv ∧ W.cell? ⟨Bx, 0, none⟩ = some (.int .i64 x.k) ∧ W.cell? ⟨Bx, 1, none⟩ = some (.int .i64 x.f) ∧ W.cell? ⟨Bx, 2, none⟩ = some (.int .i64 x.t) ∧ W.cell? ⟨Bx, 3, none⟩ = some (.int .i64 x.gf) ∧ W.cell? ⟨Bx, 4, none⟩ = some (.int .i64 x.gt) ∧ W.cell? ⟨Bx, 5, none⟩ = some (.int .i64 x.ins) ∧ W.cell? ⟨Bx, 6, none⟩ = some (.slice B xn b) ∧ W.cell? ⟨Bx, 7, none⟩ = some (.int .i64 x.m)) (by kernel_rfl) ?_
                        have HU0 := Lib.hid (show OutRW w.heap.size Xo Bx [.int .i64 x.k, .int .i64 x.f, .int .i64 x.t, .int .i64 x.gf, .int .i64 x.gt, .int .i64 x.ins, .slice B xn b, .int .i64 x.m] (.slice DA doc.length dc) sv kv w7.drew w7.drew sv kv L.length kept.length (stepC L) (kept.map fun (k : Nat) => Value.int .i64 (k : Int)) from HU7.out.drewn)
                        have HCd : Hid (OutC Xo Bx sv kv w7.drew) := HC7.out.drewn
                        have HD7 := Lib.hid (show Fr Nob w7 w7.drew from (Fr.refl Nob w7).drew)
                        clear HU7 HC7
                        generalize w7.drew = w8' at HU0 HCd HD7 FIN ⊢
                        have HSS := Lib.hid (show ∀ W sv' kv' ns nk sc kc, OutRW w.heap.size Xo Bx [.int .i64 x.k, .int .i64 x.f, .int .i64 x.t, .int .i64 x.gf, .int .i64 x.gt, .int .i64 x.ins, .slice B xn b, .int .i64 x.m] (.slice DA doc.length dc) sv kv w8' W sv' kv' ns nk sc kc → (fun W => W.cell? ⟨Xo, 1, none⟩ = some sv ∧ W.cell? ⟨Xo, 2, none⟩ = some kv ∧ W.cell? ⟨Bx, 0, none⟩ = some (.int .i64 x.k) ∧ W.cell? ⟨Bx, 1, none⟩ = some (.int .i64 x.f) ∧ W.cell? ⟨Bx, 2, none⟩ = some (.int .i64 x.t) ∧ W.cell? ⟨Bx, 3, none⟩ = some (.int .i64 x.gf) ∧ W.cell? ⟨Bx, 4, none⟩ = some (.int .i64 x.gt) ∧ W.cell? ⟨Bx, 5, none⟩ = some (.int .i64 x.ins) ∧ W.cell? ⟨Bx, 6, none⟩ = some (.slice B xn b) ∧ W.cell? ⟨Bx, 7, none⟩ = some (.int .i64 x.m)) W from fun W _ _ _ _ _ _ h => ⟨h.xo.cell 1, h.xo.cell 2, h.bx.cell 0, h.bx.cell 1, h.bx.cell 2, h.bx.cell 3, h.bx.cell 4, h.bx.cell 5, h.bx.cell 6, h.bx.cell 7⟩)
                        refine wpAnyF_take (i := 0) (v := .slice (some ⟨gd, 0, none⟩) (doF x doc).length (doF x doc).length) rfl (by kernel_rfl) (by kernel_rfl) (by kernel_rfl) (fun _ _ _ h => h) (Or.inl ⟨by rfl, fun w hSw => by (try dsimp only at hSw); obtain ⟨s1, s2, s3, s4, s5, s6, s7, s8, s9, s10⟩ := hSw; go_simp⟩) (HSS.out _ _ _ _ _ _ _ HU0.out) ?_
                        try simp only [List.getElem_toArray, List.getElem_cons_succ, List.getElem_cons_zero, Act.put, List.setIfInBounds_toArray, List.set_cons_zero, List.set_cons_succ]
                        refine wpAnyF_take (i := 1) (v := .pointer (some ⟨Xo, 1, none⟩)) rfl (by kernel_rfl) (by kernel_rfl) (by kernel_rfl) (fun _ _ _ h => h) (Or.inl ⟨by rfl, fun w hSw => by (try dsimp only at hSw); obtain ⟨s1, s2, s3, s4, s5, s6, s7, s8, s9, s10⟩ := hSw; go_simp⟩) (HSS.out _ _ _ _ _ _ _ HU0.out) ?_
                        try simp only [List.getElem_toArray, List.getElem_cons_succ, List.getElem_cons_zero, Act.put, List.setIfInBounds_toArray, List.set_cons_zero, List.set_cons_succ]
                        refine wpAnyF_take (i := 2) (v := sv) rfl (by kernel_rfl) (by kernel_rfl) (by kernel_rfl) (fun _ _ _ h => h) (Or.inl ⟨by rfl, fun w hSw => by (try dsimp only at hSw); obtain ⟨s1, s2, s3, s4, s5, s6, s7, s8, s9, s10⟩ := hSw; go_simp⟩) (HSS.out _ _ _ _ _ _ _ HU0.out) ?_
                        try simp only [List.getElem_toArray, List.getElem_cons_succ, List.getElem_cons_zero, Act.put, List.setIfInBounds_toArray, List.set_cons_zero, List.set_cons_succ]
                        refine wpAnyF_take (i := 3) (v := .agg #[.int .i64 x.k, .int .i64 x.f, .int .i64 x.t, .int .i64 x.gf, .int .i64 x.gt, .int .i64 x.ins, .slice B xn b, .int .i64 x.m]) rfl (by kernel_rfl) (by kernel_rfl) (by kernel_rfl) (fun _ _ _ h => h) (Or.inl ⟨by rfl, fun w hSw => by (try dsimp only at hSw); obtain ⟨s1, s2, s3, s4, s5, s6, s7, s8, s9, s10⟩ := hSw; go_simp⟩) (HSS.out _ _ _ _ _ _ _ HU0.out) ?_
                        try simp only [List.getElem_toArray, List.getElem_cons_succ, List.getElem_cons_zero, Act.put, List.setIfInBounds_toArray, List.set_cons_zero, List.set_cons_succ]
                        refine wpAnyF_take (i := 6) (v := .pointer (some ⟨Xo, 2, none⟩)) rfl (by kernel_rfl) (by kernel_rfl) (by kernel_rfl) (fun _ _ _ h => h) (Or.inl ⟨by rfl, fun w hSw => by (try dsimp only at hSw); obtain ⟨s1, s2, s3, s4, s5, s6, s7, s8, s9, s10⟩ := hSw; go_simp⟩) (HSS.out _ _ _ _ _ _ _ HU0.out) ?_
                        try simp only [List.getElem_toArray, List.getElem_cons_succ, List.getElem_cons_zero, Act.put, List.setIfInBounds_toArray, List.set_cons_zero, List.set_cons_succ]
                        refine wpAnyF_take (i := 7) (v := kv) rfl (by kernel_rfl) (by kernel_rfl) (by kernel_rfl) (fun _ _ _ h => h) (Or.inl ⟨by rfl, fun w hSw => by (try dsimp only at hSw); obtain ⟨s1, s2, s3, s4, s5, s6, s7, s8, s9, s10⟩ := hSw; go_simp⟩) (HSS.out _ _ _ _ _ _ _ HU0.out) ?_
                        try simp only [List.getElem_toArray, List.getElem_cons_succ, List.getElem_cons_zero, Act.put, List.setIfInBounds_toArray, List.set_cons_zero, List.set_cons_succ]
                        refine wpAnyF_take (i := 8) (v := .int .i64 i) rfl (by kernel_rfl) (by kernel_rfl) (by kernel_rfl) (fun _ _ _ h => h) (Or.inl ⟨by rfl, fun w hSw => by (try dsimp only at hSw); obtain ⟨s1, s2, s3, s4, s5, s6, s7, s8, s9, s10⟩ := hSw; go_simp⟩) (HSS.out _ _ _ _ _ _ _ HU0.out) ?_
                        try simp only [List.getElem_toArray, List.getElem_cons_succ, List.getElem_cons_zero, Act.put, List.setIfInBounds_toArray, List.set_cons_zero, List.set_cons_succ]
                        refine wpAnyF_ready (rs := [4, 9]) (by kernel_rfl) (by simp) (AllReadyF.cons (o := _) rfl (fun K hK => ?_) (AllReadyF.cons (o := _) rfl (fun K hK => ?_) AllReadyF.nil))
                        · go_simp
                          obtain ⟨V1, hW⟩ : ∃ W9, w8'.alloc (.cells #[.int .i64 x.k, .int .i64 x.f, .int .i64 x.t, .int .i64 x.gf, .int .i64 x.gt, .int .i64 x.ins, .slice B xn b, .int .i64 x.m] 24) = W9 := ⟨_, rfl⟩
                          have HU1 := Lib.hid (show OutRW w.heap.size Xo Bx [.int .i64 x.k, .int .i64 x.f, .int .i64 x.t, .int .i64 x.gf, .int .i64 x.gt, .int .i64 x.ins, .slice B xn b, .int .i64 x.m] (.slice DA doc.length dc) sv kv w8' V1 sv kv L.length kept.length (stepC L) (kept.map fun (k : Nat) => Value.int .i64 (k : Int)) by rw [← hW]; exact HU0.out.alloc _)
                          have HT4_1 := Lib.hid (show Tmp w8' V1 w8'.heap.size [.int .i64 x.k, .int .i64 x.f, .int .i64 x.t, .int .i64 x.gf, .int .i64 x.gt, .int .i64 x.ins, .slice B xn b, .int .i64 x.m] 24 by rw [← hW]; exact Tmp.new HU0.out.fw.size _ _)
                          rw [hW]
                          clear hW
                          refine hK.out _ _ (fun _ => HSS.out _ _ _ _ _ _ _ HU1.out) ?_
                          clear hK K
                          try simp only [List.getElem_toArray, List.getElem_cons_succ, List.getElem_cons_zero, Act.put, List.setIfInBounds_toArray, List.set_cons_zero, List.set_cons_succ]
                          refine wpAnyF_ready (rs := [5, 9]) (by kernel_rfl) (by simp) (AllReadyF.cons (o := _) rfl (fun K hK => ?_) (AllReadyF.cons (o := _) rfl (fun K hK => ?_) AllReadyF.nil))
                          · refine step_append_two _ rfl _ _ 42 rfl w.heap.size 24 iS _ 8 80 Tryz.underlying42 hiS hzS0 hzS1 hzS2 rfl (by decide) sv L.length (stepC L) rfl HU1.out.so ⟨w8'.heap.size, 0, none⟩ 1 1 [.int .i64 x.k, .int .i64 x.f, .int .i64 x.t, .int .i64 x.gf, .int .i64 x.gt, .int .i64 x.ins, .slice B xn b, .int .i64 x.m] rfl rfl (fun j u hu => by rw [add_lit]; exact (HT4_1.out.1.cell j).trans hu) (fun u hu => by simp only [List.mem_cons, List.not_mem_nil, or_false] at hu; rcases hu with rfl | rfl | rfl | rfl | rfl | rfl | rfl | rfl <;> rfl) (by omega) (by simp only [maxLen]; omega) (by omega) (by have h1 := HU1.out.fw.size; have h2 := HWS.out; have h3 := HD7.out.size; omega) ?_
                            intro g2 cap2 V2 hown htwo
                            obtain ⟨hfr, hgr⟩ := two_row htwo
                            have HU2 := Lib.hid (HU1.out.apps HCd.out hown hfr hgr)
                            have HT4_2 := Lib.hid (HT4_1.out.app (fun k e => (HCd.out.cs k e).1) hfr)
                            clear hown htwo hfr hgr
                            refine hK.out _ _ (fun _ => HSS.out _ _ _ _ _ _ _ HU2.out) ?_
                            clear hK K
                            try simp only [List.getElem_toArray, List.getElem_cons_succ, List.getElem_cons_zero, Act.put, List.setIfInBounds_toArray, List.set_cons_zero, List.set_cons_succ]
                            refine wpAnyF_ready (rs := [9]) (by kernel_rfl) (by simp) (AllReadyF.cons (o := _) rfl (fun K hK => ?_) AllReadyF.nil)
                            go_simp
                            obtain ⟨V3, hW⟩ : ∃ W9, V2.alloc (.cells #[.int .i64 i] 3) = W9 := ⟨_, rfl⟩
                            have HU3 := Lib.hid (show OutRW w.heap.size Xo Bx [.int .i64 x.k, .int .i64 x.f, .int .i64 x.t, .int .i64 x.gf, .int .i64 x.gt, .int .i64 x.ins, .slice B xn b, .int .i64 x.m] (.slice DA doc.length dc) sv kv w8' V3 (.slice (some ⟨g2, 0, none⟩) (L.length + 1) cap2) kv (L.length + 1) kept.length (stepC L ++ [.int .i64 x.k, .int .i64 x.f, .int .i64 x.t, .int .i64 x.gf, .int .i64 x.gt, .int .i64 x.ins, .slice B xn b, .int .i64 x.m]) (kept.map fun (k : Nat) => Value.int .i64 (k : Int)) by rw [← hW]; exact HU2.out.alloc _)
                            have HT4_3 := Lib.hid (show Tmp w8' V3 w8'.heap.size [.int .i64 x.k, .int .i64 x.f, .int .i64 x.t, .int .i64 x.gf, .int .i64 x.gt, .int .i64 x.ins, .slice B xn b, .int .i64 x.m] 24 by rw [← hW]; exact HT4_2.out.alloc _)
                            have HT9_3 := Lib.hid (show Tmp w8' V3 V2.heap.size [.int .i64 i] 3 by rw [← hW]; exact Tmp.new HU2.out.fw.size _ _)
                            rw [hW]
                            clear hW
                            refine hK.out _ _ (fun _ => HSS.out _ _ _ _ _ _ _ HU3.out) ?_
                            clear hK K
                            try simp only [List.getElem_toArray, List.getElem_cons_succ, List.getElem_cons_zero, Act.put, List.setIfInBounds_toArray, List.set_cons_zero, List.set_cons_succ]
                            refine wpAnyF_ready (rs := [10]) (by kernel_rfl) (by simp) (AllReadyF.cons (o := _) rfl (fun K hK => ?_) AllReadyF.nil)
                            refine step_append_two _ rfl _ _ 44 rfl w.heap.size 3 iI _ 1 8 Tryz.underlying44 hiI hzI0 hzI1 hzI2 rfl (by decide) kv kept.length (kept.map fun (k : Nat) => Value.int .i64 (k : Int)) rfl HU3.out.ko ⟨V2.heap.size, 0, none⟩ 1 1 [.int .i64 i] rfl rfl (fun j u hu => by rw [add_lit]; exact (HT9_3.out.1.cell j).trans hu) (fun u hu => by simp only [List.mem_cons, List.not_mem_nil, or_false] at hu; subst hu; rfl) (by omega) (by simp only [maxLen]; omega) (by omega) (by have h1 := HU3.out.fw.size; have h2 := HWS.out; have h3 := HD7.out.size; omega) ?_
                            intro g4 cap4 V4 hown htwo
                            obtain ⟨hfr, hgr⟩ := two_row htwo
                            have HU4 := Lib.hid (HU3.out.appk HCd.out hown hfr hgr)
                            have HT4_4 := Lib.hid (HT4_3.out.app (fun k e => (HCd.out.ck k e).1) hfr)
                            have HT9_4 := Lib.hid (HT9_3.out.app (fun k e => (HCd.out.ck k e).1) hfr)
                            clear hown htwo hfr hgr
                            refine hK.out _ _ (fun _ => HSS.out _ _ _ _ _ _ _ HU4.out) ?_
                            clear hK K
                            try simp only [List.getElem_toArray, List.getElem_cons_succ, List.getElem_cons_zero, Act.put, List.setIfInBounds_toArray, List.set_cons_zero, List.set_cons_succ]
                            refine wpAnyF_take (i := 11) (v := .agg #[.slice (some ⟨gd, 0, none⟩) (doF x doc).length (doF x doc).length, .slice (some ⟨g2, 0, none⟩) (L.length + 1) cap2, .slice (some ⟨g4, 0, none⟩) (kept.length + 1) cap4]) rfl (by kernel_rfl) (by kernel_rfl) (by kernel_rfl) (fun _ _ _ h => h) (Or.inl ⟨by rfl, fun w hSw => by (try dsimp only at hSw); obtain ⟨s1, s2, s3, s4, s5, s6, s7, s8, s9, s10⟩ := hSw; go_simp⟩) (HSS.out _ _ _ _ _ _ _ HU4.out) ?_
                            try simp only [List.getElem_toArray, List.getElem_cons_succ, List.getElem_cons_zero, Act.put, List.setIfInBounds_toArray, List.set_cons_zero, List.set_cons_succ]
                            refine wpAnyF_ready (rs := [12]) (by kernel_rfl) (by simp) (AllReadyF.cons (o := _) rfl (fun K hK => ?_) AllReadyF.nil)
                            have o0 := HU4.out.xo.cell 0
                            have o1 := HU4.out.xo.cell 1
                            have o2 := HU4.out.xo.cell 2
                            have f0 := HU4.out.xo.frozen 0
                            have f1 := HU4.out.xo.frozen 1
                            have f2 := HU4.out.xo.frozen 2
                            have ol := HU4.out.xo.lt
                            simp only [List.getElem?_cons_zero, List.getElem?_cons_succ] at o0 o1 o2
                            go_simp
                            clear o0 o1 o2 f0 f1 f2 ol
                            obtain ⟨WE, hWE⟩ : ∃ WE, ((V4.setCell ⟨Xo, 0, none⟩ (.slice (some ⟨gd, 0, none⟩) (doF x doc).length (doF x doc).length)).setCell ⟨Xo, 1, none⟩ (.slice (some ⟨g2, 0, none⟩) (L.length + 1) cap2)).setCell ⟨Xo, 2, none⟩ (.slice (some ⟨g4, 0, none⟩) (kept.length + 1) cap4) = WE := ⟨_, rfl⟩
                            obtain ⟨N', hEND⟩ := FIN.out _ _ _ _ _ HU4.out WE hWE
                            have HEND := Lib.hid hEND
                            rw [hWE]
                            clear hWE hEND
                            refine hK.out _ _ (fun h => absurd rfl h) ?_
                            clear hK K
                            try simp only [List.getElem_toArray, List.getElem_cons_succ, List.getElem_cons_zero, Act.put, List.setIfInBounds_toArray, List.set_cons_zero, List.set_cons_succ]
                            refine wpAnyF_done (by kernel_rfl) ?_ _
                            go_wp2_with fail
                            go_roundg (on - (i + 1))
                            case measure => omega
                            case rel => exact ⟨i + 1, N', _, _, _, _, _, _, _, _, _, _, rfl, by omega, by simp, HEND.out⟩
                          · go_simp
                            obtain ⟨V5, hW⟩ : ∃ W9, V1.alloc (.cells #[.int .i64 i] 3) = W9 := ⟨_, rfl⟩
                            have HU5 := Lib.hid (show OutRW w.heap.size Xo Bx [.int .i64 x.k, .int .i64 x.f, .int .i64 x.t, .int .i64 x.gf, .int .i64 x.gt, .int .i64 x.ins, .slice B xn b, .int .i64 x.m] (.slice DA doc.length dc) sv kv w8' V5 sv kv L.length kept.length (stepC L) (kept.map fun (k : Nat) => Value.int .i64 (k : Int)) by rw [← hW]; exact HU1.out.alloc _)
                            have HT4_5 := Lib.hid (show Tmp w8' V5 w8'.heap.size [.int .i64 x.k, .int .i64 x.f, .int .i64 x.t, .int .i64 x.gf, .int .i64 x.gt, .int .i64 x.ins, .slice B xn b, .int .i64 x.m] 24 by rw [← hW]; exact HT4_1.out.alloc _)
                            have HT9_5 := Lib.hid (show Tmp w8' V5 V1.heap.size [.int .i64 i] 3 by rw [← hW]; exact Tmp.new HU1.out.fw.size _ _)
                            rw [hW]
                            clear hW
                            refine hK.out _ _ (fun _ => HSS.out _ _ _ _ _ _ _ HU5.out) ?_
                            clear hK K
                            try simp only [List.getElem_toArray, List.getElem_cons_succ, List.getElem_cons_zero, Act.put, List.setIfInBounds_toArray, List.set_cons_zero, List.set_cons_succ]
                            refine wpAnyF_ready (rs := [5]) (by kernel_rfl) (by simp) (AllReadyF.cons (o := _) rfl (fun K hK => ?_) AllReadyF.nil)
                            refine step_append_two _ rfl _ _ 42 rfl w.heap.size 24 iS _ 8 80 Tryz.underlying42 hiS hzS0 hzS1 hzS2 rfl (by decide) sv L.length (stepC L) rfl HU5.out.so ⟨w8'.heap.size, 0, none⟩ 1 1 [.int .i64 x.k, .int .i64 x.f, .int .i64 x.t, .int .i64 x.gf, .int .i64 x.gt, .int .i64 x.ins, .slice B xn b, .int .i64 x.m] rfl rfl (fun j u hu => by rw [add_lit]; exact (HT4_5.out.1.cell j).trans hu) (fun u hu => by simp only [List.mem_cons, List.not_mem_nil, or_false] at hu; rcases hu with rfl | rfl | rfl | rfl | rfl | rfl | rfl | rfl <;> rfl) (by omega) (by simp only [maxLen]; omega) (by omega) (by have h1 := HU5.out.fw.size; have h2 := HWS.out; have h3 := HD7.out.size; omega) ?_
                            intro g6 cap6 V6 hown htwo
                            obtain ⟨hfr, hgr⟩ := two_row htwo
                            have HU6 := Lib.hid (HU5.out.apps HCd.out hown hfr hgr)
                            have HT4_6 := Lib.hid (HT4_5.out.app (fun k e => (HCd.out.cs k e).1) hfr)
                            have HT9_6 := Lib.hid (HT9_5.out.app (fun k e => (HCd.out.cs k e).1) hfr)
                            clear hown htwo hfr hgr
                            refine hK.out _ _ (fun _ => HSS.out _ _ _ _ _ _ _ HU6.out) ?_
                            clear hK K
                            try simp only [List.getElem_toArray, List.getElem_cons_succ, List.getElem_cons_zero, Act.put, List.setIfInBounds_toArray, List.set_cons_zero, List.set_cons_succ]
                            refine wpAnyF_ready (rs := [10]) (by kernel_rfl) (by simp) (AllReadyF.cons (o := _) rfl (fun K hK => ?_) AllReadyF.nil)
                            refine step_append_two _ rfl _ _ 44 rfl w.heap.size 3 iI _ 1 8 Tryz.underlying44 hiI hzI0 hzI1 hzI2 rfl (by decide) kv kept.length (kept.map fun (k : Nat) => Value.int .i64 (k : Int)) rfl HU6.out.ko ⟨V1.heap.size, 0, none⟩ 1 1 [.int .i64 i] rfl rfl (fun j u hu => by rw [add_lit]; exact (HT9_6.out.1.cell j).trans hu) (fun u hu => by simp only [List.mem_cons, List.not_mem_nil, or_false] at hu; subst hu; rfl) (by omega) (by simp only [maxLen]; omega) (by omega) (by have h1 := HU6.out.fw.size; have h2 := HWS.out; have h3 := HD7.out.size; omega) ?_
                            intro g7 cap7 V7 hown htwo
                            obtain ⟨hfr, hgr⟩ := two_row htwo
                            have HU7 := Lib.hid (HU6.out.appk HCd.out hown hfr hgr)
                            have HT4_7 := Lib.hid (HT4_6.out.app (fun k e => (HCd.out.ck k e).1) hfr)
                            have HT9_7 := Lib.hid (HT9_6.out.app (fun k e => (HCd.out.ck k e).1) hfr)
                            clear hown htwo hfr hgr
                            refine hK.out _ _ (fun _ => HSS.out _ _ _ _ _ _ _ HU7.out) ?_
                            clear hK K
                            try simp only [List.getElem_toArray, List.getElem_cons_succ, List.getElem_cons_zero, Act.put, List.setIfInBounds_toArray, List.set_cons_zero, List.set_cons_succ]
                            refine wpAnyF_take (i := 11) (v := .agg #[.slice (some ⟨gd, 0, none⟩) (doF x doc).length (doF x doc).length, .slice (some ⟨g6, 0, none⟩) (L.length + 1) cap6, .slice (some ⟨g7, 0, none⟩) (kept.length + 1) cap7]) rfl (by kernel_rfl) (by kernel_rfl) (by kernel_rfl) (fun _ _ _ h => h) (Or.inl ⟨by rfl, fun w hSw => by (try dsimp only at hSw); obtain ⟨s1, s2, s3, s4, s5, s6, s7, s8, s9, s10⟩ := hSw; go_simp⟩) (HSS.out _ _ _ _ _ _ _ HU7.out) ?_
                            try simp only [List.getElem_toArray, List.getElem_cons_succ, List.getElem_cons_zero, Act.put, List.setIfInBounds_toArray, List.set_cons_zero, List.set_cons_succ]
                            refine wpAnyF_ready (rs := [12]) (by kernel_rfl) (by simp) (AllReadyF.cons (o := _) rfl (fun K hK => ?_) AllReadyF.nil)
                            have o0 := HU7.out.xo.cell 0
                            have o1 := HU7.out.xo.cell 1
                            have o2 := HU7.out.xo.cell 2
                            have f0 := HU7.out.xo.frozen 0
                            have f1 := HU7.out.xo.frozen 1
                            have f2 := HU7.out.xo.frozen 2
                            have ol := HU7.out.xo.lt
                            simp only [List.getElem?_cons_zero, List.getElem?_cons_succ] at o0 o1 o2
                            go_simp
                            clear o0 o1 o2 f0 f1 f2 ol
                            obtain ⟨WE, hWE⟩ : ∃ WE, ((V7.setCell ⟨Xo, 0, none⟩ (.slice (some ⟨gd, 0, none⟩) (doF x doc).length (doF x doc).length)).setCell ⟨Xo, 1, none⟩ (.slice (some ⟨g6, 0, none⟩) (L.length + 1) cap6)).setCell ⟨Xo, 2, none⟩ (.slice (some ⟨g7, 0, none⟩) (kept.length + 1) cap7) = WE := ⟨_, rfl⟩
                            obtain ⟨N', hEND⟩ := FIN.out _ _ _ _ _ HU7.out WE hWE
                            have HEND := Lib.hid hEND
                            rw [hWE]
                            clear hWE hEND
                            refine hK.out _ _ (fun h => absurd rfl h) ?_
                            clear hK K
                            try simp only [List.getElem_toArray, List.getElem_cons_succ, List.getElem_cons_zero, Act.put, List.setIfInBounds_toArray, List.set_cons_zero, List.set_cons_succ]
                            refine wpAnyF_done (by kernel_rfl) ?_ _
                            go_wp2_with fail
                            go_roundg (on - (i + 1))
                            case measure => omega
                            case rel => exact ⟨i + 1, N', _, _, _, _, _, _, _, _, _, _, rfl, by omega, by simp, HEND.out⟩
                        · go_simp
                          obtain ⟨V8, hW⟩ : ∃ W9, w8'.alloc (.cells #[.int .i64 i] 3) = W9 := ⟨_, rfl⟩
                          have HU8 := Lib.hid (show OutRW w.heap.size Xo Bx [.int .i64 x.k, .int .i64 x.f, .int .i64 x.t, .int .i64 x.gf, .int .i64 x.gt, .int .i64 x.ins, .slice B xn b, .int .i64 x.m] (.slice DA doc.length dc) sv kv w8' V8 sv kv L.length kept.length (stepC L) (kept.map fun (k : Nat) => Value.int .i64 (k : Int)) by rw [← hW]; exact HU0.out.alloc _)
                          have HT9_8 := Lib.hid (show Tmp w8' V8 w8'.heap.size [.int .i64 i] 3 by rw [← hW]; exact Tmp.new HU0.out.fw.size _ _)
                          rw [hW]
                          clear hW
                          refine hK.out _ _ (fun _ => HSS.out _ _ _ _ _ _ _ HU8.out) ?_
                          clear hK K
                          try simp only [List.getElem_toArray, List.getElem_cons_succ, List.getElem_cons_zero, Act.put, List.setIfInBounds_toArray, List.set_cons_zero, List.set_cons_succ]
                          refine wpAnyF_ready (rs := [4]) (by kernel_rfl) (by simp) (AllReadyF.cons (o := _) rfl (fun K hK => ?_) AllReadyF.nil)
                          go_simp
                          obtain ⟨V9, hW⟩ : ∃ W9, V8.alloc (.cells #[.int .i64 x.k, .int .i64 x.f, .int .i64 x.t, .int .i64 x.gf, .int .i64 x.gt, .int .i64 x.ins, .slice B xn b, .int .i64 x.m] 24) = W9 := ⟨_, rfl⟩
                          have HU9 := Lib.hid (show OutRW w.heap.size Xo Bx [.int .i64 x.k, .int .i64 x.f, .int .i64 x.t, .int .i64 x.gf, .int .i64 x.gt, .int .i64 x.ins, .slice B xn b, .int .i64 x.m] (.slice DA doc.length dc) sv kv w8' V9 sv kv L.length kept.length (stepC L) (kept.map fun (k : Nat) => Value.int .i64 (k : Int)) by rw [← hW]; exact HU8.out.alloc _)
                          have HT9_9 := Lib.hid (show Tmp w8' V9 w8'.heap.size [.int .i64 i] 3 by rw [← hW]; exact HT9_8.out.alloc _)
                          have HT4_9 := Lib.hid (show Tmp w8' V9 V8.heap.size [.int .i64 x.k, .int .i64 x.f, .int .i64 x.t, .int .i64 x.gf, .int .i64 x.gt, .int .i64 x.ins, .slice B xn b, .int .i64 x.m] 24 by rw [← hW]; exact Tmp.new HU8.out.fw.size _ _)
                          rw [hW]
                          clear hW
                          refine hK.out _ _ (fun _ => HSS.out _ _ _ _ _ _ _ HU9.out) ?_
                          clear hK K
                          try simp only [List.getElem_toArray, List.getElem_cons_succ, List.getElem_cons_zero, Act.put, List.setIfInBounds_toArray, List.set_cons_zero, List.set_cons_succ]
                          refine wpAnyF_ready (rs := [5]) (by kernel_rfl) (by simp) (AllReadyF.cons (o := _) rfl (fun K hK => ?_) AllReadyF.nil)
                          refine step_append_two _ rfl _ _ 42 rfl w.heap.size 24 iS _ 8 80 Tryz.underlying42 hiS hzS0 hzS1 hzS2 rfl (by decide) sv L.length (stepC L) rfl HU9.out.so ⟨V8.heap.size, 0, none⟩ 1 1 [.int .i64 x.k, .int .i64 x.f, .int .i64 x.t, .int .i64 x.gf, .int .i64 x.gt, .int .i64 x.ins, .slice B xn b, .int .i64 x.m] rfl rfl (fun j u hu => by rw [add_lit]; exact (HT4_9.out.1.cell j).trans hu) (fun u hu => by simp only [List.mem_cons, List.not_mem_nil, or_false] at hu; rcases hu with rfl | rfl | rfl | rfl | rfl | rfl | rfl | rfl <;> rfl) (by omega) (by simp only [maxLen]; omega) (by omega) (by have h1 := HU9.out.fw.size; have h2 := HWS.out; have h3 := HD7.out.size; omega) ?_
                          intro g10 cap10 V10 hown htwo
                          obtain ⟨hfr, hgr⟩ := two_row htwo
                          have HU10 := Lib.hid (HU9.out.apps HCd.out hown hfr hgr)
                          have HT9_10 := Lib.hid (HT9_9.out.app (fun k e => (HCd.out.cs k e).1) hfr)
                          have HT4_10 := Lib.hid (HT4_9.out.app (fun k e => (HCd.out.cs k e).1) hfr)
                          clear hown htwo hfr hgr
                          refine hK.out _ _ (fun _ => HSS.out _ _ _ _ _ _ _ HU10.out) ?_
                          clear hK K
                          try simp only [List.getElem_toArray, List.getElem_cons_succ, List.getElem_cons_zero, Act.put, List.setIfInBounds_toArray, List.set_cons_zero, List.set_cons_succ]
                          refine wpAnyF_ready (rs := [10]) (by kernel_rfl) (by simp) (AllReadyF.cons (o := _) rfl (fun K hK => ?_) AllReadyF.nil)
                          refine step_append_two _ rfl _ _ 44 rfl w.heap.size 3 iI _ 1 8 Tryz.underlying44 hiI hzI0 hzI1 hzI2 rfl (by decide) kv kept.length (kept.map fun (k : Nat) => Value.int .i64 (k : Int)) rfl HU10.out.ko ⟨w8'.heap.size, 0, none⟩ 1 1 [.int .i64 i] rfl rfl (fun j u hu => by rw [add_lit]; exact (HT9_10.out.1.cell j).trans hu) (fun u hu => by simp only [List.mem_cons, List.not_mem_nil, or_false] at hu; subst hu; rfl) (by omega) (by simp only [maxLen]; omega) (by omega) (by have h1 := HU10.out.fw.size; have h2 := HWS.out; have h3 := HD7.out.size; omega) ?_
                          intro g11 cap11 V11 hown htwo
                          obtain ⟨hfr, hgr⟩ := two_row htwo
                          have HU11 := Lib.hid (HU10.out.appk HCd.out hown hfr hgr)
                          have HT9_11 := Lib.hid (HT9_10.out.app (fun k e => (HCd.out.ck k e).1) hfr)
                          have HT4_11 := Lib.hid (HT4_10.out.app (fun k e => (HCd.out.ck k e).1) hfr)
                          clear hown htwo hfr hgr
                          refine hK.out _ _ (fun _ => HSS.out _ _ _ _ _ _ _ HU11.out) ?_
                          clear hK K
                          try simp only [List.getElem_toArray, List.getElem_cons_succ, List.getElem_cons_zero, Act.put, List.setIfInBounds_toArray, List.set_cons_zero, List.set_cons_succ]
                          refine wpAnyF_take (i := 11) (v := .agg #[.slice (some ⟨gd, 0, none⟩) (doF x doc).length (doF x doc).length, .slice (some ⟨g10, 0, none⟩) (L.length + 1) cap10, .slice (some ⟨g11, 0, none⟩) (kept.length + 1) cap11]) rfl (by kernel_rfl) (by kernel_rfl) (by kernel_rfl) (fun _ _ _ h => h) (Or.inl ⟨by rfl, fun w hSw => by (try dsimp only at hSw); obtain ⟨s1, s2, s3, s4, s5, s6, s7, s8, s9, s10⟩ := hSw; go_simp⟩) (HSS.out _ _ _ _ _ _ _ HU11.out) ?_
                          try simp only [List.getElem_toArray, List.getElem_cons_succ, List.getElem_cons_zero, Act.put, List.setIfInBounds_toArray, List.set_cons_zero, List.set_cons_succ]
                          refine wpAnyF_ready (rs := [12]) (by kernel_rfl) (by simp) (AllReadyF.cons (o := _) rfl (fun K hK => ?_) AllReadyF.nil)
                          have o0 := HU11.out.xo.cell 0
                          have o1 := HU11.out.xo.cell 1
                          have o2 := HU11.out.xo.cell 2
                          have f0 := HU11.out.xo.frozen 0
                          have f1 := HU11.out.xo.frozen 1
                          have f2 := HU11.out.xo.frozen 2
                          have ol := HU11.out.xo.lt
                          simp only [List.getElem?_cons_zero, List.getElem?_cons_succ] at o0 o1 o2
                          go_simp
                          clear o0 o1 o2 f0 f1 f2 ol
                          obtain ⟨WE, hWE⟩ : ∃ WE, ((V11.setCell ⟨Xo, 0, none⟩ (.slice (some ⟨gd, 0, none⟩) (doF x doc).length (doF x doc).length)).setCell ⟨Xo, 1, none⟩ (.slice (some ⟨g10, 0, none⟩) (L.length + 1) cap10)).setCell ⟨Xo, 2, none⟩ (.slice (some ⟨g11, 0, none⟩) (kept.length + 1) cap11) = WE := ⟨_, rfl⟩
                          obtain ⟨N', hEND⟩ := FIN.out _ _ _ _ _ HU11.out WE hWE
                          have HEND := Lib.hid hEND
                          rw [hWE]
                          clear hWE hEND
                          refine hK.out _ _ (fun h => absurd rfl h) ?_
                          clear hK K
                          try simp only [List.getElem_toArray, List.getElem_cons_succ, List.getElem_cons_zero, Act.put, List.setIfInBounds_toArray, List.set_cons_zero, List.set_cons_succ]
                          refine wpAnyF_done (by kernel_rfl) ?_ _
                          go_wp2_with fail
                          go_roundg (on - (i + 1))
                          case measure => omega
                          case rel => exact ⟨i + 1, N', _, _, _, _, _, _, _, _, _, _, rfl, by omega, by simp, HEND.out⟩
                      · have HG2 := Lib.hid (show rbGo rs g own.length ((own.drop (i + 1)).map StepA.s) (i + 1) Lk ⟨doc, L.map StepA.s, kept⟩ = R.1 by
                          have h := HGO.out
                          rw [rbGo, HON.out, HTR.out] at h
                          rw [HON.out]
                          simp only [if_neg hz0] at h
                          exact h)
                        have hrv : refV (doE rs g x doc) = .iface 146 (.agg #[.int .i64 (doE rs g x doc)]) := if_neg hz0
                        rw [hrv]
                        clear hrv hz0 hv5
                        go_wp2_with fail
                        go_roundg (on - (i + 1))
                        case measure => omega
                        case rel => exact ⟨i + 1, N, Lk, vk, msk, doc, DA, dc, L, kept, sv, kv, rfl, by omega, by simp, HI.out.skip HF5b.out hlo HG2.out⟩
                  · have hlo : ¬ i < own.length := by rw [HON.out]; exact hlt
                    have ht : ¬ ((i : Int) < (on : Int)) := by omega
                    obtain ⟨SA, sc, rfl, _, _⟩ := Rd.of_own (M := Nob) HI.out.out.so (fun _ _ h => h)
                    obtain ⟨KA, kc, rfl, _, _⟩ := Rd.of_own (M := Nob) HI.out.out.ko (fun _ _ h => h)
                    have HBw := Lib.hid (HB9.out.fr HI.out.fw (fun h => by have := (HN9.out _ h).1; omega))
                    have x0 := HI.out.out.blk.cell 0
                    have x1 := HI.out.out.blk.cell 1
                    have x2 := HI.out.out.blk.cell 2
                    have xl := HI.out.out.blk.lt
                    have o0 := HBw.out.cell 0
                    have o1 := HBw.out.cell 1
                    have o2 := HBw.out.cell 2
                    have f0 := HBw.out.frozen 0
                    have f1 := HBw.out.frozen 1
                    have f2 := HBw.out.frozen 2
                    have ol := HBw.out.lt
                    simp only [List.getElem?_cons_zero, List.getElem?_cons_succ] at x0 x1 x2 o0 o1 o2
                    go_wp2_with fail
                    clear x0 x1 x2 xl o0 o1 o2 f0 f1 f2 ol
                    obtain ⟨WE, hWE⟩ : ∃ WE, ((wr.setCell ⟨w.heap.size, 0, none⟩ (.slice DA doc.length dc)).setCell ⟨w.heap.size, 1, none⟩ (.slice SA L.length sc)).setCell ⟨w.heap.size, 2, none⟩ (.slice KA kept.length kc) = WE := ⟨_, rfl⟩
                    have HEND := Lib.hid (HI.out.done (M := M) (w := w) hlo HB9.out rfl HM.out (fun k hk => hk) (fun k hk => (HN9.out k hk).1) HF9.out HO.out hWE)
                    rw [hWE]
                    clear hWE
                    have d0 := HEND.out.1.cell 0
                    have d1 := HEND.out.1.cell 1
                    have d2 := HEND.out.1.cell 2
                    simp only [List.getElem?_cons_zero, List.getElem?_cons_succ] at d0 d1 d2
                    refine bodyPost_ret (v := .tuple #[.agg #[.slice DA doc.length dc, .slice SA L.length sc, .slice KA kept.length kc], .int .i64 0]) (by simp [results, go_sem, d0, d1, d2]) rfl ?_
                    exact ⟨_, _, _, by rw [HR5.out], HEND.out.2.1, HEND.out.2.2⟩
              · have hrv : refV re2 = .iface 146 (.agg #[.int .i64 re2]) := if_neg h4
                simp only [hrv]
                have HRE := Lib.hid (show R = (⟨[], [], []⟩, numF re2) by rw [HR3.out]; simp only [ne_eq, h4, not_false_eq_true, if_true])
                clear hrv h4 hJ8
                go_wp2_with fail
                refine (number_any re2 w8).mono ?_
                rintro e w4 ⟨rfl, hF4⟩
                have HF4 := Lib.hid (HF8.out.same hF4)
                have HB4 := Lib.hid (HB8.out.fr hF4 (fun h => h))
                clear hF4
                have o0 := HB4.out.cell 0
                have o1 := HB4.out.cell 1
                have o2 := HB4.out.cell 2
                have f0 := HB4.out.frozen 0
                have f1 := HB4.out.frozen 1
                have f2 := HB4.out.frozen 2
                have ol := HB4.out.lt
                simp only [List.getElem?_cons_zero, List.getElem?_cons_succ] at o0 o1 o2
                go_wp2_with fail
                obtain ⟨hb9, hf9⟩ := store3 HB4.out (.slice none 0 0) (.slice none 0 0) (.slice none 0 0) _ rfl
                have hF9 := new_fr HF4.out (Nat.le_refl _) hf9
                clear o0 o1 o2 f0 f1 f2 ol hf9
                generalize ((w4.setCell ⟨w.heap.size, 0, none⟩ (.slice none 0 0)).setCell ⟨w.heap.size, 1, none⟩ (.slice none 0 0)).setCell ⟨w.heap.size, 2, none⟩ (.slice none 0 0) = W9 at hb9 hF9 ⊢
                have d0 := hb9.cell 0
                have d1 := hb9.cell 1
                have d2 := hb9.cell 2
                simp only [List.getElem?_cons_zero, List.getElem?_cons_succ] at d0 d1 d2
                refine bodyPost_ret (v := .tuple #[.agg #[.slice none 0 0, .slice none 0 0, .slice none 0 0], .int .i64 (numF re2)]) (by simp [results, go_sem, d0, d1, d2]) rfl ?_
                rw [HRE.out]
                exact ⟨_, _, _, rfl, RebV.empty _ _, hF9⟩
        · have hrv : refV re = .iface 146 (.agg #[.int .i64 re]) := if_neg h3
          simp only [hrv]
          have HRE := Lib.hid (show R = (⟨[], [], []⟩, numF re) by rw [HR2.out]; simp only [ne_eq, h3, not_false_eq_true, if_true])
          clear hrv h3 hJ3
          go_wp2_with fail
          refine (number_any re w3).mono ?_
          rintro e w4 ⟨rfl, hF4⟩
          have HF4 := Lib.hid (HF3.out.same hF4)
          have HB4 := Lib.hid (HB3.out.fr hF4 (fun h => h))
          clear hF4
          have o0 := HB4.out.cell 0
          have o1 := HB4.out.cell 1
          have o2 := HB4.out.cell 2
          have f0 := HB4.out.frozen 0
          have f1 := HB4.out.frozen 1
          have f2 := HB4.out.frozen 2
          have ol := HB4.out.lt
          simp only [List.getElem?_cons_zero, List.getElem?_cons_succ] at o0 o1 o2
          go_wp2_with fail
          obtain ⟨hb9, hf9⟩ := store3 HB4.out (.slice none 0 0) (.slice none 0 0) (.slice none 0 0) _ rfl
          have hF9 := new_fr HF4.out (Nat.le_refl _) hf9
          clear o0 o1 o2 f0 f1 f2 ol hf9
          generalize ((w4.setCell ⟨w.heap.size, 0, none⟩ (.slice none 0 0)).setCell ⟨w.heap.size, 1, none⟩ (.slice none 0 0)).setCell ⟨w.heap.size, 2, none⟩ (.slice none 0 0) = W9 at hb9 hF9 ⊢
          have d0 := hb9.cell 0
          have d1 := hb9.cell 1
          have d2 := hb9.cell 2
          simp only [List.getElem?_cons_zero, List.getElem?_cons_succ] at d0 d1 d2
          refine bodyPost_ret (v := .tuple #[.agg #[.slice none 0 0, .slice none 0 0, .slice none 0 0], .int .i64 (numF re)]) (by simp [results, go_sem, d0, d1, d2]) rfl ?_
          rw [HRE.out]
          exact ⟨_, _, _, rfl, RebV.empty _ _, hF9⟩
  · have h1' : (ce != 0) = true := by simp [h1]
    have HRE := Lib.hid (show R = (⟨[], [], []⟩, ce) by rw [← HR.out, rebaseF, if_pos (by rw [HCE.out]; exact h1), HCE.out])
    clear h1
    have o0 := HB1.out.cell 0
    have o1 := HB1.out.cell 1
    have o2 := HB1.out.cell 2
    have f0 := HB1.out.frozen 0
    have f1 := HB1.out.frozen 1
    have f2 := HB1.out.frozen 2
    have ol := HB1.out.lt
    simp only [List.getElem?_cons_zero, List.getElem?_cons_succ] at o0 o1 o2
    go_wp2_with fail
    obtain ⟨hb9, hf9⟩ := store3 HB1.out (.slice none 0 0) (.slice none 0 0) (.slice none 0 0) _ rfl
    have hF9 := new_fr HF1.out (Nat.le_refl _) hf9
    clear o0 o1 o2 f0 f1 f2 ol hf9
    generalize ((w1.setCell ⟨w.heap.size, 0, none⟩ (.slice none 0 0)).setCell ⟨w.heap.size, 1, none⟩ (.slice none 0 0)).setCell ⟨w.heap.size, 2, none⟩ (.slice none 0 0) = W9 at hb9 hF9 ⊢
    have d0 := hb9.cell 0
    have d1 := hb9.cell 1
    have d2 := hb9.cell 2
    simp only [List.getElem?_cons_zero, List.getElem?_cons_succ] at d0 d1 d2
    refine bodyPost_ret (v := .tuple #[.agg #[.slice none 0 0, .slice none 0 0, .slice none 0 0], .int .i64 ce]) (by simp [results, go_sem, d0, d1, d2]) rfl ?_
    rw [HRE.out]
    exact ⟨_, _, _, rfl, RebV.empty _ _, hF9⟩
end Go.Proofs.YtanbfplcldloeaaGreatDoor
