/- A part of the proof for chapter 10: SchCheck; no conditions. -/
import Derived.Test.YtldcffonfidbcaaGreatDoorY08
import Derived.Test.YtldcffonfidbcaaGreatDoorY11
import Derived.Deep.RegionLaw
import Derived.StillTailTactics
import Derived.Deep.DeepCutAuto
import Derived.Deep.RegionHeld3
/- Chapter 7: the program's 'Check'. -/
namespace Go.Proofs.YtldcffonfidbcaaGreatDoor
open Go.RowKit
theorem infoL : (Tryz.prog.info? 89).map (fun i => (i.zero, i.size, i.bytes)) = some (some (.agg #[.string ⟨#[]⟩, .string ⟨#[]⟩, .bool false, .int .i64 0, .int .i64 0, .int .i64 0, .bool false, .int .i64 0, .string ⟨#[]⟩, .slice none 0 0, .slice none 0 0]), 11, 144) := by kernel_rfl
set_option maxRecDepth 100000 in
set_option maxHeartbeats 8000000 in
theorem schcheck_any (M M' : Nat → Prop) (p : Nat) (rs : List RuleM) (g : List Grp) (hok : SchOk rs g) (v : Value) (l : List Tok) (w : World) (hs0 : Sch M w p rs g) (hd0 : Doc M' w v l) (hl : l.length ≤ 9223372036854775807) :
    Calls Tryz.prog 19 #[.pointer (some ⟨p, 0, none⟩), v] w fun e w' => e = .returned (.tuple #[.int .i64 (checkF rs g l).1, .int .i64 (checkF rs g l).2]) ∧ Fr Nob w w' := by
  have hs : Sch (fun k => w.heap.size ≤ k) w p rs g := hs0.bound.mono (fun _ h => .inr h)
  have hd : Doc (fun k => w.heap.size ≤ k) w v l := hd0.bound.mono (fun _ h => .inr h)
  have hfc := fun W h => flatcheck_any (fun k => w.heap.size ≤ k) l v W h hl
  obtain ⟨A, c, rfl, hc, hr⟩ := id hd
  obtain ⟨r, hrr⟩ : ∃ r, checkF rs g l = r := ⟨_, rfl⟩
  rw [hrr]
  unfold checkF at hrr
  have HS := Lib.hid hs
  have HD := Lib.hid hd
  have HFC := Lib.hid hfc
  have HR := Lib.hid hrr
  have HRd := Lib.hid hr
  have HOK := Lib.hid hok
  have hfew := hs.few
  clear hs hd hs0 hd0 hfc hrr hr hok
  go_enter Tryz.func19, Tryz.ntmps19
  go_wp2_with fail
  refine (schnone_any _ p rs g w HS.out).mono ?_
  rintro e w1 ⟨rfl, rfl⟩
  go_wp2_with fail
  refine (HFC.out w HD.out).mono ?_
  rintro e w1 ⟨rfl, hF1⟩
  have HF1 := Lib.hid hF1
  clear hF1 HFC
  by_cases hfl : (flatCheck l).2 = 0
  · have hlen : l.length ≤ 2048 := by
      rcases Nat.lt_or_ge 2048 l.length with h | h
      · rw [flatCheck, if_pos h] at hfl; cases hfl
      · exact h
    have hff : flatOk l 0 := flatOk_of l 0 0 (by rw [flatCheck, if_neg (by omega)] at hfl; exact hfl)
    obtain ⟨r0, rs', hrs⟩ : ∃ r0 rs', rs = r0 :: rs' := by
      cases rs with
      | nil => simp at hfew
      | cons a b => exact ⟨a, b, rfl⟩
    have hck : chkF rs g (r0, []) [] l 0 = r := by
      have := HR.out
      rw [if_neg (by simpa using hfl), hrs] at this
      rw [hrs]; exact this
    have HFF := Lib.hid hff
    have HCK := Lib.hid hck
    obtain ⟨La, lc, s1, s2, s3⟩ := (HS.out.fr0 HF1.out).row
    obtain ⟨ad, hA, hna, hla, q0, q⟩ := Rd.elt RuleM.cells_len (by omega) s3 hfew.1
    injection hA with hA
    subst hA
    have hls := cell_lt s1
    have hr0 : rs[0]'hfew.1 = r0 := by simp [hrs]
    rw [hr0] at q0 q
    have hrm : r0 ∈ rs := by rw [hrs]; simp
    have q1 := q 0 (by omega)
    have q2 := q 1 (by omega)
    have q3 := q 2 (by omega)
    have q4 := q 3 (by omega)
    have q5 := q 4 (by omega)
    have q6 := q 5 (by omega)
    have q7 := q 6 (by omega)
    have q8 := q 7 (by omega)
    have q9 := q 8 (by omega)
    simp only [RuleM.cells, List.getElem?_cons_zero, List.getElem?_cons_succ, Nat.reduceAdd, Nat.zero_mul, show La.add 0 = La from rfl] at q0 q1 q2 q3 q4 q5 q6 q7 q8 q9
    have HRM := Lib.hid (And.intro hrm (HOK.out.first r0 (by rw [hrs]; rfl)))
    rw [hfl]
    clear q s3 hr0 hfl hff hck HR hrs hrm
    go_wp2_with fail
    have hown : (w1.alloc (.cells #[.string r0.name, .string r0.expr, .bool r0.leaf, .int .i64 r0.marks, .int .i64 r0.least, .int .i64 r0.most, .bool r0.lines, .int .i64 r0.e.k, .string r0.e.name, .slice r0.A r0.e.l.length r0.c, .slice none 0 0] 89)).ownsRow w.heap.size 89 11 (.slice (some ⟨w1.heap.size, 0, none⟩) 1 1) 1 ((⟨r0, .slice none 0 0, []⟩ : Lv).cells) := World.ownsRow_lit w1 _ 1 HF1.out.size (by unfold maxLen; omega) rfl
    have hlv : LvI w.heap.size (w1.alloc (.cells #[.string r0.name, .string r0.expr, .bool r0.leaf, .int .i64 r0.marks, .int .i64 r0.least, .int .i64 r0.most, .bool r0.lines, .int .i64 r0.e.k, .string r0.e.name, .slice r0.A r0.e.l.length r0.c, .slice none 0 0] 89)) (.slice (some ⟨w1.heap.size, 0, none⟩) 1 1) ([] ++ [⟨r0, .slice none 0 0, []⟩]) :=
      ⟨by simpa using hown, fun x hx => by rw [show x = ⟨r0, .slice none 0 0, []⟩ by simpa using hx]; exact OwnI.nil _ _, by simp⟩
    have HLV := Lib.hid hlv
    have hfa : Fr Nob w (w1.alloc (.cells #[.string r0.name, .string r0.expr, .bool r0.leaf, .int .i64 r0.marks, .int .i64 r0.least, .int .i64 r0.most, .bool r0.lines, .int .i64 r0.e.k, .string r0.e.name, .slice r0.A r0.e.l.length r0.c, .slice none 0 0] 89)) := HF1.out.alloc _
    have HFA := Lib.hid hfa
    clear hown hlv hfa q0 q1 q2 q3 q4 q5 q6 q7 q8 q9 s1 hls hla hna s2
    generalize (w1.alloc (.cells #[.string r0.name, .string r0.expr, .bool r0.leaf, .int .i64 r0.marks, .int .i64 r0.least, .int .i64 r0.most, .bool r0.lines, .int .i64 r0.e.k, .string r0.e.name, .slice r0.A r0.e.l.length r0.c, .slice none 0 0] 89)) = wa at HLV HFA ⊢
    go_loopg [9, 34] (l.length) (fun n a i wr => ∃ (k : Nat) (st : List Lv) (top : Lv) (G cap : Nat), n = l.length - k ∧ k ≤ l.length ∧ st.length ≤ k ∧ a = .slice (some ⟨G, 0, none⟩) (st.length + 1) cap ∧ i = .int .i64 k ∧ Hid (LvI w.heap.size wr (.slice (some ⟨G, 0, none⟩) (st ++ [top]).length cap) (st ++ [top])) ∧ Hid (Fr Nob w wr) ∧ Hid (flatOk (l.drop k) st.length) ∧ Hid (chkF rs g (top.r, top.l) (st.reverse.map (fun x => (x.r, x.l))) (l.drop k) k = r) ∧ Hid (∀ x ∈ st ++ [top], x.r ∈ rs ∧ x.r.leaf = false ∧ x.l.length ≤ k))
    case atStart => exact ⟨0, [], ⟨r0, .slice none 0 0, []⟩, _, _, rfl, Nat.zero_le _, Nat.le_refl _, rfl, rfl, HLV.out, HFA.out, HFF.out, HCK.out, fun x hx => by rw [show x = ⟨r0, .slice none 0 0, []⟩ by simpa using hx]; exact ⟨HRM.out.1, HRM.out.2, Nat.le_refl _⟩⟩
    case round =>
      obtain ⟨k, st, ⟨tr, tv, tl⟩, G, cap, rfl, hk, hst, rfl, rfl, HL, HF, HFO, HC, HRU⟩ := hrel
      have htop := HRU.out ⟨tr, tv, tl⟩ (by simp)
      obtain ⟨hre, hrok⟩ := HOK.out.rep tr htop.1 htop.2.1
      have hmk := HOK.out.marks tr htop.1
      have htl : tl.length ≤ k := htop.2.2
      obtain ⟨WA, wc, hv, hwc, _⟩ := Rd.of_own (M := Nob) (HL.out.words ⟨tr, tv, tl⟩ (by simp)) (fun _ _ h => h)
      simp only at hv
      subst hv
      have HRE := Lib.hid hre
      have HRK := Lib.hid hrok
      have HMK := Lib.hid hmk
      have HHR := Lib.hid htop
      clear hre hrok hmk htop
      clear HLV HFA HFF HCK HRM HF1
      by_cases hlt : k < l.length
      · have ht : ((k : Int) < (l.length : Int)) := by omega
        obtain ⟨ad, rfl, _, hlb, q0, q⟩ := Rd.elt Tok.cells_len (by omega) (HRd.out.fr HF.out (fun _ _ h => h.elim)) hlt
        have hdr : l.drop k = l[k] :: l.drop (k + 1) := List.drop_eq_getElem_cons hlt
        generalize l[k] = x at q0 q hdr
        have q1 := q 0 (by omega)
        have q2 := q 1 (by omega)
        have q3 := q 2 (by omega)
        simp only [Tok.cells, List.getElem?_cons_zero, List.getElem?_cons_succ, Nat.reduceAdd] at q0 q1 q2 q3
        have hfo := HFO.out
        have hcc := HC.out
        rw [hdr, flatOk] at hfo
        rw [hdr] at hcc
        obtain ⟨f1, f2, f3, f4⟩ := hfo
        have HFO2 := Lib.hid f4
        have HCC := Lib.hid hcc
        have HXO := Lib.hid f1
        have HF23 := Lib.hid (And.intro f2 f3)
        clear hdr q hcc HC HFO f1 f2 f3 f4
        by_cases x2 : x.k = 2
        · have b2 : (x.k == 2) = true := by simpa using x2
          obtain ⟨wt, hwt⟩ : ∃ wt, wr.alloc (.cells #[.int .i64 x.k, .int .i64 x.t, .int .i64 x.n, .int .i64 x.m] 40) = wt := ⟨_, rfl⟩
          have hft : Fr Nob wr wt := hwt ▸ (Fr.refl _ _).alloc _
          have hlt2 := HL.out.fr hft
          have htc := (LvI.top hlt2).1
          obtain ⟨gv, g1, g2⟩ := (HS.out.fr0 (HF.out.same hft)).grps
          obtain ⟨GA, gc, gcss, rfl, _, _⟩ := id g2
          have e7 := htc 7 (by omega)
          have e8 := htc 8 (by omega)
          have e9 := htc 9 (by omega)
          have e10 := htc 10 (by omega)
          have le7 := cell_lt e7
          have lg1 := cell_lt g1
          simp only [Lv.cells, RuleM.cells, List.cons_append, List.nil_append, List.getElem?_cons_zero, List.getElem?_cons_succ] at e7 e8 e9 e10
          have HWT := Lib.hid hwt
          have HFT := Lib.hid (HF.out.same hft)
          have HLT := Lib.hid hlt2
          have HGV := Lib.hid g2
          clear hwt hft hlt2 htc g2
          have X2 := Lib.hid x2
          clear x2
          go_wp2_with fail
          rw [HWT.out]
          go_still_tail 13, (by kernel_rfl)
          change wpList _ _ _ _ _ wt.drew
          generalize hwd : wt.drew = wd
          have hFd : Fr Nob wt wd := by subst hwd; exact (Fr.refl _ _).drew
          have HFD := Lib.hid (HFT.out.same hFd)
          have HLD := Lib.hid (HLT.out.fr hFd)
          have hRw := Rd.of_own (M := Nob) (HLD.out.words ⟨tr, .slice WA tl.length wc, tl⟩ (by simp)) (fun _ _ h => h)
          obtain ⟨WA', wc', hv, _, hRw⟩ := hRw
          simp only [Value.slice.injEq, true_and] at hv
          obtain ⟨rfl, rfl⟩ := hv
          have hex := (HS.out.fr0 HFD.out).exprs tr HHR.out.1
          rw [HRE.out] at hex
          have hec : tr.ec = [.int .i64 tr.e.k, .string tr.e.name, .slice tr.A tr.e.l.length tr.c] := rfl
          rw [hec] at hex
          have hacc := accepts_any g (starR tr) (nmR tr) HRK.out _ (.slice GA g.length gc) tl WA wc wd (ERep.mono (fun _ h => h.elim) _ _ hex) ((HGV.out.fr0 hFd).mono (fun _ h => h.elim)) hRw (by omega)
          have HACC := Lib.hid hacc
          clear hFd hwd hRw hex hec hacc e7 e8 e9 e10 le7 lg1 g1
          go_wp2_with fail
          refine HACC.out.mono ?_
          rintro e w5 ⟨rfl, hF5⟩
          have HF5 := Lib.hid (HFD.out.same hF5)
          have HL5 := Lib.hid (HLD.out.fr hF5)
          have hcc := HCC.out
          rw [chkF_cons, if_pos X2.out] at hcc
          clear hF5 HCC
          have htyp : typesF g (nmR tr) = typR g tr := rfl
          rw [htyp]
          cases ha : accB (typR g tr) (starR tr) tl
          · have HE := Lib.hid (show ((k : Int), (9 : Int)) = r by rw [← hcc, ha]; rfl)
            clear ha hcc
            go_wp2_with fail
            go_ret2
            exact ⟨by rw [← HE.out]; rfl, HF5.out⟩
          · rcases List.eq_nil_or_concat st with hnil | ⟨st2, t2, hst2⟩
            · exact absurd ⟨X2.out, by rw [hnil]; rfl⟩ HF23.out.1
            · have hst2' : st = st2 ++ [t2] := by rw [hst2, List.concat_eq_append]
              clear hst2
              subst hst2'
              have hl2 : (st2 ++ [t2]).length = st2.length + 1 := by simp
              have HE := Lib.hid (show chkF rs g (t2.r, t2.l) (st2.reverse.map (fun x => (x.r, x.l))) (l.drop (k + 1)) (k + 1) = r by
                rw [← hcc, ha, List.reverse_append]; rfl)
              have HP := Lib.hid (LvI.pop HL5.out)
              have HFO3 := Lib.hid (show flatOk (l.drop (k + 1)) st2.length by
                have := HFO2.out
                rw [if_neg (by rw [X2.out]; omega), if_pos X2.out, hl2] at this
                exact this)
              have hcap := (LvI.form HL5.out (by simp))
              obtain ⟨G2, cap2, hcp, _, _, hcap⟩ := hcap
              simp only [Value.slice.injEq, true_and] at hcp
              rw [← hcp.2] at hcap
              clear hcp
              have h3 : (st2 ++ [t2] ++ [(⟨tr, .slice WA tl.length wc, tl⟩ : Lv)]).length = st2.length + 2 := by simp
              rw [h3] at hcap
              rw [hl2] at hst
              simp only [hl2]
              have hcc1 : (st2.length : Int) + 1 + 1 - 1 = ((st2.length + 1 : Nat) : Int) := by omega
              clear ha hcc
              go_wp2_with fail
              go_roundg (l.length - (k + 1))
              case measure => omega
              case rel => exact ⟨k + 1, st2, t2, G, cap, rfl, by omega, by omega, rfl, by first | rfl | go_num, HP.out, HF5.out, HFO3.out, HE.out, fun y hy => ⟨(HRU.out y (List.mem_append_left _ hy)).1, (HRU.out y (List.mem_append_left _ hy)).2.1, Nat.le_succ_of_le (HRU.out y (List.mem_append_left _ hy)).2.2⟩⟩
        · obtain ⟨wt, hwt⟩ : ∃ wt, wr.alloc (.cells #[.int .i64 x.k, .int .i64 x.t, .int .i64 x.n, .int .i64 x.m] 40) = wt := ⟨_, rfl⟩
          have hft : Fr Nob wr wt := hwt ▸ (Fr.refl _ _).alloc _
          have hbt : Blk wt wr.heap.size [.int .i64 x.k, .int .i64 x.t, .int .i64 x.n, .int .i64 x.m] 40 := hwt ▸ Blk.new wr _ _
          have hlt2 := HL.out.fr hft
          have htc := (LvI.top hlt2).1
          have htf := (LvI.top hlt2).2 (st.length * 11 + 10)
          have e10 := htc 10 (by omega)
          have le10 := cell_lt e10
          have d1 := hbt.cell 1
          have ld1 := hbt.lt
          simp only [Lv.cells, RuleM.cells, List.cons_append, List.nil_append, List.getElem?_cons_zero, List.getElem?_cons_succ] at e10 d1
          have hxw : wt.ownsRow w.heap.size 3 1 (.slice WA tl.length wc) tl.length (intC tl) := hlt2.words ⟨tr, .slice WA tl.length wc, tl⟩ (by simp)
          have b2 : (x.k == 2) = false := by simpa using x2
          have HWT := Lib.hid hwt
          have HFT := Lib.hid (HF.out.same hft)
          have HLT := Lib.hid hlt2
          have HBT := Lib.hid hbt
          have X2 := Lib.hid x2
          clear hwt hft hlt2 htc hbt x2
          go_upto_region 16 with (fail)
          rw [HWT.out]
          obtain ⟨T, hT⟩ : ∃ T, wr.heap.size = T := ⟨_, rfl⟩
          rw [hT] at d1 ld1 HBT ⊢
          go_cut [76] (fun s76 wx => ∃ v' : Value, s76 = v' ∧ Hid (LvI w.heap.size wx (.slice (some ⟨G, 0, none⟩) (st ++ [(⟨tr, v', tl ++ [x.t]⟩ : Lv)]).length cap) (st ++ [⟨tr, v', tl ++ [x.t]⟩])) ∧ Hid (Fr Nob w wx) ∧ Hid (Blk wx T [.int .i64 x.k, .int .i64 x.t, .int .i64 x.n, .int .i64 x.m] 40))
          case first =>
            have hsz := HFT.out.size
            have hk16 : ∀ w2 : World, (wt.alloc (.cells #[.int .i64 x.t] 3)).drew.grownBy w2 (Value.slice WA tl.length wc).ownBlock → w2.cell? ⟨G, st.length * 11 + 10, none⟩ = some (.slice WA tl.length wc) ∧ w2.frozen? ⟨G, st.length * 11 + 10, none⟩ = false ∧ G < w2.heap.size := fun w2 h => LvI.word_cell HLT.out (((Fr.refl Nob wt).alloc _).drew) h
            have HK16 := Lib.hid hk16
            have HXW := Lib.hid hxw
            obtain ⟨i0, hi, hz0, hz1, hz2⟩ := info_parts infoI
            clear hk16
            go_region_law (refine step_append_lies _ (by rfl) _ _ _ (by rfl) w.heap.size 3 i0 _ 1 8 Tryz.underlying75 hi hz0 hz1 hz2 rfl (by decide) (.slice WA tl.length wc) tl.length (intC tl) (by rfl) (World.ownsRow.alloc (w := wt.drew) HXW.out _) ⟨wt.heap.size, 0, none⟩ 1 1 [.int .i64 x.t] (by rfl) rfl (new_cells wt.drew _ _) (by simp [Value.oneCell']) (by omega) (by unfold maxLen; omega) (by omega) (by simp; omega) _ rfl ?_; intro gg cap2 w2 hown2 hgr2 hat2 hlt2; obtain ⟨k1, k2, k3⟩ := HK16.out w2 hgr2)
            all_goals
              have hw := LvI.word (x := ⟨tr, .slice WA tl.length wc, tl⟩) (v' := .slice (some ⟨gg, 0, none⟩) (tl.length + 1) cap2) (t := x.t) HLT.out hsz ((Fr.refl Nob wt).alloc (.cells #[.int .i64 x.t] 3)).drew hown2 hgr2 (hat2.imp id (fun h => by rw [h]; rfl))
              have HW := Lib.hid hw
              clear hw hown2 hgr2 hat2 k1 k2 e10 d1
              go_wp2_with fail
              go_meet
              refine ⟨_, rfl, HW.out.1, (HFT.out.trans (M := Nob) HW.out.2 (fun j hj h => ?_)), HBT.out.fr HW.out.2 (fun h => ?_)⟩
              · rcases h with h | h
                · have := (World.ownsRow.lt HL.out.own G rfl).1; omega
                · have := (World.ownsRow.lt HXW.out j h).1; omega
              · have hGl := (World.ownsRow.lt HL.out.own G rfl).2
                rcases h with h | h
                · omega
                · have := (World.ownsRow.lt (HL.out.words ⟨tr, .slice WA tl.length wc, tl⟩ (by simp)) T h).2
                  omega
          case rest =>
            obtain ⟨v', rfl, HL2, HF2, HB2⟩ := hcut
            obtain ⟨wx, hwx⟩ : ∃ wx, wx = wc := ⟨_, rfl⟩
            subst hwx
            obtain ⟨WB, wb, hv, _, _⟩ := Rd.of_own (M := Nob) (HL2.out.words ⟨tr, u76, tl ++ [x.t]⟩ (by simp)) (fun _ _ h => h)
            simp only at hv
            have hlen : (tl ++ [x.t]).length = tl.length + 1 := by simp
            rw [hlen] at hv
            subst hv
            have HLEN := Lib.hid hlen
            clear hlen
            obtain ⟨gv, g1, g2⟩ := (HS.out.fr0 HF2.out).grps
            obtain ⟨GA, gc, gcss, rfl, _, _⟩ := id g2
            have K0 : ∀ W, Fr Nob wx W → (fun W => W.cell? ⟨T, 0, none⟩ = some (.int .i64 x.k) ∧ W.cell? ⟨T, 1, none⟩ = some (.int .i64 x.t) ∧ W.cell? ⟨T, 2, none⟩ = some (.int .i64 x.n) ∧ W.cell? ⟨T, 3, none⟩ = some (.int .i64 x.m) ∧ W.cell? ⟨G, st.length * 11 + 7, none⟩ = some (.int .i64 tr.e.k) ∧ W.cell? ⟨G, st.length * 11 + 8, none⟩ = some (.string tr.e.name) ∧ W.cell? ⟨G, st.length * 11 + 9, none⟩ = some (.slice tr.A tr.e.l.length tr.c) ∧ W.cell? ⟨G, st.length * 11 + 10, none⟩ = some (.slice WB (tl.length + 1) wb) ∧ W.cell? ⟨p, 1, none⟩ = some (.slice GA g.length gc) ∧ Hid (Fr Nob wx W)) W := fun W hF => by
              have htc := (LvI.top (HL2.out.fr hF)).1
              have hb := HB2.out.fr hF (fun h => h)
              exact ⟨hb.cell 0, hb.cell 1, hb.cell 2, hb.cell 3, htc 7 (by omega), htc 8 (by omega), htc 9 (by omega), htc 10 (by omega), hF.cell0 g1, hF⟩
            have K1 : ∀ W, Hid (Fr Nob wx W) → Calls Tryz.prog 38 #[.pointer (some ⟨G, st.length * 11, none⟩), .pointer (some ⟨p, 0, none⟩), .agg #[.int .i64 x.k, .int .i64 x.t, .int .i64 x.n, .int .i64 x.m]] W fun e w' => e = .returned (.bool (mayB rs tr x)) ∧ Hid (Fr Nob wx w') := fun W hF => by
              have htc := (LvI.top (HL2.out.fr hF.out)).1
              have hm : Calls Tryz.prog 38 #[.pointer (some ⟨G, st.length * 11, none⟩), .pointer (some ⟨p, 0, none⟩), .agg x.cells.toArray] W fun e w' => e = .returned (.bool (mayB rs tr x)) ∧ Fr Nob W w' := by
                by_cases hx0 : x.k = 0
                · exact maytext_any p rs tr HMK.out x HXO.out hx0 G (st.length * 11) W (htc 3 (by omega)) (htc 6 (by omega))
                · exact maytype_any _ p rs g tr x hx0 G (st.length * 11) W (HS.out.fr0 (HF2.out.same hF.out))
              exact hm.mono fun e w' h => ⟨h.1, hF.out.same h.2⟩
            have K2 : ∀ W, Hid (Fr Nob wx W) → Calls Tryz.prog 36 #[.agg #[.int .i64 tr.e.k, .string tr.e.name, .slice tr.A tr.e.l.length tr.c], .slice GA g.length gc, .slice WB (tl.length + 1) wb] W fun e w' => e = .returned (.int .i64 (prefN (typR g tr) (tl ++ [x.t]))) ∧ Hid (Fr Nob wx w') := fun W hF => by
              have hRw := Rd.of_own (M := Nob) ((HL2.out.fr hF.out).words ⟨tr, .slice WB (tl.length + 1) wb, tl ++ [x.t]⟩ (by simp)) (fun _ _ h => h)
              obtain ⟨WA', wc', hv, _, hRw⟩ := hRw
              simp only [Value.slice.injEq] at hv
              obtain ⟨rfl, _, rfl⟩ := hv
              have hex := (HS.out.fr0 (HF2.out.same hF.out)).exprs tr HHR.out.1
              rw [HRE.out] at hex
              have hb := begins_any g (starR tr) (nmR tr) HRK.out _ (.slice GA g.length gc) (tl ++ [x.t]) WB wb W (ERep.mono (fun _ h => h.elim) _ _ hex) ((g2.fr0 hF.out).mono (fun _ h => h.elim)) hRw (by rw [HLEN.out]; omega)
              rw [HLEN.out] at hb
              exact hb.mono fun e w' h => ⟨h.1, hF.out.same h.2⟩
            have hcc := HCC.out
            rw [chkF_cons, if_neg X2.out] at hcc
            simp only at hcc
            have HK0 := Lib.hid K0
            have HG2 := Lib.hid g2
            clear K0 g1 g2 HCC HLT HBT HFT HWT
            have HFn : Hid (Fr Nob wx wx.drew) := (Fr.refl Nob wx).drew
            cases hmb : mayB rs tr x
            · rw [hmb] at K1
              have HE := Lib.hid (show ((k : Int), (9 : Int)) = r by rw [← hcc, if_pos hmb])
              have HK1 := Lib.hid K1
              have HK2 := Lib.hid K2
              clear K1 K2 hcc hmb
              have K5 : ∀ W, Fr Nob wx W → (fun W : World => W.cell? ⟨T, 0, none⟩ = some (.int .i64 x.k) ∧ W.cell? ⟨T, 1, none⟩ = some (.int .i64 x.t) ∧ W.cell? ⟨T, 2, none⟩ = some (.int .i64 x.n) ∧ W.cell? ⟨T, 3, none⟩ = some (.int .i64 x.m) ∧ Hid (Fr Nob wx W)) W := fun W hF => by
                obtain ⟨z0, z1, z2, z3, _, _, _, _, _, z9⟩ := HK0.out W hF
                exact ⟨z0, z1, z2, z3, z9⟩
              have HK5 := Lib.hid K5
              clear K5
              go_wp2_with fail
              refine wp_region_held_drew (S := fun W : World => W.cell? ⟨T, 0, none⟩ = some (.int .i64 x.k) ∧ W.cell? ⟨T, 1, none⟩ = some (.int .i64 x.t) ∧ W.cell? ⟨T, 2, none⟩ = some (.int .i64 x.n) ∧ W.cell? ⟨T, 3, none⟩ = some (.int .i64 x.m) ∧ Hid (Fr Nob wx W)) (by kernel_rfl) (HK5.out _ HFn) (fun hHeld => ?_)
              refine take_by (i := 0) (v := .pointer (some ⟨G, st.length * 11, none⟩)) rfl (by assumption) ?_
              refine take_by (i := 1) (v := .pointer (some ⟨p, 0, none⟩)) rfl (by assumption) ?_
              refine take_by (i := 2) (v := .agg #[.int .i64 x.k, .int .i64 x.t, .int .i64 x.n, .int .i64 x.m]) rfl (by assumption) ?_
              try simp only [List.getElem_toArray, List.getElem_cons_succ, List.getElem_cons_zero, Act.put, List.setIfInBounds_toArray, List.set_cons_zero, List.set_cons_succ]
              refine wpAnyH_ready (rs := [3]) (by kernel_rfl) (by simp) ?_
              refine AllReadyH.cons (o := _) rfl (fun K hK => ?_) AllReadyH.nil
              go_simp
              refine (HK1.out _ HFn).mono ?_
              rintro e w' ⟨rfl, hFF⟩
              go_wp2_with fail
              refine hK.out _ _ (HK5.out _ hFF) (fun hHeld2 => ?_)
              clear hK K hHeld
              try simp only [List.getElem_toArray, List.getElem_cons_succ, List.getElem_cons_zero, Act.put, List.setIfInBounds_toArray, List.set_cons_zero, List.set_cons_succ]
              refine take_by (i := 4) (v := .bool true) rfl (by assumption) ?_
              refine take_by (i := 5) (v := .bool true) rfl (by assumption) ?_
              refine skip_by (i := 6) rfl (by assumption) ?_
              refine skip_by (i := 7) rfl (by assumption) ?_
              refine skip_by (i := 8) rfl (by assumption) ?_
              refine skip_by (i := 9) rfl (by assumption) ?_
              refine skip_by (i := 10) rfl (by assumption) ?_
              refine skip_by (i := 11) rfl (by assumption) ?_
              refine skip_by (i := 12) rfl (by assumption) ?_
              refine skip_by (i := 13) rfl (by assumption) ?_
              refine skip_by (i := 14) rfl (by assumption) ?_
              refine skip_by (i := 15) rfl (by assumption) ?_
              refine skip_by (i := 16) rfl (by assumption) ?_
              refine skip_by (i := 17) rfl (by assumption) ?_
              refine skip_by (i := 18) rfl (by assumption) ?_
              refine skip_by (i := 19) rfl (by assumption) ?_
              refine skip_by (i := 20) rfl (by assumption) ?_
              refine skip_by (i := 21) rfl (by assumption) ?_
              refine skip_by (i := 22) rfl (by assumption) ?_
              refine skip_by (i := 23) rfl (by assumption) ?_
              refine skip_by (i := 24) rfl (by assumption) ?_
              refine skip_by (i := 25) rfl (by assumption) ?_
              refine skip_by (i := 26) rfl (by assumption) ?_
              refine take_by (i := 27) (v := .bool true) rfl (by assumption) ?_
              refine done_by ?_
              go_wp2_with fail
              go_ret2
              exact ⟨by rw [← HE.out]; rfl, HF2.out.same hFF.out⟩
            · rw [hmb] at K1
              have hm1 : ¬ mayB rs tr x = false := by rw [hmb]; simp
              rw [if_neg hm1] at hcc
              have hmm : mayB rs tr x = true := hmb
              have HMM := Lib.hid hmm
              obtain ⟨q, hq⟩ : ∃ q, prefN (typR g tr) (tl ++ [x.t]) = q := ⟨_, rfl⟩
              rw [hq] at K2 hcc
              rw [HLEN.out] at hcc
              have HK1 := Lib.hid K1
              have HK2 := Lib.hid K2
              clear K1 K2 hmb hm1 hmm
              by_cases hlt3 : q < tl.length + 1
              · have HE := Lib.hid (show ((k : Int), (9 : Int)) = r by rw [← hcc, if_pos hlt3])
                have hlq : (q : Int) < (tl.length : Int) + 1 := by omega
                clear hcc hlt3 hq
                go_wp2_with fail
                go_region_held3 (fun W => W.cell? ⟨T, 0, none⟩ = some (.int .i64 x.k) ∧ W.cell? ⟨T, 1, none⟩ = some (.int .i64 x.t) ∧ W.cell? ⟨T, 2, none⟩ = some (.int .i64 x.n) ∧ W.cell? ⟨T, 3, none⟩ = some (.int .i64 x.m) ∧ W.cell? ⟨G, st.length * 11 + 7, none⟩ = some (.int .i64 tr.e.k) ∧ W.cell? ⟨G, st.length * 11 + 8, none⟩ = some (.string tr.e.name) ∧ W.cell? ⟨G, st.length * 11 + 9, none⟩ = some (.slice tr.A tr.e.l.length tr.c) ∧ W.cell? ⟨G, st.length * 11 + 10, none⟩ = some (.slice WB (tl.length + 1) wb) ∧ W.cell? ⟨p, 1, none⟩ = some (.slice GA g.length gc) ∧ Hid (Fr Nob wx W)) (exact HK0.out _ (by assumption))
                  (first
                    | (go_at_call 38; refine (HK1.out _ (by assumption)).mono ?_; rintro e w' ⟨rfl, hFF⟩)
                    | (go_at_call 36; refine (HK2.out _ (by assumption)).mono ?_; rintro e w' ⟨rfl, hFF⟩))
                rename_i hFF hHeld
                clear hHeld
                go_wp2_with fail
                go_ret2
                exact ⟨by rw [← HE.out]; rfl, HF2.out.same hFF.out⟩
              · rw [if_neg hlt3] at hcc
                have hlq : ¬ (q : Int) < (tl.length : Int) + 1 := by omega
                have HC3 := Lib.hid hcc
                clear hcc hlt3 hq
                go_wp2_with fail
                go_region_held3 (fun W => W.cell? ⟨T, 0, none⟩ = some (.int .i64 x.k) ∧ W.cell? ⟨T, 1, none⟩ = some (.int .i64 x.t) ∧ W.cell? ⟨T, 2, none⟩ = some (.int .i64 x.n) ∧ W.cell? ⟨T, 3, none⟩ = some (.int .i64 x.m) ∧ W.cell? ⟨G, st.length * 11 + 7, none⟩ = some (.int .i64 tr.e.k) ∧ W.cell? ⟨G, st.length * 11 + 8, none⟩ = some (.string tr.e.name) ∧ W.cell? ⟨G, st.length * 11 + 9, none⟩ = some (.slice tr.A tr.e.l.length tr.c) ∧ W.cell? ⟨G, st.length * 11 + 10, none⟩ = some (.slice WB (tl.length + 1) wb) ∧ W.cell? ⟨p, 1, none⟩ = some (.slice GA g.length gc) ∧ Hid (Fr Nob wx W)) (exact HK0.out _ (by assumption))
                  (first
                    | (go_at_call 38; refine (HK1.out _ (by assumption)).mono ?_; rintro e w' ⟨rfl, hFF⟩)
                    | (go_at_call 36; refine (HK2.out _ (by assumption)).mono ?_; rintro e w' ⟨rfl, hFF⟩))
                rename_i hFF hHeld
                obtain ⟨z0, z1, _, _, _, _, _, _, _, _⟩ := hHeld
                have lz0 := cell_lt z0
                have hcc := HC3.out
                have HH9 := Lib.hid (HF2.out.same hFF.out)
                have HL9 := Lib.hid (HL2.out.fr hFF.out)
                have hl2 : (st ++ [(⟨tr, .slice WB (tl.length + 1) wb, tl ++ [x.t]⟩ : Lv)]).length = st.length + 1 := by simp
                have hfo := HFO2.out
                rw [if_neg X2.out] at hfo
                have hmem : ∀ y ∈ st ++ [(⟨tr, .slice WB (tl.length + 1) wb, tl ++ [x.t]⟩ : Lv)], y.r ∈ rs ∧ y.r.leaf = false ∧ y.l.length ≤ k + 1 := fun y hy => by
                  rcases List.mem_append.1 hy with hy | hy
                  · have := HRU.out y (List.mem_append_left _ hy)
                    exact ⟨this.1, this.2.1, Nat.le_succ_of_le this.2.2⟩
                  · rw [show y = ⟨tr, .slice WB (tl.length + 1) wb, tl ++ [x.t]⟩ by simpa using hy]
                    exact ⟨HHR.out.1, HHR.out.2.1, by simp; omega⟩
                have HME := Lib.hid hmem
                clear HC3 HFO2 hmem hFF
                by_cases x1 : x.k = 1
                · have b1 : (x.k == 1) = true := by simpa using x1
                  obtain ⟨s, hsp, hsl⟩ : ∃ s, specF rs x.t = some s ∧ s.leaf = false := by
                    have hm := HMM.out
                    rw [mayB, if_neg (by omega)] at hm
                    cases hsp : specF rs x.t with
                    | none => rw [hsp] at hm; cases hm
                    | some s =>
                      rw [hsp] at hm
                      refine ⟨s, rfl, ?_⟩
                      simp only [Bool.and_eq_true, beq_iff_eq] at hm
                      rw [hm.2]
                      simp [x1]
                  rw [if_pos x1, hsp] at hcc
                  rw [if_pos x1] at hfo
                  rw [specF] at hsp
                  have ht1 : 1 ≤ x.t := by
                    rcases Decidable.em (1 ≤ x.t) with h | h
                    · exact h
                    · rw [if_neg h] at hsp; cases hsp
                  rw [if_pos ht1] at hsp
                  obtain ⟨j, hj⟩ := Int.eq_ofNat_of_zero_le (show 0 ≤ x.t by omega)
                  have hjn : x.t.toNat = j := by omega
                  rw [hjn] at hsp
                  rw [hj] at z1
                  obtain ⟨hjl, hje⟩ := List.getElem?_eq_some_iff.1 hsp
                  obtain ⟨La, lc, s1, s2, s3⟩ := (HS.out.fr0 HH9.out).row
                  obtain ⟨ad2, hA, _, hla, q0, q⟩ := Rd.elt RuleM.cells_len (by omega) s3 hjl
                  injection hA with hA
                  subst hA
                  have hls := cell_lt s1
                  rw [hje] at q0 q
                  have hrm : s ∈ rs := hje ▸ List.getElem_mem hjl
                  have hji : (j : Int) < (rs.length : Int) := by omega
                  have q1 := q 0 (by omega)
                  have q2 := q 1 (by omega)
                  have q3 := q 2 (by omega)
                  have q4 := q 3 (by omega)
                  have q5 := q 4 (by omega)
                  have q6 := q 5 (by omega)
                  have q7 := q 6 (by omega)
                  have q8 := q 7 (by omega)
                  have q9 := q 8 (by omega)
                  simp only [RuleM.cells, List.getElem?_cons_zero, List.getElem?_cons_succ, Nat.reduceAdd] at q0 q1 q2 q3 q4 q5 q6 q7 q8 q9
                  have HE := Lib.hid (show chkF rs g (s, []) ((st ++ [(⟨tr, .slice WB (tl.length + 1) wb, tl ++ [x.t]⟩ : Lv)]).reverse.map (fun x => (x.r, x.l))) (l.drop (k + 1)) (k + 1) = r by
                    rw [← hcc, List.reverse_append]; rfl)
                  have HFO3 := Lib.hid hfo
                  have HSM := Lib.hid (And.intro hrm hsl)
                  have HL2' := Lib.hid hl2
                  obtain ⟨i0, hi, hz0, hz1, hz2⟩ := info_parts infoL
                  clear q s3 hje hsp hjn hcc hfo hrm hsl hl2 ht1
                  go_upto_region 20 with (fail)
                  have hFd : Fr Nob w' w'.drew := (Fr.refl _ _).drew
                  have HFD := Lib.hid (HH9.out.same hFd)
                  have HLD := Lib.hid (HL9.out.fr hFd)
                  have hown0 := HLD.out.own
                  rw [HL2'.out] at hown0
                  generalize hxs : (st ++ [(⟨tr, .slice WB (tl.length + 1) wb, tl ++ [x.t]⟩ : Lv)]).flatMap Lv.cells = xs0 at hown0
                  have HON := Lib.hid hown0
                  have HXS := Lib.hid hxs
                  clear hown0 hxs hFd
                  go_region_law (refine step_append_lies _ (by rfl) _ _ _ (by rfl) w.heap.size 89 i0 _ 11 144 Tryz.underlying90 hi hz0 hz1 hz2 rfl (by decide) (.slice (some ⟨G, 0, none⟩) (st.length + 1) cap) (st.length + 1) xs0 (by rfl) (World.ownsRow.alloc (w := w'.drew) HON.out _) ⟨w'.heap.size, 0, none⟩ 1 1 [.string s.name, .string s.expr, .bool s.leaf, .int .i64 s.marks, .int .i64 s.least, .int .i64 s.most, .bool s.lines, .int .i64 s.e.k, .string s.e.name, .slice s.A s.e.l.length s.c, .slice none 0 0] (by rfl) rfl (fun j u hj => by rw [add_lit]; exact ((Blk.new_at w'.drew _ _ w'.heap.size rfl).cell j).trans hj) (by simp [Value.oneCell']) (by omega) (by unfold maxLen; omega) (by omega) (by have := HH9.out.size; simp; omega) _ rfl ?_; intro gg cap2 w2 hown2 hgr2 _ hlt2)
                  all_goals
                    rw [← HL2'.out, ← HXS.out] at hown2
                    have hpush := LvI.push (r := s) HLD.out ((Fr.refl Nob w'.drew).alloc _) hown2 hgr2
                    have hl3 : (st ++ [(⟨tr, .slice WB (tl.length + 1) wb, tl ++ [x.t]⟩ : Lv)] ++ [(⟨s, .slice none 0 0, []⟩ : Lv)]).length = st.length + 1 + 1 := by simp
                    rw [HL2'.out] at hpush
                    have HP1 := Lib.hid hpush.1
                    have HP2 := Lib.hid (HFD.out.trans (M := Nob) hpush.2 (fun j hj h => absurd h (by omega)))
                    have HL3 := Lib.hid hl3
                    clear hown2 hgr2 hpush hl3
                    go_wp2_with fail
                    go_roundg (l.length - (k + 1))
                    case measure => omega
                    case rel => exact ⟨k + 1, st ++ [(⟨tr, .slice WB (tl.length + 1) wb, tl ++ [x.t]⟩ : Lv)], ⟨s, .slice none 0 0, []⟩, gg, cap2, rfl, by omega, by rw [HL2'.out]; omega, by rw [HL2'.out], by first | rfl | go_num, by rw [HL3.out]; exact HP1.out, HP2.out, by rw [HL2'.out]; exact HFO3.out, HE.out, fun y hy => by
                      rcases List.mem_append.1 hy with hy | hy
                      · exact HME.out y hy
                      · rw [show y = ⟨s, .slice none 0 0, []⟩ by simpa using hy]
                        exact ⟨HSM.out.1, HSM.out.2, Nat.zero_le _⟩⟩
                · have b1 : (x.k == 1) = false := by simpa using x1
                  rw [if_neg x1] at hcc
                  rw [if_neg x1] at hfo
                  have HE := Lib.hid hcc
                  have HFO3 := Lib.hid hfo
                  clear hcc hfo
                  go_wp2_with fail
                  go_roundg (l.length - (k + 1))
                  case measure => omega
                  case rel => exact ⟨k + 1, st, ⟨tr, .slice WB (tl.length + 1) wb, tl ++ [x.t]⟩, G, cap, rfl, by omega, by omega, rfl, by first | rfl | go_num, HL9.out, HH9.out, HFO3.out, HE.out, HME.out⟩
      · have hke : k = l.length := by omega
        subst hke
        have hst0 : st = [] := by
          have := HFO.out
          rw [List.drop_length, flatOk] at this
          exact List.length_eq_zero_iff.1 this
        subst hst0
        have hcc := HC.out
        rw [List.drop_length, chkF_nil] at hcc
        simp only [List.reverse_nil, List.map_nil, List.getLast_singleton] at hcc
        have htc := LvI.first (st := []) HL.out rfl
        obtain ⟨gv, g1, g2⟩ := (HS.out.fr0 HF.out).grps
        obtain ⟨GA, gc, gcss, rfl, _, _⟩ := id g2
        have e7 := htc 7 (by omega)
        have e8 := htc 8 (by omega)
        have e9 := htc 9 (by omega)
        have e10 := htc 10 (by omega)
        have le7 := cell_lt e7
        have lg1 := cell_lt g1
        simp only [Lv.cells, RuleM.cells, List.cons_append, List.nil_append, List.getElem?_cons_zero, List.getElem?_cons_succ] at e7 e8 e9 e10
        have HGV := Lib.hid g2
        have HC9 := Lib.hid hcc
        clear htc g2 hcc HC HFO
        go_wp2_with fail
        go_still_tail 13, (by kernel_rfl)
        change wpList _ _ _ _ _ wr.drew
        generalize hwd : wr.drew = wd
        have hFd : Fr Nob wr wd := by subst hwd; exact (Fr.refl _ _).drew
        have HFD := Lib.hid (HF.out.same hFd)
        have HLD := Lib.hid (HL.out.fr hFd)
        have hRw := Rd.of_own (M := Nob) (HLD.out.words ⟨tr, .slice WA tl.length wc, tl⟩ (by simp)) (fun _ _ h => h)
        obtain ⟨WA', wc', hv, _, hRw⟩ := hRw
        simp only [Value.slice.injEq, true_and] at hv
        obtain ⟨rfl, rfl⟩ := hv
        have hex := (HS.out.fr0 HFD.out).exprs tr HHR.out.1
        rw [HRE.out] at hex
        have hec : tr.ec = [.int .i64 tr.e.k, .string tr.e.name, .slice tr.A tr.e.l.length tr.c] := rfl
        rw [hec] at hex
        have hacc := accepts_any g (starR tr) (nmR tr) HRK.out _ (.slice GA g.length gc) tl WA wc wd (ERep.mono (fun _ h => h.elim) _ _ hex) ((HGV.out.fr0 hFd).mono (fun _ h => h.elim)) hRw (by omega)
        have HACC := Lib.hid hacc
        clear hFd hwd hRw hex hec hacc e7 e8 e9 e10 le7 lg1 g1
        go_wp2_with fail
        refine HACC.out.mono ?_
        rintro e w5 ⟨rfl, hF5⟩
        have HF5 := Lib.hid (HFD.out.same hF5)
        have hcc := HC9.out
        clear hF5 HC9
        have htyp : typesF g (nmR tr) = typR g tr := rfl
        rw [htyp]
        cases ha : accB (typR g tr) (starR tr) tl
        · have HE := Lib.hid (show ((l.length : Int), (9 : Int)) = r by rw [← hcc, ha]; rfl)
          clear ha hcc
          go_wp2_with fail
          go_ret2
          exact ⟨by rw [← HE.out]; rfl, HF5.out⟩
        · have HE := Lib.hid (show ((l.length : Int), (0 : Int)) = r by rw [← hcc, ha]; rfl)
          clear ha hcc
          go_wp2_with fail
          go_ret2
          exact ⟨by rw [← HE.out]; rfl, HF5.out⟩
  · have hb : ((flatCheck l).2 != 0) = true := by simpa using hfl
    have HE := Lib.hid (show flatCheck l = r by have := HR.out; rw [if_pos hfl] at this; exact this)
    clear hfl
    go_wp2_with fail
    go_ret2
    exact ⟨by rw [← HE.out]; rfl, HF1.out⟩
end Go.Proofs.YtldcffonfidbcaaGreatDoor
