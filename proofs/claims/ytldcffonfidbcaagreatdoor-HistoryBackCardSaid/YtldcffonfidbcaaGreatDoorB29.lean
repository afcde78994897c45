/- A part of the proof for chapter 10: BackW; no conditions. -/
import Derived.Test.YtldcffonfidbcaaGreatDoorB28
/- HistoryBack: all is undone, and done again: the walk. -/
namespace Go.Proofs.YtldcffonfidbcaaGreatDoor
open Go.RowKit
theorem docs_at {ds : List DocA} {D : List (List Tok)} {d : List Tok} {X : List (List Tok)} (h : ds.map DocA.l = D.reverse ++ d :: X) : ∃ hk : D.length < ds.length, ds[D.length].l = d := by
  have hl : D.length < ds.length := by
    have := congrArg List.length h
    simp at this
    omega
  refine ⟨hl, ?_⟩
  have h1 : (ds.map DocA.l)[D.length]? = some d := by
    rw [h, List.getElem?_append_right (by simp)]
    simp
  rw [List.getElem?_map, List.getElem?_eq_getElem hl] at h1
  exact Option.some.inj h1
set_option maxRecDepth 100000 in
set_option maxHeartbeats 1500000 in
theorem back_walk (l : List Tok) (L : List StepA) (BA OA : Option Addr) (bc oc : Nat) (w : World) (hG : HG w) (hl : Rd Nob w BA (tokC l)) (hc : l.length ≤ bc) (ho : StepsM Nob w OA L) (hn : l.length ≤ 9223372036854775807 ∧ L.length ≤ 9223372036854775807) :
    Calls Tryz.prog 3 #[.slice BA l.length bc, .slice OA L.length oc] w fun e w' => e = .returned (.bool true) ∧ Fr Nob w w' := by
  have HHG := Lib.hid hG
  have HL := Lib.hid hl
  have HC := Lib.hid hc
  have HO := Lib.hid ho
  have HN := Lib.hid hn
  clear hG hl hc ho hn
  obtain ⟨bn, hbn⟩ : ∃ n, l.length = n := ⟨_, rfl⟩
  obtain ⟨on, hon⟩ : ∃ n, L.length = n := ⟨_, rfl⟩
  have HBN := Lib.hid hbn
  have HON := Lib.hid hon
  rw [hbn, hon]
  clear hbn hon
  obtain ⟨i0, hi, hz0, hz1, hz2⟩ := info_parts infoDoc
  go_enter Tryz.func3, Tryz.ntmps3
  go_wp2_with fail
  have hnew := hNew_any BA l bc w HHG.out HL.out HC.out HN.out.1
  rw [HBN.out] at hnew
  refine hnew.mono ?_
  clear hnew
  rintro e w1 ⟨⟨rs, hC, h0, h1⟩, hF1⟩
  have HSO := Lib.hid (house_schok hC)
  have HF1 := Lib.hid hF1
  obtain ⟨G, hGG⟩ : ∃ G, groupsF houseL houseG = G := ⟨_, rfl⟩
  rw [hGG] at HSO h0 h1
  clear hC hF1 hGG
  obtain ⟨E, hE⟩ : ∃ E, (checkF rs G l).2 = E := ⟨_, rfl⟩
  have HE := Lib.hid hE
  rw [hE] at h0 h1
  clear hE
  by_cases hz : E = 0
  · obtain ⟨q, p, rfl, hq, hP⟩ := h0 hz
    subst hz
    have HP1 := Lib.hid hP
    have HQ := Lib.hid hq
    clear h0 h1 hP
    by_cases h150 : bn ≤ 150
    · have h150' : ¬ ((bn : Int) > 150) := by omega
      go_upto_region 4 with (fail)
      go_upto_region 5 with (fail)
      obtain ⟨g0, hg0⟩ : ∃ n, w1.heap.size = n := ⟨_, rfl⟩
      obtain ⟨W2, hW2⟩ : ∃ W, w1.alloc (.cells #[.slice BA bn bc] 22) = W := ⟨_, rfl⟩
      have HF2 := Lib.hid (show Fr Nob w1 W2 by rw [← hW2]; exact (Fr.refl _ _).alloc _)
      have HQ0 := Lib.hid (show q < g0 by rw [← hg0]; exact HP1.out.lt)
      have HG0 := Lib.hid hg0
      have HGS := Lib.hid (show g0 < W2.heap.size by rw [← hW2, ← hg0]; simp)
      have HOW := Lib.hid (show W2.ownsRow w.heap.size 22 1 (.slice (some ⟨g0, 0, none⟩) 1 1) 1 (docC [⟨BA, bc, l⟩]) by
        rw [← hW2, ← hg0]
        have h := World.ownsRow_lit (e := 22) (size := 1) (base := w.heap.size) w1 #[.slice BA bn bc] 1 HF1.out.size (by decide) rfl
        simpa [docC, DocA.v, HBN.out] using h)
      rw [hW2, hg0]
      clear hW2 hg0
      have HFW2 := Lib.hid (HF1.out.same HF2.out)
      go_wp2_with fail
      go_loopg [8, 7] (12) (fun n s8 s7 wr => ∃ (k : Nat) (N : Nat → Prop) (VA : Option Addr) (vn vc : Nat) (ds : List DocA) (st : HS) (D : List (List Tok)), n = 12 - k ∧ k ≤ 12 ∧ s8 = .int .i64 k ∧ s7 = .slice VA vn vc ∧ Hid (vn = D.length + 1) ∧ Hid (HP N wr q p rs G st) ∧ Hid (DocsM N w.heap.size wr (.slice VA ds.length vc) ds) ∧ Hid (BackI rs G D [] st) ∧ Hid (ds.map DocA.l = D.reverse ++ [st.l]) ∧ Hid (D.length ≤ k) ∧ Hid (∀ j, N j → w.heap.size ≤ j ∧ j < wr.heap.size) ∧ Hid ((Value.slice VA ds.length vc).ownBlock ≠ some q) ∧ Hid (Fr Nob w wr))
      case atStart =>
        refine ⟨0, fun k => k = q ∨ k = g0, some ⟨g0, 0, none⟩, 1, 1, [⟨BA, bc, l⟩], newS l, [], rfl, by omega, rfl, rfl, rfl, ?_, ⟨HOW.out, fun k e => by cases e; exact .inr rfl, fun d hd => ?_⟩, back_new HE.out, rfl, Nat.le_refl _, fun j hj => ?_, fun e => ?_, HFW2.out⟩
        · exact (HP1.out.bound.mono (N' := fun k => k = q ∨ k = g0) (fun k hk => by rcases hk with rfl | rfl; exact .inl rfl; exact .inr (Nat.le_of_eq HG0.out)) (.inl rfl)).fr0 HF2.out
        · rw [List.mem_singleton.1 hd]
          have h1 := HQ.out
          have h2 := HQ0.out
          exact ((HL.out.bound).fr HFW2.out (fun _ _ h => h.elim)).mono (fun k hk => by rcases hk with rfl | rfl <;> exact .inr (by omega))
        · have h1 := HQ.out
          have h2 := HQ0.out
          have h3 := HGS.out
          rcases hj with rfl | rfl <;> omega
        · have h2 := HQ0.out
          have e' : g0 = q := by cases e; rfl
          omega
      case round =>
        obtain ⟨k, N, VA, vn, vc, ds, st, D, rfl, hk12, rfl, rfl, HVN, HPk, HDk, HBk, HMk, HDL, HNk, HVQ, HFk⟩ := hrel
        obtain ⟨b, hb⟩ : ∃ b, decide (k < on ∧ k < 12) = b := ⟨_, rfl⟩
        have HB := Lib.hid hb
        clear hb
        go_upto_region 6 with (fail)
        go_cut [51] from 44 to 65 (fun s51 wx => s51 = .bool b ∧ wx = wr)
        case first =>
          go_wp2_with fail
          all_goals
            go_meet
            refine ⟨?_, rfl⟩
            rw [← HB.out]
            congr 1
            first
              | (rw [decide_eq_decide]; omega)
              | (symm; rw [decide_eq_false_iff_not]; omega)
              | (rw [eq_comm, decide_eq_false_iff_not]; omega)
        case rest =>
          obtain ⟨rfl, rfl⟩ := hcut
          have hdv : ds.length = vn := by
            have h1 := congrArg List.length HMk.out
            simp at h1
            have := HVN.out
            omega
          have HDV := Lib.hid hdv
          rw [hdv] at HDk HVQ
          clear hdv
          cases b with
          | true =>
            obtain ⟨hlt, hk2⟩ := of_decide_eq_true HB.out
            have hlt' : k < L.length := by rw [HON.out]; exact hlt
            obtain ⟨ad, rfl, hnb, hbl, c0, cj⟩ := Rd.elt StepA.cells_len (by omega) (HO.out.fr0 HFk.out).row hlt'
            have hxr := ((HO.out.bound).fr HFk.out (fun _ _ h => h.elim)).each _ (List.getElem_mem hlt')
            have hxc := HO.out.cap _ (List.getElem_mem hlt')
            obtain ⟨x, hx⟩ : ∃ x, L[k] = x := ⟨_, rfl⟩
            rw [hx] at c0 cj hxr hxc
            clear hx hlt'
            obtain ⟨⟨sk, sf, st2, sgf, sgt, sins, sm, sl⟩, B, b⟩ := x
            have c1 := cj 0 (by omega)
            have c2 := cj 1 (by omega)
            have c3 := cj 2 (by omega)
            have c4 := cj 3 (by omega)
            have c5 := cj 4 (by omega)
            have c6 := cj 5 (by omega)
            have c7 := cj 6 (by omega)
            simp only [StepA.cells, StepM.cells, List.getElem?_cons_zero, List.getElem?_cons_succ, Nat.reduceAdd] at c0 c1 c2 c3 c4 c5 c6 c7
            have hki : (k : Int) < (on : Int) := by omega
            have hbl0 : (ad.add (k * 8)).block < wc.heap.size := by rw [add_block]; exact hbl
            have HXR := Lib.hid (show Rd N wc B (tokC sl) from hxr.mono (fun j hj => .inr (HNk.out j hj).1))
            have HXC := Lib.hid hxc
            clear cj hnb hxr hxc
            obtain ⟨sn, hsn⟩ : ∃ n, sl.length = n := ⟨_, rfl⟩
            have hlo := hLocal_any N q p rs G HSO.out st ⟨sk, sf, st2, sgf, sgt, sins, sm, sl⟩ B b wc HPk.out HXR.out HXC.out (by have := HBk.out.lens.2.2; omega) (by have := HBk.out.lens.1; have := HDL.out; omega) (fun j hj => (HNk.out j hj).2)
            have hbk := back_local (s := ⟨sk, sf, st2, sgf, sgt, sins, sm, sl⟩) HBk.out
            obtain ⟨R, hR⟩ : ∃ R, localF rs G st ⟨sk, sf, st2, sgf, sgt, sins, sm, sl⟩ = R := ⟨_, rfl⟩
            simp only [StepM.cells, hsn] at hlo c6
            simp only [hR] at hlo hbk
            have HBL := Lib.hid hbk
            have HLO := Lib.hid hlo
            clear hsn hR hbk hlo
            obtain ⟨st', r⟩ := R
            simp only at HBL HLO
            go_wp2_with fail
            refine HLO.out.mono ?_
            clear HLO c0 c1 c2 c3 c4 c5 c6 c7 hbl0
            rintro e w3 ⟨rfl, hP3, hF3⟩
            have HP3 := Lib.hid hP3
            have HF3 := Lib.hid hF3
            have HNq := Lib.hid (show N q by obtain ⟨x, h1, _⟩ := hP3.ex; exact h1.mem)
            have HFW3 := Lib.hid (show Fr Nob w w3 from HFk.out.trans hF3 (fun j hj e => by have e' : j = q := e; have h1 := HQ.out; omega))
            clear hP3 hF3
            by_cases hr : r = 0
            · subst hr
              have HB3 := Lib.hid (HBL.out.1 rfl)
              clear HBL
              go_wp2_with fail
              refine (hDoc_any N q p rs G st' w3 HP3.out (by have := HB3.out.lens.2.2; omega)).mono ?_
              rintro e w4 ⟨NA, nc, rfl, hnc, hnr, hF4⟩
              obtain ⟨tn, htn⟩ : ∃ n, st'.l.length = n := ⟨_, rfl⟩
              have HTN := Lib.hid htn
              rw [htn]
              have HNR := Lib.hid hnr
              have HF4 := Lib.hid hF4
              clear htn hnc hnr hF4
              have HD4 := Lib.hid ((HDk.out.fr HF3.out (fun j _ e => by have e' : j = q := e; rw [e']; exact HNq.out) (fun j e e2 => by have e' : j = q := e2; rw [e'] at e; exact HVQ.out e)).fr0 HF4.out)
              have hvn : vn ≤ 13 := by have h1 := HVN.out; have h2 := HDL.out; omega
              obtain ⟨W5, hW5⟩ : ∃ W, w4.alloc (.cells #[.slice NA tn nc] 22) = W := ⟨_, rfl⟩
              have HF5 := Lib.hid (show Fr Nob w4 W5 by rw [← hW5]; exact (Fr.refl _ _).alloc _)
              have HB5 := Lib.hid (show Blk W5 w4.heap.size [.slice NA tn nc] 22 by rw [← hW5]; exact Blk.new _ _ _)
              have HOW5 := Lib.hid (show W5.ownsRow w.heap.size 22 1 (.slice VA vn vc) vn (docC ds) from by have h := (HD4.out.fr0 HF5.out).own; rw [HDV.out] at h; exact h)
              have HS5 := Lib.hid (show w.heap.size ≤ W5.heap.size from (HFW3.out.same (HF4.out.same HF5.out)).size)
              have hbt : (vn + 1) * 24 ≤ 140737488355328 := by omega
              go_wp2_with (at_builtin; refine wpList_append_row _ rfl _ _ 29 rfl w.heap.size 22 i0 _ 1 24 Tryz.underlying29 hi hz0 hz1 hz2 rfl (by decide) (.slice VA vn vc) vn (docC ds) rfl HOW5.out ⟨w4.heap.size, 0, none⟩ 1 1 [.slice NA tn nc] rfl rfl (fun j u hu => by rw [add_lit]; exact (HB5.out.cell j).trans hu) (fun u hu => by rw [List.mem_singleton.1 hu]; rfl) (by omega) (by simp only [maxLen]; omega) hbt HS5.out ?_; intro g cap w9 hown9 hf9 hg9)
              have hmine := HDk.out.mine
              have hNk := HNk.out
              have hw3 := HF3.out.size
              have hw4 := HF4.out.size
              have hw5 := HF5.out.size
              have hin : ∀ j, (N j ∨ j = g) → N j ∨ W5.heap.size ≤ j := fun j hj => by
                rcases hj with hj | rfl
                · exact .inl hj
                · rcases hg9 with h | h
                  · exact .inl (hmine _ h)
                  · exact .inr h
              have hp9 := ((HP3.out.fr0 (HF4.out.same HF5.out)).bound).fr hf9 (fun j _ e => .inl (hmine j e)) (fun e => HVQ.out e)
              have hgq : g ≠ q := fun e => by
                rcases hg9 with h | h
                · rw [e] at h; exact HVQ.out h
                · have := HP3.out.lt
                  omega
              have hfw := HFW3.out.same (HF4.out.same HF5.out)
              have hdl := HDV.out
              have htn := HTN.out
              go_roundg (12 - (k + 1))
              case measure => omega
              case rel =>
                refine ⟨k + 1, fun j => N j ∨ j = g, some ⟨g, 0, none⟩, vn + 1, cap, ds ++ [⟨NA, nc, st'.l⟩], st', st.l :: D, rfl, by omega, by first | rfl | go_num, rfl, ?_, hp9.mono hin (.inl HNq.out), ⟨?_, ?_, ?_⟩, HB3.out, ?_, ?_, ?_, ?_, ?_⟩
                · rw [HVN.out]; rfl
                · have e1 : (ds ++ [(⟨NA, nc, st'.l⟩ : DocA)]).length = vn + 1 := by rw [List.length_append, hdl]; rfl
                  rw [e1]
                  simpa [docC, DocA.v, htn] using hown9
                · intro j e
                  exact .inr (by cases e; rfl)
                · intro d hd
                  rcases List.mem_append.1 hd with hd | hd
                  · exact (((HD4.out.fr0 HF5.out).each d hd).bound.fr hf9 (fun j _ e => .inl (hmine j e))).mono hin
                  · rw [List.mem_singleton.1 hd]
                    refine ((HNR.out.fr HF5.out (fun _ _ h => h.elim)).bound.fr hf9 (fun j _ e => .inl (by have := (hNk j (hmine j e)).2; omega))).mono (fun j hj => ?_)
                    rcases hin j hj with h | h
                    · exact .inl (by have := (hNk j h).2; omega)
                    · exact .inr h
                · have h0 := HMk.out
                  show (ds ++ [(⟨NA, nc, st'.l⟩ : DocA)]).map DocA.l = (st.l :: D).reverse ++ [st'.l]
                  rw [List.map_append, h0]
                  simp
                · have := HDL.out
                  show (st.l :: D).length ≤ k + 1
                  simp
                  omega
                · intro j hj
                  have h9 := hf9.size
                  have h0 := HFk.out.size
                  rcases hj with hj | rfl
                  · have := hNk j hj; omega
                  · have h1 := (World.ownsRow.lt hown9 j rfl)
                    omega
                · intro e
                  exact hgq (by cases e; rfl)
                · exact hfw.trans hf9 (fun j hj e => by have := (hNk j (hmine j e)).1; omega)
            · have hst : st' = st := HBL.out.2 hr
              have hr' : (r == 0) = false := by simpa using hr
              rw [hst] at HP3
              clear HBL hst
              go_wp2_with fail
              go_roundg (12 - (k + 1))
              case measure => omega
              case rel =>
                refine ⟨k + 1, N, VA, vn, vc, ds, st, D, rfl, by omega, by first | rfl | go_num, rfl, HVN.out, HP3.out, ?_, HBk.out, HMk.out, by have := HDL.out; show D.length ≤ k + 1; omega, fun j hj => ?_, by rw [HDV.out]; exact HVQ.out, HFW3.out⟩
                · rw [HDV.out]
                  exact HDk.out.fr HF3.out (fun j _ e => by have e' : j = q := e; rw [e']; exact HNq.out) (fun j e e2 => by have e' : j = q := e2; rw [e'] at e; exact HVQ.out e)
                · have h1 := HNk.out j hj
                  have h2 := HF3.out.size
                  omega
          | false =>
            obtain ⟨dn, hdn⟩ : ∃ n, D.length = n := ⟨_, rfl⟩
            have hv := HVN.out
            rw [hdn] at hv
            subst hv
            have HDN := Lib.hid (show dn ≤ 12 by have := HDL.out; omega)
            have HNq := Lib.hid (show N q by obtain ⟨x, h1, _⟩ := HPk.out.ex; exact h1.mem)
            have hl3 := HBk.out.lens
            have hul := Lib.hid (hl3.1.trans hdn)
            have hrl := Lib.hid hl3.2.1
            have HDD := Lib.hid hdn
            clear hdn hl3
            have hdn12 := HDN.out
            go_wp2_with fail
            refine (hUndos_any N q p rs G st wc HPk.out).mono ?_
            rintro e w0 ⟨rfl, rfl⟩
            rw [hul.out]
            go_wp2_with fail
            refine (hRedos_any N q p rs G st w0 HPk.out).mono ?_
            rintro e w0' ⟨rfl, rfl⟩
            rw [hrl.out]
            clear hul hrl
            have HMD := Lib.hid (show ds.length = dn + 1 from HDV.out)
            go_wp2_with fail
            go_loopg [10] (dn) (fun n s10 wr => ∃ (D E : List (List Tok)) (st : HS) (j : Int), n = D.length ∧ s10 = .int .i64 j ∧ j = (D.length : Int) - 1 ∧ Hid (HP N wr q p rs G st) ∧ Hid (BackI rs G D E st) ∧ Hid (ds.map DocA.l = D.reverse ++ st.l :: E) ∧ Hid (Fr (One q) w0' wr))
            case atStart => exact ⟨D, [], st, (dn : Int) - 1, HDD.out.symm, by first | rfl | go_num, by rw [HDD.out], HPk.out, HBk.out, HMk.out, Fr.refl _ _⟩
            case round =>
              obtain ⟨D, E, st, j, rfl, rfl, hj, HPr, HBr, HMr, HFr⟩ := hrel
              have HLE := Lib.hid (show (D.reverse ++ st.l :: E).length ≤ 13 by rw [← HMr.out, List.length_map, HMD.out]; omega)
              cases D with
              | cons d D =>
                obtain ⟨jn, hjn⟩ : ∃ n, D.length = n := ⟨_, rfl⟩
                obtain rfl : j = (jn : Int) := by rw [hj, List.length_cons, hjn]; omega
                have hge : (0 : Int) ≤ (jn : Int) := by omega
                clear hj
                have hl3 := HBr.out.lens
                have hcall := hUndo_any N q p rs G HSO.out st wr HPr.out (by have := hl3.2.2; omega) (by have h1 := hl3.1; have h3 := hl3.2.1; have h2 := HLE.out; simp only [List.length_append, List.length_reverse, List.length_cons, List.length_nil] at h1 h2 h3; omega) (by have h1 := hl3.1; have h3 := hl3.2.1; have h2 := HLE.out; simp only [List.length_append, List.length_reverse, List.length_cons, List.length_nil] at h1 h2 h3; omega) HBr.out.shortU (by rw [HBr.out.lost]; omega) (fun j hj => Nat.lt_of_lt_of_le (HNk.out j hj).2 HFr.out.size)
                obtain ⟨e1, e2, e3⟩ := back_undo HBr.out
                obtain ⟨R, hR⟩ : ∃ R, undoF rs G st = R := ⟨_, rfl⟩
                rw [hR] at e1 e2 e3 hcall
                obtain ⟨st', yo, er⟩ := R
                simp only at e1 e2 e3
                subst e1
                have HB3 := Lib.hid e3
                have HCA := Lib.hid hcall
                clear hR e3 hcall hl3
                go_wp2_with fail
                refine HCA.out.mono ?_
                clear HCA
                rintro e w3 ⟨⟨OB, ob, rfl, _⟩, hP3, hF3⟩
                simp only at hP3 ⊢
                obtain ⟨sk, sf, sT, sgf, sgt, sins, SA, sn, sc, sm, hsv⟩ : ∃ k f t gf gt ins SA sn sc m, stepV yo OB ob = .agg #[.int .i64 k, .int .i64 f, .int .i64 t, .int .i64 gf, .int .i64 gt, .int .i64 ins, .slice SA sn sc, .int .i64 m] := by cases yo with | none => exact ⟨0, 0, 0, 0, 0, 0, none, 0, 0, 0, rfl⟩ | some y => exact ⟨_, _, _, _, _, _, _, _, _, _, rfl⟩
                rw [hsv]
                clear hsv
                go_upto_region 17 with (fail)
                obtain ⟨W3, hW3⟩ : ∃ W, w3.alloc (.cells #[.int .i64 sk, .int .i64 sf, .int .i64 sT, .int .i64 sgf, .int .i64 sgt, .int .i64 sins, .slice SA sn sc, .int .i64 sm] 32) = W := ⟨_, rfl⟩
                have HF33 := Lib.hid (show Fr Nob w3 W3 by rw [← hW3]; exact (Fr.refl _ _).alloc _)
                rw [hW3]
                clear hW3
                have HF3 := Lib.hid (show Fr (One q) wr W3 from hF3.none HF33.out)
                have HP3 := Lib.hid (hP3.fr0 HF33.out)
                have HDr := Lib.hid (HDk.out.fr (HFr.out.same HF3.out) (fun j _ e => by have e' : j = q := e; rw [e']; exact HNq.out) (fun j e e2 => by have e' : j = q := e2; rw [e'] at e; exact HVQ.out e))
                clear hP3 hF3 HF33
                obtain ⟨hkd, hdl⟩ := docs_at (D := D) (d := d) (X := st.l :: E) (by have h := HMr.out; simpa using h)
                have HJ := Lib.hid hjn
                obtain ⟨adn, vc', hva, hbd, hcd, hrd⟩ := HDr.out.get hkd
                injection hva with hva hva2 hva3
                subst hva hva3
                simp only [hjn] at hdl hcd hrd
                obtain ⟨⟨DA, dc, dl⟩, hdd⟩ : ∃ d, ds[jn]'(by rw [← hjn]; exact hkd) = d := ⟨_, rfl⟩
                rw [hdd] at hdl hcd hrd
                simp only [DocA.v] at hdl hcd hrd
                rw [hdl, ← e2] at hcd hrd
                obtain ⟨tn, htn⟩ : ∃ n, st'.l.length = n := ⟨_, rfl⟩
                have HTN := Lib.hid htn
                have HTS := Lib.hid (show st'.l.length ≤ 2048 from HB3.out.lens.2.2)
                rw [htn] at hcd
                have HDR := Lib.hid (fun (W : World) (h : Fr Nob W3 W) => hrd.fr h (fun _ _ h => h.elim))
                have KS := Lib.hid (show ∀ W : World, Fr Nob W3 W → W.cell? (adn.add jn) = some (.slice DA tn dc) from fun W h => (h.cell (by rw [add_block]; exact hbd) (fun h => h)).trans hcd)
                have HDC := Lib.hid (fun (W : World) (h : Fr Nob W3 W) => hDoc_any N q p rs G st' W (HP3.out.fr0 h) (by have := HTS.out; omega))
                have hjv : (jn : Int) < (dn : Int) + 1 := by have := hkd; rw [hjn, HMD.out] at this; omega
                have hj0 : (0 : Int) ≤ (jn : Int) := by omega
                clear hkd hdl hcd hrd htn hdd hbd hva2
                have HM3 := Lib.hid (show ds.map DocA.l = D.reverse ++ st'.l :: (st.l :: E) by rw [e2]; have h := HMr.out; simpa using h)
                have HJN := Lib.hid hjn
                clear hjn e2
                refine wp_region_held_drew (S := fun W' : World => W'.cell? (adn.add jn) = some (.slice DA tn dc)) (by kernel_rfl) (KS.out _ (Fr.refl _ _).drew) (fun _ => ?_)
                have HFD := Lib.hid ((Fr.refl Nob W3).drew)
                generalize W3.drew = wd at HFD ⊢
                have HSD := Lib.hid (KS.out wd HFD.out)
                refine take_by (i := 0) (v := .int .i64 0) rfl HSD.out ?_
                refine take_by (i := 1) (v := .bool false) rfl HSD.out ?_
                refine take_by (i := 2) (v := .bool false) rfl HSD.out ?_
                try simp only [List.getElem_toArray, List.getElem_cons_succ, List.getElem_cons_zero, Act.put, List.setIfInBounds_toArray, List.set_cons_zero, List.set_cons_succ]
                refine take_by (i := 3) (v := .pointer (some ⟨q, 0, none⟩)) rfl HSD.out ?_
                try simp only [List.getElem_toArray, List.getElem_cons_succ, List.getElem_cons_zero, Act.put, List.setIfInBounds_toArray, List.set_cons_zero, List.set_cons_succ]
                refine take_by (i := 5) (v := .slice (some adn) (dn + 1) vc) rfl HSD.out ?_
                try simp only [List.getElem_toArray, List.getElem_cons_succ, List.getElem_cons_zero, Act.put, List.setIfInBounds_toArray, List.set_cons_zero, List.set_cons_succ]
                refine take_by (i := 6) (v := .int .i64 (jn : Int)) rfl HSD.out ?_
                try simp only [List.getElem_toArray, List.getElem_cons_succ, List.getElem_cons_zero, Act.put, List.setIfInBounds_toArray, List.set_cons_zero, List.set_cons_succ]
                refine take_by (i := 7) (v := .pointer (some (adn.add jn))) rfl HSD.out ?_
                try simp only [List.getElem_toArray, List.getElem_cons_succ, List.getElem_cons_zero, Act.put, List.setIfInBounds_toArray, List.set_cons_zero, List.set_cons_succ]
                refine take_by (i := 8) (v := .slice DA tn dc) rfl HSD.out ?_
                try simp only [List.getElem_toArray, List.getElem_cons_succ, List.getElem_cons_zero, Act.put, List.setIfInBounds_toArray, List.set_cons_zero, List.set_cons_succ]
                refine wpAnyH_ready (rs := [4]) (by kernel_rfl) (by simp) (AllReadyH.cons (o := _) rfl (fun K hK => ?_) AllReadyH.nil)
                go_simp
                refine (HDC.out wd HFD.out).mono ?_
                rintro e w4 ⟨NA, nc, rfl, hnc, hnr, hF4⟩
                rw [HTN.out]
                have HNR := Lib.hid hnr
                have HF4 := Lib.hid (HFD.out.same hF4)
                clear hnc hnr hF4
                go_wp2_with fail
                refine hK.out _ _ (KS.out _ HF4.out) (fun _ => ?_)
                clear hK K
                try simp only [List.getElem_toArray, List.getElem_cons_succ, List.getElem_cons_zero, Act.put, List.setIfInBounds_toArray, List.set_cons_zero, List.set_cons_succ]
                try simp only [List.getElem_toArray, List.getElem_cons_succ, List.getElem_cons_zero, Act.put, List.setIfInBounds_toArray, List.set_cons_zero, List.set_cons_succ]
                refine wpAnyH_ready (rs := [9]) (by kernel_rfl) (by simp) (AllReadyH.cons (o := _) rfl (fun K hK => ?_) AllReadyH.nil)
                go_simp
                have hal := alike24_any (fun k => k < wd.heap.size) N st'.l st'.l NA DA nc dc w4 (by have := HTS.out; omega) (by have := HTS.out; omega) HNR.out (HDR.out w4 HF4.out)
                rw [HTN.out, decide_eq_true (rfl : st'.l = st'.l)] at hal
                refine hal.mono ?_
                clear hal
                rintro e w5 ⟨rfl, hF5⟩
                have HF5 := Lib.hid (HF4.out.same hF5)
                clear hF5
                go_wp2_with fail
                refine hK.out _ _ (KS.out _ HF5.out) (fun _ => ?_)
                clear hK K
                try simp only [List.getElem_toArray, List.getElem_cons_succ, List.getElem_cons_zero, Act.put, List.setIfInBounds_toArray, List.set_cons_zero, List.set_cons_succ]
                try simp only [List.getElem_toArray, List.getElem_cons_succ, List.getElem_cons_zero, Act.put, List.setIfInBounds_toArray, List.set_cons_zero, List.set_cons_succ]
                refine take_by (i := 10) (v := .bool false) rfl (KS.out _ HF5.out) ?_
                refine take_by (i := 11) (v := .bool false) rfl (KS.out _ HF5.out) ?_
                try simp only [List.getElem_toArray, List.getElem_cons_succ, List.getElem_cons_zero, Act.put, List.setIfInBounds_toArray, List.set_cons_zero, List.set_cons_succ]
                refine wpAnyH_done (by kernel_rfl) ?_ _
                go_wp2_with fail
                go_roundg (jn)
                case measure => simp only [List.length_cons, HJN.out]; omega
                case rel => exact ⟨D, st.l :: E, _, (jn : Int) - 1, HJN.out.symm, by first | rfl | go_num, by rw [HJN.out], HP3.out.fr0 HF5.out, HB3.out, HM3.out, (HFr.out.same (HF3.out.same HF5.out.any))⟩
              | nil =>
                obtain rfl : j = -1 := by rw [hj]; rfl
                clear hj
                have hl3 := HBr.out.lens
                have hcall := hUndo_any N q p rs G HSO.out st wr HPr.out (by have := hl3.2.2; omega) (by have h1 := hl3.1; have h3 := hl3.2.1; have h2 := HLE.out; simp only [List.length_append, List.length_reverse, List.length_cons, List.length_nil] at h1 h2 h3; omega) (by have h1 := hl3.1; have h3 := hl3.2.1; have h2 := HLE.out; simp only [List.length_append, List.length_reverse, List.length_cons, List.length_nil] at h1 h2 h3; omega) HBr.out.shortU (by rw [HBr.out.lost]; omega) (fun j hj => Nat.lt_of_lt_of_le (HNk.out j hj).2 HFr.out.size)
                rw [back_end HBr.out] at hcall
                have HCA := Lib.hid hcall
                clear hcall hl3
                go_wp2_with fail
                refine HCA.out.mono ?_
                clear HCA
                rintro e w3 ⟨⟨OB, ob, rfl, _⟩, hP3, hF3⟩
                simp only [stepV, Option.elim] at hP3 ⊢
                have HP0 := Lib.hid hP3
                have HF0 := Lib.hid (HFr.out.same hF3)
                clear hP3 hF3
                go_wp2_with fail
                obtain ⟨W4, hW4⟩ : ∃ W, w3.alloc (.cells #[.int .i64 0, .int .i64 0, .int .i64 0, .int .i64 0, .int .i64 0, .int .i64 0, .slice none 0 0, .int .i64 0] 32) = W := ⟨_, rfl⟩
                have HF4 := Lib.hid (show Fr (One q) w0' W4 by rw [← hW4]; exact HF0.out.alloc _)
                have HP4 := Lib.hid (HP0.out.fr0 (show Fr Nob w3 W4 by rw [← hW4]; exact (Fr.refl _ _).alloc _))
                rw [hW4]
                clear hW4
                go_loopg [15] (E.length) (fun n s15 wr => ∃ (D E : List (List Tok)) (st : HS) (i : Nat), n = E.length ∧ s15 = .int .i64 i ∧ i = D.length + 1 ∧ Hid (HP N wr q p rs G st) ∧ Hid (BackI rs G D E st) ∧ Hid (ds.map DocA.l = D.reverse ++ st.l :: E) ∧ Hid (Fr (One q) w0' wr))
                case atStart => exact ⟨[], E, st, 1, rfl, rfl, rfl, HP4.out, HBr.out, HMr.out, HF4.out⟩
                case round =>
                  clear HP0 HF0 HP4 HF4 HPr HBr HMr HFr HLE
                  obtain ⟨D, E, st, jn, rfl, rfl, hjn', HPr, HBr, HMr, HFr⟩ := hrel
                  have HLE := Lib.hid (show (D.reverse ++ st.l :: E).length = dn + 1 by rw [← HMr.out, List.length_map, HMD.out])
                  cases E with
                  | cons d E =>
                    have hjn : (st.l :: D).length = jn := by rw [hjn']; rfl
                    have hle : (jn : Int) ≤ (dn : Int) := by have h := HLE.out; simp at h; omega
                    clear hjn'
                    have hl3 := HBr.out.lens
                    have hcall := hRedo_any N q p rs G HSO.out st wr HPr.out (by have := hl3.2.2; omega) (by have h1 := hl3.1; have h3 := hl3.2.1; have h2 := HLE.out; simp only [List.length_append, List.length_reverse, List.length_cons, List.length_nil] at h1 h2 h3; omega) (by have h1 := hl3.1; have h3 := hl3.2.1; have h2 := HLE.out; simp only [List.length_append, List.length_reverse, List.length_cons, List.length_nil] at h1 h2 h3; omega) HBr.out.shortR (by rw [HBr.out.lost]; omega) (fun j hj => Nat.lt_of_lt_of_le (HNk.out j hj).2 HFr.out.size)
                    obtain ⟨e1, e2, e3⟩ := back_redo HBr.out
                    obtain ⟨R, hR⟩ : ∃ R, redoF rs G st = R := ⟨_, rfl⟩
                    rw [hR] at e1 e2 e3 hcall
                    obtain ⟨st', yo, er⟩ := R
                    simp only at e1 e2 e3
                    subst e1
                    have HB3 := Lib.hid e3
                    have HCA := Lib.hid hcall
                    clear hR e3 hcall hl3
                    go_wp2_with fail
                    refine HCA.out.mono ?_
                    clear HCA
                    rintro e w3 ⟨⟨OB, ob, rfl, _⟩, hP3, hF3⟩
                    simp only at hP3 ⊢
                    obtain ⟨sk, sf, sT, sgf, sgt, sins, SA, sn, sc, sm, hsv⟩ : ∃ k f t gf gt ins SA sn sc m, stepV yo OB ob = .agg #[.int .i64 k, .int .i64 f, .int .i64 t, .int .i64 gf, .int .i64 gt, .int .i64 ins, .slice SA sn sc, .int .i64 m] := by cases yo with | none => exact ⟨0, 0, 0, 0, 0, 0, none, 0, 0, 0, rfl⟩ | some y => exact ⟨_, _, _, _, _, _, _, _, _, _, rfl⟩
                    rw [hsv]
                    clear hsv
                    go_upto_region 24 with (fail)
                    obtain ⟨W3, hW3⟩ : ∃ W, w3.alloc (.cells #[.int .i64 sk, .int .i64 sf, .int .i64 sT, .int .i64 sgf, .int .i64 sgt, .int .i64 sins, .slice SA sn sc, .int .i64 sm] 32) = W := ⟨_, rfl⟩
                    have HF33 := Lib.hid (show Fr Nob w3 W3 by rw [← hW3]; exact (Fr.refl _ _).alloc _)
                    rw [hW3]
                    clear hW3
                    have HF3 := Lib.hid (show Fr (One q) wr W3 from hF3.none HF33.out)
                    have HP3 := Lib.hid (hP3.fr0 HF33.out)
                    have HDr := Lib.hid (HDk.out.fr (HFr.out.same HF3.out) (fun j _ e => by have e' : j = q := e; rw [e']; exact HNq.out) (fun j e e2 => by have e' : j = q := e2; rw [e'] at e; exact HVQ.out e))
                    clear hP3 hF3 HF33
                    obtain ⟨hkd, hdl⟩ := docs_at (D := st.l :: D) (d := d) (X := E) (by have h := HMr.out; simpa using h)
                    have HJ := Lib.hid hjn
                    obtain ⟨adn, vc', hva, hbd, hcd, hrd⟩ := HDr.out.get hkd
                    injection hva with hva hva2 hva3
                    subst hva hva3
                    simp only [hjn] at hdl hcd hrd
                    obtain ⟨⟨DA, dc, dl⟩, hdd⟩ : ∃ d, ds[jn]'(by rw [← hjn]; exact hkd) = d := ⟨_, rfl⟩
                    rw [hdd] at hdl hcd hrd
                    simp only [DocA.v] at hdl hcd hrd
                    rw [hdl, ← e2] at hcd hrd
                    obtain ⟨tn, htn⟩ : ∃ n, st'.l.length = n := ⟨_, rfl⟩
                    have HTN := Lib.hid htn
                    have HTS := Lib.hid (show st'.l.length ≤ 2048 from HB3.out.lens.2.2)
                    rw [htn] at hcd
                    have HDR := Lib.hid (fun (W : World) (h : Fr Nob W3 W) => hrd.fr h (fun _ _ h => h.elim))
                    have KS := Lib.hid (show ∀ W : World, Fr Nob W3 W → W.cell? (adn.add jn) = some (.slice DA tn dc) from fun W h => (h.cell (by rw [add_block]; exact hbd) (fun h => h)).trans hcd)
                    have HDC := Lib.hid (fun (W : World) (h : Fr Nob W3 W) => hDoc_any N q p rs G st' W (HP3.out.fr0 h) (by have := HTS.out; omega))
                    have hjv : (jn : Int) < (dn : Int) + 1 := by have := hkd; rw [hjn, HMD.out] at this; omega
                    have hj0 : (0 : Int) ≤ (jn : Int) := by omega
                    clear hkd hdl hcd hrd htn hdd hbd hva2
                    have HM3 := Lib.hid (show ds.map DocA.l = (st.l :: D).reverse ++ st'.l :: E by rw [e2]; have h := HMr.out; simpa using h)
                    have HJN := Lib.hid (show jn + 1 = (st.l :: D).length + 1 by rw [List.length_cons]; rw [List.length_cons] at hjn; omega)
                    clear hjn e2
                    refine wp_region_held_drew (S := fun W' : World => W'.cell? (adn.add jn) = some (.slice DA tn dc)) (by kernel_rfl) (KS.out _ (Fr.refl _ _).drew) (fun _ => ?_)
                    have HFD := Lib.hid ((Fr.refl Nob W3).drew)
                    generalize W3.drew = wd at HFD ⊢
                    have HSD := Lib.hid (KS.out wd HFD.out)
                    refine take_by (i := 0) (v := .int .i64 0) rfl HSD.out ?_
                    refine take_by (i := 1) (v := .bool false) rfl HSD.out ?_
                    refine take_by (i := 2) (v := .bool false) rfl HSD.out ?_
                    try simp only [List.getElem_toArray, List.getElem_cons_succ, List.getElem_cons_zero, Act.put, List.setIfInBounds_toArray, List.set_cons_zero, List.set_cons_succ]
                    refine take_by (i := 3) (v := .pointer (some ⟨q, 0, none⟩)) rfl HSD.out ?_
                    try simp only [List.getElem_toArray, List.getElem_cons_succ, List.getElem_cons_zero, Act.put, List.setIfInBounds_toArray, List.set_cons_zero, List.set_cons_succ]
                    refine take_by (i := 5) (v := .slice (some adn) (dn + 1) vc) rfl HSD.out ?_
                    try simp only [List.getElem_toArray, List.getElem_cons_succ, List.getElem_cons_zero, Act.put, List.setIfInBounds_toArray, List.set_cons_zero, List.set_cons_succ]
                    refine take_by (i := 6) (v := .int .i64 (jn : Int)) rfl HSD.out ?_
                    try simp only [List.getElem_toArray, List.getElem_cons_succ, List.getElem_cons_zero, Act.put, List.setIfInBounds_toArray, List.set_cons_zero, List.set_cons_succ]
                    refine take_by (i := 7) (v := .pointer (some (adn.add jn))) rfl HSD.out ?_
                    try simp only [List.getElem_toArray, List.getElem_cons_succ, List.getElem_cons_zero, Act.put, List.setIfInBounds_toArray, List.set_cons_zero, List.set_cons_succ]
                    refine take_by (i := 8) (v := .slice DA tn dc) rfl HSD.out ?_
                    try simp only [List.getElem_toArray, List.getElem_cons_succ, List.getElem_cons_zero, Act.put, List.setIfInBounds_toArray, List.set_cons_zero, List.set_cons_succ]
                    refine wpAnyH_ready (rs := [4]) (by kernel_rfl) (by simp) (AllReadyH.cons (o := _) rfl (fun K hK => ?_) AllReadyH.nil)
                    go_simp
                    refine (HDC.out wd HFD.out).mono ?_
                    rintro e w4 ⟨NA, nc, rfl, hnc, hnr, hF4⟩
                    rw [HTN.out]
                    have HNR := Lib.hid hnr
                    have HF4 := Lib.hid (HFD.out.same hF4)
                    clear hnc hnr hF4
                    go_wp2_with fail
                    refine hK.out _ _ (KS.out _ HF4.out) (fun _ => ?_)
                    clear hK K
                    try simp only [List.getElem_toArray, List.getElem_cons_succ, List.getElem_cons_zero, Act.put, List.setIfInBounds_toArray, List.set_cons_zero, List.set_cons_succ]
                    try simp only [List.getElem_toArray, List.getElem_cons_succ, List.getElem_cons_zero, Act.put, List.setIfInBounds_toArray, List.set_cons_zero, List.set_cons_succ]
                    refine wpAnyH_ready (rs := [9]) (by kernel_rfl) (by simp) (AllReadyH.cons (o := _) rfl (fun K hK => ?_) AllReadyH.nil)
                    go_simp
                    have hal := alike24_any (fun k => k < wd.heap.size) N st'.l st'.l NA DA nc dc w4 (by have := HTS.out; omega) (by have := HTS.out; omega) HNR.out (HDR.out w4 HF4.out)
                    rw [HTN.out, decide_eq_true (rfl : st'.l = st'.l)] at hal
                    refine hal.mono ?_
                    clear hal
                    rintro e w5 ⟨rfl, hF5⟩
                    have HF5 := Lib.hid (HF4.out.same hF5)
                    clear hF5
                    go_wp2_with fail
                    refine hK.out _ _ (KS.out _ HF5.out) (fun _ => ?_)
                    clear hK K
                    try simp only [List.getElem_toArray, List.getElem_cons_succ, List.getElem_cons_zero, Act.put, List.setIfInBounds_toArray, List.set_cons_zero, List.set_cons_succ]
                    try simp only [List.getElem_toArray, List.getElem_cons_succ, List.getElem_cons_zero, Act.put, List.setIfInBounds_toArray, List.set_cons_zero, List.set_cons_succ]
                    refine take_by (i := 10) (v := .bool false) rfl (KS.out _ HF5.out) ?_
                    refine take_by (i := 11) (v := .bool false) rfl (KS.out _ HF5.out) ?_
                    try simp only [List.getElem_toArray, List.getElem_cons_succ, List.getElem_cons_zero, Act.put, List.setIfInBounds_toArray, List.set_cons_zero, List.set_cons_succ]
                    refine wpAnyH_done (by kernel_rfl) ?_ _
                    go_wp2_with fail
                    go_roundg (E.length)
                    case measure => simp
                    case rel => exact ⟨st.l :: D, E, _, jn + 1, rfl, by first | rfl | go_num, HJN.out, HP3.out.fr0 HF5.out, HB3.out, HM3.out, (HFr.out.same (HF3.out.same HF5.out.any))⟩
                  | nil =>
                    have hgt : ¬ ((jn : Int) ≤ (dn : Int)) := by have h := HLE.out; simp at h; omega
                    have hun : st.U.length = dn := by have h1 := HBr.out.lens.1; have h := HLE.out; simp at h; omega
                    have HUN := Lib.hid hun
                    have HRN := Lib.hid (show st.R.length = 0 from HBr.out.lens.2.1)
                    have HLO := Lib.hid HBr.out.lost
                    clear hun hjn'
                    go_wp2_with fail
                    refine (hLost_any N q p rs G st wr HPr.out).mono ?_
                    rintro e w5 ⟨rfl, rfl⟩
                    rw [HLO.out]
                    go_wp2_with fail
                    refine (hUndos_any N q p rs G st w5 HPr.out).mono ?_
                    rintro e w6 ⟨rfl, rfl⟩
                    rw [HUN.out]
                    go_wp2_with fail
                    refine (hRedos_any N q p rs G st w6 HPr.out).mono ?_
                    rintro e w7 ⟨rfl, rfl⟩
                    rw [HRN.out]
                    have hfin : Fr Nob w w7 := HFk.out.trans HFr.out (fun j hj e => by have e' : j = q := e; have := HQ.out; omega)
                    have HFI := Lib.hid hfin
                    clear hfin
                    go_wp2_with fail
                    refine (awake24_any w7 (HHG.out.fr HFI.out (fun h => h))).mono ?_
                    rintro e w8 ⟨rfl, hF8⟩
                    go_wp2_with fail
                    go_ret
                    exact ⟨rfl, HFI.out.same hF8⟩
    · have h150' : (bn : Int) > 150 := by omega
      go_wp2_with fail
      refine (awake24_any w1 (HHG.out.fr HF1.out (fun h => h))).mono ?_
      rintro e w8 ⟨rfl, hF8⟩
      go_wp2_with fail
      go_ret
      exact ⟨rfl, HF1.out.same hF8⟩
  · have h2 := h1 hz
    subst h2
    have hz' : (E == 0) = false := by simpa using hz
    clear h0 h1
    go_wp2_with fail
    refine (awake24_any w1 (HHG.out.fr HF1.out (fun h => h))).mono ?_
    rintro e w8 ⟨rfl, hF8⟩
    go_wp2_with fail
    go_ret
    exact ⟨rfl, HF1.out.same hF8⟩
end Go.Proofs.YtldcffonfidbcaaGreatDoor
