/- A part of the proof for chapter 10: ValidW; no conditions. -/
import Derived.Test.YtldcffonfidbcaaGreatDoorV35
/- HistoryValid: always valid: the walk. -/
namespace Go.Proofs.YtldcffonfidbcaaGreatDoor
open Go.RowKit
set_option maxRecDepth 100000 in
set_option maxHeartbeats 4000000 in
theorem valid_walk (l : List Tok) (L M : List StepA) (BA OA VA : Option Addr) (bc oc vc : Nat) (w : World) (hG : HG w) (hl : Rd Nob w BA (tokC l)) (hc : l.length ≤ bc) (ho : StepsM Nob w OA L) (hv : StepsM Nob w VA M) (hn : l.length ≤ 9223372036854775807 ∧ L.length ≤ 9223372036854775807 ∧ M.length ≤ 9223372036854775807) :
    Calls Tryz.prog 5 #[.slice BA l.length bc, .slice OA L.length oc, .slice VA M.length vc] w fun e w' => e = .returned (.bool true) ∧ Fr Nob w w' := by
  have HHG := Lib.hid hG
  have HL := Lib.hid hl
  have HC := Lib.hid hc
  have HO := Lib.hid ho
  have HV := Lib.hid hv
  have HN := Lib.hid hn
  clear hG hl hc ho hv hn
  obtain ⟨bn, hbn⟩ : ∃ n, l.length = n := ⟨_, rfl⟩
  obtain ⟨on, hon⟩ : ∃ n, L.length = n := ⟨_, rfl⟩
  obtain ⟨vn, hvn⟩ : ∃ n, M.length = n := ⟨_, rfl⟩
  have HBN := Lib.hid hbn
  have HON := Lib.hid hon
  have HVN := Lib.hid hvn
  rw [hbn, hon, hvn]
  clear hbn hon hvn
  go_enter Tryz.func5, Tryz.ntmps5
  go_wp2_with fail
  have hnew := hNew_any BA l bc w HHG.out HL.out HC.out HN.out.1
  rw [HBN.out] at hnew
  refine hnew.mono ?_
  clear hnew
  rintro e w1 ⟨⟨rs, hC, h0, h1⟩, hF1⟩
  have HSO := Lib.hid (house_schok hC)
  have HCC := Lib.hid hC
  have HF1 := Lib.hid hF1
  obtain ⟨G, hGG⟩ : ∃ G, groupsF houseL houseG = G := ⟨_, rfl⟩
  have HGG := Lib.hid hGG
  rw [hGG] at HSO h0 h1
  clear hC hF1 hGG
  obtain ⟨E, hE⟩ : ∃ E, (checkF rs G l).2 = E := ⟨_, rfl⟩
  have HE := Lib.hid hE
  rw [hE] at h0 h1
  clear hE
  by_cases hz : E = 0
  · obtain ⟨q, p, rfl, hq, hP⟩ := h0 hz
    subst hz
    have HP1 := Lib.hid hP
    have HQ := Lib.hid hq
    clear h0 h1 hP
    by_cases h150 : bn ≤ 150
    · have h150' : ¬ ((bn : Int) > 150) := by omega
      go_wp2_with fail
      go_loopg [9] (6) (fun n s9 wr => ∃ (k : Nat) (st : HS), n = 6 - k ∧ k ≤ 6 ∧ s9 = .int .i64 k ∧ Hid (HP (One q) wr q p rs G st) ∧ Hid (ValI rs G k st) ∧ Hid (st.R = []) ∧ Hid (k ≤ on) ∧ Hid (Fr Nob w wr))
      case atStart => exact ⟨0, newS l, rfl, by omega, rfl, HP1.out, val_new HE.out, rfl, Nat.zero_le _, HF1.out⟩
      case round =>
        obtain ⟨k, st, rfl, hk6, rfl, HPk, HVk, HRk, HKN, HFk⟩ := hrel
        obtain ⟨b, hb⟩ : ∃ b, decide (k < on ∧ k < 6) = b := ⟨_, rfl⟩
        have HB := Lib.hid hb
        clear hb
        go_upto_region 5 with (fail)
        go_cut [50] from 43 to 64 (fun s50 wx => s50 = .bool b ∧ wx = wr)
        case first =>
          go_wp2_with fail
          all_goals
            go_meet
            refine ⟨?_, rfl⟩
            rw [← HB.out]
            congr 1
            first
              | (rw [decide_eq_decide]; omega)
              | (symm; rw [decide_eq_false_iff_not]; omega)
              | (rw [eq_comm, decide_eq_false_iff_not]; omega)
        case rest =>
          obtain ⟨rfl, hw⟩ := hcut
          have hw := hw.symm
          subst hw
          cases b with
          | true =>
            obtain ⟨hlt, hk2⟩ := of_decide_eq_true HB.out
            have hlt' : k < L.length := by rw [HON.out]; exact hlt
            obtain ⟨ad, rfl, hnb, hbl, c0, cj⟩ := Rd.elt StepA.cells_len (by omega) (HO.out.fr0 HFk.out).row hlt'
            have hxr := ((HO.out.bound).fr HFk.out (fun _ _ h => h.elim)).each _ (List.getElem_mem hlt')
            have hxc := HO.out.cap _ (List.getElem_mem hlt')
            obtain ⟨x, hx⟩ : ∃ x, L[k] = x := ⟨_, rfl⟩
            rw [hx] at c0 cj hxr hxc
            clear hx hlt'
            have c1 := cj 0 (by omega)
            have c2 := cj 1 (by omega)
            have c3 := cj 2 (by omega)
            have c4 := cj 3 (by omega)
            have c5 := cj 4 (by omega)
            have c6 := cj 5 (by omega)
            have c7 := cj 6 (by omega)
            obtain ⟨sn, hsn⟩ : ∃ n, x.s.l.length = n := ⟨_, rfl⟩
            simp only [StepA.cells, StepM.cells, List.getElem?_cons_zero, List.getElem?_cons_succ, Nat.reduceAdd, hsn] at c0 c1 c2 c3 c4 c5 c6 c7
            have hki : (k : Int) < (on : Int) := by omega
            have hbl0 : (ad.add (k * 8)).block < wr.heap.size := by rw [add_block]; exact hbl
            have HXR := Lib.hid (show Rd (One q) wr x.B (tokC x.s.l) from hxr.mono (fun j hj => .inr (by have e' : j = q := hj; have := HQ.out; omega)))
            have HXC := Lib.hid hxc
            clear cj hnb hxr hxc
            have hlo := hLocal_any (One q) q p rs G HSO.out st x.s x.B x.b wr HPk.out HXR.out HXC.out (by have := HVk.out.short; omega) (by have := HVk.out.cnt; omega) (fun j hj => by have e' : j = q := hj; rw [e']; exact HPk.out.lt)
            obtain ⟨hv1, hv2, hv3, hv4⟩ := val_local (s := x.s) HVk.out
            obtain ⟨R, hR⟩ : ∃ R, localF rs G st x.s = R := ⟨_, rfl⟩
            simp only [StepM.cells, hsn, hR] at hlo
            rw [hR] at hv1 hv2 hv3 hv4
            obtain ⟨st', r⟩ := R
            simp only at hlo hv1 hv2 hv3 hv4
            have HLO := Lib.hid hlo
            have HV1 := Lib.hid hv1
            have HV4 := Lib.hid (hv4 HRk.out)
            clear hsn hR hlo hv1 hv2 hv3 hv4
            go_wp2_with fail
            refine HLO.out.mono ?_
            clear HLO c0 c1 c2 c3 c4 c5 c6 c7 hbl0
            rintro e w3 ⟨rfl, hP3, hF3⟩
            have HP3 := Lib.hid hP3
            have HFW3 := Lib.hid (show Fr Nob w w3 from HFk.out.trans hF3 (fun j hj e => by have e' : j = q := e; have h1 := HQ.out; omega))
            clear hP3 hF3
            by_cases hr : r = 0
            · subst hr
              go_wp2_with fail
              refine (hRedos_any (One q) q p rs G st' w3 HP3.out).mono ?_
              rintro e w4 ⟨rfl, rfl⟩
              rw [HV4.out, List.length_nil]
              go_wp2_with fail
              go_roundg (6 - (k + 1))
              case measure => omega
              case rel => exact ⟨k + 1, st', rfl, by omega, by first | rfl | go_num, HP3.out, HV1.out, HV4.out, hlt, HFW3.out⟩
            · have hr' : (r == 0) = false := by simpa using hr
              go_wp2_with fail
              go_roundg (6 - (k + 1))
              case measure => omega
              case rel => exact ⟨k + 1, st', rfl, by omega, by first | rfl | go_num, HP3.out, HV1.out, HV4.out, hlt, HFW3.out⟩
          | false =>
            have HV6 := Lib.hid (HVk.out.le hk6)
            have HKO := Lib.hid (HVk.out.le HKN.out)
            clear HB
            go_wp2_with fail
            go_loopg [10] (6) (fun n s10 wx => ∃ (k : Nat) (st : HS), n = 6 - k ∧ k ≤ 6 ∧ s10 = .int .i64 k ∧ Hid (HP (One q) wx q p rs G st) ∧ Hid (ValI rs G 6 st) ∧ Hid (ValI rs G on st) ∧ Hid (Fr Nob w wx))
            case atStart => exact ⟨0, st, rfl, by omega, rfl, HPk.out, HV6.out, HKO.out, HFk.out⟩
            case round =>
              clear HPk HVk HRk HKN HFk HV6 HKO hk6
              obtain ⟨k, st, rfl, hk6, rfl, HPk, HVk, HVO, HFk⟩ := hrel
              obtain ⟨b, hb⟩ : ∃ b, decide (k < vn ∧ k < 6) = b := ⟨_, rfl⟩
              have HB := Lib.hid hb
              clear hb
              go_upto_region 10 with (fail)
              go_cut [72] from 65 to 80 (fun s72 wx => s72 = .bool b ∧ wx = wr)
              case first =>
                go_wp2_with fail
                all_goals
                  go_meet
                  refine ⟨?_, rfl⟩
                  rw [← HB.out]
                  congr 1
                  first
                    | (rw [decide_eq_decide]; omega)
                    | (symm; rw [decide_eq_false_iff_not]; omega)
                    | (rw [eq_comm, decide_eq_false_iff_not]; omega)
              case rest =>
                obtain ⟨rfl, hw⟩ := hcut
                have hw := hw.symm
                subst hw
                cases b with
                | true =>
                  obtain ⟨hlt, hk2⟩ := of_decide_eq_true HB.out
                  have hlt' : k < M.length := by rw [HVN.out]; exact hlt
                  obtain ⟨ad, rfl, hnb, hbl, c0, cj⟩ := Rd.elt StepA.cells_len (by omega) (HV.out.fr0 HFk.out).row hlt'
                  have hxr := ((HV.out.bound).fr HFk.out (fun _ _ h => h.elim)).each _ (List.getElem_mem hlt')
                  have hxc := HV.out.cap _ (List.getElem_mem hlt')
                  obtain ⟨x, hx⟩ : ∃ x, M[k] = x := ⟨_, rfl⟩
                  rw [hx] at c0 cj hxr hxc
                  clear hx hlt'
                  have c1 := cj 0 (by omega)
                  have c2 := cj 1 (by omega)
                  have c3 := cj 2 (by omega)
                  have c4 := cj 3 (by omega)
                  have c5 := cj 4 (by omega)
                  have c6 := cj 5 (by omega)
                  have c7 := cj 6 (by omega)
                  obtain ⟨sn, hsn⟩ : ∃ n, x.s.l.length = n := ⟨_, rfl⟩
                  simp only [StepA.cells, StepM.cells, List.getElem?_cons_zero, List.getElem?_cons_succ, Nat.reduceAdd, hsn] at c0 c1 c2 c3 c4 c5 c6 c7
                  have hki : (k : Int) < (vn : Int) := by omega
                  have hbl0 : (ad.add (k * 8)).block < wr.heap.size := by rw [add_block]; exact hbl
                  have HXR := Lib.hid (show Rd (One q) wr x.B (tokC x.s.l) from hxr.mono (fun j hj => .inr (by have e' : j = q := hj; have := HQ.out; omega)))
                  have HXC := Lib.hid hxc
                  clear cj hnb hxr hxc
                  have hlo := hRemote_any (One q) q p rs G HSO.out st x.s x.B x.b wr HPk.out HXR.out HXC.out (by have := HVk.out.short; omega) (by have := HVk.out.cnt; omega) (by have := HVk.out.cnt; omega) (by have := HVk.out.cnt; omega) (fun j hj => by have e' : j = q := hj; rw [e']; exact HPk.out.lt)
                  have hv1 := val_remote (s := x.s) HVk.out
                  have hv2 := val_remote (s := x.s) HVO.out
                  obtain ⟨R, hR⟩ : ∃ R, remoteF rs G st x.s = R := ⟨_, rfl⟩
                  simp only [StepM.cells, hsn, hR] at hlo
                  rw [hR] at hv1 hv2
                  obtain ⟨st', r⟩ := R
                  simp only at hlo hv1 hv2
                  have HLO := Lib.hid hlo
                  have HV1 := Lib.hid hv1
                  have HV2 := Lib.hid hv2
                  clear hsn hR hlo hv1 hv2
                  go_wp2_with fail
                  refine HLO.out.mono ?_
                  clear HLO c0 c1 c2 c3 c4 c5 c6 c7 hbl0
                  rintro e w3 ⟨rfl, hP3, hF3⟩
                  have HP3 := Lib.hid hP3
                  have HFW3 := Lib.hid (show Fr Nob w w3 from HFk.out.trans hF3 (fun j hj e => by have e' : j = q := e; have h1 := HQ.out; omega))
                  clear hP3 hF3
                  go_wp2_with fail
                  go_roundg (6 - (k + 1))
                  case measure => omega
                  case rel => exact ⟨k + 1, st', rfl, by omega, by first | rfl | go_num, HP3.out, HV1.out, HV2.out, HFW3.out⟩
                | false =>
                  clear HB
                  go_wp2_with fail
                  refine (house_any wr (HHG.out.fr HFk.out (fun h => h))).mono ?_
                  rintro e w3 ⟨⟨p2, rs2, rfl, hS, hC2⟩, hF3⟩
                  have HS2 := Lib.hid (hS.bound.mono (M' := One q) (fun j hj => .inl (by have e' : j = q := hj; rw [e']; exact HPk.out.lt)))
                  have HSO2 := Lib.hid (house_schok hC2)
                  have HCK := Lib.hid (show ∀ l, checkF rs2 G l = checkF rs G l from fun l => by rw [checkF_house hC2, checkF_house HCC.out])
                  rw [HGG.out] at HS2 HSO2
                  have HFW3 := Lib.hid (HFk.out.same hF3)
                  have HP3 := Lib.hid (HPk.out.fr0 hF3)
                  clear hS hC2 hF3
                  go_wp2_with fail
                  go_loopg [12] (8) (fun n s12 wx => ∃ (k : Nat) (st : HS), n = 8 - k ∧ k ≤ 8 ∧ s12 = .int .i64 k ∧ Hid (HP (One q) wx q p rs G st) ∧ Hid (ValI rs G 6 st) ∧ Hid (ValI rs G on st) ∧ Hid (Sch (One q) wx p2 rs2 G) ∧ Hid (Fr Nob w wx))
                  case atStart => exact ⟨0, st, rfl, by omega, rfl, HP3.out, HVk.out, HVO.out, HS2.out, HFW3.out⟩
                  case round =>
                    clear HPk HVk HVO HFk hk6 HP3 HFW3 HS2
                    obtain ⟨k, st, rfl, hk8, rfl, HPk, HVk, HVO, HSk, HFk⟩ := hrel
                    by_cases hk : k < 8
                    · have hki : (k : Int) < 8 := by omega
                      obtain ⟨un, hun⟩ : ∃ n, st.U.length = n := ⟨_, rfl⟩
                      obtain ⟨rn, hrn⟩ : ∃ n, st.R.length = n := ⟨_, rfl⟩
                      have HUN := Lib.hid hun
                      have HRN := Lib.hid hrn
                      have hu6 : un ≤ 6 := by have := HVk.out.cnt; omega
                      have hr6 : rn ≤ 6 := by have := HVk.out.cnt; omega
                      clear hun hrn
                      go_wp2_with fail
                      refine (hUndos_any (One q) q p rs G st wr HPk.out).mono ?_
                      rintro e w4 ⟨rfl, rfl⟩
                      rw [HUN.out]
                      go_wp2_with fail
                      refine (hRedos_any (One q) q p rs G st w4 HPk.out).mono ?_
                      rintro e w5 ⟨rfl, rfl⟩
                      rw [HRN.out]
                      have hcall := hUndo_any (One q) q p rs G HSO.out st w5 HPk.out (by have := HVk.out.short; omega) (by rw [HUN.out]; omega) (by rw [HRN.out]; omega) (fun y hy => by have := HVk.out.shU y hy; omega) (by have := HVk.out.cnt; omega) (fun j hj => by have e' : j = q := hj; rw [e']; exact HPk.out.lt)
                      obtain ⟨hv1, hcs⟩ := val_undo HVk.out
                      have hv2 := (val_undo HVO.out).1
                      obtain ⟨R, hR⟩ : ∃ R, undoF rs G st = R := ⟨_, rfl⟩
                      rw [hR] at hv1 hv2 hcs hcall
                      obtain ⟨st', yo, er⟩ := R
                      simp only at hv1 hv2 hcs
                      rw [HUN.out, HRN.out] at hcs
                      have HV1 := Lib.hid hv1
                      have HV2 := Lib.hid hv2
                      have HCS := Lib.hid hcs
                      have HCA := Lib.hid hcall
                      clear hR hv1 hv2 hcs hcall
                      go_wp2_with fail
                      refine HCA.out.mono ?_
                      clear HCA
                      rintro e w6 ⟨⟨OB, ob, rfl, _⟩, hP6, hF6⟩
                      simp only at hP6 ⊢
                      obtain ⟨sk, sf, sT, sgf, sgt, sins, SA, sn, sc, sm, hsv⟩ : ∃ k f t gf gt ins SA sn sc m, stepV yo OB ob = .agg #[.int .i64 k, .int .i64 f, .int .i64 t, .int .i64 gf, .int .i64 gt, .int .i64 ins, .slice SA sn sc, .int .i64 m] := by cases yo with | none => exact ⟨0, 0, 0, 0, 0, 0, none, 0, 0, 0, rfl⟩ | some y => exact ⟨_, _, _, _, _, _, _, _, _, _, rfl⟩
                      rw [hsv]
                      clear hsv
                      go_upto_region 20 with (fail)
                      obtain ⟨w7, hw7⟩ : ∃ W, w6.alloc (.cells #[.int .i64 sk, .int .i64 sf, .int .i64 sT, .int .i64 sgf, .int .i64 sgt, .int .i64 sins, .slice SA sn sc, .int .i64 sm] 32) = W := ⟨_, rfl⟩
                      have HF67 := Lib.hid (show Fr Nob w6 w7 by rw [← hw7]; exact (Fr.refl _ _).alloc _)
                      have HP7 := Lib.hid (hP6.fr0 HF67.out)
                      have HF57 := Lib.hid (show Fr (One q) w5 w7 from hF6.none HF67.out)
                      have HFW7 := Lib.hid (show Fr Nob w w7 from HFk.out.trans HF57.out (fun j hj e => by have e' : j = q := e; have h1 := HQ.out; omega))
                      have HS7 := Lib.hid (HSk.out.fr HF57.out (fun _ _ h => h))
                      rw [hw7]
                      clear hw7 hP6 hF6
                      go_wp2_with fail
                      refine (hDoc_any (One q) q p rs G st' w7 HP7.out (by have := HV1.out.short; omega)).mono ?_
                      rintro e w8 ⟨NA, nc, rfl, hnc, hnr, hF8⟩
                      have HF8 := Lib.hid hF8
                      have hck := schcheck_any (One q) Nob p2 rs2 G HSO2.out (.slice NA st'.l.length nc) st'.l w8 (HS7.out.fr0 hF8) ⟨NA, nc, rfl, hnc, hnr.mono (fun _ h => h.elim)⟩ (by have := HV1.out.short; omega)
                      rw [HCK.out, HV1.out.ok] at hck
                      obtain ⟨ci, hci⟩ : ∃ n, (checkF rs G st'.l).1 = n := ⟨_, rfl⟩
                      obtain ⟨tn, htn⟩ : ∃ n, st'.l.length = n := ⟨_, rfl⟩
                      rw [hci, htn] at hck
                      rw [htn]
                      have HCH := Lib.hid hck
                      clear hF8 hck hci htn hnc hnr
                      go_wp2_with fail
                      refine HCH.out.mono ?_
                      clear HCH
                      rintro e w9 ⟨rfl, hF9⟩
                      have HF9 := Lib.hid (HF8.out.same hF9)
                      have HP9 := Lib.hid (HP7.out.fr0 HF9.out)
                      have HS9 := Lib.hid (HS7.out.fr0 HF9.out)
                      have HFW9 := Lib.hid (HFW7.out.same HF9.out)
                      clear hF9
                      obtain ⟨un2, hun2⟩ : ∃ n, st'.U.length = n := ⟨_, rfl⟩
                      obtain ⟨rn2, hrn2⟩ : ∃ n, st'.R.length = n := ⟨_, rfl⟩
                      have HUN2 := Lib.hid hun2
                      have HRN2 := Lib.hid hrn2
                      have hcs := HCS.out
                      rw [hun2, hrn2] at hcs
                      clear hun2 hrn2
                      rcases hcs with ⟨e1, e2, e3⟩ | ⟨e1, e2, e3⟩ | ⟨e1, e2, e3⟩
                      · subst e1 e2 e3
                        go_wp2_with fail
                        refine (hRedos_any (One q) q p rs G st' w9 HP9.out).mono ?_
                        rintro e w10 ⟨rfl, rfl⟩
                        rw [HRN2.out]
                        go_wp2_with fail
                        go_roundg (8 - (k + 1))
                        case measure => omega
                        case rel => exact ⟨k + 1, st', rfl, by omega, by first | rfl | go_num, HP9.out, HV1.out, HV2.out, HS9.out, HFW9.out⟩
                      · subst e1 e2 e3
                        go_wp2_with fail
                        refine (hUndos_any (One q) q p rs G st' w9 HP9.out).mono ?_
                        rintro e w10 ⟨rfl, rfl⟩
                        rw [HUN2.out]
                        go_wp2_with fail
                        refine (hRedos_any (One q) q p rs G st' w10 HP9.out).mono ?_
                        rintro e w11 ⟨rfl, rfl⟩
                        rw [HRN2.out]
                        go_wp2_with fail
                        go_roundg (8 - (k + 1))
                        case measure => omega
                        case rel => exact ⟨k + 1, st', rfl, by omega, by first | rfl | go_num, HP9.out, HV1.out, HV2.out, HS9.out, HFW9.out⟩
                      · subst e1 e2 e3
                        go_wp2_with fail
                        refine (hRedos_any (One q) q p rs G st' w9 HP9.out).mono ?_
                        rintro e w10 ⟨rfl, rfl⟩
                        rw [HRN2.out]
                        go_wp2_with fail
                        go_roundg (8 - (k + 1))
                        case measure => omega
                        case rel => exact ⟨k + 1, st', rfl, by omega, by first | rfl | go_num, HP9.out, HV1.out, HV2.out, HS9.out, HFW9.out⟩
                    · have hki : ¬ ((k : Int) < 8) := by omega
                      obtain ⟨un, hun⟩ : ∃ n, st.U.length = n := ⟨_, rfl⟩
                      obtain ⟨rn, hrn⟩ : ∃ n, st.R.length = n := ⟨_, rfl⟩
                      obtain ⟨ls, hls⟩ : ∃ n, st.lost = n := ⟨_, rfl⟩
                      have HUN := Lib.hid hun
                      have HRN := Lib.hid hrn
                      have HLS := Lib.hid hls
                      have hu6 : un + rn + ls ≤ 6 := by have := HVk.out.cnt; omega
                      have huo : (un : Int) + (rn : Int) + (ls : Int) ≤ (on : Int) := by have := HVO.out.cnt; omega
                      clear hun hrn hls
                      go_wp2_with fail
                      refine (hUndos_any (One q) q p rs G st wr HPk.out).mono ?_
                      rintro e w4 ⟨rfl, rfl⟩
                      rw [HUN.out]
                      go_wp2_with fail
                      refine (hRedos_any (One q) q p rs G st w4 HPk.out).mono ?_
                      rintro e w5 ⟨rfl, rfl⟩
                      rw [HRN.out]
                      go_wp2_with fail
                      refine (hLost_any (One q) q p rs G st w5 HPk.out).mono ?_
                      rintro e w6 ⟨rfl, rfl⟩
                      rw [HLS.out]
                      go_wp2_with fail
                      refine (awake24_any w6 (HHG.out.fr HFk.out (fun h => h))).mono ?_
                      rintro e w8 ⟨rfl, hF8⟩
                      go_wp2_with fail
                      go_ret
                      exact ⟨rfl, HFk.out.same hF8⟩
    · have h150' : (bn : Int) > 150 := by omega
      go_wp2_with fail
      refine (awake24_any w1 (HHG.out.fr HF1.out (fun h => h))).mono ?_
      rintro e w8 ⟨rfl, hF8⟩
      go_wp2_with fail
      go_ret
      exact ⟨rfl, HF1.out.same hF8⟩
  · have h2 := h1 hz
    subst h2
    have hz' : (E == 0) = false := by simpa using hz
    clear h0 h1
    go_wp2_with fail
    refine (awake24_any w1 (HHG.out.fr HF1.out (fun h => h))).mono ?_
    rintro e w8 ⟨rfl, hF8⟩
    go_wp2_with fail
    go_ret
    exact ⟨rfl, HF1.out.same hF8⟩
end Go.Proofs.YtldcffonfidbcaaGreatDoor
