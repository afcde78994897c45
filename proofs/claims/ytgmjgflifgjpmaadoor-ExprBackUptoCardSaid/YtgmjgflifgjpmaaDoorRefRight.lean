/- The reference's 'right': whether a tree may be. -/
import Derived.Test.YtgmjgflifgjpmaaDoorRefSize
import Derived.Test.YtgmjgflifgjpmaaDoorRefLetters
import Derived.Test.YtgmjgflifgjpmaaDoorExprRight
namespace Go.Proofs.YtgmjgflifgjpmaaDoor
open Go.RowKit
/-- What the reference asks of a tree behind its parts; ks are the parts' kinds. -/
def endB (k : Int) (n : ByteArray) (ks : List Int) : Bool :=
  if k = 0 then decide (n.size = 0) && decide (ks.length = 0)
  else if k = 1 then nameB n.data.toList && decide (ks.length = 0)
  else if k = 4 ∨ k = 5 ∨ k = 6 then decide (n.size = 0) && decide (ks.length = 1)
  else if k = 2 ∨ k = 3 then ks.all (fun j => j != k) && decide (n.size = 0) && decide (2 ≤ ks.length)
  else false
mutual
def rightR : Tree → Bool
  | .node k n l => rightRL l && endB k n (l.map Tree.k)
def rightRL : List Tree → Bool
  | [] => true
  | x :: xs => x.k != 0 && rightR x && rightRL xs
end
theorem rightR_eq (x : Tree) : rightR x = (rightRL x.l && endB x.k x.name (x.l.map Tree.k)) := by cases x; rw [rightR]; rfl
theorem rightRL_snoc (l : List Tree) (x : Tree) : rightRL (l ++ [x]) = (rightRL l && (x.k != 0 && rightR x)) := by
  induction l with
  | nil => simp [rightRL]
  | cons y l ih => simp only [List.cons_append, rightRL, ih, Bool.and_assoc]
theorem rightRL_take (l : List Tree) (i : Nat) (hi : i < l.length) : rightRL (l.take (i + 1)) = (rightRL (l.take i) && (l[i].k != 0 && rightR l[i])) := by
  rw [List.take_succ_eq_append_getElem hi, rightRL_snoc]
theorem rightRL_of_mem (l : List Tree) (i : Nat) (hi : i < l.length) (h : (l[i].k != 0 && rightR l[i]) = false) : rightRL l = false := by
  induction l generalizing i with
  | nil => simp at hi
  | cons y l ih => cases i with
    | zero => simp only [List.getElem_cons_zero] at h; rw [rightRL, h]; rfl
    | succ i => simp only [List.getElem_cons_succ] at h; simp [rightRL, ih i (by simpa using hi) h]
set_option maxRecDepth 100000 in
set_option maxHeartbeats 4000000 in
theorem refright_step (x : Tree) (cs : List Value) (w : World) (h : ERep Nob w x cs) (hn : x.count ≤ 4611686018427387904) (hb : x.bytes ≤ 4611686018427387904)
    (IH : ∀ (k : Nat) (hk : k < x.l.length) (cs : List Value) (w : World), ERep Nob w x.l[k] cs → Calls Tryd.prog 28 #[.agg cs.toArray] w fun e w' => e = .returned (.bool (rightR x.l[k])) ∧ Fr Nob w w') :
    Calls Tryd.prog 28 #[.agg cs.toArray] w fun e w' => e = .returned (.bool (rightR x)) ∧ Fr Nob w w' := by
  obtain ⟨A, c, css, rfl, hc, hR, hE⟩ := h.open_
  have HR := Lib.hid hR
  have HE := Lib.hid hE
  have HIH := Lib.hid IH
  clear hR hE h IH
  have hlen := len_le_countL x.l
  have hcx := count_eq x
  have hbx := bytes_eq x
  obtain ⟨kk, hkk⟩ : ∃ kk, kk = x.k := ⟨_, rfl⟩
  have HEQ := Lib.hid (rightR_eq x)
  rw [← hkk]
  rw [← hkk] at HEQ
  have HN := Lib.hid (And.intro hlen (And.intro hcx hbx))
  clear hkk hlen hcx hbx
  have hb1 := Blk.new w [.int .i64 kk, .string x.name, .slice A x.l.length c] 24
  have HB := Lib.hid hb1
  clear hb1
  go_enter Tryd.func28, Tryd.ntmps28
  go_wp2_with fail
  go_loopg [3] (x.l.length) (fun n i wr => ∃ k, n = x.l.length - k ∧ k ≤ x.l.length ∧ i = .int .i64 k ∧ Hid (rightRL (x.l.take k) = true) ∧ Hid (Fr Nob w wr) ∧ Hid (Blk wr w.heap.size [.int .i64 kk, .string x.name, .slice A x.l.length c] 24))
  case atStart => exact ⟨0, rfl, Nat.zero_le _, rfl, rfl, (Fr.refl _ _).alloc _, HB.out⟩
  case round =>
    obtain ⟨k, rfl, hk, rfl, HS, HF, HBx⟩ := hrel
    have d0 := HBx.out.cell 0
    have d1 := HBx.out.cell 1
    have d2 := HBx.out.cell 2
    have hlb := HBx.out.lt
    simp only [List.getElem?_cons_zero, List.getElem?_cons_succ] at d0 d1 d2
    by_cases hlt : k < x.l.length
    · have ht : ((k : Int) < (x.l.length : Int)) := by omega
      obtain ⟨ad, A2, c2, rfl, q0, q1, q2, hX⟩ := EReps.elt (HR.out.fr HF.out (fun _ _ h => h)) (HE.out.fr0 HF.out) hlt
      have HX := Lib.hid hX
      clear hX
      cases hz : x.l[k].k == 0
      · have hz2 : (x.l[k].k != 0) = true := by simpa using hz
        have HZ := Lib.hid hz2
        clear hz2
        go_wp2_with fail
        refine (HIH.out k hlt _ _ HX.out).mono ?_
        rintro e w2 ⟨rfl, hF2⟩
        have HF2 := Lib.hid (HF.out.same hF2)
        have HBx2 := Lib.hid (HBx.out.fr hF2 (fun h => h))
        clear hF2 q0 q1 q2 d0 d1 d2
        cases hr : rightR x.l[k]
        · have HV := Lib.hid (show (x.l[k].k != 0 && rightR x.l[k]) = false by rw [HZ.out, hr]; rfl)
          clear hr
          go_wp2_with fail
          go_ret
          refine ⟨?_, HF2.out⟩
          rw [HEQ.out, rightRL_of_mem x.l k hlt HV.out]
          rfl
        · have HV := Lib.hid (show (x.l[k].k != 0 && rightR x.l[k]) = true by rw [HZ.out, hr]; rfl)
          clear hr
          go_wp2_with fail
          go_roundg (x.l.length - (k + 1))
          case measure => omega
          case rel =>
            have hlen := HN.out
            refine ⟨k + 1, rfl, hlt, ?_, ?_, HF2.out, HBx2.out⟩
            · rw [w64 _ (by omega) (by omega)]; rfl
            · rw [Hid, rightRL_take x.l k hlt, HS.out, HV.out]; rfl
      · have HV := Lib.hid (show (x.l[k].k != 0 && rightR x.l[k]) = false by simp only [beq_iff_eq] at hz; rw [hz]; rfl)
        go_wp2_with fail
        go_ret
        refine ⟨?_, HF.out⟩
        rw [HEQ.out, rightRL_of_mem x.l k hlt HV.out]
        rfl
    · have ht : ¬ ((k : Int) < (x.l.length : Int)) := by omega
      have hkl : k = x.l.length := by omega
      subst hkl
      have hs := HS.out
      rw [List.take_length] at hs
      have HQ := Lib.hid (show rightR x = endB kk x.name (x.l.map Tree.k) by rw [HEQ.out, hs]; rfl)
      clear hs HS
      have hsz := size0 x.name
      have hne := name_empty x.name
      have HSZ := Lib.hid (And.intro hsz hne)
      clear hsz hne
      by_cases h0 : kk = 0
      · subst h0
        go_wp2_with fail
        all_goals
          go_ret
          refine ⟨?_, HF.out⟩
          rw [HQ.out]
          have hsz := HSZ.out
          simp [endB, *]
          try (first | omega | (rw [int_len0]) | (rw [Bool.eq_iff_iff]; simp; omega))
      by_cases h1 : kk = 1
      · subst h1
        go_wp2_with fail
        refine (letters_any x.name (by have := HN.out; omega) _).mono ?_
        rintro e w2 ⟨rfl, hF2⟩
        have HF2 := Lib.hid (HF.out.same hF2)
        have hB := HBx.out.fr hF2 (fun h => h)
        have e2 := hB.cell 2
        have hlb2 := hB.lt
        simp only [List.getElem?_cons_zero, List.getElem?_cons_succ] at e2
        clear hF2 hB
        cases hnb : nameB x.name.data.toList
        all_goals
          go_wp2_with fail
          go_ret
          refine ⟨?_, HF2.out⟩
          rw [HQ.out]
          simp [endB, *]
          try (first | omega | (rw [int_len0]) | (rw [Bool.eq_iff_iff]; simp; omega))
      by_cases h456 : kk = 4 ∨ kk = 5 ∨ kk = 6
      · rcases h456 with rfl | rfl | rfl
        all_goals
          go_wp2_with fail
          all_goals
            go_ret
            refine ⟨?_, HF.out⟩
            rw [HQ.out]
            have hsz := HSZ.out
            simp [endB, *]
            try (first | omega | (rw [int_len0]) | (rw [Bool.eq_iff_iff]; simp; omega))
      by_cases h23 : kk = 2 ∨ kk = 3
      · have HKK := Lib.hid h23
        have hk2 : (kk == 0) = false ∧ (kk == 1) = false ∧ (kk == 4) = false ∧ (kk == 5) = false ∧ (kk == 6) = false := by simp; omega
        have HK2 := Lib.hid hk2
        clear hk2
        have hend : ∀ n ks, endB kk n ks = (ks.all (fun j => j != kk) && decide (n.size = 0) && decide (2 ≤ ks.length)) := by
          intro n ks; unfold endB; rw [if_neg h0, if_neg h1, if_neg h456, if_pos h23]
        have HEND := Lib.hid hend
        clear h0 h1 h456 hend
        rcases h23 with rfl | rfl
        · go_wp2_with fail
          go_loopg [4] (x.l.length) (fun n i wr => ∃ k, n = x.l.length - k ∧ k ≤ x.l.length ∧ i = .int .i64 k ∧ Hid ((x.l.take k).all (fun y => y.k != 2) = true) ∧ Hid (Fr Nob w wr) ∧ Hid (Blk wr w.heap.size [.int .i64 2, .string x.name, .slice A x.l.length c] 24))
          case atStart => exact ⟨0, rfl, Nat.zero_le _, rfl, rfl, HF.out, HBx.out⟩
          case round =>
            clear d0 d1 d2 hlb
            obtain ⟨k, rfl, hk, rfl, HS, HF, HBx⟩ := hrel
            have d0 := HBx.out.cell 0
            have d1 := HBx.out.cell 1
            have d2 := HBx.out.cell 2
            have hlb := HBx.out.lt
            simp only [List.getElem?_cons_zero, List.getElem?_cons_succ] at d0 d1 d2
            by_cases hlt : k < x.l.length
            · have ht : ((k : Int) < (x.l.length : Int)) := by omega
              obtain ⟨ad, A2, c2, rfl, q0, q1, q2, hX⟩ := EReps.elt (HR.out.fr HF.out (fun _ _ h => h)) (HE.out.fr0 HF.out) hlt
              clear hX q1 q2
              have hmem : x.l[k] ∈ x.l := List.getElem_mem hlt
              have hta : ((x.l.take (k + 1)).all (fun y => y.k != 2)) = ((x.l.take k).all (fun y => y.k != 2) && (x.l[k].k != 2)) := by
                rw [List.take_succ_eq_append_getElem hlt, List.all_append]; simp
              have HTA := Lib.hid (And.intro hmem hta)
              clear hmem hta
              cases hz : x.l[k].k == 2
              · go_wp2_with fail
                go_quiet (fail)
                go_wp2_with fail
                go_roundg (x.l.length - (k + 1))
                case measure => omega
                case rel =>
                  have hlen := HN.out
                  refine ⟨k + 1, rfl, hlt, ?_, ?_, ?_, ?_⟩
                  · rw [w64 _ (by omega) (by omega)]; rfl
                  · rw [Hid, HTA.out.2, HS.out]; simpa using hz
                  · exact HF.out.drewN _
                  · exact HBx.out.drewN _
              · go_wp2_with fail
                go_quiet (fail)
                go_wp2_with fail
                go_ret
                refine ⟨?_, HF.out.drewN _⟩
                have hall : ((x.l.map Tree.k).all (fun j => j != 2)) = false := by
                  rw [List.all_eq_false]
                  exact ⟨x.l[k].k, List.mem_map_of_mem HTA.out.1, by simpa using hz⟩
                rw [HQ.out, HEND.out, hall]
                rfl
            · have ht : ¬ ((k : Int) < (x.l.length : Int)) := by omega
              have hkl : k = x.l.length := by omega
              subst hkl
              have hs := HS.out
              rw [List.take_length] at hs
              have hall : ((x.l.map Tree.k).all (fun j => j != 2)) = true := by rw [List.all_map]; exact hs
              have HALL := Lib.hid hall
              clear hs HS hall
              go_wp2_with fail
              all_goals
                go_ret
                refine ⟨?_, HF.out⟩
                rw [HQ.out, HEND.out, HALL.out]
                have hsz := HSZ.out
                simp [*]
                try omega
        · go_wp2_with fail
          go_loopg [4] (x.l.length) (fun n i wr => ∃ k, n = x.l.length - k ∧ k ≤ x.l.length ∧ i = .int .i64 k ∧ Hid ((x.l.take k).all (fun y => y.k != 3) = true) ∧ Hid (Fr Nob w wr) ∧ Hid (Blk wr w.heap.size [.int .i64 3, .string x.name, .slice A x.l.length c] 24))
          case atStart => exact ⟨0, rfl, Nat.zero_le _, rfl, rfl, HF.out, HBx.out⟩
          case round =>
            clear d0 d1 d2 hlb
            obtain ⟨k, rfl, hk, rfl, HS, HF, HBx⟩ := hrel
            have d0 := HBx.out.cell 0
            have d1 := HBx.out.cell 1
            have d2 := HBx.out.cell 2
            have hlb := HBx.out.lt
            simp only [List.getElem?_cons_zero, List.getElem?_cons_succ] at d0 d1 d2
            by_cases hlt : k < x.l.length
            · have ht : ((k : Int) < (x.l.length : Int)) := by omega
              obtain ⟨ad, A2, c2, rfl, q0, q1, q2, hX⟩ := EReps.elt (HR.out.fr HF.out (fun _ _ h => h)) (HE.out.fr0 HF.out) hlt
              clear hX q1 q2
              have hmem : x.l[k] ∈ x.l := List.getElem_mem hlt
              have hta : ((x.l.take (k + 1)).all (fun y => y.k != 3)) = ((x.l.take k).all (fun y => y.k != 3) && (x.l[k].k != 3)) := by
                rw [List.take_succ_eq_append_getElem hlt, List.all_append]; simp
              have HTA := Lib.hid (And.intro hmem hta)
              clear hmem hta
              cases hz : x.l[k].k == 3
              · go_wp2_with fail
                go_quiet (fail)
                go_wp2_with fail
                go_roundg (x.l.length - (k + 1))
                case measure => omega
                case rel =>
                  have hlen := HN.out
                  refine ⟨k + 1, rfl, hlt, ?_, ?_, ?_, ?_⟩
                  · rw [w64 _ (by omega) (by omega)]; rfl
                  · rw [Hid, HTA.out.2, HS.out]; simpa using hz
                  · exact HF.out.drewN _
                  · exact HBx.out.drewN _
              · go_wp2_with fail
                go_quiet (fail)
                go_wp2_with fail
                go_ret
                refine ⟨?_, HF.out.drewN _⟩
                have hall : ((x.l.map Tree.k).all (fun j => j != 3)) = false := by
                  rw [List.all_eq_false]
                  exact ⟨x.l[k].k, List.mem_map_of_mem HTA.out.1, by simpa using hz⟩
                rw [HQ.out, HEND.out, hall]
                rfl
            · have ht : ¬ ((k : Int) < (x.l.length : Int)) := by omega
              have hkl : k = x.l.length := by omega
              subst hkl
              have hs := HS.out
              rw [List.take_length] at hs
              have hall : ((x.l.map Tree.k).all (fun j => j != 3)) = true := by rw [List.all_map]; exact hs
              have HALL := Lib.hid hall
              clear hs HS hall
              go_wp2_with fail
              all_goals
                go_ret
                refine ⟨?_, HF.out⟩
                rw [HQ.out, HEND.out, HALL.out]
                have hsz := HSZ.out
                simp [*]
                try omega
      · have e0 : (kk == 0) = false := by simp; omega
        have e1 : (kk == 1) = false := by simp; omega
        have e2 : (kk == 2) = false := by simp; omega
        have e3 : (kk == 3) = false := by simp; omega
        have e4 : (kk == 4) = false := by simp; omega
        have e5 : (kk == 5) = false := by simp; omega
        have e6 : (kk == 6) = false := by simp; omega
        have H3 := Lib.hid (And.intro h0 (And.intro h1 (And.intro h456 h23)))
        clear h0 h1 h456 h23
        go_wp2_with fail
        go_ret
        refine ⟨?_, HF.out⟩
        rw [HQ.out]
        obtain ⟨h0, h1, h456, h23⟩ := H3.out
        simp [endB, *]
theorem refright_any (x : Tree) (cs : List Value) (w : World) (h : ERep Nob w x cs) (hn : x.count ≤ 4611686018427387904) (hb : x.bytes ≤ 4611686018427387904) :
    Calls Tryd.prog 28 #[.agg cs.toArray] w fun e w' => e = .returned (.bool (rightR x)) ∧ Fr Nob w w' :=
  refright_step x cs w h hn hb (fun k hk cs w h => refright_any x.l[k] cs w h (by have := count_lt_of_mem x.l k hk; have := count_eq x; omega) (by have := bytesL_ge x.l k hk; have := bytes_eq x; omega))
termination_by x
decreasing_by exact Tree.lt_of_elt x k hk
end Go.Proofs.YtgmjgflifgjpmaaDoor
