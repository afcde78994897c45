/- A part of the proof for chapter 10: RefStep; no conditions. -/
import Derived.Test.YtanbfplcldloeaaGreatDoorS27
import Derived.Test.YtanbfplcldloeaaGreatDoorS15
import Derived.Deep.CutBlock
import Derived.Deep.DeepCutAuto
/- Chapter 9, the reference: may a step be. -/
namespace Go.Proofs.YtanbfplcldloeaaGreatDoor
open Go.RowKit
theorem listM_one (m : Int) : (((listM m).length : Int) == 1) = (m == 1 || m == 2 || m == 4) := by
  unfold listM
  by_cases h1 : m = 1
  · subst h1; rfl
  · by_cases h2 : m = 2
    · subst h2; rfl
    · by_cases h3 : m = 3
      · subst h3; rfl
      · by_cases h4 : m = 4
        · subst h4; rfl
        · rw [if_neg h1, if_neg h2, if_neg h3, if_neg h4]
          simp [h1, h2, h4]
set_option maxRecDepth 100000 in
set_option maxHeartbeats 4000000 in
theorem ref9check_any (M : Nat → Prop) (s : StepM) (A : Option Addr) (c : Nat) (w : World) (hr : Rd M w A (tokC s.l)) :
    Calls Tryz.prog 32 #[.agg (s.cells (.slice A s.l.length c)).toArray] w fun e w' => e = .returned (.int .i64 (stepF s)) ∧ Fr Nob w w' := by
  obtain ⟨k, f, t, gf, gt, ins, m, l⟩ := s
  obtain ⟨R, hR⟩ : ∃ R, stepF ⟨k, f, t, gf, gt, ins, m, l⟩ = R := ⟨_, rfl⟩
  have HR := Lib.hid hR
  rw [hR]
  clear hR
  simp only [StepM.cells] at hr ⊢
  have HRd := Lib.hid hr
  clear hr
  obtain ⟨n, hn⟩ : ∃ n, l.length = n := ⟨_, rfl⟩
  have HNL := Lib.hid hn
  rw [hn]
  clear hn
  go_enter Tryz.func32, Tryz.ntmps32
  go_upto_region 1 with (fail)
  obtain ⟨W, hW⟩ : ∃ W, w.alloc (.cells #[.int .i64 k, .int .i64 f, .int .i64 t, .int .i64 gf, .int .i64 gt, .int .i64 ins, .slice A n c, .int .i64 m] 24) = W := ⟨_, rfl⟩
  obtain ⟨X, hX⟩ : ∃ X, w.heap.size = X := ⟨_, rfl⟩
  have HF := Lib.hid (show Fr Nob w W by rw [← hW]; exact (Fr.refl _ _).alloc _)
  have HB := Lib.hid (show Blk W X [.int .i64 k, .int .i64 f, .int .i64 t, .int .i64 gf, .int .i64 gt, .int .i64 ins, .slice A n c, .int .i64 m] 24 by rw [← hW, ← hX]; exact Blk.new _ _ _)
  rw [hW, hX]
  clear hW hX
  have d0 := HB.out.cell 0
  have d1 := HB.out.cell 1
  have d2 := HB.out.cell 2
  have d3 := HB.out.cell 3
  have d4 := HB.out.cell 4
  have d5 := HB.out.cell 5
  have d6 := HB.out.cell 6
  have d7 := HB.out.cell 7
  have dl := HB.out.lt
  simp only [List.getElem?_cons_zero, List.getElem?_cons_succ] at d0 d1 d2 d3 d4 d5 d6 d7
  by_cases hn : 2048 < n
  · have hn' : 2048 < (n : Int) := by omega
    have HE := Lib.hid (show (2 : Int) = R by rw [← HR.out, stepF, if_pos (show 2048 < l.length by rw [HNL.out]; exact hn)])
    go_wp2_with fail
    go_ret
    exact ⟨by rw [← HE.out]; rfl, HF.out⟩
  · have hn' : ¬ 2048 < (n : Int) := by omega
    obtain ⟨Q, hQ⟩ : ∃ Q, kindOk ⟨k, f, t, gf, gt, ins, m, l⟩ = Q := ⟨_, rfl⟩
    have HQ := Lib.hid hQ
    have HRQ := Lib.hid (show (if (Q && l.all okT) = true then (0 : Int) else 1) = R by rw [← HR.out, stepF, if_neg (show ¬ 2048 < l.length by rw [HNL.out]; exact hn), hQ])
    have HN2 := Lib.hid hn
    clear hQ HR hn
    by_cases hok : 0 ≤ f ∧ f ≤ t ∧ t ≤ 2048
    · obtain ⟨G, hG⟩ : ∃ G, ((gf == 0) && (gt == 0) && (ins == 0)) = G := ⟨_, rfl⟩
      have HG := Lib.hid hG
      have HOK := Lib.hid (show ok0S f t = true from (ok0S_iff f t).2 hok)
      obtain ⟨h0, h1, h2⟩ := hok
      have b1 : ¬ f < 0 := by omega
      have b2 : ¬ t < f := by omega
      have b3 : ¬ 2048 < t := by omega
      clear hG
      go_upto_region 5 with (fail)
      clear b1 b2 b3 hn'
      go_cut [3] (fun s3 wx => s3 = .bool G ∧ wx = W)
      case first =>
        cases e3 : (gf == 0) <;> cases e4 : (gt == 0) <;> cases e5 : (ins == 0)
        all_goals
          go_wp2_with fail
          go_meet
          exact ⟨by rw [← HG.out, e3, e4, e5]; rfl, rfl⟩
      case rest =>
        obtain ⟨rfl, rfl⟩ := hcut
        go_upto_block 0 with (fail)
        go_cut [4] (fun s4 wx => s4 = .bool Q ∧ wx = wc)
        case first =>
          by_cases k0 : k = 0
          · have q : okRep f t gf gt ins m = Q := by have h := HQ.out; rw [kindOk, if_pos k0] at h; exact h
            have HE := Lib.hid (show (G && (m == 0)) = Q by rw [← q, okRep, HOK.out, ← HG.out]; cases (m == 0) <;> cases (gf == 0) <;> cases (gt == 0) <;> cases (ins == 0) <;> rfl)
            have b0 : (k == 0) = true := by simpa using k0
            clear k0 q HQ
            cases G <;> cases e7 : (m == 0)
            all_goals
              go_wp2_with fail
              go_meet
              exact ⟨by rw [← HE.out, e7]; rfl, rfl⟩
          · have b0 : (k == 0) = false := by simpa using k0
            by_cases k1 : k = 1
            · have b1 : (k == 1) = true := by simpa using k1
              have q : okAro f t gf gt ins m n = Q := by have h := HQ.out; rw [kindOk, if_neg k0, if_pos k1] at h; simp only [HNL.out] at h; exact h
              clear k0 k1 HQ
              by_cases g1 : f ≤ gf
              · by_cases g2 : gf < gt
                · by_cases g3 : gt ≤ t
                  · by_cases g4 : 0 ≤ ins
                    · by_cases g5 : ins ≤ (n : Int)
                      · have HE := Lib.hid (show (m == 0) = Q by rw [← q, okAro, HOK.out, show aroS f t gf gt ins n = true from (aroS_iff f t gf gt ins n).2 (by omega)]; rfl)
                        clear q
                        cases e7 : (m == 0)
                        all_goals
                          go_wp2_with fail
                          go_meet
                          exact ⟨by rw [← HE.out, e7], rfl⟩
                      · have HE := Lib.hid (show false = Q by rw [← q, okAro, show aroS f t gf gt ins n = false from by rw [← Bool.not_eq_true, aroS_iff]; omega, Bool.and_false, Bool.false_and])
                        clear q
                        go_wp2_with fail
                        go_meet
                        exact ⟨by rw [← HE.out], rfl⟩
                    · have HE := Lib.hid (show false = Q by rw [← q, okAro, show aroS f t gf gt ins n = false from by rw [← Bool.not_eq_true, aroS_iff]; omega, Bool.and_false, Bool.false_and])
                      clear q
                      go_wp2_with fail
                      go_meet
                      exact ⟨by rw [← HE.out], rfl⟩
                  · have HE := Lib.hid (show false = Q by rw [← q, okAro, show aroS f t gf gt ins n = false from by rw [← Bool.not_eq_true, aroS_iff]; omega, Bool.and_false, Bool.false_and])
                    clear q
                    go_wp2_with fail
                    go_meet
                    exact ⟨by rw [← HE.out], rfl⟩
                · have HE := Lib.hid (show false = Q by rw [← q, okAro, show aroS f t gf gt ins n = false from by rw [← Bool.not_eq_true, aroS_iff]; omega, Bool.and_false, Bool.false_and])
                  clear q
                  go_wp2_with fail
                  go_meet
                  exact ⟨by rw [← HE.out], rfl⟩
              · have HE := Lib.hid (show false = Q by rw [← q, okAro, show aroS f t gf gt ins n = false from by rw [← Bool.not_eq_true, aroS_iff]; omega, Bool.and_false, Bool.false_and])
                clear q
                go_wp2_with fail
                go_meet
                exact ⟨by rw [← HE.out], rfl⟩
            · have b1 : (k == 1) = false := by simpa using k1
              by_cases k2 : k = 2
              · have b2 : (k == 2) = true := by simpa using k2
                have q : okMark f t gf gt ins m n = Q := by have h := HQ.out; rw [kindOk, if_neg k0, if_neg k1, if_pos (show k = 2 ∨ k = 3 by omega)] at h; simp only [HNL.out] at h; exact h
                have HE := Lib.hid (show (G && decide (f < t) && ((n : Int) == 0) && (m == 1 || m == 2 || m == 4)) = Q by rw [← q, okMark, HOK.out, ← HG.out, listM_one]; cases decide (f < t) <;> cases ((n : Int) == 0) <;> cases (gf == 0) <;> cases (gt == 0) <;> cases (ins == 0) <;> cases (m == 1 || m == 2 || m == 4) <;> rfl)
                clear k0 k1 k2 q HQ
                cases G
                · go_wp2_with fail
                  go_meet
                  exact ⟨by rw [← HE.out]; rfl, rfl⟩
                · by_cases g1 : f < t
                  · cases e6 : ((n : Int) == 0)
                    · go_wp2_with fail
                      go_meet
                      exact ⟨by rw [← HE.out, e6]; simp, rfl⟩
                    · cases e1 : (m == 1)
                      · cases e2 : (m == 2)
                        · cases e4 : (m == 4)
                          all_goals
                            go_wp2_with fail
                            go_meet
                            exact ⟨by rw [← HE.out, e6, e1, e2, e4, decide_eq_true (show f < t by omega)]; rfl, rfl⟩
                        · go_wp2_with fail
                          go_meet
                          exact ⟨by rw [← HE.out, e6, e1, e2, decide_eq_true (show f < t by omega)]; rfl, rfl⟩
                      · go_wp2_with fail
                        go_meet
                        exact ⟨by rw [← HE.out, e6, e1, decide_eq_true (show f < t by omega)]; rfl, rfl⟩
                  · go_wp2_with fail
                    go_meet
                    exact ⟨by rw [← HE.out, decide_eq_false (show ¬ f < t by omega)]; rfl, rfl⟩
              · have b2 : (k == 2) = false := by simpa using k2
                by_cases k3 : k = 3
                · have b3 : (k == 3) = true := by simpa using k3
                  have q : okMark f t gf gt ins m n = Q := by have h := HQ.out; rw [kindOk, if_neg k0, if_neg k1, if_pos (show k = 2 ∨ k = 3 by omega)] at h; simp only [HNL.out] at h; exact h
                  have HE := Lib.hid (show (G && decide (f < t) && ((n : Int) == 0) && (m == 1 || m == 2 || m == 4)) = Q by rw [← q, okMark, HOK.out, ← HG.out, listM_one]; cases decide (f < t) <;> cases ((n : Int) == 0) <;> cases (gf == 0) <;> cases (gt == 0) <;> cases (ins == 0) <;> cases (m == 1 || m == 2 || m == 4) <;> rfl)
                  clear k0 k1 k2 k3 q HQ
                  cases G
                  · go_wp2_with fail
                    go_meet
                    exact ⟨by rw [← HE.out]; rfl, rfl⟩
                  · by_cases g1 : f < t
                    · cases e6 : ((n : Int) == 0)
                      · go_wp2_with fail
                        go_meet
                        exact ⟨by rw [← HE.out, e6]; simp, rfl⟩
                      · cases e1 : (m == 1)
                        · cases e2 : (m == 2)
                          · cases e4 : (m == 4)
                            all_goals
                              go_wp2_with fail
                              go_meet
                              exact ⟨by rw [← HE.out, e6, e1, e2, e4, decide_eq_true (show f < t by omega)]; rfl, rfl⟩
                          · go_wp2_with fail
                            go_meet
                            exact ⟨by rw [← HE.out, e6, e1, e2, decide_eq_true (show f < t by omega)]; rfl, rfl⟩
                        · go_wp2_with fail
                          go_meet
                          exact ⟨by rw [← HE.out, e6, e1, decide_eq_true (show f < t by omega)]; rfl, rfl⟩
                    · go_wp2_with fail
                      go_meet
                      exact ⟨by rw [← HE.out, decide_eq_false (show ¬ f < t by omega)]; rfl, rfl⟩
                · have b3 : (k == 3) = false := by simpa using k3
                  have HE := Lib.hid (show false = Q by have h := HQ.out; rw [kindOk, if_neg k0, if_neg k1, if_neg (show ¬ (k = 2 ∨ k = 3) by omega)] at h; exact h)
                  clear k0 k1 k2 k3 HQ
                  go_wp2_with fail
                  go_meet
                  exact ⟨by rw [← HE.out], rfl⟩
        case rest =>
          obtain ⟨rfl, rfl⟩ := hcut
          clear HG HQ HOK h0 h1 h2 d0 d1 d2 d3 d4 d5 d7
          obtain ⟨W0, hW0⟩ : ∃ W0, wc = W0 := ⟨_, rfl⟩
          rw [hW0] at d6 dl HB HF ⊢
          clear hW0
          go_wp2_with fail
          go_loopg [4, 5] n (fun q s4 s5 wr => ∃ i : Nat, q = n - i ∧ i ≤ n ∧ s4 = .bool (Q && (l.take i).all okT) ∧ s5 = .int .i64 i ∧ Hid (Fr Nob W0 wr))
          case atStart => exact ⟨0, rfl, Nat.zero_le _, by simp, rfl, Fr.refl _ _⟩
          case round =>
            obtain ⟨i, rfl, hi, rfl, rfl, HFr⟩ := hrel
            have d6 := (HB.out.fr HFr.out (fun h => h)).cell 6
            have dl := (HB.out.fr HFr.out (fun h => h)).lt
            simp only [List.getElem?_cons_zero, List.getElem?_cons_succ] at d6
            have hn2 := HN2.out
            by_cases hlt : i < n
            · have ht : ((i : Int) < (n : Int)) := by omega
              have hil : i < l.length := by rw [HNL.out]; exact hlt
              have hall : (l.take (i + 1)).all okT = ((l.take i).all okT && okT l[i]) := by rw [List.take_succ_eq_append_getElem hil, List.all_append]; simp
              have HALL := Lib.hid hall
              clear hall
              obtain ⟨b, hb⟩ : ∃ b, (l.take i).all okT = b := ⟨_, rfl⟩
              have HALB := Lib.hid hb
              rw [hb]
              clear hb
              cases hQb : (Q && b) with
              | false =>
                go_wp2_with fail
                go_roundg (n - (i + 1))
                case measure => omega
                case rel => exact ⟨i + 1, rfl, by omega, by rw [HALL.out, HALB.out, ← Bool.and_assoc, hQb]; rfl, by first | rfl | go_num, HFr.out⟩
              | true =>
                obtain ⟨ad, rfl, _, hlb, q0, q'⟩ := Rd.elt Tok.cells_len (by omega) (HRd.out.fr (HF.out.same HFr.out) (fun _ _ h => h.elim)) hil
                have q1 := q' 0 (by omega)
                have q2 := q' 1 (by omega)
                have q3 := q' 2 (by omega)
                have HC := Lib.hid (fun W' : World => ref4right_any l[i] W')
                obtain ⟨x, hx⟩ : ∃ x, l[i] = x := ⟨_, rfl⟩
                rw [hx] at HC HALL q0 q1 q2 q3
                simp only [Tok.cells, List.getElem?_cons_zero, List.getElem?_cons_succ, Nat.reduceAdd] at q0 q1 q2 q3
                clear q' hx
                go_wp2_with fail
                refine (HC.out wr).mono ?_
                rintro e w2 ⟨rfl, hF2⟩
                have HF2 := Lib.hid (HFr.out.same hF2)
                clear hF2 q0 q1 q2 q3 d6 dl
                go_wp2_with fail
                go_roundg (n - (i + 1))
                case measure => omega
                case rel => exact ⟨i + 1, rfl, by omega, by rw [HALL.out, HALB.out, ← Bool.and_assoc, hQb]; first | rfl | (cases okT x <;> rfl), by first | rfl | go_num, HF2.out⟩
            · have ht : ¬ ((i : Int) < (n : Int)) := by omega
              obtain rfl : i = n := by omega
              have hall : (l.take i).all okT = l.all okT := by rw [List.take_of_length_le (by rw [HNL.out]; exact Nat.le_refl _)]
              rw [hall]
              have HRQ2 := HRQ
              obtain ⟨b, hb⟩ : ∃ b, (Q && l.all okT) = b := ⟨_, rfl⟩
              rw [hb] at HRQ2 ⊢
              clear hb hall
              have HFE := Lib.hid (HF.out.same HFr.out)
              cases b
              · go_wp2_with fail
                go_ret
                exact ⟨by rw [← HRQ2.out]; rfl, HFE.out⟩
              · go_wp2_with fail
                go_ret
                exact ⟨by rw [← HRQ2.out]; rfl, HFE.out⟩
    · have HE := Lib.hid (show (1 : Int) = R by
        have hq : Q = false := by
          have h := HQ.out
          have h0 : ok0S f t = false := by rw [← Bool.not_eq_true, ok0S_iff]; exact hok
          rw [← h]
          simp only [kindOk, okRep, okAro, okMark, h0, Bool.false_and]
          split
          · rfl
          · split
            · rfl
            · split <;> rfl
        rw [← HRQ.out, hq]; rfl)
      clear HQ HRQ
      by_cases b1 : f < 0
      · clear hok
        go_wp2_with fail
        go_ret
        exact ⟨by rw [← HE.out]; rfl, HF.out⟩
      · by_cases b2 : t < f
        · clear hok
          go_wp2_with fail
          go_ret
          exact ⟨by rw [← HE.out]; rfl, HF.out⟩
        · have b3 : 2048 < t := by omega
          clear hok
          go_wp2_with fail
          go_ret
          exact ⟨by rw [← HE.out]; rfl, HF.out⟩
end Go.Proofs.YtanbfplcldloeaaGreatDoor
