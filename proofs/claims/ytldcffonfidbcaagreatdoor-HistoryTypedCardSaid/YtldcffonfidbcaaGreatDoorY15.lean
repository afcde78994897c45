/- A part of the proof for chapter 10: StepM; no conditions. -/
import Derived.Test.YtldcffonfidbcaaGreatDoorY13
/- Chapter 9: may a step be: marks. -/
namespace Go.Proofs.YtldcffonfidbcaaGreatDoor
open Go.RowKit
def okMark (f t gf gt ins mk : Int) (n : Nat) : Bool := ok0S f t && decide (f < t) && (((listM mk).length : Int) == 1) && ((n : Int) == 0) && (gf == 0) && (gt == 0) && (ins == 0)
set_option maxRecDepth 100000 in
set_option maxHeartbeats 4000000 in
/-- A step that marks or unmarks. -/
theorem stepcheck_mark (M : Nat → Prop) (kk f t gf gt ins mk : Int) (A : Option Addr) (l : List Tok) (c : Nat) (w : World) (r : Int) (hr : Rd M w A (tokC l)) (hn : l.length ≤ 2048) (hk : kk = 2 ∨ kk = 3) (hrr : (if (okMark f t gf gt ins mk l.length && l.all okT) = true then (0 : Int) else 1) = r) :
    Calls Tryz.prog 111 #[.agg #[.int .i64 kk, .int .i64 f, .int .i64 t, .int .i64 gf, .int .i64 gt, .int .i64 ins, .slice A l.length c, .int .i64 mk]] w fun e w' => e = .returned (.int .i64 r) ∧ Fr Nob w w' := by
  obtain ⟨q, hq⟩ : ∃ q, ok0S f t = q := ⟨_, rfl⟩
  obtain ⟨q2, hq2⟩ : ∃ q2, okMark f t gf gt ins mk l.length = q2 := ⟨_, rfl⟩
  obtain ⟨R, hR⟩ : ∃ R, (q2 && l.all okT) = R := ⟨_, rfl⟩
  rw [hq2, hR] at hrr
  unfold okMark at hq2
  rw [hq] at hq2
  have HQ := Lib.hid hq
  have HQ2 := Lib.hid hq2
  have HRR := Lib.hid hrr
  have HR := Lib.hid hR
  have HRd := Lib.hid hr
  have HOK := Lib.hid (fun x w => okT_any x w)
  clear hq hq2 hrr hR hr
  have hn' : ¬ (2048 < (l.length : Int)) := by omega
  have b0 : (kk == 0) = false := by rw [beq_eq_false_iff_ne]; omega
  have b1 : (kk == 1) = false := by rw [beq_eq_false_iff_ne]; omega
  obtain ⟨y, b2⟩ : ∃ y, (kk == 2) = y := ⟨_, rfl⟩
  have b3 : y = false → (kk == 3) = true := fun h => by
    rw [h, beq_eq_false_iff_ne] at b2
    rw [beq_iff_eq]
    omega
  clear hk
  go_enter Tryz.func111, Tryz.ntmps111
  go_upto_region 5 with (fail)
  go_cut [4] (fun s4 wx => s4 = .bool q ∧ Hid (Fr Nob w wx) ∧ Hid (Blk wx (w.heap.size + 1) [.int .i64 kk, .int .i64 0, .int .i64 0, .int .i64 gf, .int .i64 gt, .int .i64 ins, .slice none 0 0, .int .i64 mk] 32) ∧ Hid (Blk wx w.heap.size [.int .i64 kk, .int .i64 f, .int .i64 t, .int .i64 gf, .int .i64 gt, .int .i64 ins, .slice A l.length c, .int .i64 mk] 32))
  case first =>
    go_wp2_with fail
    all_goals
      go_meet
      refine ⟨?_, ((Fr.refl Nob w).alloc _).alloc _, Blk.new_at (w.alloc _) _ _ (w.heap.size + 1) (by simp), (Blk.new w _ _).alloc _⟩
      have := HQ.out
      rw [← HQ.out]
      first
        | (rw [show ok0S f t = true from (ok0S_iff f t).2 (by omega)]; done)
        | (rw [show ok0S f t = false from by rw [← Bool.not_eq_true, ok0S_iff]; omega]; done)
        | (congr 1; rw [Bool.eq_iff_iff, ok0S_iff, decide_eq_true_iff]; omega)
  case rest =>
    obtain ⟨rfl, HF, HB, HA⟩ := hcut
    have p3 := HB.out.cell 3
    have p4 := HB.out.cell 4
    have p5 := HB.out.cell 5
    have a0 := HA.out.cell 0
    have a1 := HA.out.cell 1
    have a2 := HA.out.cell 2
    have a6 := HA.out.cell 6
    have a7 := HA.out.cell 7
    have hlA := HA.out.lt
    have hlB := HB.out.lt
    simp only [List.getElem?_cons_zero, List.getElem?_cons_succ] at p3 p4 p5 a0 a1 a2 a6 a7
    obtain ⟨q1, hq1⟩ : ∃ q1, (q && decide (f < t) && ((((listM mk).length : Int)) == 1) && ((l.length : Int) == 0)) = q1 := ⟨_, rfl⟩
    have HQ3 := Lib.hid (show (q1 && (gf == 0) && (gt == 0) && (ins == 0)) = q2 by rw [← hq1]; exact HQ2.out)
    have HQ1 := Lib.hid hq1
    clear hq1
    cases y
    all_goals
      try have b3' := b3 rfl
      clear b3
      go_upto_region 14 with (fail)
      go_cut [4] (fun s4 wx => s4 = .bool q1 ∧ Hid (Fr Nob w wx) ∧ Hid (Blk wx (w.heap.size + 1) [.int .i64 kk, .int .i64 0, .int .i64 0, .int .i64 gf, .int .i64 gt, .int .i64 ins, .slice none 0 0, .int .i64 mk] 32) ∧ Hid (Blk wx w.heap.size [.int .i64 kk, .int .i64 f, .int .i64 t, .int .i64 gf, .int .i64 gt, .int .i64 ins, .slice A l.length c, .int .i64 mk] 32))
      case first =>
        cases q
        · go_wp2_with fail
          go_meet
          exact ⟨by rw [← HQ1.out]; rfl, HF.out, HB.out, HA.out⟩
        · by_cases hft : f < t
          · have HL := Lib.hid (list_any mk)
            obtain ⟨z1, g1⟩ : ∃ z, (((listM mk).length : Int) == 1) = z := ⟨_, rfl⟩
            obtain ⟨z2, g2⟩ : ∃ z, ((l.length : Int) == 0) = z := ⟨_, rfl⟩
            have HG1 := Lib.hid g1
            have HG2 := Lib.hid g2
            clear g1 g2
            have HQ4 := Lib.hid (show (z1 && z2) = q1 by rw [← HQ1.out, decide_eq_true hft, HG1.out, HG2.out]; rfl)
            go_wp2_with fail
            refine (HL.out _).mono ?_
            rintro e w3 ⟨v, rfl, hv, hbl⟩
            obtain ⟨VA, vc, hvv, _, _⟩ := Rd.of_own (M := Nob) hv (fun _ _ h => h)
            subst hvv
            have hf3 : Fr Nob wc w3 := Fr.of_below hbl
            have HF3 := Lib.hid (HF.out.same hf3)
            have HB3 := Lib.hid (HB.out.fr hf3 (fun h => h))
            have HA3 := Lib.hid (HA.out.fr hf3 (fun h => h))
            have c6 := HA3.out.cell 6
            have hlc := HA3.out.lt
            simp only [List.getElem?_cons_zero, List.getElem?_cons_succ] at c6
            have g1 := HG1.out
            have g2 := HG2.out
            clear hv hbl hf3
            generalize (listM mk).length = nl at g1 ⊢
            cases z1
            all_goals
              cases z2
              all_goals
                go_wp2_with fail
                go_meet
                exact ⟨by rw [← HQ4.out]; rfl, HF3.out, HB3.out, HA3.out⟩
          · have HQ5 := Lib.hid (show false = q1 by rw [← HQ1.out, decide_eq_false hft]; rfl)
            go_wp2_with fail
            go_meet
            exact ⟨by rw [← HQ5.out], HF.out, HB.out, HA.out⟩
      case rest =>
        obtain ⟨rfl, HF, HB, HA⟩ := hcut
        have p3 := HB.out.cell 3
        have p4 := HB.out.cell 4
        have p5 := HB.out.cell 5
        have a0 := HA.out.cell 0
        have a1 := HA.out.cell 1
        have a2 := HA.out.cell 2
        have a6 := HA.out.cell 6
        have a7 := HA.out.cell 7
        have hlA := HA.out.lt
        have hlB := HB.out.lt
        simp only [List.getElem?_cons_zero, List.getElem?_cons_succ] at p3 p4 p5 a0 a1 a2 a6 a7
        go_upto_region 16 with (fail)
        go_cut [4] (fun s4 wx => s4 = .bool q2 ∧ Hid (Fr Nob w wx) ∧ Hid (Blk wx (w.heap.size + 1) [.int .i64 kk, .int .i64 0, .int .i64 0, .int .i64 gf, .int .i64 gt, .int .i64 ins, .slice none 0 0, .int .i64 mk] 32) ∧ Hid (Blk wx w.heap.size [.int .i64 kk, .int .i64 f, .int .i64 t, .int .i64 gf, .int .i64 gt, .int .i64 ins, .slice A l.length c, .int .i64 mk] 32))
        case first =>
          obtain ⟨z3, h3⟩ : ∃ z, (gf == 0) = z := ⟨_, rfl⟩
          obtain ⟨z4, h4⟩ : ∃ z, (gt == 0) = z := ⟨_, rfl⟩
          obtain ⟨z5, h5⟩ : ∃ z, (ins == 0) = z := ⟨_, rfl⟩
          have HZ3 := Lib.hid h3
          have HZ4 := Lib.hid h4
          have HZ5 := Lib.hid h5
          cases z3 <;> cases z4 <;> cases z5 <;> cases q1
          all_goals
            go_wp2_with fail
            go_meet
            exact ⟨by rw [← HQ3.out, HZ3.out, HZ4.out, HZ5.out]; rfl, HF.out, HB.out, HA.out⟩
        case rest =>
          obtain ⟨rfl, HF, HB, HA⟩ := hcut
          have p3 := HB.out.cell 3
          have p4 := HB.out.cell 4
          have p5 := HB.out.cell 5
          have a0 := HA.out.cell 0
          have a1 := HA.out.cell 1
          have a2 := HA.out.cell 2
          have a6 := HA.out.cell 6
          have a7 := HA.out.cell 7
          have hlA := HA.out.lt
          have hlB := HB.out.lt
          simp only [List.getElem?_cons_zero, List.getElem?_cons_succ] at p3 p4 p5 a0 a1 a2 a6 a7
          clear p3 p4 p5 a0 a1 a2 a7
          go_wp2_with fail
          go_loopg [4, 123] (l.length) (fun n s4 i wr => ∃ (k : Nat) (b : Bool), n = l.length - k ∧ k ≤ l.length ∧ s4 = .bool b ∧ i = .int .i64 k ∧ Hid (Fr Nob w wr) ∧ Hid ((b && (l.drop k).all okT) = R))
          case atStart => exact ⟨0, q2, rfl, Nat.zero_le _, rfl, rfl, HF.out, HR.out⟩
          case round =>
            obtain ⟨k, b, rfl, hk, rfl, rfl, HF2, HC⟩ := hrel
            by_cases hlt : k < l.length
            · have ht : ((k : Int) < (l.length : Int)) := by omega
              obtain ⟨ad, rfl, _, hlb, q0', q⟩ := Rd.elt Tok.cells_len (by omega) (HRd.out.fr HF2.out (fun _ _ h => h.elim)) hlt
              have hdr : l.drop k = l[k] :: l.drop (k + 1) := List.drop_eq_getElem_cons hlt
              generalize l[k] = x at q0' q hdr
              have d1 := q 0 (by omega)
              have d2 := q 1 (by omega)
              have d3 := q 2 (by omega)
              simp only [Tok.cells, List.getElem?_cons_zero, List.getElem?_cons_succ, Nat.reduceAdd] at q0' d1 d2 d3
              have hcc := HC.out
              rw [hdr, List.all_cons] at hcc
              have HCC := Lib.hid hcc
              clear q hdr HC hcc
              cases b
              · have HE := Lib.hid (show (false && (l.drop (k + 1)).all okT) = R by rw [← HCC.out]; simp)
                go_wp2_with fail
                go_roundg (l.length - (k + 1))
                case measure => omega
                case rel => exact ⟨k + 1, false, rfl, by omega, rfl, by first | rfl | go_num, HF2.out.alloc _, HE.out⟩
              · go_wp2_with fail
                refine (HOK.out x _).mono ?_
                rintro e w3 ⟨rfl, hF3⟩
                have HF3 := Lib.hid ((HF2.out.alloc (.cells #[.int .i64 x.k, .int .i64 x.t, .int .i64 x.n, .int .i64 x.m] 40)).same hF3)
                have HE := Lib.hid (show (okT x && (l.drop (k + 1)).all okT) = R by rw [← HCC.out]; simp)
                clear hF3 HCC
                generalize okT x = bx at HE
                go_wp2_with fail
                go_roundg (l.length - (k + 1))
                case measure => omega
                case rel => exact ⟨k + 1, bx, rfl, by omega, rfl, by first | rfl | go_num, HF3.out, HE.out⟩
            · have ht : ¬ ((k : Int) < (l.length : Int)) := by omega
              have hcc := HC.out
              rw [List.drop_eq_nil_of_le (by omega), List.all_nil, Bool.and_true] at hcc
              have HE := Lib.hid (show (if b = true then (0 : Int) else 1) = r by rw [← HRR.out, ← hcc])
              clear hcc HC
              cases b
              · go_wp2_with fail
                go_ret
                exact ⟨by rw [← HE.out]; rfl, HF2.out⟩
              · go_wp2_with fail
                go_ret
                exact ⟨by rw [← HE.out]; rfl, HF2.out⟩
end Go.Proofs.YtldcffonfidbcaaGreatDoor
