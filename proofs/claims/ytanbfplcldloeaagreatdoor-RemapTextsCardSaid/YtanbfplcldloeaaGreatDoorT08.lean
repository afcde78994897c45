/- A part of the proof for chapter 10: StepD, StepM, StepA, StepJ, Copy, Tokens, StepDo, StepDoA, StepDoM; no conditions. -/
import Derived.Test.YtanbfplcldloeaaGreatDoorT07
import Derived.Test.YtanbfplcldloeaaGreatDoorT05
import Derived.Laws.CopyOwn
import Derived.Test.YtanbfplcldloeaaGreatDoorT06
import Derived.Laws.MakeOwn
import Derived.Deep.OwnRows
import Derived.StillTailTactics
import Derived.Deep.RegionHeld3
/- Chapter 9: may a step be: of no kind, too long. -/
namespace Go.Proofs.YtanbfplcldloeaaGreatDoor
open Go.RowKit
set_option maxRecDepth 100000 in
/-- A step that bears too much. -/
theorem stepcheck_long (k f t gf gt ins mk : Int) (A : Option Addr) (n c : Nat) (w : World) (hn : 2048 < n) :
    Calls Tryz.prog 29 #[.agg #[.int .i64 k, .int .i64 f, .int .i64 t, .int .i64 gf, .int .i64 gt, .int .i64 ins, .slice A n c, .int .i64 mk]] w fun e w' => e = .returned (.int .i64 2) ∧ Fr Nob w w' := by
  have hn' : (2048 < (n : Int)) := by omega
  go_enter Tryz.func29, Tryz.ntmps29
  go_wp2_with fail
  go_ret
  exact ⟨rfl, (Fr.refl Nob w).alloc _⟩
set_option maxRecDepth 100000 in
set_option maxHeartbeats 4000000 in
/-- A step of no kind. -/
theorem stepcheck_none (M : Nat → Prop) (kk f t gf gt ins mk : Int) (A : Option Addr) (l : List Tok) (c : Nat) (w : World) (r : Int) (hr : Rd M w A (tokC l)) (hn : l.length ≤ 2048) (hk0 : kk ≠ 0) (hk1 : kk ≠ 1) (hk2 : kk ≠ 2) (hk3 : kk ≠ 3) (hrr : (if (false && l.all okT) = true then (0 : Int) else 1) = r) :
    Calls Tryz.prog 29 #[.agg #[.int .i64 kk, .int .i64 f, .int .i64 t, .int .i64 gf, .int .i64 gt, .int .i64 ins, .slice A l.length c, .int .i64 mk]] w fun e w' => e = .returned (.int .i64 r) ∧ Fr Nob w w' := by
  obtain ⟨q, hq⟩ : ∃ q, ok0S f t = q := ⟨_, rfl⟩
  obtain ⟨q2, hq2⟩ : ∃ q2, false = q2 := ⟨_, rfl⟩
  obtain ⟨R, hR⟩ : ∃ R, (q2 && l.all okT) = R := ⟨_, rfl⟩
  rw [hq2, hR] at hrr
  have HQ := Lib.hid hq
  have HQ2 := Lib.hid hq2
  have HRR := Lib.hid hrr
  have HR := Lib.hid hR
  have HRd := Lib.hid hr
  have HOK := Lib.hid (fun x w => okT_any x w)
  clear hq hq2 hrr hR hr
  have hn' : ¬ (2048 < (l.length : Int)) := by omega
  have b0 : (kk == 0) = false := by simpa using hk0
  have b1 : (kk == 1) = false := by simpa using hk1
  have b2 : (kk == 2) = false := by simpa using hk2
  have b3 : (kk == 3) = false := by simpa using hk3
  clear hk0 hk1 hk2 hk3
  go_enter Tryz.func29, Tryz.ntmps29
  go_upto_region 5 with (fail)
  go_cut [4] (fun s4 wx => s4 = .bool q ∧ Hid (Fr Nob w wx) ∧ Hid (Blk wx (w.heap.size + 1) [.int .i64 kk, .int .i64 0, .int .i64 0, .int .i64 gf, .int .i64 gt, .int .i64 ins, .slice none 0 0, .int .i64 mk] 24) ∧ Hid (Blk wx w.heap.size [.int .i64 kk, .int .i64 f, .int .i64 t, .int .i64 gf, .int .i64 gt, .int .i64 ins, .slice A l.length c, .int .i64 mk] 24))
  case first =>
    go_wp2_with fail
    all_goals
      go_meet
      refine ⟨?_, ((Fr.refl Nob w).alloc _).alloc _, Blk.new_at (w.alloc _) _ _ (w.heap.size + 1) (by simp), (Blk.new w _ _).alloc _⟩
      have := HQ.out
      rw [← HQ.out]
      first
        | (rw [show ok0S f t = true from (ok0S_iff f t).2 (by omega)]; done)
        | (rw [show ok0S f t = false from by rw [← Bool.not_eq_true, ok0S_iff]; omega]; done)
        | (congr 1; rw [Bool.eq_iff_iff, ok0S_iff, decide_eq_true_iff]; omega)
  case rest =>
    obtain ⟨rfl, HF, HB, HA⟩ := hcut
    have p3 := HB.out.cell 3
    have p4 := HB.out.cell 4
    have p5 := HB.out.cell 5
    have p7 := HB.out.cell 7
    have a0 := HA.out.cell 0
    have a6 := HA.out.cell 6
    have hlA := HA.out.lt
    have hlB := HB.out.lt
    simp only [List.getElem?_cons_zero, List.getElem?_cons_succ] at p3 p4 p5 p7 a0 a6
    go_wp2_with fail
    go_loopg [4, 123] (l.length) (fun n s4 i wr => ∃ (k : Nat) (b : Bool), n = l.length - k ∧ k ≤ l.length ∧ s4 = .bool b ∧ i = .int .i64 k ∧ Hid (Fr Nob w wr) ∧ Hid ((b && (l.drop k).all okT) = R))
    case atStart => exact ⟨0, false, rfl, Nat.zero_le _, rfl, rfl, HF.out, by rw [HQ2.out]; exact HR.out⟩
    case round =>
      obtain ⟨k, b, rfl, hk, rfl, rfl, HF2, HC⟩ := hrel
      by_cases hlt : k < l.length
      · have ht : ((k : Int) < (l.length : Int)) := by omega
        obtain ⟨ad, rfl, _, hlb, q0', q⟩ := Rd.elt Tok.cells_len (by omega) (HRd.out.fr HF2.out (fun _ _ h => h.elim)) hlt
        have hdr : l.drop k = l[k] :: l.drop (k + 1) := List.drop_eq_getElem_cons hlt
        generalize l[k] = x at q0' q hdr
        have d1 := q 0 (by omega)
        have d2 := q 1 (by omega)
        have d3 := q 2 (by omega)
        simp only [Tok.cells, List.getElem?_cons_zero, List.getElem?_cons_succ, Nat.reduceAdd] at q0' d1 d2 d3
        have hcc := HC.out
        rw [hdr, List.all_cons] at hcc
        have HCC := Lib.hid hcc
        clear q hdr HC hcc
        cases b
        · have HE := Lib.hid (show (false && (l.drop (k + 1)).all okT) = R by rw [← HCC.out]; simp)
          go_wp2_with fail
          go_roundg (l.length - (k + 1))
          case measure => omega
          case rel => exact ⟨k + 1, false, rfl, by omega, rfl, by first | rfl | go_num, HF2.out.alloc _, HE.out⟩
        · go_wp2_with fail
          refine (HOK.out x _).mono ?_
          rintro e w3 ⟨rfl, hF3⟩
          have HF3 := Lib.hid ((HF2.out.alloc (.cells #[.int .i64 x.k, .int .i64 x.t, .int .i64 x.n, .int .i64 x.m] 65)).same hF3)
          have HE := Lib.hid (show (okT x && (l.drop (k + 1)).all okT) = R by rw [← HCC.out]; simp)
          clear hF3 HCC
          generalize okT x = bx at HE
          go_wp2_with fail
          go_roundg (l.length - (k + 1))
          case measure => omega
          case rel => exact ⟨k + 1, bx, rfl, by omega, rfl, by first | rfl | go_num, HF3.out, HE.out⟩
      · have ht : ¬ ((k : Int) < (l.length : Int)) := by omega
        have hcc := HC.out
        rw [List.drop_eq_nil_of_le (by omega), List.all_nil, Bool.and_true] at hcc
        have HE := Lib.hid (show (if b = true then (0 : Int) else 1) = r by rw [← HRR.out, ← hcc])
        clear hcc HC
        cases b
        · go_wp2_with fail
          go_ret
          exact ⟨by rw [← HE.out]; rfl, HF2.out⟩
        · go_wp2_with fail
          go_ret
          exact ⟨by rw [← HE.out]; rfl, HF2.out⟩
end Go.Proofs.YtanbfplcldloeaaGreatDoor

/- Chapter 9: may a step be: marks. -/
namespace Go.Proofs.YtanbfplcldloeaaGreatDoor
open Go.RowKit
def okMark (f t gf gt ins mk : Int) (n : Nat) : Bool := ok0S f t && decide (f < t) && (((listM mk).length : Int) == 1) && ((n : Int) == 0) && (gf == 0) && (gt == 0) && (ins == 0)
set_option maxRecDepth 100000 in
set_option maxHeartbeats 4000000 in
/-- A step that marks or unmarks. -/
theorem stepcheck_mark (M : Nat → Prop) (kk f t gf gt ins mk : Int) (A : Option Addr) (l : List Tok) (c : Nat) (w : World) (r : Int) (hr : Rd M w A (tokC l)) (hn : l.length ≤ 2048) (hk : kk = 2 ∨ kk = 3) (hrr : (if (okMark f t gf gt ins mk l.length && l.all okT) = true then (0 : Int) else 1) = r) :
    Calls Tryz.prog 29 #[.agg #[.int .i64 kk, .int .i64 f, .int .i64 t, .int .i64 gf, .int .i64 gt, .int .i64 ins, .slice A l.length c, .int .i64 mk]] w fun e w' => e = .returned (.int .i64 r) ∧ Fr Nob w w' := by
  obtain ⟨q, hq⟩ : ∃ q, ok0S f t = q := ⟨_, rfl⟩
  obtain ⟨q2, hq2⟩ : ∃ q2, okMark f t gf gt ins mk l.length = q2 := ⟨_, rfl⟩
  obtain ⟨R, hR⟩ : ∃ R, (q2 && l.all okT) = R := ⟨_, rfl⟩
  rw [hq2, hR] at hrr
  unfold okMark at hq2
  rw [hq] at hq2
  have HQ := Lib.hid hq
  have HQ2 := Lib.hid hq2
  have HRR := Lib.hid hrr
  have HR := Lib.hid hR
  have HRd := Lib.hid hr
  have HOK := Lib.hid (fun x w => okT_any x w)
  clear hq hq2 hrr hR hr
  have hn' : ¬ (2048 < (l.length : Int)) := by omega
  have b0 : (kk == 0) = false := by rw [beq_eq_false_iff_ne]; omega
  have b1 : (kk == 1) = false := by rw [beq_eq_false_iff_ne]; omega
  obtain ⟨y, b2⟩ : ∃ y, (kk == 2) = y := ⟨_, rfl⟩
  have b3 : y = false → (kk == 3) = true := fun h => by
    rw [h, beq_eq_false_iff_ne] at b2
    rw [beq_iff_eq]
    omega
  clear hk
  go_enter Tryz.func29, Tryz.ntmps29
  go_upto_region 5 with (fail)
  go_cut [4] (fun s4 wx => s4 = .bool q ∧ Hid (Fr Nob w wx) ∧ Hid (Blk wx (w.heap.size + 1) [.int .i64 kk, .int .i64 0, .int .i64 0, .int .i64 gf, .int .i64 gt, .int .i64 ins, .slice none 0 0, .int .i64 mk] 24) ∧ Hid (Blk wx w.heap.size [.int .i64 kk, .int .i64 f, .int .i64 t, .int .i64 gf, .int .i64 gt, .int .i64 ins, .slice A l.length c, .int .i64 mk] 24))
  case first =>
    go_wp2_with fail
    all_goals
      go_meet
      refine ⟨?_, ((Fr.refl Nob w).alloc _).alloc _, Blk.new_at (w.alloc _) _ _ (w.heap.size + 1) (by simp), (Blk.new w _ _).alloc _⟩
      have := HQ.out
      rw [← HQ.out]
      first
        | (rw [show ok0S f t = true from (ok0S_iff f t).2 (by omega)]; done)
        | (rw [show ok0S f t = false from by rw [← Bool.not_eq_true, ok0S_iff]; omega]; done)
        | (congr 1; rw [Bool.eq_iff_iff, ok0S_iff, decide_eq_true_iff]; omega)
  case rest =>
    obtain ⟨rfl, HF, HB, HA⟩ := hcut
    have p3 := HB.out.cell 3
    have p4 := HB.out.cell 4
    have p5 := HB.out.cell 5
    have a0 := HA.out.cell 0
    have a1 := HA.out.cell 1
    have a2 := HA.out.cell 2
    have a6 := HA.out.cell 6
    have a7 := HA.out.cell 7
    have hlA := HA.out.lt
    have hlB := HB.out.lt
    simp only [List.getElem?_cons_zero, List.getElem?_cons_succ] at p3 p4 p5 a0 a1 a2 a6 a7
    obtain ⟨q1, hq1⟩ : ∃ q1, (q && decide (f < t) && ((((listM mk).length : Int)) == 1) && ((l.length : Int) == 0)) = q1 := ⟨_, rfl⟩
    have HQ3 := Lib.hid (show (q1 && (gf == 0) && (gt == 0) && (ins == 0)) = q2 by rw [← hq1]; exact HQ2.out)
    have HQ1 := Lib.hid hq1
    clear hq1
    cases y
    all_goals
      try have b3' := b3 rfl
      clear b3
      go_upto_region 14 with (fail)
      go_cut [4] (fun s4 wx => s4 = .bool q1 ∧ Hid (Fr Nob w wx) ∧ Hid (Blk wx (w.heap.size + 1) [.int .i64 kk, .int .i64 0, .int .i64 0, .int .i64 gf, .int .i64 gt, .int .i64 ins, .slice none 0 0, .int .i64 mk] 24) ∧ Hid (Blk wx w.heap.size [.int .i64 kk, .int .i64 f, .int .i64 t, .int .i64 gf, .int .i64 gt, .int .i64 ins, .slice A l.length c, .int .i64 mk] 24))
      case first =>
        cases q
        · go_wp2_with fail
          go_meet
          exact ⟨by rw [← HQ1.out]; rfl, HF.out, HB.out, HA.out⟩
        · by_cases hft : f < t
          · have HL := Lib.hid (list_any mk)
            obtain ⟨z1, g1⟩ : ∃ z, (((listM mk).length : Int) == 1) = z := ⟨_, rfl⟩
            obtain ⟨z2, g2⟩ : ∃ z, ((l.length : Int) == 0) = z := ⟨_, rfl⟩
            have HG1 := Lib.hid g1
            have HG2 := Lib.hid g2
            clear g1 g2
            have HQ4 := Lib.hid (show (z1 && z2) = q1 by rw [← HQ1.out, decide_eq_true hft, HG1.out, HG2.out]; rfl)
            go_wp2_with fail
            refine (HL.out _).mono ?_
            rintro e w3 ⟨v, rfl, hv, hbl⟩
            obtain ⟨VA, vc, hvv, _, _⟩ := Rd.of_own (M := Nob) hv (fun _ _ h => h)
            subst hvv
            have hf3 : Fr Nob wc w3 := Fr.of_below hbl
            have HF3 := Lib.hid (HF.out.same hf3)
            have HB3 := Lib.hid (HB.out.fr hf3 (fun h => h))
            have HA3 := Lib.hid (HA.out.fr hf3 (fun h => h))
            have c6 := HA3.out.cell 6
            have hlc := HA3.out.lt
            simp only [List.getElem?_cons_zero, List.getElem?_cons_succ] at c6
            have g1 := HG1.out
            have g2 := HG2.out
            clear hv hbl hf3
            generalize (listM mk).length = nl at g1 ⊢
            cases z1
            all_goals
              cases z2
              all_goals
                go_wp2_with fail
                go_meet
                exact ⟨by rw [← HQ4.out]; rfl, HF3.out, HB3.out, HA3.out⟩
          · have HQ5 := Lib.hid (show false = q1 by rw [← HQ1.out, decide_eq_false hft]; rfl)
            go_wp2_with fail
            go_meet
            exact ⟨by rw [← HQ5.out], HF.out, HB.out, HA.out⟩
      case rest =>
        obtain ⟨rfl, HF, HB, HA⟩ := hcut
        have p3 := HB.out.cell 3
        have p4 := HB.out.cell 4
        have p5 := HB.out.cell 5
        have a0 := HA.out.cell 0
        have a1 := HA.out.cell 1
        have a2 := HA.out.cell 2
        have a6 := HA.out.cell 6
        have a7 := HA.out.cell 7
        have hlA := HA.out.lt
        have hlB := HB.out.lt
        simp only [List.getElem?_cons_zero, List.getElem?_cons_succ] at p3 p4 p5 a0 a1 a2 a6 a7
        go_upto_region 16 with (fail)
        go_cut [4] (fun s4 wx => s4 = .bool q2 ∧ Hid (Fr Nob w wx) ∧ Hid (Blk wx (w.heap.size + 1) [.int .i64 kk, .int .i64 0, .int .i64 0, .int .i64 gf, .int .i64 gt, .int .i64 ins, .slice none 0 0, .int .i64 mk] 24) ∧ Hid (Blk wx w.heap.size [.int .i64 kk, .int .i64 f, .int .i64 t, .int .i64 gf, .int .i64 gt, .int .i64 ins, .slice A l.length c, .int .i64 mk] 24))
        case first =>
          obtain ⟨z3, h3⟩ : ∃ z, (gf == 0) = z := ⟨_, rfl⟩
          obtain ⟨z4, h4⟩ : ∃ z, (gt == 0) = z := ⟨_, rfl⟩
          obtain ⟨z5, h5⟩ : ∃ z, (ins == 0) = z := ⟨_, rfl⟩
          have HZ3 := Lib.hid h3
          have HZ4 := Lib.hid h4
          have HZ5 := Lib.hid h5
          cases z3 <;> cases z4 <;> cases z5 <;> cases q1
          all_goals
            go_wp2_with fail
            go_meet
            exact ⟨by rw [← HQ3.out, HZ3.out, HZ4.out, HZ5.out]; rfl, HF.out, HB.out, HA.out⟩
        case rest =>
          obtain ⟨rfl, HF, HB, HA⟩ := hcut
          have p3 := HB.out.cell 3
          have p4 := HB.out.cell 4
          have p5 := HB.out.cell 5
          have a0 := HA.out.cell 0
          have a1 := HA.out.cell 1
          have a2 := HA.out.cell 2
          have a6 := HA.out.cell 6
          have a7 := HA.out.cell 7
          have hlA := HA.out.lt
          have hlB := HB.out.lt
          simp only [List.getElem?_cons_zero, List.getElem?_cons_succ] at p3 p4 p5 a0 a1 a2 a6 a7
          clear p3 p4 p5 a0 a1 a2 a7
          go_wp2_with fail
          go_loopg [4, 123] (l.length) (fun n s4 i wr => ∃ (k : Nat) (b : Bool), n = l.length - k ∧ k ≤ l.length ∧ s4 = .bool b ∧ i = .int .i64 k ∧ Hid (Fr Nob w wr) ∧ Hid ((b && (l.drop k).all okT) = R))
          case atStart => exact ⟨0, q2, rfl, Nat.zero_le _, rfl, rfl, HF.out, HR.out⟩
          case round =>
            obtain ⟨k, b, rfl, hk, rfl, rfl, HF2, HC⟩ := hrel
            by_cases hlt : k < l.length
            · have ht : ((k : Int) < (l.length : Int)) := by omega
              obtain ⟨ad, rfl, _, hlb, q0', q⟩ := Rd.elt Tok.cells_len (by omega) (HRd.out.fr HF2.out (fun _ _ h => h.elim)) hlt
              have hdr : l.drop k = l[k] :: l.drop (k + 1) := List.drop_eq_getElem_cons hlt
              generalize l[k] = x at q0' q hdr
              have d1 := q 0 (by omega)
              have d2 := q 1 (by omega)
              have d3 := q 2 (by omega)
              simp only [Tok.cells, List.getElem?_cons_zero, List.getElem?_cons_succ, Nat.reduceAdd] at q0' d1 d2 d3
              have hcc := HC.out
              rw [hdr, List.all_cons] at hcc
              have HCC := Lib.hid hcc
              clear q hdr HC hcc
              cases b
              · have HE := Lib.hid (show (false && (l.drop (k + 1)).all okT) = R by rw [← HCC.out]; simp)
                go_wp2_with fail
                go_roundg (l.length - (k + 1))
                case measure => omega
                case rel => exact ⟨k + 1, false, rfl, by omega, rfl, by first | rfl | go_num, HF2.out.alloc _, HE.out⟩
              · go_wp2_with fail
                refine (HOK.out x _).mono ?_
                rintro e w3 ⟨rfl, hF3⟩
                have HF3 := Lib.hid ((HF2.out.alloc (.cells #[.int .i64 x.k, .int .i64 x.t, .int .i64 x.n, .int .i64 x.m] 65)).same hF3)
                have HE := Lib.hid (show (okT x && (l.drop (k + 1)).all okT) = R by rw [← HCC.out]; simp)
                clear hF3 HCC
                generalize okT x = bx at HE
                go_wp2_with fail
                go_roundg (l.length - (k + 1))
                case measure => omega
                case rel => exact ⟨k + 1, bx, rfl, by omega, rfl, by first | rfl | go_num, HF3.out, HE.out⟩
            · have ht : ¬ ((k : Int) < (l.length : Int)) := by omega
              have hcc := HC.out
              rw [List.drop_eq_nil_of_le (by omega), List.all_nil, Bool.and_true] at hcc
              have HE := Lib.hid (show (if b = true then (0 : Int) else 1) = r by rw [← HRR.out, ← hcc])
              clear hcc HC
              cases b
              · go_wp2_with fail
                go_ret
                exact ⟨by rw [← HE.out]; rfl, HF2.out⟩
              · go_wp2_with fail
                go_ret
                exact ⟨by rw [← HE.out]; rfl, HF2.out⟩
end Go.Proofs.YtanbfplcldloeaaGreatDoor

/- Chapter 9: may a step be: around. -/
namespace Go.Proofs.YtanbfplcldloeaaGreatDoor
open Go.RowKit
def aroS (f t gf gt ins : Int) (n : Nat) : Bool := decide (f ≤ gf ∧ gf < gt ∧ gt ≤ t ∧ 0 ≤ ins ∧ ins ≤ (n : Int))
theorem aroS_iff (f t gf gt ins : Int) (n : Nat) : aroS f t gf gt ins n = true ↔ (f ≤ gf ∧ gf < gt ∧ gt ≤ t ∧ 0 ≤ ins ∧ ins ≤ (n : Int)) := by unfold aroS; exact decide_eq_true_iff
/-- A step around asks for its gap. -/
def okAro (f t gf gt ins mk : Int) (n : Nat) : Bool := (ok0S f t && aroS f t gf gt ins n) && (mk == 0)
set_option maxRecDepth 100000 in
set_option maxHeartbeats 4000000 in
theorem stepcheck_aro (M : Nat → Prop) (f t gf gt ins mk : Int) (A : Option Addr) (l : List Tok) (c : Nat) (w : World) (r : Int) (hr : Rd M w A (tokC l)) (hn : l.length ≤ 2048) (hrr : (if (okAro f t gf gt ins mk l.length && l.all okT) = true then (0 : Int) else 1) = r) :
    Calls Tryz.prog 29 #[.agg #[.int .i64 1, .int .i64 f, .int .i64 t, .int .i64 gf, .int .i64 gt, .int .i64 ins, .slice A l.length c, .int .i64 mk]] w fun e w' => e = .returned (.int .i64 r) ∧ Fr Nob w w' := by
  obtain ⟨q, hq⟩ : ∃ q, ok0S f t = q := ⟨_, rfl⟩
  obtain ⟨q2, hq2⟩ : ∃ q2, okAro f t gf gt ins mk l.length = q2 := ⟨_, rfl⟩
  obtain ⟨R, hR⟩ : ∃ R, (q2 && l.all okT) = R := ⟨_, rfl⟩
  rw [hq2, hR] at hrr
  unfold okAro at hq2
  rw [hq] at hq2
  have HQ := Lib.hid hq
  have HQ2 := Lib.hid hq2
  have HRR := Lib.hid hrr
  have HR := Lib.hid hR
  have HRd := Lib.hid hr
  have HOK := Lib.hid (fun x w => okT_any x w)
  clear hq hq2 hrr hR hr
  have hn' : ¬ (2048 < (l.length : Int)) := by omega
  go_enter Tryz.func29, Tryz.ntmps29
  go_upto_region 5 with (fail)
  go_cut [4] (fun s4 wx => s4 = .bool q ∧ Hid (Fr Nob w wx) ∧ Hid (Blk wx (w.heap.size + 1) [.int .i64 1, .int .i64 0, .int .i64 0, .int .i64 gf, .int .i64 gt, .int .i64 ins, .slice none 0 0, .int .i64 mk] 24) ∧ Hid (Blk wx w.heap.size [.int .i64 1, .int .i64 f, .int .i64 t, .int .i64 gf, .int .i64 gt, .int .i64 ins, .slice A l.length c, .int .i64 mk] 24))
  case first =>
    go_wp2_with fail
    all_goals
      go_meet
      refine ⟨?_, ((Fr.refl Nob w).alloc _).alloc _, Blk.new_at (w.alloc _) _ _ (w.heap.size + 1) (by simp), (Blk.new w _ _).alloc _⟩
      have := HQ.out
      rw [← HQ.out]
      first
        | (rw [show ok0S f t = true from (ok0S_iff f t).2 (by omega)]; done)
        | (rw [show ok0S f t = false from by rw [← Bool.not_eq_true, ok0S_iff]; omega]; done)
        | (congr 1; rw [Bool.eq_iff_iff, ok0S_iff, decide_eq_true_iff]; omega)
  case rest =>
    obtain ⟨rfl, HF, HB, HA⟩ := hcut
    have p3 := HB.out.cell 3
    have p4 := HB.out.cell 4
    have p5 := HB.out.cell 5
    have p7 := HB.out.cell 7
    have a0 := HA.out.cell 0
    have a1 := HA.out.cell 1
    have a2 := HA.out.cell 2
    have a3 := HA.out.cell 3
    have a4 := HA.out.cell 4
    have a5 := HA.out.cell 5
    have a6 := HA.out.cell 6
    have hlA := HA.out.lt
    have hlB := HB.out.lt
    simp only [List.getElem?_cons_zero, List.getElem?_cons_succ] at p3 p4 p5 p7 a0 a1 a2 a3 a4 a5 a6
    obtain ⟨q1, hq1⟩ : ∃ q1, (q && aroS f t gf gt ins l.length) = q1 := ⟨_, rfl⟩
    have HQ3 := Lib.hid (show (q1 && (mk == 0)) = q2 by rw [← hq1]; exact HQ2.out)
    have HQ1 := Lib.hid hq1
    clear hq1
    go_upto_region 11 with (fail)
    go_cut [4] (fun s4 wx => s4 = .bool q1 ∧ Hid (Fr Nob w wx) ∧ Hid (Blk wx (w.heap.size + 1) [.int .i64 1, .int .i64 0, .int .i64 0, .int .i64 gf, .int .i64 gt, .int .i64 ins, .slice none 0 0, .int .i64 mk] 24) ∧ Hid (Blk wx w.heap.size [.int .i64 1, .int .i64 f, .int .i64 t, .int .i64 gf, .int .i64 gt, .int .i64 ins, .slice A l.length c, .int .i64 mk] 24))
    case first =>
      cases q
      · go_wp2_with fail
        go_meet
        exact ⟨by rw [← HQ1.out]; rfl, HF.out, HB.out, HA.out⟩
      · have HQ1' := Lib.hid (show aroS f t gf gt ins l.length = q1 by rw [← HQ1.out]; rfl)
        go_wp2_with fail
        all_goals
          go_meet
          refine ⟨?_, HF.out, HB.out, HA.out⟩
          rw [← HQ1'.out]
          first
            | (rw [show aroS f t gf gt ins l.length = true from (aroS_iff f t gf gt ins l.length).2 (by omega)]; done)
            | (rw [show aroS f t gf gt ins l.length = false from by rw [← Bool.not_eq_true, aroS_iff]; omega]; done)
            | (congr 1; rw [Bool.eq_iff_iff, aroS_iff, decide_eq_true_iff]; omega)
    case rest =>
      obtain ⟨rfl, HF, HB, HA⟩ := hcut
      have p3 := HB.out.cell 3
      have p4 := HB.out.cell 4
      have p5 := HB.out.cell 5
      have p7 := HB.out.cell 7
      have a0 := HA.out.cell 0
      have a1 := HA.out.cell 1
      have a2 := HA.out.cell 2
      have a3 := HA.out.cell 3
      have a4 := HA.out.cell 4
      have a5 := HA.out.cell 5
      have a6 := HA.out.cell 6
      have hlA := HA.out.lt
      have hlB := HB.out.lt
      simp only [List.getElem?_cons_zero, List.getElem?_cons_succ] at p3 p4 p5 p7 a0 a1 a2 a3 a4 a5 a6
      have f3 := HB.out.frozen 3
      have f4 := HB.out.frozen 4
      have f5 := HB.out.frozen 5
      go_upto_region 13 with (fail)
      obtain ⟨W, hW⟩ : ∃ W, ((wc.setCell ⟨w.heap.size + 1, 3, none⟩ (.int .i64 0)).setCell ⟨w.heap.size + 1, 4, none⟩ (.int .i64 0)).setCell ⟨w.heap.size + 1, 5, none⟩ (.int .i64 0) = W := ⟨_, rfl⟩
      have HF2 := Lib.hid (show Fr Nob w W by rw [← hW]; exact ((HF.out.setCell (p := ⟨w.heap.size + 1, 3, none⟩) (.inr (Nat.le_succ _)) _).setCell (p := ⟨w.heap.size + 1, 4, none⟩) (.inr (Nat.le_succ _)) _).setCell (p := ⟨w.heap.size + 1, 5, none⟩) (.inr (Nat.le_succ _)) _)
      have HB2 := Lib.hid (show Blk W (w.heap.size + 1) [.int .i64 1, .int .i64 0, .int .i64 0, .int .i64 0, .int .i64 0, .int .i64 0, .slice none 0 0, .int .i64 mk] 24 by rw [← hW]; exact ((HB.out.set 3 (.int .i64 0)).set 4 (.int .i64 0)).set 5 (.int .i64 0))
      have HA2 := Lib.hid (show Blk W w.heap.size [.int .i64 1, .int .i64 f, .int .i64 t, .int .i64 gf, .int .i64 gt, .int .i64 ins, .slice A l.length c, .int .i64 mk] 24 by rw [← hW]; exact ((HA.out.far (p := ⟨w.heap.size + 1, 3, none⟩) (by simp) _).far (p := ⟨w.heap.size + 1, 4, none⟩) (by simp) _).far (p := ⟨w.heap.size + 1, 5, none⟩) (by simp) _)
      rw [hW]
      clear hW HF HB HA p3 p4 p5 p7 a0 a1 a2 a3 a4 a5 a6 hlA hlB f3 f4 f5
      have HF := HF2
      have HB := HB2
      have HA := HA2
      have p3 := HB.out.cell 3
      have p4 := HB.out.cell 4
      have p5 := HB.out.cell 5
      have p7 := HB.out.cell 7
      have a0 := HA.out.cell 0
      have a1 := HA.out.cell 1
      have a2 := HA.out.cell 2
      have a3 := HA.out.cell 3
      have a4 := HA.out.cell 4
      have a5 := HA.out.cell 5
      have a6 := HA.out.cell 6
      have hlA := HA.out.lt
      have hlB := HB.out.lt
      simp only [List.getElem?_cons_zero, List.getElem?_cons_succ] at p3 p4 p5 p7 a0 a1 a2 a3 a4 a5 a6
      go_cut [4] (fun s4 wx => s4 = .bool q2 ∧ Hid (Fr Nob w wx) ∧ Hid (Blk wx (w.heap.size + 1) [.int .i64 1, .int .i64 0, .int .i64 0, .int .i64 0, .int .i64 0, .int .i64 0, .slice none 0 0, .int .i64 mk] 24) ∧ Hid (Blk wx w.heap.size [.int .i64 1, .int .i64 f, .int .i64 t, .int .i64 gf, .int .i64 gt, .int .i64 ins, .slice A l.length c, .int .i64 mk] 24))
      case first =>
        obtain ⟨z, hz⟩ : ∃ z, (mk == 0) = z := ⟨_, rfl⟩
        have HZ := Lib.hid hz
        cases z
        all_goals
          cases q1
          all_goals
            go_wp2_with fail
            go_meet
            exact ⟨by rw [← HQ3.out, HZ.out]; rfl, HF.out, HB.out, HA.out⟩
      case rest =>
        obtain ⟨rfl, HF, HB, HA⟩ := hcut
        have p3 := HB.out.cell 3
        have p4 := HB.out.cell 4
        have p5 := HB.out.cell 5
        have p7 := HB.out.cell 7
        have a0 := HA.out.cell 0
        have a1 := HA.out.cell 1
        have a2 := HA.out.cell 2
        have a3 := HA.out.cell 3
        have a4 := HA.out.cell 4
        have a5 := HA.out.cell 5
        have a6 := HA.out.cell 6
        have hlA := HA.out.lt
        have hlB := HB.out.lt
        simp only [List.getElem?_cons_zero, List.getElem?_cons_succ] at p3 p4 p5 p7 a0 a1 a2 a3 a4 a5 a6
        go_upto_region 16 with (fail)
        go_cut [4] (fun s4 wx => s4 = .bool q2 ∧ Hid (Fr Nob w wx) ∧ Hid (Blk wx (w.heap.size + 1) [.int .i64 1, .int .i64 0, .int .i64 0, .int .i64 0, .int .i64 0, .int .i64 0, .slice none 0 0, .int .i64 mk] 24) ∧ Hid (Blk wx w.heap.size [.int .i64 1, .int .i64 f, .int .i64 t, .int .i64 gf, .int .i64 gt, .int .i64 ins, .slice A l.length c, .int .i64 mk] 24))
        case first =>
          cases q2
          all_goals
            go_wp2_with fail
            go_meet
            exact ⟨rfl, HF.out, HB.out, HA.out⟩
        case rest =>
          obtain ⟨rfl, HF, HB, HA⟩ := hcut
          have p3 := HB.out.cell 3
          have p4 := HB.out.cell 4
          have p5 := HB.out.cell 5
          have p7 := HB.out.cell 7
          have a0 := HA.out.cell 0
          have a1 := HA.out.cell 1
          have a2 := HA.out.cell 2
          have a3 := HA.out.cell 3
          have a4 := HA.out.cell 4
          have a5 := HA.out.cell 5
          have a6 := HA.out.cell 6
          have hlA := HA.out.lt
          have hlB := HB.out.lt
          simp only [List.getElem?_cons_zero, List.getElem?_cons_succ] at p3 p4 p5 p7 a0 a1 a2 a3 a4 a5 a6
          clear a0 a1 a2 a3 a4 a5
          go_wp2_with fail
          go_loopg [4, 123] (l.length) (fun n s4 i wr => ∃ (k : Nat) (b : Bool), n = l.length - k ∧ k ≤ l.length ∧ s4 = .bool b ∧ i = .int .i64 k ∧ Hid (Fr Nob w wr) ∧ Hid ((b && (l.drop k).all okT) = R))
          case atStart => exact ⟨0, q2, rfl, Nat.zero_le _, rfl, rfl, HF.out, HR.out⟩
          case round =>
            obtain ⟨k, b, rfl, hk, rfl, rfl, HF2, HC⟩ := hrel
            by_cases hlt : k < l.length
            · have ht : ((k : Int) < (l.length : Int)) := by omega
              obtain ⟨ad, rfl, _, hlb, q0', q⟩ := Rd.elt Tok.cells_len (by omega) (HRd.out.fr HF2.out (fun _ _ h => h.elim)) hlt
              have hdr : l.drop k = l[k] :: l.drop (k + 1) := List.drop_eq_getElem_cons hlt
              generalize l[k] = x at q0' q hdr
              have d1 := q 0 (by omega)
              have d2 := q 1 (by omega)
              have d3 := q 2 (by omega)
              simp only [Tok.cells, List.getElem?_cons_zero, List.getElem?_cons_succ, Nat.reduceAdd] at q0' d1 d2 d3
              have hcc := HC.out
              rw [hdr, List.all_cons] at hcc
              have HCC := Lib.hid hcc
              clear q hdr HC hcc
              cases b
              · have HE := Lib.hid (show (false && (l.drop (k + 1)).all okT) = R by rw [← HCC.out]; simp)
                go_wp2_with fail
                go_roundg (l.length - (k + 1))
                case measure => omega
                case rel => exact ⟨k + 1, false, rfl, by omega, rfl, by first | rfl | go_num, HF2.out.alloc _, HE.out⟩
              · go_wp2_with fail
                refine (HOK.out x _).mono ?_
                rintro e w3 ⟨rfl, hF3⟩
                have HF3 := Lib.hid ((HF2.out.alloc (.cells #[.int .i64 x.k, .int .i64 x.t, .int .i64 x.n, .int .i64 x.m] 65)).same hF3)
                have HE := Lib.hid (show (okT x && (l.drop (k + 1)).all okT) = R by rw [← HCC.out]; simp)
                clear hF3 HCC
                generalize okT x = bx at HE
                go_wp2_with fail
                go_roundg (l.length - (k + 1))
                case measure => omega
                case rel => exact ⟨k + 1, bx, rfl, by omega, rfl, by first | rfl | go_num, HF3.out, HE.out⟩
            · have ht : ¬ ((k : Int) < (l.length : Int)) := by omega
              have hcc := HC.out
              rw [List.drop_eq_nil_of_le (by omega), List.all_nil, Bool.and_true] at hcc
              have HE := Lib.hid (show (if b = true then (0 : Int) else 1) = r by rw [← HRR.out, ← hcc])
              clear hcc HC
              cases b
              · go_wp2_with fail
                go_ret
                exact ⟨by rw [← HE.out]; rfl, HF2.out⟩
              · go_wp2_with fail
                go_ret
                exact ⟨by rw [← HE.out]; rfl, HF2.out⟩
end Go.Proofs.YtanbfplcldloeaaGreatDoor

/- Chapter 9: may a step be: all kinds. -/
namespace Go.Proofs.YtanbfplcldloeaaGreatDoor
open Go.RowKit
def kindOk (s : StepM) : Bool :=
  if s.k = 0 then okRep s.f s.t s.gf s.gt s.ins s.m
  else if s.k = 1 then okAro s.f s.t s.gf s.gt s.ins s.m s.l.length
  else if s.k = 2 ∨ s.k = 3 then okMark s.f s.t s.gf s.gt s.ins s.m s.l.length
  else false
/-- What 'Check' answers. -/
def stepF (s : StepM) : Int := if 2048 < s.l.length then 2 else if (kindOk s && s.l.all okT) = true then 0 else 1
theorem stepcheck_any (M : Nat → Prop) (s : StepM) (A : Option Addr) (c : Nat) (w : World) (hr : Rd M w A (tokC s.l)) :
    Calls Tryz.prog 29 #[.agg (s.cells (.slice A s.l.length c)).toArray] w fun e w' => e = .returned (.int .i64 (stepF s)) ∧ Fr Nob w w' := by
  obtain ⟨k, f, t, gf, gt, ins, m, l⟩ := s
  by_cases hn : 2048 < l.length
  · have h : stepF ⟨k, f, t, gf, gt, ins, m, l⟩ = 2 := if_pos hn
    rw [h]
    exact stepcheck_long k f t gf gt ins m A l.length c w hn
  · have hn' : l.length ≤ 2048 := by omega
    have h : stepF ⟨k, f, t, gf, gt, ins, m, l⟩ = if (kindOk ⟨k, f, t, gf, gt, ins, m, l⟩ && l.all okT) = true then 0 else 1 := if_neg hn
    by_cases h0 : k = 0
    · subst h0
      exact stepcheck_rep M f t gf gt ins m A l c w _ hr hn' (by rw [h]; rfl)
    · by_cases h1 : k = 1
      · subst h1
        exact stepcheck_aro M f t gf gt ins m A l c w _ hr hn' (by rw [h]; rfl)
      · by_cases h2 : k = 2 ∨ k = 3
        · exact stepcheck_mark M k f t gf gt ins m A l c w _ hr hn' h2 (by rw [h]; simp only [kindOk, h0, h1, h2, if_true, if_false])
        · exact stepcheck_none M k f t gf gt ins m A l c w _ hr hn' h0 h1 (fun e => h2 (.inl e)) (fun e => h2 (.inr e)) (by rw [h]; simp only [kindOk, h0, h1, h2, if_false])
end Go.Proofs.YtanbfplcldloeaaGreatDoor

/- The builtin copy of elements of some cells each, out of any row into a row that is known whole. -/
namespace Go.Proofs.YtanbfplcldloeaaGreatDoor
open Go.RowKit
/-- Nothing goes over where one of the two has no element. -/
theorem run_copy_noneS {P : Program} (w : World) (dT sT ty elem : TypeId) (d a : Option Addr) (dLen dCap sLen sCap sz : Nat) (hu : P.underlying dT = some (.slice elem)) (hs : (P.info? elem).map (·.size) = some sz) (hn : Nat.min sLen dLen = 0) :
    (Builtin.copy_ #[dT, sT] ty #[.slice d dLen dCap, .slice a sLen sCap]).run P w = .ok (goInt 0) w := by
  cases hq : P.info? elem with
  | none => simp [hq] at hs
  | some i =>
    have hl : ∀ (x : Addr), (loadCells x 0).run P w = .ok #[] w := fun x => by simpa using run_loadCells_list (P := P) w x [] (by simp)
    cases d <;> cases a <;> simp [Builtin.copy_, run_underlying hu, Builtin.lenOf, Builtin.firstCells, sizeOf, typeInfo, hq, hn, storeCells, hl]
theorem run_copy_rowS {P : Program} (w : World) (dT sT ty elem : TypeId) (g o dLen dCap : Nat) (a : Addr) (sLen sCap sz : Nat) (cur : Array Value) (t : TypeId) (cs : List Value)
    (hu : P.underlying dT = some (.slice elem)) (hs : (P.info? elem).map (·.size) = some sz)
    (hg : w.heap[g]? = some (.cells cur t (0, 0))) (hn : cs.length = Nat.min sLen dLen * sz)
    (hsrc : ∀ j v, cs[j]? = some v → w.cell? (a.add j) = some v) (hfit : o + cs.length ≤ cur.size) (h1 : ∀ v ∈ cs, v.oneCell' = true) :
    (Builtin.copy_ #[dT, sT] ty #[.slice (some ⟨g, o, none⟩) dLen dCap, .slice (some a) sLen sCap]).run P w =
      .ok (goInt (Nat.min sLen dLen)) (w.setRow g (cur.toList.take o ++ cs ++ cur.toList.drop (o + cs.length)).toArray) := by
  have hl := run_loadCells_list (P := P) w a cs hsrc
  have hst := run_storeCells_at P g o t cs 0 cur w hg (by simpa using hfit) h1
  cases hq : P.info? elem with
  | none => simp [hq] at hs
  | some i =>
    have hi : i.size = sz := by simpa [hq] using hs
    simp [Builtin.copy_, run_underlying hu, Builtin.lenOf, Builtin.firstCells, sizeOf, typeInfo, hq, hi, ← hn, hl, hst]
/-- copy as a step of the walk: the row behind it is the splice of the two. -/
theorem wpList_copyS {P : Program} {w : World} {ops : Array Oper} {rest : List Oper} {o : Oper} {a : Act} {Q : Exit → Act → World → Prop} (hgd : o.guard = none) (d s : Operand) (dT sT : TypeId)
    (ho : o.op = .call { callee := .builtin .copy, args := #[d, s], argTypes := #[dT, sT] }) (elem : TypeId) (sz : Nat) (hu : P.underlying dT = some (.slice elem)) (hsz : (P.info? elem).map (·.size) = some sz)
    (dp sp : Option Addr) (dLen dCap sLen sCap : Nat) (hd : a.eval d = .slice dp dLen dCap) (hs : a.eval s = .slice sp sLen sCap)
    (g off : Nat) (cur : List Value) (t : TypeId) (hg : Blk w g cur t) (cs : List Value) (hn : cs.length = Nat.min sLen dLen * sz) (hz : 0 < sz)
    (hpos : 0 < cs.length → dp = some ⟨g, off, none⟩ ∧ ∃ ad, sp = some ad ∧ ∀ j v, cs[j]? = some v → w.cell? (ad.add j) = some v)
    (hfit : off + cs.length ≤ cur.length) (h1 : ∀ v ∈ cs, v.oneCell' = true) (m : Nat) (hm : m = Nat.min sLen dLen)
    (h : ∀ w', Hid (Blk w' g (splice cur off cs) t) → Hid (Fr (One g) w w') → wpList P ops Q rest (a.put o.dst (goInt m)) w') :
    wpList P ops Q (o :: rest) a w := by
  subst hm
  by_cases h0 : cs.length = 0
  · obtain rfl : cs = [] := List.eq_nil_of_length_eq_zero h0
    have hmin : Nat.min sLen dLen = 0 := by
      rcases Nat.eq_zero_or_pos (Nat.min sLen dLen) with h | h
      · exact h
      · have := Nat.mul_pos h hz
        simp only [List.length_nil] at hn
        omega
    refine wpList_plain hgd fun K hK => ?_
    have hrun := run_copy_noneS (P := P) w dT sT o.type elem dp sp dLen dCap sLen sCap sz hu hsz hmin
    unfold Oper.wp
    simp [execOp, ho, resolve, invoke, builtin, hd, hs, hrun, Result.andThen]
    refine hK _ _ ?_
    have := h w (show _ = _ by have h' : _ = _ := hg; simpa [splice] using h') (Fr.refl _ _)
    rwa [hmin] at this
  · obtain ⟨rfl, ad, rfl, hsrc⟩ := hpos (by omega)
    refine wpList_plain hgd fun K hK => ?_
    have hrun := run_copy_rowS (P := P) w dT sT o.type elem g off dLen dCap ad sLen sCap sz cur.toArray t cs hu hsz hg hn hsrc (by simpa using hfit) h1
    unfold Oper.wp
    simp [execOp, ho, resolve, invoke, builtin, hd, hs, hrun, Result.andThen]
    refine hK _ _ (h _ (show _ = _ by simpa [splice] using setRow_heap w g _ _ t _ hg) ?_)
    exact ⟨rfl, rfl, rfl, by simp [World.setRow], fun k hk hne => setRow_other w g k _ hne⟩
end Go.Proofs.YtanbfplcldloeaaGreatDoor

/- Chapter 9: lists, joined into an own one. -/
namespace Go.Proofs.YtanbfplcldloeaaGreatDoor
open Go.RowKit
theorem Tok.cells_len4 (x : Tok) : x.cells.length = 4 := rfl
theorem infoTok : (Tryz.prog.info? 65).map (fun i => (i.zero, i.size, i.bytes)) = some (some (.agg #[.int .i64 0, .int .i64 0, .int .i64 0, .int .i64 0]), 4, 32) := by kernel_rfl
theorem infoTok4 : (Tryz.prog.info? 65).map (·.size) = some 4 := by
  have h := infoTok
  cases hq : Tryz.prog.info? 65 with
  | none => rw [hq] at h; simp at h
  | some i => rw [hq] at h; simp only [Option.map_some, Option.some.injEq, Prod.mk.injEq] at h; simp [h.2.1]
/-- A new row of tokens. -/
theorem make_toks (n : Nat) (hn : n ≤ 1000000) (w : World) : ∃ cur : List Value, cur.length = 4 * n ∧
    (Instr.makeSlice 22 (.int .i64 (n : Int)) (.int .i64 (n : Int))).run Tryz.prog w = .ok (.slice (some ⟨w.heap.size, 0, none⟩) n n) (w.alloc (.cells cur.toArray 65)) := by
  obtain ⟨i, hi, hzz⟩ := Option.map_eq_some_iff.1 infoTok
  simp only [Prod.mk.injEq] at hzz
  obtain ⟨hz, hs, hb⟩ := hzz
  have hr := run_make (P := Tryz.prog) 22 65 i _ Tryz.underlying22 hi hz .i64 .i64 n n (by omega) (Int.le_refl _) (by rw [hb]; omega) (by omega) (w := w)
  rw [hs] at hr
  simp only [Int.toNat_natCast] at hr
  exact ⟨(madeCells (Value.agg #[.int .i64 0, .int .i64 0, .int .i64 0, .int .i64 0]).cells (n * 4)).toList, by rw [Array.length_toList, size_madeCells]; omega, by rw [hr]⟩
/-- A piece of a list: where it lies, what it could hold, what it holds. -/
structure Seg where
  a : Option Addr
  c : Nat
  l : List Tok
def Seg.v (x : Seg) : Value := .slice x.a x.l.length x.c
def segsL (L : List Seg) : List Tok := L.flatMap Seg.l
theorem segs_take (L : List Seg) (k : Nat) (hk : k < L.length) : segsL (L.take (k + 1)) = segsL (L.take k) ++ L[k].l := by
  rw [List.take_succ_eq_append_getElem hk]; unfold segsL; rw [List.flatMap_append, List.flatMap_singleton]
theorem segs_take_le (L : List Seg) (k : Nat) : (segsL (L.take k)).length ≤ (segsL L).length := by
  have : segsL L = segsL (L.take k) ++ segsL (L.drop k) := by unfold segsL; rw [← List.flatMap_append, List.take_append_drop]
  rw [this, List.length_append]; omega
theorem tokC_one (l : List Tok) : ∀ v ∈ tokC l, v.oneCell' = true := by
  intro v hv
  obtain ⟨x, _, hx⟩ := List.mem_flatMap.1 hv
  simp only [Tok.cells, List.mem_cons, List.not_mem_nil, or_false] at hx
  rcases hx with rfl | rfl | rfl | rfl <;> rfl
theorem splice_toks (d x : List Tok) (cur : List Value) (h : 4 * d.length + 4 * x.length ≤ cur.length) :
    splice (tokC d ++ cur.drop (4 * d.length)) (4 * d.length) (tokC x) = tokC (d ++ x) ++ cur.drop (4 * (d ++ x).length) := by
  unfold splice
  rw [List.take_append_of_le_length (by rw [tokC_length]; omega), List.take_of_length_le (by rw [tokC_length]; omega), List.drop_append, List.drop_eq_nil_of_le (by rw [tokC_length]; omega), List.nil_append, List.drop_drop, tokC_append, List.append_assoc]
  simp only [tokC_length, List.length_append]
  congr 3
  omega
/-- A list of one's own, in a block that is new. -/
def NewDoc (w0 w : World) (v : Value) (l : List Tok) : Prop := ∃ g, v = .slice (some ⟨g, 0, none⟩) l.length l.length ∧ w0.heap.size ≤ g ∧ Blk w g (tokC l) 65
theorem NewDoc.doc {w0 w : World} {v : Value} {l : List Tok} (h : NewDoc w0 w v l) : Doc (fun k => k < w0.heap.size) w v l := by
  obtain ⟨g, rfl, hg, hb⟩ := h
  refine ⟨_, l.length, rfl, Nat.le_refl _, fun _ => ⟨_, rfl, Nat.not_lt.2 hg, fun j u hu => ?_⟩⟩
  rw [add_lit]
  exact (hb.cell j).trans hu
theorem NewDoc.old {w0 w1 w : World} {v : Value} {l : List Tok} (h : NewDoc w1 w v l) (hs : w0.heap.size ≤ w1.heap.size) : NewDoc w0 w v l := by
  obtain ⟨g, rfl, hg, hb⟩ := h
  exact ⟨g, rfl, Nat.le_trans hs hg, hb⟩
set_option maxRecDepth 100000 in
set_option maxHeartbeats 4000000 in
theorem tokens_any (M : Nat → Prop) (L : List Seg) (A : Option Addr) (c : Nat) (w : World) (hr : Rd M w A (L.map Seg.v)) (hd : ∀ x ∈ L, Rd M w x.a (tokC x.l)) (hn : (segsL L).length ≤ 100000) (hL : L.length ≤ 100000) :
    Calls Tryz.prog 81 #[.slice A L.length c] w fun e w' => ∃ v, e = .returned v ∧ NewDoc w w' v (segsL L) ∧ Fr Nob w w' := by
  have HRd := Lib.hid hr
  have HD := Lib.hid hd
  clear hr hd
  go_enter Tryz.func81, Tryz.ntmps81
  go_wp2_with fail
  go_loopg [3, 12] (L.length) (fun n s i wr => ∃ (k : Nat), n = L.length - k ∧ k ≤ L.length ∧ s = .int .i64 (segsL (L.take k)).length ∧ i = .int .i64 k ∧ wr = w)
  case atStart => exact ⟨0, rfl, Nat.zero_le _, rfl, rfl, rfl⟩
  case round =>
    obtain ⟨k, rfl, hk, rfl, rfl, rfl⟩ := hrel
    by_cases hlt : k < L.length
    · have ht : ((k : Int) < (L.length : Int)) := by omega
      obtain ⟨ad, rfl, _, q0⟩ := (HRd.out).at_ (j := k) (by simpa using hlt)
      rw [List.getElem_map] at q0
      have hlb := cell_lt q0
      rw [add_block] at hlb
      have hs := segs_take L k hlt
      have hs1 := segs_take_le L (k + 1)
      rw [hs, List.length_append] at hs1
      generalize hx : L[k] = x at q0 hs hs1
      simp only [Seg.v] at q0
      have HS := Lib.hid (show (segsL (List.take (k + 1) L)).length = (segsL (List.take k L)).length + x.l.length by rw [hs, List.length_append])
      clear hs
      generalize (segsL (List.take k L)).length = m at HS hs1
      go_wp2_with fail
      go_roundg (L.length - (k + 1))
      case measure => omega
      case rel => exact ⟨k + 1, rfl, by omega, by rw [HS.out]; first | rfl | go_num, by first | rfl | go_num, rfl⟩
    · have ht : ¬ ((k : Int) < (L.length : Int)) := by omega
      obtain rfl : k = L.length := by omega
      rw [List.take_length]
      obtain ⟨N, hN⟩ : ∃ N, (segsL L).length = N := ⟨_, rfl⟩
      rw [hN] at hn ⊢
      obtain ⟨cur, hcl, hmk⟩ := make_toks N (by omega) wr
      obtain ⟨W, hW⟩ : ∃ W, wr.alloc (.cells cur.toArray 65) = W := ⟨_, rfl⟩
      have HF := Lib.hid (show Fr Nob wr W by rw [← hW]; exact (Fr.refl _ _).alloc _)
      have HB := Lib.hid (show Blk W wr.heap.size cur 65 by rw [← hW]; exact Blk.new _ _ _)
      rw [hW] at hmk
      clear hW
      go_wp2_with fail
      go_loopg [7, 25] (L.length) (fun n s i wx => ∃ (k : Nat), n = L.length - k ∧ k ≤ L.length ∧ s = .int .i64 (segsL (L.take k)).length ∧ i = .int .i64 k ∧ Hid (Fr Nob wr wx) ∧ Hid (Blk wx wr.heap.size (tokC (segsL (L.take k)) ++ cur.drop (4 * (segsL (L.take k)).length)) 65))
      case atStart => exact ⟨0, rfl, Nat.zero_le _, rfl, rfl, HF.out, show Blk _ _ _ _ by simpa [segsL, tokC] using HB.out⟩
      case round =>
        obtain ⟨k, rfl, hk, rfl, rfl, HF2, HB2⟩ := hrel
        by_cases hlt : k < L.length
        · have ht : ((k : Int) < (L.length : Int)) := by omega
          obtain ⟨ad, rfl, _, q0⟩ := (HRd.out.fr HF2.out (fun _ _ h => h.elim)).at_ (j := k) (by simpa using hlt)
          rw [List.getElem_map] at q0
          have hlb := cell_lt q0
          rw [add_block] at hlb
          have hs := segs_take L k hlt
          have hs1 := segs_take_le L (k + 1)
          rw [hs, List.length_append, hN] at hs1
          have HX := Lib.hid ((HD.out L[k] (List.getElem_mem hlt)).fr HF2.out (fun _ _ h => h.elim))
          generalize hx : L[k] = x at q0 hs hs1 HX
          obtain ⟨xa, xc, xl⟩ := x
          simp only [Seg.v] at q0 hs hs1 HX
          have HS := Lib.hid hs
          obtain ⟨d, hdd⟩ : ∃ d, segsL (List.take k L) = d := ⟨_, rfl⟩
          rw [hdd] at HS HB2 hs1 ⊢
          have hlen : (tokC d ++ cur.drop (4 * d.length)).length = 4 * N := by rw [List.length_append, tokC_length, List.length_drop]; omega
          have HSP := Lib.hid (splice_toks d xl cur (by omega))
          have hCs := tokC_length xl
          obtain ⟨Cs, hcs⟩ : ∃ Cs, tokC xl = Cs := ⟨_, rfl⟩
          have HC1 := Lib.hid (tokC_one xl)
          rw [hcs] at HX HSP hCs HC1
          obtain ⟨Cur, hcur⟩ : ∃ Cur, tokC d ++ cur.drop (4 * d.length) = Cur := ⟨_, rfl⟩
          rw [hcur] at HSP HB2 hlen
          obtain ⟨dl, hdl⟩ : ∃ dl, d.length = dl := ⟨_, rfl⟩
          obtain ⟨xn, hxn⟩ : ∃ xn, xl.length = xn := ⟨_, rfl⟩
          have HDL := Lib.hid hdl
          have HXN := Lib.hid hxn
          rw [hdl, hxn] at hs1
          rw [hdl] at HSP ⊢
          rw [hxn] at q0 hCs
          have HT := Lib.hid (show xn = Nat.min xn (N - dl) from (Nat.min_eq_left (by omega)).symm)
          clear hs hdd hcs hcur hdl hxn hx
          have HNE := Lib.hid (show 0 < xn → ∃ ad, xa = some ad ∧ ∀ (j : Nat) (v : Value), Cs[j]? = some v → wr.cell? (ad.add j) = some v from fun h0 => by
            obtain ⟨ad', e, _, hc⟩ := HX.out (by intro e; rw [e] at hCs; simp at hCs; omega)
            exact ⟨ad', e, hc⟩)
          by_cases hND : N = dl
          · subst hND
            have hx0 : xn = 0 := by omega
            go_wp2_with (refine wpList_copyS rfl _ _ _ _ rfl 65 4 Tryz.underlying22 infoTok4 _ _ _ _ _ _ rfl rfl _ (N * 4) Cur 65 HB2.out Cs ?hn (by omega) ?hpos (by omega) HC1.out xn ?hm ?_; rotate_left 3; (intro w2 HB3 HF3))
            case hn => rw [hCs, Nat.mul_comm]; simp [hx0]
            case hpos => intro h0; exfalso; omega
            case hm => simp [hx0]
            go_roundg (L.length - (k + 1))
            case measure => omega
            case rel =>
              refine ⟨k + 1, rfl, by omega, ?_, by first | rfl | go_num, HF2.out.trans HF3.out (fun g hg hm => ?_), ?_⟩
              · rw [HS.out, List.length_append, HDL.out, HXN.out]; first | rfl | go_num
              · exact absurd hm (Nat.ne_of_lt hg)
              · show Blk _ _ _ _
                rw [HS.out, ← HSP.out, Nat.mul_comm 4]
                exact HB3.out
          · go_wp2_with (refine wpList_copyS rfl _ _ _ _ rfl 65 4 Tryz.underlying22 infoTok4 _ _ _ _ _ _ rfl rfl _ (dl * 4) Cur 65 HB2.out Cs ?hn (by omega) ?hpos (by omega) HC1.out xn ?hm ?_; rotate_left 3; (intro w2 HB3 HF3))
            case hn => rw [hCs, Nat.mul_comm]; exact congrArg (· * 4) HT.out
            case hpos => exact fun _ => HNE.out (by omega)
            case hm => exact HT.out
            go_roundg (L.length - (k + 1))
            case measure => omega
            case rel =>
              refine ⟨k + 1, rfl, by omega, ?_, by first | rfl | go_num, HF2.out.trans HF3.out (fun g hg hm => ?_), ?_⟩
              · rw [HS.out, List.length_append, HDL.out, HXN.out]; first | rfl | go_num
              · exact absurd hm (Nat.ne_of_lt hg)
              · show Blk _ _ _ _
                rw [HS.out, ← HSP.out, Nat.mul_comm 4]
                exact HB3.out
        · have ht : ¬ ((k : Int) < (L.length : Int)) := by omega
          obtain rfl : k = L.length := by omega
          rw [List.take_length, hN, List.drop_eq_nil_of_le (by omega), List.append_nil] at HB2
          go_wp2_with fail
          go_ret
          exact ⟨.slice (some ⟨_, 0, none⟩) N N, rfl, ⟨_, by rw [hN], Nat.le_refl _, HB2.out⟩, HF2.out⟩
end Go.Proofs.YtanbfplcldloeaaGreatDoor

/- Chapter 9: a step, done: a replacement. -/
namespace Go.Proofs.YtanbfplcldloeaaGreatDoor
open Go.RowKit
/-- Where a piece of a list lies. -/
def cutA (A : Option Addr) (c l : Nat) : Option Addr := if c = l then A else A.map (·.add (l * 4))
theorem sizeTok (w : World) : (sizeOf 65).run Tryz.prog w = .ok 4 w := by
  have h := infoTok4
  cases hq : Tryz.prog.info? 65 with
  | none => rw [hq] at h; simp at h
  | some i => rw [hq] at h; simp at h; simp [sizeOf, typeInfo, hq, h]
theorem elemTok : Tryz.prog.elem 22 = 65 := by kernel_rfl
theorem cut_lh (A : Option Addr) (n c l h : Nat) (h1 : l ≤ h) (h2 : h ≤ c) (w : World) :
    (Instr.slice 22 (.slice A n c) (some (.int .i64 (l : Int))) (some (.int .i64 (h : Int))) none).run Tryz.prog w = .ok (.slice (cutA A c l) (h - l) (c - l)) w := by
  rw [run_slice_lh (P := Tryz.prog) (w := w) (t := 22) (a := A) (len := n) (cap := c) (ht := by rw [elemTok]; exact Tryz.underlying22) .i64 .i64 l h (by omega) (by omega) (by omega), elemTok, sizeTok]
  simp [Result.andThen, sliced, cutA]
theorem cut_h (A : Option Addr) (n c h : Nat) (h2 : h ≤ c) (w : World) :
    (Instr.slice 22 (.slice A n c) none (some (.int .i64 (h : Int))) none).run Tryz.prog w = .ok (.slice (cutA A c 0) h c) w := by
  rw [run_slice_h (P := Tryz.prog) (w := w) (t := 22) (a := A) (len := n) (cap := c) (ht := by rw [elemTok]; exact Tryz.underlying22) .i64 h (by omega) (by omega), elemTok, sizeTok]
  simp [Result.andThen, sliced, cutA]
theorem cut_l (A : Option Addr) (n c l : Nat) (h1 : l ≤ n) (w : World) :
    (Instr.slice 22 (.slice A n c) (some (.int .i64 (l : Int))) none none).run Tryz.prog w = .ok (.slice (cutA A c l) (n - l) (c - l)) w := by
  rw [run_slice_l (P := Tryz.prog) (w := w) (t := 22) (a := A) (len := n) (cap := c) (ht := by rw [elemTok]; exact Tryz.underlying22) .i64 l (by omega) (by omega), elemTok, sizeTok]
  simp [Result.andThen, sliced, cutA]
theorem tokC_split (l : List Tok) (k : Nat) : tokC l = tokC (l.take k) ++ tokC (l.drop k) := by rw [← tokC_append, List.take_append_drop]
theorem tokC_drop (l : List Tok) (k : Nat) : tokC (l.drop k) = (tokC l).drop (k * 4) := by
  by_cases h : k ≤ l.length
  · have hl : (tokC (l.take k)).length = k * 4 := by rw [tokC_length, List.length_take]; omega
    have e := congrArg (List.drop (k * 4)) (tokC_split l k)
    rw [List.drop_append, List.drop_eq_nil_of_le (Nat.le_of_eq hl), List.nil_append, hl, Nat.sub_self, List.drop_zero] at e
    exact e.symm
  · rw [List.drop_eq_nil_of_le (by omega), List.drop_eq_nil_of_le (by rw [tokC_length]; omega)]; rfl
theorem tokC_take (l : List Tok) (k : Nat) : tokC (l.take k) = (tokC l).take (k * 4) := by
  by_cases h : k ≤ l.length
  · have hl : (tokC (l.take k)).length = k * 4 := by rw [tokC_length, List.length_take]; omega
    have e := congrArg (List.take (k * 4)) (tokC_split l k)
    rw [List.take_append_of_le_length (Nat.le_of_eq hl.symm), List.take_of_length_le (Nat.le_of_eq hl)] at e
    exact e.symm
  · rw [List.take_of_length_le (by omega), List.take_of_length_le (by rw [tokC_length]; omega)]
theorem Rd.drop {M : Nat → Prop} {w : World} {A : Option Addr} {xs : List Value} (h : Rd M w A xs) (k : Nat) : Rd M w (A.map (·.add k)) (xs.drop k) := fun hx => by
  obtain ⟨ad, rfl, hn, hc⟩ := h (by rintro rfl; simp at hx)
  refine ⟨ad.add k, rfl, by rw [add_block]; exact hn, fun j u hu => ?_⟩
  rw [add_of_add]
  rw [List.getElem?_drop] at hu
  exact hc _ u hu
/-- A piece of a list is read where it lies. -/
theorem Rd.cut {M : Nat → Prop} {w : World} {A : Option Addr} {l : List Tok} (h : Rd M w A (tokC l)) {c k : Nat} (hc : l.length ≤ c) (n : Nat) : Rd M w (cutA A c k) (tokC ((l.drop k).take n)) := by
  rw [tokC_take]
  refine Rd.take ?_ _
  unfold cutA
  split
  · rename_i e
    rw [List.drop_eq_nil_of_le (by omega)]
    exact Rd.nil _ _ _
  · rw [tokC_drop]
    exact h.drop _
theorem Rd.cut0 {M : Nat → Prop} {w : World} {A : Option Addr} {l : List Tok} (h : Rd M w A (tokC l)) {c : Nat} (hc : l.length ≤ c) (n : Nat) : Rd M w (cutA A c 0) (tokC (l.take n)) := by
  have := h.cut (k := 0) hc n
  rwa [List.drop_zero] at this
theorem Rd.cutD {M : Nat → Prop} {w : World} {A : Option Addr} {l : List Tok} (h : Rd M w A (tokC l)) {c : Nat} (hc : l.length ≤ c) (k : Nat) : Rd M w (cutA A c k) (tokC (l.drop k)) := by
  have := h.cut (k := k) hc l.length
  rwa [List.take_of_length_le (by rw [List.length_drop]; omega)] at this
attribute [local go_sem high] cut_lh cut_h cut_l
/-- Lists, joined: their row has just been built. -/
theorem tokens_new (M : Nat → Prop) (L : List Seg) (w0 w : World) (T : TypeId) (cs : List Value) (n : Nat) (hF : Fr Nob w0 w) (hd : ∀ x ∈ L, Rd M w0 x.a (tokC x.l)) (hcs : L.map Seg.v = cs) (hn : L.length = n) (hL : (segsL L).length ≤ 100000) (hL2 : n ≤ 100000) :
    Calls Tryz.prog 81 #[.slice (some ⟨w.heap.size, 0, none⟩) n n] (w.alloc (.cells cs.toArray T)) fun e w' => ∃ v, e = .returned v ∧ NewDoc w0 w' v (segsL L) ∧ Fr Nob w0 w' := by
  subst hn hcs
  have hfa : Fr Nob w0 (w.alloc (.cells (L.map Seg.v).toArray T)) := hF.alloc _
  have hrow : Rd Nob (w.alloc (.cells (L.map Seg.v).toArray T)) (some ⟨w.heap.size, 0, none⟩) (L.map Seg.v) := fun _ => ⟨_, rfl, fun h => h, fun j u hu => by rw [add_lit]; exact ((Blk.new w (L.map Seg.v) T).cell j).trans hu⟩
  refine (tokens_any Nob L _ L.length _ hrow (fun x hx => ((hd x hx).mono (fun _ h => h.elim)).fr hfa (fun _ _ h => h)) hL hL2).mono ?_
  rintro e w' ⟨v, rfl, hv, hF2⟩
  exact ⟨v, rfl, hv.old hfa.size, hfa.same hF2⟩
def repF (f t : Nat) (x l : List Tok) : List Tok := l.take f ++ (x ++ l.drop t)
set_option maxRecDepth 100000 in
set_option maxHeartbeats 4000000 in
theorem stepdo_rep (M : Nat → Prop) (f t : Nat) (gf gt ins mk : Int) (A B : Option Addr) (x l : List Tok) (c b : Nat) (w : World) (hl : Rd M w A (tokC l)) (hx : Rd M w B (tokC x)) (hc : l.length ≤ c) (hft : f ≤ t) (htl : t ≤ l.length) (hn : l.length ≤ 10000) (hnx : x.length ≤ 10000) :
    Calls Tryz.prog 52 #[.slice A l.length c, .agg #[.int .i64 0, .int .i64 f, .int .i64 t, .int .i64 gf, .int .i64 gt, .int .i64 ins, .slice B x.length b, .int .i64 mk]] w fun e w' => ∃ v, e = .returned v ∧ NewDoc w w' v (repF f t x l) ∧ Fr Nob w w' := by
  obtain ⟨ln, hln⟩ : ∃ ln, l.length = ln := ⟨_, rfl⟩
  obtain ⟨xn, hxn⟩ : ∃ xn, x.length = xn := ⟨_, rfl⟩
  have HLN := Lib.hid hln
  have HXN := Lib.hid hxn
  have HRl := Lib.hid hl
  have HRx := Lib.hid hx
  rw [hln] at hc htl hn ⊢
  rw [hxn] at hnx ⊢
  clear hl hx hln hxn
  go_enter Tryz.func52, Tryz.ntmps52
  go_wp2_with fail
  obtain ⟨W, hW⟩ : ∃ W, w.alloc (.cells #[.int .i64 0, .int .i64 f, .int .i64 t, .int .i64 gf, .int .i64 gt, .int .i64 ins, .slice B xn b, .int .i64 mk] 24) = W := ⟨_, rfl⟩
  have HF := Lib.hid (show Fr Nob w W by rw [← hW]; exact (Fr.refl _ _).alloc _)
  have hB : Blk W w.heap.size [.int .i64 0, .int .i64 f, .int .i64 t, .int .i64 gf, .int .i64 gt, .int .i64 ins, .slice B xn b, .int .i64 mk] 24 := by rw [← hW]; exact Blk.new _ _ _
  have d1 := hB.cell 1
  have d2 := hB.cell 2
  have d6 := hB.cell 6
  have hlb := hB.lt
  simp only [List.getElem?_cons_zero, List.getElem?_cons_succ] at d1 d2 d6
  rw [hW]
  clear hW hB
  have hfc : f ≤ c := by omega
  go_still_tail 10, (by kernel_rfl)
  change wpList _ _ _ _ _ W.drew
  generalize hwd : W.drew = wd
  have HF2 := Lib.hid (show Fr Nob w wd by subst hwd; exact HF.out.drew)
  clear hwd d1 d2 d6 hlb
  go_wp2_with fail
  refine (tokens_new M [⟨cutA A c 0, c, l.take f⟩, ⟨B, b, x⟩, ⟨cutA A c t, c - t, l.drop t⟩] w wd _ _ 3 HF2.out ?hd ?hcs rfl ?hL (by omega)).mono ?_
  case hd =>
    have h1 := HLN.out
    intro y hy
    simp only [List.mem_cons, List.not_mem_nil, or_false] at hy
    rcases hy with rfl | rfl | rfl
    · exact HRl.out.cut0 (by omega) f
    · exact HRx.out
    · exact HRl.out.cutD (by omega) t
  case hcs =>
    have h1 := HLN.out
    have h2 := HXN.out
    simp only [List.map_cons, List.map_nil, Seg.v, List.length_take, List.length_drop, h1, h2]
    rw [Nat.min_eq_left (by omega)]
  case hL =>
    have h1 := HLN.out
    have h2 := HXN.out
    simp only [segsL, List.flatMap_cons, List.flatMap_nil, List.length_append, List.length_take, List.length_drop, List.length_nil, h1, h2]
    omega
  rintro e w' ⟨v, rfl, hv, hF3⟩
  have HV := Lib.hid hv
  have HF3 := Lib.hid hF3
  clear hv hF3
  go_wp2_with fail
  go_ret
  refine ⟨v, rfl, ?_, HF3.out⟩
  have := HV.out
  simpa [segsL, repF] using this
end Go.Proofs.YtanbfplcldloeaaGreatDoor

/- Chapter 9: a step, done: around. -/
namespace Go.Proofs.YtanbfplcldloeaaGreatDoor
open Go.RowKit
attribute [local go_sem high] cut_lh cut_h cut_l
def aroF (f t gf gt i : Nat) (x l : List Tok) : List Tok := l.take f ++ (x.take i ++ ((l.drop gf).take (gt - gf) ++ (x.drop i ++ l.drop t)))
set_option maxRecDepth 100000 in
set_option maxHeartbeats 4000000 in
theorem stepdo_aro (M : Nat → Prop) (f t gf gt i : Nat) (mk : Int) (A B : Option Addr) (x l : List Tok) (c b : Nat) (w : World) (hl : Rd M w A (tokC l)) (hx : Rd M w B (tokC x)) (hc : l.length ≤ c) (hb : x.length ≤ b) (h1 : f ≤ gf) (h2 : gf ≤ gt) (h3 : gt ≤ t) (h4 : i ≤ x.length) (htl : t ≤ l.length) (hn : l.length ≤ 10000) (hnx : x.length ≤ 10000) :
    Calls Tryz.prog 52 #[.slice A l.length c, .agg #[.int .i64 1, .int .i64 f, .int .i64 t, .int .i64 gf, .int .i64 gt, .int .i64 i, .slice B x.length b, .int .i64 mk]] w fun e w' => ∃ v, e = .returned v ∧ NewDoc w w' v (aroF f t gf gt i x l) ∧ Fr Nob w w' := by
  obtain ⟨ln, hln⟩ : ∃ ln, l.length = ln := ⟨_, rfl⟩
  obtain ⟨xn, hxn⟩ : ∃ xn, x.length = xn := ⟨_, rfl⟩
  have HLN := Lib.hid hln
  have HXN := Lib.hid hxn
  have HRl := Lib.hid hl
  have HRx := Lib.hid hx
  rw [hln] at hc htl hn ⊢
  rw [hxn] at hnx hb h4 ⊢
  clear hl hx hln hxn
  go_enter Tryz.func52, Tryz.ntmps52
  go_wp2_with fail
  obtain ⟨W, hW⟩ : ∃ W, w.alloc (.cells #[.int .i64 1, .int .i64 f, .int .i64 t, .int .i64 gf, .int .i64 gt, .int .i64 i, .slice B xn b, .int .i64 mk] 24) = W := ⟨_, rfl⟩
  have HF := Lib.hid (show Fr Nob w W by rw [← hW]; exact (Fr.refl _ _).alloc _)
  have hB : Blk W w.heap.size [.int .i64 1, .int .i64 f, .int .i64 t, .int .i64 gf, .int .i64 gt, .int .i64 i, .slice B xn b, .int .i64 mk] 24 := by rw [← hW]; exact Blk.new _ _ _
  have d1 := hB.cell 1
  have d2 := hB.cell 2
  have d3 := hB.cell 3
  have d4 := hB.cell 4
  have d5 := hB.cell 5
  have d6 := hB.cell 6
  have hlb := hB.lt
  simp only [List.getElem?_cons_zero, List.getElem?_cons_succ] at d1 d2 d3 d4 d5 d6
  rw [hW]
  clear hW hB
  have hfc : f ≤ c := by omega
  have hgc : gt ≤ c := by omega
  have hic : i ≤ b := by omega
  go_still_tail 24, (by kernel_rfl)
  change wpList _ _ _ _ _ W.drew
  generalize hwd : W.drew = wd
  have HF2 := Lib.hid (show Fr Nob w wd by subst hwd; exact HF.out.drew)
  clear hwd d1 d2 d3 d4 d5 d6 hlb
  go_wp2_with fail
  refine (tokens_new M [⟨cutA A c 0, c, l.take f⟩, ⟨cutA B b 0, b, x.take i⟩, ⟨cutA A c gf, c - gf, (l.drop gf).take (gt - gf)⟩, ⟨cutA B b i, b - i, x.drop i⟩, ⟨cutA A c t, c - t, l.drop t⟩] w wd _ _ 5 HF2.out ?hd ?hcs rfl ?hL (by omega)).mono ?_
  case hd =>
    have g1 := HLN.out
    intro y hy
    simp only [List.mem_cons, List.not_mem_nil, or_false] at hy
    have g2 := HXN.out
    rcases hy with rfl | rfl | rfl | rfl | rfl
    · exact HRl.out.cut0 (by omega) f
    · exact HRx.out.cut0 (by omega) i
    · exact HRl.out.cut (by omega) (gt - gf)
    · exact HRx.out.cutD (by omega) i
    · exact HRl.out.cutD (by omega) t
  case hcs =>
    have g1 := HLN.out
    have g2 := HXN.out
    simp only [List.map_cons, List.map_nil, Seg.v, List.length_take, List.length_drop, g1, g2]
    rw [Nat.min_eq_left (by omega), Nat.min_eq_left (by omega), Nat.min_eq_left (by omega)]
  case hL =>
    have g1 := HLN.out
    have g2 := HXN.out
    simp only [segsL, List.flatMap_cons, List.flatMap_nil, List.length_append, List.length_take, List.length_drop, List.length_nil, g1, g2]
    omega
  rintro e w' ⟨v, rfl, hv, hF3⟩
  have HV := Lib.hid hv
  have HF3 := Lib.hid hF3
  clear hv hF3
  go_wp2_with fail
  go_ret
  refine ⟨v, rfl, ?_, HF3.out⟩
  have := HV.out
  simpa [segsL, aroF] using this
end Go.Proofs.YtanbfplcldloeaaGreatDoor

/- Chapter 9: a step, done: marks. -/
namespace Go.Proofs.YtanbfplcldloeaaGreatDoor
open Go.RowKit
def turnF (k s m : Int) : Int := if k = 3 then (takeF s m).1 else (addF s m).1
def turnT (k m : Int) (x : Tok) : Tok := if x.k = 0 then { x with m := turnF k x.m m } else x
/-- The tokens from f up to i, turned. -/
def markL (k m : Int) (f i : Nat) (l : List Tok) : List Tok := l.mapIdx fun j x => if f ≤ j ∧ j < i then turnT k m x else x
theorem markL_len (k m : Int) (f i : Nat) (l : List Tok) : (markL k m f i l).length = l.length := by simp [markL]
theorem markL_start (k m : Int) (f : Nat) (l : List Tok) : markL k m f f l = l := by
  refine List.ext_getElem (markL_len _ _ _ _ _) (fun j h1 h2 => ?_)
  simp only [markL, List.getElem_mapIdx]
  rw [if_neg (by omega)]
theorem markL_at (k m : Int) (f i : Nat) (l : List Tok) (hi : i < l.length) : (markL k m f i l)[i]'(by rw [markL_len]; exact hi) = l[i] := by
  simp only [markL, List.getElem_mapIdx]
  rw [if_neg (by omega)]
theorem markL_set (k m : Int) (f i : Nat) (l : List Tok) (hf : f ≤ i) (hi : i < l.length) : (markL k m f i l).set i (turnT k m l[i]) = markL k m f (i + 1) l := by
  refine List.ext_getElem (by simp [markL]) (fun j h1 h2 => ?_)
  rw [List.getElem_set]
  simp only [markL, List.getElem_mapIdx]
  split
  · rename_i e; subst e; rw [if_pos (by omega)]
  · rename_i e
    by_cases hj : f ≤ j ∧ j < i
    · rw [if_pos hj, if_pos (by omega)]
    · rw [if_neg hj, if_neg (by omega)]
theorem markL_same (k m : Int) (f i : Nat) (l : List Tok) (hf : f ≤ i) (hi : i < l.length) (hk : l[i].k ≠ 0) : markL k m f i l = markL k m f (i + 1) l := by
  rw [← markL_set k m f i l hf hi, turnT, if_neg hk, ← markL_at k m f i l hi, List.set_getElem_self]
theorem tokC_set (m : Int) : ∀ (l : List Tok) (i : Nat) (hi : i < l.length), (tokC l).set (i * 4 + 3) (.int .i64 m) = tokC (l.set i { l[i] with m := m })
  | [], _, hi => by simp at hi
  | x :: l, 0, _ => rfl
  | x :: l, i + 1, hi => by
    have ih := tokC_set m l i (by simpa using hi)
    have e : (i + 1) * 4 + 3 = (i * 4 + 3) + 1 + 1 + 1 + 1 := by omega
    rw [e]
    simp only [tokC, List.flatMap_cons, Tok.cells, List.cons_append, List.nil_append, List.set_cons_succ, List.getElem_cons_succ] at ih ⊢
    rw [ih]
theorem tokC_get (l : List Tok) (i j : Nat) (hi : i < l.length) (hj : j < 4) : (tokC l)[i * 4 + j]? = l[i].cells[j]? := flat_get Tok.cells_len4 l i j hi hj
set_option maxRecDepth 100000 in
set_option maxHeartbeats 4000000 in
theorem stepdo_add (M : Nat → Prop) (f t : Nat) (gf gt ins mk : Int) (A B : Option Addr) (l : List Tok) (c xn b : Nat) (w : World) (hl : Rd M w A (tokC l)) (hc : l.length ≤ c) (hft : f ≤ t) (htl : t ≤ l.length) (hn : l.length ≤ 10000) :
    Calls Tryz.prog 52 #[.slice A l.length c, .agg #[.int .i64 2, .int .i64 f, .int .i64 t, .int .i64 gf, .int .i64 gt, .int .i64 ins, .slice B xn b, .int .i64 mk]] w fun e w' => ∃ v, e = .returned v ∧ NewDoc w w' v (markL 2 mk f t l) ∧ Fr Nob w w' := by
  obtain ⟨ln, hln⟩ : ∃ ln, l.length = ln := ⟨_, rfl⟩
  have HLN := Lib.hid hln
  have HRl := Lib.hid hl
  rw [hln] at hc htl hn ⊢
  clear hl hln
  go_enter Tryz.func52, Tryz.ntmps52
  go_upto_region 9 with (fail)
  obtain ⟨W, hW⟩ : ∃ W, w.alloc (.cells #[.int .i64 2, .int .i64 f, .int .i64 t, .int .i64 gf, .int .i64 gt, .int .i64 ins, .slice B xn b, .int .i64 mk] 24) = W := ⟨_, rfl⟩
  have HF := Lib.hid (show Fr Nob w W by rw [← hW]; exact (Fr.refl _ _).alloc _)
  have HB := Lib.hid (show Blk W w.heap.size [.int .i64 2, .int .i64 f, .int .i64 t, .int .i64 gf, .int .i64 gt, .int .i64 ins, .slice B xn b, .int .i64 mk] 24 by rw [← hW]; exact Blk.new _ _ _)
  rw [hW]
  clear hW
  go_wp2_with fail
  refine (tokens_new M [⟨A, c, l⟩] W W _ _ 1 (Fr.refl _ _) ?hd ?hcs rfl ?hL (by omega)).mono ?_
  case hd =>
    intro y hy
    simp only [List.mem_cons, List.not_mem_nil, or_false] at hy
    subst hy
    exact HRl.out.fr HF.out (fun _ _ h => h.elim)
  case hcs => simp only [List.map_cons, List.map_nil, Seg.v, HLN.out]
  case hL =>
    have g1 := HLN.out
    simp only [segsL, List.flatMap_cons, List.flatMap_nil, List.length_append, List.length_nil, g1]
    omega
  rintro e w1 ⟨v, rfl, ⟨g, rfl, hg, hbg⟩, hF3⟩
  have hsl : segsL [⟨A, c, l⟩] = l := by simp [segsL]
  rw [hsl] at hbg
  rw [hsl, HLN.out]
  have hgw : w.heap.size < g := Nat.lt_of_lt_of_le HB.out.lt hg
  have HF1 := Lib.hid (HF.out.same hF3)
  have HB1 := Lib.hid (HB.out.fr hF3 (fun h => h))
  have HG1 := Lib.hid hbg
  have d1 := HB1.out.cell 1
  have hlb := HB1.out.lt
  simp only [List.getElem?_cons_zero, List.getElem?_cons_succ] at d1
  clear hbg hF3 hsl hg
  go_wp2_with fail
  go_loopg [7] (t - f) (fun n s wx => ∃ i : Nat, n = t - i ∧ f ≤ i ∧ i ≤ t ∧ s = .int .i64 i ∧ Hid (Fr Nob w wx) ∧ Hid (Blk wx w.heap.size [.int .i64 2, .int .i64 f, .int .i64 t, .int .i64 gf, .int .i64 gt, .int .i64 ins, .slice B xn b, .int .i64 mk] 24) ∧ Hid (Blk wx g (tokC (markL 2 mk f i l)) 65))
  case atStart => exact ⟨f, rfl, Nat.le_refl _, hft, rfl, HF1.out, HB1.out, by show Blk _ _ _ _; rw [markL_start]; exact HG1.out⟩
  case round =>
    obtain ⟨i, rfl, hfi, hit, rfl, HF, HB, HG⟩ := hrel
    have d0 := HB.out.cell 0
    have d2 := HB.out.cell 2
    have d7 := HB.out.cell 7
    have hlb := HB.out.lt
    simp only [List.getElem?_cons_zero, List.getElem?_cons_succ] at d0 d2 d7
    by_cases hlt : i < t
    · have ht : ((i : Int) < (t : Int)) := by omega
      have hil : i < l.length := by have := HLN.out; omega
      have e0 := HG.out.cell (i * 4)
      have e3 := HG.out.cell (i * 4 + 3)
      have f3 := HG.out.frozen (i * 4 + 3)
      have hlg := HG.out.lt
      have q0 := tokC_get (markL 2 mk f i l) i 0 (by rw [markL_len]; exact hil) (by omega)
      have q3 := tokC_get (markL 2 mk f i l) i 3 (by rw [markL_len]; exact hil) (by omega)
      rw [Nat.add_zero] at q0
      rw [q0, markL_at _ _ _ _ _ hil] at e0
      rw [q3, markL_at _ _ _ _ _ hil] at e3
      have HS := Lib.hid (markL_set 2 mk f i l hfi hil)
      have HM := Lib.hid (markL_same 2 mk f i l hfi hil)
      have HAT := Lib.hid (markL_at 2 mk f i l hil)
      clear q0 q3
      generalize hx : l[i] = x at e0 e3 HS HM HAT
      simp only [Tok.cells, List.getElem?_cons_zero, List.getElem?_cons_succ] at e0 e3
      clear hx
      by_cases hk : x.k = 0
      · have hkb : (x.k == 0) = true := by simpa using hk
        go_wp2_with fail
        have HAD := Lib.hid (add_any x.m mk)
        go_region_with (go_at_call 82; refine (HAD.out _).mono ?_; rintro e w3 ⟨rfl, rfl⟩)
        all_goals
          have HF2 := Lib.hid (show Fr Nob w (wr.setCell ⟨g, i * 4 + 3, none⟩ (.int .i64 (addF x.m mk).1)).drew from (HF.out.setCell (p := ⟨g, i * 4 + 3, none⟩) (.inr (Nat.le_of_lt hgw)) _).drew)
          have HB2 := Lib.hid (show Blk (wr.setCell ⟨g, i * 4 + 3, none⟩ (.int .i64 (addF x.m mk).1)).drew w.heap.size [.int .i64 2, .int .i64 f, .int .i64 t, .int .i64 gf, .int .i64 gt, .int .i64 ins, .slice B xn b, .int .i64 mk] 24 from (HB.out.far (p := ⟨g, i * 4 + 3, none⟩) (Nat.ne_of_lt hgw) _).drew)
          have HG2 := Lib.hid (show Blk (wr.setCell ⟨g, i * 4 + 3, none⟩ (.int .i64 (addF x.m mk).1)).drew g (tokC (markL 2 mk f (i + 1) l)) 65 from by
            have h1 := (HG.out.set (i * 4 + 3) (.int .i64 (addF x.m mk).1)).drew
            have h2 := tokC_set (addF x.m mk).1 (markL 2 mk f i l) i (by rw [markL_len]; exact hil)
            rw [h2, HAT.out] at h1
            have h3 := HS.out
            rw [turnT, if_pos hk] at h3
            rw [← h3]
            exact h1)
          generalize (wr.setCell ⟨g, i * 4 + 3, none⟩ (.int .i64 (addF x.m mk).1)).drew = w4 at HF2 HB2 HG2 ⊢
          clear e0 e3 f3 d0 d2 d7 hlb hlg
          go_wp2_with fail
          go_roundg (t - (i + 1))
          case measure => omega
          case rel => exact ⟨i + 1, rfl, by omega, by omega, by first | rfl | go_num, HF2.out, HB2.out, HG2.out⟩
      · have hkb : (x.k == 0) = false := by simpa using hk
        go_wp2_with fail
        go_roundg (t - (i + 1))
        case measure => omega
        case rel => exact ⟨i + 1, rfl, by omega, by omega, by first | rfl | go_num, HF.out, HB.out, by show Blk _ _ _ _; rw [← HM.out hk]; exact HG.out⟩
    · have ht : ¬ ((i : Int) < (t : Int)) := by omega
      obtain rfl : i = t := by omega
      go_wp2_with fail
      go_ret
      exact ⟨.slice (some ⟨g, 0, none⟩) ln ln, rfl, ⟨g, by rw [markL_len, HLN.out], by omega, HG.out⟩, HF.out⟩
set_option maxRecDepth 100000 in
set_option maxHeartbeats 4000000 in
theorem stepdo_take (M : Nat → Prop) (f t : Nat) (gf gt ins mk : Int) (A B : Option Addr) (l : List Tok) (c xn b : Nat) (w : World) (hl : Rd M w A (tokC l)) (hc : l.length ≤ c) (hft : f ≤ t) (htl : t ≤ l.length) (hn : l.length ≤ 10000) :
    Calls Tryz.prog 52 #[.slice A l.length c, .agg #[.int .i64 3, .int .i64 f, .int .i64 t, .int .i64 gf, .int .i64 gt, .int .i64 ins, .slice B xn b, .int .i64 mk]] w fun e w' => ∃ v, e = .returned v ∧ NewDoc w w' v (markL 3 mk f t l) ∧ Fr Nob w w' := by
  obtain ⟨ln, hln⟩ : ∃ ln, l.length = ln := ⟨_, rfl⟩
  have HLN := Lib.hid hln
  have HRl := Lib.hid hl
  rw [hln] at hc htl hn ⊢
  clear hl hln
  go_enter Tryz.func52, Tryz.ntmps52
  go_upto_region 9 with (fail)
  obtain ⟨W, hW⟩ : ∃ W, w.alloc (.cells #[.int .i64 3, .int .i64 f, .int .i64 t, .int .i64 gf, .int .i64 gt, .int .i64 ins, .slice B xn b, .int .i64 mk] 24) = W := ⟨_, rfl⟩
  have HF := Lib.hid (show Fr Nob w W by rw [← hW]; exact (Fr.refl _ _).alloc _)
  have HB := Lib.hid (show Blk W w.heap.size [.int .i64 3, .int .i64 f, .int .i64 t, .int .i64 gf, .int .i64 gt, .int .i64 ins, .slice B xn b, .int .i64 mk] 24 by rw [← hW]; exact Blk.new _ _ _)
  rw [hW]
  clear hW
  go_wp2_with fail
  refine (tokens_new M [⟨A, c, l⟩] W W _ _ 1 (Fr.refl _ _) ?hd ?hcs rfl ?hL (by omega)).mono ?_
  case hd =>
    intro y hy
    simp only [List.mem_cons, List.not_mem_nil, or_false] at hy
    subst hy
    exact HRl.out.fr HF.out (fun _ _ h => h.elim)
  case hcs => simp only [List.map_cons, List.map_nil, Seg.v, HLN.out]
  case hL =>
    have g1 := HLN.out
    simp only [segsL, List.flatMap_cons, List.flatMap_nil, List.length_append, List.length_nil, g1]
    omega
  rintro e w1 ⟨v, rfl, ⟨g, rfl, hg, hbg⟩, hF3⟩
  have hsl : segsL [⟨A, c, l⟩] = l := by simp [segsL]
  rw [hsl] at hbg
  rw [hsl, HLN.out]
  have hgw : w.heap.size < g := Nat.lt_of_lt_of_le HB.out.lt hg
  have HF1 := Lib.hid (HF.out.same hF3)
  have HB1 := Lib.hid (HB.out.fr hF3 (fun h => h))
  have HG1 := Lib.hid hbg
  have d1 := HB1.out.cell 1
  have hlb := HB1.out.lt
  simp only [List.getElem?_cons_zero, List.getElem?_cons_succ] at d1
  clear hbg hF3 hsl hg
  go_wp2_with fail
  go_loopg [7] (t - f) (fun n s wx => ∃ i : Nat, n = t - i ∧ f ≤ i ∧ i ≤ t ∧ s = .int .i64 i ∧ Hid (Fr Nob w wx) ∧ Hid (Blk wx w.heap.size [.int .i64 3, .int .i64 f, .int .i64 t, .int .i64 gf, .int .i64 gt, .int .i64 ins, .slice B xn b, .int .i64 mk] 24) ∧ Hid (Blk wx g (tokC (markL 3 mk f i l)) 65))
  case atStart => exact ⟨f, rfl, Nat.le_refl _, hft, rfl, HF1.out, HB1.out, by show Blk _ _ _ _; rw [markL_start]; exact HG1.out⟩
  case round =>
    obtain ⟨i, rfl, hfi, hit, rfl, HF, HB, HG⟩ := hrel
    have d0 := HB.out.cell 0
    have d2 := HB.out.cell 2
    have d7 := HB.out.cell 7
    have hlb := HB.out.lt
    simp only [List.getElem?_cons_zero, List.getElem?_cons_succ] at d0 d2 d7
    by_cases hlt : i < t
    · have ht : ((i : Int) < (t : Int)) := by omega
      have hil : i < l.length := by have := HLN.out; omega
      have e0 := HG.out.cell (i * 4)
      have e3 := HG.out.cell (i * 4 + 3)
      have f3 := HG.out.frozen (i * 4 + 3)
      have hlg := HG.out.lt
      have q0 := tokC_get (markL 3 mk f i l) i 0 (by rw [markL_len]; exact hil) (by omega)
      have q3 := tokC_get (markL 3 mk f i l) i 3 (by rw [markL_len]; exact hil) (by omega)
      rw [Nat.add_zero] at q0
      rw [q0, markL_at _ _ _ _ _ hil] at e0
      rw [q3, markL_at _ _ _ _ _ hil] at e3
      have HS := Lib.hid (markL_set 3 mk f i l hfi hil)
      have HM := Lib.hid (markL_same 3 mk f i l hfi hil)
      have HAT := Lib.hid (markL_at 3 mk f i l hil)
      clear q0 q3
      generalize hx : l[i] = x at e0 e3 HS HM HAT
      simp only [Tok.cells, List.getElem?_cons_zero, List.getElem?_cons_succ] at e0 e3
      clear hx
      by_cases hk : x.k = 0
      · have hkb : (x.k == 0) = true := by simpa using hk
        go_wp2_with fail
        have HAD := Lib.hid (take_any x.m mk)
        go_region_with (go_at_call 83; refine (HAD.out _).mono ?_; rintro e w3 ⟨rfl, rfl⟩)
        all_goals
          have HF2 := Lib.hid (show Fr Nob w (wr.setCell ⟨g, i * 4 + 3, none⟩ (.int .i64 (takeF x.m mk).1)).drew from (HF.out.setCell (p := ⟨g, i * 4 + 3, none⟩) (.inr (Nat.le_of_lt hgw)) _).drew)
          have HB2 := Lib.hid (show Blk (wr.setCell ⟨g, i * 4 + 3, none⟩ (.int .i64 (takeF x.m mk).1)).drew w.heap.size [.int .i64 3, .int .i64 f, .int .i64 t, .int .i64 gf, .int .i64 gt, .int .i64 ins, .slice B xn b, .int .i64 mk] 24 from (HB.out.far (p := ⟨g, i * 4 + 3, none⟩) (Nat.ne_of_lt hgw) _).drew)
          have HG2 := Lib.hid (show Blk (wr.setCell ⟨g, i * 4 + 3, none⟩ (.int .i64 (takeF x.m mk).1)).drew g (tokC (markL 3 mk f (i + 1) l)) 65 from by
            have h1 := (HG.out.set (i * 4 + 3) (.int .i64 (takeF x.m mk).1)).drew
            have h2 := tokC_set (takeF x.m mk).1 (markL 3 mk f i l) i (by rw [markL_len]; exact hil)
            rw [h2, HAT.out] at h1
            have h3 := HS.out
            rw [turnT, if_pos hk] at h3
            rw [← h3]
            exact h1)
          generalize (wr.setCell ⟨g, i * 4 + 3, none⟩ (.int .i64 (takeF x.m mk).1)).drew = w4 at HF2 HB2 HG2 ⊢
          clear e0 e3 f3 d0 d2 d7 hlb hlg
          go_wp2_with fail
          go_roundg (t - (i + 1))
          case measure => omega
          case rel => exact ⟨i + 1, rfl, by omega, by omega, by first | rfl | go_num, HF2.out, HB2.out, HG2.out⟩
      · have hkb : (x.k == 0) = false := by simpa using hk
        go_wp2_with fail
        go_roundg (t - (i + 1))
        case measure => omega
        case rel => exact ⟨i + 1, rfl, by omega, by omega, by first | rfl | go_num, HF.out, HB.out, by show Blk _ _ _ _; rw [← HM.out hk]; exact HG.out⟩
    · have ht : ¬ ((i : Int) < (t : Int)) := by omega
      obtain rfl : i = t := by omega
      go_wp2_with fail
      go_ret
      exact ⟨.slice (some ⟨g, 0, none⟩) ln ln, rfl, ⟨g, by rw [markL_len, HLN.out], by omega, HG.out⟩, HF.out⟩
end Go.Proofs.YtanbfplcldloeaaGreatDoor
