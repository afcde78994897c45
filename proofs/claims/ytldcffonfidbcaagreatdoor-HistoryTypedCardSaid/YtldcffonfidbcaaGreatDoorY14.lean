/- A part of the proof for chapter 10: StepD; no conditions. -/
import Derived.Test.YtldcffonfidbcaaGreatDoorY13
/- Chapter 9: may a step be: of no kind, too long. -/
namespace Go.Proofs.YtldcffonfidbcaaGreatDoor
open Go.RowKit
set_option maxRecDepth 100000 in
/-- A step that bears too much. -/
theorem stepcheck_long (k f t gf gt ins mk : Int) (A : Option Addr) (n c : Nat) (w : World) (hn : 2048 < n) :
    Calls Tryz.prog 111 #[.agg #[.int .i64 k, .int .i64 f, .int .i64 t, .int .i64 gf, .int .i64 gt, .int .i64 ins, .slice A n c, .int .i64 mk]] w fun e w' => e = .returned (.int .i64 2) ∧ Fr Nob w w' := by
  have hn' : (2048 < (n : Int)) := by omega
  go_enter Tryz.func111, Tryz.ntmps111
  go_wp2_with fail
  go_ret
  exact ⟨rfl, (Fr.refl Nob w).alloc _⟩
set_option maxRecDepth 100000 in
set_option maxHeartbeats 4000000 in
/-- A step of no kind. -/
theorem stepcheck_none (M : Nat → Prop) (kk f t gf gt ins mk : Int) (A : Option Addr) (l : List Tok) (c : Nat) (w : World) (r : Int) (hr : Rd M w A (tokC l)) (hn : l.length ≤ 2048) (hk0 : kk ≠ 0) (hk1 : kk ≠ 1) (hk2 : kk ≠ 2) (hk3 : kk ≠ 3) (hrr : (if (false && l.all okT) = true then (0 : Int) else 1) = r) :
    Calls Tryz.prog 111 #[.agg #[.int .i64 kk, .int .i64 f, .int .i64 t, .int .i64 gf, .int .i64 gt, .int .i64 ins, .slice A l.length c, .int .i64 mk]] w fun e w' => e = .returned (.int .i64 r) ∧ Fr Nob w w' := by
  obtain ⟨q, hq⟩ : ∃ q, ok0S f t = q := ⟨_, rfl⟩
  obtain ⟨q2, hq2⟩ : ∃ q2, false = q2 := ⟨_, rfl⟩
  obtain ⟨R, hR⟩ : ∃ R, (q2 && l.all okT) = R := ⟨_, rfl⟩
  rw [hq2, hR] at hrr
  have HQ := Lib.hid hq
  have HQ2 := Lib.hid hq2
  have HRR := Lib.hid hrr
  have HR := Lib.hid hR
  have HRd := Lib.hid hr
  have HOK := Lib.hid (fun x w => okT_any x w)
  clear hq hq2 hrr hR hr
  have hn' : ¬ (2048 < (l.length : Int)) := by omega
  have b0 : (kk == 0) = false := by simpa using hk0
  have b1 : (kk == 1) = false := by simpa using hk1
  have b2 : (kk == 2) = false := by simpa using hk2
  have b3 : (kk == 3) = false := by simpa using hk3
  clear hk0 hk1 hk2 hk3
  go_enter Tryz.func111, Tryz.ntmps111
  go_upto_region 5 with (fail)
  go_cut [4] (fun s4 wx => s4 = .bool q ∧ Hid (Fr Nob w wx) ∧ Hid (Blk wx (w.heap.size + 1) [.int .i64 kk, .int .i64 0, .int .i64 0, .int .i64 gf, .int .i64 gt, .int .i64 ins, .slice none 0 0, .int .i64 mk] 32) ∧ Hid (Blk wx w.heap.size [.int .i64 kk, .int .i64 f, .int .i64 t, .int .i64 gf, .int .i64 gt, .int .i64 ins, .slice A l.length c, .int .i64 mk] 32))
  case first =>
    go_wp2_with fail
    all_goals
      go_meet
      refine ⟨?_, ((Fr.refl Nob w).alloc _).alloc _, Blk.new_at (w.alloc _) _ _ (w.heap.size + 1) (by simp), (Blk.new w _ _).alloc _⟩
      have := HQ.out
      rw [← HQ.out]
      first
        | (rw [show ok0S f t = true from (ok0S_iff f t).2 (by omega)]; done)
        | (rw [show ok0S f t = false from by rw [← Bool.not_eq_true, ok0S_iff]; omega]; done)
        | (congr 1; rw [Bool.eq_iff_iff, ok0S_iff, decide_eq_true_iff]; omega)
  case rest =>
    obtain ⟨rfl, HF, HB, HA⟩ := hcut
    have p3 := HB.out.cell 3
    have p4 := HB.out.cell 4
    have p5 := HB.out.cell 5
    have p7 := HB.out.cell 7
    have a0 := HA.out.cell 0
    have a6 := HA.out.cell 6
    have hlA := HA.out.lt
    have hlB := HB.out.lt
    simp only [List.getElem?_cons_zero, List.getElem?_cons_succ] at p3 p4 p5 p7 a0 a6
    go_wp2_with fail
    go_loopg [4, 123] (l.length) (fun n s4 i wr => ∃ (k : Nat) (b : Bool), n = l.length - k ∧ k ≤ l.length ∧ s4 = .bool b ∧ i = .int .i64 k ∧ Hid (Fr Nob w wr) ∧ Hid ((b && (l.drop k).all okT) = R))
    case atStart => exact ⟨0, false, rfl, Nat.zero_le _, rfl, rfl, HF.out, by rw [HQ2.out]; exact HR.out⟩
    case round =>
      obtain ⟨k, b, rfl, hk, rfl, rfl, HF2, HC⟩ := hrel
      by_cases hlt : k < l.length
      · have ht : ((k : Int) < (l.length : Int)) := by omega
        obtain ⟨ad, rfl, _, hlb, q0', q⟩ := Rd.elt Tok.cells_len (by omega) (HRd.out.fr HF2.out (fun _ _ h => h.elim)) hlt
        have hdr : l.drop k = l[k] :: l.drop (k + 1) := List.drop_eq_getElem_cons hlt
        generalize l[k] = x at q0' q hdr
        have d1 := q 0 (by omega)
        have d2 := q 1 (by omega)
        have d3 := q 2 (by omega)
        simp only [Tok.cells, List.getElem?_cons_zero, List.getElem?_cons_succ, Nat.reduceAdd] at q0' d1 d2 d3
        have hcc := HC.out
        rw [hdr, List.all_cons] at hcc
        have HCC := Lib.hid hcc
        clear q hdr HC hcc
        cases b
        · have HE := Lib.hid (show (false && (l.drop (k + 1)).all okT) = R by rw [← HCC.out]; simp)
          go_wp2_with fail
          go_roundg (l.length - (k + 1))
          case measure => omega
          case rel => exact ⟨k + 1, false, rfl, by omega, rfl, by first | rfl | go_num, HF2.out.alloc _, HE.out⟩
        · go_wp2_with fail
          refine (HOK.out x _).mono ?_
          rintro e w3 ⟨rfl, hF3⟩
          have HF3 := Lib.hid ((HF2.out.alloc (.cells #[.int .i64 x.k, .int .i64 x.t, .int .i64 x.n, .int .i64 x.m] 40)).same hF3)
          have HE := Lib.hid (show (okT x && (l.drop (k + 1)).all okT) = R by rw [← HCC.out]; simp)
          clear hF3 HCC
          generalize okT x = bx at HE
          go_wp2_with fail
          go_roundg (l.length - (k + 1))
          case measure => omega
          case rel => exact ⟨k + 1, bx, rfl, by omega, rfl, by first | rfl | go_num, HF3.out, HE.out⟩
      · have ht : ¬ ((k : Int) < (l.length : Int)) := by omega
        have hcc := HC.out
        rw [List.drop_eq_nil_of_le (by omega), List.all_nil, Bool.and_true] at hcc
        have HE := Lib.hid (show (if b = true then (0 : Int) else 1) = r by rw [← HRR.out, ← hcc])
        clear hcc HC
        cases b
        · go_wp2_with fail
          go_ret
          exact ⟨by rw [← HE.out]; rfl, HF2.out⟩
        · go_wp2_with fail
          go_ret
          exact ⟨by rw [← HE.out]; rfl, HF2.out⟩
end Go.Proofs.YtldcffonfidbcaaGreatDoor
