/- A part of the proof for chapter 10: StepA, StepJ, Copy; no conditions. -/
import Derived.Test.YtldcffonfidbcaaGreatDoorY13
import Derived.Test.YtldcffonfidbcaaGreatDoorY14
import Derived.Test.YtldcffonfidbcaaGreatDoorY15
import Derived.Test.YtldcffonfidbcaaGreatDoorY08
import Derived.Laws.CopyOwn
/- Chapter 9: may a step be: around. -/
namespace Go.Proofs.YtldcffonfidbcaaGreatDoor
open Go.RowKit
def aroS (f t gf gt ins : Int) (n : Nat) : Bool := decide (f ≤ gf ∧ gf < gt ∧ gt ≤ t ∧ 0 ≤ ins ∧ ins ≤ (n : Int))
theorem aroS_iff (f t gf gt ins : Int) (n : Nat) : aroS f t gf gt ins n = true ↔ (f ≤ gf ∧ gf < gt ∧ gt ≤ t ∧ 0 ≤ ins ∧ ins ≤ (n : Int)) := by unfold aroS; exact decide_eq_true_iff
/-- A step around asks for its gap. -/
def okAro (f t gf gt ins mk : Int) (n : Nat) : Bool := (ok0S f t && aroS f t gf gt ins n) && (mk == 0)
set_option maxRecDepth 100000 in
set_option maxHeartbeats 4000000 in
theorem stepcheck_aro (M : Nat → Prop) (f t gf gt ins mk : Int) (A : Option Addr) (l : List Tok) (c : Nat) (w : World) (r : Int) (hr : Rd M w A (tokC l)) (hn : l.length ≤ 2048) (hrr : (if (okAro f t gf gt ins mk l.length && l.all okT) = true then (0 : Int) else 1) = r) :
    Calls Tryz.prog 111 #[.agg #[.int .i64 1, .int .i64 f, .int .i64 t, .int .i64 gf, .int .i64 gt, .int .i64 ins, .slice A l.length c, .int .i64 mk]] w fun e w' => e = .returned (.int .i64 r) ∧ Fr Nob w w' := by
  obtain ⟨q, hq⟩ : ∃ q, ok0S f t = q := ⟨_, rfl⟩
  obtain ⟨q2, hq2⟩ : ∃ q2, okAro f t gf gt ins mk l.length = q2 := ⟨_, rfl⟩
  obtain ⟨R, hR⟩ : ∃ R, (q2 && l.all okT) = R := ⟨_, rfl⟩
  rw [hq2, hR] at hrr
  unfold okAro at hq2
  rw [hq] at hq2
  have HQ := Lib.hid hq
  have HQ2 := Lib.hid hq2
  have HRR := Lib.hid hrr
  have HR := Lib.hid hR
  have HRd := Lib.hid hr
  have HOK := Lib.hid (fun x w => okT_any x w)
  clear hq hq2 hrr hR hr
  have hn' : ¬ (2048 < (l.length : Int)) := by omega
  go_enter Tryz.func111, Tryz.ntmps111
  go_upto_region 5 with (fail)
  go_cut [4] (fun s4 wx => s4 = .bool q ∧ Hid (Fr Nob w wx) ∧ Hid (Blk wx (w.heap.size + 1) [.int .i64 1, .int .i64 0, .int .i64 0, .int .i64 gf, .int .i64 gt, .int .i64 ins, .slice none 0 0, .int .i64 mk] 32) ∧ Hid (Blk wx w.heap.size [.int .i64 1, .int .i64 f, .int .i64 t, .int .i64 gf, .int .i64 gt, .int .i64 ins, .slice A l.length c, .int .i64 mk] 32))
  case first =>
    go_wp2_with fail
    all_goals
      go_meet
      refine ⟨?_, ((Fr.refl Nob w).alloc _).alloc _, Blk.new_at (w.alloc _) _ _ (w.heap.size + 1) (by simp), (Blk.new w _ _).alloc _⟩
      have := HQ.out
      rw [← HQ.out]
      first
        | (rw [show ok0S f t = true from (ok0S_iff f t).2 (by omega)]; done)
        | (rw [show ok0S f t = false from by rw [← Bool.not_eq_true, ok0S_iff]; omega]; done)
        | (congr 1; rw [Bool.eq_iff_iff, ok0S_iff, decide_eq_true_iff]; omega)
  case rest =>
    obtain ⟨rfl, HF, HB, HA⟩ := hcut
    have p3 := HB.out.cell 3
    have p4 := HB.out.cell 4
    have p5 := HB.out.cell 5
    have p7 := HB.out.cell 7
    have a0 := HA.out.cell 0
    have a1 := HA.out.cell 1
    have a2 := HA.out.cell 2
    have a3 := HA.out.cell 3
    have a4 := HA.out.cell 4
    have a5 := HA.out.cell 5
    have a6 := HA.out.cell 6
    have hlA := HA.out.lt
    have hlB := HB.out.lt
    simp only [List.getElem?_cons_zero, List.getElem?_cons_succ] at p3 p4 p5 p7 a0 a1 a2 a3 a4 a5 a6
    obtain ⟨q1, hq1⟩ : ∃ q1, (q && aroS f t gf gt ins l.length) = q1 := ⟨_, rfl⟩
    have HQ3 := Lib.hid (show (q1 && (mk == 0)) = q2 by rw [← hq1]; exact HQ2.out)
    have HQ1 := Lib.hid hq1
    clear hq1
    go_upto_region 11 with (fail)
    go_cut [4] (fun s4 wx => s4 = .bool q1 ∧ Hid (Fr Nob w wx) ∧ Hid (Blk wx (w.heap.size + 1) [.int .i64 1, .int .i64 0, .int .i64 0, .int .i64 gf, .int .i64 gt, .int .i64 ins, .slice none 0 0, .int .i64 mk] 32) ∧ Hid (Blk wx w.heap.size [.int .i64 1, .int .i64 f, .int .i64 t, .int .i64 gf, .int .i64 gt, .int .i64 ins, .slice A l.length c, .int .i64 mk] 32))
    case first =>
      cases q
      · go_wp2_with fail
        go_meet
        exact ⟨by rw [← HQ1.out]; rfl, HF.out, HB.out, HA.out⟩
      · have HQ1' := Lib.hid (show aroS f t gf gt ins l.length = q1 by rw [← HQ1.out]; rfl)
        go_wp2_with fail
        all_goals
          go_meet
          refine ⟨?_, HF.out, HB.out, HA.out⟩
          rw [← HQ1'.out]
          first
            | (rw [show aroS f t gf gt ins l.length = true from (aroS_iff f t gf gt ins l.length).2 (by omega)]; done)
            | (rw [show aroS f t gf gt ins l.length = false from by rw [← Bool.not_eq_true, aroS_iff]; omega]; done)
            | (congr 1; rw [Bool.eq_iff_iff, aroS_iff, decide_eq_true_iff]; omega)
    case rest =>
      obtain ⟨rfl, HF, HB, HA⟩ := hcut
      have p3 := HB.out.cell 3
      have p4 := HB.out.cell 4
      have p5 := HB.out.cell 5
      have p7 := HB.out.cell 7
      have a0 := HA.out.cell 0
      have a1 := HA.out.cell 1
      have a2 := HA.out.cell 2
      have a3 := HA.out.cell 3
      have a4 := HA.out.cell 4
      have a5 := HA.out.cell 5
      have a6 := HA.out.cell 6
      have hlA := HA.out.lt
      have hlB := HB.out.lt
      simp only [List.getElem?_cons_zero, List.getElem?_cons_succ] at p3 p4 p5 p7 a0 a1 a2 a3 a4 a5 a6
      have f3 := HB.out.frozen 3
      have f4 := HB.out.frozen 4
      have f5 := HB.out.frozen 5
      go_upto_region 13 with (fail)
      obtain ⟨W, hW⟩ : ∃ W, ((wc.setCell ⟨w.heap.size + 1, 3, none⟩ (.int .i64 0)).setCell ⟨w.heap.size + 1, 4, none⟩ (.int .i64 0)).setCell ⟨w.heap.size + 1, 5, none⟩ (.int .i64 0) = W := ⟨_, rfl⟩
      have HF2 := Lib.hid (show Fr Nob w W by rw [← hW]; exact ((HF.out.setCell (p := ⟨w.heap.size + 1, 3, none⟩) (.inr (Nat.le_succ _)) _).setCell (p := ⟨w.heap.size + 1, 4, none⟩) (.inr (Nat.le_succ _)) _).setCell (p := ⟨w.heap.size + 1, 5, none⟩) (.inr (Nat.le_succ _)) _)
      have HB2 := Lib.hid (show Blk W (w.heap.size + 1) [.int .i64 1, .int .i64 0, .int .i64 0, .int .i64 0, .int .i64 0, .int .i64 0, .slice none 0 0, .int .i64 mk] 32 by rw [← hW]; exact ((HB.out.set 3 (.int .i64 0)).set 4 (.int .i64 0)).set 5 (.int .i64 0))
      have HA2 := Lib.hid (show Blk W w.heap.size [.int .i64 1, .int .i64 f, .int .i64 t, .int .i64 gf, .int .i64 gt, .int .i64 ins, .slice A l.length c, .int .i64 mk] 32 by rw [← hW]; exact ((HA.out.far (p := ⟨w.heap.size + 1, 3, none⟩) (by simp) _).far (p := ⟨w.heap.size + 1, 4, none⟩) (by simp) _).far (p := ⟨w.heap.size + 1, 5, none⟩) (by simp) _)
      rw [hW]
      clear hW HF HB HA p3 p4 p5 p7 a0 a1 a2 a3 a4 a5 a6 hlA hlB f3 f4 f5
      have HF := HF2
      have HB := HB2
      have HA := HA2
      have p3 := HB.out.cell 3
      have p4 := HB.out.cell 4
      have p5 := HB.out.cell 5
      have p7 := HB.out.cell 7
      have a0 := HA.out.cell 0
      have a1 := HA.out.cell 1
      have a2 := HA.out.cell 2
      have a3 := HA.out.cell 3
      have a4 := HA.out.cell 4
      have a5 := HA.out.cell 5
      have a6 := HA.out.cell 6
      have hlA := HA.out.lt
      have hlB := HB.out.lt
      simp only [List.getElem?_cons_zero, List.getElem?_cons_succ] at p3 p4 p5 p7 a0 a1 a2 a3 a4 a5 a6
      go_cut [4] (fun s4 wx => s4 = .bool q2 ∧ Hid (Fr Nob w wx) ∧ Hid (Blk wx (w.heap.size + 1) [.int .i64 1, .int .i64 0, .int .i64 0, .int .i64 0, .int .i64 0, .int .i64 0, .slice none 0 0, .int .i64 mk] 32) ∧ Hid (Blk wx w.heap.size [.int .i64 1, .int .i64 f, .int .i64 t, .int .i64 gf, .int .i64 gt, .int .i64 ins, .slice A l.length c, .int .i64 mk] 32))
      case first =>
        obtain ⟨z, hz⟩ : ∃ z, (mk == 0) = z := ⟨_, rfl⟩
        have HZ := Lib.hid hz
        cases z
        all_goals
          cases q1
          all_goals
            go_wp2_with fail
            go_meet
            exact ⟨by rw [← HQ3.out, HZ.out]; rfl, HF.out, HB.out, HA.out⟩
      case rest =>
        obtain ⟨rfl, HF, HB, HA⟩ := hcut
        have p3 := HB.out.cell 3
        have p4 := HB.out.cell 4
        have p5 := HB.out.cell 5
        have p7 := HB.out.cell 7
        have a0 := HA.out.cell 0
        have a1 := HA.out.cell 1
        have a2 := HA.out.cell 2
        have a3 := HA.out.cell 3
        have a4 := HA.out.cell 4
        have a5 := HA.out.cell 5
        have a6 := HA.out.cell 6
        have hlA := HA.out.lt
        have hlB := HB.out.lt
        simp only [List.getElem?_cons_zero, List.getElem?_cons_succ] at p3 p4 p5 p7 a0 a1 a2 a3 a4 a5 a6
        go_upto_region 16 with (fail)
        go_cut [4] (fun s4 wx => s4 = .bool q2 ∧ Hid (Fr Nob w wx) ∧ Hid (Blk wx (w.heap.size + 1) [.int .i64 1, .int .i64 0, .int .i64 0, .int .i64 0, .int .i64 0, .int .i64 0, .slice none 0 0, .int .i64 mk] 32) ∧ Hid (Blk wx w.heap.size [.int .i64 1, .int .i64 f, .int .i64 t, .int .i64 gf, .int .i64 gt, .int .i64 ins, .slice A l.length c, .int .i64 mk] 32))
        case first =>
          cases q2
          all_goals
            go_wp2_with fail
            go_meet
            exact ⟨rfl, HF.out, HB.out, HA.out⟩
        case rest =>
          obtain ⟨rfl, HF, HB, HA⟩ := hcut
          have p3 := HB.out.cell 3
          have p4 := HB.out.cell 4
          have p5 := HB.out.cell 5
          have p7 := HB.out.cell 7
          have a0 := HA.out.cell 0
          have a1 := HA.out.cell 1
          have a2 := HA.out.cell 2
          have a3 := HA.out.cell 3
          have a4 := HA.out.cell 4
          have a5 := HA.out.cell 5
          have a6 := HA.out.cell 6
          have hlA := HA.out.lt
          have hlB := HB.out.lt
          simp only [List.getElem?_cons_zero, List.getElem?_cons_succ] at p3 p4 p5 p7 a0 a1 a2 a3 a4 a5 a6
          clear a0 a1 a2 a3 a4 a5
          go_wp2_with fail
          go_loopg [4, 123] (l.length) (fun n s4 i wr => ∃ (k : Nat) (b : Bool), n = l.length - k ∧ k ≤ l.length ∧ s4 = .bool b ∧ i = .int .i64 k ∧ Hid (Fr Nob w wr) ∧ Hid ((b && (l.drop k).all okT) = R))
          case atStart => exact ⟨0, q2, rfl, Nat.zero_le _, rfl, rfl, HF.out, HR.out⟩
          case round =>
            obtain ⟨k, b, rfl, hk, rfl, rfl, HF2, HC⟩ := hrel
            by_cases hlt : k < l.length
            · have ht : ((k : Int) < (l.length : Int)) := by omega
              obtain ⟨ad, rfl, _, hlb, q0', q⟩ := Rd.elt Tok.cells_len (by omega) (HRd.out.fr HF2.out (fun _ _ h => h.elim)) hlt
              have hdr : l.drop k = l[k] :: l.drop (k + 1) := List.drop_eq_getElem_cons hlt
              generalize l[k] = x at q0' q hdr
              have d1 := q 0 (by omega)
              have d2 := q 1 (by omega)
              have d3 := q 2 (by omega)
              simp only [Tok.cells, List.getElem?_cons_zero, List.getElem?_cons_succ, Nat.reduceAdd] at q0' d1 d2 d3
              have hcc := HC.out
              rw [hdr, List.all_cons] at hcc
              have HCC := Lib.hid hcc
              clear q hdr HC hcc
              cases b
              · have HE := Lib.hid (show (false && (l.drop (k + 1)).all okT) = R by rw [← HCC.out]; simp)
                go_wp2_with fail
                go_roundg (l.length - (k + 1))
                case measure => omega
                case rel => exact ⟨k + 1, false, rfl, by omega, rfl, by first | rfl | go_num, HF2.out.alloc _, HE.out⟩
              · go_wp2_with fail
                refine (HOK.out x _).mono ?_
                rintro e w3 ⟨rfl, hF3⟩
                have HF3 := Lib.hid ((HF2.out.alloc (.cells #[.int .i64 x.k, .int .i64 x.t, .int .i64 x.n, .int .i64 x.m] 40)).same hF3)
                have HE := Lib.hid (show (okT x && (l.drop (k + 1)).all okT) = R by rw [← HCC.out]; simp)
                clear hF3 HCC
                generalize okT x = bx at HE
                go_wp2_with fail
                go_roundg (l.length - (k + 1))
                case measure => omega
                case rel => exact ⟨k + 1, bx, rfl, by omega, rfl, by first | rfl | go_num, HF3.out, HE.out⟩
            · have ht : ¬ ((k : Int) < (l.length : Int)) := by omega
              have hcc := HC.out
              rw [List.drop_eq_nil_of_le (by omega), List.all_nil, Bool.and_true] at hcc
              have HE := Lib.hid (show (if b = true then (0 : Int) else 1) = r by rw [← HRR.out, ← hcc])
              clear hcc HC
              cases b
              · go_wp2_with fail
                go_ret
                exact ⟨by rw [← HE.out]; rfl, HF2.out⟩
              · go_wp2_with fail
                go_ret
                exact ⟨by rw [← HE.out]; rfl, HF2.out⟩
end Go.Proofs.YtldcffonfidbcaaGreatDoor

/- Chapter 9: may a step be: all kinds. -/
namespace Go.Proofs.YtldcffonfidbcaaGreatDoor
open Go.RowKit
def kindOk (s : StepM) : Bool :=
  if s.k = 0 then okRep s.f s.t s.gf s.gt s.ins s.m
  else if s.k = 1 then okAro s.f s.t s.gf s.gt s.ins s.m s.l.length
  else if s.k = 2 ∨ s.k = 3 then okMark s.f s.t s.gf s.gt s.ins s.m s.l.length
  else false
/-- What 'Check' answers. -/
def stepF (s : StepM) : Int := if 2048 < s.l.length then 2 else if (kindOk s && s.l.all okT) = true then 0 else 1
theorem stepcheck_any (M : Nat → Prop) (s : StepM) (A : Option Addr) (c : Nat) (w : World) (hr : Rd M w A (tokC s.l)) :
    Calls Tryz.prog 111 #[.agg (s.cells (.slice A s.l.length c)).toArray] w fun e w' => e = .returned (.int .i64 (stepF s)) ∧ Fr Nob w w' := by
  obtain ⟨k, f, t, gf, gt, ins, m, l⟩ := s
  by_cases hn : 2048 < l.length
  · have h : stepF ⟨k, f, t, gf, gt, ins, m, l⟩ = 2 := if_pos hn
    rw [h]
    exact stepcheck_long k f t gf gt ins m A l.length c w hn
  · have hn' : l.length ≤ 2048 := by omega
    have h : stepF ⟨k, f, t, gf, gt, ins, m, l⟩ = if (kindOk ⟨k, f, t, gf, gt, ins, m, l⟩ && l.all okT) = true then 0 else 1 := if_neg hn
    by_cases h0 : k = 0
    · subst h0
      exact stepcheck_rep M f t gf gt ins m A l c w _ hr hn' (by rw [h]; rfl)
    · by_cases h1 : k = 1
      · subst h1
        exact stepcheck_aro M f t gf gt ins m A l c w _ hr hn' (by rw [h]; rfl)
      · by_cases h2 : k = 2 ∨ k = 3
        · exact stepcheck_mark M k f t gf gt ins m A l c w _ hr hn' h2 (by rw [h]; simp only [kindOk, h0, h1, h2, if_true, if_false])
        · exact stepcheck_none M k f t gf gt ins m A l c w _ hr hn' h0 h1 (fun e => h2 (.inl e)) (fun e => h2 (.inr e)) (by rw [h]; simp only [kindOk, h0, h1, h2, if_false])
end Go.Proofs.YtldcffonfidbcaaGreatDoor

/- The builtin copy of elements of some cells each, out of any row into a row that is known whole. -/
namespace Go.Proofs.YtldcffonfidbcaaGreatDoor
open Go.RowKit
/-- Nothing goes over where one of the two has no element. -/
theorem run_copy_noneS {P : Program} (w : World) (dT sT ty elem : TypeId) (d a : Option Addr) (dLen dCap sLen sCap sz : Nat) (hu : P.underlying dT = some (.slice elem)) (hs : (P.info? elem).map (·.size) = some sz) (hn : Nat.min sLen dLen = 0) :
    (Builtin.copy_ #[dT, sT] ty #[.slice d dLen dCap, .slice a sLen sCap]).run P w = .ok (goInt 0) w := by
  cases hq : P.info? elem with
  | none => simp [hq] at hs
  | some i =>
    have hl : ∀ (x : Addr), (loadCells x 0).run P w = .ok #[] w := fun x => by simpa using run_loadCells_list (P := P) w x [] (by simp)
    cases d <;> cases a <;> simp [Builtin.copy_, run_underlying hu, Builtin.lenOf, Builtin.firstCells, sizeOf, typeInfo, hq, hn, storeCells, hl]
theorem run_copy_rowS {P : Program} (w : World) (dT sT ty elem : TypeId) (g o dLen dCap : Nat) (a : Addr) (sLen sCap sz : Nat) (cur : Array Value) (t : TypeId) (cs : List Value)
    (hu : P.underlying dT = some (.slice elem)) (hs : (P.info? elem).map (·.size) = some sz)
    (hg : w.heap[g]? = some (.cells cur t (0, 0))) (hn : cs.length = Nat.min sLen dLen * sz)
    (hsrc : ∀ j v, cs[j]? = some v → w.cell? (a.add j) = some v) (hfit : o + cs.length ≤ cur.size) (h1 : ∀ v ∈ cs, v.oneCell' = true) :
    (Builtin.copy_ #[dT, sT] ty #[.slice (some ⟨g, o, none⟩) dLen dCap, .slice (some a) sLen sCap]).run P w =
      .ok (goInt (Nat.min sLen dLen)) (w.setRow g (cur.toList.take o ++ cs ++ cur.toList.drop (o + cs.length)).toArray) := by
  have hl := run_loadCells_list (P := P) w a cs hsrc
  have hst := run_storeCells_at P g o t cs 0 cur w hg (by simpa using hfit) h1
  cases hq : P.info? elem with
  | none => simp [hq] at hs
  | some i =>
    have hi : i.size = sz := by simpa [hq] using hs
    simp [Builtin.copy_, run_underlying hu, Builtin.lenOf, Builtin.firstCells, sizeOf, typeInfo, hq, hi, ← hn, hl, hst]
/-- copy as a step of the walk: the row behind it is the splice of the two. -/
theorem wpList_copyS {P : Program} {w : World} {ops : Array Oper} {rest : List Oper} {o : Oper} {a : Act} {Q : Exit → Act → World → Prop} (hgd : o.guard = none) (d s : Operand) (dT sT : TypeId)
    (ho : o.op = .call { callee := .builtin .copy, args := #[d, s], argTypes := #[dT, sT] }) (elem : TypeId) (sz : Nat) (hu : P.underlying dT = some (.slice elem)) (hsz : (P.info? elem).map (·.size) = some sz)
    (dp sp : Option Addr) (dLen dCap sLen sCap : Nat) (hd : a.eval d = .slice dp dLen dCap) (hs : a.eval s = .slice sp sLen sCap)
    (g off : Nat) (cur : List Value) (t : TypeId) (hg : Blk w g cur t) (cs : List Value) (hn : cs.length = Nat.min sLen dLen * sz) (hz : 0 < sz)
    (hpos : 0 < cs.length → dp = some ⟨g, off, none⟩ ∧ ∃ ad, sp = some ad ∧ ∀ j v, cs[j]? = some v → w.cell? (ad.add j) = some v)
    (hfit : off + cs.length ≤ cur.length) (h1 : ∀ v ∈ cs, v.oneCell' = true) (m : Nat) (hm : m = Nat.min sLen dLen)
    (h : ∀ w', Hid (Blk w' g (splice cur off cs) t) → Hid (Fr (One g) w w') → wpList P ops Q rest (a.put o.dst (goInt m)) w') :
    wpList P ops Q (o :: rest) a w := by
  subst hm
  by_cases h0 : cs.length = 0
  · obtain rfl : cs = [] := List.eq_nil_of_length_eq_zero h0
    have hmin : Nat.min sLen dLen = 0 := by
      rcases Nat.eq_zero_or_pos (Nat.min sLen dLen) with h | h
      · exact h
      · have := Nat.mul_pos h hz
        simp only [List.length_nil] at hn
        omega
    refine wpList_plain hgd fun K hK => ?_
    have hrun := run_copy_noneS (P := P) w dT sT o.type elem dp sp dLen dCap sLen sCap sz hu hsz hmin
    unfold Oper.wp
    simp [execOp, ho, resolve, invoke, builtin, hd, hs, hrun, Result.andThen]
    refine hK _ _ ?_
    have := h w (show _ = _ by have h' : _ = _ := hg; simpa [splice] using h') (Fr.refl _ _)
    rwa [hmin] at this
  · obtain ⟨rfl, ad, rfl, hsrc⟩ := hpos (by omega)
    refine wpList_plain hgd fun K hK => ?_
    have hrun := run_copy_rowS (P := P) w dT sT o.type elem g off dLen dCap ad sLen sCap sz cur.toArray t cs hu hsz hg hn hsrc (by simpa using hfit) h1
    unfold Oper.wp
    simp [execOp, ho, resolve, invoke, builtin, hd, hs, hrun, Result.andThen]
    refine hK _ _ (h _ (show _ = _ by simpa [splice] using setRow_heap w g _ _ t _ hg) ?_)
    exact ⟨rfl, rfl, rfl, by simp [World.setRow], fun k hk hne => setRow_other w g k _ hne⟩
end Go.Proofs.YtldcffonfidbcaaGreatDoor
