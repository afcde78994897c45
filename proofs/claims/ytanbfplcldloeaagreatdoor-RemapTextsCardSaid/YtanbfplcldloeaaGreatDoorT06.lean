/- A part of the proof for chapter 10: Mark, Join, Made2, Acc, Flat, Sch, Lv; no conditions. -/
import Derived.Test.YtanbfplcldloeaaGreatDoorT05
import Derived.Outline
import Derived.Deep.RegionLaw
import Derived.Lib.LazyBuf
import Derived.Laws.OwnMore
/- Chapter 3: marks, as plain functions; the program's. -/
namespace Go.Proofs.YtanbfplcldloeaaGreatDoor
open Go.RowKit
def isM (m : Int) : Bool := decide (m = 1) || decide (m = 2) || decide (m = 4)
def rightM (s : Int) : Bool := decide (0 ≤ s) && decide (s ≤ 4)
def placeF (m : Int) : Int := if m = 1 then 0 else if m = 2 then 1 else if m = 4 then 2 else 3
def mayF (s m : Int) : Int := if isM m then (if rightM s then 0 else 4) else 1
/-- Is a mark of a set's? -/
def inM (s m : Int) : Bool := decide (s = m) || (decide (s = 3) && decide (m ≠ 4))
def hasF (s m : Int) : Bool := decide (mayF s m = 0) && inM s m
def addF (s m : Int) : Int × Int := if mayF s m ≠ 0 then (0, mayF s m) else if s = 4 ∨ m = 4 then (4, 0) else if s = 0 ∨ s = m then (m, 0) else (3, 0)
def takeF (s m : Int) : Int × Int := if mayF s m ≠ 0 then (0, mayF s m) else if inM s m then (s - m, 0) else (s, 0)
def listM (s : Int) : List Int := if s = 1 then [1] else if s = 2 then [2] else if s = 3 then [1, 2] else if s = 4 then [4] else []
theorem isM_cases {m : Int} (h : isM m = true) : m = 1 ∨ m = 2 ∨ m = 4 := by
  simp only [isM, Bool.or_eq_true, decide_eq_true_eq] at h; omega
theorem rightM_cases {s : Int} (h : rightM s = true) : s = 0 ∨ s = 1 ∨ s = 2 ∨ s = 3 ∨ s = 4 := by
  simp only [rightM, Bool.and_eq_true, decide_eq_true_eq] at h; omega
set_option maxRecDepth 100000 in
theorem place_any (m : Int) (w : World) : Calls Tryz.prog 141 #[.int .i64 m] w fun e w' => e = .returned (.int .i64 (placeF m)) ∧ w' = w := by
  obtain ⟨r, hr⟩ : ∃ r, placeF m = r := ⟨_, rfl⟩
  rw [hr]
  have HR := Lib.hid hr
  clear hr
  have s0 : (1 : Int) <<< (0 : Nat) = 1 := rfl
  go_enter Tryz.func141, Tryz.ntmps141
  go_wp2_with fail
  go_loopg [3] 4 (fun n i wr => ∃ k : Nat, n = 4 - k ∧ k ≤ 3 ∧ i = .int .i64 k ∧ wr = w ∧ Hid ((0 < k → m ≠ 1) ∧ (1 < k → m ≠ 2) ∧ (2 < k → m ≠ 4)))
  case atStart => exact ⟨0, rfl, by omega, rfl, rfl, by simp [Hid]⟩
  case round =>
    obtain ⟨k, rfl, hk, rfl, rfl, HN⟩ := hrel
    have hk4 : k = 0 ∨ k = 1 ∨ k = 2 ∨ k = 3 := by omega
    rcases hk4 with rfl | rfl | rfl | rfl
    · by_cases hm : m = 1
      · have hb : (m == 1) = true := by simpa using hm
        have HM := Lib.hid hm
        clear hm
        go_wp2_with fail
        go_ret
        exact ⟨ret_i (by rw [← HR.out, HM.out]; rfl), rfl⟩
      · have hb : (m == 1) = false := by simpa using hm
        go_wp2_with fail
        go_roundg 3
        case measure => omega
        case rel => exact ⟨1, rfl, by omega, rfl, rfl, by have h := HN.out; refine ⟨fun h3 => ?_, fun h3 => ?_, fun h3 => ?_⟩ <;> first | assumption | omega | exact h.1 (by omega) | exact h.2.1 (by omega)⟩
    · by_cases hm : m = 2
      · have hb : (m == 2) = true := by simpa using hm
        have HM := Lib.hid hm
        clear hm
        go_wp2_with fail
        go_ret
        exact ⟨ret_i (by rw [← HR.out, HM.out]; rfl), rfl⟩
      · have hb : (m == 2) = false := by simpa using hm
        go_wp2_with fail
        go_roundg 2
        case measure => omega
        case rel => exact ⟨2, rfl, by omega, rfl, rfl, by have h := HN.out; refine ⟨fun h3 => ?_, fun h3 => ?_, fun h3 => ?_⟩ <;> first | assumption | omega | exact h.1 (by omega) | exact h.2.1 (by omega)⟩
    · by_cases hm : m = 4
      · have hb : (m == 4) = true := by simpa using hm
        have HM := Lib.hid hm
        clear hm
        go_wp2_with fail
        go_ret
        exact ⟨ret_i (by rw [← HR.out, HM.out]; rfl), rfl⟩
      · have hb : (m == 4) = false := by simpa using hm
        go_wp2_with fail
        go_roundg 1
        case measure => omega
        case rel => exact ⟨3, rfl, by omega, rfl, rfl, by have h := HN.out; refine ⟨fun h3 => ?_, fun h3 => ?_, fun h3 => ?_⟩ <;> first | assumption | omega | exact h.1 (by omega) | exact h.2.1 (by omega)⟩
    · go_wp2_with fail
      go_ret
      have h := HN.out
      exact ⟨ret_i (by rw [← HR.out]; unfold placeF; rw [if_neg (h.1 (by omega)), if_neg (h.2.1 (by omega)), if_neg (h.2.2 (by omega))]), rfl⟩
theorem place_three {m : Int} : placeF m = 3 ↔ isM m = false := by
  unfold placeF isM
  by_cases h1 : m = 1
  · simp [h1]
  by_cases h2 : m = 2
  · simp [h2]
  by_cases h4 : m = 4
  · simp [h4]
  simp [h1, h2, h4]
theorem markRight_any (s : Int) (w : World) : Calls Tryz.prog 89 #[.int .i64 s] w fun e w' => e = .returned (.bool (rightM s)) ∧ w' = w := by
  obtain ⟨r, hr⟩ : ∃ r, rightM s = r := ⟨_, rfl⟩
  rw [hr]
  have HR := Lib.hid hr
  clear hr
  by_cases h0 : 0 ≤ s
  · by_cases h4 : s ≤ 4
    · go_enter Tryz.func89, Tryz.ntmps89
      go_wp2_with fail
      go_ret
      exact ⟨by rw [← HR.out]; simp [rightM, h0, h4], rfl⟩
    · have h5 : 4 < s := by omega
      go_enter Tryz.func89, Tryz.ntmps89
      go_wp2_with fail
      go_ret
      exact ⟨by rw [← HR.out]; simp [rightM, h0, h4], rfl⟩
  · go_enter Tryz.func89, Tryz.ntmps89
    go_wp2_with fail
    go_ret
    exact ⟨by rw [← HR.out]; unfold rightM; rw [decide_eq_false (by omega)]; rfl, rfl⟩
theorem may_any (s m : Int) (w : World) : Calls Tryz.prog 113 #[.int .i64 s, .int .i64 m] w fun e w' => e = .returned (.int .i64 (mayF s m)) ∧ w' = w := by
  obtain ⟨r, hr⟩ : ∃ r, mayF s m = r := ⟨_, rfl⟩
  rw [hr]
  have HR := Lib.hid hr
  have HP := Lib.hid (place_any m)
  have HG := Lib.hid (markRight_any s)
  clear hr
  by_cases h1 : isM m = true
  · have hp : (placeF m == 3) = false := by
      have : ¬ placeF m = 3 := fun h => by rw [place_three.1 h] at h1; cases h1
      simpa using this
    by_cases h2 : rightM s = true
    · have HR2 := Lib.hid (show (0 : Int) = r by rw [← HR.out, mayF, if_pos h1, if_pos h2])
      rw [h2] at HG
      clear h1 h2
      go_enter Tryz.func113, Tryz.ntmps113
      go_wp2_with fail
      refine (HP.out w).mono ?_
      rintro e w1 ⟨rfl, rfl⟩
      go_wp2_with fail
      refine (HG.out w1).mono ?_
      rintro e w1 ⟨rfl, rfl⟩
      go_wp2_with fail
      go_ret
      exact ⟨ret_i HR2.out, rfl⟩
    · have h2' : rightM s = false := by simpa using h2
      have HR2 := Lib.hid (show (4 : Int) = r by rw [← HR.out, mayF, if_pos h1, if_neg h2])
      rw [h2'] at HG
      clear h1 h2 h2'
      go_enter Tryz.func113, Tryz.ntmps113
      go_wp2_with fail
      refine (HP.out w).mono ?_
      rintro e w1 ⟨rfl, rfl⟩
      go_wp2_with fail
      refine (HG.out w1).mono ?_
      rintro e w1 ⟨rfl, rfl⟩
      go_wp2_with fail
      go_ret
      exact ⟨ret_i HR2.out, rfl⟩
  · have h1' : isM m = false := by simpa using h1
    have hp : (placeF m == 3) = true := by simpa using place_three.2 h1'
    have HR2 := Lib.hid (show (1 : Int) = r by rw [← HR.out, mayF, if_neg h1])
    clear h1 h1'
    go_enter Tryz.func113, Tryz.ntmps113
    go_wp2_with fail
    refine (HP.out w).mono ?_
    rintro e w1 ⟨rfl, rfl⟩
    go_wp2_with fail
    go_ret
    exact ⟨ret_i HR2.out, rfl⟩
theorem may_zero {s m : Int} : mayF s m = 0 ↔ isM m = true ∧ rightM s = true := by
  unfold mayF
  by_cases h1 : isM m = true
  · by_cases h2 : rightM s = true <;> simp [h1, h2]
  · simp [h1]
theorem has_any (s m : Int) (w : World) : Calls Tryz.prog 88 #[.int .i64 s, .int .i64 m] w fun e w' => e = .returned (.bool (hasF s m)) ∧ w' = w := by
  obtain ⟨r, hr⟩ : ∃ r, hasF s m = r := ⟨_, rfl⟩
  rw [hr]
  have HR := Lib.hid hr
  have HP := Lib.hid (may_any s m)
  clear hr
  by_cases h : mayF s m = 0
  · obtain ⟨h1, h2⟩ := may_zero.1 h
    rw [h] at HP
    rcases isM_cases h1 with rfl | rfl | rfl <;> rcases rightM_cases h2 with rfl | rfl | rfl | rfl | rfl
    all_goals
      clear h h1 h2
      go_enter Tryz.func88, Tryz.ntmps88
      go_wp2_with fail
      refine (HP.out w).mono ?_
      rintro e w1 ⟨rfl, rfl⟩
      go_wp2_with fail
      go_ret
      exact ⟨by rw [← HR.out]; rfl, rfl⟩
  · have hb : (mayF s m == 0) = false := by simpa using h
    have HR2 := Lib.hid (show false = r by rw [← HR.out, hasF, decide_eq_false h]; rfl)
    clear h
    go_enter Tryz.func88, Tryz.ntmps88
    go_wp2_with fail
    refine (HP.out w).mono ?_
    rintro e w1 ⟨rfl, rfl⟩
    go_wp2_with fail
    go_ret
    exact ⟨by rw [← HR2.out]; rfl, rfl⟩
theorem add_any (s m : Int) (w : World) : Calls Tryz.prog 82 #[.int .i64 s, .int .i64 m] w fun e w' => e = .returned (.tuple #[.int .i64 (addF s m).1, .int .i64 (addF s m).2]) ∧ w' = w := by
  obtain ⟨r, hr⟩ : ∃ r, addF s m = r := ⟨_, rfl⟩
  rw [hr]
  have HR := Lib.hid hr
  have HP := Lib.hid (may_any s m)
  clear hr
  by_cases h : mayF s m = 0
  · obtain ⟨h1, h2⟩ := may_zero.1 h
    rw [h] at HP
    rcases isM_cases h1 with rfl | rfl | rfl <;> rcases rightM_cases h2 with rfl | rfl | rfl | rfl | rfl
    all_goals
      clear h h1 h2
      go_enter Tryz.func82, Tryz.ntmps82
      go_wp2_with fail
      refine (HP.out w).mono ?_
      rintro e w1 ⟨rfl, rfl⟩
      go_wp2_with fail
      go_ret2
      exact ⟨by rw [← HR.out]; rfl, rfl⟩
  · have hb : (mayF s m != 0) = true := by simpa using h
    have HR2 := Lib.hid (show (0, mayF s m) = r by rw [← HR.out, addF, if_pos h])
    clear h
    go_enter Tryz.func82, Tryz.ntmps82
    go_wp2_with fail
    refine (HP.out w).mono ?_
    rintro e w1 ⟨rfl, rfl⟩
    go_wp2_with fail
    go_ret2
    exact ⟨by rw [← HR2.out]; rfl, rfl⟩
theorem take_any (s m : Int) (w : World) : Calls Tryz.prog 83 #[.int .i64 s, .int .i64 m] w fun e w' => e = .returned (.tuple #[.int .i64 (takeF s m).1, .int .i64 (takeF s m).2]) ∧ w' = w := by
  obtain ⟨r, hr⟩ : ∃ r, takeF s m = r := ⟨_, rfl⟩
  rw [hr]
  have HR := Lib.hid hr
  have HP := Lib.hid (may_any s m)
  clear hr
  by_cases h : mayF s m = 0
  · obtain ⟨h1, h2⟩ := may_zero.1 h
    rw [h] at HP
    rcases isM_cases h1 with rfl | rfl | rfl <;> rcases rightM_cases h2 with rfl | rfl | rfl | rfl | rfl
    all_goals
      clear h h1 h2
      go_enter Tryz.func83, Tryz.ntmps83
      go_wp2_with fail
      refine (HP.out w).mono ?_
      rintro e w1 ⟨rfl, rfl⟩
      go_wp2_with fail
      go_ret2
      exact ⟨by rw [← HR.out]; rfl, rfl⟩
  · have hb : (mayF s m != 0) = true := by simpa using h
    have HR2 := Lib.hid (show (0, mayF s m) = r by rw [← HR.out, takeF, if_pos h])
    clear h
    go_enter Tryz.func83, Tryz.ntmps83
    go_wp2_with fail
    refine (HP.out w).mono ?_
    rintro e w1 ⟨rfl, rfl⟩
    go_wp2_with fail
    go_ret2
    exact ⟨by rw [← HR2.out]; rfl, rfl⟩
theorem has_out {s m : Int} (h : rightM s = false) : hasF s m = false := by
  unfold hasF
  rw [decide_eq_false (fun h2 => by rw [(may_zero.1 h2).2] at h; cases h)]
  rfl
theorem list_filter (s : Int) : listM s = [1, 2, 4].filter (hasF s) := by
  by_cases h : rightM s = true
  · rcases rightM_cases h with rfl | rfl | rfl | rfl | rfl <;> decide
  · have h' : rightM s = false := by simpa using h
    have h1 := fun m => has_out (m := m) h'
    simp only [List.filter_cons, h1, List.filter_nil]
    simp only [rightM, Bool.and_eq_false_iff, decide_eq_false_iff_not] at h'
    unfold listM
    rw [if_neg (by omega), if_neg (by omega), if_neg (by omega), if_neg (by omega)]
    rfl
theorem infoI : (Tryz.prog.info? 3).map (fun i => (i.zero, i.size, i.bytes)) = some (some (.int .i64 0), 1, 8) := by kernel_rfl
/-- A slice of ints of the call's own. -/
def OwnI (B : Nat) (w : World) (v : Value) (l : List Int) : Prop := w.ownsRow B 3 1 v l.length (l.map (Value.int .i64))
theorem OwnI.nil (w : World) (B : Nat) : OwnI B w (.slice none 0 0) [] := ⟨rfl, .inl ⟨rfl, rfl⟩⟩
set_option maxHeartbeats 400000 in
set_option maxRecDepth 100000 in
theorem list_any (s : Int) (w : World) : Calls Tryz.prog 57 #[.int .i64 s] w fun e w' => ∃ v, e = .returned v ∧ OwnI w.heap.size w' v (listM s) ∧ Below w.heap.size w w' := by
  obtain ⟨r, hr⟩ : ∃ r, listM s = r := ⟨_, rfl⟩
  have hfl := list_filter s
  rw [hr] at hfl ⊢
  have HR := Lib.hid hfl
  have HP := Lib.hid (has_any s)
  obtain ⟨i0, hi, hz0, hz1, hz2⟩ := info_parts infoI
  have s0 : (1 : Int) <<< (0 : Nat) = 1 := rfl
  clear hr hfl
  go_enter Tryz.func57, Tryz.ntmps57
  go_wp2_with fail
  go_loopg [3, 4] 3 (fun n v i wr => ∃ (k : Nat) (l : List Int), n = 3 - k ∧ k ≤ 3 ∧ l.length ≤ k ∧ i = .int .i64 k ∧ Hid (OwnI w.heap.size wr v l) ∧ Hid (Below w.heap.size w wr) ∧ Hid (r = l ++ ([1, 2, 4].drop k).filter (hasF s)))
  case atStart => exact ⟨0, [], rfl, by omega, Nat.le_refl _, rfl, OwnI.nil _ _, Below.refl _ _, HR.out⟩
  case round =>
    obtain ⟨k, l, rfl, hk, hl, rfl, HO, HB, HRr⟩ := hrel
    have hk4 : k = 0 ∨ k = 1 ∨ k = 2 ∨ k = 3 := by omega
    rcases hk4 with rfl | rfl | rfl | rfl
    · by_cases hh : hasF s 1 = true
      · have HH := Lib.hid hh
        have hc := HP.out 1
        rw [hh] at hc
        have HC := Lib.hid hc
        have hown : wr.ownsRow w.heap.size 3 1 u3 l.length (l.map (Value.int .i64)) := HO.out
        have hsz := HB.out.size
        clear hh hc
        go_wp2_with fail
        refine (HC.out _).mono ?_
        rintro e w1 ⟨rfl, rfl⟩
        go_wp2_with (at_builtin; refine wpList_append_own_at _ rfl _ _ 44 rfl w.heap.size 3 i0 _ 1 8 Tryz.underlying44 hi hz0 hz1 hz2 rfl (by decide) u3 l.length (l.map (Value.int .i64)) rfl (hown.alloc _) ⟨w1.heap.size, 0, none⟩ 1 1 [.int .i64 1] rfl ?c1 ?c2 ?c3 ?c4 ?c5 ?c6 ?_)
        case c1 => rfl
        case c2 =>
          intro j u hj
          have hb := ((Blk.new_at w1 [.int .i64 1] 3 w1.heap.size rfl).cell j).trans hj
          rw [add_lit]
          exact hb
        case c3 => simp [Value.oneCell']
        case c4 => unfold maxLen; omega
        case c5 => omega
        case c6 => simp; omega
        intro v2 w5 hown2 hgr2 _ hat2
        have hb2 : Below w.heap.size w w5 := (HB.out.alloc hsz _).grown hgr2 (by simp; omega) (fun k hk => (World.ownsRow.lt hown k hk).1)
        have HO2 := Lib.hid hown2
        have HB2 := Lib.hid hb2
        clear hown hown2 hgr2 hat2 hb2
        go_wp2_with fail
        go_roundg 2
        case measure => omega
        case rel => exact ⟨1, l ++ [1], rfl, by omega, (by rw [List.length_append]; show l.length + 1 ≤ _; omega), rfl, by have h := HO2.out; simpa [OwnI, Hid] using h, HB2.out, by rw [Hid, HRr.out]; simp [List.filter_cons, HH.out]⟩
      · have hh' : hasF s 1 = false := by simpa using hh
        have HH := Lib.hid hh'
        have hc := HP.out 1
        rw [hh'] at hc
        have HC := Lib.hid hc
        clear hh hh' hc
        go_wp2_with fail
        refine (HC.out _).mono ?_
        rintro e w1 ⟨rfl, rfl⟩
        go_wp2_with fail
        go_roundg 2
        case measure => omega
        case rel => exact ⟨1, l, rfl, by omega, by omega, rfl, HO.out, HB.out, by rw [Hid, HRr.out]; simp [List.filter_cons, HH.out]⟩
    · by_cases hh : hasF s 2 = true
      · have HH := Lib.hid hh
        have hc := HP.out 2
        rw [hh] at hc
        have HC := Lib.hid hc
        have hown : wr.ownsRow w.heap.size 3 1 u3 l.length (l.map (Value.int .i64)) := HO.out
        have hsz := HB.out.size
        clear hh hc
        go_wp2_with fail
        refine (HC.out _).mono ?_
        rintro e w1 ⟨rfl, rfl⟩
        go_wp2_with (at_builtin; refine wpList_append_own_at _ rfl _ _ 44 rfl w.heap.size 3 i0 _ 1 8 Tryz.underlying44 hi hz0 hz1 hz2 rfl (by decide) u3 l.length (l.map (Value.int .i64)) rfl (hown.alloc _) ⟨w1.heap.size, 0, none⟩ 1 1 [.int .i64 2] rfl ?c1 ?c2 ?c3 ?c4 ?c5 ?c6 ?_)
        case c1 => rfl
        case c2 =>
          intro j u hj
          have hb := ((Blk.new_at w1 [.int .i64 2] 3 w1.heap.size rfl).cell j).trans hj
          rw [add_lit]
          exact hb
        case c3 => simp [Value.oneCell']
        case c4 => unfold maxLen; omega
        case c5 => omega
        case c6 => simp; omega
        intro v2 w5 hown2 hgr2 _ hat2
        have hb2 : Below w.heap.size w w5 := (HB.out.alloc hsz _).grown hgr2 (by simp; omega) (fun k hk => (World.ownsRow.lt hown k hk).1)
        have HO2 := Lib.hid hown2
        have HB2 := Lib.hid hb2
        clear hown hown2 hgr2 hat2 hb2
        go_wp2_with fail
        go_roundg 1
        case measure => omega
        case rel => exact ⟨2, l ++ [2], rfl, by omega, (by rw [List.length_append]; show l.length + 1 ≤ _; omega), rfl, by have h := HO2.out; simpa [OwnI, Hid] using h, HB2.out, by rw [Hid, HRr.out]; simp [List.filter_cons, HH.out]⟩
      · have hh' : hasF s 2 = false := by simpa using hh
        have HH := Lib.hid hh'
        have hc := HP.out 2
        rw [hh'] at hc
        have HC := Lib.hid hc
        clear hh hh' hc
        go_wp2_with fail
        refine (HC.out _).mono ?_
        rintro e w1 ⟨rfl, rfl⟩
        go_wp2_with fail
        go_roundg 1
        case measure => omega
        case rel => exact ⟨2, l, rfl, by omega, by omega, rfl, HO.out, HB.out, by rw [Hid, HRr.out]; simp [List.filter_cons, HH.out]⟩
    · by_cases hh : hasF s 4 = true
      · have HH := Lib.hid hh
        have hc := HP.out 4
        rw [hh] at hc
        have HC := Lib.hid hc
        have hown : wr.ownsRow w.heap.size 3 1 u3 l.length (l.map (Value.int .i64)) := HO.out
        have hsz := HB.out.size
        clear hh hc
        go_wp2_with fail
        refine (HC.out _).mono ?_
        rintro e w1 ⟨rfl, rfl⟩
        go_wp2_with (at_builtin; refine wpList_append_own_at _ rfl _ _ 44 rfl w.heap.size 3 i0 _ 1 8 Tryz.underlying44 hi hz0 hz1 hz2 rfl (by decide) u3 l.length (l.map (Value.int .i64)) rfl (hown.alloc _) ⟨w1.heap.size, 0, none⟩ 1 1 [.int .i64 4] rfl ?c1 ?c2 ?c3 ?c4 ?c5 ?c6 ?_)
        case c1 => rfl
        case c2 =>
          intro j u hj
          have hb := ((Blk.new_at w1 [.int .i64 4] 3 w1.heap.size rfl).cell j).trans hj
          rw [add_lit]
          exact hb
        case c3 => simp [Value.oneCell']
        case c4 => unfold maxLen; omega
        case c5 => omega
        case c6 => simp; omega
        intro v2 w5 hown2 hgr2 _ hat2
        have hb2 : Below w.heap.size w w5 := (HB.out.alloc hsz _).grown hgr2 (by simp; omega) (fun k hk => (World.ownsRow.lt hown k hk).1)
        have HO2 := Lib.hid hown2
        have HB2 := Lib.hid hb2
        clear hown hown2 hgr2 hat2 hb2
        go_wp2_with fail
        go_roundg 0
        case measure => omega
        case rel => exact ⟨3, l ++ [4], rfl, by omega, (by rw [List.length_append]; show l.length + 1 ≤ _; omega), rfl, by have h := HO2.out; simpa [OwnI, Hid] using h, HB2.out, by rw [Hid, HRr.out]; simp [List.filter_cons, HH.out]⟩
      · have hh' : hasF s 4 = false := by simpa using hh
        have HH := Lib.hid hh'
        have hc := HP.out 4
        rw [hh'] at hc
        have HC := Lib.hid hc
        clear hh hh' hc
        go_wp2_with fail
        refine (HC.out _).mono ?_
        rintro e w1 ⟨rfl, rfl⟩
        go_wp2_with fail
        go_roundg 0
        case measure => omega
        case rel => exact ⟨3, l, rfl, by omega, by omega, rfl, HO.out, HB.out, by rw [Hid, HRr.out]; simp [List.filter_cons, HH.out]⟩
    · go_wp2_with fail
      go_ret
      exact ⟨_, rfl, by rw [HRr.out]; simpa using HO.out, HB.out⟩
end Go.Proofs.YtanbfplcldloeaaGreatDoor

/- Chapter 6: the machine's 'join', of one place with itself. -/
namespace Go.Proofs.YtanbfplcldloeaaGreatDoor
open Go.RowKit
set_option maxRecDepth 100000 in
set_option maxHeartbeats 1000000 in
theorem join_any (m fb nb c1 c2 tb lc fc : Nat) (z : Value) (w : World) (hm : Blk w m [.slice (some ⟨tb, 0, none⟩) 1 c1, .slice (some ⟨fb, 0, none⟩) 1 c2, z, .slice none 0 0, .slice none 0 0] 214)
    (hf : w.cell? ⟨fb, 0, none⟩ = some (.slice none 0 0)) (hz : w.frozen? ⟨fb, 0, none⟩ = false) (hn : w.cell? ⟨nb, 0, none⟩ = some (.int .i64 0)) :
    Calls Tryz.prog 142 #[.pointer (some ⟨m, 0, none⟩), .slice (some ⟨nb, 0, none⟩) 1 lc, .slice (some ⟨nb, 0, none⟩) 1 fc] w fun e w' => e = .returned (.tuple #[]) ∧ (∃ ff cf : Nat, w.heap.size ≤ ff ∧ w'.cell? ⟨fb, 0, none⟩ = some (.slice (some ⟨ff, 0, none⟩) 1 cf) ∧ w'.cell? ⟨ff, 0, none⟩ = some (.int .i64 0)) ∧ Fr (One fb) w w' := by
  have d1 := hm.cell 1
  have hlm := hm.lt
  have hlf := cell_lt hf
  have hln := cell_lt hn
  simp only [List.getElem?_cons_zero, List.getElem?_cons_succ] at d1
  clear hm
  go_enter Tryz.func142, Tryz.ntmps142
  go_wp2_with fail
  refine wp_loop_rounds 2 ?_
  rw [rounds_succ]
  go_wp2_with fail
  have hnews : ∀ j u, [Value.int .i64 0][j]? = some u → w.drew.cell? ((⟨nb, 0, none⟩ : Addr).add j) = some u := fun j u hj => by
    cases j with
    | zero => rw [show u = .int .i64 0 by simpa using hj.symm, add_lit]; exact hn
    | succ j => simp at hj
  have hk : ∀ w2 : World, w.drew.grownBy w2 (Value.slice none 0 0).ownBlock → Fr Nob w w2 := fun w2 h =>
    (Fr.refl Nob w).drew.same ((Fr.of_grown h).mono (fun k _ h => by simp [Value.ownBlock] at h))
  have HK := Lib.hid hk
  have HN := Lib.hid hnews
  obtain ⟨i0, hi, hz0, hz1, hz2⟩ := info_parts infoI
  clear hnews
  go_region_law (refine step_append_lies _ (by rfl) _ _ _ (by rfl) w.heap.size 3 i0 _ 1 8 Tryz.underlying44 hi hz0 hz1 hz2 rfl (by decide) (.slice none 0 0) 0 [] (by rfl) (ownNil _ _ _) ⟨nb, 0, none⟩ 1 fc [.int .i64 0] (by rfl) rfl HN.out (by simp [Value.oneCell']) (by omega) (by unfold maxLen; omega) (by omega) (Nat.le_refl _) _ rfl ?_; intro gg cap w2 hown2 hgr2 hat2 hlt2; have e4 := (HK.out w2 hgr2).cell0 hf; have e5 := ((HK.out w2 hgr2).frozen (p := ⟨fb, 0, none⟩) hlf (fun h => h)).trans hz; have e6 := cell_lt e4; have e7 := (HK.out w2 hgr2).cell0 d1; have e8 := cell_lt e7)
  all_goals
    have hge := (World.ownsRow.lt hown2 gg rfl).1
    have hcg : w2.cell? ⟨gg, 0, none⟩ = some (.int .i64 0) := by
      have h := hown2.cells (g := gg) rfl 0 (.int .i64 0) rfl
      rwa [add_lit] at h
    have hfb : (w2.setCell ⟨fb, 0, none⟩ (.slice (some ⟨gg, 0, none⟩) 1 cap)).cell? ⟨fb, 0, none⟩ = some (.slice (some ⟨gg, 0, none⟩) 1 cap) := World.cell?_setCell_same _ _ _ e4
    have hgb : (w2.setCell ⟨fb, 0, none⟩ (.slice (some ⟨gg, 0, none⟩) 1 cap)).cell? ⟨gg, 0, none⟩ = some (.int .i64 0) := (World.cell?_setCell_other _ _ _ _ (fun e => by have : fb = gg := congrArg Addr.block e; omega)).trans hcg
    have hfr : Fr (One fb) w (w2.setCell ⟨fb, 0, none⟩ (.slice (some ⟨gg, 0, none⟩) 1 cap)) := ((HK.out w2 hgr2).any (M := One fb)).setCell (p := ⟨fb, 0, none⟩) (.inl (show One fb fb from rfl)) _
    have H1 := Lib.hid hfb
    have H2 := Lib.hid hgb
    have H3 := Lib.hid hfr
    clear hown2 hgr2 hat2 hcg hfb hgb hfr e4 e5 e7 d1 hf hz hn
    go_wp2_with fail
    rw [rounds_succ]
    go_wp2_with fail
    refine bodyPost_end (v := .tuple #[]) (by simp [results, go_sem]) rfl ⟨rfl, ⟨gg, cap, hge, H1.out, H2.out⟩, H3.out⟩
end Go.Proofs.YtanbfplcldloeaaGreatDoor

/- Chapter 6: 'build' and 'made' of 'x*' and 'x+'. -/
namespace Go.Proofs.YtanbfplcldloeaaGreatDoor
open Go.RowKit
/-- 'x*' (star) or 'x+'. -/
def repT (star : Bool) (nm : ByteArray) : Tree := .node (if star then 4 else 5) ⟨#[]⟩ [.node 1 nm []]
theorem repT_open {M : Nat → Prop} {w : World} {star : Bool} {nm : ByteArray} {cs : List Value} (h : ERep M w (repT star nm) cs) :
    ∃ ad c CA cc, cs = [.int .i64 (if star then 4 else 5), .string ⟨#[]⟩, .slice (some ad) 1 c] ∧ ¬ M ad.block ∧ w.cell? ad = some (.int .i64 1) ∧ w.cell? ⟨ad.block, ad.off + 1, none⟩ = some (.string nm) ∧ w.cell? ⟨ad.block, ad.off + 2, none⟩ = some (.slice CA 0 cc) := by
  unfold repT at h
  simp only [ERep, EReps] at h
  obtain ⟨A, c, css, rfl, hl, hr, c0, c1, c2, rest, rfl, ⟨CA, cc, css2, he, _, _, _⟩, rfl⟩ := h
  simp only [List.cons.injEq, and_true] at he
  obtain ⟨rfl, rfl, rfl⟩ := he
  obtain ⟨ad, rfl, hn, hc⟩ := hr (by simp)
  have h0 := hc 0 _ rfl
  have h1 := hc 1 _ rfl
  have h2 := hc 2 _ rfl
  have e0 : ad.add 0 = ad := rfl
  have e1 : ad.add 1 = ⟨ad.block, ad.off + 1, none⟩ := rfl
  have e2 : ad.add 2 = ⟨ad.block, ad.off + 2, none⟩ := rfl
  rw [e0] at h0
  rw [e1] at h1
  rw [e2] at h2
  exact ⟨ad, c, CA, cc, rfl, hn, h0, h1, h2⟩
set_option maxRecDepth 100000 in
set_option maxHeartbeats 1000000 in
theorem buildrep_any (g : List Grp) (hgl : g.length ≤ 1000000) (star : Bool) (nm : ByteArray) (m : Nat) (cs : List Value) (v : Value) (w : World) (hx : ERep (One m) w (repT star nm) cs) (hg : Grps (Mb m w.heap.size) w v g) (hT : (typesF g nm).length ≤ 1000000)
    (hm : Blk w m [.slice none 0 0, .slice none 0 0, .bool false, .slice none 0 0, .slice none 0 0] 214) :
    Calls Tryz.prog 114 #[.pointer (some ⟨m, 0, none⟩), .agg cs.toArray, v] w fun e w' => (∃ (TA : Option Addr) (tc tb fb nb c1 c2 ff cf : Nat),
      e = .returned (.agg #[.bool star, .slice (some ⟨nb, 0, none⟩) 1 1, .slice (some ⟨nb, 0, none⟩) 1 1]) ∧
      Blk w' m [.slice (some ⟨tb, 0, none⟩) 1 c1, .slice (some ⟨fb, 0, none⟩) 1 c2, .bool false, .slice none 0 0, .slice none 0 0] 214 ∧
      tb ≠ m ∧ fb ≠ m ∧ ff ≠ m ∧ nb ≠ m ∧ w'.cell? ⟨tb, 0, none⟩ = some (.slice TA (typesF g nm).length tc) ∧ Rd (One m) w' TA (intC (typesF g nm)) ∧ w'.cell? ⟨fb, 0, none⟩ = some (.slice (some ⟨ff, 0, none⟩) 1 cf) ∧ w'.cell? ⟨ff, 0, none⟩ = some (.int .i64 0) ∧ w'.cell? ⟨nb, 0, none⟩ = some (.int .i64 0)) ∧ Fr (One m) w w' := by
  obtain ⟨ad, lc, CA, cc, rfl, hna, x0, x1, x2⟩ := repT_open hx
  obtain ⟨T, hTT⟩ : ∃ T, typesF g nm = T := ⟨_, rfl⟩
  have hbn := fun W h0 h1 h2 => buildname_any g hgl nm m CA cc v w.heap.size W h0 h1 hT h2
  rw [hTT] at hbn hT ⊢
  obtain ⟨k, hk⟩ : ∃ k : Int, (if star then 4 else 5) = k := ⟨_, rfl⟩
  have k0 : (k == 0) = false := by rw [← hk]; cases star <;> rfl
  have k1 : (k == 1) = false := by rw [← hk]; cases star <;> rfl
  have k2 : (k == 2) = false := by rw [← hk]; cases star <;> rfl
  have k3 : (k == 3) = false := by rw [← hk]; cases star <;> rfl
  have k6 : (k != 6) = true := by rw [← hk]; cases star <;> rfl
  have k5 : (k != 5) = star := by rw [← hk]; cases star <;> rfl
  rw [hk]
  clear hk
  obtain ⟨w0, hw0⟩ : ∃ w0, (w.alloc (.cells #[.int .i64 k, .string ⟨#[]⟩, .slice (some ad) 1 lc] 122)).alloc (.cells #[.bool false, .slice none 0 0, .slice none 0 0] 212) = w0 := ⟨_, rfl⟩
  have hf0 : Fr Nob w w0 := hw0 ▸ ((Fr.refl _ _).alloc _).alloc _
  have hbx : Blk w0 w.heap.size [.int .i64 k, .string ⟨#[]⟩, .slice (some ad) 1 lc] 122 := hw0 ▸ (Blk.new _ _ _).alloc _
  have hbp : Blk w0 (w.heap.size + 1) [.bool false, .slice none 0 0, .slice none 0 0] 212 := hw0 ▸ Blk.new_at _ _ _ _ (by simp)
  have hsz : w0.heap.size = w.heap.size + 1 + 1 := by rw [← hw0]; simp
  have y0 := hf0.cell0 x0
  have y1 := hf0.cell0 x1
  have y2 := hf0.cell0 x2
  have HW0 := Lib.hid hw0
  have HF0 := Lib.hid hf0
  have HBX := Lib.hid hbx
  have HBP := Lib.hid hbp
  have HM0 := Lib.hid (hm.fr hf0 (fun h => h))
  have HG := Lib.hid hg
  have HBN := Lib.hid hbn
  have hlm := hm.lt
  have d0 := hbx.cell 0
  have d2 := hbx.cell 2
  have hlx := hbx.lt
  simp only [List.getElem?_cons_zero, List.getElem?_cons_succ] at d0 d2
  clear hw0 hf0 hbx hbp hm hg hbn hTT hx x0 x1 x2
  go_enter Tryz.func114, Tryz.ntmps114
  go_upto_region 33 with (fail)
  rw [HW0.out]
  go_wp2_with fail
  refine (HBN.out w0 HF0.out.size (HG.out.fr0 HF0.out) HM0.out).mono ?_
  rintro e w1 ⟨⟨TA, tc, tb, fb, nb, c1, c2, rfl, hM1, b1, b2, b3, b4, b5, q1, hR1, ⟨q2, q2'⟩, q3⟩, hF1⟩
  have HM1 := Lib.hid hM1
  have HF1 := Lib.hid hF1
  have HR1 := Lib.hid hR1
  have HQ := Lib.hid (And.intro q1 (And.intro q2 (And.intro q2' q3)))
  have HBB := Lib.hid (And.intro b1 (And.intro b2 (And.intro b3 (And.intro b4 b5))))
  have hm1 := hM1.lt
  have hlq := cell_lt q3
  have hnm : ∀ j, j ≠ m → ¬ One m j := fun j hj h => hj h
  have hbx1 := HBX.out.fr hF1 (hnm _ (by omega))
  have hbp1 := HBP.out.fr hF1 (hnm _ (by omega))
  have HBX1 := Lib.hid hbx1
  have HBP1 := Lib.hid hbp1
  clear hM1 hF1 hR1 q1 q2 q2' q3 b1 b2 b3 b4 b5 hbx1 hbp1 y0 y1 y2 d0 d2 hlx
  have d0 := HBX1.out.cell 0
  have hlx := HBX1.out.lt
  have hlp := HBP1.out.lt
  simp only [List.getElem?_cons_zero] at d0
  go_upto_region 35 with (fail)
  obtain ⟨w2, hw2⟩ : ∃ w2, w1.alloc (.cells #[.bool false, .slice (some ⟨nb, 0, none⟩) 1 1, .slice (some ⟨nb, 0, none⟩) 1 1] 212) = w2 := ⟨_, rfl⟩
  obtain ⟨Q, hQ⟩ : ∃ Q, w1.heap.size = Q := ⟨_, rfl⟩
  rw [hw2, hQ]
  have hf2 : Fr Nob w1 w2 := hw2 ▸ (Fr.refl _ _).alloc _
  have hbq : Blk w2 Q [.bool false, .slice (some ⟨nb, 0, none⟩) 1 1, .slice (some ⟨nb, 0, none⟩) 1 1] 212 := hw2 ▸ Blk.new_at _ _ _ _ hQ.symm
  have hlQ := hbq.lt
  have z1 := hbq.cell 1
  have z2 := hbq.cell 2
  have HF2 := Lib.hid hf2
  have HBQ := Lib.hid hbq
  simp only [List.getElem?_cons_zero, List.getElem?_cons_succ] at z1 z2
  clear hw2 hf2 hbq d0 hlx hlp
  go_wp2_with fail
  refine (join_any m fb nb c1 c2 tb 1 1 (.bool false) w2 (HM1.out.fr HF2.out (fun h => h)) (HF2.out.cell0 HQ.out.2.1) ((HF2.out.frozen (p := ⟨fb, 0, none⟩) (cell_lt HQ.out.2.1) (fun h => h)).trans HQ.out.2.2.1) (HF2.out.cell0 HQ.out.2.2.2)).mono ?_
  rintro e w3 ⟨rfl, ⟨ff, cf, hff, j1, j2⟩, hF3⟩
  have hbb := HBB.out
  have hlfb : fb < w1.heap.size := cell_lt HQ.out.2.1
  have hltb : tb < w1.heap.size := cell_lt HQ.out.1
  have hlnb : nb < w1.heap.size := cell_lt HQ.out.2.2.2
  have hs2 := HF2.out.size
  have hs0 := HF1.out.size
  have HF3 := Lib.hid hF3
  have HJ := Lib.hid (And.intro j1 j2)
  have hnf : ∀ j, j ≠ fb → ¬ One fb j := fun j hj h => hj h
  have hbq3 := HBQ.out.fr hF3 (hnf _ (by omega))
  have hbx3 := (HBX1.out.fr HF2.out (fun h => h)).fr hF3 (hnf _ (by omega))
  have hbp3 := (HBP1.out.fr HF2.out (fun h => h)).fr hF3 (hnf _ (by omega))
  have z0 := hbq3.cell 0
  have z1 := hbq3.cell 1
  have z2 := hbq3.cell 2
  have y0 := hbq3.frozen 0
  have p0 := hbp3.cell 0
  have p1 := hbp3.cell 1
  have p2 := hbp3.cell 2
  have o0 := hbp3.frozen 0
  have o1 := hbp3.frozen 1
  have o2 := hbp3.frozen 2
  have d0 := hbx3.cell 0
  have hl1 := hbq3.lt
  have hl2 := hbp3.lt
  have hl3 := hbx3.lt
  have hnq1 : ¬ Q = w.heap.size + 1 := by omega
  have hnq2 : ¬ w.heap.size + 1 = Q := by omega
  have HBQ3 := Lib.hid hbq3
  have HBP3 := Lib.hid hbp3
  simp only [List.getElem?_cons_zero, List.getElem?_cons_succ] at z0 z1 z2 p0 p1 p2 d0
  have hff2 := hff
  clear j1 j2 hF3 hbq3 hbx3 hbp3 hbb
  go_wp2_with fail
  have hfQ : Fr (One Q) w3 (w3.setCell ⟨Q, 0, none⟩ (.bool star)) := (Fr.refl (One Q) w3).setCell (p := ⟨Q, 0, none⟩) (.inl (show One Q Q from rfl)) _
  have hf9 : Fr (fun j => j = Q ∨ j = w.heap.size + 1) w3 ((((w3.setCell ⟨Q, 0, none⟩ (.bool star)).setCell ⟨w.heap.size + 1, 0, none⟩ (.bool star)).setCell ⟨w.heap.size + 1, 1, none⟩ (.slice (some ⟨nb, 0, none⟩) 1 1)).setCell ⟨w.heap.size + 1, 2, none⟩ (.slice (some ⟨nb, 0, none⟩) 1 1)) := (hfQ.mono (M' := fun j => j = Q ∨ j = w.heap.size + 1) (fun _ _ h => .inl h)).trans (fr_store3 _ (w.heap.size + 1) _ _ _) (fun _ _ h => .inr h)
  have hbp9 : Blk ((((w3.setCell ⟨Q, 0, none⟩ (.bool star)).setCell ⟨w.heap.size + 1, 0, none⟩ (.bool star)).setCell ⟨w.heap.size + 1, 1, none⟩ (.slice (some ⟨nb, 0, none⟩) 1 1)).setCell ⟨w.heap.size + 1, 2, none⟩ (.slice (some ⟨nb, 0, none⟩) 1 1)) (w.heap.size + 1) [.bool star, .slice (some ⟨nb, 0, none⟩) 1 1, .slice (some ⟨nb, 0, none⟩) 1 1] 212 := (((HBP3.out.far (p := ⟨Q, 0, none⟩) hnq2 _).set 0 _).set 1 _).set 2 _
  clear z0 z1 z2 y0 p0 p1 p2 o0 o1 o2 d0
  generalize (((w3.setCell ⟨Q, 0, none⟩ (.bool star)).setCell ⟨w.heap.size + 1, 0, none⟩ (.bool star)).setCell ⟨w.heap.size + 1, 1, none⟩ (.slice (some ⟨nb, 0, none⟩) 1 1)).setCell ⟨w.heap.size + 1, 2, none⟩ (.slice (some ⟨nb, 0, none⟩) 1 1) = W9 at hf9 hbp9 ⊢
  have p0 := hbp9.cell 0
  have p1 := hbp9.cell 1
  have p2 := hbp9.cell 2
  simp only [List.getElem?_cons_zero, List.getElem?_cons_succ] at p0 p1 p2
  have hbb := HBB.out
  have hn9 : ∀ j, j ≠ Q → j ≠ w.heap.size + 1 → ¬ (j = Q ∨ j = w.heap.size + 1) := fun j h1 h2 h => h.elim h1 h2
  have hm2 := HM1.out.fr HF2.out (fun h => h)
  have hmlt := hm1
  refine bodyPost_ret (v := .agg #[.bool star, .slice (some ⟨nb, 0, none⟩) 1 1, .slice (some ⟨nb, 0, none⟩) 1 1]) (by simp [results, go_sem, p0, p1, p2]) rfl
    ⟨⟨TA, tc, tb, fb, nb, c1, c2, ff, cf, rfl, (hm2.fr HF3.out (hnf _ (by omega))).fr hf9 (hn9 _ (by omega) (by omega)), by omega, by omega, by omega, ?_, ?_, ?_, ?_, ?_, ?_⟩, ?_⟩
  · omega
  · exact hf9.cellM (HF3.out.cellM (HF2.out.cell0 HQ.out.1) (hnf _ (by show tb ≠ fb; omega))) (hn9 _ (by show tb ≠ Q; omega) (by show tb ≠ _; omega))
  · exact (((HR1.out.fr HF2.out (fun _ _ h => h.elim)).fr HF3.out (fun j _ h => .inr (by have : j = fb := h; omega))).fr hf9 (fun j _ h => .inr (by rcases h with h | h <;> omega))).mono (fun _ h => .inl h)
  · exact hf9.cellM HJ.out.1 (hn9 _ (by show fb ≠ Q; omega) (by show fb ≠ _; omega))
  · exact hf9.cellM HJ.out.2 (hn9 _ (by show ff ≠ Q; omega) (by show ff ≠ _; omega))
  · exact hf9.cellM (HF3.out.cellM (HF2.out.cell0 HQ.out.2.2.2) (hnf _ (by show nb ≠ fb; omega))) (hn9 _ (by show nb ≠ Q; omega) (by show nb ≠ _; omega))
  · have h1 := (HF0.out.any (M := One m)).same HF1.out
    have h2 := (h1.none HF2.out).trans (M := One m) HF3.out (fun j hj h => by have : j = fb := h; omega)
    exact h2.trans hf9 (fun j hj h => by rcases h with h | h <;> omega)
end Go.Proofs.YtanbfplcldloeaaGreatDoor

/- Chapter 6: 'made', 'Accepts' and 'Begins', of 'x*' and 'x+'. -/
namespace Go.Proofs.YtanbfplcldloeaaGreatDoor
open Go.RowKit
theorem typesF_len {g : List Grp} (h : ∀ x ∈ g, x.types.length ≤ 16) (s : ByteArray) : (typesF g s).length ≤ 16 := by
  induction g with
  | nil => simp [typesF]
  | cons x g ih =>
    rw [typesF]
    split
    · exact h x (List.mem_cons_self ..)
    · exact ih (fun y hy => h y (List.mem_cons_of_mem _ hy))
theorem GReps.bound {M : Nat → Prop} {w : World} : ∀ (l : List Grp) (cs : List Value), GReps M w l cs → GReps (fun k => M k ∨ w.heap.size ≤ k) w l cs
  | [], cs => by simp only [GReps]; exact id
  | x :: xs, cs => by
    simp only [GReps]
    rintro ⟨A, c, rest, rfl, hl, hr, hs⟩
    exact ⟨A, c, rest, rfl, hl, hr.bound, GReps.bound xs rest hs⟩
theorem Grps.bound {M : Nat → Prop} {w : World} {v : Value} {l : List Grp} (h : Grps M w v l) : Grps (fun k => M k ∨ w.heap.size ≤ k) w v l := by
  obtain ⟨A, c, css, rfl, hc, hr, hg⟩ := h
  exact ⟨A, c, css, rfl, hc, hr.bound, GReps.bound _ _ hg⟩
theorem count_rep (star : Bool) (nm : ByteArray) : (repT star nm).count ≤ 4611686018427387904 := by
  rw [count_eq]; simp [repT, Tree.l, countL, Tree.count]
/-- An expression of a name, of few. -/
structure RepOk (g : List Grp) (star : Bool) (nm : ByteArray) : Prop where
  grps : GOk g
  name : nm.size ≤ 1000000
  check : checkR g (repT star nm) = 0
theorem fr_store3at (w : World) (B o : Nat) (a b c : Value) : Fr (One B) w (((w.setCell ⟨B, o, none⟩ a).setCell ⟨B, o + 1, none⟩ b).setCell ⟨B, o + 2, none⟩ c) :=
  (((Fr.refl (One B) w).setCell (p := ⟨B, o, none⟩) (.inl rfl) a).setCell (p := ⟨B, o + 1, none⟩) (.inl rfl) b).setCell (p := ⟨B, o + 2, none⟩) (.inl rfl) c
set_option maxRecDepth 100000 in
set_option maxHeartbeats 1000000 in
theorem made_any (g : List Grp) (star : Bool) (nm : ByteArray) (hok : RepOk g star nm) (cs : List Value) (v : Value) (w : World) (hx : ERep Nob w (repT star nm) cs) (hg : Grps Nob w v g) :
    Calls Tryz.prog 84 #[.agg cs.toArray, v] w fun e w' => (∃ m, e = .returned (.pointer (some ⟨m, 0, none⟩)) ∧ MachAt w' m (typesF g nm) star) ∧ Fr Nob w w' := by
  obtain ⟨ad, lc, CA, cc, rfl, hna, x0, x1, x2⟩ := repT_open hx
  have hT16 := typesF_len (fun x hx => (hok.grps.types x hx).1) nm
  have hbr := fun m W h1 h2 h3 => buildrep_any g (by have := hok.grps.few; omega) star nm m [.int .i64 (if star then 4 else 5), .string ⟨#[]⟩, .slice (some ad) 1 lc] v W h1 h2 (by omega) h3
  have hck := fun W h1 h2 => checkR_any g hok.grps (repT star nm) [.int .i64 (if star then 4 else 5), .string ⟨#[]⟩, .slice (some ad) 1 lc] v W h1 h2 (count_rep star nm) (by have := hok.name; have h0 : (⟨#[]⟩ : ByteArray).size = 0 := rfl; rw [bytes_eq]; simp [repT, Tree.l, Tree.name, bytesL, Tree.bytes]; omega)
  rw [hok.check] at hck
  obtain ⟨T, hTT⟩ : ∃ T, typesF g nm = T := ⟨_, rfl⟩
  obtain ⟨k, hk⟩ : ∃ k : Int, (if star then 4 else 5) = k := ⟨_, rfl⟩
  rw [hk] at hbr hck hx ⊢
  rw [hTT] at hbr ⊢
  have HX := Lib.hid hx
  have HG := Lib.hid hg
  have HBR := Lib.hid hbr
  have HCK := Lib.hid hck
  have hf1 : Fr Nob w (w.alloc (.cells #[.int .i64 k, .string ⟨#[]⟩, .slice (some ad) 1 lc] 122)) := (Fr.refl _ _).alloc _
  have hb1 := Blk.new w [.int .i64 k, .string ⟨#[]⟩, .slice (some ad) 1 lc] 122
  have HF1 := Lib.hid hf1
  have HB1 := Lib.hid hb1
  clear hk hx hg hbr hck x0 x1 x2 hT16 hok hTT hf1 hb1
  go_enter Tryz.func84, Tryz.ntmps84
  go_wp2_with fail
  generalize (w.alloc (.cells #[.int .i64 k, .string ⟨#[]⟩, .slice (some ad) 1 lc] 122)) = w1 at HF1 HB1 ⊢
  refine (HCK.out w1 (HX.out.fr0 HF1.out) (HG.out.fr0 HF1.out)).mono ?_
  rintro e w2 ⟨rfl, hF2⟩
  have HF2 := Lib.hid (HF1.out.same hF2)
  have HB2 := Lib.hid (HB1.out.fr hF2 (fun h => h))
  have d0 := HB2.out.cell 0
  have d1 := HB2.out.cell 1
  have d2 := HB2.out.cell 2
  have hl2 := HB2.out.lt
  simp only [List.getElem?_cons_zero, List.getElem?_cons_succ] at d0 d1 d2
  clear hF2
  go_wp2_with fail
  have hm3 := Blk.new w2 [.slice none 0 0, .slice none 0 0, .bool false, .slice none 0 0, .slice none 0 0] 214
  have hf3 : Fr Nob w2 (w2.alloc (.cells #[.slice none 0 0, .slice none 0 0, .bool false, .slice none 0 0, .slice none 0 0] 214)) := (Fr.refl _ _).alloc _
  generalize hW3 : w2.alloc (.cells #[.slice none 0 0, .slice none 0 0, .bool false, .slice none 0 0, .slice none 0 0] 214) = w3 at hm3 hf3 ⊢
  generalize hM : w2.heap.size = m at hm3 ⊢
  refine (HBR.out m w3 (ERep.mono (fun j h => .inr (by have : j = m := h; omega)) _ _ (ERep.fr hf3 (fun _ _ h => h.elim) _ _ (ERep.bound _ _ (HX.out.fr0 HF2.out)))) (((HG.out.fr0 HF2.out).bound.fr0 hf3).mono (fun j h => .inr (by rcases h with h | h; omega; have := hf3.size; omega))) hm3).mono ?_
  rintro e w4 ⟨⟨TA, tc, tb, fb, nb, c1, c2, ff, cf, rfl, hM4, n1, n2, n3, n4, q1, hR4, q2, q3, q4⟩, hF4⟩
  have y2 := hM4.cell 2
  have y3 := hM4.cell 3
  have y4 := hM4.cell 4
  have o2 := hM4.frozen 2
  have o3 := hM4.frozen 3
  have o4 := hM4.frozen 4
  have hl4 := hM4.lt
  have HM4 := Lib.hid hM4
  have HQ := Lib.hid (And.intro q1 (And.intro q2 (And.intro q3 q4)))
  have HNE := Lib.hid (And.intro n1 (And.intro n2 (And.intro n3 n4)))
  have HR4 := Lib.hid hR4
  have HF4 := Lib.hid ((HF2.out.same hf3).trans (M := Nob) hF4 (fun j hj h => by have h1 : j = m := h; have h2 := HF2.out.size; omega))
  simp only [List.getElem?_cons_zero, List.getElem?_cons_succ] at y2 y3 y4
  clear hM4 q1 q2 q3 q4 n1 n2 n3 n4 hR4 hF4 hm3 hf3 hW3 d0 d1 d2
  go_wp2_with fail
  have hm9 : Blk (((w4.setCell ⟨m, 2, none⟩ (.bool star)).setCell ⟨m, 3, none⟩ (.slice (some ⟨nb, 0, none⟩) 1 1)).setCell ⟨m, 4, none⟩ (.slice (some ⟨nb, 0, none⟩) 1 1)) m [.slice (some ⟨tb, 0, none⟩) 1 c1, .slice (some ⟨fb, 0, none⟩) 1 c2, .bool star, .slice (some ⟨nb, 0, none⟩) 1 1, .slice (some ⟨nb, 0, none⟩) 1 1] 214 := ((HM4.out.set 2 _).set 3 _).set 4 _
  have hf9 := fr_store3at w4 m 2 (.bool star) (.slice (some ⟨nb, 0, none⟩) 1 1) (.slice (some ⟨nb, 0, none⟩) 1 1)
  have hnm : ∀ j, j ≠ m → ¬ One m j := fun j hj h => hj h
  have hb := HNE.out
  have hq := HQ.out
  have h2 := HF2.out.size
  go_ret
  refine ⟨⟨m, rfl, ⟨TA, tc, tb, fb, nb, c1, c2, 1, 1, cf, ff, hm9, hf9.cellM hq.1 (hnm _ hb.1), (HR4.out.fr hf9 (fun _ _ h => h)).mono (fun _ h => h.elim), hf9.cellM hq.2.1 (hnm _ hb.2.1), hf9.cellM hq.2.2.1 (hnm _ hb.2.2.1), hf9.cellM hq.2.2.2 (hnm _ hb.2.2.2)⟩⟩, HF4.out.trans (M := Nob) hf9 (fun j hj h => by have : j = m := h; omega)⟩
/-- Is a word one of these types alone; may it be nothing. -/
def accB (T : List Int) (star : Bool) (l : List Int) : Bool := decide (prefN T l = l.length) && (if l.length = 0 then star else true)
set_option maxRecDepth 100000 in
theorem accepts_any (g : List Grp) (star : Bool) (nm : ByteArray) (hok : RepOk g star nm) (cs : List Value) (v : Value) (l : List Int) (A : Option Addr) (c : Nat) (w : World) (hx : ERep Nob w (repT star nm) cs) (hg : Grps Nob w v g) (hR : Rd Nob w A (intC l)) (hl : l.length ≤ 4611686018427387904) :
    Calls Tryz.prog 55 #[.agg cs.toArray, v, .slice A l.length c] w fun e w' => e = .returned (.bool (accB (typesF g nm) star l)) ∧ Fr Nob w w' := by
  obtain ⟨ad, lc, CA, cc, rfl, hna, x0, x1, x2⟩ := repT_open hx
  have hmd := fun W h1 h2 => made_any g star nm hok [.int .i64 (if star then 4 else 5), .string ⟨#[]⟩, .slice (some ad) 1 lc] v W h1 h2
  have hT16 := typesF_len (fun x hx => (hok.grps.types x hx).1) nm
  obtain ⟨T, hTT⟩ : ∃ T, typesF g nm = T := ⟨_, rfl⟩
  obtain ⟨k, hk⟩ : ∃ k : Int, (if star then 4 else 5) = k := ⟨_, rfl⟩
  rw [hk] at hmd hx ⊢
  rw [hTT] at hmd hT16 ⊢
  obtain ⟨r, hr⟩ : ∃ r, accB T star l = r := ⟨_, rfl⟩
  rw [hr]
  unfold accB at hr
  have HX := Lib.hid hx
  have HG := Lib.hid hg
  have HMD := Lib.hid hmd
  have HR := Lib.hid hR
  have HRR := Lib.hid hr
  have hf1 : Fr Nob w (w.alloc (.cells #[.int .i64 k, .string ⟨#[]⟩, .slice (some ad) 1 lc] 122)) := (Fr.refl _ _).alloc _
  have HF1 := Lib.hid hf1
  clear hk hx hg hmd x0 x1 x2 hok hTT hf1 hR hr
  go_enter Tryz.func55, Tryz.ntmps55
  go_wp2_with fail
  generalize (w.alloc (.cells #[.int .i64 k, .string ⟨#[]⟩, .slice (some ad) 1 lc] 122)) = w1 at HF1 ⊢
  refine (HMD.out w1 (HX.out.fr0 HF1.out) (HG.out.fr0 HF1.out)).mono ?_
  rintro e w2 ⟨⟨m, rfl, hM⟩, hF2⟩
  have HF2 := Lib.hid (HF1.out.same hF2)
  have HM := Lib.hid hM
  clear hF2 hM
  go_wp2_with fail
  refine (run_any m T star (by omega) l A c w2 HM.out (HR.out.fr HF2.out (fun _ _ h => h)) hl).mono ?_
  rintro e w3 ⟨⟨b, rfl, hb⟩, hF3⟩
  have HF3 := Lib.hid (HF2.out.same hF3)
  have HM3 := Lib.hid (HM.out.fr hF3)
  have HB := Lib.hid hb
  clear hF3 hb
  by_cases he : prefN T l = l.length
  · rw [he] at HB ⊢
    have HRR2 := Lib.hid (show (if l.length = 0 then star else true) = r by rw [← HRR.out, decide_eq_true he]; rfl)
    clear HRR he
    have hee : ((l.length : Int) == (l.length : Int)) = true := by simp
    go_wp2_with fail
    refine (ends_any m T star b l.length w3 HM3.out HB.out).mono ?_
    rintro e w4 ⟨he4, hF4⟩
    rw [HRR2.out] at he4
    subst he4
    have HF4 := Lib.hid (HF3.out.same hF4)
    clear hF4
    go_wp2_with fail
    go_ret
    exact ⟨rfl, HF4.out⟩
  · have HRR2 := Lib.hid (show false = r by rw [← HRR.out, decide_eq_false he]; rfl)
    have hee : ((prefN T l : Int) == (l.length : Int)) = false := by rw [beq_eq_false_iff_ne]; omega
    clear HRR he
    generalize prefN T l = q at hee ⊢
    go_wp2_with fail
    go_ret
    exact ⟨by rw [← HRR2.out]; rfl, HF3.out⟩
set_option maxRecDepth 100000 in
theorem begins_any (g : List Grp) (star : Bool) (nm : ByteArray) (hok : RepOk g star nm) (cs : List Value) (v : Value) (l : List Int) (A : Option Addr) (c : Nat) (w : World) (hx : ERep Nob w (repT star nm) cs) (hg : Grps Nob w v g) (hR : Rd Nob w A (intC l)) (hl : l.length ≤ 4611686018427387904) :
    Calls Tryz.prog 54 #[.agg cs.toArray, v, .slice A l.length c] w fun e w' => e = .returned (.int .i64 (prefN (typesF g nm) l)) ∧ Fr Nob w w' := by
  obtain ⟨ad, lc, CA, cc, rfl, hna, x0, x1, x2⟩ := repT_open hx
  have hmd := fun W h1 h2 => made_any g star nm hok [.int .i64 (if star then 4 else 5), .string ⟨#[]⟩, .slice (some ad) 1 lc] v W h1 h2
  have hT16 := typesF_len (fun x hx => (hok.grps.types x hx).1) nm
  obtain ⟨T, hTT⟩ : ∃ T, typesF g nm = T := ⟨_, rfl⟩
  obtain ⟨k, hk⟩ : ∃ k : Int, (if star then 4 else 5) = k := ⟨_, rfl⟩
  rw [hk] at hmd hx ⊢
  rw [hTT] at hmd hT16 ⊢
  have HX := Lib.hid hx
  have HG := Lib.hid hg
  have HMD := Lib.hid hmd
  have HR := Lib.hid hR
  have hf1 : Fr Nob w (w.alloc (.cells #[.int .i64 k, .string ⟨#[]⟩, .slice (some ad) 1 lc] 122)) := (Fr.refl _ _).alloc _
  have HF1 := Lib.hid hf1
  clear hk hx hg hmd x0 x1 x2 hok hTT hf1 hR
  go_enter Tryz.func54, Tryz.ntmps54
  go_wp2_with fail
  generalize (w.alloc (.cells #[.int .i64 k, .string ⟨#[]⟩, .slice (some ad) 1 lc] 122)) = w1 at HF1 ⊢
  refine (HMD.out w1 (HX.out.fr0 HF1.out) (HG.out.fr0 HF1.out)).mono ?_
  rintro e w2 ⟨⟨m, rfl, hM⟩, hF2⟩
  have HF2 := Lib.hid (HF1.out.same hF2)
  have HM := Lib.hid hM
  clear hF2 hM
  go_wp2_with fail
  refine (run_any m T star (by omega) l A c w2 HM.out (HR.out.fr HF2.out (fun _ _ h => h)) hl).mono ?_
  rintro e w3 ⟨⟨b, rfl, hb⟩, hF3⟩
  have HF3 := Lib.hid (HF2.out.same hF3)
  clear hF3 hb
  go_wp2_with fail
  go_ret
  exact ⟨rfl, HF3.out⟩
end Go.Proofs.YtanbfplcldloeaaGreatDoor

/- Chapter 4: tokens; the program's 'Right' and 'Check'. -/
namespace Go.Proofs.YtanbfplcldloeaaGreatDoor
open Go.RowKit
structure Tok where
  k : Int
  t : Int
  n : Int
  m : Int
deriving instance DecidableEq for Tok
def Tok.cells (x : Tok) : List Value := [.int .i64 x.k, .int .i64 x.t, .int .i64 x.n, .int .i64 x.m]
def pointB (n : Int) : Bool := decide (0 ≤ n) && decide (n ≤ 1114111) && !(decide (55296 ≤ n) && decide (n ≤ 57343))
def okT (x : Tok) : Bool :=
  if x.k = 0 then decide (x.t = 0) && pointB x.n && rightM x.m
  else if x.k = 2 then decide (x.t = 0) && decide (x.n = 0) && decide (x.m = 0)
  else if x.k = 1 ∨ x.k = 3 then decide (0 < x.t) && decide (x.t < 16) && decide (0 ≤ x.n) && decide (x.n < 16) && decide (x.m = 0)
  else false
set_option maxRecDepth 100000 in
theorem okT_any (x : Tok) (w : World) : Calls Tryz.prog 58 #[.agg x.cells.toArray] w fun e w' => e = .returned (.bool (okT x)) ∧ Fr Nob w w' := by
  obtain ⟨r, hr⟩ : ∃ r, okT x = r := ⟨_, rfl⟩
  rw [hr]
  have HR := Lib.hid hr
  have HG := Lib.hid (markRight_any x.m)
  clear hr
  obtain ⟨k, t, n, m⟩ := x
  simp only [Tok.cells] at *
  by_cases k0 : k = 0
  · have b0 : (k == 0) = true := by simpa using k0
    have HK := Lib.hid k0
    clear k0
    go_enter Tryz.func58, Tryz.ntmps58
    go_wp2_with (go_at_call 89; refine (HG.out _).mono ?_; rintro e w1 ⟨rfl, rfl⟩)
    all_goals
      go_ret
      refine ⟨?_, (Fr.refl _ _).alloc _⟩
      have hk := HK.out
      rw [← HR.out]
      refine congrArg (fun b => Ending.returned (.bool b)) ?_
      subst hk
      rw [Bool.eq_iff_iff]
      simp [okT, pointB, rightM]
      try omega
  · by_cases k2 : k = 2
    · have b0 : (k == 0) = false := by simpa using k0
      have b2 : (k == 2) = true := by simpa using k2
      have HK := Lib.hid k2
      clear k0 k2
      go_enter Tryz.func58, Tryz.ntmps58
      go_wp2_with fail
      all_goals
        go_ret
        refine ⟨?_, (Fr.refl _ _).alloc _⟩
        have hk := HK.out
        rw [← HR.out]
        refine congrArg (fun b => Ending.returned (.bool b)) ?_
        subst hk
        rw [Bool.eq_iff_iff]
        simp [okT]
        try omega
    · by_cases k1 : k = 1
      · have b0 : (k == 0) = false := by simpa using k0
        have b2 : (k == 2) = false := by simpa using k2
        have b1 : (k == 1) = true := by simpa using k1
        have HK := Lib.hid k1
        clear k0 k2 k1
        go_enter Tryz.func58, Tryz.ntmps58
        go_wp2_with fail
        all_goals
          go_ret
          refine ⟨?_, (Fr.refl _ _).alloc _⟩
          have hk := HK.out
          rw [← HR.out]
          refine congrArg (fun b => Ending.returned (.bool b)) ?_
          subst hk
          rw [Bool.eq_iff_iff]
          simp [okT]
          try omega
      · by_cases k3 : k = 3
        · have b0 : (k == 0) = false := by simpa using k0
          have b2 : (k == 2) = false := by simpa using k2
          have b1 : (k == 1) = false := by simpa using k1
          have b3 : (k == 3) = true := by simpa using k3
          have HK := Lib.hid k3
          clear k0 k2 k1 k3
          go_enter Tryz.func58, Tryz.ntmps58
          go_wp2_with fail
          all_goals
            go_ret
            refine ⟨?_, (Fr.refl _ _).alloc _⟩
            have hk := HK.out
            rw [← HR.out]
            refine congrArg (fun b => Ending.returned (.bool b)) ?_
            subst hk
            rw [Bool.eq_iff_iff]
            simp [okT]
            try omega
        · have b0 : (k == 0) = false := by simpa using k0
          have b2 : (k == 2) = false := by simpa using k2
          have b1 : (k == 1) = false := by simpa using k1
          have b3 : (k == 3) = false := by simpa using k3
          have HK := Lib.hid (show false = r by rw [← HR.out, okT, if_neg k0, if_neg k2, if_neg (by show ¬ (k = 1 ∨ k = 3); omega)])
          clear k0 k2 k1 k3
          go_enter Tryz.func58, Tryz.ntmps58
          go_wp2_with fail
          go_ret
          exact ⟨by rw [← HK.out]; rfl, (Fr.refl _ _).alloc _⟩
/-- The cells of some tokens. -/
def tokC (l : List Tok) : List Value := l.flatMap Tok.cells
theorem tokC_length (l : List Tok) : (tokC l).length = 4 * l.length := by
  induction l with
  | nil => rfl
  | cons x l ih => simp only [tokC, List.flatMap_cons, List.length_append, List.length_cons] at ih ⊢; rw [ih]; simp [Tok.cells]; omega
theorem tokC_append (a b : List Tok) : tokC (a ++ b) = tokC a ++ tokC b := by simp [tokC]
/-- A document, as memory holds it, outside of the blocks of M. -/
def Doc (M : Nat → Prop) (w : World) (v : Value) (l : List Tok) : Prop := ∃ A c, v = .slice A l.length c ∧ l.length ≤ c ∧ Rd M w A (tokC l)
theorem Doc.fr {M M' : Nat → Prop} {w w' : World} {v : Value} {l : List Tok} (h : Doc M w v l) (hf : Fr M' w w') (hM : ∀ k, k < w.heap.size → M' k → M k) : Doc M w' v l := by
  obtain ⟨A, c, rfl, hc, hr⟩ := h
  exact ⟨A, c, rfl, hc, hr.fr hf hM⟩
theorem Doc.fr0 {M : Nat → Prop} {w w' : World} {v : Value} {l : List Tok} (h : Doc M w v l) (hf : Fr Nob w w') : Doc M w' v l := h.fr hf (fun _ _ h => h.elim)
theorem Doc.mono {M M' : Nat → Prop} {w : World} {v : Value} {l : List Tok} (h : Doc M w v l) (hM : ∀ k, M' k → M k) : Doc M' w v l := by
  obtain ⟨A, c, rfl, hc, hr⟩ := h
  exact ⟨A, c, rfl, hc, hr.mono hM⟩
theorem Doc.bound {M : Nat → Prop} {w : World} {v : Value} {l : List Tok} (h : Doc M w v l) : Doc (fun k => M k ∨ w.heap.size ≤ k) w v l := by
  obtain ⟨A, c, rfl, hc, hr⟩ := h
  exact ⟨A, c, rfl, hc, hr.bound⟩
theorem Tok.cells_len (x : Tok) : x.cells.length = 4 := rfl
/-- How a document is looked at: how many are open; where it stops, and why. -/
def flatF : List Tok → Nat → Nat → Int × Int
  | [], i, n => if 0 < n then (i, 3) else (i, 0)
  | x :: l, i, n =>
    if okT x = false ∨ x.k = 2 ∧ n = 0 then (i, 4)
    else if x.k = 1 ∧ n = 32 then (i, 8)
    else flatF l (i + 1) (if x.k = 1 then n + 1 else if x.k = 2 then n - 1 else n)
def flatCheck (l : List Tok) : Int × Int := if 2048 < l.length then (0, 2) else flatF l 0 0
set_option maxRecDepth 100000 in
theorem flatcheck_any (M : Nat → Prop) (l : List Tok) (v : Value) (w : World) (h : Doc M w v l) (hl : l.length ≤ 9223372036854775807) :
    Calls Tryz.prog 51 #[v] w fun e w' => e = .returned (.tuple #[.int .i64 (flatCheck l).1, .int .i64 (flatCheck l).2]) ∧ Fr Nob w w' := by
  obtain ⟨A, c, rfl, hc, hr⟩ := h
  obtain ⟨r, hrr⟩ : ∃ r, flatCheck l = r := ⟨_, rfl⟩
  rw [hrr]
  by_cases hlong : 2048 < l.length
  · have HR := Lib.hid (show (0, 2) = r by rw [← hrr, flatCheck, if_pos hlong])
    clear hrr hr
    go_enter Tryz.func51, Tryz.ntmps51
    go_wp2_with fail
    go_ret2
    exact ⟨by rw [← HR.out]; rfl, Fr.refl _ _⟩
  · have HR := Lib.hid (show flatF l 0 0 = r by rw [← hrr, flatCheck, if_neg hlong])
    have hl2 : l.length ≤ 2048 := by omega
    have HRd := Lib.hid hr
    have HOK := Lib.hid okT_any
    clear hrr hr hlong
    go_enter Tryz.func51, Tryz.ntmps51
    go_wp2_with fail
    generalize hB : w.heap.size = B
    go_loopg [5, 13] (l.length) (fun n a b wr => ∃ (k d : Nat) (cs : List Value), n = l.length - k ∧ k ≤ l.length ∧ a = .int .i64 d ∧ b = .int .i64 k ∧ d ≤ 32 ∧ cs.length = 32 ∧ Hid (Blk wr B cs 162) ∧ Hid (Fr Nob w wr) ∧ Hid (flatF (l.drop k) k d = r))
    case atStart => exact ⟨0, 0, _, rfl, Nat.zero_le _, rfl, rfl, by omega, rfl, Blk.new_at _ _ _ _ hB.symm, (Fr.refl _ _).alloc _, HR.out⟩
    case round =>
      obtain ⟨k, d, cs, rfl, hk, rfl, rfl, hd, hcs, HBk, HF, HRr⟩ := hrel
      by_cases hlt : k < l.length
      · have ht : ((k : Int) < (l.length : Int)) := by omega
        obtain ⟨ad, rfl, _, hlb, q0, q⟩ := Rd.elt Tok.cells_len (by omega) (HRd.out.fr HF.out (fun _ _ h => h.elim)) hlt
        have hdr : l.drop k = l[k] :: l.drop (k + 1) := List.drop_eq_getElem_cons hlt
        generalize l[k] = x at q0 q hdr
        have q1 := q 0 (by omega)
        have q2 := q 1 (by omega)
        have q3 := q 2 (by omega)
        simp only [Tok.cells, List.getElem?_cons_zero, List.getElem?_cons_succ, Nat.reduceAdd] at q0 q1 q2 q3
        have hRr := HRr.out
        rw [hdr, flatF] at hRr
        have HR2 := Lib.hid hRr
        clear hdr hRr HRr q
        go_wp2_with fail
        have hbt := Blk.new wr [.int .i64 x.k, .int .i64 x.t, .int .i64 x.n, .int .i64 x.m] 65
        have hft : Fr Nob wr (wr.alloc (.cells #[.int .i64 x.k, .int .i64 x.t, .int .i64 x.n, .int .i64 x.m] 65)) := (Fr.refl _ _).alloc _
        generalize wr.alloc (.cells #[.int .i64 x.k, .int .i64 x.t, .int .i64 x.n, .int .i64 x.m] 65) = w1 at hbt hft ⊢
        have hlB := HBk.out.lt
        generalize hT : wr.heap.size = T at hbt ⊢
        have hTB : B < T := by omega
        refine (HOK.out x w1).mono ?_
        rintro e w2 ⟨rfl, hF2⟩
        have hf2 := hft.same hF2
        have HF2 := Lib.hid (HF.out.same hf2)
        have HB2 := Lib.hid (HBk.out.fr hf2 (fun h => h))
        have HT2 := Lib.hid (hbt.fr hF2 (fun h => h))
        have d0 := HT2.out.cell 0
        have hlT := HT2.out.lt
        have hlB2 := HB2.out.lt
        simp only [List.getElem?_cons_zero] at d0
        clear hF2 hf2 hbt hft hlb q0 q1 q2 q3 hlB hT HF HBk
        by_cases hok : okT x = true
        · rw [hok]
          simp only [hok, Bool.true_eq_false, false_or] at HR2
          clear hok
          by_cases k2 : x.k = 2
          · have c2 : (x.k == 2) = true := by simpa using k2
            have c1 : (x.k == 1) = false := by rw [beq_eq_false_iff_ne]; omega
            by_cases hd0 : d = 0
            · have c0 : ((d : Int) == 0) = true := by rw [beq_iff_eq]; omega
              have HE := Lib.hid (show ((k : Int), (4 : Int)) = r by rw [← HR2.out, if_pos ⟨k2, hd0⟩])
              clear k2 hd0 HR2
              go_wp2_with fail
              go_ret2
              exact ⟨by rw [← HE.out]; rfl, HF2.out⟩
            · have c0 : ((d : Int) == 0) = false := by rw [beq_eq_false_iff_ne]; omega
              have HE := Lib.hid (show flatF (l.drop (k + 1)) (k + 1) (d - 1) = r by rw [← HR2.out, if_neg (fun h => hd0 h.2), if_neg (fun h => by omega), if_neg (by omega), if_pos k2])
              have hd1 : 1 ≤ (d : Int) := by omega
              clear k2 HR2
              go_wp2_with fail
              go_roundg (l.length - (k + 1))
              case measure => omega
              case rel => exact ⟨k + 1, d - 1, cs, rfl, by omega, by first | (congr 1; omega) | go_num, by first | rfl | go_num, by omega, hcs, HB2.out, HF2.out, HE.out⟩
          · have c2 : (x.k == 2) = false := by simpa using k2
            by_cases k1 : x.k = 1
            · have c1 : (x.k == 1) = true := by simpa using k1
              by_cases hd0 : d = 32
              · have c0 : ((d : Int) == 32) = true := by rw [beq_iff_eq]; omega
                have HE := Lib.hid (show ((k : Int), (8 : Int)) = r by rw [← HR2.out, if_neg (fun h => k2 h.1), if_pos ⟨k1, hd0⟩])
                clear k2 k1 hd0 HR2
                go_wp2_with fail
                go_ret2
                exact ⟨by rw [← HE.out]; rfl, HF2.out⟩
              · have c0 : ((d : Int) == 32) = false := by rw [beq_eq_false_iff_ne]; omega
                have HE := Lib.hid (show flatF (l.drop (k + 1)) (k + 1) (d + 1) = r by rw [← HR2.out, if_neg (fun h => k2 h.1), if_neg (fun h => hd0 h.2), if_pos k1])
                have hd32 : d < 32 := by omega
                have e0 := HB2.out.cell d
                have e1 := HB2.out.frozen d
                rw [List.getElem?_eq_getElem (by omega)] at e0
                generalize cs[d]'(by omega) = cv at e0
                have hi1 : (0 : Int) ≤ d := by omega
                have hi2 : (d : Int) < 32 := by omega
                clear k2 k1 hd0 HR2
                go_wp2_with fail
                go_roundg (l.length - (k + 1))
                case measure => omega
                case rel => exact ⟨k + 1, d + 1, cs.set d (.int .i64 k), rfl, by omega, by first | rfl | go_num, by first | rfl | go_num, by omega, by simpa using hcs, HB2.out.set d _, HF2.out.setCell (p := ⟨B, d, none⟩) (.inr (by show w.heap.size ≤ B; omega)) _, HE.out⟩
            · have c1 : (x.k == 1) = false := by simpa using k1
              have HE := Lib.hid (show flatF (l.drop (k + 1)) (k + 1) d = r by rw [← HR2.out, if_neg (fun h => k2 h.1), if_neg (fun h => k1 h.1), if_neg k1, if_neg k2])
              clear k2 k1 HR2
              go_wp2_with fail
              go_roundg (l.length - (k + 1))
              case measure => omega
              case rel => exact ⟨k + 1, d, cs, rfl, by omega, rfl, by first | rfl | go_num, by omega, hcs, HB2.out, HF2.out, HE.out⟩
        · have hok' : okT x = false := by simpa using hok
          have HE := Lib.hid (show ((k : Int), (4 : Int)) = r by rw [← HR2.out, if_pos (.inl hok')])
          rw [hok']
          clear hok hok' HR2
          go_wp2_with fail
          go_ret2
          exact ⟨by rw [← HE.out]; rfl, HF2.out⟩
      · have ht : ¬ ((k : Int) < (l.length : Int)) := by omega
        have hRr := HRr.out
        rw [List.drop_eq_nil_of_le (by omega), flatF, show k = l.length by omega] at hRr
        have HR2 := Lib.hid hRr
        clear hRr HRr
        by_cases hd0 : 0 < d
        · have HE := Lib.hid (show ((l.length : Int), (3 : Int)) = r by rw [← HR2.out, if_pos hd0])
          have hd1 : (0 : Int) < d := by omega
          go_wp2_with fail
          go_ret2
          exact ⟨by rw [← HE.out]; rfl, HF.out⟩
        · have HE := Lib.hid (show ((l.length : Int), (0 : Int)) = r by rw [← HR2.out, if_neg hd0])
          have hd1 : ¬ (0 : Int) < d := by omega
          go_wp2_with fail
          go_ret2
          exact ⟨by rw [← HE.out]; rfl, HF.out⟩
end Go.Proofs.YtanbfplcldloeaaGreatDoor

/- Chapter 7: rules, as memory holds them; 'none', 'Spec', 'may'. -/
namespace Go.Proofs.YtanbfplcldloeaaGreatDoor
open Go.RowKit
/-- A type, what may stand in it, and where that lies. -/
structure RuleM where
  name : ByteArray
  expr : ByteArray
  leaf : Bool
  marks : Int
  least : Int
  most : Int
  lines : Bool
  e : Tree
  A : Option Addr
  c : Nat
def RuleM.ec (r : RuleM) : List Value := [.int .i64 r.e.k, .string r.e.name, .slice r.A r.e.l.length r.c]
def RuleM.spec (r : RuleM) : List Value := [.string r.name, .string r.expr, .bool r.leaf, .int .i64 r.marks, .int .i64 r.least, .int .i64 r.most, .bool r.lines]
def RuleM.cells (r : RuleM) : List Value := [.string r.name, .string r.expr, .bool r.leaf, .int .i64 r.marks, .int .i64 r.least, .int .i64 r.most, .bool r.lines, .int .i64 r.e.k, .string r.e.name, .slice r.A r.e.l.length r.c]
def spec0 : List Value := [.string ⟨#[]⟩, .string ⟨#[]⟩, .bool false, .int .i64 0, .int .i64 0, .int .i64 0, .bool false]
theorem RuleM.cells_len (r : RuleM) : r.cells.length = 10 := rfl
/-- A schema, in memory, outside of the blocks of M. -/
structure Sch (M : Nat → Prop) (w : World) (p : Nat) (rs : List RuleM) (g : List Grp) : Prop where
  row : ∃ La lc, w.cell? ⟨p, 0, none⟩ = some (.slice (some La) rs.length lc) ∧ rs.length ≤ lc ∧ Rd M w (some La) (rs.flatMap RuleM.cells)
  exprs : ∀ r ∈ rs, ERep M w r.e r.ec
  grps : ∃ gv, w.cell? ⟨p, 1, none⟩ = some gv ∧ Grps M w gv g
  pn : ¬ M p
  few : 0 < rs.length ∧ rs.length ≤ 100
theorem Sch.fr {M M' : Nat → Prop} {w w' : World} {p : Nat} {rs : List RuleM} {g : List Grp} (h : Sch M w p rs g) (hf : Fr M' w w') (hM : ∀ k, k < w.heap.size → M' k → M k) : Sch M w' p rs g := by
  obtain ⟨La, lc, h1, h2, h3⟩ := h.row
  obtain ⟨gv, g1, g2⟩ := h.grps
  refine ⟨⟨La, lc, hf.cellM h1 (fun hm => h.pn (hM _ (cell_lt h1) hm)), h2, h3.fr hf hM⟩, fun r hr => ERep.fr hf hM _ _ (h.exprs r hr), ⟨gv, hf.cellM g1 (fun hm => h.pn (hM _ (cell_lt h1) hm)), g2.fr hf hM⟩, h.pn, h.few⟩
theorem Sch.fr0 {M : Nat → Prop} {w w' : World} {p : Nat} {rs : List RuleM} {g : List Grp} (h : Sch M w p rs g) (hf : Fr Nob w w') : Sch M w' p rs g := h.fr hf (fun _ _ h => h.elim)
theorem Sch.mono {M M' : Nat → Prop} {w : World} {p : Nat} {rs : List RuleM} {g : List Grp} (h : Sch M w p rs g) (hM : ∀ k, M' k → M k) : Sch M' w p rs g := by
  obtain ⟨La, lc, h1, h2, h3⟩ := h.row
  obtain ⟨gv, g1, g2⟩ := h.grps
  exact ⟨⟨La, lc, h1, h2, h3.mono hM⟩, fun r hr => ERep.mono hM _ _ (h.exprs r hr), ⟨gv, g1, g2.mono hM⟩, fun hm => h.pn (hM _ hm), h.few⟩
theorem Sch.bound {M : Nat → Prop} {w : World} {p : Nat} {rs : List RuleM} {g : List Grp} (h : Sch M w p rs g) : Sch (fun k => M k ∨ w.heap.size ≤ k) w p rs g := by
  obtain ⟨La, lc, h1, h2, h3⟩ := h.row
  obtain ⟨gv, g1, g2⟩ := h.grps
  refine ⟨⟨La, lc, h1, h2, h3.bound⟩, fun r hr => ERep.bound _ _ (h.exprs r hr), ⟨gv, g1, g2.bound⟩, fun hm => ?_, h.few⟩
  have hl : p < w.heap.size := cell_lt h1
  rcases hm with hm | hm
  · exact h.pn hm
  · omega
set_option maxRecDepth 100000 in
theorem schnone_any (M : Nat → Prop) (p : Nat) (rs : List RuleM) (g : List Grp) (w : World) (h : Sch M w p rs g) :
    Calls Tryz.prog 53 #[.pointer (some ⟨p, 0, none⟩)] w fun e w' => e = .returned (.bool false) ∧ w = w' := by
  obtain ⟨La, lc, h1, h2, h3⟩ := h.row
  have hl := cell_lt h1
  have hq := Lib.run_eql_slice_nil (P := Tryz.prog) w 125 124 (some La) rs.length lc 0 0 Tryz.underlying125
  clear h h3
  go_enter Tryz.func53, Tryz.ntmps53
  go_wp2_with fail
  go_ret
  exact ⟨rfl, rfl⟩
def specF (rs : List RuleM) (t : Int) : Option RuleM := if 1 ≤ t then rs[t.toNat]? else none
def specV (o : Option RuleM) : Value := .tuple #[.agg ((o.elim spec0 RuleM.spec)).toArray, .bool o.isSome]
theorem store7 {w : World} {B : Nat} {c0 c1 c2 c3 c4 c5 c6 : Value} {t : TypeId} (h : Blk w B [c0, c1, c2, c3, c4, c5, c6] t) (v0 v1 v2 v3 v4 v5 v6 : Value) :
    Fr (One B) w (((((((w.setCell ⟨B, 0, none⟩ v0).setCell ⟨B, 1, none⟩ v1).setCell ⟨B, 2, none⟩ v2).setCell ⟨B, 3, none⟩ v3).setCell ⟨B, 4, none⟩ v4).setCell ⟨B, 5, none⟩ v5).setCell ⟨B, 6, none⟩ v6) ∧ Blk (((((((w.setCell ⟨B, 0, none⟩ v0).setCell ⟨B, 1, none⟩ v1).setCell ⟨B, 2, none⟩ v2).setCell ⟨B, 3, none⟩ v3).setCell ⟨B, 4, none⟩ v4).setCell ⟨B, 5, none⟩ v5).setCell ⟨B, 6, none⟩ v6) B [v0, v1, v2, v3, v4, v5, v6] t :=
  ⟨((((((((Fr.refl (One B) w).setCell (p := ⟨B, 0, none⟩) (.inl rfl) _).setCell (p := ⟨B, 1, none⟩) (.inl rfl) _).setCell (p := ⟨B, 2, none⟩) (.inl rfl) _).setCell (p := ⟨B, 3, none⟩) (.inl rfl) _).setCell (p := ⟨B, 4, none⟩) (.inl rfl) _).setCell (p := ⟨B, 5, none⟩) (.inl rfl) _).setCell (p := ⟨B, 6, none⟩) (.inl rfl) _), (((((((h.set 0 _).set 1 _).set 2 _).set 3 _).set 4 _).set 5 _).set 6 _)⟩
theorem spec0_open : spec0 = [.string ⟨#[]⟩, .string ⟨#[]⟩, .bool false, .int .i64 0, .int .i64 0, .int .i64 0, .bool false] := rfl
set_option maxRecDepth 100000 in
theorem spec_any (M : Nat → Prop) (p : Nat) (rs : List RuleM) (g : List Grp) (t : Int) (w : World) (h : Sch M w p rs g) :
    Calls Tryz.prog 87 #[.pointer (some ⟨p, 0, none⟩), .int .i64 t] w fun e w' => e = .returned (specV (specF rs t)) ∧ Fr Nob w w' := by
  have HS := Lib.hid h
  obtain ⟨w1, hw1⟩ : ∃ w1, (w.alloc (.cells #[.string ⟨#[]⟩, .string ⟨#[]⟩, .bool false, .int .i64 0, .int .i64 0, .int .i64 0, .bool false] 99)) = w1 := ⟨_, rfl⟩
  have hf1 : Fr Nob w w1 := hw1 ▸ (Fr.refl _ _).alloc _
  have hb1 : Blk w1 w.heap.size [.string ⟨#[]⟩, .string ⟨#[]⟩, .bool false, .int .i64 0, .int .i64 0, .int .i64 0, .bool false] 99 := hw1 ▸ Blk.new w _ _
  have HW1 := Lib.hid hw1
  have HF1 := Lib.hid hf1
  have HB1 := Lib.hid hb1
  have hfew := h.few
  obtain ⟨r, hr⟩ : ∃ r, specV (specF rs t) = r := ⟨_, rfl⟩
  rw [hr]
  have HR := Lib.hid hr
  clear h hf1 hb1 hr hw1
  by_cases h1 : t < 1
  · have HE := Lib.hid (show specV none = r by rw [← HR.out, specF, if_neg (by omega)])
    go_enter Tryz.func87, Tryz.ntmps87
    go_wp2_with fail
    rw [HW1.out]
    refine (schnone_any M p rs g w1 (HS.out.fr0 HF1.out)).mono ?_
    rintro e w2 ⟨rfl, rfl⟩
    have d0 := HB1.out.cell 0
    have d1 := HB1.out.cell 1
    have d2 := HB1.out.cell 2
    have d3 := HB1.out.cell 3
    have d4 := HB1.out.cell 4
    have d5 := HB1.out.cell 5
    have d6 := HB1.out.cell 6
    have y0 := HB1.out.frozen 0
    have y1 := HB1.out.frozen 1
    have y2 := HB1.out.frozen 2
    have y3 := HB1.out.frozen 3
    have y4 := HB1.out.frozen 4
    have y5 := HB1.out.frozen 5
    have y6 := HB1.out.frozen 6
    have hl1 := HB1.out.lt
    simp only [List.getElem?_cons_zero, List.getElem?_cons_succ] at d0 d1 d2 d3 d4 d5 d6
    go_wp2_with fail
    obtain ⟨hf9, hb9⟩ := store7 HB1.out (.string ⟨#[]⟩) (.string ⟨#[]⟩) (.bool false) (.int .i64 0) (.int .i64 0) (.int .i64 0) (.bool false)
    clear d0 d1 d2 d3 d4 d5 d6 y0 y1 y2 y3 y4 y5 y6
    generalize (((((((w1.setCell ⟨w.heap.size, 0, none⟩ (.string ⟨#[]⟩)).setCell ⟨w.heap.size, 1, none⟩ (.string ⟨#[]⟩)).setCell ⟨w.heap.size, 2, none⟩ (.bool false)).setCell ⟨w.heap.size, 3, none⟩ (.int .i64 0)).setCell ⟨w.heap.size, 4, none⟩ (.int .i64 0)).setCell ⟨w.heap.size, 5, none⟩ (.int .i64 0)).setCell ⟨w.heap.size, 6, none⟩ (.bool false)) = W9 at hf9 hb9 ⊢
    have d0 := hb9.cell 0
    have d1 := hb9.cell 1
    have d2 := hb9.cell 2
    have d3 := hb9.cell 3
    have d4 := hb9.cell 4
    have d5 := hb9.cell 5
    have d6 := hb9.cell 6
    simp only [List.getElem?_cons_zero, List.getElem?_cons_succ] at d0 d1 d2 d3 d4 d5 d6
    refine bodyPost_ret (v := .tuple #[.agg #[(.string ⟨#[]⟩), (.string ⟨#[]⟩), (.bool false), (.int .i64 0), (.int .i64 0), (.int .i64 0), (.bool false)], .bool false]) (by simp [results, go_sem, d0, d1, d2, d3, d4, d5, d6]) rfl ⟨by rw [← HE.out]; rfl, HF1.out.trans (M := Nob) hf9 (fun k hk h => by have : k = w.heap.size := h; omega)⟩
  · obtain ⟨n, rfl⟩ : ∃ n : Nat, t = n := ⟨t.toNat, by omega⟩
    by_cases h2 : n < rs.length
    · obtain ⟨x, hx⟩ : ∃ x, rs[n] = x := ⟨_, rfl⟩
      have HE := Lib.hid (show specV (some x) = r by rw [← HR.out, specF, if_pos (by omega), Int.toNat_natCast, List.getElem?_eq_getElem h2, hx])
      have hlt : ¬ (rs.length : Int) ≤ (n : Int) := by omega
      have hi1 : (0 : Int) ≤ (n : Int) := by omega
      have hi2 : (n : Int) < (rs.length : Int) := by omega
      obtain ⟨La, lc, s1, s2, s3⟩ := (HS.out.fr0 HF1.out).row
      obtain ⟨ad, hA, hna, hla, q0, q⟩ := Rd.elt RuleM.cells_len (by omega) s3 h2
      injection hA with hA
      subst hA
      have hls := cell_lt s1
      rw [hx] at q0 q
      have q1 := q 0 (by omega)
      have q2 := q 1 (by omega)
      have q3 := q 2 (by omega)
      have q4 := q 3 (by omega)
      have q5 := q 4 (by omega)
      have q6 := q 5 (by omega)
      simp only [RuleM.cells, List.getElem?_cons_zero, List.getElem?_cons_succ, Nat.reduceAdd] at q0 q1 q2 q3 q4 q5 q6
      have HQ := Lib.hid (And.intro s1 (And.intro hls (And.intro q0 (And.intro q1 (And.intro q2 (And.intro q3 (And.intro q4 (And.intro q5 q6))))))))
      clear q q0 q1 q2 q3 q4 q5 q6 s1 s3 hx hls
      go_enter Tryz.func87, Tryz.ntmps87
      go_wp2_with fail
      rw [HW1.out]
      refine (schnone_any M p rs g w1 (HS.out.fr0 HF1.out)).mono ?_
      rintro e w2 ⟨rfl, rfl⟩
      have d0 := HB1.out.cell 0
      have d1 := HB1.out.cell 1
      have d2 := HB1.out.cell 2
      have d3 := HB1.out.cell 3
      have d4 := HB1.out.cell 4
      have d5 := HB1.out.cell 5
      have d6 := HB1.out.cell 6
      have y0 := HB1.out.frozen 0
      have y1 := HB1.out.frozen 1
      have y2 := HB1.out.frozen 2
      have y3 := HB1.out.frozen 3
      have y4 := HB1.out.frozen 4
      have y5 := HB1.out.frozen 5
      have y6 := HB1.out.frozen 6
      have hl1 := HB1.out.lt
      simp only [List.getElem?_cons_zero, List.getElem?_cons_succ] at d0 d1 d2 d3 d4 d5 d6
      obtain ⟨s1, hls, q0, q1, q2, q3, q4, q5, q6⟩ := HQ.out
      go_wp2_with fail
      obtain ⟨hf9, hb9⟩ := store7 HB1.out (.string x.name) (.string x.expr) (.bool x.leaf) (.int .i64 x.marks) (.int .i64 x.least) (.int .i64 x.most) (.bool x.lines)
      clear d0 d1 d2 d3 d4 d5 d6 y0 y1 y2 y3 y4 y5 y6
      generalize (((((((w1.setCell ⟨w.heap.size, 0, none⟩ (.string x.name)).setCell ⟨w.heap.size, 1, none⟩ (.string x.expr)).setCell ⟨w.heap.size, 2, none⟩ (.bool x.leaf)).setCell ⟨w.heap.size, 3, none⟩ (.int .i64 x.marks)).setCell ⟨w.heap.size, 4, none⟩ (.int .i64 x.least)).setCell ⟨w.heap.size, 5, none⟩ (.int .i64 x.most)).setCell ⟨w.heap.size, 6, none⟩ (.bool x.lines)) = W9 at hf9 hb9 ⊢
      have d0 := hb9.cell 0
      have d1 := hb9.cell 1
      have d2 := hb9.cell 2
      have d3 := hb9.cell 3
      have d4 := hb9.cell 4
      have d5 := hb9.cell 5
      have d6 := hb9.cell 6
      simp only [List.getElem?_cons_zero, List.getElem?_cons_succ] at d0 d1 d2 d3 d4 d5 d6
      refine bodyPost_ret (v := .tuple #[.agg #[(.string x.name), (.string x.expr), (.bool x.leaf), (.int .i64 x.marks), (.int .i64 x.least), (.int .i64 x.most), (.bool x.lines)], .bool true]) (by simp [results, go_sem, d0, d1, d2, d3, d4, d5, d6]) rfl ⟨by rw [← HE.out]; rfl, HF1.out.trans (M := Nob) hf9 (fun k hk h => by have : k = w.heap.size := h; omega)⟩
    · have HE := Lib.hid (show specV none = r by rw [← HR.out, specF, if_pos (by omega), Int.toNat_natCast, List.getElem?_eq_none (by omega)])
      have hlt : (rs.length : Int) ≤ (n : Int) := by omega
      obtain ⟨La, lc, s1, s2, s3⟩ := (HS.out.fr0 HF1.out).row
      have hls := cell_lt s1
      have HQ := Lib.hid (And.intro s1 hls)
      clear s1 s3 hls
      go_enter Tryz.func87, Tryz.ntmps87
      go_wp2_with fail
      rw [HW1.out]
      refine (schnone_any M p rs g w1 (HS.out.fr0 HF1.out)).mono ?_
      rintro e w2 ⟨rfl, rfl⟩
      have d0 := HB1.out.cell 0
      have d1 := HB1.out.cell 1
      have d2 := HB1.out.cell 2
      have d3 := HB1.out.cell 3
      have d4 := HB1.out.cell 4
      have d5 := HB1.out.cell 5
      have d6 := HB1.out.cell 6
      have y0 := HB1.out.frozen 0
      have y1 := HB1.out.frozen 1
      have y2 := HB1.out.frozen 2
      have y3 := HB1.out.frozen 3
      have y4 := HB1.out.frozen 4
      have y5 := HB1.out.frozen 5
      have y6 := HB1.out.frozen 6
      have hl1 := HB1.out.lt
      simp only [List.getElem?_cons_zero, List.getElem?_cons_succ] at d0 d1 d2 d3 d4 d5 d6
      obtain ⟨s1, hls⟩ := HQ.out
      go_wp2_with fail
      obtain ⟨hf9, hb9⟩ := store7 HB1.out (.string ⟨#[]⟩) (.string ⟨#[]⟩) (.bool false) (.int .i64 0) (.int .i64 0) (.int .i64 0) (.bool false)
      clear d0 d1 d2 d3 d4 d5 d6 y0 y1 y2 y3 y4 y5 y6
      generalize (((((((w1.setCell ⟨w.heap.size, 0, none⟩ (.string ⟨#[]⟩)).setCell ⟨w.heap.size, 1, none⟩ (.string ⟨#[]⟩)).setCell ⟨w.heap.size, 2, none⟩ (.bool false)).setCell ⟨w.heap.size, 3, none⟩ (.int .i64 0)).setCell ⟨w.heap.size, 4, none⟩ (.int .i64 0)).setCell ⟨w.heap.size, 5, none⟩ (.int .i64 0)).setCell ⟨w.heap.size, 6, none⟩ (.bool false)) = W9 at hf9 hb9 ⊢
      have d0 := hb9.cell 0
      have d1 := hb9.cell 1
      have d2 := hb9.cell 2
      have d3 := hb9.cell 3
      have d4 := hb9.cell 4
      have d5 := hb9.cell 5
      have d6 := hb9.cell 6
      simp only [List.getElem?_cons_zero, List.getElem?_cons_succ] at d0 d1 d2 d3 d4 d5 d6
      refine bodyPost_ret (v := .tuple #[.agg #[(.string ⟨#[]⟩), (.string ⟨#[]⟩), (.bool false), (.int .i64 0), (.int .i64 0), (.int .i64 0), (.bool false)], .bool false]) (by simp [results, go_sem, d0, d1, d2, d3, d4, d5, d6]) rfl ⟨by rw [← HE.out]; rfl, HF1.out.trans (M := Nob) hf9 (fun k hk h => by have : k = w.heap.size := h; omega)⟩
/-- May a token stand in a rule's, but for words. -/
def mayB (rs : List RuleM) (r : RuleM) (x : Tok) : Bool :=
  if x.k = 0 then (decide (x.m = 0) || decide (r.marks = 7)) && (decide (x.n ≠ 10) || r.lines)
  else match specF rs x.t with
    | none => false
    | some s => decide (s.least ≤ x.n) && decide (x.n ≤ s.most) && (s.leaf == decide (x.k = 3))
theorem okT_m {x : Tok} (h : okT x = true) (h0 : x.k = 0) : x.m = 0 ∨ x.m = 1 ∨ x.m = 2 ∨ x.m = 3 ∨ x.m = 4 := by
  unfold okT at h
  rw [if_pos h0] at h
  simp only [Bool.and_eq_true] at h
  exact rightM_cases h.2
set_option maxRecDepth 100000 in
set_option maxHeartbeats 4000000 in
theorem maytext0 (p : Nat) (ln z y : Bool) (t n m mk : Int) (hz : (bits BinOp.andNot IntKind.i64 m mk == 0) = z) (hn : (n != 10) = y) (b o : Nat) (w : World)
    (h3 : w.cell? ⟨b, o + 3, none⟩ = some (.int .i64 mk)) (h6 : w.cell? ⟨b, o + 6, none⟩ = some (.bool ln)) :
    Calls Tryz.prog 56 #[.pointer (some ⟨b, o, none⟩), .pointer (some ⟨p, 0, none⟩), .agg #[.int .i64 0, .int .i64 t, .int .i64 n, .int .i64 m]] w fun e w' => e = .returned (.bool (z && (y || ln))) ∧ Fr Nob w w' := by
  have hl3 := cell_lt h3
  have hl6 := cell_lt h6
  cases z
  · go_enter Tryz.func56, Tryz.ntmps56
    go_wp2_with fail
    go_quiet (fail)
    go_wp2_with fail
    go_ret
    exact ⟨rfl, ((Fr.refl _ _).alloc _).drewN _⟩
  · cases y
    · go_enter Tryz.func56, Tryz.ntmps56
      go_wp2_with fail
      go_quiet (fail)
      go_wp2_with fail
      go_ret
      exact ⟨rfl, ((Fr.refl _ _).alloc _).drewN _⟩
    · go_enter Tryz.func56, Tryz.ntmps56
      go_wp2_with fail
      go_quiet (fail)
      go_wp2_with fail
      go_ret
      exact ⟨rfl, ((Fr.refl _ _).alloc _).drewN _⟩
theorem maytext_any (p : Nat) (rs : List RuleM) (r : RuleM) (hr : r.marks = 0 ∨ r.marks = 7) (x : Tok) (hx : okT x = true) (h0 : x.k = 0) (b o : Nat) (w : World)
    (h3 : w.cell? ⟨b, o + 3, none⟩ = some (.int .i64 r.marks)) (h6 : w.cell? ⟨b, o + 6, none⟩ = some (.bool r.lines)) :
    Calls Tryz.prog 56 #[.pointer (some ⟨b, o, none⟩), .pointer (some ⟨p, 0, none⟩), .agg x.cells.toArray] w fun e w' => e = .returned (.bool (mayB rs r x)) ∧ Fr Nob w w' := by
  have hm := okT_m hx h0
  rw [mayB, if_pos h0]
  obtain ⟨k, t, n, m⟩ := x
  simp only at h0 hm
  subst h0
  have hz : (bits BinOp.andNot IntKind.i64 m r.marks == 0) = (decide (m = 0) || decide (r.marks = 7)) := by
    rcases hr with hr | hr <;> rw [hr] <;> rcases hm with rfl | rfl | rfl | rfl | rfl <;> kernel_rfl
  have hn : (n != 10) = decide (n ≠ 10) := by rw [Bool.eq_iff_iff]; simp
  exact maytext0 p r.lines _ _ t n m r.marks hz hn b o w h3 h6
set_option maxRecDepth 100000 in
set_option maxHeartbeats 1000000 in
theorem maytype_any (M : Nat → Prop) (p : Nat) (rs : List RuleM) (g : List Grp) (r : RuleM) (x : Tok) (h0 : x.k ≠ 0) (b o : Nat) (w : World) (hs : Sch M w p rs g) :
    Calls Tryz.prog 56 #[.pointer (some ⟨b, o, none⟩), .pointer (some ⟨p, 0, none⟩), .agg x.cells.toArray] w fun e w' => e = .returned (.bool (mayB rs r x)) ∧ Fr Nob w w' := by
  obtain ⟨q, hq⟩ : ∃ q, mayB rs r x = q := ⟨_, rfl⟩
  rw [hq]
  rw [mayB, if_neg h0] at hq
  obtain ⟨k, t, n, m⟩ := x
  simp only at h0 hq
  have hb0 : (k == 0) = false := by simpa using h0
  obtain ⟨w1, hw1⟩ : ∃ w1, w.alloc (.cells #[.int .i64 k, .int .i64 t, .int .i64 n, .int .i64 m] 65) = w1 := ⟨_, rfl⟩
  have hf1 : Fr Nob w w1 := hw1 ▸ (Fr.refl _ _).alloc _
  have hb1 : Blk w1 w.heap.size [.int .i64 k, .int .i64 t, .int .i64 n, .int .i64 m] 65 := hw1 ▸ Blk.new w _ _
  have hsp := spec_any M p rs g t w1 (hs.fr0 hf1)
  have HW1 := Lib.hid hw1
  have HF1 := Lib.hid hf1
  have HB1 := Lib.hid hb1
  have HSP := Lib.hid hsp
  have HX := Lib.hid hq
  clear hw1 hf1 hb1 hs hsp hq h0
  simp only [Tok.cells]
  go_enter Tryz.func56, Tryz.ntmps56
  go_wp2_with fail
  rw [HW1.out]
  refine HSP.out.mono ?_
  rintro e w2 ⟨rfl, hF2⟩
  have HF2 := Lib.hid (HF1.out.same hF2)
  have HB2 := Lib.hid (HB1.out.fr hF2 (fun h => h))
  have d0 := HB2.out.cell 0
  have d2 := HB2.out.cell 2
  have hl2 := HB2.out.lt
  simp only [List.getElem?_cons_zero, List.getElem?_cons_succ] at d0 d2
  clear hF2 HF1 HB1
  cases hsf : specF rs t with
  | none =>
    have hq : false = q := by have := HX.out; rw [hsf] at this; exact this
    have HE := Lib.hid hq
    clear hq hsf HX
    simp only [specV, Option.elim, spec0, Option.isSome]
    go_wp2_with fail
    go_ret
    exact ⟨by rw [← HE.out]; rfl, HF2.out.alloc _⟩
  | some s =>
    have hq : (decide (s.least ≤ n) && decide (n ≤ s.most) && (s.leaf == decide (k = 3))) = q := by have := HX.out; rw [hsf] at this; exact this
    have HE := Lib.hid hq
    clear hq hsf HX
    simp only [specV, Option.elim, RuleM.spec, Option.isSome]
    obtain ⟨nm, ex, lf, mk, le, mo, ln, ee, EA, ec⟩ := s
    simp only at HE ⊢
    go_wp2_with fail
    all_goals
      go_ret
      refine ⟨?_, HF2.out.alloc _⟩
      rw [← HE.out]
      refine congrArg (fun b => Ending.returned (.bool b)) ?_
      have hk3 : (k == 3) = decide (k = 3) := by rw [Bool.eq_iff_iff]; simp
      rw [Bool.eq_iff_iff]
      simp
      first | omega | (rw [hk3]; exact ⟨fun h => ⟨⟨by omega, by omega⟩, h⟩, fun h => h.2⟩)
end Go.Proofs.YtanbfplcldloeaaGreatDoor

/- Chapter 7: what is open, as memory holds it; the check, as a plain function. -/
namespace Go.Proofs.YtanbfplcldloeaaGreatDoor
open Go.RowKit
def starR (r : RuleM) : Bool := decide (r.e.k = 4)
def nmR (r : RuleM) : ByteArray := match r.e.l with
  | x :: _ => x.name
  | [] => ⟨#[]⟩
def typR (g : List Grp) (r : RuleM) : List Int := typesF g (nmR r)
/-- What is needed of a schema. -/
structure SchOk (rs : List RuleM) (g : List Grp) : Prop where
  rep : ∀ r ∈ rs, r.leaf = false → r.e = repT (starR r) (nmR r) ∧ RepOk g (starR r) (nmR r)
  marks : ∀ r ∈ rs, r.marks = 0 ∨ r.marks = 7
  first : ∀ r, rs[0]? = some r → r.leaf = false
/-- How a document is looked at: the innermost that is open, and what stands in it; the others. -/
def chkF (rs : List RuleM) (g : List Grp) : RuleM × List Int → List (RuleM × List Int) → List Tok → Nat → Int × Int
  | top, st, [], i => let b := (top :: st).getLast (by simp); if accB (typR g b.1) (starR b.1) b.2 then (i, 0) else (i, 9)
  | top, st, x :: l, i =>
    if x.k = 2 then (if accB (typR g top.1) (starR top.1) top.2 then (match st with
      | [] => (i, 9)
      | t :: st => chkF rs g t st l (i + 1)) else (i, 9))
    else if mayB rs top.1 x = false then (i, 9)
    else if prefN (typR g top.1) (top.2 ++ [x.t]) < (top.2 ++ [x.t]).length then (i, 9)
    else if x.k = 1 then (match specF rs x.t with
      | none => (i, 9)
      | some s => chkF rs g (s, []) ((top.1, top.2 ++ [x.t]) :: st) l (i + 1))
    else chkF rs g (top.1, top.2 ++ [x.t]) st l (i + 1)
def checkF (rs : List RuleM) (g : List Grp) (l : List Tok) : Int × Int :=
  if (flatCheck l).2 ≠ 0 then flatCheck l else match rs with
    | [] => (0, 9)
    | r :: _ => chkF rs g (r, []) [] l 0
/-- One that is open. -/
structure Lv where
  r : RuleM
  v : Value
  l : List Int
def Lv.cells (x : Lv) : List Value := x.r.cells ++ [x.v]
theorem Lv.cells_len (x : Lv) : x.cells.length = 11 := by simp [Lv.cells, RuleM.cells_len]
/-- What is open: the row, the words, each in a row of its own. -/
structure LvI (N : Nat) (w : World) (ov : Value) (ls : List Lv) : Prop where
  own : w.ownsRow N 129 11 ov ls.length (ls.flatMap Lv.cells)
  words : ∀ x ∈ ls, OwnI N w x.v x.l
  dist : ls.Pairwise (fun a b => ∀ k, a.v.ownBlock = some k → b.v.ownBlock ≠ some k)
theorem own_types {w : World} {B B' : Nat} {e e' : TypeId} {s s' n n' : Nat} {v v' : Value} {xs xs' : List Value} (h : w.ownsRow B e s v n xs) (h' : w.ownsRow B' e' s' v' n' xs') (hne : e ≠ e') : ∀ k, v.ownBlock = some k → v'.ownBlock ≠ some k := by
  intro k hk hk'
  rcases h.2 with ⟨rfl, _⟩ | ⟨g, cap, cur, rfl, _, hh, _⟩
  · simp [Value.ownBlock] at hk
  · rcases h'.2 with ⟨rfl, _⟩ | ⟨g', cap', cur', rfl, _, hh', _⟩
    · simp [Value.ownBlock] at hk'
    · have e1 : g = k := by simpa [Value.ownBlock] using hk
      have e2 : g' = k := by simpa [Value.ownBlock] using hk'
      subst e1
      rw [e2, hh] at hh'
      injection hh' with hh'
      injection hh' with _ h3
      exact hne h3
theorem OwnI.fr {M : Nat → Prop} {N : Nat} {w w' : World} {v : Value} {l : List Int} (h : OwnI N w v l) (hf : Fr M w w') (hM : ∀ k, v.ownBlock = some k → ¬ M k) : OwnI N w' v l := own_fr h hf hM
theorem LvI.fr {N : Nat} {w w' : World} {ov : Value} {ls : List Lv} (h : LvI N w ov ls) (hf : Fr Nob w w') : LvI N w' ov ls :=
  ⟨own_fr h.own hf (fun _ _ h => h), fun x hx => (h.words x hx).fr hf (fun _ _ h => h), h.dist⟩
theorem LvI.form {N : Nat} {w : World} {ov : Value} {ls : List Lv} (h : LvI N w ov ls) (hn : ls ≠ []) : ∃ G cap, ov = .slice (some ⟨G, 0, none⟩) ls.length cap ∧ N ≤ G ∧ G < w.heap.size ∧ ls.length ≤ cap := by
  rcases h.own.2 with ⟨_, h0⟩ | ⟨G, cap, cur, rfl, hg, hh, hc, _⟩
  · exact absurd (List.length_eq_zero_iff.1 h0) hn
  · exact ⟨G, cap, rfl, hg, lt_of_blk hh, hc⟩
/-- The cells of the last one. -/
theorem LvI.top {N : Nat} {w : World} {G cap : Nat} {st : List Lv} {x : Lv} (h : LvI N w (.slice (some ⟨G, 0, none⟩) (st ++ [x]).length cap) (st ++ [x])) :
    (∀ i, i < 11 → w.cell? ⟨G, st.length * 11 + i, none⟩ = x.cells[i]?) ∧ ∀ i, w.frozen? ⟨G, i, none⟩ = false := by
  refine ⟨fun i hi => ?_, fun i => h.own.frozenAt i⟩
  have hl : (st ++ [x]).length = st.length + 1 := by simp
  have hc := h.own.cellAt (st.length * 11 + i) (by rw [hl]; omega)
  rw [hc, List.flatMap_append, List.getElem?_append_right (by rw [flat_len Lv.cells_len]; omega), flat_len Lv.cells_len, show st.length * 11 + i - st.length * 11 = i by omega]
  simp
theorem LvI.first {N : Nat} {w : World} {G n cap : Nat} {st : List Lv} {x : Lv} (h : LvI N w (.slice (some ⟨G, 0, none⟩) n cap) (x :: st)) (hn : n = (x :: st).length) :
    ∀ i, i < 11 → w.cell? ⟨G, i, none⟩ = x.cells[i]? := by
  subst hn
  intro i hi
  have hc := h.own.cellAt i (by simp only [List.length_cons]; omega)
  rw [hc, List.flatMap_cons, List.getElem?_append_left (by rw [Lv.cells_len]; exact hi)]
/-- The last one is closed. -/
theorem LvI.pop {N : Nat} {w : World} {G cap : Nat} {st : List Lv} {x : Lv} (h : LvI N w (.slice (some ⟨G, 0, none⟩) (st ++ [x]).length cap) (st ++ [x])) : LvI N w (.slice (some ⟨G, 0, none⟩) st.length cap) st := by
  refine ⟨?_, fun y hy => h.words y (List.mem_append_left _ hy), (List.pairwise_append.1 h.dist).1⟩
  have hl : (st ++ [x]).length = st.length + 1 := by simp
  obtain ⟨h1, h2⟩ := h.own
  refine ⟨by rw [flat_len Lv.cells_len], .inr ?_⟩
  rcases h2 with ⟨h2, _⟩ | ⟨g, cap', cur, h3, hg, hh, hc, hm, hs, ht⟩
  · cases h2
  · injection h3 with h4 h5 h6
    injection h4 with h4
    injection h4 with h4
    subst h4
    subst h6
    refine ⟨_, _, cur, rfl, hg, hh, by omega, hm, hs, ?_⟩
    have e1 : ((st ++ [x]).flatMap Lv.cells).take (st.length * 11) = st.flatMap Lv.cells := by
      rw [List.flatMap_append, List.take_append_of_le_length (by rw [flat_len Lv.cells_len]; omega), List.take_of_length_le (by rw [flat_len Lv.cells_len]; omega)]
    rw [← ht, List.take_take, Nat.min_eq_left (by omega)] at e1
    exact e1
/-- A type behind the last one's word: the row turns, or a new one is made; then it is laid down. -/
theorem LvI.word {N : Nat} {w w1 w2 : World} {G cap : Nat} {st : List Lv} {x : Lv} {v' : Value} {t : Int} (h : LvI N w (.slice (some ⟨G, 0, none⟩) (st ++ [x]).length cap) (st ++ [x])) (hN : N ≤ w.heap.size)
    (hf : Fr Nob w w1) (hown : w2.ownsRow N 3 1 v' (x.l.length + 1) (intC x.l ++ [.int .i64 t])) (hg : w1.grownBy w2 x.v.ownBlock) (hat : x.v.ownBlock = v'.ownBlock ∨ v'.ownBlock = some w1.heap.size) :
    LvI N (w2.setCell ⟨G, st.length * 11 + 10, none⟩ v') (.slice (some ⟨G, 0, none⟩) (st ++ [(⟨x.r, v', x.l ++ [t]⟩ : Lv)]).length cap) (st ++ [⟨x.r, v', x.l ++ [t]⟩]) ∧ Fr (fun k => k = G ∨ x.v.ownBlock = some k) w (w2.setCell ⟨G, st.length * 11 + 10, none⟩ v') := by
  have h1 := h.fr hf
  have hG := h1.own
  have hlt := World.ownsRow.lt hG G rfl
  have hxw := h1.words x (by simp)
  have hGx : x.v.ownBlock ≠ some G := fun e => own_types hxw hG (by decide) G e rfl
  have hG2 := hG.kept hg (.inr (Ne.symm hGx))
  have hl : (st ++ [x]).length = st.length + 1 := by simp
  have hset := (hG2.stored (st.length * 11 + 10) v').1
  have hlst : st.length * 11 + 10 < ((st ++ [x]).flatMap Lv.cells).length := by rw [flat_len Lv.cells_len, hl]; omega
  have hcs : ((st ++ [x]).flatMap Lv.cells).set (st.length * 11 + 10) v' = (st ++ [(⟨x.r, v', x.l ++ [t]⟩ : Lv)]).flatMap Lv.cells := by
    rw [List.flatMap_append, List.flatMap_append, List.set_append_right _ _ (by rw [flat_len Lv.cells_len]; omega), flat_len Lv.cells_len, show st.length * 11 + 10 - st.length * 11 = 10 by omega]
    congr 1
  have hGG : ∀ k, (Value.slice (some ⟨G, 0, none⟩) (st ++ [x]).length cap).ownBlock = some k → k = G := fun k hk => by
    have : G = k := by simpa [Value.ownBlock] using hk
    exact this.symm
  have hgv : v'.ownBlock ≠ some G := by
    rcases hat with e | e
    · rw [← e]; exact hGx
    · rw [e]; intro e2; injection e2 with e2; omega
  have hsm : (Fr (One G) w2 (w2.setCell ⟨G, st.length * 11 + 10, none⟩ v')) := (Fr.refl (One G) w2).setCell (p := ⟨G, st.length * 11 + 10, none⟩) (.inl (show One G G from rfl)) _
  refine ⟨⟨?_, ?_, ?_⟩, ?_⟩
  · rw [← hcs]
    have hl2 : (st ++ [(⟨x.r, v', x.l ++ [t]⟩ : Lv)]).length = (st ++ [x]).length := by simp
    rw [hl2]
    exact hset
  · intro y hy
    rcases List.mem_append.1 hy with hy | hy
    · have hyw := h1.words y (List.mem_append_left _ hy)
      have hd : y.v.ownBlock = none ∨ y.v.ownBlock ≠ x.v.ownBlock := by
        cases hyb : y.v.ownBlock with
        | none => exact .inl rfl
        | some k =>
          right
          intro e
          exact (List.pairwise_append.1 h.dist).2.2 y hy x (by simp) k hyb e.symm
      have h2 : OwnI N w2 y.v y.l := World.ownsRow.kept hyw hg hd
      exact h2.fr hsm (fun k hk hm => by
        have : k = G := hm
        subst this
        exact own_types hyw hG (by decide) k hk rfl)
    · have : y = ⟨x.r, v', x.l ++ [t]⟩ := by simpa using hy
      subst this
      have h2 : OwnI N w2 v' (x.l ++ [t]) := by
        unfold OwnI
        simpa [intC] using hown
      exact h2.fr hsm (fun k hk hm => by
        have : k = G := hm
        subst this
        exact hgv hk)
  · obtain ⟨p1, _, p3⟩ := List.pairwise_append.1 h.dist
    refine List.pairwise_append.2 ⟨p1, by simp, fun a ha b hb k hk => ?_⟩
    have : b = ⟨x.r, v', x.l ++ [t]⟩ := by simpa using hb
    subst this
    rcases hat with e | e
    · show v'.ownBlock ≠ some k
      rw [← e]
      exact p3 a ha x (by simp) k hk
    · show v'.ownBlock ≠ some k
      rw [e]
      intro e2
      injection e2 with e2
      have := (World.ownsRow.lt (h1.words a (List.mem_append_left _ ha)) k hk).2
      omega
  · have hg' : Fr (fun k => k = G ∨ x.v.ownBlock = some k) w1 w2 := (Fr.of_grown hg).mono (fun k hk h => .inr h.symm)
    exact ((hf.any (M := fun k => k = G ∨ x.v.ownBlock = some k)).same hg').trans hsm (fun k hk h => .inl h)
theorem LvI.word_cell {N : Nat} {w w1 w2 : World} {G cap : Nat} {st : List Lv} {x : Lv} (h : LvI N w (.slice (some ⟨G, 0, none⟩) (st ++ [x]).length cap) (st ++ [x])) (hf : Fr Nob w w1) (hg : w1.grownBy w2 x.v.ownBlock) :
    w2.cell? ⟨G, st.length * 11 + 10, none⟩ = some x.v ∧ w2.frozen? ⟨G, st.length * 11 + 10, none⟩ = false ∧ G < w2.heap.size := by
  have h1 := h.fr hf
  have hG := h1.own
  have hxw := h1.words x (by simp)
  have hGx : x.v.ownBlock ≠ some G := fun e => own_types hxw hG (by decide) G e rfl
  have hG2 := hG.kept hg (.inr (Ne.symm hGx))
  have hl : (st ++ [x]).length = st.length + 1 := by simp
  have hc := hG2.cellAt (st.length * 11 + 10) (by rw [hl]; omega)
  rw [List.flatMap_append, List.getElem?_append_right (by rw [flat_len Lv.cells_len]; omega), flat_len Lv.cells_len, show st.length * 11 + 10 - st.length * 11 = 10 by omega] at hc
  have hc2 : w2.cell? ⟨G, st.length * 11 + 10, none⟩ = some x.v := by rw [hc]; simp [Lv.cells, RuleM.cells]
  exact ⟨hc2, hG2.frozenAt _, cell_lt hc2⟩
/-- One more is opened. -/
theorem LvI.push {N : Nat} {w w1 w2 : World} {ov ov' : Value} {ls : List Lv} {r : RuleM} (h : LvI N w ov ls)
    (hf : Fr Nob w w1) (hown : w2.ownsRow N 129 11 ov' (ls.length + 1) (ls.flatMap Lv.cells ++ (r.cells ++ [.slice none 0 0]))) (hg : w1.grownBy w2 ov.ownBlock) :
    LvI N w2 ov' (ls ++ [⟨r, .slice none 0 0, []⟩]) ∧ Fr (fun k => N ≤ k) w w2 := by
  have h1 := h.fr hf
  refine ⟨⟨?_, ?_, ?_⟩, ?_⟩
  · have e : (ls ++ [(⟨r, .slice none 0 0, []⟩ : Lv)]).flatMap Lv.cells = ls.flatMap Lv.cells ++ (r.cells ++ [.slice none 0 0]) := by simp [Lv.cells]
    rw [e, List.length_append]
    exact hown
  · intro y hy
    rcases List.mem_append.1 hy with hy | hy
    · have hyw := h1.words y hy
      refine World.ownsRow.kept hyw hg ?_
      cases hyb : y.v.ownBlock with
      | none => exact .inl rfl
      | some k => exact .inr (fun e => own_types hyw h1.own (by decide) k hyb e.symm)
    · have : y = ⟨r, .slice none 0 0, []⟩ := by simpa using hy
      subst this
      exact OwnI.nil _ _
  · refine List.pairwise_append.2 ⟨h.dist, by simp, fun a ha b hb k hk => ?_⟩
    have : b = ⟨r, .slice none 0 0, []⟩ := by simpa using hb
    subst this
    simp [Value.ownBlock]
  · exact (hf.any (M := fun k => N ≤ k)).same ((Fr.of_grown hg).mono (fun k hk h => (World.ownsRow.lt h1.own k h.symm).1))
/-- A document whose brackets are right, so many open. -/
def flatOk : List Tok → Nat → Prop
  | [], n => n = 0
  | x :: l, n => okT x = true ∧ ¬ (x.k = 2 ∧ n = 0) ∧ ¬ (x.k = 1 ∧ n = 32) ∧ flatOk l (if x.k = 1 then n + 1 else if x.k = 2 then n - 1 else n)
theorem flatOk_of : ∀ (l : List Tok) (i n : Nat), (flatF l i n).2 = 0 → flatOk l n
  | [], i, n, h => by
    rw [flatF] at h
    split at h
    · cases h
    · rw [flatOk]; omega
  | x :: l, i, n, h => by
    rw [flatF] at h
    split at h
    · cases h
    · rename_i h1
      split at h
      · cases h
      · rename_i h2
        rw [flatOk]
        refine ⟨?_, fun h3 => h1 (.inr h3), h2, flatOk_of l _ _ h⟩
        cases hb : okT x
        · exact absurd (.inl hb) h1
        · rfl
theorem chkF_cons (rs : List RuleM) (g : List Grp) (top : RuleM × List Int) (st : List (RuleM × List Int)) (x : Tok) (l : List Tok) (i : Nat) : chkF rs g top st (x :: l) i =
    (if x.k = 2 then (if accB (typR g top.1) (starR top.1) top.2 then (match st with
      | [] => (i, 9)
      | t :: st => chkF rs g t st l (i + 1)) else (i, 9))
    else if mayB rs top.1 x = false then (i, 9)
    else if prefN (typR g top.1) (top.2 ++ [x.t]) < (top.2 ++ [x.t]).length then (i, 9)
    else if x.k = 1 then (match specF rs x.t with
      | none => (i, 9)
      | some s => chkF rs g (s, []) ((top.1, top.2 ++ [x.t]) :: st) l (i + 1))
    else chkF rs g (top.1, top.2 ++ [x.t]) st l (i + 1) : Int × Int) := by
  rw [chkF.eq_def]
theorem chkF_nil (rs : List RuleM) (g : List Grp) (top : RuleM × List Int) (st : List (RuleM × List Int)) (i : Nat) : chkF rs g top st [] i =
    (if accB (typR g ((top :: st).getLast (by simp)).1) (starR ((top :: st).getLast (by simp)).1) ((top :: st).getLast (by simp)).2 then (i, 0) else (i, 9) : Int × Int) := by
  rw [chkF.eq_def]
end Go.Proofs.YtanbfplcldloeaaGreatDoor
