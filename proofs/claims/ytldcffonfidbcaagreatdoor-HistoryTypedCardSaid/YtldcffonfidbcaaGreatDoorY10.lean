/- A part of the proof for chapter 10: Mark, Join, Made2, Acc; no conditions. -/
import Derived.Test.YtldcffonfidbcaaGreatDoorY08
import Derived.Outline
import Derived.Test.YtldcffonfidbcaaGreatDoorY09
import Derived.Deep.RegionLaw
/- Chapter 3: marks, as plain functions; the program's. -/
namespace Go.Proofs.YtldcffonfidbcaaGreatDoor
open Go.RowKit
def isM (m : Int) : Bool := decide (m = 1) || decide (m = 2) || decide (m = 4)
def rightM (s : Int) : Bool := decide (0 ≤ s) && decide (s ≤ 4)
def placeF (m : Int) : Int := if m = 1 then 0 else if m = 2 then 1 else if m = 4 then 2 else 3
def mayF (s m : Int) : Int := if isM m then (if rightM s then 0 else 4) else 1
/-- Is a mark of a set's? -/
def inM (s m : Int) : Bool := decide (s = m) || (decide (s = 3) && decide (m ≠ 4))
def hasF (s m : Int) : Bool := decide (mayF s m = 0) && inM s m
def addF (s m : Int) : Int × Int := if mayF s m ≠ 0 then (0, mayF s m) else if s = 4 ∨ m = 4 then (4, 0) else if s = 0 ∨ s = m then (m, 0) else (3, 0)
def takeF (s m : Int) : Int × Int := if mayF s m ≠ 0 then (0, mayF s m) else if inM s m then (s - m, 0) else (s, 0)
def listM (s : Int) : List Int := if s = 1 then [1] else if s = 2 then [2] else if s = 3 then [1, 2] else if s = 4 then [4] else []
theorem isM_cases {m : Int} (h : isM m = true) : m = 1 ∨ m = 2 ∨ m = 4 := by
  simp only [isM, Bool.or_eq_true, decide_eq_true_eq] at h; omega
theorem rightM_cases {s : Int} (h : rightM s = true) : s = 0 ∨ s = 1 ∨ s = 2 ∨ s = 3 ∨ s = 4 := by
  simp only [rightM, Bool.and_eq_true, decide_eq_true_eq] at h; omega
set_option maxRecDepth 100000 in
theorem place_any (m : Int) (w : World) : Calls Tryz.prog 171 #[.int .i64 m] w fun e w' => e = .returned (.int .i64 (placeF m)) ∧ w' = w := by
  obtain ⟨r, hr⟩ : ∃ r, placeF m = r := ⟨_, rfl⟩
  rw [hr]
  have HR := Lib.hid hr
  clear hr
  have s0 : (1 : Int) <<< (0 : Nat) = 1 := rfl
  go_enter Tryz.func171, Tryz.ntmps171
  go_wp2_with fail
  go_loopg [3] 4 (fun n i wr => ∃ k : Nat, n = 4 - k ∧ k ≤ 3 ∧ i = .int .i64 k ∧ wr = w ∧ Hid ((0 < k → m ≠ 1) ∧ (1 < k → m ≠ 2) ∧ (2 < k → m ≠ 4)))
  case atStart => exact ⟨0, rfl, by omega, rfl, rfl, by simp [Hid]⟩
  case round =>
    obtain ⟨k, rfl, hk, rfl, rfl, HN⟩ := hrel
    have hk4 : k = 0 ∨ k = 1 ∨ k = 2 ∨ k = 3 := by omega
    rcases hk4 with rfl | rfl | rfl | rfl
    · by_cases hm : m = 1
      · have hb : (m == 1) = true := by simpa using hm
        have HM := Lib.hid hm
        clear hm
        go_wp2_with fail
        go_ret
        exact ⟨ret_i (by rw [← HR.out, HM.out]; rfl), rfl⟩
      · have hb : (m == 1) = false := by simpa using hm
        go_wp2_with fail
        go_roundg 3
        case measure => omega
        case rel => exact ⟨1, rfl, by omega, rfl, rfl, by have h := HN.out; refine ⟨fun h3 => ?_, fun h3 => ?_, fun h3 => ?_⟩ <;> first | assumption | omega | exact h.1 (by omega) | exact h.2.1 (by omega)⟩
    · by_cases hm : m = 2
      · have hb : (m == 2) = true := by simpa using hm
        have HM := Lib.hid hm
        clear hm
        go_wp2_with fail
        go_ret
        exact ⟨ret_i (by rw [← HR.out, HM.out]; rfl), rfl⟩
      · have hb : (m == 2) = false := by simpa using hm
        go_wp2_with fail
        go_roundg 2
        case measure => omega
        case rel => exact ⟨2, rfl, by omega, rfl, rfl, by have h := HN.out; refine ⟨fun h3 => ?_, fun h3 => ?_, fun h3 => ?_⟩ <;> first | assumption | omega | exact h.1 (by omega) | exact h.2.1 (by omega)⟩
    · by_cases hm : m = 4
      · have hb : (m == 4) = true := by simpa using hm
        have HM := Lib.hid hm
        clear hm
        go_wp2_with fail
        go_ret
        exact ⟨ret_i (by rw [← HR.out, HM.out]; rfl), rfl⟩
      · have hb : (m == 4) = false := by simpa using hm
        go_wp2_with fail
        go_roundg 1
        case measure => omega
        case rel => exact ⟨3, rfl, by omega, rfl, rfl, by have h := HN.out; refine ⟨fun h3 => ?_, fun h3 => ?_, fun h3 => ?_⟩ <;> first | assumption | omega | exact h.1 (by omega) | exact h.2.1 (by omega)⟩
    · go_wp2_with fail
      go_ret
      have h := HN.out
      exact ⟨ret_i (by rw [← HR.out]; unfold placeF; rw [if_neg (h.1 (by omega)), if_neg (h.2.1 (by omega)), if_neg (h.2.2 (by omega))]), rfl⟩
theorem place_three {m : Int} : placeF m = 3 ↔ isM m = false := by
  unfold placeF isM
  by_cases h1 : m = 1
  · simp [h1]
  by_cases h2 : m = 2
  · simp [h2]
  by_cases h4 : m = 4
  · simp [h4]
  simp [h1, h2, h4]
theorem markRight_any (s : Int) (w : World) : Calls Tryz.prog 89 #[.int .i64 s] w fun e w' => e = .returned (.bool (rightM s)) ∧ w' = w := by
  obtain ⟨r, hr⟩ : ∃ r, rightM s = r := ⟨_, rfl⟩
  rw [hr]
  have HR := Lib.hid hr
  clear hr
  by_cases h0 : 0 ≤ s
  · by_cases h4 : s ≤ 4
    · go_enter Tryz.func89, Tryz.ntmps89
      go_wp2_with fail
      go_ret
      exact ⟨by rw [← HR.out]; simp [rightM, h0, h4], rfl⟩
    · have h5 : 4 < s := by omega
      go_enter Tryz.func89, Tryz.ntmps89
      go_wp2_with fail
      go_ret
      exact ⟨by rw [← HR.out]; simp [rightM, h0, h4], rfl⟩
  · go_enter Tryz.func89, Tryz.ntmps89
    go_wp2_with fail
    go_ret
    exact ⟨by rw [← HR.out]; unfold rightM; rw [decide_eq_false (by omega)]; rfl, rfl⟩
theorem may_any (s m : Int) (w : World) : Calls Tryz.prog 151 #[.int .i64 s, .int .i64 m] w fun e w' => e = .returned (.int .i64 (mayF s m)) ∧ w' = w := by
  obtain ⟨r, hr⟩ : ∃ r, mayF s m = r := ⟨_, rfl⟩
  rw [hr]
  have HR := Lib.hid hr
  have HP := Lib.hid (place_any m)
  have HG := Lib.hid (markRight_any s)
  clear hr
  by_cases h1 : isM m = true
  · have hp : (placeF m == 3) = false := by
      have : ¬ placeF m = 3 := fun h => by rw [place_three.1 h] at h1; cases h1
      simpa using this
    by_cases h2 : rightM s = true
    · have HR2 := Lib.hid (show (0 : Int) = r by rw [← HR.out, mayF, if_pos h1, if_pos h2])
      rw [h2] at HG
      clear h1 h2
      go_enter Tryz.func151, Tryz.ntmps151
      go_wp2_with fail
      refine (HP.out w).mono ?_
      rintro e w1 ⟨rfl, rfl⟩
      go_wp2_with fail
      refine (HG.out w1).mono ?_
      rintro e w1 ⟨rfl, rfl⟩
      go_wp2_with fail
      go_ret
      exact ⟨ret_i HR2.out, rfl⟩
    · have h2' : rightM s = false := by simpa using h2
      have HR2 := Lib.hid (show (4 : Int) = r by rw [← HR.out, mayF, if_pos h1, if_neg h2])
      rw [h2'] at HG
      clear h1 h2 h2'
      go_enter Tryz.func151, Tryz.ntmps151
      go_wp2_with fail
      refine (HP.out w).mono ?_
      rintro e w1 ⟨rfl, rfl⟩
      go_wp2_with fail
      refine (HG.out w1).mono ?_
      rintro e w1 ⟨rfl, rfl⟩
      go_wp2_with fail
      go_ret
      exact ⟨ret_i HR2.out, rfl⟩
  · have h1' : isM m = false := by simpa using h1
    have hp : (placeF m == 3) = true := by simpa using place_three.2 h1'
    have HR2 := Lib.hid (show (1 : Int) = r by rw [← HR.out, mayF, if_neg h1])
    clear h1 h1'
    go_enter Tryz.func151, Tryz.ntmps151
    go_wp2_with fail
    refine (HP.out w).mono ?_
    rintro e w1 ⟨rfl, rfl⟩
    go_wp2_with fail
    go_ret
    exact ⟨ret_i HR2.out, rfl⟩
theorem may_zero {s m : Int} : mayF s m = 0 ↔ isM m = true ∧ rightM s = true := by
  unfold mayF
  by_cases h1 : isM m = true
  · by_cases h2 : rightM s = true <;> simp [h1, h2]
  · simp [h1]
theorem has_any (s m : Int) (w : World) : Calls Tryz.prog 170 #[.int .i64 s, .int .i64 m] w fun e w' => e = .returned (.bool (hasF s m)) ∧ w' = w := by
  obtain ⟨r, hr⟩ : ∃ r, hasF s m = r := ⟨_, rfl⟩
  rw [hr]
  have HR := Lib.hid hr
  have HP := Lib.hid (may_any s m)
  clear hr
  by_cases h : mayF s m = 0
  · obtain ⟨h1, h2⟩ := may_zero.1 h
    rw [h] at HP
    rcases isM_cases h1 with rfl | rfl | rfl <;> rcases rightM_cases h2 with rfl | rfl | rfl | rfl | rfl
    all_goals
      clear h h1 h2
      go_enter Tryz.func170, Tryz.ntmps170
      go_wp2_with fail
      refine (HP.out w).mono ?_
      rintro e w1 ⟨rfl, rfl⟩
      go_wp2_with fail
      go_ret
      exact ⟨by rw [← HR.out]; rfl, rfl⟩
  · have hb : (mayF s m == 0) = false := by simpa using h
    have HR2 := Lib.hid (show false = r by rw [← HR.out, hasF, decide_eq_false h]; rfl)
    clear h
    go_enter Tryz.func170, Tryz.ntmps170
    go_wp2_with fail
    refine (HP.out w).mono ?_
    rintro e w1 ⟨rfl, rfl⟩
    go_wp2_with fail
    go_ret
    exact ⟨by rw [← HR2.out]; rfl, rfl⟩
theorem add_any (s m : Int) (w : World) : Calls Tryz.prog 112 #[.int .i64 s, .int .i64 m] w fun e w' => e = .returned (.tuple #[.int .i64 (addF s m).1, .int .i64 (addF s m).2]) ∧ w' = w := by
  obtain ⟨r, hr⟩ : ∃ r, addF s m = r := ⟨_, rfl⟩
  rw [hr]
  have HR := Lib.hid hr
  have HP := Lib.hid (may_any s m)
  clear hr
  by_cases h : mayF s m = 0
  · obtain ⟨h1, h2⟩ := may_zero.1 h
    rw [h] at HP
    rcases isM_cases h1 with rfl | rfl | rfl <;> rcases rightM_cases h2 with rfl | rfl | rfl | rfl | rfl
    all_goals
      clear h h1 h2
      go_enter Tryz.func112, Tryz.ntmps112
      go_wp2_with fail
      refine (HP.out w).mono ?_
      rintro e w1 ⟨rfl, rfl⟩
      go_wp2_with fail
      go_ret2
      exact ⟨by rw [← HR.out]; rfl, rfl⟩
  · have hb : (mayF s m != 0) = true := by simpa using h
    have HR2 := Lib.hid (show (0, mayF s m) = r by rw [← HR.out, addF, if_pos h])
    clear h
    go_enter Tryz.func112, Tryz.ntmps112
    go_wp2_with fail
    refine (HP.out w).mono ?_
    rintro e w1 ⟨rfl, rfl⟩
    go_wp2_with fail
    go_ret2
    exact ⟨by rw [← HR2.out]; rfl, rfl⟩
theorem take_any (s m : Int) (w : World) : Calls Tryz.prog 113 #[.int .i64 s, .int .i64 m] w fun e w' => e = .returned (.tuple #[.int .i64 (takeF s m).1, .int .i64 (takeF s m).2]) ∧ w' = w := by
  obtain ⟨r, hr⟩ : ∃ r, takeF s m = r := ⟨_, rfl⟩
  rw [hr]
  have HR := Lib.hid hr
  have HP := Lib.hid (may_any s m)
  clear hr
  by_cases h : mayF s m = 0
  · obtain ⟨h1, h2⟩ := may_zero.1 h
    rw [h] at HP
    rcases isM_cases h1 with rfl | rfl | rfl <;> rcases rightM_cases h2 with rfl | rfl | rfl | rfl | rfl
    all_goals
      clear h h1 h2
      go_enter Tryz.func113, Tryz.ntmps113
      go_wp2_with fail
      refine (HP.out w).mono ?_
      rintro e w1 ⟨rfl, rfl⟩
      go_wp2_with fail
      go_ret2
      exact ⟨by rw [← HR.out]; rfl, rfl⟩
  · have hb : (mayF s m != 0) = true := by simpa using h
    have HR2 := Lib.hid (show (0, mayF s m) = r by rw [← HR.out, takeF, if_pos h])
    clear h
    go_enter Tryz.func113, Tryz.ntmps113
    go_wp2_with fail
    refine (HP.out w).mono ?_
    rintro e w1 ⟨rfl, rfl⟩
    go_wp2_with fail
    go_ret2
    exact ⟨by rw [← HR2.out]; rfl, rfl⟩
theorem has_out {s m : Int} (h : rightM s = false) : hasF s m = false := by
  unfold hasF
  rw [decide_eq_false (fun h2 => by rw [(may_zero.1 h2).2] at h; cases h)]
  rfl
theorem list_filter (s : Int) : listM s = [1, 2, 4].filter (hasF s) := by
  by_cases h : rightM s = true
  · rcases rightM_cases h with rfl | rfl | rfl | rfl | rfl <;> decide
  · have h' : rightM s = false := by simpa using h
    have h1 := fun m => has_out (m := m) h'
    simp only [List.filter_cons, h1, List.filter_nil]
    simp only [rightM, Bool.and_eq_false_iff, decide_eq_false_iff_not] at h'
    unfold listM
    rw [if_neg (by omega), if_neg (by omega), if_neg (by omega), if_neg (by omega)]
    rfl
theorem infoI : (Tryz.prog.info? 3).map (fun i => (i.zero, i.size, i.bytes)) = some (some (.int .i64 0), 1, 8) := by kernel_rfl
/-- A slice of ints of the call's own. -/
def OwnI (B : Nat) (w : World) (v : Value) (l : List Int) : Prop := w.ownsRow B 3 1 v l.length (l.map (Value.int .i64))
theorem OwnI.nil (w : World) (B : Nat) : OwnI B w (.slice none 0 0) [] := ⟨rfl, .inl ⟨rfl, rfl⟩⟩
set_option maxHeartbeats 400000 in
set_option maxRecDepth 100000 in
theorem list_any (s : Int) (w : World) : Calls Tryz.prog 150 #[.int .i64 s] w fun e w' => ∃ v, e = .returned v ∧ OwnI w.heap.size w' v (listM s) ∧ Below w.heap.size w w' := by
  obtain ⟨r, hr⟩ : ∃ r, listM s = r := ⟨_, rfl⟩
  have hfl := list_filter s
  rw [hr] at hfl ⊢
  have HR := Lib.hid hfl
  have HP := Lib.hid (has_any s)
  obtain ⟨i0, hi, hz0, hz1, hz2⟩ := info_parts infoI
  have s0 : (1 : Int) <<< (0 : Nat) = 1 := rfl
  clear hr hfl
  go_enter Tryz.func150, Tryz.ntmps150
  go_wp2_with fail
  go_loopg [3, 4] 3 (fun n v i wr => ∃ (k : Nat) (l : List Int), n = 3 - k ∧ k ≤ 3 ∧ l.length ≤ k ∧ i = .int .i64 k ∧ Hid (OwnI w.heap.size wr v l) ∧ Hid (Below w.heap.size w wr) ∧ Hid (r = l ++ ([1, 2, 4].drop k).filter (hasF s)))
  case atStart => exact ⟨0, [], rfl, by omega, Nat.le_refl _, rfl, OwnI.nil _ _, Below.refl _ _, HR.out⟩
  case round =>
    obtain ⟨k, l, rfl, hk, hl, rfl, HO, HB, HRr⟩ := hrel
    have hk4 : k = 0 ∨ k = 1 ∨ k = 2 ∨ k = 3 := by omega
    rcases hk4 with rfl | rfl | rfl | rfl
    · by_cases hh : hasF s 1 = true
      · have HH := Lib.hid hh
        have hc := HP.out 1
        rw [hh] at hc
        have HC := Lib.hid hc
        have hown : wr.ownsRow w.heap.size 3 1 u3 l.length (l.map (Value.int .i64)) := HO.out
        have hsz := HB.out.size
        clear hh hc
        go_wp2_with fail
        refine (HC.out _).mono ?_
        rintro e w1 ⟨rfl, rfl⟩
        go_wp2_with (at_builtin; refine wpList_append_own_at _ rfl _ _ 75 rfl w.heap.size 3 i0 _ 1 8 Tryz.underlying75 hi hz0 hz1 hz2 rfl (by decide) u3 l.length (l.map (Value.int .i64)) rfl (hown.alloc _) ⟨w1.heap.size, 0, none⟩ 1 1 [.int .i64 1] rfl ?c1 ?c2 ?c3 ?c4 ?c5 ?c6 ?_)
        case c1 => rfl
        case c2 =>
          intro j u hj
          have hb := ((Blk.new_at w1 [.int .i64 1] 3 w1.heap.size rfl).cell j).trans hj
          rw [add_lit]
          exact hb
        case c3 => simp [Value.oneCell']
        case c4 => unfold maxLen; omega
        case c5 => omega
        case c6 => simp; omega
        intro v2 w5 hown2 hgr2 _ hat2
        have hb2 : Below w.heap.size w w5 := (HB.out.alloc hsz _).grown hgr2 (by simp; omega) (fun k hk => (World.ownsRow.lt hown k hk).1)
        have HO2 := Lib.hid hown2
        have HB2 := Lib.hid hb2
        clear hown hown2 hgr2 hat2 hb2
        go_wp2_with fail
        go_roundg 2
        case measure => omega
        case rel => exact ⟨1, l ++ [1], rfl, by omega, (by rw [List.length_append]; show l.length + 1 ≤ _; omega), rfl, by have h := HO2.out; simpa [OwnI, Hid] using h, HB2.out, by rw [Hid, HRr.out]; simp [List.filter_cons, HH.out]⟩
      · have hh' : hasF s 1 = false := by simpa using hh
        have HH := Lib.hid hh'
        have hc := HP.out 1
        rw [hh'] at hc
        have HC := Lib.hid hc
        clear hh hh' hc
        go_wp2_with fail
        refine (HC.out _).mono ?_
        rintro e w1 ⟨rfl, rfl⟩
        go_wp2_with fail
        go_roundg 2
        case measure => omega
        case rel => exact ⟨1, l, rfl, by omega, by omega, rfl, HO.out, HB.out, by rw [Hid, HRr.out]; simp [List.filter_cons, HH.out]⟩
    · by_cases hh : hasF s 2 = true
      · have HH := Lib.hid hh
        have hc := HP.out 2
        rw [hh] at hc
        have HC := Lib.hid hc
        have hown : wr.ownsRow w.heap.size 3 1 u3 l.length (l.map (Value.int .i64)) := HO.out
        have hsz := HB.out.size
        clear hh hc
        go_wp2_with fail
        refine (HC.out _).mono ?_
        rintro e w1 ⟨rfl, rfl⟩
        go_wp2_with (at_builtin; refine wpList_append_own_at _ rfl _ _ 75 rfl w.heap.size 3 i0 _ 1 8 Tryz.underlying75 hi hz0 hz1 hz2 rfl (by decide) u3 l.length (l.map (Value.int .i64)) rfl (hown.alloc _) ⟨w1.heap.size, 0, none⟩ 1 1 [.int .i64 2] rfl ?c1 ?c2 ?c3 ?c4 ?c5 ?c6 ?_)
        case c1 => rfl
        case c2 =>
          intro j u hj
          have hb := ((Blk.new_at w1 [.int .i64 2] 3 w1.heap.size rfl).cell j).trans hj
          rw [add_lit]
          exact hb
        case c3 => simp [Value.oneCell']
        case c4 => unfold maxLen; omega
        case c5 => omega
        case c6 => simp; omega
        intro v2 w5 hown2 hgr2 _ hat2
        have hb2 : Below w.heap.size w w5 := (HB.out.alloc hsz _).grown hgr2 (by simp; omega) (fun k hk => (World.ownsRow.lt hown k hk).1)
        have HO2 := Lib.hid hown2
        have HB2 := Lib.hid hb2
        clear hown hown2 hgr2 hat2 hb2
        go_wp2_with fail
        go_roundg 1
        case measure => omega
        case rel => exact ⟨2, l ++ [2], rfl, by omega, (by rw [List.length_append]; show l.length + 1 ≤ _; omega), rfl, by have h := HO2.out; simpa [OwnI, Hid] using h, HB2.out, by rw [Hid, HRr.out]; simp [List.filter_cons, HH.out]⟩
      · have hh' : hasF s 2 = false := by simpa using hh
        have HH := Lib.hid hh'
        have hc := HP.out 2
        rw [hh'] at hc
        have HC := Lib.hid hc
        clear hh hh' hc
        go_wp2_with fail
        refine (HC.out _).mono ?_
        rintro e w1 ⟨rfl, rfl⟩
        go_wp2_with fail
        go_roundg 1
        case measure => omega
        case rel => exact ⟨2, l, rfl, by omega, by omega, rfl, HO.out, HB.out, by rw [Hid, HRr.out]; simp [List.filter_cons, HH.out]⟩
    · by_cases hh : hasF s 4 = true
      · have HH := Lib.hid hh
        have hc := HP.out 4
        rw [hh] at hc
        have HC := Lib.hid hc
        have hown : wr.ownsRow w.heap.size 3 1 u3 l.length (l.map (Value.int .i64)) := HO.out
        have hsz := HB.out.size
        clear hh hc
        go_wp2_with fail
        refine (HC.out _).mono ?_
        rintro e w1 ⟨rfl, rfl⟩
        go_wp2_with (at_builtin; refine wpList_append_own_at _ rfl _ _ 75 rfl w.heap.size 3 i0 _ 1 8 Tryz.underlying75 hi hz0 hz1 hz2 rfl (by decide) u3 l.length (l.map (Value.int .i64)) rfl (hown.alloc _) ⟨w1.heap.size, 0, none⟩ 1 1 [.int .i64 4] rfl ?c1 ?c2 ?c3 ?c4 ?c5 ?c6 ?_)
        case c1 => rfl
        case c2 =>
          intro j u hj
          have hb := ((Blk.new_at w1 [.int .i64 4] 3 w1.heap.size rfl).cell j).trans hj
          rw [add_lit]
          exact hb
        case c3 => simp [Value.oneCell']
        case c4 => unfold maxLen; omega
        case c5 => omega
        case c6 => simp; omega
        intro v2 w5 hown2 hgr2 _ hat2
        have hb2 : Below w.heap.size w w5 := (HB.out.alloc hsz _).grown hgr2 (by simp; omega) (fun k hk => (World.ownsRow.lt hown k hk).1)
        have HO2 := Lib.hid hown2
        have HB2 := Lib.hid hb2
        clear hown hown2 hgr2 hat2 hb2
        go_wp2_with fail
        go_roundg 0
        case measure => omega
        case rel => exact ⟨3, l ++ [4], rfl, by omega, (by rw [List.length_append]; show l.length + 1 ≤ _; omega), rfl, by have h := HO2.out; simpa [OwnI, Hid] using h, HB2.out, by rw [Hid, HRr.out]; simp [List.filter_cons, HH.out]⟩
      · have hh' : hasF s 4 = false := by simpa using hh
        have HH := Lib.hid hh'
        have hc := HP.out 4
        rw [hh'] at hc
        have HC := Lib.hid hc
        clear hh hh' hc
        go_wp2_with fail
        refine (HC.out _).mono ?_
        rintro e w1 ⟨rfl, rfl⟩
        go_wp2_with fail
        go_roundg 0
        case measure => omega
        case rel => exact ⟨3, l, rfl, by omega, by omega, rfl, HO.out, HB.out, by rw [Hid, HRr.out]; simp [List.filter_cons, HH.out]⟩
    · go_wp2_with fail
      go_ret
      exact ⟨_, rfl, by rw [HRr.out]; simpa using HO.out, HB.out⟩
end Go.Proofs.YtldcffonfidbcaaGreatDoor

/- Chapter 6: the machine's 'join', of one place with itself. -/
namespace Go.Proofs.YtldcffonfidbcaaGreatDoor
open Go.RowKit
set_option maxRecDepth 100000 in
set_option maxHeartbeats 1000000 in
theorem join_any (m fb nb c1 c2 tb lc fc : Nat) (z : Value) (w : World) (hm : Blk w m [.slice (some ⟨tb, 0, none⟩) 1 c1, .slice (some ⟨fb, 0, none⟩) 1 c2, z, .slice none 0 0, .slice none 0 0] 176)
    (hf : w.cell? ⟨fb, 0, none⟩ = some (.slice none 0 0)) (hz : w.frozen? ⟨fb, 0, none⟩ = false) (hn : w.cell? ⟨nb, 0, none⟩ = some (.int .i64 0)) :
    Calls Tryz.prog 130 #[.pointer (some ⟨m, 0, none⟩), .slice (some ⟨nb, 0, none⟩) 1 lc, .slice (some ⟨nb, 0, none⟩) 1 fc] w fun e w' => e = .returned (.tuple #[]) ∧ (∃ ff cf : Nat, w.heap.size ≤ ff ∧ w'.cell? ⟨fb, 0, none⟩ = some (.slice (some ⟨ff, 0, none⟩) 1 cf) ∧ w'.cell? ⟨ff, 0, none⟩ = some (.int .i64 0)) ∧ Fr (One fb) w w' := by
  have d1 := hm.cell 1
  have hlm := hm.lt
  have hlf := cell_lt hf
  have hln := cell_lt hn
  simp only [List.getElem?_cons_zero, List.getElem?_cons_succ] at d1
  clear hm
  go_enter Tryz.func130, Tryz.ntmps130
  go_wp2_with fail
  refine wp_loop_rounds 2 ?_
  rw [rounds_succ]
  go_wp2_with fail
  have hnews : ∀ j u, [Value.int .i64 0][j]? = some u → w.drew.cell? ((⟨nb, 0, none⟩ : Addr).add j) = some u := fun j u hj => by
    cases j with
    | zero => rw [show u = .int .i64 0 by simpa using hj.symm, add_lit]; exact hn
    | succ j => simp at hj
  have hk : ∀ w2 : World, w.drew.grownBy w2 (Value.slice none 0 0).ownBlock → Fr Nob w w2 := fun w2 h =>
    (Fr.refl Nob w).drew.same ((Fr.of_grown h).mono (fun k _ h => by simp [Value.ownBlock] at h))
  have HK := Lib.hid hk
  have HN := Lib.hid hnews
  obtain ⟨i0, hi, hz0, hz1, hz2⟩ := info_parts infoI
  clear hnews
  go_region_law (refine step_append_lies _ (by rfl) _ _ _ (by rfl) w.heap.size 3 i0 _ 1 8 Tryz.underlying75 hi hz0 hz1 hz2 rfl (by decide) (.slice none 0 0) 0 [] (by rfl) (ownNil _ _ _) ⟨nb, 0, none⟩ 1 fc [.int .i64 0] (by rfl) rfl HN.out (by simp [Value.oneCell']) (by omega) (by unfold maxLen; omega) (by omega) (Nat.le_refl _) _ rfl ?_; intro gg cap w2 hown2 hgr2 hat2 hlt2; have e4 := (HK.out w2 hgr2).cell0 hf; have e5 := ((HK.out w2 hgr2).frozen (p := ⟨fb, 0, none⟩) hlf (fun h => h)).trans hz; have e6 := cell_lt e4; have e7 := (HK.out w2 hgr2).cell0 d1; have e8 := cell_lt e7)
  all_goals
    have hge := (World.ownsRow.lt hown2 gg rfl).1
    have hcg : w2.cell? ⟨gg, 0, none⟩ = some (.int .i64 0) := by
      have h := hown2.cells (g := gg) rfl 0 (.int .i64 0) rfl
      rwa [add_lit] at h
    have hfb : (w2.setCell ⟨fb, 0, none⟩ (.slice (some ⟨gg, 0, none⟩) 1 cap)).cell? ⟨fb, 0, none⟩ = some (.slice (some ⟨gg, 0, none⟩) 1 cap) := World.cell?_setCell_same _ _ _ e4
    have hgb : (w2.setCell ⟨fb, 0, none⟩ (.slice (some ⟨gg, 0, none⟩) 1 cap)).cell? ⟨gg, 0, none⟩ = some (.int .i64 0) := (World.cell?_setCell_other _ _ _ _ (fun e => by have : fb = gg := congrArg Addr.block e; omega)).trans hcg
    have hfr : Fr (One fb) w (w2.setCell ⟨fb, 0, none⟩ (.slice (some ⟨gg, 0, none⟩) 1 cap)) := ((HK.out w2 hgr2).any (M := One fb)).setCell (p := ⟨fb, 0, none⟩) (.inl (show One fb fb from rfl)) _
    have H1 := Lib.hid hfb
    have H2 := Lib.hid hgb
    have H3 := Lib.hid hfr
    clear hown2 hgr2 hat2 hcg hfb hgb hfr e4 e5 e7 d1 hf hz hn
    go_wp2_with fail
    rw [rounds_succ]
    go_wp2_with fail
    refine bodyPost_end (v := .tuple #[]) (by simp [results, go_sem]) rfl ⟨rfl, ⟨gg, cap, hge, H1.out, H2.out⟩, H3.out⟩
end Go.Proofs.YtldcffonfidbcaaGreatDoor

/- Chapter 6: 'build' and 'made' of 'x*' and 'x+'. -/
namespace Go.Proofs.YtldcffonfidbcaaGreatDoor
open Go.RowKit
/-- 'x*' (star) or 'x+'. -/
def repT (star : Bool) (nm : ByteArray) : Tree := .node (if star then 4 else 5) ⟨#[]⟩ [.node 1 nm []]
theorem repT_open {M : Nat → Prop} {w : World} {star : Bool} {nm : ByteArray} {cs : List Value} (h : ERep M w (repT star nm) cs) :
    ∃ ad c CA cc, cs = [.int .i64 (if star then 4 else 5), .string ⟨#[]⟩, .slice (some ad) 1 c] ∧ ¬ M ad.block ∧ w.cell? ad = some (.int .i64 1) ∧ w.cell? ⟨ad.block, ad.off + 1, none⟩ = some (.string nm) ∧ w.cell? ⟨ad.block, ad.off + 2, none⟩ = some (.slice CA 0 cc) := by
  unfold repT at h
  simp only [ERep, EReps] at h
  obtain ⟨A, c, css, rfl, hl, hr, c0, c1, c2, rest, rfl, ⟨CA, cc, css2, he, _, _, _⟩, rfl⟩ := h
  simp only [List.cons.injEq, and_true] at he
  obtain ⟨rfl, rfl, rfl⟩ := he
  obtain ⟨ad, rfl, hn, hc⟩ := hr (by simp)
  have h0 := hc 0 _ rfl
  have h1 := hc 1 _ rfl
  have h2 := hc 2 _ rfl
  have e0 : ad.add 0 = ad := rfl
  have e1 : ad.add 1 = ⟨ad.block, ad.off + 1, none⟩ := rfl
  have e2 : ad.add 2 = ⟨ad.block, ad.off + 2, none⟩ := rfl
  rw [e0] at h0
  rw [e1] at h1
  rw [e2] at h2
  exact ⟨ad, c, CA, cc, rfl, hn, h0, h1, h2⟩
set_option maxRecDepth 100000 in
set_option maxHeartbeats 1000000 in
theorem buildrep_any (g : List Grp) (hgl : g.length ≤ 1000000) (star : Bool) (nm : ByteArray) (m : Nat) (cs : List Value) (v : Value) (w : World) (hx : ERep (One m) w (repT star nm) cs) (hg : Grps (Mb m w.heap.size) w v g) (hT : (typesF g nm).length ≤ 1000000)
    (hm : Blk w m [.slice none 0 0, .slice none 0 0, .bool false, .slice none 0 0, .slice none 0 0] 176) :
    Calls Tryz.prog 90 #[.pointer (some ⟨m, 0, none⟩), .agg cs.toArray, v] w fun e w' => (∃ (TA : Option Addr) (tc tb fb nb c1 c2 ff cf : Nat),
      e = .returned (.agg #[.bool star, .slice (some ⟨nb, 0, none⟩) 1 1, .slice (some ⟨nb, 0, none⟩) 1 1]) ∧
      Blk w' m [.slice (some ⟨tb, 0, none⟩) 1 c1, .slice (some ⟨fb, 0, none⟩) 1 c2, .bool false, .slice none 0 0, .slice none 0 0] 176 ∧
      tb ≠ m ∧ fb ≠ m ∧ ff ≠ m ∧ nb ≠ m ∧ w'.cell? ⟨tb, 0, none⟩ = some (.slice TA (typesF g nm).length tc) ∧ Rd (One m) w' TA (intC (typesF g nm)) ∧ w'.cell? ⟨fb, 0, none⟩ = some (.slice (some ⟨ff, 0, none⟩) 1 cf) ∧ w'.cell? ⟨ff, 0, none⟩ = some (.int .i64 0) ∧ w'.cell? ⟨nb, 0, none⟩ = some (.int .i64 0)) ∧ Fr (One m) w w' := by
  obtain ⟨ad, lc, CA, cc, rfl, hna, x0, x1, x2⟩ := repT_open hx
  obtain ⟨T, hTT⟩ : ∃ T, typesF g nm = T := ⟨_, rfl⟩
  have hbn := fun W h0 h1 h2 => buildname_any g hgl nm m CA cc v w.heap.size W h0 h1 hT h2
  rw [hTT] at hbn hT ⊢
  obtain ⟨k, hk⟩ : ∃ k : Int, (if star then 4 else 5) = k := ⟨_, rfl⟩
  have k0 : (k == 0) = false := by rw [← hk]; cases star <;> rfl
  have k1 : (k == 1) = false := by rw [← hk]; cases star <;> rfl
  have k2 : (k == 2) = false := by rw [← hk]; cases star <;> rfl
  have k3 : (k == 3) = false := by rw [← hk]; cases star <;> rfl
  have k6 : (k != 6) = true := by rw [← hk]; cases star <;> rfl
  have k5 : (k != 5) = star := by rw [← hk]; cases star <;> rfl
  rw [hk]
  clear hk
  obtain ⟨w0, hw0⟩ : ∃ w0, (w.alloc (.cells #[.int .i64 k, .string ⟨#[]⟩, .slice (some ad) 1 lc] 82)).alloc (.cells #[.bool false, .slice none 0 0, .slice none 0 0] 174) = w0 := ⟨_, rfl⟩
  have hf0 : Fr Nob w w0 := hw0 ▸ ((Fr.refl _ _).alloc _).alloc _
  have hbx : Blk w0 w.heap.size [.int .i64 k, .string ⟨#[]⟩, .slice (some ad) 1 lc] 82 := hw0 ▸ (Blk.new _ _ _).alloc _
  have hbp : Blk w0 (w.heap.size + 1) [.bool false, .slice none 0 0, .slice none 0 0] 174 := hw0 ▸ Blk.new_at _ _ _ _ (by simp)
  have hsz : w0.heap.size = w.heap.size + 1 + 1 := by rw [← hw0]; simp
  have y0 := hf0.cell0 x0
  have y1 := hf0.cell0 x1
  have y2 := hf0.cell0 x2
  have HW0 := Lib.hid hw0
  have HF0 := Lib.hid hf0
  have HBX := Lib.hid hbx
  have HBP := Lib.hid hbp
  have HM0 := Lib.hid (hm.fr hf0 (fun h => h))
  have HG := Lib.hid hg
  have HBN := Lib.hid hbn
  have hlm := hm.lt
  have d0 := hbx.cell 0
  have d2 := hbx.cell 2
  have hlx := hbx.lt
  simp only [List.getElem?_cons_zero, List.getElem?_cons_succ] at d0 d2
  clear hw0 hf0 hbx hbp hm hg hbn hTT hx x0 x1 x2
  go_enter Tryz.func90, Tryz.ntmps90
  go_upto_region 33 with (fail)
  rw [HW0.out]
  go_wp2_with fail
  refine (HBN.out w0 HF0.out.size (HG.out.fr0 HF0.out) HM0.out).mono ?_
  rintro e w1 ⟨⟨TA, tc, tb, fb, nb, c1, c2, rfl, hM1, b1, b2, b3, b4, b5, q1, hR1, ⟨q2, q2'⟩, q3⟩, hF1⟩
  have HM1 := Lib.hid hM1
  have HF1 := Lib.hid hF1
  have HR1 := Lib.hid hR1
  have HQ := Lib.hid (And.intro q1 (And.intro q2 (And.intro q2' q3)))
  have HBB := Lib.hid (And.intro b1 (And.intro b2 (And.intro b3 (And.intro b4 b5))))
  have hm1 := hM1.lt
  have hlq := cell_lt q3
  have hnm : ∀ j, j ≠ m → ¬ One m j := fun j hj h => hj h
  have hbx1 := HBX.out.fr hF1 (hnm _ (by omega))
  have hbp1 := HBP.out.fr hF1 (hnm _ (by omega))
  have HBX1 := Lib.hid hbx1
  have HBP1 := Lib.hid hbp1
  clear hM1 hF1 hR1 q1 q2 q2' q3 b1 b2 b3 b4 b5 hbx1 hbp1 y0 y1 y2 d0 d2 hlx
  have d0 := HBX1.out.cell 0
  have hlx := HBX1.out.lt
  have hlp := HBP1.out.lt
  simp only [List.getElem?_cons_zero] at d0
  go_upto_region 35 with (fail)
  obtain ⟨w2, hw2⟩ : ∃ w2, w1.alloc (.cells #[.bool false, .slice (some ⟨nb, 0, none⟩) 1 1, .slice (some ⟨nb, 0, none⟩) 1 1] 174) = w2 := ⟨_, rfl⟩
  obtain ⟨Q, hQ⟩ : ∃ Q, w1.heap.size = Q := ⟨_, rfl⟩
  rw [hw2, hQ]
  have hf2 : Fr Nob w1 w2 := hw2 ▸ (Fr.refl _ _).alloc _
  have hbq : Blk w2 Q [.bool false, .slice (some ⟨nb, 0, none⟩) 1 1, .slice (some ⟨nb, 0, none⟩) 1 1] 174 := hw2 ▸ Blk.new_at _ _ _ _ hQ.symm
  have hlQ := hbq.lt
  have z1 := hbq.cell 1
  have z2 := hbq.cell 2
  have HF2 := Lib.hid hf2
  have HBQ := Lib.hid hbq
  simp only [List.getElem?_cons_zero, List.getElem?_cons_succ] at z1 z2
  clear hw2 hf2 hbq d0 hlx hlp
  go_wp2_with fail
  refine (join_any m fb nb c1 c2 tb 1 1 (.bool false) w2 (HM1.out.fr HF2.out (fun h => h)) (HF2.out.cell0 HQ.out.2.1) ((HF2.out.frozen (p := ⟨fb, 0, none⟩) (cell_lt HQ.out.2.1) (fun h => h)).trans HQ.out.2.2.1) (HF2.out.cell0 HQ.out.2.2.2)).mono ?_
  rintro e w3 ⟨rfl, ⟨ff, cf, hff, j1, j2⟩, hF3⟩
  have hbb := HBB.out
  have hlfb : fb < w1.heap.size := cell_lt HQ.out.2.1
  have hltb : tb < w1.heap.size := cell_lt HQ.out.1
  have hlnb : nb < w1.heap.size := cell_lt HQ.out.2.2.2
  have hs2 := HF2.out.size
  have hs0 := HF1.out.size
  have HF3 := Lib.hid hF3
  have HJ := Lib.hid (And.intro j1 j2)
  have hnf : ∀ j, j ≠ fb → ¬ One fb j := fun j hj h => hj h
  have hbq3 := HBQ.out.fr hF3 (hnf _ (by omega))
  have hbx3 := (HBX1.out.fr HF2.out (fun h => h)).fr hF3 (hnf _ (by omega))
  have hbp3 := (HBP1.out.fr HF2.out (fun h => h)).fr hF3 (hnf _ (by omega))
  have z0 := hbq3.cell 0
  have z1 := hbq3.cell 1
  have z2 := hbq3.cell 2
  have y0 := hbq3.frozen 0
  have p0 := hbp3.cell 0
  have p1 := hbp3.cell 1
  have p2 := hbp3.cell 2
  have o0 := hbp3.frozen 0
  have o1 := hbp3.frozen 1
  have o2 := hbp3.frozen 2
  have d0 := hbx3.cell 0
  have hl1 := hbq3.lt
  have hl2 := hbp3.lt
  have hl3 := hbx3.lt
  have hnq1 : ¬ Q = w.heap.size + 1 := by omega
  have hnq2 : ¬ w.heap.size + 1 = Q := by omega
  have HBQ3 := Lib.hid hbq3
  have HBP3 := Lib.hid hbp3
  simp only [List.getElem?_cons_zero, List.getElem?_cons_succ] at z0 z1 z2 p0 p1 p2 d0
  have hff2 := hff
  clear j1 j2 hF3 hbq3 hbx3 hbp3 hbb
  go_wp2_with fail
  have hfQ : Fr (One Q) w3 (w3.setCell ⟨Q, 0, none⟩ (.bool star)) := (Fr.refl (One Q) w3).setCell (p := ⟨Q, 0, none⟩) (.inl (show One Q Q from rfl)) _
  have hf9 : Fr (fun j => j = Q ∨ j = w.heap.size + 1) w3 ((((w3.setCell ⟨Q, 0, none⟩ (.bool star)).setCell ⟨w.heap.size + 1, 0, none⟩ (.bool star)).setCell ⟨w.heap.size + 1, 1, none⟩ (.slice (some ⟨nb, 0, none⟩) 1 1)).setCell ⟨w.heap.size + 1, 2, none⟩ (.slice (some ⟨nb, 0, none⟩) 1 1)) := (hfQ.mono (M' := fun j => j = Q ∨ j = w.heap.size + 1) (fun _ _ h => .inl h)).trans (fr_store3 _ (w.heap.size + 1) _ _ _) (fun _ _ h => .inr h)
  have hbp9 : Blk ((((w3.setCell ⟨Q, 0, none⟩ (.bool star)).setCell ⟨w.heap.size + 1, 0, none⟩ (.bool star)).setCell ⟨w.heap.size + 1, 1, none⟩ (.slice (some ⟨nb, 0, none⟩) 1 1)).setCell ⟨w.heap.size + 1, 2, none⟩ (.slice (some ⟨nb, 0, none⟩) 1 1)) (w.heap.size + 1) [.bool star, .slice (some ⟨nb, 0, none⟩) 1 1, .slice (some ⟨nb, 0, none⟩) 1 1] 174 := (((HBP3.out.far (p := ⟨Q, 0, none⟩) hnq2 _).set 0 _).set 1 _).set 2 _
  clear z0 z1 z2 y0 p0 p1 p2 o0 o1 o2 d0
  generalize (((w3.setCell ⟨Q, 0, none⟩ (.bool star)).setCell ⟨w.heap.size + 1, 0, none⟩ (.bool star)).setCell ⟨w.heap.size + 1, 1, none⟩ (.slice (some ⟨nb, 0, none⟩) 1 1)).setCell ⟨w.heap.size + 1, 2, none⟩ (.slice (some ⟨nb, 0, none⟩) 1 1) = W9 at hf9 hbp9 ⊢
  have p0 := hbp9.cell 0
  have p1 := hbp9.cell 1
  have p2 := hbp9.cell 2
  simp only [List.getElem?_cons_zero, List.getElem?_cons_succ] at p0 p1 p2
  have hbb := HBB.out
  have hn9 : ∀ j, j ≠ Q → j ≠ w.heap.size + 1 → ¬ (j = Q ∨ j = w.heap.size + 1) := fun j h1 h2 h => h.elim h1 h2
  have hm2 := HM1.out.fr HF2.out (fun h => h)
  have hmlt := hm1
  refine bodyPost_ret (v := .agg #[.bool star, .slice (some ⟨nb, 0, none⟩) 1 1, .slice (some ⟨nb, 0, none⟩) 1 1]) (by simp [results, go_sem, p0, p1, p2]) rfl
    ⟨⟨TA, tc, tb, fb, nb, c1, c2, ff, cf, rfl, (hm2.fr HF3.out (hnf _ (by omega))).fr hf9 (hn9 _ (by omega) (by omega)), by omega, by omega, by omega, ?_, ?_, ?_, ?_, ?_, ?_⟩, ?_⟩
  · omega
  · exact hf9.cellM (HF3.out.cellM (HF2.out.cell0 HQ.out.1) (hnf _ (by show tb ≠ fb; omega))) (hn9 _ (by show tb ≠ Q; omega) (by show tb ≠ _; omega))
  · exact (((HR1.out.fr HF2.out (fun _ _ h => h.elim)).fr HF3.out (fun j _ h => .inr (by have : j = fb := h; omega))).fr hf9 (fun j _ h => .inr (by rcases h with h | h <;> omega))).mono (fun _ h => .inl h)
  · exact hf9.cellM HJ.out.1 (hn9 _ (by show fb ≠ Q; omega) (by show fb ≠ _; omega))
  · exact hf9.cellM HJ.out.2 (hn9 _ (by show ff ≠ Q; omega) (by show ff ≠ _; omega))
  · exact hf9.cellM (HF3.out.cellM (HF2.out.cell0 HQ.out.2.2.2) (hnf _ (by show nb ≠ fb; omega))) (hn9 _ (by show nb ≠ Q; omega) (by show nb ≠ _; omega))
  · have h1 := (HF0.out.any (M := One m)).same HF1.out
    have h2 := (h1.none HF2.out).trans (M := One m) HF3.out (fun j hj h => by have : j = fb := h; omega)
    exact h2.trans hf9 (fun j hj h => by rcases h with h | h <;> omega)
end Go.Proofs.YtldcffonfidbcaaGreatDoor

/- Chapter 6: 'made', 'Accepts' and 'Begins', of 'x*' and 'x+'. -/
namespace Go.Proofs.YtldcffonfidbcaaGreatDoor
open Go.RowKit
theorem typesF_len {g : List Grp} (h : ∀ x ∈ g, x.types.length ≤ 16) (s : ByteArray) : (typesF g s).length ≤ 16 := by
  induction g with
  | nil => simp [typesF]
  | cons x g ih =>
    rw [typesF]
    split
    · exact h x (List.mem_cons_self ..)
    · exact ih (fun y hy => h y (List.mem_cons_of_mem _ hy))
theorem GReps.bound {M : Nat → Prop} {w : World} : ∀ (l : List Grp) (cs : List Value), GReps M w l cs → GReps (fun k => M k ∨ w.heap.size ≤ k) w l cs
  | [], cs => by simp only [GReps]; exact id
  | x :: xs, cs => by
    simp only [GReps]
    rintro ⟨A, c, rest, rfl, hl, hr, hs⟩
    exact ⟨A, c, rest, rfl, hl, hr.bound, GReps.bound xs rest hs⟩
theorem Grps.bound {M : Nat → Prop} {w : World} {v : Value} {l : List Grp} (h : Grps M w v l) : Grps (fun k => M k ∨ w.heap.size ≤ k) w v l := by
  obtain ⟨A, c, css, rfl, hc, hr, hg⟩ := h
  exact ⟨A, c, css, rfl, hc, hr.bound, GReps.bound _ _ hg⟩
theorem count_rep (star : Bool) (nm : ByteArray) : (repT star nm).count ≤ 4611686018427387904 := by
  rw [count_eq]; simp [repT, Tree.l, countL, Tree.count]
/-- An expression of a name, of few. -/
structure RepOk (g : List Grp) (star : Bool) (nm : ByteArray) : Prop where
  grps : GOk g
  name : nm.size ≤ 1000000
  check : checkR g (repT star nm) = 0
theorem fr_store3at (w : World) (B o : Nat) (a b c : Value) : Fr (One B) w (((w.setCell ⟨B, o, none⟩ a).setCell ⟨B, o + 1, none⟩ b).setCell ⟨B, o + 2, none⟩ c) :=
  (((Fr.refl (One B) w).setCell (p := ⟨B, o, none⟩) (.inl rfl) a).setCell (p := ⟨B, o + 1, none⟩) (.inl rfl) b).setCell (p := ⟨B, o + 2, none⟩) (.inl rfl) c
set_option maxRecDepth 100000 in
set_option maxHeartbeats 1000000 in
theorem made_any (g : List Grp) (star : Bool) (nm : ByteArray) (hok : RepOk g star nm) (cs : List Value) (v : Value) (w : World) (hx : ERep Nob w (repT star nm) cs) (hg : Grps Nob w v g) :
    Calls Tryz.prog 58 #[.agg cs.toArray, v] w fun e w' => (∃ m, e = .returned (.pointer (some ⟨m, 0, none⟩)) ∧ MachAt w' m (typesF g nm) star) ∧ Fr Nob w w' := by
  obtain ⟨ad, lc, CA, cc, rfl, hna, x0, x1, x2⟩ := repT_open hx
  have hT16 := typesF_len (fun x hx => (hok.grps.types x hx).1) nm
  have hbr := fun m W h1 h2 h3 => buildrep_any g (by have := hok.grps.few; omega) star nm m [.int .i64 (if star then 4 else 5), .string ⟨#[]⟩, .slice (some ad) 1 lc] v W h1 h2 (by omega) h3
  have hck := fun W h1 h2 => checkR_any g hok.grps (repT star nm) [.int .i64 (if star then 4 else 5), .string ⟨#[]⟩, .slice (some ad) 1 lc] v W h1 h2 (count_rep star nm) (by have := hok.name; have h0 : (⟨#[]⟩ : ByteArray).size = 0 := rfl; rw [bytes_eq]; simp [repT, Tree.l, Tree.name, bytesL, Tree.bytes]; omega)
  rw [hok.check] at hck
  obtain ⟨T, hTT⟩ : ∃ T, typesF g nm = T := ⟨_, rfl⟩
  obtain ⟨k, hk⟩ : ∃ k : Int, (if star then 4 else 5) = k := ⟨_, rfl⟩
  rw [hk] at hbr hck hx ⊢
  rw [hTT] at hbr ⊢
  have HX := Lib.hid hx
  have HG := Lib.hid hg
  have HBR := Lib.hid hbr
  have HCK := Lib.hid hck
  have hf1 : Fr Nob w (w.alloc (.cells #[.int .i64 k, .string ⟨#[]⟩, .slice (some ad) 1 lc] 82)) := (Fr.refl _ _).alloc _
  have hb1 := Blk.new w [.int .i64 k, .string ⟨#[]⟩, .slice (some ad) 1 lc] 82
  have HF1 := Lib.hid hf1
  have HB1 := Lib.hid hb1
  clear hk hx hg hbr hck x0 x1 x2 hT16 hok hTT hf1 hb1
  go_enter Tryz.func58, Tryz.ntmps58
  go_wp2_with fail
  generalize (w.alloc (.cells #[.int .i64 k, .string ⟨#[]⟩, .slice (some ad) 1 lc] 82)) = w1 at HF1 HB1 ⊢
  refine (HCK.out w1 (HX.out.fr0 HF1.out) (HG.out.fr0 HF1.out)).mono ?_
  rintro e w2 ⟨rfl, hF2⟩
  have HF2 := Lib.hid (HF1.out.same hF2)
  have HB2 := Lib.hid (HB1.out.fr hF2 (fun h => h))
  have d0 := HB2.out.cell 0
  have d1 := HB2.out.cell 1
  have d2 := HB2.out.cell 2
  have hl2 := HB2.out.lt
  simp only [List.getElem?_cons_zero, List.getElem?_cons_succ] at d0 d1 d2
  clear hF2
  go_wp2_with fail
  have hm3 := Blk.new w2 [.slice none 0 0, .slice none 0 0, .bool false, .slice none 0 0, .slice none 0 0] 176
  have hf3 : Fr Nob w2 (w2.alloc (.cells #[.slice none 0 0, .slice none 0 0, .bool false, .slice none 0 0, .slice none 0 0] 176)) := (Fr.refl _ _).alloc _
  generalize hW3 : w2.alloc (.cells #[.slice none 0 0, .slice none 0 0, .bool false, .slice none 0 0, .slice none 0 0] 176) = w3 at hm3 hf3 ⊢
  generalize hM : w2.heap.size = m at hm3 ⊢
  refine (HBR.out m w3 (ERep.mono (fun j h => .inr (by have : j = m := h; omega)) _ _ (ERep.fr hf3 (fun _ _ h => h.elim) _ _ (ERep.bound _ _ (HX.out.fr0 HF2.out)))) (((HG.out.fr0 HF2.out).bound.fr0 hf3).mono (fun j h => .inr (by rcases h with h | h; omega; have := hf3.size; omega))) hm3).mono ?_
  rintro e w4 ⟨⟨TA, tc, tb, fb, nb, c1, c2, ff, cf, rfl, hM4, n1, n2, n3, n4, q1, hR4, q2, q3, q4⟩, hF4⟩
  have y2 := hM4.cell 2
  have y3 := hM4.cell 3
  have y4 := hM4.cell 4
  have o2 := hM4.frozen 2
  have o3 := hM4.frozen 3
  have o4 := hM4.frozen 4
  have hl4 := hM4.lt
  have HM4 := Lib.hid hM4
  have HQ := Lib.hid (And.intro q1 (And.intro q2 (And.intro q3 q4)))
  have HNE := Lib.hid (And.intro n1 (And.intro n2 (And.intro n3 n4)))
  have HR4 := Lib.hid hR4
  have HF4 := Lib.hid ((HF2.out.same hf3).trans (M := Nob) hF4 (fun j hj h => by have h1 : j = m := h; have h2 := HF2.out.size; omega))
  simp only [List.getElem?_cons_zero, List.getElem?_cons_succ] at y2 y3 y4
  clear hM4 q1 q2 q3 q4 n1 n2 n3 n4 hR4 hF4 hm3 hf3 hW3 d0 d1 d2
  go_wp2_with fail
  have hm9 : Blk (((w4.setCell ⟨m, 2, none⟩ (.bool star)).setCell ⟨m, 3, none⟩ (.slice (some ⟨nb, 0, none⟩) 1 1)).setCell ⟨m, 4, none⟩ (.slice (some ⟨nb, 0, none⟩) 1 1)) m [.slice (some ⟨tb, 0, none⟩) 1 c1, .slice (some ⟨fb, 0, none⟩) 1 c2, .bool star, .slice (some ⟨nb, 0, none⟩) 1 1, .slice (some ⟨nb, 0, none⟩) 1 1] 176 := ((HM4.out.set 2 _).set 3 _).set 4 _
  have hf9 := fr_store3at w4 m 2 (.bool star) (.slice (some ⟨nb, 0, none⟩) 1 1) (.slice (some ⟨nb, 0, none⟩) 1 1)
  have hnm : ∀ j, j ≠ m → ¬ One m j := fun j hj h => hj h
  have hb := HNE.out
  have hq := HQ.out
  have h2 := HF2.out.size
  go_ret
  refine ⟨⟨m, rfl, ⟨TA, tc, tb, fb, nb, c1, c2, 1, 1, cf, ff, hm9, hf9.cellM hq.1 (hnm _ hb.1), (HR4.out.fr hf9 (fun _ _ h => h)).mono (fun _ h => h.elim), hf9.cellM hq.2.1 (hnm _ hb.2.1), hf9.cellM hq.2.2.1 (hnm _ hb.2.2.1), hf9.cellM hq.2.2.2 (hnm _ hb.2.2.2)⟩⟩, HF4.out.trans (M := Nob) hf9 (fun j hj h => by have : j = m := h; omega)⟩
/-- Is a word one of these types alone; may it be nothing. -/
def accB (T : List Int) (star : Bool) (l : List Int) : Bool := decide (prefN T l = l.length) && (if l.length = 0 then star else true)
set_option maxRecDepth 100000 in
theorem accepts_any (g : List Grp) (star : Bool) (nm : ByteArray) (hok : RepOk g star nm) (cs : List Value) (v : Value) (l : List Int) (A : Option Addr) (c : Nat) (w : World) (hx : ERep Nob w (repT star nm) cs) (hg : Grps Nob w v g) (hR : Rd Nob w A (intC l)) (hl : l.length ≤ 4611686018427387904) :
    Calls Tryz.prog 37 #[.agg cs.toArray, v, .slice A l.length c] w fun e w' => e = .returned (.bool (accB (typesF g nm) star l)) ∧ Fr Nob w w' := by
  obtain ⟨ad, lc, CA, cc, rfl, hna, x0, x1, x2⟩ := repT_open hx
  have hmd := fun W h1 h2 => made_any g star nm hok [.int .i64 (if star then 4 else 5), .string ⟨#[]⟩, .slice (some ad) 1 lc] v W h1 h2
  have hT16 := typesF_len (fun x hx => (hok.grps.types x hx).1) nm
  obtain ⟨T, hTT⟩ : ∃ T, typesF g nm = T := ⟨_, rfl⟩
  obtain ⟨k, hk⟩ : ∃ k : Int, (if star then 4 else 5) = k := ⟨_, rfl⟩
  rw [hk] at hmd hx ⊢
  rw [hTT] at hmd hT16 ⊢
  obtain ⟨r, hr⟩ : ∃ r, accB T star l = r := ⟨_, rfl⟩
  rw [hr]
  unfold accB at hr
  have HX := Lib.hid hx
  have HG := Lib.hid hg
  have HMD := Lib.hid hmd
  have HR := Lib.hid hR
  have HRR := Lib.hid hr
  have hf1 : Fr Nob w (w.alloc (.cells #[.int .i64 k, .string ⟨#[]⟩, .slice (some ad) 1 lc] 82)) := (Fr.refl _ _).alloc _
  have HF1 := Lib.hid hf1
  clear hk hx hg hmd x0 x1 x2 hok hTT hf1 hR hr
  go_enter Tryz.func37, Tryz.ntmps37
  go_wp2_with fail
  generalize (w.alloc (.cells #[.int .i64 k, .string ⟨#[]⟩, .slice (some ad) 1 lc] 82)) = w1 at HF1 ⊢
  refine (HMD.out w1 (HX.out.fr0 HF1.out) (HG.out.fr0 HF1.out)).mono ?_
  rintro e w2 ⟨⟨m, rfl, hM⟩, hF2⟩
  have HF2 := Lib.hid (HF1.out.same hF2)
  have HM := Lib.hid hM
  clear hF2 hM
  go_wp2_with fail
  refine (run_any m T star (by omega) l A c w2 HM.out (HR.out.fr HF2.out (fun _ _ h => h)) hl).mono ?_
  rintro e w3 ⟨⟨b, rfl, hb⟩, hF3⟩
  have HF3 := Lib.hid (HF2.out.same hF3)
  have HM3 := Lib.hid (HM.out.fr hF3)
  have HB := Lib.hid hb
  clear hF3 hb
  by_cases he : prefN T l = l.length
  · rw [he] at HB ⊢
    have HRR2 := Lib.hid (show (if l.length = 0 then star else true) = r by rw [← HRR.out, decide_eq_true he]; rfl)
    clear HRR he
    have hee : ((l.length : Int) == (l.length : Int)) = true := by simp
    go_wp2_with fail
    refine (ends_any m T star b l.length w3 HM3.out HB.out).mono ?_
    rintro e w4 ⟨he4, hF4⟩
    rw [HRR2.out] at he4
    subst he4
    have HF4 := Lib.hid (HF3.out.same hF4)
    clear hF4
    go_wp2_with fail
    go_ret
    exact ⟨rfl, HF4.out⟩
  · have HRR2 := Lib.hid (show false = r by rw [← HRR.out, decide_eq_false he]; rfl)
    have hee : ((prefN T l : Int) == (l.length : Int)) = false := by rw [beq_eq_false_iff_ne]; omega
    clear HRR he
    generalize prefN T l = q at hee ⊢
    go_wp2_with fail
    go_ret
    exact ⟨by rw [← HRR2.out]; rfl, HF3.out⟩
set_option maxRecDepth 100000 in
theorem begins_any (g : List Grp) (star : Bool) (nm : ByteArray) (hok : RepOk g star nm) (cs : List Value) (v : Value) (l : List Int) (A : Option Addr) (c : Nat) (w : World) (hx : ERep Nob w (repT star nm) cs) (hg : Grps Nob w v g) (hR : Rd Nob w A (intC l)) (hl : l.length ≤ 4611686018427387904) :
    Calls Tryz.prog 36 #[.agg cs.toArray, v, .slice A l.length c] w fun e w' => e = .returned (.int .i64 (prefN (typesF g nm) l)) ∧ Fr Nob w w' := by
  obtain ⟨ad, lc, CA, cc, rfl, hna, x0, x1, x2⟩ := repT_open hx
  have hmd := fun W h1 h2 => made_any g star nm hok [.int .i64 (if star then 4 else 5), .string ⟨#[]⟩, .slice (some ad) 1 lc] v W h1 h2
  have hT16 := typesF_len (fun x hx => (hok.grps.types x hx).1) nm
  obtain ⟨T, hTT⟩ : ∃ T, typesF g nm = T := ⟨_, rfl⟩
  obtain ⟨k, hk⟩ : ∃ k : Int, (if star then 4 else 5) = k := ⟨_, rfl⟩
  rw [hk] at hmd hx ⊢
  rw [hTT] at hmd hT16 ⊢
  have HX := Lib.hid hx
  have HG := Lib.hid hg
  have HMD := Lib.hid hmd
  have HR := Lib.hid hR
  have hf1 : Fr Nob w (w.alloc (.cells #[.int .i64 k, .string ⟨#[]⟩, .slice (some ad) 1 lc] 82)) := (Fr.refl _ _).alloc _
  have HF1 := Lib.hid hf1
  clear hk hx hg hmd x0 x1 x2 hok hTT hf1 hR
  go_enter Tryz.func36, Tryz.ntmps36
  go_wp2_with fail
  generalize (w.alloc (.cells #[.int .i64 k, .string ⟨#[]⟩, .slice (some ad) 1 lc] 82)) = w1 at HF1 ⊢
  refine (HMD.out w1 (HX.out.fr0 HF1.out) (HG.out.fr0 HF1.out)).mono ?_
  rintro e w2 ⟨⟨m, rfl, hM⟩, hF2⟩
  have HF2 := Lib.hid (HF1.out.same hF2)
  have HM := Lib.hid hM
  clear hF2 hM
  go_wp2_with fail
  refine (run_any m T star (by omega) l A c w2 HM.out (HR.out.fr HF2.out (fun _ _ h => h)) hl).mono ?_
  rintro e w3 ⟨⟨b, rfl, hb⟩, hF3⟩
  have HF3 := Lib.hid (HF2.out.same hF3)
  clear hF3 hb
  go_wp2_with fail
  go_ret
  exact ⟨rfl, HF3.out⟩
end Go.Proofs.YtldcffonfidbcaaGreatDoor
