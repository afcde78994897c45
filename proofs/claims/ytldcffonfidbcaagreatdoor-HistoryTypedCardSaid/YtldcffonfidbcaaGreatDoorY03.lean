/- A part of the proof for chapter 10: ExprRight, ExprCheck; no conditions. -/
import Derived.Test.YtldcffonfidbcaaGreatDoorY01
import Derived.Test.YtldcffonfidbcaaGreatDoorY02
/- 'right' and 'Check': whether a tree may be. -/
namespace Go.Proofs.YtldcffonfidbcaaGreatDoor
open Go.RowKit
mutual
/-- The letters of all names. -/
def Tree.bytes : Tree → Nat | .node _ n l => bytesL l + n.size
def bytesL : List Tree → Nat | [] => 0 | x :: xs => x.bytes + bytesL xs
end
theorem bytes_eq (x : Tree) : x.bytes = bytesL x.l + x.name.size := by cases x; simp [Tree.bytes, Tree.l, Tree.name]
theorem bytesL_ge (l : List Tree) (i : Nat) (hi : i < l.length) : l[i].bytes ≤ bytesL l := by
  induction l generalizing i with
  | nil => simp at hi
  | cons y l ih => cases i with
    | zero => simp [bytesL]
    | succ i => simp only [List.getElem_cons_succ, bytesL]; have := ih i (by simpa using hi); omega
/-- What 'right' asks ahead of the parts. -/
def headB (inn k : Int) (n : ByteArray) (m : Nat) : Bool :=
  if k = 0 then decide (inn = 0)
  else if k = 1 then nameB n.data.toList && decide (m = 0)
  else if k = 2 ∨ k = 3 then decide (inn ≠ k)
  else decide (k = 4 ∨ k = 5 ∨ k = 6)
/-- What it asks behind them. -/
def tailB (k : Int) (n : ByteArray) (m : Nat) : Bool :=
  decide (n.size = 0) && (if k = 0 then decide (m = 0) else if k = 2 ∨ k = 3 then decide (2 ≤ m) else decide (m = 1))
mutual
def rightB (inn : Int) : Tree → Bool
  | .node k n l => headB inn k n l.length && (decide (k = 1) || rightBL k l && tailB k n l.length)
def rightBL (k : Int) : List Tree → Bool
  | [] => true
  | x :: xs => rightB k x && rightBL k xs
end
theorem rightB_eq (inn : Int) (x : Tree) : rightB inn x = (headB inn x.k x.name x.l.length && (decide (x.k = 1) || rightBL x.k x.l && tailB x.k x.name x.l.length)) := by cases x; rw [rightB]; rfl
theorem rightBL_snoc (k : Int) (l : List Tree) (x : Tree) : rightBL k (l ++ [x]) = (rightBL k l && rightB k x) := by
  induction l with
  | nil => simp [rightBL]
  | cons y l ih => simp only [List.cons_append, rightBL, ih, Bool.and_assoc]
theorem rightBL_take (k : Int) (l : List Tree) (i : Nat) (hi : i < l.length) : rightBL k (l.take (i + 1)) = (rightBL k (l.take i) && rightB k l[i]) := by
  rw [List.take_succ_eq_append_getElem hi, rightBL_snoc]
theorem rightBL_of_mem (k : Int) (l : List Tree) (i : Nat) (hi : i < l.length) (h : rightB k l[i] = false) : rightBL k l = false := by
  induction l generalizing i with
  | nil => simp at hi
  | cons y l ih => cases i with
    | zero => simp only [List.getElem_cons_zero] at h; simp [rightBL, h]
    | succ i => simp only [List.getElem_cons_succ] at h; simp [rightBL, ih i (by simpa using hi) h]

theorem size0 (n : ByteArray) : n.size = 0 ↔ n.toList = [] := by
  constructor
  · intro h
    rw [ByteArray.toList_eq]
    exact List.length_eq_zero_iff.1 (by simpa using h)
  · intro h
    rw [ByteArray.toList_eq] at h
    have := congrArg List.length h
    simpa using this
theorem name_empty (n : ByteArray) : n = ByteArray.empty ↔ n.toList = [] := by
  rw [← size0]
  constructor
  · rintro rfl; rfl
  · intro h; exact ByteArray.ext (Array.eq_empty_of_size_eq_zero h)
theorem int_len0 {α : Type} (l : List α) : (((l.length : Nat) : Int) == 0) = decide (l = []) := by
  cases l with
  | nil => rfl
  | cons x l => simp; omega
set_option maxRecDepth 100000 in
set_option maxHeartbeats 4000000 in
theorem right_step (x : Tree) (inn : Int) (cs : List Value) (w : World) (h : ERep Nob w x cs) (hn : x.count ≤ 4611686018427387904) (hb : x.bytes ≤ 4611686018427387904)
    (IH : ∀ (k : Nat) (hk : k < x.l.length) (inn : Int) (cs : List Value) (w : World), ERep Nob w x.l[k] cs → Calls Tryz.prog 126 #[.agg cs.toArray, .int .i64 inn] w fun e w' => e = .returned (.bool (rightB inn x.l[k])) ∧ Fr Nob w w') :
    Calls Tryz.prog 126 #[.agg cs.toArray, .int .i64 inn] w fun e w' => e = .returned (.bool (rightB inn x)) ∧ Fr Nob w w' := by
  obtain ⟨A, c, css, rfl, hc, hR, hE⟩ := h.open_
  have HR := Lib.hid hR
  have HE := Lib.hid hE
  have HIH := Lib.hid IH
  clear hR hE h IH
  have hlen := len_le_countL x.l
  have hcx := count_eq x
  have hbx := bytes_eq x
  obtain ⟨kk, hkk⟩ : ∃ kk, kk = x.k := ⟨_, rfl⟩
  have HEQ := Lib.hid (rightB_eq inn x)
  rw [← hkk]
  rw [← hkk] at HEQ
  have HK := Lib.hid hkk
  have HN := Lib.hid (And.intro hlen (And.intro hcx hbx))
  clear hkk hlen hcx hbx
  by_cases h1 : kk = 1
  · subst h1
    have hnb : x.name.size ≤ 4611686018427387904 := by have := HN.out; omega
    go_enter Tryz.func126, Tryz.ntmps126
    go_wp2_with fail
    refine (name_any _ hnb _).mono ?_
    rintro e w1 ⟨rfl, hF1⟩
    have HF1 := Lib.hid hF1
    clear hF1
    have hb1 := (Blk.new w [.int .i64 1, .string x.name, .slice A x.l.length c] 82).fr HF1.out (fun h => h)
    have q2 := hb1.cell 2
    simp only [List.getElem?_cons_zero, List.getElem?_cons_succ] at q2
    have hl := hb1.lt
    clear hb1
    cases hnm : nameB x.name.data.toList
    all_goals
      go_wp2_with fail
      go_ret
      refine ⟨?_, ((Fr.refl Nob w).alloc _).same HF1.out⟩
      rw [HEQ.out]
      simp [headB, hnm]
      try (rw [int_len0])
  by_cases h0 : kk = 0 ∧ inn ≠ 0
  · obtain ⟨rfl, hi⟩ := h0
    have hi' : (inn != 0) = true := by simpa using hi
    go_enter Tryz.func126, Tryz.ntmps126
    go_wp2_with fail
    go_ret
    refine ⟨?_, (Fr.refl Nob w).alloc _⟩
    rw [HEQ.out]
    simp [headB, hi]
  by_cases h2 : (kk = 2 ∨ kk = 3) ∧ inn = kk
  · obtain ⟨hkk, rfl⟩ := h2
    have HH := Lib.hid hkk
    have e0 : (inn == 0) = false := by simp; omega
    have e1 : (inn == 1) = false := by simp; omega
    have e2 : (inn == inn) = true := by simp
    clear h1 h0
    rcases hkk with rfl | rfl
    all_goals
      go_enter Tryz.func126, Tryz.ntmps126
      go_wp2_with fail
      go_ret
      refine ⟨?_, (Fr.refl Nob w).alloc _⟩
      rw [HEQ.out]
      simp [headB]
  by_cases h3 : kk < 0 ∨ 6 < kk
  · have e0 : (kk == 0) = false := by simp; omega
    have e1 : (kk == 1) = false := by simp; omega
    have e2 : (kk == 2) = false := by simp; omega
    have e3 : (kk == 3) = false := by simp; omega
    have e4 : (kk == 4) = false := by simp; omega
    have e5 : (kk == 5) = false := by simp; omega
    have e6 : (kk == 6) = false := by simp; omega
    have H3 := Lib.hid h3
    clear h0 h1 h2 h3
    go_enter Tryz.func126, Tryz.ntmps126
    go_wp2_with fail
    go_ret
    refine ⟨?_, (Fr.refl Nob w).alloc _⟩
    have := H3.out
    rw [HEQ.out]
    unfold headB
    rw [if_neg (by omega), if_neg (by omega), if_neg (by omega)]
    have : ¬ (kk = 4 ∨ kk = 5 ∨ kk = 6) := by omega
    simp [this]
  have hh : headB inn kk x.name x.l.length = true := by
    unfold headB
    by_cases a0 : kk = 0
    · rw [if_pos a0]; simp; omega
    · rw [if_neg a0, if_neg h1]
      by_cases a2 : kk = 2 ∨ kk = 3
      · rw [if_pos a2]; simp; omega
      · rw [if_neg a2]; simp; omega
  have HH := Lib.hid hh
  have hb1 := Blk.new w [.int .i64 kk, .string x.name, .slice A x.l.length c] 82
  have HB := Lib.hid hb1
  have HKK : kk = 0 ∧ inn = 0 ∨ kk = 2 ∧ (inn == 2) = false ∨ kk = 3 ∧ (inn == 3) = false ∨ kk = 4 ∨ kk = 5 ∨ kk = 6 := by
    simp
    omega
  clear hh hb1 h0 h1 h2 h3
  go_enter Tryz.func126, Tryz.ntmps126
  rcases HKK with ⟨rfl, rfl⟩ | ⟨rfl, hi⟩ | ⟨rfl, hi⟩ | rfl | rfl | rfl
  all_goals go_wp2_with fail
  all_goals try (go_quiet (fail); go_wp2_with fail)
  all_goals
    go_loopg [43] (x.l.length) (fun n i wr => ∃ k, n = x.l.length - k ∧ k ≤ x.l.length ∧ i = .int .i64 k ∧ Hid (rightBL x.k (x.l.take k) = true) ∧ Hid (Fr Nob w wr) ∧ Hid (∃ kk, kk = x.k ∧ Blk wr w.heap.size [.int .i64 kk, .string x.name, .slice A x.l.length c] 82))
    case atStart => 
      refine ⟨0, rfl, Nat.zero_le _, rfl, rfl, ?_, _, HK.out, ?_⟩
      · first | exact (Fr.refl _ _).alloc _ | exact ((Fr.refl _ _).alloc _).drewN _
      · first | exact HB.out | exact HB.out.drewN _
    case round =>
      obtain ⟨k, rfl, hk, rfl, HS, HF, HBr⟩ := hrel
      obtain ⟨kk, hke, hb1⟩ := HBr.out
      rw [hke, ← HK.out] at hb1
      clear hke
      have d0 := hb1.cell 0
      have d1 := hb1.cell 1
      have d2 := hb1.cell 2
      have hlb := hb1.lt
      simp only [List.getElem?_cons_zero, List.getElem?_cons_succ] at d0 d1 d2
      have HB1 := Lib.hid hb1
      clear hb1
      by_cases hlt : k < x.l.length
      · have ht : ((k : Int) < (x.l.length : Int)) := by omega
        obtain ⟨ad, A2, c2, rfl, q0, q1, q2, hX⟩ := EReps.elt (HR.out.fr HF.out (fun _ _ h => h)) (HE.out.fr0 HF.out) hlt
        have HX := Lib.hid hX
        clear hX
        go_wp2_with fail
        refine (HIH.out k hlt _ _ _ (HX.out.fr0 ((Fr.refl Nob wr).alloc (.cells #[.int .i64 x.l[k].k, .string x.l[k].name, .slice A2 x.l[k].l.length c2] 82)))).mono ?_
        rintro e w2 ⟨rfl, hF2⟩
        obtain ⟨b, hbv⟩ : ∃ b, rightB x.k x.l[k] = b := ⟨_, rfl⟩
        have hb2 := hbv
        rw [← HK.out] at hb2
        rw [hb2]
        have hF3 := (HF.out.alloc (.cells #[.int .i64 x.l[k].k, .string x.l[k].name, .slice A2 x.l[k].l.length c2] 82)).same hF2
        have hB3 := HB1.out.fr (((Fr.refl Nob wr).alloc (.cells #[.int .i64 x.l[k].k, .string x.l[k].name, .slice A2 x.l[k].l.length c2] 82)).same hF2) (fun h => h)
        have HF3 := Lib.hid hF3
        have HB3 := Lib.hid hB3
        have HBV := Lib.hid hbv
        have HB2 := Lib.hid hb2
        clear hF2 hF3 hB3 hbv hb2 q0 q1 q2 d0 d1 d2
        cases b
        · go_wp2_with fail
          go_ret
          refine ⟨?_, HF3.out⟩
          rw [HEQ.out, HH.out, HK.out, rightBL_of_mem x.k x.l k hlt HBV.out]
          rw [← HK.out]
          simp
        · go_wp2_with fail
          go_roundg (x.l.length - (k + 1))
          case measure => omega
          case rel =>
            have hlen := HN.out
            refine ⟨k + 1, rfl, hlt, ?_, ?_, HF3.out, _, HK.out, HB3.out⟩
            · rw [w64 _ (by omega) (by omega)]; rfl
            · rw [Hid, rightBL_take x.k x.l k hlt, HS.out, HBV.out]; rfl
      · have ht : ¬ ((k : Int) < (x.l.length : Int)) := by omega
        have hkl : k = x.l.length := by omega
        subst hkl
        rw [List.take_length] at HS
        go_wp2_with fail
        all_goals
          go_ret
          refine ⟨?_, HF.out⟩
          have hs := HS.out
          rw [← HK.out] at hs
          rw [HEQ.out, HH.out, hs]
          try (rename_i hnm; have hnm0 := hnm; rw [← size0] at hnm)
          have hne := name_empty x.name
          simp [tailB, *]
          try omega
theorem right_any (x : Tree) (inn : Int) (cs : List Value) (w : World) (h : ERep Nob w x cs) (hn : x.count ≤ 4611686018427387904) (hb : x.bytes ≤ 4611686018427387904) :
    Calls Tryz.prog 126 #[.agg cs.toArray, .int .i64 inn] w fun e w' => e = .returned (.bool (rightB inn x)) ∧ Fr Nob w w' :=
  right_step x inn cs w h hn hb (fun k hk inn cs w h => right_any x.l[k] inn cs w h (by have := count_lt_of_mem x.l k hk; have := count_eq x; omega) (by have := bytesL_ge x.l k hk; have := bytes_eq x; omega))
termination_by x
decreasing_by exact Tree.lt_of_elt x k hk
end Go.Proofs.YtldcffonfidbcaaGreatDoor

/- 'Check': may a tree be? -/
namespace Go.Proofs.YtldcffonfidbcaaGreatDoor
open Go.RowKit
/-- What 'Check' tells. -/
def checkT (x : Tree) : Int := if 200 < x.count ∨ 60 < x.deep then 2 else if rightB 0 x then 0 else 4
set_option maxRecDepth 100000 in
theorem check_any (x : Tree) (cs : List Value) (w : World) (h : ERep Nob w x cs) (hn : x.count ≤ 4611686018427387904) (hb : x.bytes ≤ 4611686018427387904) :
    Calls Tryz.prog 87 #[.agg cs.toArray] w fun e w' => e = .returned (.int .i64 (checkT x)) ∧ Fr Nob w w' := by
  have HR := Lib.hid h
  obtain ⟨A, c, css, rfl, hc, hR, hE⟩ := h.open_
  have HC := Lib.hid (And.intro hn hb)
  clear hR hE h hn hb
  go_enter Tryz.func87, Tryz.ntmps87
  go_wp2_with fail
  refine (size_any x _ _ (HR.out.fr0 ((Fr.refl Nob w).alloc _)) HC.out.1).mono ?_
  rintro e w1 ⟨rfl, hF1⟩
  have hb1 := (Blk.new w [.int .i64 x.k, .string x.name, .slice A x.l.length c] 82).fr hF1 (fun h => h)
  have d0 := hb1.cell 0
  have d1 := hb1.cell 1
  have d2 := hb1.cell 2
  have hl := hb1.lt
  simp only [List.getElem?_cons_zero, List.getElem?_cons_succ] at d0 d1 d2
  have HF1 := Lib.hid (((Fr.refl Nob w).alloc _).same hF1)
  clear hF1 hb1
  by_cases hlong : 200 < x.count ∨ 60 < x.deep
  · have hck : checkT x = 2 := by unfold checkT; rw [if_pos hlong]
    have HCK := Lib.hid hck
    by_cases h1 : 200 < x.count
    · have g1 : ((x.count : Int) > 200) := by omega
      clear hlong hck
      go_wp2_with fail
      go_ret
      exact ⟨by rw [HCK.out]; rfl, HF1.out⟩
    · have g1 : ¬ ((x.count : Int) > 200) := by omega
      have g2 : ((x.deep : Int) > 60) := by omega
      clear hlong hck
      go_wp2_with fail
      go_ret
      exact ⟨by rw [HCK.out]; rfl, HF1.out⟩
  · have g1 : ¬ ((x.count : Int) > 200) := by omega
    have g2 : ¬ ((x.deep : Int) > 60) := by omega
    have hck : checkT x = if rightB 0 x then 0 else 4 := by unfold checkT; rw [if_neg hlong]
    have HCK := Lib.hid hck
    clear hlong hck
    go_wp2_with fail
    refine (right_any x 0 _ _ (HR.out.fr0 HF1.out) HC.out.1 HC.out.2).mono ?_
    rintro e w2 ⟨rfl, hF2⟩
    have HF2 := Lib.hid hF2
    clear hF2
    cases hr : rightB 0 x
    all_goals
      have HRR := Lib.hid hr
      clear hr
      go_wp2_with fail
      go_ret
      exact ⟨by rw [HCK.out, HRR.out]; rfl, HF1.out.same HF2.out⟩
end Go.Proofs.YtldcffonfidbcaaGreatDoor
