/- A part of the proof for chapter 10: Core, FoldP, Awake10, Twin, NoneP, RemapStepsW; no conditions. -/
import Derived.Test.YtanbfplcldloeaaGreatDoorS34
import Derived.Test.YtanbfplcldloeaaGreatDoorS35
import Derived.Test.YtanbfplcldloeaaGreatDoorS31
import Derived.Test.YtanbfplcldloeaaGreatDoorS19
/- Chapter 10: what is told hangs on a rule's text alone, not on where it lies; the errors' numbers; the house. -/
namespace Go.Proofs.YtanbfplcldloeaaGreatDoor
open Go.RowKit
def ofCore (x : SpecR × Tree) : RuleM := ⟨x.1.name, x.1.expr, x.1.leaf, x.1.marks, x.1.least, x.1.most, x.1.lines, x.2, none, 0⟩
def normR (r : RuleM) : RuleM := ofCore (coreR r)
theorem specF_norm (rs : List RuleM) (t : Int) : specF (rs.map normR) t = (specF rs t).map normR := by
  unfold specF
  split
  · rw [List.getElem?_map]
  · rfl
theorem mayB_norm (rs : List RuleM) (r : RuleM) (x : Tok) : mayB (rs.map normR) (normR r) x = mayB rs r x := by
  unfold mayB
  rw [specF_norm]
  split
  · rfl
  · cases specF rs x.t <;> rfl
def normP (p : RuleM × List Int) : RuleM × List Int := (normR p.1, p.2)
def popF (f : RuleM × List Int → List (RuleM × List Int) → Int × Int) (i : Nat) : List (RuleM × List Int) → Int × Int
  | [] => (i, 9)
  | t :: st => f t st
theorem chkF_cons2 (rs : List RuleM) (g : List Grp) (top : RuleM × List Int) (st : List (RuleM × List Int)) (x : Tok) (l : List Tok) (i : Nat) : chkF rs g top st (x :: l) i =
    (if x.k = 2 then (if accB (typR g top.1) (starR top.1) top.2 then popF (fun t st => chkF rs g t st l (i + 1)) i st else (i, 9))
    else if mayB rs top.1 x = false then (i, 9)
    else if prefN (typR g top.1) (top.2 ++ [x.t]) < (top.2 ++ [x.t]).length then (i, 9)
    else if x.k = 1 then (specF rs x.t).elim (i, 9) (fun s => chkF rs g (s, []) ((top.1, top.2 ++ [x.t]) :: st) l (i + 1))
    else chkF rs g (top.1, top.2 ++ [x.t]) st l (i + 1) : Int × Int) := by
  rw [chkF_cons]
  cases st <;> cases specF rs x.t <;> rfl
theorem chkF_norm (rs : List RuleM) (g : List Grp) : ∀ (l : List Tok) (top : RuleM × List Int) (st : List (RuleM × List Int)) (i : Nat), chkF (rs.map normR) g (normP top) (st.map normP) l i = chkF rs g top st l i
  | [], top, st, i => by
    rw [chkF_nil, chkF_nil]
    have h : (normP top :: st.map normP).getLast (by simp) = normP ((top :: st).getLast (by simp)) := by
      rw [← List.getLast_map (f := normP) (by simp)]
      rfl
    rw [h]
    rfl
  | x :: l, top, st, i => by
    rw [chkF_cons2, chkF_cons2]
    have h1 : accB (typR g (normP top).1) (starR (normP top).1) (normP top).2 = accB (typR g top.1) (starR top.1) top.2 := rfl
    have h2 : mayB (rs.map normR) (normP top).1 x = mayB rs top.1 x := mayB_norm _ _ _
    have h3 : prefN (typR g (normP top).1) ((normP top).2 ++ [x.t]) = prefN (typR g top.1) (top.2 ++ [x.t]) := rfl
    have h4 : (normP top).2 = top.2 := rfl
    have e2 : chkF (rs.map normR) g ((normP top).1, top.2 ++ [x.t]) (st.map normP) l (i + 1) = chkF rs g (top.1, top.2 ++ [x.t]) st l (i + 1) := chkF_norm rs g l (top.1, top.2 ++ [x.t]) st (i + 1)
    have e3 : popF (fun t st => chkF (rs.map normR) g t st l (i + 1)) i (st.map normP) = popF (fun t st => chkF rs g t st l (i + 1)) i st := by
      cases st with
      | nil => rfl
      | cons t st => exact chkF_norm rs g l t st (i + 1)
    have e4 : (specF (rs.map normR) x.t).elim ((i : Int), (9 : Int)) (fun s => chkF (rs.map normR) g (s, []) (((normP top).1, top.2 ++ [x.t]) :: st.map normP) l (i + 1)) = (specF rs x.t).elim ((i : Int), (9 : Int)) (fun s => chkF rs g (s, []) ((top.1, top.2 ++ [x.t]) :: st) l (i + 1)) := by
      rw [specF_norm]
      cases specF rs x.t with
      | none => rfl
      | some s => exact chkF_norm rs g l (s, []) ((top.1, top.2 ++ [x.t]) :: st) (i + 1)
    rw [h1, h2, h3, h4, e2, e3, e4]
theorem checkF_norm (rs : List RuleM) (g : List Grp) (l : List Tok) : checkF (rs.map normR) g l = checkF rs g l := by
  unfold checkF
  cases rs with
  | nil => rfl
  | cons r rs => rw [List.map_cons]; simp only []; rw [← chkF_norm (r :: rs) g l (r, []) [] 0]; rfl
/-- The house's rules, wherever they lie. -/
def houseR : List RuleM := ((wholeS ⟨#[98, 108, 111, 99, 107, 43]⟩ :: houseL).map coreS).map ofCore
theorem norm_house {rs : List RuleM} (h : rs.map coreR = (wholeS ⟨#[98, 108, 111, 99, 107, 43]⟩ :: houseL).map coreS) : rs.map normR = houseR := by
  unfold houseR
  rw [← h, List.map_map]
  rfl
theorem checkF_house {rs : List RuleM} (h : rs.map coreR = (wholeS ⟨#[98, 108, 111, 99, 107, 43]⟩ :: houseL).map coreS) (g : List Grp) (l : List Tok) : checkF rs g l = checkF houseR g l := by
  rw [← norm_house h, checkF_norm]
def coreOkB (g : List Grp) (x : SpecR × Tree) : Bool := (x.1.leaf || (match x.2 with
  | .node k n [.node 1 nm []] => (k == 4 || k == 5) && decide (n = ⟨#[]⟩) && decide (nm.size ≤ 1000000) && checkR g (repT (decide (k = 4)) nm) == 0
  | _ => false)) && (x.1.marks == 0 || x.1.marks == 7)
theorem house_schok {rs : List RuleM} (h : rs.map coreR = (wholeS ⟨#[98, 108, 111, 99, 107, 43]⟩ :: houseL).map coreS) : SchOk rs (groupsF houseL houseG) := by
  have hall : ((wholeS ⟨#[98, 108, 111, 99, 107, 43]⟩ :: houseL).map coreS).all (coreOkB (groupsF houseL houseG)) = true := by kernel_rfl
  rw [← h] at hall
  have hr : ∀ r ∈ rs, coreOkB (groupsF houseL houseG) (coreR r) = true := fun r hr => List.all_eq_true.1 hall _ (List.mem_map_of_mem hr)
  refine ⟨fun r hm hl => ?_, fun r hm => ?_, fun r hr0 => ?_⟩
  · have h1 := hr r hm
    unfold coreOkB at h1
    rw [Bool.and_eq_true] at h1
    have h2 := h1.1
    have h3 : (coreR r).1.leaf = false := hl
    have h4 : (coreR r).2 = r.e := rfl
    rw [h3, Bool.false_or, h4] at h2
    cases he : r.e with
    | node k n l =>
      rw [he] at h2
      match l, h2 with
      | [.node 1 nm []], h2 =>
        simp only [Bool.and_eq_true, Bool.or_eq_true, beq_iff_eq, decide_eq_true_eq] at h2
        obtain ⟨⟨⟨h5, h6⟩, h7⟩, h8⟩ := h2
        have hs : starR r = decide (k = 4) := by unfold starR; rw [he]; rfl
        have hn : nmR r = nm := by unfold nmR; rw [he]; rfl
        rw [hs, hn]
        refine ⟨?_, ⟨house_gok, h7, h8⟩⟩
        unfold repT
        rcases h5 with rfl | rfl
        · simp [h6]
        · simp [h6]
  · have h1 := hr r hm
    unfold coreOkB at h1
    simp only [Bool.and_eq_true, Bool.or_eq_true, beq_iff_eq] at h1
    exact h1.2
  · have h1 : (rs.map coreR)[0]? = some (coreR r) := by rw [List.getElem?_map, hr0]; rfl
    rw [h] at h1
    injection h1 with h1
    have h2 : (coreR r).1.leaf = false := by rw [← h1]; rfl
    exact h2
end Go.Proofs.YtanbfplcldloeaaGreatDoor

/- Chapter 10: the steps make the document: in plain words. -/
namespace Go.Proofs.YtanbfplcldloeaaGreatDoor
open Go.RowKit
/-- The document by which a law sees that the program computes at all. -/
def awakeD : List Tok := [⟨1, 1, 0, 0⟩, ⟨2, 0, 0, 0⟩]
theorem rebase_awake {rs : List RuleM} (h : rs.map coreR = (wholeS ⟨#[98, 108, 111, 99, 107, 43]⟩ :: houseL).map coreS) : rebaseF rs (groupsF houseL houseG) awakeD [] [] = (⟨awakeD, [], []⟩, 0) := by
  have h1 : (checkF houseR (groupsF houseL houseG) awakeD).2 = 0 := by kernel_rfl
  unfold rebaseF
  rw [checkF_house h, if_neg (by rw [h1]; simp)]
  rfl
end Go.Proofs.YtanbfplcldloeaaGreatDoor

/- Chapter 10: what the laws lean on: 'awake', 'small', 'alike'. -/
namespace Go.Proofs.YtanbfplcldloeaaGreatDoor
open Go.RowKit
set_option maxRecDepth 100000 in
set_option maxHeartbeats 2000000 in
theorem awake_any (w : World) (hG : HG w) : Calls Tryz.prog 15 #[] w fun e w' => e = .returned (.bool true) ∧ Fr Nob w w' := by
  have HHG := Lib.hid hG
  clear hG
  go_enter Tryz.func15, Tryz.ntmps15
  go_wp2_with fail
  refine (house_any w HHG.out).mono ?_
  rintro e w1 ⟨⟨p, rs, rfl, hS, hC⟩, hF1⟩
  have HS := Lib.hid (hS.mono (M' := Nob) (fun _ h => h.elim))
  have HC := Lib.hid hC
  have HF1 := Lib.hid hF1
  clear hS hC hF1
  go_wp2_with fail
  obtain ⟨W, hW⟩ : ∃ W, w1.alloc (.cells #[.int .i64 1, .int .i64 1, .int .i64 0, .int .i64 0, .int .i64 2, .int .i64 0, .int .i64 0, .int .i64 0] 65) = W := ⟨_, rfl⟩
  have HB := Lib.hid (show Blk W w1.heap.size (tokC awakeD) 65 by rw [← hW]; exact Blk.new _ _ _)
  have HF2 := Lib.hid (show Fr Nob w1 W by rw [← hW]; exact (Fr.refl _ _).alloc _)
  rw [hW]
  clear hW
  have hreb := rebase_any Nob p rs (groupsF houseL houseG) (house_schok HC.out) [] [] none none 0 0 (.slice (some ⟨w1.heap.size, 0, none⟩) 2 2) awakeD W (fun _ h => h.elim) (HS.out.fr0 HF2.out) ⟨_, _, rfl, Nat.le_refl _, fun _ => ⟨_, rfl, fun h => h, fun j u hu => by rw [add_lit]; exact (HB.out.cell j).trans hu⟩⟩ ⟨Rd.nil _ _ _, fun _ h => (by cases h), fun _ h => (by cases h)⟩ ⟨Rd.nil _ _ _, fun _ h => (by cases h), fun _ h => (by cases h)⟩ (by decide) (by decide)
  simp only [List.map_nil, rebase_awake HC.out] at hreb
  refine hreb.mono ?_
  clear hreb
  rintro e w2 ⟨dv, sv, kv, rfl, hv, hF3⟩
  obtain ⟨⟨A, c, rfl, _, _⟩, ⟨SA, sc, L, rfl, _, hL⟩, ⟨KA, kc, rfl, _⟩⟩ := hv
  have hL0 : L = [] := List.map_eq_nil_iff.1 hL
  subst hL0
  have HF3 := Lib.hid ((HF1.out.same HF2.out).same hF3)
  clear hF3 hL
  obtain ⟨n2, hn2⟩ : ∃ n : Nat, awakeD.length = n := ⟨_, rfl⟩
  have hn2' : n2 = 2 := by rw [← hn2]; rfl
  simp only [hn2, List.length_nil]
  clear hn2
  subst hn2'
  go_wp2_with fail
  go_ret
  exact ⟨rfl, HF3.out.alloc _⟩
set_option maxRecDepth 100000 in
set_option maxHeartbeats 2000000 in
/-- The same tokens: so it says. -/
theorem alike_same (M M' : Nat → Prop) (l : List Tok) (A A' : Option Addr) (c c' : Nat) (w : World) (hl : l.length ≤ 4611686018427387904) (hR : Rd M w A (tokC l)) (hR' : Rd M' w A' (tokC l)) :
    Calls Tryz.prog 21 #[.slice A l.length c, .slice A' l.length c'] w fun e w' => e = .returned (.bool true) ∧ Fr Nob w w' := by
  have HR := Lib.hid hR
  have HR' := Lib.hid hR'
  clear hR hR'
  go_enter Tryz.func21, Tryz.ntmps21
  go_wp2_with fail
  go_loopg [5] (l.length) (fun n s5 wr => ∃ (k : Nat), n = l.length - k ∧ k ≤ l.length ∧ s5 = .int .i64 k ∧ Hid (Fr Nob w wr))
  case atStart => exact ⟨0, rfl, Nat.zero_le _, rfl, Fr.refl _ _⟩
  case round =>
    obtain ⟨k, rfl, hk, rfl, HF⟩ := hrel
    by_cases hlt : k < l.length
    · have ht : ((k : Int) < (l.length : Int)) := by omega
      obtain ⟨ad, rfl, hnb, hbl, h0, hj⟩ := Rd.elt Tok.cells_len (by omega) (HR.out.fr HF.out (fun _ _ h => h.elim)) hlt
      obtain ⟨ad', rfl, hnb', hbl', h0', hj'⟩ := Rd.elt Tok.cells_len (by omega) (HR'.out.fr HF.out (fun _ _ h => h.elim)) hlt
      have q1 := hj 0 (by omega)
      have q2 := hj 1 (by omega)
      have q3 := hj 2 (by omega)
      have q1' := hj' 0 (by omega)
      have q2' := hj' 1 (by omega)
      have q3' := hj' 2 (by omega)
      generalize l[k] = x at h0 q1 q2 q3 h0' q1' q2' q3'
      clear hj hj' hnb hnb'
      simp only [Tok.cells, List.getElem?_cons_zero, List.getElem?_cons_succ] at h0 q1 q2 q3 h0' q1' q2' q3'
      go_wp2_with (first | go_quiet (fail) | fail)
      go_roundg (l.length - (k + 1))
      case measure => omega
      case rel => exact ⟨k + 1, rfl, by omega, by first | rfl | go_num, HF.out.drewN _⟩
    · have ht : ¬ ((k : Int) < (l.length : Int)) := by omega
      go_wp2_with fail
      go_ret
      exact ⟨rfl, HF.out⟩
end Go.Proofs.YtanbfplcldloeaaGreatDoor

/- Chapter 10: what the laws lean on: 'twin', 'list'. -/
namespace Go.Proofs.YtanbfplcldloeaaGreatDoor
open Go.RowKit
set_option maxRecDepth 100000 in
set_option maxHeartbeats 4000000 in
/-- The same steps: so it says. -/
theorem twin_same (M M' : Nat → Prop) (s : StepM) (A A' : Option Addr) (c c' : Nat) (w : World) (hl : s.l.length ≤ 4611686018427387904) (hR : Rd M w A (tokC s.l)) (hR' : Rd M' w A' (tokC s.l)) :
    Calls Tryz.prog 14 #[.agg (StepA.cells ⟨s, A, c⟩).toArray, .agg (StepA.cells ⟨s, A', c'⟩).toArray] w fun e w' => e = .returned (.bool true) ∧ Fr Nob w w' := by
  obtain ⟨k, f, t, gf, gt, ins, m, l⟩ := s
  have HR := Lib.hid hR
  have HR' := Lib.hid hR'
  have HL := Lib.hid hl
  clear hR hR' hl
  simp only [StepA.cells, StepM.cells] at HR HR' HL ⊢
  obtain ⟨n, hn⟩ : ∃ n, l.length = n := ⟨_, rfl⟩
  have HN := Lib.hid hn
  rw [hn]
  clear hn
  go_enter Tryz.func14, Tryz.ntmps14
  go_upto_region 1 with (fail)
  obtain ⟨X, hX⟩ : ∃ b, w.heap.size = b := ⟨_, rfl⟩
  obtain ⟨W1, hW1⟩ : ∃ W, w.alloc (.cells #[.int .i64 k, .int .i64 f, .int .i64 t, .int .i64 gf, .int .i64 gt, .int .i64 ins, .slice A n c, .int .i64 m] 24) = W := ⟨_, rfl⟩
  obtain ⟨Y, hY⟩ : ∃ b, W1.heap.size = b := ⟨_, rfl⟩
  obtain ⟨W2, hW2⟩ : ∃ W, W1.alloc (.cells #[.int .i64 k, .int .i64 f, .int .i64 t, .int .i64 gf, .int .i64 gt, .int .i64 ins, .slice A' n c', .int .i64 m] 24) = W := ⟨_, rfl⟩
  have HB1 := Lib.hid (show Blk W2 X [.int .i64 k, .int .i64 f, .int .i64 t, .int .i64 gf, .int .i64 gt, .int .i64 ins, .slice A n c, .int .i64 m] 24 by
    rw [← hW2, ← hW1, ← hX]
    exact (Blk.new _ _ _).alloc _)
  have HB2 := Lib.hid (show Blk W2 Y [.int .i64 k, .int .i64 f, .int .i64 t, .int .i64 gf, .int .i64 gt, .int .i64 ins, .slice A' n c', .int .i64 m] 24 by
    rw [← hW2, ← hY]
    exact Blk.new _ _ _)
  have HF := Lib.hid (show Fr Nob w W2 by rw [← hW2, ← hW1]; exact ((Fr.refl _ _).alloc _).alloc _)
  have hY2 : X + 1 = Y := by rw [← hY, ← hW1, ← hX]; simp
  rw [hW1, hW2, hX, hY2]
  clear hW1 hW2 hX hY hY2
  have a0 := HB1.out.cell 0
  have a1 := HB1.out.cell 1
  have a2 := HB1.out.cell 2
  have a3 := HB1.out.cell 3
  have a4 := HB1.out.cell 4
  have a5 := HB1.out.cell 5
  have a6 := HB1.out.cell 6
  have a7 := HB1.out.cell 7
  have al := HB1.out.lt
  have b0 := HB2.out.cell 0
  have b1 := HB2.out.cell 1
  have b2 := HB2.out.cell 2
  have b3 := HB2.out.cell 3
  have b4 := HB2.out.cell 4
  have b5 := HB2.out.cell 5
  have b6 := HB2.out.cell 6
  have b7 := HB2.out.cell 7
  have bl := HB2.out.lt
  simp only [List.getElem?_cons_zero, List.getElem?_cons_succ] at a0 a1 a2 a3 a4 a5 a6 a7 b0 b1 b2 b3 b4 b5 b6 b7
  go_wp2_with fail
  have h := alike_same M M' l A A' c c' W2 HL.out (HR.out.fr HF.out (fun _ _ h => h.elim)) (HR'.out.fr HF.out (fun _ _ h => h.elim))
  rw [HN.out] at h
  refine h.mono ?_
  clear h
  rintro e w2 ⟨rfl, hF2⟩
  go_wp2_with fail
  go_ret
  exact ⟨rfl, HF.out.same hF2⟩
end Go.Proofs.YtanbfplcldloeaaGreatDoor

/- Chapter 10: a map undone and done again leaves a place where it was. -/
namespace Go.Proofs.YtanbfplcldloeaaGreatDoor
open Go.RowKit
/-- What a right step is, in numbers. -/
structure StepN (s : StepM) : Prop where
  len : s.l.length ≤ 2048
  f : 0 ≤ s.f ∧ s.f ≤ s.t ∧ s.t ≤ 2048
  aro : s.k = 1 → s.f ≤ s.gf ∧ s.gf < s.gt ∧ s.gt ≤ s.t ∧ 0 ≤ s.ins ∧ s.ins ≤ (s.l.length : Int)
  mark : s.k ≠ 0 → s.k ≠ 1 → s.f < s.t
theorem stepN {s : StepM} (h : stepF s = 0) : StepN s := by
  unfold stepF at h
  split at h
  · cases h
  · rename_i hl
    split at h
    · rename_i hk
      rw [Bool.and_eq_true] at hk
      have hk1 := hk.1
      unfold kindOk at hk1
      split at hk1
      · rename_i h0
        unfold okRep at hk1
        simp only [Bool.and_eq_true] at hk1
        exact ⟨by omega, (ok0S_iff _ _).1 hk1.1.1.1.1, fun e => by omega, fun e => absurd h0 e⟩
      · split at hk1
        · rename_i h0 h1
          unfold okAro at hk1
          simp only [Bool.and_eq_true] at hk1
          exact ⟨by omega, (ok0S_iff _ _).1 hk1.1.1, fun _ => (aroS_iff _ _ _ _ _ _).1 hk1.1.2, fun _ e => absurd h1 e⟩
        · split at hk1
          · rename_i h0 h1 h2
            unfold okMark at hk1
            simp only [Bool.and_eq_true, decide_eq_true_eq] at hk1
            exact ⟨by omega, (ok0S_iff _ _).1 hk1.1.1.1.1.1.1, fun e => absurd e h1, fun _ _ => hk1.1.1.1.1.1.2⟩
          · cases hk1
    · cases h
end Go.Proofs.YtanbfplcldloeaaGreatDoor

/- Chapter 10: any step through any maps: the walk. -/
namespace Go.Proofs.YtanbfplcldloeaaGreatDoor
open Go.RowKit
theorem pure_len {ms msR : List OneM} (h : ms.map OneM.pure = msR.map OneM.pure) : ms.length = msR.length := by
  have := congrArg List.length h
  simpa using this
/-- The two of which the same has been added to. -/
def StB (w0 wr : World) (X P Q : Nat) (cs : List Value) (i : Nat) : Prop := ∃ ms msR, StE w0 wr X P Q cs ms msR ∧ ms.map OneM.pure = msR.map OneM.pure ∧ ms.length ≤ i
def StH (w0 wr : World) (X P Q : Nat) (cs : List Value) (i : Nat) (xs : List Rng) (A : Option Addr) (c : Nat) : Prop := ∃ ms msR, StE w0 wr X P Q cs ms msR ∧ ms.map OneM.pure = (if rightP xs = true then msR.map OneM.pure ++ [OneM.pure ⟨xs, -1, A, c⟩] else msR.map OneM.pure) ∧ msR.length ≤ i
theorem stb_padd {w0 wr : World} {X P Q : Nat} {cs : List Value} {i : Nat} (h : StB w0 wr X P Q cs i) (xs : List Rng) (A : Option Addr) (c : Nat) (hr : Rd Nob wr A (rngC xs)) (hl : xs.length ≤ 9223372036854775807) (hi : i < 4096) :
    Calls Tryz.prog 10 #[.pointer (some ⟨P, 0, none⟩), .slice A xs.length c] wr fun e w' => (∃ r, e = .returned (.int .i64 r)) ∧ StH w0 w' X P Q cs i xs A c := by
  obtain ⟨ms, msR, h, he, hl'⟩ := h
  refine (st_padd h xs A c hr hl (by omega)).mono ?_
  rintro e w' ⟨hr', ms', hm, hs⟩
  have hlen := pure_len he
  exact ⟨hr', ms', msR, hs, by rw [hm, he], by omega⟩
theorem stb_radd {w0 wr : World} {X P Q : Nat} {cs : List Value} {i : Nat} {xs : List Rng} {A : Option Addr} {c : Nat} (h : StH w0 wr X P Q cs i xs A c) (hr : Rd (fun k => w0.heap.size ≤ k) wr A (rngC xs)) (hi : i < 4096) :
    Calls Tryz.prog 11 #[.pointer (some ⟨Q, 0, none⟩), .slice A xs.length c] wr fun e w' => (∃ r, e = .returned (.int .i64 r)) ∧ StB w0 w' X P Q cs (i + 1) := by
  obtain ⟨ms, msR, h, he, hl'⟩ := h
  refine (st_radd h xs A c hr (by omega)).mono ?_
  rintro e w' ⟨hr', ms', hm, hs⟩
  refine ⟨hr', ms, ms', hs, by rw [hm, he], ?_⟩
  have hlen := congrArg List.length he
  rw [List.length_map] at hlen
  split at hlen <;> simp at hlen <;> omega
theorem StB.fr {w0 wr : World} {X P Q : Nat} {cs : List Value} {i : Nat} (h : StB w0 wr X P Q cs i) : Fr Nob w0 wr ∧ Blk wr X cs 24 := by
  obtain ⟨ms, msR, ⟨N, vP, vR, h⟩, _, _⟩ := h
  exact ⟨h.fr, h.x⟩
theorem StH.fr {w0 wr : World} {X P Q : Nat} {cs : List Value} {i : Nat} {xs : List Rng} {A : Option Addr} {c : Nat} (h : StH w0 wr X P Q cs i xs A c) : Fr Nob w0 wr ∧ Blk wr X cs 24 := by
  obtain ⟨ms, msR, ⟨N, vP, vR, h⟩, _, _⟩ := h
  exact ⟨h.fr, h.x⟩
theorem st_first {w : World} (cs : List Value) : StB w (((w.alloc (.cells cs.toArray 24)).alloc (.cells #[.slice none 0 0, .bool true] 71)).alloc (.cells #[.slice none 0 0] 31)) w.heap.size (w.heap.size + 1) (w.heap.size + 1 + 1) cs 0 := by
  refine ⟨[], [], ⟨fun k => w.heap.size + 1 ≤ k, .slice none 0 0, .slice none 0 0, (((Fr.refl _ _).alloc _).alloc _).alloc _, ((Blk.new w cs _).alloc _).alloc _, ⟨(Blk.new_at (w.alloc _) [.slice none 0 0, .bool true] _ (w.heap.size + 1) (by simp)).alloc _, by omega, World.ownsRow_nil _ _ _ _, (by intro e; cases e), ?_, fun _ h => (by cases h), fun _ h => (by cases h), fun _ h => (by cases h)⟩, ⟨Blk.new_at ((w.alloc _).alloc _) [.slice none 0 0] _ (w.heap.size + 1 + 1) (by simp), by omega, World.ownsRow_nil _ _ _ _, (by intro e; cases e), ?_, fun _ h => (by cases h), fun _ h => (by cases h), fun _ h => (by cases h)⟩, ?_, ?_, Nat.le_refl _⟩, rfl, Nat.le_refl _⟩
  · rintro k (rfl | hk)
    · show w.heap.size + 1 ≤ w.heap.size + 1; omega
    · cases hk
  · rintro k (rfl | hk)
    · show w.heap.size ≤ w.heap.size + 1 + 1; omega
    · cases hk
  · rintro k (rfl | hk)
    · show w.heap.size + 1 ≤ w.heap.size + 1 + 1; omega
    · cases hk
  · rintro k (rfl | hk) (h | h)
    · omega
    · cases h
    · cases hk
    · cases hk
theorem stb_steps {w0 wr : World} {X P Q : Nat} {cs : List Value} {i : Nat} (h : StB w0 wr X P Q cs i) (hi : i ≤ 4096) (s : StepM) (B : Option Addr) (b : Nat) (fr : Int) (hx : Rd Nob w0 B (tokC s.l)) :
    ∃ R : Option StepM, (∀ x, R = some x → x.l = s.l ∧ stepF x = 0) ∧
      (∀ w', Fr Nob wr w' → Calls Tryz.prog 12 #[.agg (s.cells (.slice B s.l.length b)).toArray, .pointer (some ⟨P, 0, none⟩), .int .i64 fr] w' fun e w'' => e = .returned (.tuple #[(R.elim (.agg #[.int .i64 0, .int .i64 0, .int .i64 0, .int .i64 0, .int .i64 0, .int .i64 0, .slice none 0 0, .int .i64 0]) (fun x => .agg (x.cells (.slice B s.l.length b)).toArray)), .bool R.isSome]) ∧ Fr Nob w' w'') ∧
      (∀ w', Fr Nob wr w' → Calls Tryz.prog 13 #[.agg (s.cells (.slice B s.l.length b)).toArray, .pointer (some ⟨Q, 0, none⟩), .int .i64 fr] w' fun e w'' => e = .returned (.tuple #[(R.elim (.agg #[.int .i64 0, .int .i64 0, .int .i64 0, .int .i64 0, .int .i64 0, .int .i64 0, .slice none 0 0, .int .i64 0]) (fun x => .agg (x.cells (.slice B s.l.length b)).toArray)), .bool R.isSome]) ∧ Fr Nob w' w'') := by
  obtain ⟨ms, msR, ⟨N, vP, vR, h⟩, he, hl⟩ := h
  have hlen := pure_len he
  refine ⟨stepThru ms fr s, fun x hx => stepThru_l hx, fun w' hF => remstep_any N Nob (X + 1) P vP ms s B b fr w' (h.mp.fr0 hF) (by omega) (hx.fr (h.fr.same hF) (fun _ _ h => h.elim)), fun w' hF => ?_⟩
  have e : stepThru ms fr s = stepThru msR fr s := by rw [← stepThru_pure ms, he, stepThru_pure]
  rw [e]
  exact ref10step_any _ Nob (X + 1) Q vR msR s B b fr w' (h.rm.fr0 hF) (by omega) (hx.fr (h.fr.same hF) (fun _ _ h => h.elim))
set_option maxRecDepth 100000 in
set_option maxHeartbeats 8000000 in
theorem steps_walk (s : StepA) (L : List RowA) (LA : Option Addr) (lc : Nat) (fr : Int) (w : World) (hG : HG w) (hs : Rd Nob w s.B (tokC s.s.l)) (hL : RowsM Nob w LA L) (hn : L.length ≤ 9223372036854775807) :
    Calls Tryz.prog 3 #[.agg s.cells.toArray, .slice LA L.length lc, .int .i64 fr] w fun e w' => e = .returned (.bool true) ∧ Fr Nob w w' := by
  obtain ⟨⟨k, f, t, gf, gt, ins, mk, l⟩, B, b⟩ := s
  have HHG := Lib.hid hG
  have HR := Lib.hid hs
  have HRW := Lib.hid hL
  have HN := Lib.hid hn
  clear hG hs hL hn
  simp only [StepA.cells, StepM.cells] at HR ⊢
  obtain ⟨n, hn⟩ : ∃ n, l.length = n := ⟨_, rfl⟩
  have HNL := Lib.hid hn
  obtain ⟨ln, hln⟩ : ∃ n, L.length = n := ⟨_, rfl⟩
  have HLN := Lib.hid hln
  rw [hn, hln]
  clear hn hln
  have HST := Lib.hid (st_first (w := w) [.int .i64 k, .int .i64 f, .int .i64 t, .int .i64 gf, .int .i64 gt, .int .i64 ins, .slice B n b, .int .i64 mk])
  go_enter Tryz.func3, Tryz.ntmps3
  go_wp2_with fail
  refine (posnew_any _).mono ?_
  rintro e w1 ⟨rfl, rfl⟩
  go_upto_region 3 with (fail)
  obtain ⟨W, hW⟩ : ∃ W, (((w.alloc (.cells #[.int .i64 k, .int .i64 f, .int .i64 t, .int .i64 gf, .int .i64 gt, .int .i64 ins, .slice B n b, .int .i64 mk] 24)).alloc (.cells #[.slice none 0 0, .bool true] 71)).alloc (.cells #[.slice none 0 0] 31)) = W := ⟨_, rfl⟩
  have HS1 := Lib.hid (show StB w W w.heap.size (w.heap.size + 1) (w.heap.size + 1 + 1) [.int .i64 k, .int .i64 f, .int .i64 t, .int .i64 gf, .int .i64 gt, .int .i64 ins, .slice B n b, .int .i64 mk] 0 by rw [← hW]; exact HST.out)
  rw [hW]
  clear hW HST
  obtain ⟨P, hP⟩ : ∃ P, w.heap.size + 1 = P := ⟨_, rfl⟩
  obtain ⟨Q, hQ⟩ : ∃ Q, P + 1 = Q := ⟨_, rfl⟩
  obtain ⟨X, hX⟩ : ∃ X, w.heap.size = X := ⟨_, rfl⟩
  rw [hP, hQ] at HS1
  try rw [hP]
  try rw [hQ]
  rw [hX] at HS1 ⊢
  clear hP hQ hX
  go_wp2_with fail
  go_loopg [9] ln (fun q s9 wr => ∃ i : Nat, q = ln - i ∧ i ≤ ln ∧ i ≤ 50 ∧ s9 = .int .i64 i ∧ Hid (StB w wr X P Q [.int .i64 k, .int .i64 f, .int .i64 t, .int .i64 gf, .int .i64 gt, .int .i64 ins, .slice B n b, .int .i64 mk] i))
  case atStart => exact ⟨0, rfl, Nat.zero_le _, by omega, rfl, HS1.out⟩
  case round =>
    obtain ⟨i, rfl, hi, hi50, rfl, HS⟩ := hrel
    by_cases hlt : i < ln ∧ i < 50
    · obtain ⟨hlt1, hlt2⟩ := hlt
      have ht : ((i : Int) < (ln : Int)) := by omega
      have ht2 : ((i : Int) < 50) := by omega
      have hil : i < L.length := by rw [HLN.out]; exact hlt1
      have hFr := HS.out.fr.1
      obtain ⟨ad, hA, _, hlb, q0, _⟩ := Rd.elt RowA.cells_len (by omega) (HRW.out.head.fr hFr (fun _ _ h => h.elim)) hil
      subst hA
      have hrow := HRW.out.rows L[i] (List.getElem_mem _)
      have hsm := HRW.out.small L[i] (List.getElem_mem _)
      obtain ⟨x, hx⟩ : ∃ x, L[i] = x := ⟨_, rfl⟩
      rw [hx] at q0 hrow hsm
      have HXX := Lib.hid hx
      clear hx
      obtain ⟨xs, A, c⟩ := x
      simp only [RowA.cells, List.getElem?_cons_zero, Nat.mul_one] at q0 hrow hsm
      have HROW := Lib.hid hrow
      have HSM := Lib.hid hsm
      have KS := Lib.hid (show ∀ W' : World, Fr Nob w W' → W'.cell? (ad.add i) = some (.slice A xs.length c) ∧ ad.block < W'.heap.size from fun W' hF' => by
        obtain ⟨ad', e, _, hb, q, _⟩ := Rd.elt RowA.cells_len (by omega) (HRW.out.head.fr hF' (fun _ _ h => h.elim)) hil
        injection e with e
        subst e
        rw [HXX.out] at q
        exact ⟨by simpa [RowA.cells] using q, hb⟩)
      obtain ⟨xn, hxn⟩ : ∃ n, xs.length = n := ⟨_, rfl⟩
      have HXN := Lib.hid hxn
      rw [hxn] at q0 KS
      clear hrow hsm hFr hxn
      go_wp2_with fail
      have h := stb_padd HS.out xs A c (HROW.out.fr HS.out.fr.1 (fun _ _ h => h.elim)) HSM.out (by omega)
      rw [HXN.out] at h
      refine h.mono ?_
      clear h
      rintro e w2 ⟨⟨r, rfl⟩, hH⟩
      have HH := Lib.hid hH
      obtain ⟨q1, hlb1⟩ := KS.out w2 hH.fr.1
      clear hH q0 hlb
      go_wp2_with fail
      have h := stb_radd HH.out ((HROW.out.bound.mono (fun k hk => .inr hk)).fr HH.out.fr.1 (fun _ _ h => h.elim)) (by omega)
      rw [HXN.out] at h
      refine h.mono ?_
      clear h
      rintro e w3 ⟨⟨r2, rfl⟩, hB⟩
      have HB := Lib.hid hB
      clear hB q1 hlb1
      go_wp2_with fail
      go_roundg (ln - (i + 1))
      case measure => omega
      case rel => exact ⟨i + 1, rfl, by omega, by omega, by first | rfl | go_num, HB.out⟩
    · have HI := Lib.hid hi50
      have hex : (if (i : Int) < (ln : Int) then decide ((i : Int) < 50) else false) = false := by
        split
        · exact decide_eq_false (by omega)
        · rfl
      have hd := HS.out.fr.2
      have d0 := hd.cell 0
      have d1 := hd.cell 1
      have d2 := hd.cell 2
      have d3 := hd.cell 3
      have d4 := hd.cell 4
      have d5 := hd.cell 5
      have d6 := hd.cell 6
      have d7 := hd.cell 7
      have dl := hd.lt
      simp only [List.getElem?_cons_zero, List.getElem?_cons_succ] at d0 d1 d2 d3 d4 d5 d6 d7
      by_cases hlt1 : i < ln
      · skip
        have ht : ((i : Int) < (ln : Int)) := by omega
        have ht2 : ¬ ((i : Int) < 50) := by omega
        clear hlt hex hd
        go_upto_region 10 with (fail)
        obtain ⟨R, hR1, hR2, hR3⟩ := stb_steps HS.out (by omega) ⟨k, f, t, gf, gt, ins, mk, l⟩ B b fr HR.out
        simp only [StepM.cells, HNL.out] at hR2 hR3
        have HR1 := Lib.hid hR1
        have HR2 := Lib.hid hR2
        have HR3 := Lib.hid hR3
        have HF0 := Lib.hid HS.out.fr.1
        have HX0 := Lib.hid HS.out.fr.2
        clear hR1 hR2 hR3
        go_wp2_with fail
        refine (HR2.out wr (Fr.refl _ _)).mono ?_
        rintro e w2 ⟨rfl, hF2⟩
        have HF2 := Lib.hid hF2
        clear d0 d1 d2 d3 d4 d5 d6 d7 dl hF2
        cases R with
        | none =>
          have H3 := Lib.hid (show ∀ w', Fr Nob wr w' → Calls Tryz.prog 13 #[.agg #[.int .i64 k, .int .i64 f, .int .i64 t, .int .i64 gf, .int .i64 gt, .int .i64 ins, .slice B n b, .int .i64 mk], .pointer (some ⟨Q, 0, none⟩), .int .i64 fr] w' fun e w'' => e = .returned (.tuple #[.agg #[.int .i64 0, .int .i64 0, .int .i64 0, .int .i64 0, .int .i64 0, .int .i64 0, .slice none 0 0, .int .i64 0], .bool false]) ∧ Fr Nob w' w'' from HR3.out)
          clear HR2 HR3
          go_upto_region 11 with (fail)
          obtain ⟨W3, hW3⟩ : ∃ W, w2.alloc (.cells #[.int .i64 0, .int .i64 0, .int .i64 0, .int .i64 0, .int .i64 0, .int .i64 0, .slice none 0 0, .int .i64 0] 24) = W := ⟨_, rfl⟩
          obtain ⟨Y, hY⟩ : ∃ Y, w2.heap.size = Y := ⟨_, rfl⟩
          have hFa := (show Fr Nob w2 W3 by rw [← hW3]; exact (Fr.refl _ _).alloc _)
          have HY3 := Lib.hid (show Blk W3 Y [.int .i64 0, .int .i64 0, .int .i64 0, .int .i64 0, .int .i64 0, .int .i64 0, .slice none 0 0, .int .i64 0] 24 by rw [← hW3, ← hY]; exact Blk.new _ _ _)
          rw [hW3, hY]
          clear hW3 hY
          have HF3 := Lib.hid (HF2.out.same hFa)
          have HX3 := Lib.hid (HX0.out.fr HF3.out (fun h => h))
          clear hFa
          have d0 := HX3.out.cell 0
          have d1 := HX3.out.cell 1
          have d2 := HX3.out.cell 2
          have d3 := HX3.out.cell 3
          have d4 := HX3.out.cell 4
          have d5 := HX3.out.cell 5
          have d6 := HX3.out.cell 6
          have d7 := HX3.out.cell 7
          have dl := HX3.out.lt
          simp only [List.getElem?_cons_zero, List.getElem?_cons_succ] at d0 d1 d2 d3 d4 d5 d6 d7
          go_wp2_with fail
          refine (H3.out W3 HF3.out).mono ?_
          rintro e w4 ⟨rfl, hF4⟩
          have HF4 := Lib.hid (HF3.out.same hF4)
          have HY4 := Lib.hid (HY3.out.fr hF4 (fun h => h))
          clear d0 d1 d2 d3 d4 d5 d6 d7 dl hF4
          go_upto_region 12 with (fail)
          obtain ⟨W5, hW5⟩ : ∃ W, w4.alloc (.cells #[.int .i64 0, .int .i64 0, .int .i64 0, .int .i64 0, .int .i64 0, .int .i64 0, .slice none 0 0, .int .i64 0] 24) = W := ⟨_, rfl⟩
          obtain ⟨Z, hZ⟩ : ∃ Z, w4.heap.size = Z := ⟨_, rfl⟩
          have hFa := (show Fr Nob w4 W5 by rw [← hW5]; exact (Fr.refl _ _).alloc _)
          have HZ5 := Lib.hid (show Blk W5 Z [.int .i64 0, .int .i64 0, .int .i64 0, .int .i64 0, .int .i64 0, .int .i64 0, .slice none 0 0, .int .i64 0] 24 by rw [← hW5, ← hZ]; exact Blk.new _ _ _)
          rw [hW5, hZ]
          clear hW5 hZ
          have HF5 := Lib.hid (HF0.out.same (HF4.out.same hFa))
          have HY5 := Lib.hid (HY4.out.fr hFa (fun h => h))
          clear hFa
          have y0 := HY5.out.cell 0
          have y1 := HY5.out.cell 1
          have y2 := HY5.out.cell 2
          have y3 := HY5.out.cell 3
          have y4 := HY5.out.cell 4
          have y5 := HY5.out.cell 5
          have y6 := HY5.out.cell 6
          have y7 := HY5.out.cell 7
          have yl := HY5.out.lt
          simp only [List.getElem?_cons_zero, List.getElem?_cons_succ] at y0 y1 y2 y3 y4 y5 y6 y7
          have z0 := HZ5.out.cell 0
          have z1 := HZ5.out.cell 1
          have z2 := HZ5.out.cell 2
          have z3 := HZ5.out.cell 3
          have z4 := HZ5.out.cell 4
          have z5 := HZ5.out.cell 5
          have z6 := HZ5.out.cell 6
          have z7 := HZ5.out.cell 7
          have zl := HZ5.out.lt
          simp only [List.getElem?_cons_zero, List.getElem?_cons_succ] at z0 z1 z2 z3 z4 z5 z6 z7
          go_wp2_with fail
          have h := twin_same Nob Nob zeroStep none none 0 0 W5 (by decide) (Rd.nil _ _ _) (Rd.nil _ _ _)
          simp only [StepA.cells, StepM.cells, zeroStep, List.length_nil] at h
          refine h.mono ?_
          clear h
          rintro e w6 ⟨rfl, hF6⟩
          have HF6 := Lib.hid (HF5.out.same hF6)
          clear y0 y1 y2 y3 y4 y5 y6 y7 yl hF6
          clear z0 z1 z2 z3 z4 z5 z6 z7 zl
          go_wp2_with fail
          refine (awake_any w6 (HHG.out.fr HF6.out (fun h => h))).mono ?_
          rintro e w7 ⟨rfl, hF7⟩
          go_wp2_with fail
          go_ret
          exact ⟨rfl, HF6.out.same hF7⟩
        | some x =>
          obtain ⟨k2, f2, t2, gf2, gt2, ins2, mk2, l2⟩ := x
          obtain ⟨hl2, hst⟩ := HR1.out _ rfl
          have hl3 : l2 = l := hl2
          subst hl3
          have HLB := Lib.hid (show l2.length ≤ 4611686018427387904 by have := (stepN hst).len; simp only at this; omega)
          clear hl2 hst
          have H3 := Lib.hid (show ∀ w', Fr Nob wr w' → Calls Tryz.prog 13 #[.agg #[.int .i64 k, .int .i64 f, .int .i64 t, .int .i64 gf, .int .i64 gt, .int .i64 ins, .slice B n b, .int .i64 mk], .pointer (some ⟨Q, 0, none⟩), .int .i64 fr] w' fun e w'' => e = .returned (.tuple #[.agg #[.int .i64 k2, .int .i64 f2, .int .i64 t2, .int .i64 gf2, .int .i64 gt2, .int .i64 ins2, .slice B n b, .int .i64 mk2], .bool true]) ∧ Fr Nob w' w'' from HR3.out)
          clear HR2 HR3
          go_upto_region 11 with (fail)
          obtain ⟨W3, hW3⟩ : ∃ W, w2.alloc (.cells #[.int .i64 k2, .int .i64 f2, .int .i64 t2, .int .i64 gf2, .int .i64 gt2, .int .i64 ins2, .slice B n b, .int .i64 mk2] 24) = W := ⟨_, rfl⟩
          obtain ⟨Y, hY⟩ : ∃ Y, w2.heap.size = Y := ⟨_, rfl⟩
          have hFa := (show Fr Nob w2 W3 by rw [← hW3]; exact (Fr.refl _ _).alloc _)
          have HY3 := Lib.hid (show Blk W3 Y [.int .i64 k2, .int .i64 f2, .int .i64 t2, .int .i64 gf2, .int .i64 gt2, .int .i64 ins2, .slice B n b, .int .i64 mk2] 24 by rw [← hW3, ← hY]; exact Blk.new _ _ _)
          rw [hW3, hY]
          clear hW3 hY
          have HF3 := Lib.hid (HF2.out.same hFa)
          have HX3 := Lib.hid (HX0.out.fr HF3.out (fun h => h))
          clear hFa
          have d0 := HX3.out.cell 0
          have d1 := HX3.out.cell 1
          have d2 := HX3.out.cell 2
          have d3 := HX3.out.cell 3
          have d4 := HX3.out.cell 4
          have d5 := HX3.out.cell 5
          have d6 := HX3.out.cell 6
          have d7 := HX3.out.cell 7
          have dl := HX3.out.lt
          simp only [List.getElem?_cons_zero, List.getElem?_cons_succ] at d0 d1 d2 d3 d4 d5 d6 d7
          go_wp2_with fail
          refine (H3.out W3 HF3.out).mono ?_
          rintro e w4 ⟨rfl, hF4⟩
          have HF4 := Lib.hid (HF3.out.same hF4)
          have HY4 := Lib.hid (HY3.out.fr hF4 (fun h => h))
          clear d0 d1 d2 d3 d4 d5 d6 d7 dl hF4
          go_upto_region 12 with (fail)
          obtain ⟨W5, hW5⟩ : ∃ W, w4.alloc (.cells #[.int .i64 k2, .int .i64 f2, .int .i64 t2, .int .i64 gf2, .int .i64 gt2, .int .i64 ins2, .slice B n b, .int .i64 mk2] 24) = W := ⟨_, rfl⟩
          obtain ⟨Z, hZ⟩ : ∃ Z, w4.heap.size = Z := ⟨_, rfl⟩
          have hFa := (show Fr Nob w4 W5 by rw [← hW5]; exact (Fr.refl _ _).alloc _)
          have HZ5 := Lib.hid (show Blk W5 Z [.int .i64 k2, .int .i64 f2, .int .i64 t2, .int .i64 gf2, .int .i64 gt2, .int .i64 ins2, .slice B n b, .int .i64 mk2] 24 by rw [← hW5, ← hZ]; exact Blk.new _ _ _)
          rw [hW5, hZ]
          clear hW5 hZ
          have HF5 := Lib.hid (HF0.out.same (HF4.out.same hFa))
          have HY5 := Lib.hid (HY4.out.fr hFa (fun h => h))
          clear hFa
          have y0 := HY5.out.cell 0
          have y1 := HY5.out.cell 1
          have y2 := HY5.out.cell 2
          have y3 := HY5.out.cell 3
          have y4 := HY5.out.cell 4
          have y5 := HY5.out.cell 5
          have y6 := HY5.out.cell 6
          have y7 := HY5.out.cell 7
          have yl := HY5.out.lt
          simp only [List.getElem?_cons_zero, List.getElem?_cons_succ] at y0 y1 y2 y3 y4 y5 y6 y7
          have z0 := HZ5.out.cell 0
          have z1 := HZ5.out.cell 1
          have z2 := HZ5.out.cell 2
          have z3 := HZ5.out.cell 3
          have z4 := HZ5.out.cell 4
          have z5 := HZ5.out.cell 5
          have z6 := HZ5.out.cell 6
          have z7 := HZ5.out.cell 7
          have zl := HZ5.out.lt
          simp only [List.getElem?_cons_zero, List.getElem?_cons_succ] at z0 z1 z2 z3 z4 z5 z6 z7
          go_wp2_with fail
          have h := twin_same Nob Nob ⟨k2, f2, t2, gf2, gt2, ins2, mk2, l2⟩ B B b b W5 HLB.out (HR.out.fr HF5.out (fun _ _ h => h.elim)) (HR.out.fr HF5.out (fun _ _ h => h.elim))
          simp only [StepA.cells, StepM.cells, zeroStep, List.length_nil, HNL.out] at h
          refine h.mono ?_
          clear h
          rintro e w6 ⟨rfl, hF6⟩
          have HF6 := Lib.hid (HF5.out.same hF6)
          clear y0 y1 y2 y3 y4 y5 y6 y7 yl hF6
          clear z0 z1 z2 z3 z4 z5 z6 z7 zl
          go_wp2_with fail
          refine (awake_any w6 (HHG.out.fr HF6.out (fun h => h))).mono ?_
          rintro e w7 ⟨rfl, hF7⟩
          go_wp2_with fail
          go_ret
          exact ⟨rfl, HF6.out.same hF7⟩
      · skip
        have ht : ¬ ((i : Int) < (ln : Int)) := by omega
        clear hlt hex hd
        go_upto_region 10 with (fail)
        obtain ⟨R, hR1, hR2, hR3⟩ := stb_steps HS.out (by omega) ⟨k, f, t, gf, gt, ins, mk, l⟩ B b fr HR.out
        simp only [StepM.cells, HNL.out] at hR2 hR3
        have HR1 := Lib.hid hR1
        have HR2 := Lib.hid hR2
        have HR3 := Lib.hid hR3
        have HF0 := Lib.hid HS.out.fr.1
        have HX0 := Lib.hid HS.out.fr.2
        clear hR1 hR2 hR3
        go_wp2_with fail
        refine (HR2.out wr (Fr.refl _ _)).mono ?_
        rintro e w2 ⟨rfl, hF2⟩
        have HF2 := Lib.hid hF2
        clear d0 d1 d2 d3 d4 d5 d6 d7 dl hF2
        cases R with
        | none =>
          have H3 := Lib.hid (show ∀ w', Fr Nob wr w' → Calls Tryz.prog 13 #[.agg #[.int .i64 k, .int .i64 f, .int .i64 t, .int .i64 gf, .int .i64 gt, .int .i64 ins, .slice B n b, .int .i64 mk], .pointer (some ⟨Q, 0, none⟩), .int .i64 fr] w' fun e w'' => e = .returned (.tuple #[.agg #[.int .i64 0, .int .i64 0, .int .i64 0, .int .i64 0, .int .i64 0, .int .i64 0, .slice none 0 0, .int .i64 0], .bool false]) ∧ Fr Nob w' w'' from HR3.out)
          clear HR2 HR3
          go_upto_region 11 with (fail)
          obtain ⟨W3, hW3⟩ : ∃ W, w2.alloc (.cells #[.int .i64 0, .int .i64 0, .int .i64 0, .int .i64 0, .int .i64 0, .int .i64 0, .slice none 0 0, .int .i64 0] 24) = W := ⟨_, rfl⟩
          obtain ⟨Y, hY⟩ : ∃ Y, w2.heap.size = Y := ⟨_, rfl⟩
          have hFa := (show Fr Nob w2 W3 by rw [← hW3]; exact (Fr.refl _ _).alloc _)
          have HY3 := Lib.hid (show Blk W3 Y [.int .i64 0, .int .i64 0, .int .i64 0, .int .i64 0, .int .i64 0, .int .i64 0, .slice none 0 0, .int .i64 0] 24 by rw [← hW3, ← hY]; exact Blk.new _ _ _)
          rw [hW3, hY]
          clear hW3 hY
          have HF3 := Lib.hid (HF2.out.same hFa)
          have HX3 := Lib.hid (HX0.out.fr HF3.out (fun h => h))
          clear hFa
          have d0 := HX3.out.cell 0
          have d1 := HX3.out.cell 1
          have d2 := HX3.out.cell 2
          have d3 := HX3.out.cell 3
          have d4 := HX3.out.cell 4
          have d5 := HX3.out.cell 5
          have d6 := HX3.out.cell 6
          have d7 := HX3.out.cell 7
          have dl := HX3.out.lt
          simp only [List.getElem?_cons_zero, List.getElem?_cons_succ] at d0 d1 d2 d3 d4 d5 d6 d7
          go_wp2_with fail
          refine (H3.out W3 HF3.out).mono ?_
          rintro e w4 ⟨rfl, hF4⟩
          have HF4 := Lib.hid (HF3.out.same hF4)
          have HY4 := Lib.hid (HY3.out.fr hF4 (fun h => h))
          clear d0 d1 d2 d3 d4 d5 d6 d7 dl hF4
          go_upto_region 12 with (fail)
          obtain ⟨W5, hW5⟩ : ∃ W, w4.alloc (.cells #[.int .i64 0, .int .i64 0, .int .i64 0, .int .i64 0, .int .i64 0, .int .i64 0, .slice none 0 0, .int .i64 0] 24) = W := ⟨_, rfl⟩
          obtain ⟨Z, hZ⟩ : ∃ Z, w4.heap.size = Z := ⟨_, rfl⟩
          have hFa := (show Fr Nob w4 W5 by rw [← hW5]; exact (Fr.refl _ _).alloc _)
          have HZ5 := Lib.hid (show Blk W5 Z [.int .i64 0, .int .i64 0, .int .i64 0, .int .i64 0, .int .i64 0, .int .i64 0, .slice none 0 0, .int .i64 0] 24 by rw [← hW5, ← hZ]; exact Blk.new _ _ _)
          rw [hW5, hZ]
          clear hW5 hZ
          have HF5 := Lib.hid (HF0.out.same (HF4.out.same hFa))
          have HY5 := Lib.hid (HY4.out.fr hFa (fun h => h))
          clear hFa
          have y0 := HY5.out.cell 0
          have y1 := HY5.out.cell 1
          have y2 := HY5.out.cell 2
          have y3 := HY5.out.cell 3
          have y4 := HY5.out.cell 4
          have y5 := HY5.out.cell 5
          have y6 := HY5.out.cell 6
          have y7 := HY5.out.cell 7
          have yl := HY5.out.lt
          simp only [List.getElem?_cons_zero, List.getElem?_cons_succ] at y0 y1 y2 y3 y4 y5 y6 y7
          have z0 := HZ5.out.cell 0
          have z1 := HZ5.out.cell 1
          have z2 := HZ5.out.cell 2
          have z3 := HZ5.out.cell 3
          have z4 := HZ5.out.cell 4
          have z5 := HZ5.out.cell 5
          have z6 := HZ5.out.cell 6
          have z7 := HZ5.out.cell 7
          have zl := HZ5.out.lt
          simp only [List.getElem?_cons_zero, List.getElem?_cons_succ] at z0 z1 z2 z3 z4 z5 z6 z7
          go_wp2_with fail
          have h := twin_same Nob Nob zeroStep none none 0 0 W5 (by decide) (Rd.nil _ _ _) (Rd.nil _ _ _)
          simp only [StepA.cells, StepM.cells, zeroStep, List.length_nil] at h
          refine h.mono ?_
          clear h
          rintro e w6 ⟨rfl, hF6⟩
          have HF6 := Lib.hid (HF5.out.same hF6)
          clear y0 y1 y2 y3 y4 y5 y6 y7 yl hF6
          clear z0 z1 z2 z3 z4 z5 z6 z7 zl
          go_wp2_with fail
          refine (awake_any w6 (HHG.out.fr HF6.out (fun h => h))).mono ?_
          rintro e w7 ⟨rfl, hF7⟩
          go_wp2_with fail
          go_ret
          exact ⟨rfl, HF6.out.same hF7⟩
        | some x =>
          obtain ⟨k2, f2, t2, gf2, gt2, ins2, mk2, l2⟩ := x
          obtain ⟨hl2, hst⟩ := HR1.out _ rfl
          have hl3 : l2 = l := hl2
          subst hl3
          have HLB := Lib.hid (show l2.length ≤ 4611686018427387904 by have := (stepN hst).len; simp only at this; omega)
          clear hl2 hst
          have H3 := Lib.hid (show ∀ w', Fr Nob wr w' → Calls Tryz.prog 13 #[.agg #[.int .i64 k, .int .i64 f, .int .i64 t, .int .i64 gf, .int .i64 gt, .int .i64 ins, .slice B n b, .int .i64 mk], .pointer (some ⟨Q, 0, none⟩), .int .i64 fr] w' fun e w'' => e = .returned (.tuple #[.agg #[.int .i64 k2, .int .i64 f2, .int .i64 t2, .int .i64 gf2, .int .i64 gt2, .int .i64 ins2, .slice B n b, .int .i64 mk2], .bool true]) ∧ Fr Nob w' w'' from HR3.out)
          clear HR2 HR3
          go_upto_region 11 with (fail)
          obtain ⟨W3, hW3⟩ : ∃ W, w2.alloc (.cells #[.int .i64 k2, .int .i64 f2, .int .i64 t2, .int .i64 gf2, .int .i64 gt2, .int .i64 ins2, .slice B n b, .int .i64 mk2] 24) = W := ⟨_, rfl⟩
          obtain ⟨Y, hY⟩ : ∃ Y, w2.heap.size = Y := ⟨_, rfl⟩
          have hFa := (show Fr Nob w2 W3 by rw [← hW3]; exact (Fr.refl _ _).alloc _)
          have HY3 := Lib.hid (show Blk W3 Y [.int .i64 k2, .int .i64 f2, .int .i64 t2, .int .i64 gf2, .int .i64 gt2, .int .i64 ins2, .slice B n b, .int .i64 mk2] 24 by rw [← hW3, ← hY]; exact Blk.new _ _ _)
          rw [hW3, hY]
          clear hW3 hY
          have HF3 := Lib.hid (HF2.out.same hFa)
          have HX3 := Lib.hid (HX0.out.fr HF3.out (fun h => h))
          clear hFa
          have d0 := HX3.out.cell 0
          have d1 := HX3.out.cell 1
          have d2 := HX3.out.cell 2
          have d3 := HX3.out.cell 3
          have d4 := HX3.out.cell 4
          have d5 := HX3.out.cell 5
          have d6 := HX3.out.cell 6
          have d7 := HX3.out.cell 7
          have dl := HX3.out.lt
          simp only [List.getElem?_cons_zero, List.getElem?_cons_succ] at d0 d1 d2 d3 d4 d5 d6 d7
          go_wp2_with fail
          refine (H3.out W3 HF3.out).mono ?_
          rintro e w4 ⟨rfl, hF4⟩
          have HF4 := Lib.hid (HF3.out.same hF4)
          have HY4 := Lib.hid (HY3.out.fr hF4 (fun h => h))
          clear d0 d1 d2 d3 d4 d5 d6 d7 dl hF4
          go_upto_region 12 with (fail)
          obtain ⟨W5, hW5⟩ : ∃ W, w4.alloc (.cells #[.int .i64 k2, .int .i64 f2, .int .i64 t2, .int .i64 gf2, .int .i64 gt2, .int .i64 ins2, .slice B n b, .int .i64 mk2] 24) = W := ⟨_, rfl⟩
          obtain ⟨Z, hZ⟩ : ∃ Z, w4.heap.size = Z := ⟨_, rfl⟩
          have hFa := (show Fr Nob w4 W5 by rw [← hW5]; exact (Fr.refl _ _).alloc _)
          have HZ5 := Lib.hid (show Blk W5 Z [.int .i64 k2, .int .i64 f2, .int .i64 t2, .int .i64 gf2, .int .i64 gt2, .int .i64 ins2, .slice B n b, .int .i64 mk2] 24 by rw [← hW5, ← hZ]; exact Blk.new _ _ _)
          rw [hW5, hZ]
          clear hW5 hZ
          have HF5 := Lib.hid (HF0.out.same (HF4.out.same hFa))
          have HY5 := Lib.hid (HY4.out.fr hFa (fun h => h))
          clear hFa
          have y0 := HY5.out.cell 0
          have y1 := HY5.out.cell 1
          have y2 := HY5.out.cell 2
          have y3 := HY5.out.cell 3
          have y4 := HY5.out.cell 4
          have y5 := HY5.out.cell 5
          have y6 := HY5.out.cell 6
          have y7 := HY5.out.cell 7
          have yl := HY5.out.lt
          simp only [List.getElem?_cons_zero, List.getElem?_cons_succ] at y0 y1 y2 y3 y4 y5 y6 y7
          have z0 := HZ5.out.cell 0
          have z1 := HZ5.out.cell 1
          have z2 := HZ5.out.cell 2
          have z3 := HZ5.out.cell 3
          have z4 := HZ5.out.cell 4
          have z5 := HZ5.out.cell 5
          have z6 := HZ5.out.cell 6
          have z7 := HZ5.out.cell 7
          have zl := HZ5.out.lt
          simp only [List.getElem?_cons_zero, List.getElem?_cons_succ] at z0 z1 z2 z3 z4 z5 z6 z7
          go_wp2_with fail
          have h := twin_same Nob Nob ⟨k2, f2, t2, gf2, gt2, ins2, mk2, l2⟩ B B b b W5 HLB.out (HR.out.fr HF5.out (fun _ _ h => h.elim)) (HR.out.fr HF5.out (fun _ _ h => h.elim))
          simp only [StepA.cells, StepM.cells, zeroStep, List.length_nil, HNL.out] at h
          refine h.mono ?_
          clear h
          rintro e w6 ⟨rfl, hF6⟩
          have HF6 := Lib.hid (HF5.out.same hF6)
          clear y0 y1 y2 y3 y4 y5 y6 y7 yl hF6
          clear z0 z1 z2 z3 z4 z5 z6 z7 zl
          go_wp2_with fail
          refine (awake_any w6 (HHG.out.fr HF6.out (fun h => h))).mono ?_
          rintro e w7 ⟨rfl, hF7⟩
          go_wp2_with fail
          go_ret
          exact ⟨rfl, HF6.out.same hF7⟩
end Go.Proofs.YtanbfplcldloeaaGreatDoor
