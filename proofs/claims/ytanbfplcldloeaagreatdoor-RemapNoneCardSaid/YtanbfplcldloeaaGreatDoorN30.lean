/- A part of the proof for chapter 10: Core, FoldP, Awake10, Twin, NoneP, NoneQ, NoneR, NoneW; no conditions. -/
import Derived.Test.YtanbfplcldloeaaGreatDoorN22
import Derived.Test.YtanbfplcldloeaaGreatDoorN29
/- Chapter 10: what is told hangs on a rule's text alone, not on where it lies; the errors' numbers; the house. -/
namespace Go.Proofs.YtanbfplcldloeaaGreatDoor
open Go.RowKit
def ofCore (x : SpecR × Tree) : RuleM := ⟨x.1.name, x.1.expr, x.1.leaf, x.1.marks, x.1.least, x.1.most, x.1.lines, x.2, none, 0⟩
def normR (r : RuleM) : RuleM := ofCore (coreR r)
theorem specF_norm (rs : List RuleM) (t : Int) : specF (rs.map normR) t = (specF rs t).map normR := by
  unfold specF
  split
  · rw [List.getElem?_map]
  · rfl
theorem mayB_norm (rs : List RuleM) (r : RuleM) (x : Tok) : mayB (rs.map normR) (normR r) x = mayB rs r x := by
  unfold mayB
  rw [specF_norm]
  split
  · rfl
  · cases specF rs x.t <;> rfl
def normP (p : RuleM × List Int) : RuleM × List Int := (normR p.1, p.2)
def popF (f : RuleM × List Int → List (RuleM × List Int) → Int × Int) (i : Nat) : List (RuleM × List Int) → Int × Int
  | [] => (i, 9)
  | t :: st => f t st
theorem chkF_cons2 (rs : List RuleM) (g : List Grp) (top : RuleM × List Int) (st : List (RuleM × List Int)) (x : Tok) (l : List Tok) (i : Nat) : chkF rs g top st (x :: l) i =
    (if x.k = 2 then (if accB (typR g top.1) (starR top.1) top.2 then popF (fun t st => chkF rs g t st l (i + 1)) i st else (i, 9))
    else if mayB rs top.1 x = false then (i, 9)
    else if prefN (typR g top.1) (top.2 ++ [x.t]) < (top.2 ++ [x.t]).length then (i, 9)
    else if x.k = 1 then (specF rs x.t).elim (i, 9) (fun s => chkF rs g (s, []) ((top.1, top.2 ++ [x.t]) :: st) l (i + 1))
    else chkF rs g (top.1, top.2 ++ [x.t]) st l (i + 1) : Int × Int) := by
  rw [chkF_cons]
  cases st <;> cases specF rs x.t <;> rfl
theorem chkF_norm (rs : List RuleM) (g : List Grp) : ∀ (l : List Tok) (top : RuleM × List Int) (st : List (RuleM × List Int)) (i : Nat), chkF (rs.map normR) g (normP top) (st.map normP) l i = chkF rs g top st l i
  | [], top, st, i => by
    rw [chkF_nil, chkF_nil]
    have h : (normP top :: st.map normP).getLast (by simp) = normP ((top :: st).getLast (by simp)) := by
      rw [← List.getLast_map (f := normP) (by simp)]
      rfl
    rw [h]
    rfl
  | x :: l, top, st, i => by
    rw [chkF_cons2, chkF_cons2]
    have h1 : accB (typR g (normP top).1) (starR (normP top).1) (normP top).2 = accB (typR g top.1) (starR top.1) top.2 := rfl
    have h2 : mayB (rs.map normR) (normP top).1 x = mayB rs top.1 x := mayB_norm _ _ _
    have h3 : prefN (typR g (normP top).1) ((normP top).2 ++ [x.t]) = prefN (typR g top.1) (top.2 ++ [x.t]) := rfl
    have h4 : (normP top).2 = top.2 := rfl
    have e2 : chkF (rs.map normR) g ((normP top).1, top.2 ++ [x.t]) (st.map normP) l (i + 1) = chkF rs g (top.1, top.2 ++ [x.t]) st l (i + 1) := chkF_norm rs g l (top.1, top.2 ++ [x.t]) st (i + 1)
    have e3 : popF (fun t st => chkF (rs.map normR) g t st l (i + 1)) i (st.map normP) = popF (fun t st => chkF rs g t st l (i + 1)) i st := by
      cases st with
      | nil => rfl
      | cons t st => exact chkF_norm rs g l t st (i + 1)
    have e4 : (specF (rs.map normR) x.t).elim ((i : Int), (9 : Int)) (fun s => chkF (rs.map normR) g (s, []) (((normP top).1, top.2 ++ [x.t]) :: st.map normP) l (i + 1)) = (specF rs x.t).elim ((i : Int), (9 : Int)) (fun s => chkF rs g (s, []) ((top.1, top.2 ++ [x.t]) :: st) l (i + 1)) := by
      rw [specF_norm]
      cases specF rs x.t with
      | none => rfl
      | some s => exact chkF_norm rs g l (s, []) ((top.1, top.2 ++ [x.t]) :: st) (i + 1)
    rw [h1, h2, h3, h4, e2, e3, e4]
theorem checkF_norm (rs : List RuleM) (g : List Grp) (l : List Tok) : checkF (rs.map normR) g l = checkF rs g l := by
  unfold checkF
  cases rs with
  | nil => rfl
  | cons r rs => rw [List.map_cons]; simp only []; rw [← chkF_norm (r :: rs) g l (r, []) [] 0]; rfl
/-- The house's rules, wherever they lie. -/
def houseR : List RuleM := ((wholeS ⟨#[98, 108, 111, 99, 107, 43]⟩ :: houseL).map coreS).map ofCore
theorem norm_house {rs : List RuleM} (h : rs.map coreR = (wholeS ⟨#[98, 108, 111, 99, 107, 43]⟩ :: houseL).map coreS) : rs.map normR = houseR := by
  unfold houseR
  rw [← h, List.map_map]
  rfl
theorem checkF_house {rs : List RuleM} (h : rs.map coreR = (wholeS ⟨#[98, 108, 111, 99, 107, 43]⟩ :: houseL).map coreS) (g : List Grp) (l : List Tok) : checkF rs g l = checkF houseR g l := by
  rw [← norm_house h, checkF_norm]
def coreOkB (g : List Grp) (x : SpecR × Tree) : Bool := (x.1.leaf || (match x.2 with
  | .node k n [.node 1 nm []] => (k == 4 || k == 5) && decide (n = ⟨#[]⟩) && decide (nm.size ≤ 1000000) && checkR g (repT (decide (k = 4)) nm) == 0
  | _ => false)) && (x.1.marks == 0 || x.1.marks == 7)
theorem house_schok {rs : List RuleM} (h : rs.map coreR = (wholeS ⟨#[98, 108, 111, 99, 107, 43]⟩ :: houseL).map coreS) : SchOk rs (groupsF houseL houseG) := by
  have hall : ((wholeS ⟨#[98, 108, 111, 99, 107, 43]⟩ :: houseL).map coreS).all (coreOkB (groupsF houseL houseG)) = true := by kernel_rfl
  rw [← h] at hall
  have hr : ∀ r ∈ rs, coreOkB (groupsF houseL houseG) (coreR r) = true := fun r hr => List.all_eq_true.1 hall _ (List.mem_map_of_mem hr)
  refine ⟨fun r hm hl => ?_, fun r hm => ?_, fun r hr0 => ?_⟩
  · have h1 := hr r hm
    unfold coreOkB at h1
    rw [Bool.and_eq_true] at h1
    have h2 := h1.1
    have h3 : (coreR r).1.leaf = false := hl
    have h4 : (coreR r).2 = r.e := rfl
    rw [h3, Bool.false_or, h4] at h2
    cases he : r.e with
    | node k n l =>
      rw [he] at h2
      match l, h2 with
      | [.node 1 nm []], h2 =>
        simp only [Bool.and_eq_true, Bool.or_eq_true, beq_iff_eq, decide_eq_true_eq] at h2
        obtain ⟨⟨⟨h5, h6⟩, h7⟩, h8⟩ := h2
        have hs : starR r = decide (k = 4) := by unfold starR; rw [he]; rfl
        have hn : nmR r = nm := by unfold nmR; rw [he]; rfl
        rw [hs, hn]
        refine ⟨?_, ⟨house_gok, h7, h8⟩⟩
        unfold repT
        rcases h5 with rfl | rfl
        · simp [h6]
        · simp [h6]
  · have h1 := hr r hm
    unfold coreOkB at h1
    simp only [Bool.and_eq_true, Bool.or_eq_true, beq_iff_eq] at h1
    exact h1.2
  · have h1 : (rs.map coreR)[0]? = some (coreR r) := by rw [List.getElem?_map, hr0]; rfl
    rw [h] at h1
    injection h1 with h1
    have h2 : (coreR r).1.leaf = false := by rw [← h1]; rfl
    exact h2
/-- An error's number. -/
def ErrN (e : Int) : Prop := e = 0 ∨ 1 ≤ e ∧ e ≤ 12
theorem flatF_rng : ∀ (l : List Tok) (i n : Nat), ErrN (flatF l i n).2
  | [], i, n => by
    unfold flatF
    split
    · exact .inr ⟨by simp, by simp⟩
    · exact .inl rfl
  | x :: l, i, n => by
    unfold flatF
    split
    · exact .inr ⟨by simp, by simp⟩
    · split
      · exact .inr ⟨by simp, by simp⟩
      · exact flatF_rng l _ _
theorem flatCheck_rng (l : List Tok) : ErrN (flatCheck l).2 := by
  unfold flatCheck
  split
  · exact .inr ⟨by simp, by simp⟩
  · exact flatF_rng _ _ _
theorem chkF_rng (rs : List RuleM) (g : List Grp) : ∀ (l : List Tok) (top : RuleM × List Int) (st : List (RuleM × List Int)) (i : Nat), ErrN (chkF rs g top st l i).2
  | [], top, st, i => by
    rw [chkF_nil]
    split
    · exact .inl rfl
    · exact .inr ⟨by simp, by simp⟩
  | x :: l, top, st, i => by
    rw [chkF_cons]
    split
    · split
      · cases st with
        | nil => exact .inr ⟨by simp, by simp⟩
        | cons t st => exact chkF_rng rs g l _ _ _
      · exact .inr ⟨by simp, by simp⟩
    · split
      · exact .inr ⟨by simp, by simp⟩
      · split
        · exact .inr ⟨by simp, by simp⟩
        · split
          · cases specF rs x.t with
            | none => exact .inr ⟨by simp, by simp⟩
            | some s => exact chkF_rng rs g l _ _ _
          · exact chkF_rng rs g l _ _ _
theorem checkF_rng (rs : List RuleM) (g : List Grp) (l : List Tok) : ErrN (checkF rs g l).2 := by
  unfold checkF
  split
  · exact flatCheck_rng l
  · split
    · exact .inr ⟨by simp, by simp⟩
    · exact chkF_rng _ _ _ _ _ _
theorem applyE_rng (s : StepM) (l : List Tok) : ErrN (applyE s l) := by
  unfold applyE
  split
  · exact flatCheck_rng l
  · split
    · unfold stepF
      split
      · exact .inr ⟨by simp, by simp⟩
      · split
        · exact .inl rfl
        · exact .inr ⟨by simp, by simp⟩
    · split
      · exact .inr ⟨by simp, by simp⟩
      · split
        · exact .inr ⟨by simp, by simp⟩
        · exact flatCheck_rng _
theorem doE_rng (rs : List RuleM) (g : List Grp) (s : StepM) (l : List Tok) : ErrN (doE rs g s l) := by
  unfold doE
  split
  · exact applyE_rng s l
  · exact checkF_rng _ _ _
theorem runF_rng (rs : List RuleM) (g : List Grp) : ∀ (L : List StepM) (l : List Tok), ErrN (runF rs g L l).2
  | [], l => .inl rfl
  | s :: L, l => by
    unfold runF
    split
    · exact runF_rng rs g L _
    · exact doE_rng _ _ _ _
theorem numF_of {e : Int} (h : ErrN e) : numF e = e := by
  unfold numF
  rcases h with rfl | h
  · rfl
  · exact if_pos h
end Go.Proofs.YtanbfplcldloeaaGreatDoor

/- Chapter 10: the steps make the document: in plain words. -/
namespace Go.Proofs.YtanbfplcldloeaaGreatDoor
open Go.RowKit
theorem runF_ok {rs : List RuleM} {g : List Grp} {s : StepM} {L : List StepM} {l d : List Tok} (h : runF rs g (s :: L) l = (d, 0)) : doE rs g s l = 0 ∧ runF rs g L (doF s l) = (d, 0) := by
  unfold runF at h
  split at h
  · rename_i h0; exact ⟨h0, h⟩
  · rename_i h0; injection h with _ h2; exact absurd h2 h0
theorem runF_append {rs : List RuleM} {g : List Grp} : ∀ {A B : List StepM} {l d : List Tok}, runF rs g A l = (d, 0) → runF rs g (A ++ B) l = runF rs g B d
  | [], B, l, d, h => by
    unfold runF at h
    injection h with h1
    rw [h1, List.nil_append]
  | s :: A, B, l, d, h => by
    obtain ⟨h0, h1⟩ := runF_ok h
    rw [List.cons_append]
    have e : runF rs g (s :: (A ++ B)) l = runF rs g (A ++ B) (doF s l) := by
      rw [runF, if_pos h0]
    rw [e]
    exact runF_append h1
structure FoldK (rs : List RuleM) (g : List Grp) (n i : Nat) (r r' : RebM) (S : List StepM) (K : List Nat) : Prop where
  steps : r'.steps = r.steps ++ S
  kept : r'.kept = r.kept ++ K
  len : S.length = K.length
  run : runF rs g S r.doc = (r'.doc, 0)
  lo : ∀ k ∈ K, i ≤ k ∧ k < i + n
  up : K.Pairwise (· < ·)
theorem rbGo_fold (rs : List RuleM) (g : List Grp) (n : Nat) : ∀ (own : List StepM) (i : Nat) (ms : List OneM) (r : RebM), ∃ S K, FoldK rs g own.length i r (rbGo rs g n own i ms r) S K
  | [], i, ms, r => ⟨[], [], by rw [rbGo]; simp, by rw [rbGo]; simp, rfl, by rw [rbGo]; rfl, fun k h => (by cases h), List.Pairwise.nil⟩
  | s :: own, i, ms, r => by
    rw [rbGo]
    have skip : ∀ r', (∃ S K, FoldK rs g own.length (i + 1) r r' S K) → ∃ S K, FoldK rs g (s :: own).length i r r' S K := by
      rintro r' ⟨S, K, h⟩
      refine ⟨S, K, h.steps, h.kept, h.len, h.run, fun k hk => ?_, h.up⟩
      have := h.lo k hk
      rw [List.length_cons]
      omega
    split
    · exact skip _ (rbGo_fold rs g n own (i + 1) ms r)
    · rename_i x _
      split
      · rename_i h0
        obtain ⟨S, K, h⟩ := rbGo_fold rs g n own (i + 1) (mirL (ms ++ [mapM x]) (n - 1 - i) ms.length) ⟨doF x r.doc, r.steps ++ [x], r.kept ++ [i]⟩
        refine ⟨x :: S, i :: K, ?_, ?_, by rw [List.length_cons, List.length_cons, h.len], ?_, ?_, ?_⟩
        · rw [h.steps, List.append_assoc, List.singleton_append]
        · rw [h.kept, List.append_assoc, List.singleton_append]
        · rw [runF, if_pos h0]
          exact h.run
        · intro k hk
          rw [List.length_cons]
          rcases List.mem_cons.1 hk with rfl | hk
          · omega
          · have := h.lo k hk
            omega
        · refine List.pairwise_cons.2 ⟨fun k hk => ?_, h.up⟩
          have := h.lo k hk
          omega
      · exact skip _ (rbGo_fold rs g n own (i + 1) ms r)
/-- What comes of Rebase. -/
structure Folds (rs : List RuleM) (g : List Grp) (l : List Tok) (own over : List StepM) (R : RebM) : Prop where
  run : runF rs g (over ++ R.steps) l = (R.doc, 0)
  len : R.kept.length = R.steps.length
  lo : ∀ k ∈ R.kept, k < own.length
  up : R.kept.Pairwise (· < ·)
theorem rebase_fold {rs : List RuleM} {g : List Grp} {l : List Tok} {own over : List StepM} (h : (rebaseF rs g l own over).2 = 0) : Folds rs g l own over (rebaseF rs g l own over).1 := by
  unfold rebaseF at h ⊢
  split at h
  · rename_i h0; exact absurd h h0
  · rename_i h0
    rw [if_neg h0]
    split at h
    · cases h
    · rename_i h1
      rw [if_neg h1]
      split at h
      · rename_i h2
        have h' : numF (runF rs g own l).2 = 0 := h
        rw [numF_of (runF_rng _ _ _ _)] at h'
        exact absurd h' h2
      · rename_i h2
        rw [if_neg h2]
        split at h
        · rename_i h3
          have h' : numF (runF rs g over l).2 = 0 := h
          rw [numF_of (runF_rng _ _ _ _)] at h'
          exact absurd h' h3
        · rename_i h3
          rw [if_neg h3]
          obtain ⟨S, K, hf⟩ := rbGo_fold rs g own.length own 0 ((own.map undoM).reverse ++ over.map mapM) ⟨(runF rs g over l).1, [], []⟩
          have hs := hf.steps
          have hk := hf.kept
          simp only [List.nil_append] at hs hk
          refine ⟨?_, ?_, ?_, ?_⟩
          · have h5 : runF rs g over l = ((runF rs g over l).1, 0) := Prod.ext rfl (Decidable.not_not.1 h3)
            show runF rs g (over ++ (rbGo rs g own.length own 0 ((own.map undoM).reverse ++ over.map mapM) ⟨(runF rs g over l).1, [], []⟩).steps) l = _
            rw [runF_append h5, hs]
            exact hf.run
          · show (rbGo rs g own.length own 0 ((own.map undoM).reverse ++ over.map mapM) ⟨(runF rs g over l).1, [], []⟩).kept.length = (rbGo rs g own.length own 0 ((own.map undoM).reverse ++ over.map mapM) ⟨(runF rs g over l).1, [], []⟩).steps.length
            rw [hs, hk, hf.len]
          · intro k hk'
            have hk2 : k ∈ (rbGo rs g own.length own 0 ((own.map undoM).reverse ++ over.map mapM) ⟨(runF rs g over l).1, [], []⟩).kept := hk'
            rw [hk] at hk2
            have := hf.lo k hk2
            omega
          · show (rbGo rs g own.length own 0 ((own.map undoM).reverse ++ over.map mapM) ⟨(runF rs g over l).1, [], []⟩).kept.Pairwise (· < ·)
            rw [hk]
            exact hf.up
theorem rebase_err {rs : List RuleM} {g : List Grp} {l : List Tok} {own over : List StepM} (h : (rebaseF rs g l own over).2 ≠ 0) : (rebaseF rs g l own over).1 = ⟨[], [], []⟩ := by
  unfold rebaseF at h ⊢
  split
  · rfl
  · rename_i h0
    rw [if_neg h0] at h
    split
    · rfl
    · rename_i h1
      rw [if_neg h1] at h
      split
      · rfl
      · rename_i h2
        rw [if_neg h2] at h
        split
        · rfl
        · rename_i h3
          rw [if_neg h3] at h
          exact absurd rfl h
theorem runF_short {rs : List RuleM} {g : List Grp} : ∀ {L : List StepM} {l r : List Tok}, l.length ≤ 2048 → runF rs g L l = (r, 0) → r.length ≤ 2048
  | [], _, _, hl, h => by cases h; exact hl
  | s :: L, l, r, hl, h => by
    obtain ⟨h0, h1⟩ := runF_ok h
    exact runF_short (flat_short (applyE_zero (doE_zero h0).1).2.2.2) h1
theorem checkF_flat {rs : List RuleM} {g : List Grp} {l : List Tok} (h : (checkF rs g l).2 = 0) : l.length ≤ 2048 := by
  unfold checkF at h
  split at h
  · rename_i h0; exact absurd h h0
  · rename_i h0; exact flat_short (Decidable.not_not.1 h0)
theorem rebase_short {rs : List RuleM} {g : List Grp} {l : List Tok} {own over : List StepM} : (rebaseF rs g l own over).1.doc.length ≤ 2048 := by
  by_cases h : (rebaseF rs g l own over).2 = 0
  · have hf := rebase_fold h
    refine runF_short ?_ hf.run
    unfold rebaseF at h
    split at h
    · rename_i h0; exact absurd h h0
    · rename_i h0; exact checkF_flat (Decidable.not_not.1 h0)
  · rw [rebase_err h]
    exact Nat.zero_le _
/-- The document by which a law sees that the program computes at all. -/
def awakeD : List Tok := [⟨1, 1, 0, 0⟩, ⟨2, 0, 0, 0⟩]
theorem rebase_awake {rs : List RuleM} (h : rs.map coreR = (wholeS ⟨#[98, 108, 111, 99, 107, 43]⟩ :: houseL).map coreS) : rebaseF rs (groupsF houseL houseG) awakeD [] [] = (⟨awakeD, [], []⟩, 0) := by
  have h1 : (checkF houseR (groupsF houseL houseG) awakeD).2 = 0 := by kernel_rfl
  unfold rebaseF
  rw [checkF_house h, if_neg (by rw [h1]; simp)]
  rfl
end Go.Proofs.YtanbfplcldloeaaGreatDoor

/- Chapter 10: what the laws lean on: 'awake', 'small', 'alike'. -/
namespace Go.Proofs.YtanbfplcldloeaaGreatDoor
open Go.RowKit
set_option maxRecDepth 100000 in
set_option maxHeartbeats 2000000 in
theorem awake_any (w : World) (hG : HG w) : Calls Tryz.prog 15 #[] w fun e w' => e = .returned (.bool true) ∧ Fr Nob w w' := by
  have HHG := Lib.hid hG
  clear hG
  go_enter Tryz.func15, Tryz.ntmps15
  go_wp2_with fail
  refine (house_any w HHG.out).mono ?_
  rintro e w1 ⟨⟨p, rs, rfl, hS, hC⟩, hF1⟩
  have HS := Lib.hid (hS.mono (M' := Nob) (fun _ h => h.elim))
  have HC := Lib.hid hC
  have HF1 := Lib.hid hF1
  clear hS hC hF1
  go_wp2_with fail
  obtain ⟨W, hW⟩ : ∃ W, w1.alloc (.cells #[.int .i64 1, .int .i64 1, .int .i64 0, .int .i64 0, .int .i64 2, .int .i64 0, .int .i64 0, .int .i64 0] 65) = W := ⟨_, rfl⟩
  have HB := Lib.hid (show Blk W w1.heap.size (tokC awakeD) 65 by rw [← hW]; exact Blk.new _ _ _)
  have HF2 := Lib.hid (show Fr Nob w1 W by rw [← hW]; exact (Fr.refl _ _).alloc _)
  rw [hW]
  clear hW
  have hreb := rebase_any Nob p rs (groupsF houseL houseG) (house_schok HC.out) [] [] none none 0 0 (.slice (some ⟨w1.heap.size, 0, none⟩) 2 2) awakeD W (fun _ h => h.elim) (HS.out.fr0 HF2.out) ⟨_, _, rfl, Nat.le_refl _, fun _ => ⟨_, rfl, fun h => h, fun j u hu => by rw [add_lit]; exact (HB.out.cell j).trans hu⟩⟩ ⟨Rd.nil _ _ _, fun _ h => (by cases h), fun _ h => (by cases h)⟩ ⟨Rd.nil _ _ _, fun _ h => (by cases h), fun _ h => (by cases h)⟩ (by decide) (by decide)
  simp only [List.map_nil, rebase_awake HC.out] at hreb
  refine hreb.mono ?_
  clear hreb
  rintro e w2 ⟨dv, sv, kv, rfl, hv, hF3⟩
  obtain ⟨⟨A, c, rfl, _, _⟩, ⟨SA, sc, L, rfl, _, hL⟩, ⟨KA, kc, rfl, _⟩⟩ := hv
  have hL0 : L = [] := List.map_eq_nil_iff.1 hL
  subst hL0
  have HF3 := Lib.hid ((HF1.out.same HF2.out).same hF3)
  clear hF3 hL
  obtain ⟨n2, hn2⟩ : ∃ n : Nat, awakeD.length = n := ⟨_, rfl⟩
  have hn2' : n2 = 2 := by rw [← hn2]; rfl
  simp only [hn2, List.length_nil]
  clear hn2
  subst hn2'
  go_wp2_with fail
  go_ret
  exact ⟨rfl, HF3.out.alloc _⟩
set_option maxRecDepth 100000 in
theorem small_any (BA OA VA : Option Addr) (bn on vn bc oc vc : Nat) (w : World) :
    Calls Tryz.prog 16 #[.slice BA bn bc, .slice OA on oc, .slice VA vn vc] w fun e w' => e = .returned (.bool (decide (bn ≤ 200) && (decide (on ≤ 20) && decide (vn ≤ 20)))) ∧ w' = w := by
  by_cases h1 : bn ≤ 200
  · have h1' : (bn : Int) ≤ 200 := by omega
    by_cases h2 : on ≤ 20
    · have h2' : (on : Int) ≤ 20 := by omega
      by_cases h3 : vn ≤ 20
      · have h3' : (vn : Int) ≤ 20 := by omega
        rw [decide_eq_true h1, decide_eq_true h2, decide_eq_true h3]
        clear h1 h2 h3
        go_enter Tryz.func16, Tryz.ntmps16
        go_wp2_with fail
        go_ret
        exact ⟨rfl, rfl⟩
      · have h3' : ¬ (vn : Int) ≤ 20 := by omega
        rw [decide_eq_true h1, decide_eq_true h2, decide_eq_false h3]
        clear h1 h2 h3
        go_enter Tryz.func16, Tryz.ntmps16
        go_wp2_with fail
        go_ret
        exact ⟨rfl, rfl⟩
    · have h2' : ¬ (on : Int) ≤ 20 := by omega
      rw [decide_eq_true h1, decide_eq_false h2]
      clear h1 h2
      go_enter Tryz.func16, Tryz.ntmps16
      go_wp2_with fail
      go_ret
      exact ⟨rfl, rfl⟩
  · have h1' : ¬ (bn : Int) ≤ 200 := by omega
    rw [decide_eq_false h1]
    clear h1
    go_enter Tryz.func16, Tryz.ntmps16
    go_wp2_with fail
    go_ret
    exact ⟨rfl, rfl⟩
def sameF : List Tok → List Tok → Bool
  | [], _ => true
  | _ :: _, [] => true
  | x :: l, y :: m => decide (x = y) && sameF l m
theorem sameF_self : ∀ l : List Tok, sameF l l = true
  | [] => rfl
  | x :: l => by unfold sameF; rw [decide_eq_true rfl, sameF_self l]; rfl
theorem sameF_eq : ∀ (l m : List Tok), l.length = m.length → sameF l m = true → l = m
  | [], [], _, _ => rfl
  | [], _ :: _, h, _ => by cases h
  | _ :: _, [], h, _ => by cases h
  | x :: l, y :: m, h, h' => by
    unfold sameF at h'
    rw [Bool.and_eq_true] at h'
    rw [of_decide_eq_true h'.1, sameF_eq l m (by simpa using h) h'.2]
set_option maxRecDepth 100000 in
set_option maxHeartbeats 2000000 in
/-- The same tokens: so it says. -/
theorem alike_same (M M' : Nat → Prop) (l : List Tok) (A A' : Option Addr) (c c' : Nat) (w : World) (hl : l.length ≤ 4611686018427387904) (hR : Rd M w A (tokC l)) (hR' : Rd M' w A' (tokC l)) :
    Calls Tryz.prog 21 #[.slice A l.length c, .slice A' l.length c'] w fun e w' => e = .returned (.bool true) ∧ Fr Nob w w' := by
  have HR := Lib.hid hR
  have HR' := Lib.hid hR'
  clear hR hR'
  go_enter Tryz.func21, Tryz.ntmps21
  go_wp2_with fail
  go_loopg [5] (l.length) (fun n s5 wr => ∃ (k : Nat), n = l.length - k ∧ k ≤ l.length ∧ s5 = .int .i64 k ∧ Hid (Fr Nob w wr))
  case atStart => exact ⟨0, rfl, Nat.zero_le _, rfl, Fr.refl _ _⟩
  case round =>
    obtain ⟨k, rfl, hk, rfl, HF⟩ := hrel
    by_cases hlt : k < l.length
    · have ht : ((k : Int) < (l.length : Int)) := by omega
      obtain ⟨ad, rfl, hnb, hbl, h0, hj⟩ := Rd.elt Tok.cells_len (by omega) (HR.out.fr HF.out (fun _ _ h => h.elim)) hlt
      obtain ⟨ad', rfl, hnb', hbl', h0', hj'⟩ := Rd.elt Tok.cells_len (by omega) (HR'.out.fr HF.out (fun _ _ h => h.elim)) hlt
      have q1 := hj 0 (by omega)
      have q2 := hj 1 (by omega)
      have q3 := hj 2 (by omega)
      have q1' := hj' 0 (by omega)
      have q2' := hj' 1 (by omega)
      have q3' := hj' 2 (by omega)
      generalize l[k] = x at h0 q1 q2 q3 h0' q1' q2' q3'
      clear hj hj' hnb hnb'
      simp only [Tok.cells, List.getElem?_cons_zero, List.getElem?_cons_succ] at h0 q1 q2 q3 h0' q1' q2' q3'
      go_wp2_with (first | go_quiet (fail) | fail)
      go_roundg (l.length - (k + 1))
      case measure => omega
      case rel => exact ⟨k + 1, rfl, by omega, by first | rfl | go_num, HF.out.drewN _⟩
    · have ht : ¬ ((k : Int) < (l.length : Int)) := by omega
      go_wp2_with fail
      go_ret
      exact ⟨rfl, HF.out⟩
end Go.Proofs.YtanbfplcldloeaaGreatDoor

/- Chapter 10: what the laws lean on: 'twin', 'list'. -/
namespace Go.Proofs.YtanbfplcldloeaaGreatDoor
open Go.RowKit
set_option maxRecDepth 100000 in
set_option maxHeartbeats 4000000 in
/-- The same steps: so it says. -/
theorem twin_same (M M' : Nat → Prop) (s : StepM) (A A' : Option Addr) (c c' : Nat) (w : World) (hl : s.l.length ≤ 4611686018427387904) (hR : Rd M w A (tokC s.l)) (hR' : Rd M' w A' (tokC s.l)) :
    Calls Tryz.prog 14 #[.agg (StepA.cells ⟨s, A, c⟩).toArray, .agg (StepA.cells ⟨s, A', c'⟩).toArray] w fun e w' => e = .returned (.bool true) ∧ Fr Nob w w' := by
  obtain ⟨k, f, t, gf, gt, ins, m, l⟩ := s
  have HR := Lib.hid hR
  have HR' := Lib.hid hR'
  have HL := Lib.hid hl
  clear hR hR' hl
  simp only [StepA.cells, StepM.cells] at HR HR' HL ⊢
  obtain ⟨n, hn⟩ : ∃ n, l.length = n := ⟨_, rfl⟩
  have HN := Lib.hid hn
  rw [hn]
  clear hn
  go_enter Tryz.func14, Tryz.ntmps14
  go_upto_region 1 with (fail)
  obtain ⟨X, hX⟩ : ∃ b, w.heap.size = b := ⟨_, rfl⟩
  obtain ⟨W1, hW1⟩ : ∃ W, w.alloc (.cells #[.int .i64 k, .int .i64 f, .int .i64 t, .int .i64 gf, .int .i64 gt, .int .i64 ins, .slice A n c, .int .i64 m] 24) = W := ⟨_, rfl⟩
  obtain ⟨Y, hY⟩ : ∃ b, W1.heap.size = b := ⟨_, rfl⟩
  obtain ⟨W2, hW2⟩ : ∃ W, W1.alloc (.cells #[.int .i64 k, .int .i64 f, .int .i64 t, .int .i64 gf, .int .i64 gt, .int .i64 ins, .slice A' n c', .int .i64 m] 24) = W := ⟨_, rfl⟩
  have HB1 := Lib.hid (show Blk W2 X [.int .i64 k, .int .i64 f, .int .i64 t, .int .i64 gf, .int .i64 gt, .int .i64 ins, .slice A n c, .int .i64 m] 24 by
    rw [← hW2, ← hW1, ← hX]
    exact (Blk.new _ _ _).alloc _)
  have HB2 := Lib.hid (show Blk W2 Y [.int .i64 k, .int .i64 f, .int .i64 t, .int .i64 gf, .int .i64 gt, .int .i64 ins, .slice A' n c', .int .i64 m] 24 by
    rw [← hW2, ← hY]
    exact Blk.new _ _ _)
  have HF := Lib.hid (show Fr Nob w W2 by rw [← hW2, ← hW1]; exact ((Fr.refl _ _).alloc _).alloc _)
  have hY2 : X + 1 = Y := by rw [← hY, ← hW1, ← hX]; simp
  rw [hW1, hW2, hX, hY2]
  clear hW1 hW2 hX hY hY2
  have a0 := HB1.out.cell 0
  have a1 := HB1.out.cell 1
  have a2 := HB1.out.cell 2
  have a3 := HB1.out.cell 3
  have a4 := HB1.out.cell 4
  have a5 := HB1.out.cell 5
  have a6 := HB1.out.cell 6
  have a7 := HB1.out.cell 7
  have al := HB1.out.lt
  have b0 := HB2.out.cell 0
  have b1 := HB2.out.cell 1
  have b2 := HB2.out.cell 2
  have b3 := HB2.out.cell 3
  have b4 := HB2.out.cell 4
  have b5 := HB2.out.cell 5
  have b6 := HB2.out.cell 6
  have b7 := HB2.out.cell 7
  have bl := HB2.out.lt
  simp only [List.getElem?_cons_zero, List.getElem?_cons_succ] at a0 a1 a2 a3 a4 a5 a6 a7 b0 b1 b2 b3 b4 b5 b6 b7
  go_wp2_with fail
  have h := alike_same M M' l A A' c c' W2 HL.out (HR.out.fr HF.out (fun _ _ h => h.elim)) (HR'.out.fr HF.out (fun _ _ h => h.elim))
  rw [HN.out] at h
  refine h.mono ?_
  clear h
  rintro e w2 ⟨rfl, hF2⟩
  go_wp2_with fail
  go_ret
  exact ⟨rfl, HF.out.same hF2⟩
set_option maxRecDepth 100000 in
set_option maxHeartbeats 4000000 in
/-- Rows of the same steps: so it says. -/
theorem list_same (L L' : List StepA) (hLL : L.map StepA.s = L'.map StepA.s) (A A' : Option Addr) (n c c' : Nat) (w : World) (hn : L.length = n) (h63 : n ≤ 4611686018427387904) (hs : ∀ x ∈ L, x.s.l.length ≤ 4611686018427387904) (hR : StepsM Nob w A L) (hR' : StepsM Nob w A' L') :
    Calls Tryz.prog 22 #[.slice A n c, .slice A' n c'] w fun e w' => e = .returned (.bool true) ∧ Fr Nob w w' := by
  have hn' : L'.length = n := by
    have := congrArg List.length hLL
    rw [List.length_map, List.length_map] at this
    omega
  have HLL := Lib.hid hLL
  have HS := Lib.hid hs
  have HN := Lib.hid hn
  have HN' := Lib.hid hn'
  have HR := Lib.hid hR
  have HR' := Lib.hid hR'
  clear hLL hs hn hn' hR hR'
  go_enter Tryz.func22, Tryz.ntmps22
  go_wp2_with fail
  go_loopg [5] (n) (fun m s5 wr => ∃ (k : Nat), m = n - k ∧ k ≤ n ∧ s5 = .int .i64 k ∧ Hid (Fr Nob w wr))
  case atStart => exact ⟨0, rfl, Nat.zero_le _, rfl, Fr.refl _ _⟩
  case round =>
    obtain ⟨k, rfl, hk, rfl, HF⟩ := hrel
    by_cases hlt : k < n
    · have ht : ((k : Int) < (n : Int)) := by omega
      have hlt1 : k < L.length := by rw [HN.out]; exact hlt
      have hlt2 : k < L'.length := by rw [HN'.out]; exact hlt
      have hxs : L[k].s = L'[k].s := by
        have h1 : (L.map StepA.s)[k]? = (L'.map StepA.s)[k]? := by rw [HLL.out]
        rw [List.getElem?_map, List.getElem?_map, List.getElem?_eq_getElem hlt1, List.getElem?_eq_getElem hlt2] at h1
        exact Option.some.inj h1
      have hrx := HR.out.each _ (List.getElem_mem hlt1)
      have hry := HR'.out.each _ (List.getElem_mem hlt2)
      have hsx := HS.out _ (List.getElem_mem hlt1)
      obtain ⟨ad, rfl, _, hbl, h0, hj⟩ := Rd.elt StepA.cells_len (by omega) (HR.out.row.fr HF.out (fun _ _ h => h.elim)) hlt1
      obtain ⟨ad', rfl, _, hbl', h0', hj'⟩ := Rd.elt StepA.cells_len (by omega) (HR'.out.row.fr HF.out (fun _ _ h => h.elim)) hlt2
      have q1 := hj 0 (by omega)
      have q2 := hj 1 (by omega)
      have q3 := hj 2 (by omega)
      have q4 := hj 3 (by omega)
      have q5 := hj 4 (by omega)
      have q6 := hj 5 (by omega)
      have q7 := hj 6 (by omega)
      have p1 := hj' 0 (by omega)
      have p2 := hj' 1 (by omega)
      have p3 := hj' 2 (by omega)
      have p4 := hj' 3 (by omega)
      have p5 := hj' 4 (by omega)
      have p6 := hj' 5 (by omega)
      have p7 := hj' 6 (by omega)
      clear hj hj'
      generalize L[k] = x at hxs hrx hsx h0 q1 q2 q3 q4 q5 q6 q7
      generalize L'[k] = y at hxs hry h0' p1 p2 p3 p4 p5 p6 p7
      obtain ⟨s, B, b⟩ := x
      obtain ⟨s', B', b'⟩ := y
      simp only at hxs
      subst hxs
      have HX := Lib.hid hrx
      have HY := Lib.hid hry
      have HSX := Lib.hid hsx
      clear hrx hry hsx
      simp only [StepA.cells, StepM.cells, List.getElem?_cons_zero, List.getElem?_cons_succ] at h0 q1 q2 q3 q4 q5 q6 q7 h0' p1 p2 p3 p4 p5 p6 p7
      go_wp2_with fail
      go_still_tail 8, (by kernel_rfl)
      change wpList _ _ _ _ _ wr.drew
      generalize hwd : wr.drew = wd
      have hFd : Fr Nob wr wd := by subst hwd; exact (Fr.refl _ _).drew
      have HFD := Lib.hid (HF.out.same hFd)
      have h := twin_same Nob Nob s B B' b b' wd HSX.out (HX.out.fr HFD.out (fun _ _ h => h.elim)) (HY.out.fr HFD.out (fun _ _ h => h.elim))
      simp only [StepA.cells, StepM.cells] at h
      go_wp2_with fail
      refine h.mono ?_
      clear h
      rintro e w2 ⟨rfl, hF2⟩
      go_wp2_with fail
      go_roundg (n - (k + 1))
      case measure => omega
      case rel => exact ⟨k + 1, rfl, by omega, by first | rfl | go_num, HFD.out.same hF2⟩
    · have ht : ¬ ((k : Int) < (n : Int)) := by omega
      go_wp2_with fail
      go_ret
      exact ⟨rfl, HF.out⟩
end Go.Proofs.YtanbfplcldloeaaGreatDoor

/- Chapter 10: a map undone and done again leaves a place where it was. -/
namespace Go.Proofs.YtanbfplcldloeaaGreatDoor
open Go.RowKit
/-- ys undoes xs, at one place, on one side: either the place is in what ys takes away, and xs gives it back; or ys moves it, and xs moves it back. -/
def Back (xs ys : List Rng) (p side : Int) : Prop :=
  (posmapF ys p side).2 = 0 ∧
  ((0 ≤ (posmapF ys p side).1.i ∧ (posmapF ys p side).1.i < (xs.length : Int) ∧ recF xs (posmapF ys p side).1.i (min (posmapF ys p side).1.o (nAt xs (posmapF ys p side).1.i)) = (p, 0)) ∨
   ((posmapF ys p side).1.i < 0 ∧ (posmapF ys p side).1.g = false ∧ (posmapF xs (posmapF ys p side).1.a side).2 = 0 ∧ (posmapF xs (posmapF ys p side).1.a side).1.a = p ∧ (posmapF xs (posmapF ys p side).1.a side).1.g = false))
theorem posmapF_in (xs : List Rng) (p side : Int) (h0 : 0 ≤ p) (h1 : p ≤ 65536) : posmapF xs p side = (mapGo xs p side 0 xs, 0) := by
  unfold posmapF
  rw [if_neg (by omega)]
theorem back_nil (p side : Int) (h0 : 0 ≤ p) (h1 : p ≤ 65536) : Back [] [] p side := by
  have e := posmapF_in [] p side h0 h1
  have e2 : mapGo [] p side 0 [] = ⟨p, false, -1, 0⟩ := by simp [mapGo, dF]
  rw [e2] at e
  unfold Back
  rw [e]
  simp only
  rw [e]
  exact ⟨by simp, .inr ⟨by decide, by simp, by simp, by simp, by simp⟩⟩
theorem back_one (a o n p side : Int) (ha : 0 ≤ a ∧ a ≤ 4096) (ho : 0 ≤ o ∧ o ≤ 4096) (hn : 0 ≤ n ∧ n ≤ 4096) (hp : 0 ≤ p ∧ p ≤ 57000) : Back [⟨a, o, n⟩] [⟨a, n, o⟩] p side := by
  have e := posmapF_in [⟨a, n, o⟩] p side hp.1 (by omega)
  unfold Back
  rw [e]
  simp only
  by_cases h1 : p < a
  · have m1 : mapGo [⟨a, n, o⟩] p side 0 [⟨a, n, o⟩] = ⟨p, false, -1, 0⟩ := by simp [mapGo, h1, dF]
    have m2 : mapGo [⟨a, o, n⟩] p side 0 [⟨a, o, n⟩] = ⟨p, false, -1, 0⟩ := by simp [mapGo, h1, dF]
    rw [m1]
    simp only
    rw [posmapF_in [⟨a, o, n⟩] p side hp.1 (by omega), m2]
    exact ⟨by simp, .inr ⟨by decide, by simp, by simp, by simp, by simp⟩⟩
  · by_cases h2 : p ≤ a + n
    · have m1 : mapGo [⟨a, n, o⟩] p side 0 [⟨a, n, o⟩] = spotF a p side 0 ⟨a, n, o⟩ := by simp [mapGo, h1, h2, begF, dF]
      rw [m1]
      by_cases h3 : side < 0 ∧ p ≠ a ∨ 0 ≤ side ∧ p ≠ a + n
      · have m2 : (spotF a p side 0 ⟨a, n, o⟩).i = 0 ∧ (spotF a p side 0 ⟨a, n, o⟩).o = p - a := by
          unfold spotF
          rw [if_pos h3]
          exact ⟨rfl, rfl⟩
        rw [m2.1, m2.2]
        refine ⟨by simp, .inl ⟨by decide, by simp, ?_⟩⟩
        have m3 : min (p - a) (nAt [⟨a, o, n⟩] 0) = p - a := by
          simp [nAt]
          omega
        rw [m3]
        unfold recF
        rw [if_pos (by simp; omega)]
        simp [begF, dF]
        omega
      · have m2 : (spotF a p side 0 ⟨a, n, o⟩).i = -1 := by
          unfold spotF
          rw [if_neg h3]
        have m3 : (spotF a p side 0 ⟨a, n, o⟩).g = false := by
          unfold spotF
          rw [if_neg h3]
          unfold withinG
          simp only
          split
          · rfl
          · split
            · rfl
            · split
              · rfl
              · omega
        have m4 : (spotF a p side 0 ⟨a, n, o⟩).a = if side < 0 then a else a + o := by
          unfold spotF
          rw [if_neg h3]
          unfold withinL
          simp only
          by_cases hs : side < 0
          · have : p = a := by omega
            simp [hs, this]
          · have h5 : p = a + n := by omega
            by_cases hn0 : n = 0
            · simp [hs, hn0]
            · have h6 : ¬ a + n = a := by omega
              simp [hs, hn0, h5, h6]
        rw [m2, m3, m4]
        refine ⟨by simp, .inr ⟨by decide, by simp, ?_⟩⟩
        by_cases hs : side < 0
        · have h5 : p = a := by omega
          rw [if_pos hs, posmapF_in _ _ _ (by omega) (by omega)]
          have m5 : mapGo [⟨a, o, n⟩] a side 0 [⟨a, o, n⟩] = spotF a a side 0 ⟨a, o, n⟩ := by
            have : ¬ a < a := by omega
            have h7 : a ≤ a + o := by omega
            simp [mapGo, h7, begF, dF]
          rw [m5]
          unfold spotF
          rw [if_neg (by simp only; omega)]
          unfold withinL withinG
          simp [hs, h5]
        · have h5 : p = a + n := by omega
          rw [if_neg hs, posmapF_in _ _ _ (by omega) (by omega)]
          have m5 : mapGo [⟨a, o, n⟩] (a + o) side 0 [⟨a, o, n⟩] = spotF a (a + o) side 0 ⟨a, o, n⟩ := by
            have h8 : ¬ a + o < a := by omega
            simp [mapGo, h8, begF, dF]
          rw [m5]
          unfold spotF
          rw [if_neg (by simp only; omega)]
          unfold withinL withinG
          by_cases ho0 : o = 0
          · simp [hs, ho0, h5]
          · have h6 : ¬ a + o = a := by omega
            simp [ho0, h6, h5]
    · have m1 : mapGo [⟨a, n, o⟩] p side 0 [⟨a, n, o⟩] = ⟨p + (o - n), false, -1, 0⟩ := by simp [mapGo, h1, h2, dF]
      rw [m1]
      simp only
      refine ⟨by simp, .inr ⟨by decide, by simp, ?_⟩⟩
      rw [posmapF_in _ _ _ (by omega) (by omega)]
      have h8 : ¬ p + (o - n) < a := by omega
      have h9 : ¬ p + (o - n) ≤ a + o := by omega
      have m5 : mapGo [⟨a, o, n⟩] (p + (o - n)) side 0 [⟨a, o, n⟩] = ⟨p + (o - n) + (n - o), false, -1, 0⟩ := by simp [mapGo, h8, h9, dF]
      rw [m5]
      exact ⟨by simp, by simp only; omega, by simp⟩
/-- A place at one range of several: what is told of it, undone and done again. B: where the range begins in what was; b: in what is. -/
theorem spot_back (B b o n p side : Int) (k : Nat) (ho : 0 ≤ o) (hn : 0 ≤ n) (hB : 0 ≤ B) (hb : 0 ≤ b) (h1 : b ≤ p) (h2 : p ≤ b + n) :
    (side < 0 ∧ p ≠ b ∨ 0 ≤ side ∧ p ≠ b + n) ∧ (spotF B p side k ⟨b, n, o⟩).i = (k : Int) ∧ (spotF B p side k ⟨b, n, o⟩).o = p - b ∨
    (spotF B p side k ⟨b, n, o⟩).i = -1 ∧ (spotF B p side k ⟨b, n, o⟩).g = false ∧
      ((spotF B p side k ⟨b, n, o⟩).a = B ∧ side < 0 ∧ p = b ∨ (spotF B p side k ⟨b, n, o⟩).a = B + o ∧ ¬ side < 0 ∧ p = b + n) := by
  by_cases h3 : side < 0 ∧ p ≠ b ∨ 0 ≤ side ∧ p ≠ b + n
  · refine .inl ⟨h3, ?_⟩
    unfold spotF
    rw [if_pos h3]
    exact ⟨rfl, rfl⟩
  · refine .inr ?_
    unfold spotF
    rw [if_neg h3]
    simp only
    refine ⟨trivial, ?_, ?_⟩
    · unfold withinG
      simp only
      split
      · rfl
      · split
        · rfl
        · split
          · rfl
          · omega
    · unfold withinL
      simp only
      by_cases hs : side < 0
      · have : p = b := by omega
        simp [hs, this]
      · have h5 : p = b + n := by omega
        by_cases hn0 : n = 0
        · simp [hs, hn0, h5]
        · have h6 : ¬ b + n = b := by omega
          simp [hs, hn0, h5]
          omega
/-- Done again, at the same end. -/
theorem spot_again (B b o n side : Int) (k : Nat) (ho : 0 ≤ o) (hn : 0 ≤ n) :
    (side < 0 → (spotF b B side k ⟨B, o, n⟩).a = b ∧ (spotF b B side k ⟨B, o, n⟩).g = false) ∧
    (¬ side < 0 → (spotF b (B + o) side k ⟨B, o, n⟩).a = b + n ∧ (spotF b (B + o) side k ⟨B, o, n⟩).g = false) := by
  refine ⟨fun hs => ?_, fun hs => ?_⟩
  · unfold spotF
    rw [if_neg (by simp only; omega)]
    unfold withinL withinG
    simp [hs]
  · unfold spotF
    rw [if_neg (by simp only; omega)]
    unfold withinL withinG
    by_cases ho0 : o = 0
    · simp [hs, ho0]
    · have h6 : ¬ B + o = B := by omega
      simp [ho0, h6]
theorem back_two (a o n b q m p side : Int) (ha : 0 ≤ a ∧ a ≤ 4096) (ho : 0 ≤ o ∧ o ≤ 4096) (hn : 0 ≤ n ∧ n ≤ 4096) (hb : a + o < b ∧ b ≤ 8192) (hq : 0 ≤ q ∧ q ≤ 4096) (hm : 0 ≤ m ∧ m ≤ 4096) (hp : 0 ≤ p ∧ p ≤ 57000) :
    Back [⟨a, o, n⟩, ⟨b, q, m⟩] [⟨a, n, o⟩, ⟨b + (n - o), m, q⟩] p side := by
  have e := posmapF_in [⟨a, n, o⟩, ⟨b + (n - o), m, q⟩] p side hp.1 (by omega)
  unfold Back
  rw [e]
  simp only
  by_cases h1 : p < a
  · have m1 : mapGo [⟨a, n, o⟩, ⟨b + (n - o), m, q⟩] p side 0 [⟨a, n, o⟩, ⟨b + (n - o), m, q⟩] = ⟨p, false, -1, 0⟩ := by simp [mapGo, h1, dF]
    have m2 : mapGo [⟨a, o, n⟩, ⟨b, q, m⟩] p side 0 [⟨a, o, n⟩, ⟨b, q, m⟩] = ⟨p, false, -1, 0⟩ := by simp [mapGo, h1, dF]
    rw [m1]
    simp only
    rw [posmapF_in _ p side hp.1 (by omega), m2]
    exact ⟨by simp, .inr ⟨by decide, by simp, by simp, by simp, by simp⟩⟩
  · by_cases h2 : p ≤ a + n
    · have m1 : mapGo [⟨a, n, o⟩, ⟨b + (n - o), m, q⟩] p side 0 [⟨a, n, o⟩, ⟨b + (n - o), m, q⟩] = spotF a p side 0 ⟨a, n, o⟩ := by simp [mapGo, h1, h2, begF, dF]
      rw [m1]
      rcases spot_back a a o n p side 0 ho.1 hn.1 ha.1 ha.1 (by omega) h2 with ⟨_, k1, k2⟩ | ⟨k1, k2, k3⟩
      · rw [k1, k2]
        refine ⟨by simp, .inl ⟨by simp, by simp, ?_⟩⟩
        have m3 : min (p - a) (nAt [⟨a, o, n⟩, ⟨b, q, m⟩] ((0 : Nat) : Int)) = p - a := by
          simp [nAt]
          omega
        rw [m3]
        unfold recF
        rw [if_pos (by simp; omega)]
        simp [begF, dF]
        omega
      · rw [k1, k2]
        refine ⟨by simp, .inr ⟨by decide, by simp, ?_⟩⟩
        obtain ⟨g1, g2⟩ := spot_again a a o n side 0 ho.1 hn.1
        rcases k3 with ⟨k3, k4, k5⟩ | ⟨k3, k4, k5⟩
        · rw [k3, posmapF_in _ _ _ (by omega) (by omega)]
          have m5 : mapGo [⟨a, o, n⟩, ⟨b, q, m⟩] a side 0 [⟨a, o, n⟩, ⟨b, q, m⟩] = spotF a a side 0 ⟨a, o, n⟩ := by
            have h7 : a ≤ a + o := by omega
            simp [mapGo, h7, begF, dF]
          rw [m5]
          have := g1 k4
          exact ⟨by simp, by rw [this.1, k5], this.2⟩
        · rw [k3, posmapF_in _ _ _ (by omega) (by omega)]
          have m5 : mapGo [⟨a, o, n⟩, ⟨b, q, m⟩] (a + o) side 0 [⟨a, o, n⟩, ⟨b, q, m⟩] = spotF a (a + o) side 0 ⟨a, o, n⟩ := by
            have h8 : ¬ a + o < a := by omega
            simp [mapGo, h8, begF, dF]
          rw [m5]
          have := g2 k4
          exact ⟨by simp, by rw [this.1, k5], this.2⟩
    · by_cases h3 : p < b + (n - o)
      · have m1 : mapGo [⟨a, n, o⟩, ⟨b + (n - o), m, q⟩] p side 0 [⟨a, n, o⟩, ⟨b + (n - o), m, q⟩] = ⟨p + (o - n), false, -1, 0⟩ := by simp [mapGo, h1, h2, h3, dF]
        rw [m1]
        simp only
        refine ⟨by simp, .inr ⟨by decide, by simp, ?_⟩⟩
        rw [posmapF_in _ _ _ (by omega) (by omega)]
        have h8 : ¬ p + (o - n) < a := by omega
        have h9 : ¬ p + (o - n) ≤ a + o := by omega
        have h10 : p + (o - n) < b := by omega
        have m5 : mapGo [⟨a, o, n⟩, ⟨b, q, m⟩] (p + (o - n)) side 0 [⟨a, o, n⟩, ⟨b, q, m⟩] = ⟨p + (o - n) + (n - o), false, -1, 0⟩ := by simp [mapGo, h8, h9, h10, dF]
        rw [m5]
        exact ⟨by simp, by simp only; omega, by simp⟩
      · by_cases h4 : p ≤ b + (n - o) + m
        · have m1 : mapGo [⟨a, n, o⟩, ⟨b + (n - o), m, q⟩] p side 0 [⟨a, n, o⟩, ⟨b + (n - o), m, q⟩] = spotF b p side 1 ⟨b + (n - o), m, q⟩ := by
            simp only [mapGo, if_neg h1, if_neg h2, if_neg h3, if_pos h4]
            have hb' : begF [⟨a, n, o⟩, ⟨b + (n - o), m, q⟩] (0 + 1) = b := by simp [begF, dF]; omega
            rw [hb']
          rw [m1]
          rcases spot_back b (b + (n - o)) q m p side 1 hq.1 hm.1 (by omega) (by omega) (by omega) h4 with ⟨_, k1, k2⟩ | ⟨k1, k2, k3⟩
          · rw [k1, k2]
            refine ⟨by simp, .inl ⟨by simp, by simp, ?_⟩⟩
            have m3 : min (p - (b + (n - o))) (nAt [⟨a, o, n⟩, ⟨b, q, m⟩] ((1 : Nat) : Int)) = p - (b + (n - o)) := by
              simp [nAt]
              omega
            rw [m3]
            unfold recF
            rw [if_pos (by simp; omega)]
            simp [begF, dF]
            omega
          · rw [k1, k2]
            refine ⟨by simp, .inr ⟨by decide, by simp, ?_⟩⟩
            obtain ⟨g1, g2⟩ := spot_again b (b + (n - o)) q m side 1 hq.1 hm.1
            have hbeg : begF [⟨a, o, n⟩, ⟨b, q, m⟩] (0 + 1) = b + (n - o) := by simp [begF, dF]
            rcases k3 with ⟨k3, k4, k5⟩ | ⟨k3, k4, k5⟩
            · rw [k3, posmapF_in _ _ _ (by omega) (by omega)]
              have h11 : ¬ b < a := by omega
              by_cases h12 : b ≤ a + o
              · omega
              · have m5 : mapGo [⟨a, o, n⟩, ⟨b, q, m⟩] b side 0 [⟨a, o, n⟩, ⟨b, q, m⟩] = spotF (b + (n - o)) b side 1 ⟨b, q, m⟩ := by
                  simp only [mapGo, if_neg h11, if_neg h12, if_neg (show ¬ b < b by omega), if_pos (show b ≤ b + q by omega), hbeg]
                rw [m5]
                have := g1 k4
                exact ⟨by simp, by rw [this.1, k5], this.2⟩
            · rw [k3, posmapF_in _ _ _ (by omega) (by omega)]
              have m5 : mapGo [⟨a, o, n⟩, ⟨b, q, m⟩] (b + q) side 0 [⟨a, o, n⟩, ⟨b, q, m⟩] = spotF (b + (n - o)) (b + q) side 1 ⟨b, q, m⟩ := by
                simp only [mapGo, if_neg (show ¬ b + q < a by omega), if_neg (show ¬ b + q ≤ a + o by omega), if_neg (show ¬ b + q < b by omega), if_pos (show b + q ≤ b + q by omega), hbeg]
              rw [m5]
              have := g2 k4
              exact ⟨by simp, by rw [this.1, k5], this.2⟩
        · have m1 : mapGo [⟨a, n, o⟩, ⟨b + (n - o), m, q⟩] p side 0 [⟨a, n, o⟩, ⟨b + (n - o), m, q⟩] = ⟨p + (o - n) + (q - m), false, -1, 0⟩ := by
            simp only [mapGo, if_neg h1, if_neg h2, if_neg h3, if_neg h4]
            simp [dF]
            omega
          rw [m1]
          simp only
          refine ⟨by simp, .inr ⟨by decide, by simp, ?_⟩⟩
          rw [posmapF_in _ _ _ (by omega) (by omega)]
          have h8 : ¬ p + (o - n) + (q - m) < a := by omega
          have h9 : ¬ p + (o - n) + (q - m) ≤ a + o := by omega
          have h10 : ¬ p + (o - n) + (q - m) < b := by omega
          have h11 : ¬ p + (o - n) + (q - m) ≤ b + q := by omega
          have m5 : mapGo [⟨a, o, n⟩, ⟨b, q, m⟩] (p + (o - n) + (q - m)) side 0 [⟨a, o, n⟩, ⟨b, q, m⟩] = ⟨p, false, -1, 0⟩ := by
            simp only [mapGo, if_neg h8, if_neg h9, if_neg h10, if_neg h11]
            simp [dF]
            omega
          rw [m5]
          exact ⟨by simp, by simp, by simp⟩
theorem inv_one (a o n : Int) : invF [⟨a, o, n⟩] = [⟨a, n, o⟩] := by
  unfold invF
  simp [List.finRange, undoR, begF, dF]
theorem inv_two (a o n b q m : Int) : invF [⟨a, o, n⟩, ⟨b, q, m⟩] = [⟨a, n, o⟩, ⟨b + (n - o), m, q⟩] := by
  unfold invF
  simp [List.finRange, undoR, begF, dF]
/-- What a right step is, in numbers. -/
structure StepN (s : StepM) : Prop where
  len : s.l.length ≤ 2048
  f : 0 ≤ s.f ∧ s.f ≤ s.t ∧ s.t ≤ 2048
  aro : s.k = 1 → s.f ≤ s.gf ∧ s.gf < s.gt ∧ s.gt ≤ s.t ∧ 0 ≤ s.ins ∧ s.ins ≤ (s.l.length : Int)
  mark : s.k ≠ 0 → s.k ≠ 1 → s.f < s.t
theorem stepN {s : StepM} (h : stepF s = 0) : StepN s := by
  unfold stepF at h
  split at h
  · cases h
  · rename_i hl
    split at h
    · rename_i hk
      rw [Bool.and_eq_true] at hk
      have hk1 := hk.1
      unfold kindOk at hk1
      split at hk1
      · rename_i h0
        unfold okRep at hk1
        simp only [Bool.and_eq_true] at hk1
        exact ⟨by omega, (ok0S_iff _ _).1 hk1.1.1.1.1, fun e => by omega, fun e => absurd h0 e⟩
      · split at hk1
        · rename_i h0 h1
          unfold okAro at hk1
          simp only [Bool.and_eq_true] at hk1
          exact ⟨by omega, (ok0S_iff _ _).1 hk1.1.1, fun _ => (aroS_iff _ _ _ _ _ _).1 hk1.1.2, fun _ e => absurd h1 e⟩
        · split at hk1
          · rename_i h0 h1 h2
            unfold okMark at hk1
            simp only [Bool.and_eq_true, decide_eq_true_eq] at hk1
            exact ⟨by omega, (ok0S_iff _ _).1 hk1.1.1.1.1.1.1, fun e => absurd e h1, fun _ _ => hk1.1.1.1.1.1.2⟩
          · cases hk1
    · cases h
/-- A right step's map is undone by what undoes it. -/
theorem step_back {s : StepM} (h : stepF s = 0) (p side : Int) (hp : 0 ≤ p ∧ p ≤ 57000) : Back (stepmapF s) (invM s) p side := by
  have hn := stepN h
  have h1 := hn.len
  have h2 := hn.f
  by_cases hk : s.k = 0
  · have e : stepmapF s = [⟨s.f, s.t - s.f, s.l.length⟩] := if_pos hk
    have ei : invM s = [⟨s.f, s.l.length, s.t - s.f⟩] := by
      unfold invM
      rw [e, inv_one, if_pos (right1 _ _ _ (by omega) (by omega) (by omega) (by omega) (by omega))]
    rw [e, ei]
    exact back_one _ _ _ _ _ (by omega) (by omega) (by omega) (by omega)
  · by_cases hk1 : s.k = 1
    · have h3 := hn.aro hk1
      have e : stepmapF s = [⟨s.f, s.gf - s.f, s.ins⟩, ⟨s.gt, s.t - s.gt, s.l.length - s.ins⟩] := by
        unfold stepmapF
        rw [if_neg hk, if_pos hk1]
      have ei : invM s = [⟨s.f, s.ins, s.gf - s.f⟩, ⟨s.gt + (s.ins - (s.gf - s.f)), s.l.length - s.ins, s.t - s.gt⟩] := by
        unfold invM
        rw [e, inv_two, if_pos (right2 _ _ _ _ _ _ (by omega) (by omega) (by omega) (by omega) (by omega) (by omega) (by omega) (by omega) (by omega))]
      rw [e, ei]
      exact back_two _ _ _ _ _ _ _ _ (by omega) (by omega) (by omega) (by omega) (by omega) (by omega) (by omega)
    · have e : stepmapF s = [] := by
        unfold stepmapF
        rw [if_neg hk, if_neg hk1]
      have ei : invM s = [] := by
        unfold invM
        rw [e]
        rfl
      rw [e, ei]
      exact back_nil _ _ hp.1 (by omega)
end Go.Proofs.YtanbfplcldloeaaGreatDoor

/- Chapter 10: through maps undone and done again: the place is where it was. -/
namespace Go.Proofs.YtanbfplcldloeaaGreatDoor
open Go.RowKit
/-- With enough fuel it does not matter how much. -/
theorem mpGo_fuel (ms : List OneM) (side : Int) : ∀ (d i : Nat) (a : Int) (g : Bool) (f f' : Nat), ms.length - i ≤ d → d + 1 ≤ f → d + 1 ≤ f' → mpGo ms side f i a g = mpGo ms side f' i a g
  | 0, i, a, g, f, f', hd, h, h' => by
    obtain ⟨f, rfl⟩ : ∃ k, f = k + 1 := ⟨f - 1, by omega⟩
    obtain ⟨f', rfl⟩ : ∃ k, f' = k + 1 := ⟨f' - 1, by omega⟩
    rw [mpGo, mpGo, List.getElem?_eq_none (by omega)]
  | d + 1, i, a, g, f, f', hd, h, h' => by
    obtain ⟨f, rfl⟩ : ∃ k, f = k + 1 := ⟨f - 1, by omega⟩
    obtain ⟨f', rfl⟩ : ∃ k, f' = k + 1 := ⟨f' - 1, by omega⟩
    rw [mpGo, mpGo]
    cases hx : ms[i]? with
    | none => rfl
    | some x =>
      simp only
      split
      · rfl
      · split
        · rename_i h2
          exact mpGo_fuel ms side d _ _ _ f f' (by omega) (by omega) (by omega)
        · exact mpGo_fuel ms side d _ _ _ f f' (by omega) (by omega) (by omega)
/-- The way on from a map, with all the fuel that is needed. -/
def wayF (ms : List OneM) (side : Int) (i : Nat) (a : Int) : Spot × Int := mpGo ms side (ms.length - i + 1) i a false
theorem wayF_of {ms : List OneM} {side : Int} {i : Nat} {a : Int} {f : Nat} (h : ms.length - i + 1 ≤ f) : mpGo ms side f i a false = wayF ms side i a := mpGo_fuel ms side (ms.length - i) i a false f _ (Nat.le_refl _) h (Nat.le_refl _)
theorem wayF_end {ms : List OneM} {side : Int} {i : Nat} {a : Int} (h : ms.length ≤ i) (ha : a ≤ 65536) : wayF ms side i a = (⟨a, false, -1, 0⟩, 0) := by
  unfold wayF
  rw [mpGo, List.getElem?_eq_none h]
  simp only
  rw [if_neg (by omega)]
/-- One map: over it, or back out of its mirror. -/
theorem wayF_step {ms : List OneM} {side : Int} {i : Nat} {a : Int} {x : OneM} (hx : ms[i]? = some x) (h0 : (posmapF x.l a side).2 = 0) :
    wayF ms side i a = if 0 ≤ (posmapF x.l a side).1.i ∧ (i : Int) < x.mir ∧ (posmapF x.l a side).1.i < ((lAt ms x.mir).length : Int) then
        wayF ms side (x.mir.toNat + 1) (recF (lAt ms x.mir) (posmapF x.l a side).1.i (min (posmapF x.l a side).1.o (nAt (lAt ms x.mir) (posmapF x.l a side).1.i))).1
      else mpGo ms side (ms.length - i) (i + 1) (posmapF x.l a side).1.a (posmapF x.l a side).1.g := by
  have hi : i < ms.length := (List.getElem?_eq_some_iff.1 hx).1
  unfold wayF
  rw [mpGo, hx]
  simp only
  rw [if_neg (by rw [h0]; simp)]
  split
  · rename_i h
    have hm : (i : Int) < x.mir := h.2.1
    exact mpGo_fuel ms side (ms.length - (x.mir.toNat + 1)) _ _ _ _ _ (Nat.le_refl _) (by omega) (Nat.le_refl _)
  · simp
end Go.Proofs.YtanbfplcldloeaaGreatDoor

/- Chapter 10: over nothing all own steps are kept as they are: in plain words. -/
namespace Go.Proofs.YtanbfplcldloeaaGreatDoor
open Go.RowKit
theorem mov_one (a o n p side : Int) (ha : 0 ≤ a ∧ a ≤ 4096) (ho : 0 ≤ o ∧ o ≤ 2048) (hn : 0 ≤ n ∧ n ≤ 4096) (hp : 0 ≤ p ∧ p ≤ 57000) : 0 ≤ (posmapF [⟨a, n, o⟩] p side).1.a ∧ (posmapF [⟨a, n, o⟩] p side).1.a ≤ p + 2048 := by
  rw [posmapF_in _ _ _ hp.1 (by omega)]
  simp only
  by_cases h1 : p < a
  · simp [mapGo, h1, dF]
    omega
  · by_cases h2 : p ≤ a + n
    · have m1 : mapGo [⟨a, n, o⟩] p side 0 [⟨a, n, o⟩] = spotF a p side 0 ⟨a, n, o⟩ := by simp [mapGo, h1, h2, begF, dF]
      rw [m1]
      have m2 : (spotF a p side 0 ⟨a, n, o⟩).a = a ∨ (spotF a p side 0 ⟨a, n, o⟩).a = a + o := by
        unfold spotF
        split <;> simp only <;> split
        · exact .inl rfl
        · exact .inr rfl
        · exact .inl rfl
        · exact .inr rfl
      omega
    · simp [mapGo, h1, h2, dF]
      omega
theorem mov_two (a o n b q m p side : Int) (ha : 0 ≤ a ∧ a ≤ 4096) (ho : 0 ≤ o) (hn : 0 ≤ n ∧ n ≤ 4096) (hb : a + o < b ∧ b ≤ 8192) (hq : 0 ≤ q ∧ o + q ≤ 2048) (hm : 0 ≤ m ∧ m ≤ 4096) (hp : 0 ≤ p ∧ p ≤ 57000) :
    0 ≤ (posmapF [⟨a, n, o⟩, ⟨b + (n - o), m, q⟩] p side).1.a ∧ (posmapF [⟨a, n, o⟩, ⟨b + (n - o), m, q⟩] p side).1.a ≤ p + 2048 := by
  rw [posmapF_in _ _ _ hp.1 (by omega)]
  simp only
  have sp : ∀ B b' o' n' (k : Nat), (spotF B p side k ⟨b', n', o'⟩).a = B ∨ (spotF B p side k ⟨b', n', o'⟩).a = B + o' := by
    intro B b' o' n' k
    unfold spotF
    split <;> simp only <;> split
    · exact .inl rfl
    · exact .inr rfl
    · exact .inl rfl
    · exact .inr rfl
  by_cases h1 : p < a
  · simp [mapGo, h1, dF]
    omega
  · by_cases h2 : p ≤ a + n
    · have m1 : mapGo [⟨a, n, o⟩, ⟨b + (n - o), m, q⟩] p side 0 [⟨a, n, o⟩, ⟨b + (n - o), m, q⟩] = spotF a p side 0 ⟨a, n, o⟩ := by simp [mapGo, h1, h2, begF, dF]
      rw [m1]
      have := sp a a o n 0
      omega
    · by_cases h3 : p < b + (n - o)
      · simp [mapGo, h1, h2, h3, dF]
        omega
      · by_cases h4 : p ≤ b + (n - o) + m
        · have m1 : mapGo [⟨a, n, o⟩, ⟨b + (n - o), m, q⟩] p side 0 [⟨a, n, o⟩, ⟨b + (n - o), m, q⟩] = spotF b p side 1 ⟨b + (n - o), m, q⟩ := by
            simp only [mapGo, if_neg h1, if_neg h2, if_neg h3, if_pos h4]
            have hb' : begF [⟨a, n, o⟩, ⟨b + (n - o), m, q⟩] (0 + 1) = b := by simp [begF, dF]; omega
            rw [hb']
          rw [m1]
          have := sp b (b + (n - o)) q m 1
          omega
        · have m1 : mapGo [⟨a, n, o⟩, ⟨b + (n - o), m, q⟩] p side 0 [⟨a, n, o⟩, ⟨b + (n - o), m, q⟩] = ⟨p + (o - n) + (q - m), false, -1, 0⟩ := by
            simp only [mapGo, if_neg h1, if_neg h2, if_neg h3, if_neg h4]
            simp [dF]
            omega
          rw [m1]
          simp only
          omega
/-- What a right step's undoing makes of a place: not much more. -/
theorem step_mov {s : StepM} (h : stepF s = 0) (p side : Int) (hp : 0 ≤ p ∧ p ≤ 57000) : 0 ≤ (posmapF (invM s) p side).1.a ∧ (posmapF (invM s) p side).1.a ≤ p + 2048 := by
  have hn := stepN h
  have h1 := hn.len
  have h2 := hn.f
  by_cases hk : s.k = 0
  · have e : stepmapF s = [⟨s.f, s.t - s.f, s.l.length⟩] := if_pos hk
    have ei : invM s = [⟨s.f, s.l.length, s.t - s.f⟩] := by
      unfold invM
      rw [e, inv_one, if_pos (right1 _ _ _ (by omega) (by omega) (by omega) (by omega) (by omega))]
    rw [ei]
    exact mov_one _ _ _ _ _ (by omega) (by omega) (by omega) hp
  · by_cases hk1 : s.k = 1
    · have h3 := hn.aro hk1
      have e : stepmapF s = [⟨s.f, s.gf - s.f, s.ins⟩, ⟨s.gt, s.t - s.gt, s.l.length - s.ins⟩] := by
        unfold stepmapF
        rw [if_neg hk, if_pos hk1]
      have ei : invM s = [⟨s.f, s.ins, s.gf - s.f⟩, ⟨s.gt + (s.ins - (s.gf - s.f)), s.l.length - s.ins, s.t - s.gt⟩] := by
        unfold invM
        rw [e, inv_two, if_pos (right2 _ _ _ _ _ _ (by omega) (by omega) (by omega) (by omega) (by omega) (by omega) (by omega) (by omega) (by omega))]
      rw [ei]
      exact mov_two _ _ _ _ _ _ _ _ (by omega) (by omega) (by omega) (by omega) (by omega) (by omega) hp
    · have e : stepmapF s = [] := by
        unfold stepmapF
        rw [if_neg hk, if_neg hk1]
      have ei : invM s = [] := by
        unfold invM
        rw [e]
        rfl
      rw [ei, posmapF_in _ _ _ hp.1 (by omega)]
      simp [mapGo, dF]
      omega
/-- A mapping behind i own steps over nothing: what undoes each, and what does it again. -/
structure Nest (own : List StepM) (i : Nat) (ms : List OneM) : Prop where
  len : ms.length = own.length + i
  undo : ∀ (j : Nat) (s : StepM), own[j]? = some s → ∃ x, ms[own.length - 1 - j]? = some x ∧ x.l = invM s ∧ (j < i → x.mir = ((own.length + j : Nat) : Int))
  redo : ∀ (j : Nat) (s : StepM), j < i → own[j]? = some s → ∃ y, ms[own.length + j]? = some y ∧ y.l = stepmapF s ∧ y.mir = ((own.length - 1 - j : Nat) : Int)
theorem Nest.zero (own : List StepM) : Nest own 0 ((own.map undoM).reverse ++ ([] : List StepM).map mapM) := by
  refine ⟨by simp, fun j s hs => ?_, fun j s h => absurd h (Nat.not_lt_zero _)⟩
  have hj : j < own.length := (List.getElem?_eq_some_iff.1 hs).1
  refine ⟨undoM s, ?_, rfl, fun h => absurd h (Nat.not_lt_zero _)⟩
  rw [List.map_nil, List.append_nil, List.getElem?_reverse (by rw [List.length_map]; omega), List.length_map, List.getElem?_map]
  have e : own.length - 1 - (own.length - 1 - j) = j := by omega
  rw [e, hs]
  rfl
theorem Nest.next {own : List StepM} {i : Nat} {ms : List OneM} (h : Nest own i ms) {s : StepM} (hs : own[i]? = some s) : Nest own (i + 1) (mirL (ms ++ [mapM s]) (own.length - 1 - i) ms.length) := by
  have hi : i < own.length := (List.getElem?_eq_some_iff.1 hs).1
  have hl := h.len
  have hne : own.length - 1 - i ≠ ms.length := by omega
  refine ⟨?_, fun j t ht => ?_, fun j t hj ht => ?_⟩
  · unfold mirL
    simp only [List.length_modify, List.length_append, List.length_singleton]
    omega
  · have hjn : j < own.length := (List.getElem?_eq_some_iff.1 ht).1
    obtain ⟨x, hx, hxl, hxm⟩ := h.undo j t ht
    have hx2 : (ms ++ [mapM s])[own.length - 1 - j]? = some x := by
      rw [List.getElem?_append_left (by omega)]
      exact hx
    by_cases hji : j = i
    · subst hji
      refine ⟨{ x with mir := (ms.length : Int) }, ?_, hxl, fun _ => by rw [hl]⟩
      unfold mirL
      rw [List.getElem?_modify, List.getElem?_modify, hx2]
      simp [Ne.symm hne]
    · refine ⟨x, ?_, hxl, fun h1 => hxm (by omega)⟩
      unfold mirL
      rw [List.getElem?_modify, List.getElem?_modify, hx2]
      have h1 : ¬ own.length - 1 - i = own.length - 1 - j := by omega
      have h2 : ¬ ms.length = own.length - 1 - j := by omega
      simp [h1, h2]
  · by_cases hji : j = i
    · subst hji
      rw [hs] at ht
      cases ht
      refine ⟨{ mapM s with mir := ((own.length - 1 - j : Nat) : Int) }, ?_, rfl, rfl⟩
      unfold mirL
      rw [List.getElem?_modify, List.getElem?_modify]
      have h3 : (ms ++ [mapM s])[own.length + j]? = some (mapM s) := by
        rw [← hl, List.getElem?_append_right (Nat.le_refl _), Nat.sub_self]
        rfl
      rw [h3]
      have h1 : ¬ own.length - 1 - j = own.length + j := by omega
      simp [h1, hl]
    · obtain ⟨y, hy, hyl, hym⟩ := h.redo j t (by omega) ht
      refine ⟨y, ?_, hyl, hym⟩
      unfold mirL
      rw [List.getElem?_modify, List.getElem?_modify, List.getElem?_append_left (by omega), hy]
      have h1 : ¬ own.length - 1 - i = own.length + j := by omega
      have h2 : ¬ ms.length = own.length + j := by omega
      simp [h1, h2]
/-- From what undoes the j-th to behind what does it again: the place is where it was. -/
theorem nest_way {own : List StepM} {i : Nat} {ms : List OneM} (h : Nest own i ms) (ho : ∀ s ∈ own, stepF s = 0) (side : Int) : ∀ (j : Nat) (p : Int), j ≤ i → i ≤ own.length → 0 ≤ p → p + 2048 * j ≤ 57000 → wayF ms side (own.length - j) p = wayF ms side (own.length + j) p
  | 0, p, _, _, _, _ => rfl
  | j + 1, p, hj, hi, h0, hp => by
    have hjn : j < own.length := by omega
    have hs : own[j]? = some own[j] := List.getElem?_eq_getElem hjn
    obtain ⟨s, hse⟩ : ∃ s, own[j] = s := ⟨_, rfl⟩
    rw [hse] at hs
    have hs0 : stepF s = 0 := ho s (List.mem_of_getElem? hs)
    obtain ⟨x, hx, hxl, hxm⟩ := h.undo j s hs
    obtain ⟨y, hy, hyl, hym⟩ := h.redo j s (by omega) hs
    have hxm' := hxm (by omega)
    have hl := h.len
    have e1 : own.length - (j + 1) = own.length - 1 - j := by omega
    have hb := step_back hs0 p side ⟨h0, by omega⟩
    have hmv := step_mov hs0 p side ⟨h0, by omega⟩
    obtain ⟨hb0, hb1⟩ := hb
    have hlat : lAt ms x.mir = stepmapF s := by
      unfold lAt
      rw [hxm', Int.toNat_natCast, hy, ← hyl]
      rfl
    rw [e1, wayF_step hx (by rw [hxl]; exact hb0), hxl, hlat]
    rcases hb1 with ⟨k1, k2, k3⟩ | ⟨k1, k2, k3, k4, k5⟩
    · rw [if_pos ⟨k1, by rw [hxm']; omega, k2⟩, k3, hxm', Int.toNat_natCast]
      rfl
    · rw [if_neg (by omega), k2]
      have e2 : own.length - 1 - j + 1 = own.length - j := by omega
      rw [e2, wayF_of (by omega), nest_way h ho side j _ (by omega) hi hmv.1 (by omega), wayF_step hy (by rw [hyl]; exact k3), hyl, if_neg (by rw [hym]; omega), k5, k4, wayF_of (by omega)]
      rfl
theorem nest_maps {own : List StepM} {i : Nat} {ms : List OneM} (h : Nest own i ms) (ho : ∀ s ∈ own, stepF s = 0) (hn : own.length ≤ 20) (hi : i ≤ own.length) (side p : Int) (h0 : 0 ≤ p) (hp : p ≤ 2048) : mapsF ms ((own.length : Int) - i) p side = (⟨p, false, -1, 0⟩, 0) := by
  have hl := h.len
  unfold mapsF
  rw [if_neg (by omega)]
  have e : ((own.length : Int) - i).toNat = own.length - i := by omega
  rw [e, wayF_of (by omega), nest_way h ho side i p (Nat.le_refl _) hi h0 (by omega), wayF_end (by omega) (by omega)]
theorem nest_thru {own : List StepM} {i : Nat} {ms : List OneM} (h : Nest own i ms) (ho : ∀ s ∈ own, stepF s = 0) (hn : own.length ≤ 20) (hi : i ≤ own.length) {s : StepM} (hs : stepF s = 0) : stepThru ms ((own.length : Int) - i) s = some s := by
  have hN := stepN hs
  have h2 := hN.f
  unfold stepThru
  rw [if_neg (by rw [hs]; simp)]
  rw [nest_maps h ho hn hi 1 s.f (by omega) (by omega), nest_maps h ho hn hi (-1) s.t (by omega) (by omega)]
  simp only
  by_cases hk : s.k = 0
  · rw [if_pos hk]
    have e : ({ s with f := s.f, t := max s.f s.t } : StepM) = s := by
      have : max s.f s.t = s.t := by omega
      rw [this]
    rw [if_pos (by refine ⟨rfl, ?_⟩; show stepF ({ s with f := s.f, t := max s.f s.t } : StepM) = 0; rw [e]; exact hs)]
    exact congrArg some e
  · rw [if_neg hk]
    by_cases hk1 : s.k = 1
    · have h3 := hN.aro hk1
      rw [if_pos hk1, nest_maps h ho hn hi (-1) s.gf (by omega) (by omega), nest_maps h ho hn hi 1 s.gt (by omega) (by omega)]
      rw [if_pos ⟨rfl, hs⟩]
    · rw [if_neg hk1]
      have h3 := hN.mark hk hk1
      rw [if_pos ⟨(by simp [h3]), hs⟩]
theorem apply_step {s : StepM} {l : List Tok} (h : applyE s l = 0) : stepF s = 0 := by
  unfold applyE at h
  split at h
  · rename_i h1; exact absurd h h1
  · split at h
    · rename_i h1; exact absurd h h1
    · rename_i h1; exact Decidable.not_not.1 h1
theorem run_steps {rs : List RuleM} {g : List Grp} : ∀ {L : List StepM} {l d : List Tok}, runF rs g L l = (d, 0) → ∀ s ∈ L, stepF s = 0
  | [], _, _, _ => fun s hs => (by cases hs)
  | s :: L, l, d, h => by
    obtain ⟨h0, h1⟩ := runF_ok h
    intro t ht
    rcases List.mem_cons.1 ht with rfl | ht
    · exact apply_step (doE_zero h0).1
    · exact run_steps h1 t ht
theorem rbGo_none (rs : List RuleM) (g : List Grp) (own : List StepM) (ho : ∀ s ∈ own, stepF s = 0) (hn : own.length ≤ 20) : ∀ (L : List StepM) (i : Nat) (ms : List OneM) (r : RebM) (d : List Tok), own.drop i = L → i ≤ own.length → Nest own i ms → runF rs g L r.doc = (d, 0) →
    rbGo rs g own.length L i ms r = ⟨d, r.steps ++ L, r.kept ++ List.range' i L.length⟩
  | [], i, ms, r, d, _, _, _, hr => by
    have e : r.doc = d := congrArg Prod.fst hr
    rw [rbGo, List.append_nil, ← e, List.length_nil, List.range'_zero, List.append_nil]
  | s :: L, i, ms, r, d, hd, hi, hN, hr => by
    have hi' : i < own.length := by
      rcases Nat.lt_or_ge i own.length with h | h
      · exact h
      · rw [List.drop_of_length_le h] at hd; cases hd
    have hs : own[i]? = some s := by
      have h1 : (own.drop i)[0]? = own[i + 0]? := List.getElem?_drop
      rw [hd] at h1
      exact h1.symm
    have hs0 := ho s (List.mem_of_getElem? hs)
    obtain ⟨h0, h1⟩ := runF_ok hr
    have hd2 : own.drop (i + 1) = L := by
      rw [← List.tail_drop, hd]
      rfl
    rw [rbGo, nest_thru hN ho hn hi hs0]
    simp only
    rw [if_pos h0, rbGo_none rs g own ho hn L (i + 1) _ _ d hd2 hi' (hN.next hs) h1]
    rw [List.append_assoc, List.singleton_append, List.append_assoc, List.singleton_append, List.length_cons, List.range'_succ]
theorem rebase_none {rs : List RuleM} {g : List Grp} {l : List Tok} {own : List StepM} (hn : own.length ≤ 20) (h : (rebaseF rs g l own []).2 = 0) :
    rebaseF rs g l own [] = (⟨(runF rs g own l).1, own, List.range own.length⟩, 0) := by
  unfold rebaseF at h ⊢
  split at h
  · rename_i h0; exact absurd h h0
  · rename_i h0
    rw [if_neg h0]
    split at h
    · cases h
    · rename_i h1
      rw [if_neg h1]
      split at h
      · rename_i h2
        have h' : numF (runF rs g own l).2 = 0 := h
        rw [numF_of (runF_rng _ _ _ _)] at h'
        exact absurd h' h2
      · rename_i h2
        rw [if_neg h2, if_neg (by rw [runF]; simp)]
        have h5 : runF rs g own l = ((runF rs g own l).1, 0) := Prod.ext rfl (Decidable.not_not.1 h2)
        have ho := run_steps h5
        have h6 := rbGo_none rs g own ho hn own 0 ((own.map undoM).reverse ++ ([] : List StepM).map mapM) ⟨(runF rs g [] l).1, [], []⟩ (runF rs g own l).1 rfl (Nat.zero_le _) (Nest.zero own) h5
        rw [h6]
        simp only [List.nil_append, List.range_eq_range']
/-- With no own step: what the others make. -/
theorem rebase_alone {rs : List RuleM} {g : List Grp} {l : List Tok} {own : List StepM} :
    (rebaseF rs g l [] own).2 = (rebaseF rs g l own []).2 ∧ ((rebaseF rs g l [] own).2 = 0 → (rebaseF rs g l [] own).1 = ⟨(runF rs g own l).1, [], []⟩) := by
  have e0 : runF rs g [] l = (l, 0) := by rw [runF]
  have em : max ([] : List StepM).length own.length = max own.length ([] : List StepM).length := Nat.max_comm _ _
  unfold rebaseF
  rw [em, e0]
  by_cases h0 : (checkF rs g l).2 ≠ 0
  · rw [if_pos h0, if_pos h0]
    exact ⟨rfl, fun h => absurd h h0⟩
  · rw [if_neg h0, if_neg h0]
    by_cases h1 : 1000 < max own.length ([] : List StepM).length
    · rw [if_pos h1, if_pos h1]
      exact ⟨rfl, fun h => by cases h⟩
    · rw [if_neg h1, if_neg h1, if_neg (by simp)]
      by_cases h2 : (runF rs g own l).2 ≠ 0
      · rw [if_pos h2, if_pos h2]
        refine ⟨rfl, fun h => ?_⟩
        have h' : numF (runF rs g own l).2 = 0 := h
        rw [numF_of (runF_rng _ _ _ _)] at h'
        exact absurd h' h2
      · rw [if_neg h2, if_neg h2, if_neg (by simp)]
        refine ⟨rfl, fun _ => ?_⟩
        rw [rbGo]
end Go.Proofs.YtanbfplcldloeaaGreatDoor

/- Chapter 10: nothing changes nothing: the walk. -/
namespace Go.Proofs.YtanbfplcldloeaaGreatDoor
open Go.RowKit
theorem rebase_right {rs : List RuleM} {g : List Grp} {l : List Tok} {own over : List StepM} (h : (rebaseF rs g l own over).2 = 0) : ∀ s ∈ own, stepF s = 0 := by
  unfold rebaseF at h
  split at h
  · rename_i h0; exact absurd h h0
  · split at h
    · cases h
    · split at h
      · rename_i h2
        have h' : numF (runF rs g own l).2 = 0 := h
        rw [numF_of (runF_rng _ _ _ _)] at h'
        exact absurd h' h2
      · rename_i h2
        have h5 : runF rs g own l = ((runF rs g own l).1, 0) := Prod.ext rfl (Decidable.not_not.1 h2)
        exact run_steps h5
set_option maxRecDepth 100000 in
set_option maxHeartbeats 20000000 in
theorem none_walk (l : List Tok) (own : List StepA) (BA OA : Option Addr) (bc oc : Nat) (w : World) (hG : HG w) (hl : Rd Nob w BA (tokC l)) (hc : l.length ≤ bc) (ho : StepsM Nob w OA own) (hn : l.length ≤ 9223372036854775807 ∧ own.length ≤ 9223372036854775807) :
    Calls Tryz.prog 6 #[.slice BA l.length bc, .slice OA own.length oc] w fun e w' => e = .returned (.bool true) ∧ Fr Nob w w' := by
  have HHG := Lib.hid hG
  have HL := Lib.hid hl
  have HC := Lib.hid hc
  have HO := Lib.hid ho
  have HN := Lib.hid hn
  clear hG hl hc ho hn
  obtain ⟨bn, hbn⟩ : ∃ n, l.length = n := ⟨_, rfl⟩
  obtain ⟨on, hon⟩ : ∃ n, own.length = n := ⟨_, rfl⟩
  have HBN := Lib.hid hbn
  have HON := Lib.hid hon
  rw [hbn, hon]
  clear hbn hon
  have HNIL := Lib.hid (show ∀ W : World, StepsM Nob W none [] from fun W => ⟨Rd.nil _ _ _, fun _ h => (by cases h), fun _ h => (by cases h)⟩)
  go_enter Tryz.func6, Tryz.ntmps6
  go_wp2_with fail
  refine (small_any BA OA none bn on 0 bc oc 0 w).mono ?_
  rintro e w0 ⟨rfl, rfl⟩
  obtain ⟨sm, hsm⟩ : ∃ b, (decide (bn ≤ 200) && (decide (on ≤ 20) && decide (0 ≤ 20))) = b := ⟨_, rfl⟩
  rw [hsm]
  cases sm with
  | false =>
    clear hsm
    go_wp2_with fail
    refine (awake_any w0 HHG.out).mono ?_
    rintro e w1 ⟨rfl, hF⟩
    go_wp2_with fail
    go_ret
    exact ⟨rfl, hF⟩
  | true =>
    simp only [Bool.and_eq_true, decide_eq_true_eq] at hsm
    obtain ⟨hb200, ho20, _⟩ := hsm
    go_wp2_with fail
    refine (house_any w0 HHG.out).mono ?_
    rintro e w1 ⟨⟨p, rs, rfl, hS, hC⟩, hF1⟩
    have HS := Lib.hid (hS.mono (M' := Nob) (fun _ h => h.elim))
    have HF1 := Lib.hid hF1
    have HSO := Lib.hid (house_schok hC)
    clear hS hC hF1
    obtain ⟨G, hGG⟩ : ∃ G, groupsF houseL houseG = G := ⟨_, rfl⟩
    rw [hGG] at HS HSO
    clear hGG
    go_wp2_with fail
    have hreb := rebase_any Nob p rs G HSO.out own [] OA none oc 0 (.slice BA bn bc) l w1 (fun _ h => h.elim) HS.out ⟨BA, bc, by rw [HBN.out], HC.out, HL.out.fr HF1.out (fun _ _ h => h.elim)⟩ (HO.out.fr0 HF1.out) (HNIL.out _) HN.out.1 ⟨HN.out.2, by decide⟩
    rw [HON.out] at hreb
    refine hreb.mono ?_
    clear hreb
    obtain ⟨⟨R, E⟩, hR⟩ : ∃ r, rebaseF rs G l (own.map StepA.s) (([] : List StepA).map StepA.s) = r := ⟨_, rfl⟩
    rw [hR]
    have HR := Lib.hid hR
    clear hR
    rintro e w2 ⟨dv, sv, kv, rfl, hV2, hF2⟩
    obtain ⟨⟨DA, dc, rfl, hdc, hdr⟩, ⟨SA, sc, L, rfl, hsL, hsR⟩, ⟨KA, kc, rfl, hkr⟩⟩ := hV2
    have HDR := Lib.hid hdr
    have HSL := Lib.hid hsL
    have HSR := Lib.hid hsR
    have HF2 := Lib.hid (HF1.out.same hF2)
    have HS2 := Lib.hid (HS.out.fr0 hF2)
    clear hdr hdc hsL hsR hkr hF2 HS HF1
    go_upto_region 5 with (fail)
    obtain ⟨X, hX⟩ : ∃ X, w2.heap.size = X := ⟨_, rfl⟩
    obtain ⟨W3, hW3⟩ : ∃ W3, w2.alloc (.cells #[.slice DA R.doc.length dc, .slice SA L.length sc, .slice KA R.kept.length kc] 46) = W3 := ⟨_, rfl⟩
    have HF23 := Lib.hid (show Fr Nob w2 W3 by rw [← hW3]; exact (Fr.refl _ _).alloc _)
    have HX3 := Lib.hid (show Blk W3 X [.slice DA R.doc.length dc, .slice SA L.length sc, .slice KA R.kept.length kc] 46 by rw [← hW3, ← hX]; exact Blk.new _ _ _)
    have HF3 := Lib.hid (HF2.out.same HF23.out)
    rw [hX, hW3]
    clear hW3 hX HF2
    go_wp2_with fail
    have hreb := rebase_any Nob p rs G HSO.out [] own none OA 0 oc (.slice BA bn bc) l W3 (fun _ h => h.elim) (HS2.out.fr0 HF23.out) ⟨BA, bc, by rw [HBN.out], HC.out, HL.out.fr HF3.out (fun _ _ h => h.elim)⟩ (HNIL.out _) (HO.out.fr0 HF3.out) HN.out.1 ⟨by decide, HN.out.2⟩
    rw [HON.out] at hreb
    refine hreb.mono ?_
    clear hreb
    obtain ⟨⟨T, F⟩, hT⟩ : ∃ r, rebaseF rs G l (([] : List StepA).map StepA.s) (own.map StepA.s) = r := ⟨_, rfl⟩
    rw [hT]
    have HT := Lib.hid hT
    clear hT
    rintro e w4 ⟨dv, sv, kv, rfl, hV4, hF4⟩
    obtain ⟨⟨EA, ec, rfl, hec, her⟩, ⟨UA, uc, U, rfl, huL, huR⟩, ⟨JA, jc, rfl, hjr⟩⟩ := hV4
    have HER := Lib.hid her
    have HUR := Lib.hid huR
    have HF34 := Lib.hid hF4
    have HF4 := Lib.hid (HF3.out.same hF4)
    have HX4 := Lib.hid (HX3.out.fr hF4 (fun h => h))
    clear her hec huL huR hjr hF4 HX3 HF3
    go_upto_region 6 with (fail)
    obtain ⟨Y, hY⟩ : ∃ Y, w4.heap.size = Y := ⟨_, rfl⟩
    obtain ⟨W5, hW5⟩ : ∃ W5, w4.alloc (.cells #[.slice EA T.doc.length ec, .slice UA U.length uc, .slice JA T.kept.length jc] 46) = W5 := ⟨_, rfl⟩
    have HF45 := Lib.hid (show Fr Nob w4 W5 by rw [← hW5]; exact (Fr.refl _ _).alloc _)
    have HY5 := Lib.hid (show Blk W5 Y [.slice EA T.doc.length ec, .slice UA U.length uc, .slice JA T.kept.length jc] 46 by rw [← hW5, ← hY]; exact Blk.new _ _ _)
    have HF5 := Lib.hid (HF4.out.same HF45.out)
    have HX5 := Lib.hid (HX4.out.fr HF45.out (fun h => h))
    rw [hY, hW5]
    clear hW5 hY HF4 HX4
    have hEF := rebase_alone (rs := rs) (g := G) (l := l) (own := own.map StepA.s)
    have hEF2 := hEF.2
    have hEF1 := hEF.1
    have hT1 : rebaseF rs G l [] (own.map StepA.s) = (T, F) := HT.out
    have hR1 : rebaseF rs G l (own.map StepA.s) [] = (R, E) := HR.out
    rw [hT1] at hEF2
    rw [hT1, hR1] at hEF1
    simp only at hEF1 hEF2
    subst hEF1
    have HEF := Lib.hid hEF2
    clear hEF hEF2 hT1
    have HR1 := Lib.hid hR1
    clear hR1
    by_cases hE : F = 0
    · subst hE
      have hno := rebase_none (rs := rs) (g := G) (l := l) (own := own.map StepA.s) (by rw [List.length_map, HON.out]; exact ho20) (by rw [HR1.out])
      rw [HR1.out] at hno
      injection hno with hno
      have hno2 := HEF.out rfl
      have hLs : L.map StepA.s = own.map StepA.s := by rw [HSR.out, hno]
      have hU : U = [] := by
        have h := HUR.out
        rw [hno2] at h
        exact List.map_eq_nil_iff.1 h
      subst hU
      have hLn : L.length = on := by
        have h := congrArg List.length hLs
        rw [List.length_map, List.length_map, HON.out] at h
        exact h
      have hkn : R.kept.length = on := by
        rw [hno]
        simp only [List.length_range, List.length_map]
        exact HON.out
      have hdd : R.doc = T.doc := by rw [hno, hno2]
      have hdl : R.doc.length ≤ 4611686018427387904 := by
        have h := rebase_short (rs := rs) (g := G) (l := l) (own := own.map StepA.s) (over := ([] : List StepA).map StepA.s)
        rw [HR.out] at h
        have := h
        simp only at this
        omega
      have hsl : ∀ x ∈ L, x.s.l.length ≤ 4611686018427387904 := fun x hx => by
        have hxs : x.s ∈ own.map StepA.s := by
          rw [← hLs]
          exact List.mem_map_of_mem hx
        have := (stepN (rebase_right (by rw [HR1.out]) x.s hxs)).len
        omega
      have HLs := Lib.hid hLs
      have HLn := Lib.hid hLn
      have HDD := Lib.hid hdd
      have HDL := Lib.hid hdl
      have HSLL := Lib.hid hsl
      rw [hLn, hkn] at HX5
      obtain ⟨dn, hdn⟩ : ∃ n, R.doc.length = n := ⟨_, rfl⟩
      have hdn2 : T.doc.length = dn := by rw [← hdd]; exact hdn
      have HDN := Lib.hid hdn
      rw [hdn] at HX5
      rw [hdn2, List.length_nil] at HY5
      clear hno hno2 hLs hLn hkn hdd hdl hsl hdn hdn2
      have x1 := HX5.out.cell 1
      have x2 := HX5.out.cell 2
      have xl := HX5.out.lt
      simp only [List.getElem?_cons_zero, List.getElem?_cons_succ] at x1 x2
      go_wp2_with fail
      refine (list_same L own HLs.out SA OA on sc oc W5 HLn.out (by omega) HSLL.out (HSL.out.fr0 ((HF23.out.same HF34.out).same HF45.out)) (HO.out.fr0 HF5.out)).mono ?_
      rintro e w6 ⟨rfl, hF6⟩
      have HF6 := Lib.hid (HF5.out.same hF6)
      have HX6 := Lib.hid (HX5.out.fr hF6 (fun h => h))
      have HY6 := Lib.hid (HY5.out.fr hF6 (fun h => h))
      have HD6 := Lib.hid (HDR.out.fr (((HF23.out.same HF34.out).same HF45.out).same hF6) (fun _ _ h => h.elim))
      have HE6 := Lib.hid (HER.out.fr (HF45.out.same hF6) (fun _ _ h => h.elim))
      clear x1 x2 xl hF6 HX5 HY5
      have x0 := HX6.out.cell 0
      have xl := HX6.out.lt
      have y0 := HY6.out.cell 0
      have yl := HY6.out.lt
      simp only [List.getElem?_cons_zero, List.getElem?_cons_succ] at x0 y0
      go_wp2_with fail
      have h := alike_same Nob Nob R.doc DA EA dc ec w6 HDL.out HD6.out (by rw [HDD.out]; exact HE6.out)
      rw [HDN.out] at h
      refine h.mono ?_
      clear h
      rintro e w7 ⟨rfl, hF7⟩
      have HF7 := Lib.hid (HF6.out.same hF7)
      have z1 := (HY6.out.fr hF7 (fun h => h)).cell 1
      have zl := (HY6.out.fr hF7 (fun h => h)).lt
      simp only [List.getElem?_cons_zero, List.getElem?_cons_succ] at z1
      clear x0 y0 xl yl hF7
      go_wp2_with fail
      refine (awake_any w7 (HHG.out.fr HF7.out (fun h => h))).mono ?_
      rintro e w8 ⟨rfl, hF8⟩
      go_wp2_with fail
      go_ret
      exact ⟨rfl, HF7.out.same hF8⟩
    · have hE' : (F != 0) = true := by simp [hE]
      go_wp2_with fail
      refine (awake_any W5 (HHG.out.fr HF5.out (fun h => h))).mono ?_
      rintro e w6 ⟨rfl, hF6⟩
      go_wp2_with fail
      go_ret
      exact ⟨rfl, HF5.out.same hF6⟩
end Go.Proofs.YtanbfplcldloeaaGreatDoor
