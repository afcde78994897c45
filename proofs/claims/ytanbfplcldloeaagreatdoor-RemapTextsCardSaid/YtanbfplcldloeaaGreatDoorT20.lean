/- A part of the proof for chapter 10: Core, FoldP, TextsP, Awake10; no conditions. -/
import Derived.Test.YtanbfplcldloeaaGreatDoorT12
import Derived.Test.YtanbfplcldloeaaGreatDoorT19
/- Chapter 10: what is told hangs on a rule's text alone, not on where it lies; the errors' numbers; the house. -/
namespace Go.Proofs.YtanbfplcldloeaaGreatDoor
open Go.RowKit
def ofCore (x : SpecR × Tree) : RuleM := ⟨x.1.name, x.1.expr, x.1.leaf, x.1.marks, x.1.least, x.1.most, x.1.lines, x.2, none, 0⟩
def normR (r : RuleM) : RuleM := ofCore (coreR r)
theorem specF_norm (rs : List RuleM) (t : Int) : specF (rs.map normR) t = (specF rs t).map normR := by
  unfold specF
  split
  · rw [List.getElem?_map]
  · rfl
theorem mayB_norm (rs : List RuleM) (r : RuleM) (x : Tok) : mayB (rs.map normR) (normR r) x = mayB rs r x := by
  unfold mayB
  rw [specF_norm]
  split
  · rfl
  · cases specF rs x.t <;> rfl
def normP (p : RuleM × List Int) : RuleM × List Int := (normR p.1, p.2)
def popF (f : RuleM × List Int → List (RuleM × List Int) → Int × Int) (i : Nat) : List (RuleM × List Int) → Int × Int
  | [] => (i, 9)
  | t :: st => f t st
theorem chkF_cons2 (rs : List RuleM) (g : List Grp) (top : RuleM × List Int) (st : List (RuleM × List Int)) (x : Tok) (l : List Tok) (i : Nat) : chkF rs g top st (x :: l) i =
    (if x.k = 2 then (if accB (typR g top.1) (starR top.1) top.2 then popF (fun t st => chkF rs g t st l (i + 1)) i st else (i, 9))
    else if mayB rs top.1 x = false then (i, 9)
    else if prefN (typR g top.1) (top.2 ++ [x.t]) < (top.2 ++ [x.t]).length then (i, 9)
    else if x.k = 1 then (specF rs x.t).elim (i, 9) (fun s => chkF rs g (s, []) ((top.1, top.2 ++ [x.t]) :: st) l (i + 1))
    else chkF rs g (top.1, top.2 ++ [x.t]) st l (i + 1) : Int × Int) := by
  rw [chkF_cons]
  cases st <;> cases specF rs x.t <;> rfl
theorem chkF_norm (rs : List RuleM) (g : List Grp) : ∀ (l : List Tok) (top : RuleM × List Int) (st : List (RuleM × List Int)) (i : Nat), chkF (rs.map normR) g (normP top) (st.map normP) l i = chkF rs g top st l i
  | [], top, st, i => by
    rw [chkF_nil, chkF_nil]
    have h : (normP top :: st.map normP).getLast (by simp) = normP ((top :: st).getLast (by simp)) := by
      rw [← List.getLast_map (f := normP) (by simp)]
      rfl
    rw [h]
    rfl
  | x :: l, top, st, i => by
    rw [chkF_cons2, chkF_cons2]
    have h1 : accB (typR g (normP top).1) (starR (normP top).1) (normP top).2 = accB (typR g top.1) (starR top.1) top.2 := rfl
    have h2 : mayB (rs.map normR) (normP top).1 x = mayB rs top.1 x := mayB_norm _ _ _
    have h3 : prefN (typR g (normP top).1) ((normP top).2 ++ [x.t]) = prefN (typR g top.1) (top.2 ++ [x.t]) := rfl
    have h4 : (normP top).2 = top.2 := rfl
    have e2 : chkF (rs.map normR) g ((normP top).1, top.2 ++ [x.t]) (st.map normP) l (i + 1) = chkF rs g (top.1, top.2 ++ [x.t]) st l (i + 1) := chkF_norm rs g l (top.1, top.2 ++ [x.t]) st (i + 1)
    have e3 : popF (fun t st => chkF (rs.map normR) g t st l (i + 1)) i (st.map normP) = popF (fun t st => chkF rs g t st l (i + 1)) i st := by
      cases st with
      | nil => rfl
      | cons t st => exact chkF_norm rs g l t st (i + 1)
    have e4 : (specF (rs.map normR) x.t).elim ((i : Int), (9 : Int)) (fun s => chkF (rs.map normR) g (s, []) (((normP top).1, top.2 ++ [x.t]) :: st.map normP) l (i + 1)) = (specF rs x.t).elim ((i : Int), (9 : Int)) (fun s => chkF rs g (s, []) ((top.1, top.2 ++ [x.t]) :: st) l (i + 1)) := by
      rw [specF_norm]
      cases specF rs x.t with
      | none => rfl
      | some s => exact chkF_norm rs g l (s, []) ((top.1, top.2 ++ [x.t]) :: st) (i + 1)
    rw [h1, h2, h3, h4, e2, e3, e4]
theorem checkF_norm (rs : List RuleM) (g : List Grp) (l : List Tok) : checkF (rs.map normR) g l = checkF rs g l := by
  unfold checkF
  cases rs with
  | nil => rfl
  | cons r rs => rw [List.map_cons]; simp only []; rw [← chkF_norm (r :: rs) g l (r, []) [] 0]; rfl
/-- The house's rules, wherever they lie. -/
def houseR : List RuleM := ((wholeS ⟨#[98, 108, 111, 99, 107, 43]⟩ :: houseL).map coreS).map ofCore
theorem norm_house {rs : List RuleM} (h : rs.map coreR = (wholeS ⟨#[98, 108, 111, 99, 107, 43]⟩ :: houseL).map coreS) : rs.map normR = houseR := by
  unfold houseR
  rw [← h, List.map_map]
  rfl
theorem checkF_house {rs : List RuleM} (h : rs.map coreR = (wholeS ⟨#[98, 108, 111, 99, 107, 43]⟩ :: houseL).map coreS) (g : List Grp) (l : List Tok) : checkF rs g l = checkF houseR g l := by
  rw [← norm_house h, checkF_norm]
def coreOkB (g : List Grp) (x : SpecR × Tree) : Bool := (x.1.leaf || (match x.2 with
  | .node k n [.node 1 nm []] => (k == 4 || k == 5) && decide (n = ⟨#[]⟩) && decide (nm.size ≤ 1000000) && checkR g (repT (decide (k = 4)) nm) == 0
  | _ => false)) && (x.1.marks == 0 || x.1.marks == 7)
theorem house_schok {rs : List RuleM} (h : rs.map coreR = (wholeS ⟨#[98, 108, 111, 99, 107, 43]⟩ :: houseL).map coreS) : SchOk rs (groupsF houseL houseG) := by
  have hall : ((wholeS ⟨#[98, 108, 111, 99, 107, 43]⟩ :: houseL).map coreS).all (coreOkB (groupsF houseL houseG)) = true := by kernel_rfl
  rw [← h] at hall
  have hr : ∀ r ∈ rs, coreOkB (groupsF houseL houseG) (coreR r) = true := fun r hr => List.all_eq_true.1 hall _ (List.mem_map_of_mem hr)
  refine ⟨fun r hm hl => ?_, fun r hm => ?_, fun r hr0 => ?_⟩
  · have h1 := hr r hm
    unfold coreOkB at h1
    rw [Bool.and_eq_true] at h1
    have h2 := h1.1
    have h3 : (coreR r).1.leaf = false := hl
    have h4 : (coreR r).2 = r.e := rfl
    rw [h3, Bool.false_or, h4] at h2
    cases he : r.e with
    | node k n l =>
      rw [he] at h2
      match l, h2 with
      | [.node 1 nm []], h2 =>
        simp only [Bool.and_eq_true, Bool.or_eq_true, beq_iff_eq, decide_eq_true_eq] at h2
        obtain ⟨⟨⟨h5, h6⟩, h7⟩, h8⟩ := h2
        have hs : starR r = decide (k = 4) := by unfold starR; rw [he]; rfl
        have hn : nmR r = nm := by unfold nmR; rw [he]; rfl
        rw [hs, hn]
        refine ⟨?_, ⟨house_gok, h7, h8⟩⟩
        unfold repT
        rcases h5 with rfl | rfl
        · simp [h6]
        · simp [h6]
  · have h1 := hr r hm
    unfold coreOkB at h1
    simp only [Bool.and_eq_true, Bool.or_eq_true, beq_iff_eq] at h1
    exact h1.2
  · have h1 : (rs.map coreR)[0]? = some (coreR r) := by rw [List.getElem?_map, hr0]; rfl
    rw [h] at h1
    injection h1 with h1
    have h2 : (coreR r).1.leaf = false := by rw [← h1]; rfl
    exact h2
/-- An error's number. -/
def ErrN (e : Int) : Prop := e = 0 ∨ 1 ≤ e ∧ e ≤ 12
theorem flatF_rng : ∀ (l : List Tok) (i n : Nat), ErrN (flatF l i n).2
  | [], i, n => by
    unfold flatF
    split
    · exact .inr ⟨by simp, by simp⟩
    · exact .inl rfl
  | x :: l, i, n => by
    unfold flatF
    split
    · exact .inr ⟨by simp, by simp⟩
    · split
      · exact .inr ⟨by simp, by simp⟩
      · exact flatF_rng l _ _
theorem flatCheck_rng (l : List Tok) : ErrN (flatCheck l).2 := by
  unfold flatCheck
  split
  · exact .inr ⟨by simp, by simp⟩
  · exact flatF_rng _ _ _
theorem chkF_rng (rs : List RuleM) (g : List Grp) : ∀ (l : List Tok) (top : RuleM × List Int) (st : List (RuleM × List Int)) (i : Nat), ErrN (chkF rs g top st l i).2
  | [], top, st, i => by
    rw [chkF_nil]
    split
    · exact .inl rfl
    · exact .inr ⟨by simp, by simp⟩
  | x :: l, top, st, i => by
    rw [chkF_cons]
    split
    · split
      · cases st with
        | nil => exact .inr ⟨by simp, by simp⟩
        | cons t st => exact chkF_rng rs g l _ _ _
      · exact .inr ⟨by simp, by simp⟩
    · split
      · exact .inr ⟨by simp, by simp⟩
      · split
        · exact .inr ⟨by simp, by simp⟩
        · split
          · cases specF rs x.t with
            | none => exact .inr ⟨by simp, by simp⟩
            | some s => exact chkF_rng rs g l _ _ _
          · exact chkF_rng rs g l _ _ _
theorem checkF_rng (rs : List RuleM) (g : List Grp) (l : List Tok) : ErrN (checkF rs g l).2 := by
  unfold checkF
  split
  · exact flatCheck_rng l
  · split
    · exact .inr ⟨by simp, by simp⟩
    · exact chkF_rng _ _ _ _ _ _
theorem applyE_rng (s : StepM) (l : List Tok) : ErrN (applyE s l) := by
  unfold applyE
  split
  · exact flatCheck_rng l
  · split
    · unfold stepF
      split
      · exact .inr ⟨by simp, by simp⟩
      · split
        · exact .inl rfl
        · exact .inr ⟨by simp, by simp⟩
    · split
      · exact .inr ⟨by simp, by simp⟩
      · split
        · exact .inr ⟨by simp, by simp⟩
        · exact flatCheck_rng _
theorem doE_rng (rs : List RuleM) (g : List Grp) (s : StepM) (l : List Tok) : ErrN (doE rs g s l) := by
  unfold doE
  split
  · exact applyE_rng s l
  · exact checkF_rng _ _ _
theorem runF_rng (rs : List RuleM) (g : List Grp) : ∀ (L : List StepM) (l : List Tok), ErrN (runF rs g L l).2
  | [], l => .inl rfl
  | s :: L, l => by
    unfold runF
    split
    · exact runF_rng rs g L _
    · exact doE_rng _ _ _ _
theorem numF_of {e : Int} (h : ErrN e) : numF e = e := by
  unfold numF
  rcases h with rfl | h
  · rfl
  · exact if_pos h
end Go.Proofs.YtanbfplcldloeaaGreatDoor

/- Chapter 10: the steps make the document: in plain words. -/
namespace Go.Proofs.YtanbfplcldloeaaGreatDoor
open Go.RowKit
theorem runF_ok {rs : List RuleM} {g : List Grp} {s : StepM} {L : List StepM} {l d : List Tok} (h : runF rs g (s :: L) l = (d, 0)) : doE rs g s l = 0 ∧ runF rs g L (doF s l) = (d, 0) := by
  unfold runF at h
  split at h
  · rename_i h0; exact ⟨h0, h⟩
  · rename_i h0; injection h with _ h2; exact absurd h2 h0
theorem runF_append {rs : List RuleM} {g : List Grp} : ∀ {A B : List StepM} {l d : List Tok}, runF rs g A l = (d, 0) → runF rs g (A ++ B) l = runF rs g B d
  | [], B, l, d, h => by
    unfold runF at h
    injection h with h1
    rw [h1, List.nil_append]
  | s :: A, B, l, d, h => by
    obtain ⟨h0, h1⟩ := runF_ok h
    rw [List.cons_append]
    have e : runF rs g (s :: (A ++ B)) l = runF rs g (A ++ B) (doF s l) := by
      rw [runF, if_pos h0]
    rw [e]
    exact runF_append h1
structure FoldK (rs : List RuleM) (g : List Grp) (n i : Nat) (r r' : RebM) (S : List StepM) (K : List Nat) : Prop where
  steps : r'.steps = r.steps ++ S
  kept : r'.kept = r.kept ++ K
  len : S.length = K.length
  run : runF rs g S r.doc = (r'.doc, 0)
  lo : ∀ k ∈ K, i ≤ k ∧ k < i + n
  up : K.Pairwise (· < ·)
theorem rbGo_fold (rs : List RuleM) (g : List Grp) (n : Nat) : ∀ (own : List StepM) (i : Nat) (ms : List OneM) (r : RebM), ∃ S K, FoldK rs g own.length i r (rbGo rs g n own i ms r) S K
  | [], i, ms, r => ⟨[], [], by rw [rbGo]; simp, by rw [rbGo]; simp, rfl, by rw [rbGo]; rfl, fun k h => (by cases h), List.Pairwise.nil⟩
  | s :: own, i, ms, r => by
    rw [rbGo]
    have skip : ∀ r', (∃ S K, FoldK rs g own.length (i + 1) r r' S K) → ∃ S K, FoldK rs g (s :: own).length i r r' S K := by
      rintro r' ⟨S, K, h⟩
      refine ⟨S, K, h.steps, h.kept, h.len, h.run, fun k hk => ?_, h.up⟩
      have := h.lo k hk
      rw [List.length_cons]
      omega
    split
    · exact skip _ (rbGo_fold rs g n own (i + 1) ms r)
    · rename_i x _
      split
      · rename_i h0
        obtain ⟨S, K, h⟩ := rbGo_fold rs g n own (i + 1) (mirL (ms ++ [mapM x]) (n - 1 - i) ms.length) ⟨doF x r.doc, r.steps ++ [x], r.kept ++ [i]⟩
        refine ⟨x :: S, i :: K, ?_, ?_, by rw [List.length_cons, List.length_cons, h.len], ?_, ?_, ?_⟩
        · rw [h.steps, List.append_assoc, List.singleton_append]
        · rw [h.kept, List.append_assoc, List.singleton_append]
        · rw [runF, if_pos h0]
          exact h.run
        · intro k hk
          rw [List.length_cons]
          rcases List.mem_cons.1 hk with rfl | hk
          · omega
          · have := h.lo k hk
            omega
        · refine List.pairwise_cons.2 ⟨fun k hk => ?_, h.up⟩
          have := h.lo k hk
          omega
      · exact skip _ (rbGo_fold rs g n own (i + 1) ms r)
/-- What comes of Rebase. -/
structure Folds (rs : List RuleM) (g : List Grp) (l : List Tok) (own over : List StepM) (R : RebM) : Prop where
  run : runF rs g (over ++ R.steps) l = (R.doc, 0)
  len : R.kept.length = R.steps.length
  lo : ∀ k ∈ R.kept, k < own.length
  up : R.kept.Pairwise (· < ·)
theorem rebase_fold {rs : List RuleM} {g : List Grp} {l : List Tok} {own over : List StepM} (h : (rebaseF rs g l own over).2 = 0) : Folds rs g l own over (rebaseF rs g l own over).1 := by
  unfold rebaseF at h ⊢
  split at h
  · rename_i h0; exact absurd h h0
  · rename_i h0
    rw [if_neg h0]
    split at h
    · cases h
    · rename_i h1
      rw [if_neg h1]
      split at h
      · rename_i h2
        have h' : numF (runF rs g own l).2 = 0 := h
        rw [numF_of (runF_rng _ _ _ _)] at h'
        exact absurd h' h2
      · rename_i h2
        rw [if_neg h2]
        split at h
        · rename_i h3
          have h' : numF (runF rs g over l).2 = 0 := h
          rw [numF_of (runF_rng _ _ _ _)] at h'
          exact absurd h' h3
        · rename_i h3
          rw [if_neg h3]
          obtain ⟨S, K, hf⟩ := rbGo_fold rs g own.length own 0 ((own.map undoM).reverse ++ over.map mapM) ⟨(runF rs g over l).1, [], []⟩
          have hs := hf.steps
          have hk := hf.kept
          simp only [List.nil_append] at hs hk
          refine ⟨?_, ?_, ?_, ?_⟩
          · have h5 : runF rs g over l = ((runF rs g over l).1, 0) := Prod.ext rfl (Decidable.not_not.1 h3)
            show runF rs g (over ++ (rbGo rs g own.length own 0 ((own.map undoM).reverse ++ over.map mapM) ⟨(runF rs g over l).1, [], []⟩).steps) l = _
            rw [runF_append h5, hs]
            exact hf.run
          · show (rbGo rs g own.length own 0 ((own.map undoM).reverse ++ over.map mapM) ⟨(runF rs g over l).1, [], []⟩).kept.length = (rbGo rs g own.length own 0 ((own.map undoM).reverse ++ over.map mapM) ⟨(runF rs g over l).1, [], []⟩).steps.length
            rw [hs, hk, hf.len]
          · intro k hk'
            have hk2 : k ∈ (rbGo rs g own.length own 0 ((own.map undoM).reverse ++ over.map mapM) ⟨(runF rs g over l).1, [], []⟩).kept := hk'
            rw [hk] at hk2
            have := hf.lo k hk2
            omega
          · show (rbGo rs g own.length own 0 ((own.map undoM).reverse ++ over.map mapM) ⟨(runF rs g over l).1, [], []⟩).kept.Pairwise (· < ·)
            rw [hk]
            exact hf.up
theorem rebase_err {rs : List RuleM} {g : List Grp} {l : List Tok} {own over : List StepM} (h : (rebaseF rs g l own over).2 ≠ 0) : (rebaseF rs g l own over).1 = ⟨[], [], []⟩ := by
  unfold rebaseF at h ⊢
  split
  · rfl
  · rename_i h0
    rw [if_neg h0] at h
    split
    · rfl
    · rename_i h1
      rw [if_neg h1] at h
      split
      · rfl
      · rename_i h2
        rw [if_neg h2] at h
        split
        · rfl
        · rename_i h3
          rw [if_neg h3] at h
          exact absurd rfl h
theorem runF_short {rs : List RuleM} {g : List Grp} : ∀ {L : List StepM} {l r : List Tok}, l.length ≤ 2048 → runF rs g L l = (r, 0) → r.length ≤ 2048
  | [], _, _, hl, h => by cases h; exact hl
  | s :: L, l, r, hl, h => by
    obtain ⟨h0, h1⟩ := runF_ok h
    exact runF_short (flat_short (applyE_zero (doE_zero h0).1).2.2.2) h1
theorem checkF_flat {rs : List RuleM} {g : List Grp} {l : List Tok} (h : (checkF rs g l).2 = 0) : l.length ≤ 2048 := by
  unfold checkF at h
  split at h
  · rename_i h0; exact absurd h h0
  · rename_i h0; exact flat_short (Decidable.not_not.1 h0)
theorem rebase_short {rs : List RuleM} {g : List Grp} {l : List Tok} {own over : List StepM} : (rebaseF rs g l own over).1.doc.length ≤ 2048 := by
  by_cases h : (rebaseF rs g l own over).2 = 0
  · have hf := rebase_fold h
    refine runF_short ?_ hf.run
    unfold rebaseF at h
    split at h
    · rename_i h0; exact absurd h h0
    · rename_i h0; exact checkF_flat (Decidable.not_not.1 h0)
  · rw [rebase_err h]
    exact Nat.zero_le _
/-- The document by which a law sees that the program computes at all. -/
def awakeD : List Tok := [⟨1, 1, 0, 0⟩, ⟨2, 0, 0, 0⟩]
theorem rebase_awake {rs : List RuleM} (h : rs.map coreR = (wholeS ⟨#[98, 108, 111, 99, 107, 43]⟩ :: houseL).map coreS) : rebaseF rs (groupsF houseL houseG) awakeD [] [] = (⟨awakeD, [], []⟩, 0) := by
  have h1 : (checkF houseR (groupsF houseL houseG) awakeD).2 = 0 := by kernel_rfl
  unfold rebaseF
  rw [checkF_house h, if_neg (by rw [h1]; simp)]
  rfl
end Go.Proofs.YtanbfplcldloeaaGreatDoor

/- Chapter 10: letters put at two places of a text, by one and by another: in plain words. -/
namespace Go.Proofs.YtanbfplcldloeaaGreatDoor
open Go.RowKit
def gH : List Grp := groupsF houseL houseG
def wholeR : RuleM := ofCore (coreS (wholeS ⟨#[98, 108, 111, 99, 107, 43]⟩))
def paraR : RuleM := ofCore (coreS ⟨⟨#[112, 97, 114, 97]⟩, ⟨#[116, 101, 120, 116, 42]⟩, false, 7, 0, 0, false⟩)
def runeT (c : Int) : Tok := ⟨0, 0, c, 0⟩
def openT : Tok := ⟨1, 1, 0, 0⟩
def closeT : Tok := ⟨2, 0, 0, 0⟩
/-- A paragraph of runes. -/
def paraD (u : List Tok) : List Tok := openT :: (u ++ [closeT])
structure Rune (x : Tok) : Prop where
  ok : okT x = true
  k : x.k = 0
  t : x.t = 0
  m : x.m = 0
  n : x.n ≠ 10
theorem typ_para : typR gH paraR = [0] := by kernel_rfl
theorem star_para : starR paraR = true := by kernel_rfl
theorem acc_whole : accB (typR gH wholeR) (starR wholeR) [1] = true := by kernel_rfl
theorem may_whole : mayB houseR wholeR openT = true := by kernel_rfl
theorem pre_whole : prefN (typR gH wholeR) [1] = 1 := by kernel_rfl
theorem spec_para : specF houseR 1 = some paraR := by kernel_rfl
theorem pre_zeros : ∀ j : Nat, prefN [0] (List.replicate j 0) = j
  | 0 => rfl
  | j + 1 => by
    rw [List.replicate_succ, prefN_cons, pre_zeros j]
    rfl
theorem chk_runes : ∀ (u : List Tok) (j i : Nat), (∀ x ∈ u, Rune x) → (chkF houseR gH (paraR, List.replicate j 0) [(wholeR, [1])] (u ++ [closeT]) i).2 = 0
  | [], j, i, _ => by
    rw [List.nil_append, chkF_cons2, if_pos (show closeT.k = 2 from rfl)]
    have h1 : accB (typR gH (paraR, List.replicate j (0 : Int)).1) (starR (paraR, List.replicate j (0 : Int)).1) (paraR, List.replicate j (0 : Int)).2 = true := by
      simp only [typ_para, star_para]
      unfold accB
      rw [pre_zeros, List.length_replicate]
      simp
    rw [h1, if_pos rfl, popF, chkF_nil]
    have h2 : accB (typR gH ((([(wholeR, [1])] : List (RuleM × List Int))).getLast (by simp)).1) (starR ((([(wholeR, [1])] : List (RuleM × List Int))).getLast (by simp)).1) ((([(wholeR, [1])] : List (RuleM × List Int))).getLast (by simp)).2 = true := acc_whole
    rw [h2, if_pos rfl]
  | x :: u, j, i, h => by
    have hx := h x List.mem_cons_self
    rw [List.cons_append, chkF_cons2, if_neg (by rw [hx.k]; decide)]
    have h1 : mayB houseR paraR x = true := by
      unfold mayB
      rw [if_pos hx.k, hx.m]
      simp [hx.n]
    rw [if_neg (by rw [h1]; simp)]
    have h2 : List.replicate j (0 : Int) ++ [x.t] = List.replicate (j + 1) 0 := by
      rw [hx.t, List.replicate_succ']
    simp only [h2]
    rw [if_neg (by rw [typ_para, pre_zeros, List.length_replicate]; omega), if_neg (by rw [hx.k]; decide)]
    exact chk_runes u (j + 1) (i + 1) (fun y hy => h y (List.mem_cons_of_mem _ hy))
theorem flat_runes : ∀ (u : List Tok) (i : Nat), (∀ x ∈ u, Rune x) → (flatF (u ++ [closeT]) i 1).2 = 0
  | [], i, _ => by
    rw [List.nil_append, flatF, if_neg (by decide), if_neg (by decide), if_neg (by decide), if_pos (show closeT.k = 2 from rfl), flatF]
    rfl
  | x :: u, i, h => by
    have hx := h x List.mem_cons_self
    rw [List.cons_append, flatF, if_neg (by rw [hx.ok, hx.k]; decide), if_neg (by rw [hx.k]; decide), if_neg (by rw [hx.k]; decide), if_neg (by rw [hx.k]; decide)]
    exact flat_runes u (i + 1) (fun y hy => h y (List.mem_cons_of_mem _ hy))
theorem para_flat {u : List Tok} (h : ∀ x ∈ u, Rune x) (hn : u.length ≤ 2000) : (flatCheck (paraD u)).2 = 0 := by
  unfold flatCheck
  rw [if_neg (by simp [paraD]; omega)]
  unfold paraD
  rw [flatF, if_neg (by decide), if_neg (by decide), if_pos (show openT.k = 1 from rfl)]
  exact flat_runes u 1 h
theorem para_check {u : List Tok} (h : ∀ x ∈ u, Rune x) (hn : u.length ≤ 2000) : (checkF houseR gH (paraD u)).2 = 0 := by
  unfold checkF
  rw [if_neg (by rw [para_flat h hn]; simp)]
  have e : houseR = wholeR :: houseR.tail := by kernel_rfl
  have h1 : (chkF houseR gH (wholeR, []) [] (paraD u) 0).2 = 0 := by
    unfold paraD
    rw [chkF_cons2, if_neg (by decide), if_neg (by rw [may_whole]; simp)]
    have h2 : (([] : List Int) ++ [openT.t]) = [1] := rfl
    simp only [h2]
    rw [if_neg (by rw [pre_whole]; simp), if_pos (show openT.k = 1 from rfl)]
    have h3 : specF houseR openT.t = some paraR := spec_para
    rw [h3]
    exact chk_runes u 0 1 h
  rw [e] at h1 ⊢
  exact h1
/-- One letter put at a place. -/
def putS (p : Nat) (c : Int) : StepM := ⟨0, p, p, 0, 0, 0, 0, [runeT c]⟩
def insR (u : List Tok) (j : Nat) (c : Int) : List Tok := u.take j ++ runeT c :: u.drop j
theorem insR_len (u : List Tok) (j : Nat) (c : Int) (h : j ≤ u.length) : (insR u j c).length = u.length + 1 := by
  simp [insR]
  omega
theorem insR_rune {u : List Tok} (h : ∀ x ∈ u, Rune x) (j : Nat) {c : Int} (hc : Rune (runeT c)) : ∀ x ∈ insR u j c, Rune x := fun x hx => by
  rcases List.mem_append.1 hx with hx | hx
  · exact h x (List.mem_of_mem_take hx)
  · rcases List.mem_cons.1 hx with rfl | hx
    · exact hc
    · exact h x (List.mem_of_mem_drop hx)
theorem put_para (u : List Tok) (j : Nat) (c : Int) (h : j ≤ u.length) : doF (putS (j + 1) c) (paraD u) = paraD (insR u j c) := by
  show repF ((j + 1 : Nat) : Int).toNat ((j + 1 : Nat) : Int).toNat [runeT c] (paraD u) = _
  rw [Int.toNat_natCast]
  unfold repF paraD insR
  rw [List.take_succ_cons, List.drop_succ_cons, List.take_append_of_le_length h, List.drop_append_of_le_length h]
  simp
theorem put_right (p : Nat) (c : Int) (hp : p ≤ 2048) (hc : Rune (runeT c)) : stepF (putS p c) = 0 := by
  unfold stepF
  rw [if_neg (by simp [putS])]
  have h1 : kindOk (putS p c) = true := by
    unfold kindOk
    rw [if_pos (show (putS p c).k = 0 from rfl)]
    simp only [putS, okRep]
    rw [(ok0S_iff _ _).2 ⟨by omega, by omega, by omega⟩]
    rfl
  rw [h1]
  simp [putS, hc.ok]
theorem put_do {u : List Tok} (h : ∀ x ∈ u, Rune x) (j : Nat) {c : Int} (hc : Rune (runeT c)) (hj : j ≤ u.length) (hn : u.length ≤ 1000) : doE houseR gH (putS (j + 1) c) (paraD u) = 0 := by
  have h2 := insR_rune h j hc
  have h3 : (insR u j c).length ≤ 2000 := by rw [insR_len _ _ _ hj]; omega
  unfold doE
  have ha : applyE (putS (j + 1) c) (paraD u) = 0 := by
    unfold applyE
    rw [if_neg (by rw [para_flat h (by omega)]; simp), if_neg (by rw [put_right _ _ (by omega) hc]; simp), if_neg (by simp [putS, paraD]; omega), put_para _ _ _ hj, para_flat h2 h3]
    rfl
  rw [if_neg (by rw [ha]; simp), put_para _ _ _ hj]
  exact para_check h2 h3
theorem rune_x : Rune (runeT 120) := ⟨by kernel_rfl, rfl, rfl, rfl, by decide⟩
theorem rune_y : Rune (runeT 121) := ⟨by kernel_rfl, rfl, rfl, rfl, by decide⟩
theorem rune_dot : Rune (runeT 46) := ⟨by kernel_rfl, rfl, rfl, rfl, by decide⟩
section
variable {rs rs' : List RuleM} {g : List Grp} (hc : ∀ l, checkF rs g l = checkF rs' g l)
include hc
theorem doE_congr (s : StepM) (l : List Tok) : doE rs g s l = doE rs' g s l := by
  unfold doE
  rw [hc]
theorem runF_congr : ∀ (L : List StepM) (l : List Tok), runF rs g L l = runF rs' g L l
  | [], _ => rfl
  | s :: L, l => by
    unfold runF
    rw [doE_congr hc, runF_congr L]
theorem rbGo_congr (n : Nat) : ∀ (own : List StepM) (i : Nat) (ms : List OneM) (r : RebM), rbGo rs g n own i ms r = rbGo rs' g n own i ms r
  | [], _, _, _ => rfl
  | s :: own, i, ms, r => by
    unfold rbGo
    split
    · exact rbGo_congr n own _ _ _
    · rw [doE_congr hc, rbGo_congr n own, rbGo_congr n own]
theorem rebaseF_congr (l : List Tok) (own over : List StepM) : rebaseF rs g l own over = rebaseF rs' g l own over := by
  unfold rebaseF
  rw [hc, runF_congr hc, runF_congr hc, rbGo_congr hc]
end
def eqS (x y : StepM) : Bool := x.k == y.k && (x.f == y.f && (x.t == y.t && (x.gf == y.gf && (x.gt == y.gt && (x.ins == y.ins && (x.m == y.m && decide (x.l = y.l)))))))
theorem eqS_spec {x y : StepM} (h : eqS x y = true) : x = y := by
  unfold eqS at h
  simp only [Bool.and_eq_true, beq_iff_eq, decide_eq_true_eq] at h
  obtain ⟨h1, h2, h3, h4, h5, h6, h7, h8⟩ := h
  cases x
  cases y
  simp only at h1 h2 h3 h4 h5 h6 h7 h8
  subst h1 h2 h3 h4 h5 h6 h7 h8
  rfl
/-- Where the own letter goes. -/
def atX (p q : Nat) : Nat := if q ≤ p then p + 1 else p
def thruB (p q : Nat) : Bool := (stepThru [undoM (putS p 120), mapM (putS q 121)] 1 (putS p 120)).elim false (fun x => eqS x (putS (atX p q) 120))
theorem thru_all : ((List.range 40).all fun p => (List.range 40).all fun q => thruB (p + 1) (q + 1)) = true := by kernel_rfl
theorem thru_put {p q : Nat} (hp : p < 40) (hq : q < 40) : stepThru [undoM (putS (p + 1) 120), mapM (putS (q + 1) 121)] 1 (putS (p + 1) 120) = some (putS (atX (p + 1) (q + 1)) 120) := by
  have h1 := List.all_eq_true.1 (List.all_eq_true.1 thru_all p (List.mem_range.2 hp)) q (List.mem_range.2 hq)
  unfold thruB at h1
  cases h : stepThru [undoM (putS (p + 1) 120), mapM (putS (q + 1) 121)] 1 (putS (p + 1) 120) with
  | none => rw [h] at h1; cases h1
  | some x => rw [h] at h1; rw [eqS_spec h1]
def dotsU (k : Nat) : List Tok := List.replicate k (runeT 46)
theorem dots_rune (k : Nat) : ∀ x ∈ dotsU k, Rune x := fun x hx => by
  rw [List.eq_of_mem_replicate hx]
  exact rune_dot
/-- What comes of two letters. -/
def textsU (k p q : Nat) : List Tok := insR (insR (dotsU k) q 121) (atX (p + 1) (q + 1) - 1) 120
theorem texts_rebase {k p q : Nat} (hk : k < 40) (hp : p ≤ k) (hq : q ≤ k) :
    rebaseF houseR gH (paraD (dotsU k)) [putS (p + 1) 120] [putS (q + 1) 121] = (⟨paraD (textsU k p q), [putS (atX (p + 1) (q + 1)) 120], [0]⟩, 0) := by
  have hu := dots_rune k
  have hul : (dotsU k).length = k := List.length_replicate
  have h1 : doE houseR gH (putS (p + 1) 120) (paraD (dotsU k)) = 0 := put_do hu p rune_x (by omega) (by omega)
  have h2 : doE houseR gH (putS (q + 1) 121) (paraD (dotsU k)) = 0 := put_do hu q rune_y (by omega) (by omega)
  have hu2 := insR_rune hu q rune_y
  have hul2 : (insR (dotsU k) q 121).length = k + 1 := by rw [insR_len _ _ _ (by omega), hul]
  have hax : ∃ j, atX (p + 1) (q + 1) = j + 1 ∧ j ≤ k + 1 := by
    unfold atX
    split
    · exact ⟨p + 1, rfl, by omega⟩
    · exact ⟨p, rfl, by omega⟩
  obtain ⟨j, hj, hjk⟩ := hax
  have h3 : doE houseR gH (putS (atX (p + 1) (q + 1)) 120) (paraD (insR (dotsU k) q 121)) = 0 := by
    rw [hj]
    exact put_do hu2 j rune_x (by omega) (by omega)
  have r1 : runF houseR gH [putS (p + 1) 120] (paraD (dotsU k)) = (doF (putS (p + 1) 120) (paraD (dotsU k)), 0) := by
    rw [runF, if_pos h1, runF]
  have r2 : runF houseR gH [putS (q + 1) 121] (paraD (dotsU k)) = (paraD (insR (dotsU k) q 121), 0) := by
    rw [runF, if_pos h2, runF, put_para _ _ _ (by omega)]
  have ht := thru_put (p := p) (q := q) (by omega) (by omega)
  unfold rebaseF
  rw [if_neg (by rw [para_check hu (by omega)]; simp), if_neg (by simp), if_neg (by rw [r1]; simp), if_neg (by rw [r2]; simp), r2]
  have e1 : (([putS (p + 1) 120].map undoM).reverse ++ [putS (q + 1) 121].map mapM) = [undoM (putS (p + 1) 120), mapM (putS (q + 1) 121)] := rfl
  have e2 : ((([putS (p + 1) 120] : List StepM).length : Int) - (0 : Nat)) = 1 := rfl
  rw [e1]
  unfold rbGo
  simp only [e2, ht, if_pos h3]
  unfold rbGo
  have e3 : doF (putS (atX (p + 1) (q + 1)) 120) (paraD (insR (dotsU k) q 121)) = paraD (textsU k p q) := by
    unfold textsU
    rw [hj, put_para _ _ _ (by omega)]
    rfl
  rw [e3]
  rfl
theorem texts_len {k p q : Nat} (hp : p ≤ k) (hq : q ≤ k) : (paraD (textsU k p q)).length = k + 4 := by
  have hul : (dotsU k).length = k := List.length_replicate
  have h1 : (insR (dotsU k) q 121).length = k + 1 := by rw [insR_len _ _ _ (by omega), hul]
  unfold textsU paraD
  have h2 : atX (p + 1) (q + 1) - 1 ≤ k + 1 := by unfold atX; split <;> omega
  rw [List.length_cons, List.length_append, insR_len _ _ _ (by omega), h1]
  rfl
theorem insR_at (u : List Tok) (j : Nat) (c : Int) (h : j ≤ u.length) : (insR u j c)[j]? = some (runeT c) := by
  unfold insR
  rw [List.getElem?_append_right (by rw [List.length_take]; omega), List.length_take, Nat.min_eq_left h, Nat.sub_self]
  rfl
theorem insR_lo (u : List Tok) (j i : Nat) (c : Int) (h : i < j) (hj : j ≤ u.length) : (insR u j c)[i]? = u[i]? := by
  unfold insR
  rw [List.getElem?_append_left (by rw [List.length_take]; omega), List.getElem?_take, if_pos h]
theorem insR_hi (u : List Tok) (j i : Nat) (c : Int) (h : j ≤ i) (hj : j ≤ u.length) : (insR u j c)[i + 1]? = u[i]? := by
  unfold insR
  rw [List.getElem?_append_right (by rw [List.length_take]; omega), List.length_take, Nat.min_eq_left hj, show i + 1 - j = (i - j) + 1 by omega, List.getElem?_cons_succ, List.getElem?_drop]
  congr 1
  omega
theorem paraD_at (u : List Tok) (i : Nat) (h : i < u.length) : (paraD u)[i + 1]? = u[i]? := by
  unfold paraD
  rw [List.getElem?_cons_succ, List.getElem?_append_left h]
/-- Both letters are there. -/
theorem texts_letters {k p q : Nat} (hp : p ≤ k) (hq : q ≤ k) :
    (paraD (textsU k p q))[atX (p + 1) (q + 1)]? = some (runeT 120) ∧ (paraD (textsU k p q))[if q + 1 ≤ p + 1 then q + 1 else q + 1 + 1]? = some (runeT 121) := by
  have hul : (dotsU k).length = k := List.length_replicate
  have h1 : (insR (dotsU k) q 121).length = k + 1 := by rw [insR_len _ _ _ (by omega), hul]
  have hlen : ∀ j, j ≤ k + 1 → (insR (insR (dotsU k) q 121) j 120).length = k + 2 := fun j hj => by rw [insR_len _ _ _ (by omega), h1]
  unfold textsU atX
  by_cases h : q + 1 ≤ p + 1
  · rw [if_pos h, if_pos h]
    simp only [Nat.add_sub_cancel]
    exact ⟨by rw [paraD_at _ _ (by rw [hlen _ (by omega)]; omega), insR_at _ _ _ (by omega)], by rw [paraD_at _ _ (by rw [hlen _ (by omega)]; omega), insR_lo _ _ _ _ (by omega) (by omega), insR_at _ _ _ (by omega)]⟩
  · rw [if_neg h, if_neg h]
    simp only [Nat.add_sub_cancel]
    exact ⟨by rw [paraD_at _ _ (by rw [hlen _ (by omega)]; omega), insR_at _ _ _ (by omega)], by rw [paraD_at _ _ (by rw [hlen _ (by omega)]; omega), insR_hi _ _ _ _ (by omega) (by omega), insR_at _ _ _ (by omega)]⟩
end Go.Proofs.YtanbfplcldloeaaGreatDoor

/- Chapter 10: what the laws lean on: 'awake', 'small', 'alike'. -/
namespace Go.Proofs.YtanbfplcldloeaaGreatDoor
open Go.RowKit
set_option maxRecDepth 100000 in
set_option maxHeartbeats 2000000 in
theorem awake_any (w : World) (hG : HG w) : Calls Tryz.prog 15 #[] w fun e w' => e = .returned (.bool true) ∧ Fr Nob w w' := by
  have HHG := Lib.hid hG
  clear hG
  go_enter Tryz.func15, Tryz.ntmps15
  go_wp2_with fail
  refine (house_any w HHG.out).mono ?_
  rintro e w1 ⟨⟨p, rs, rfl, hS, hC⟩, hF1⟩
  have HS := Lib.hid (hS.mono (M' := Nob) (fun _ h => h.elim))
  have HC := Lib.hid hC
  have HF1 := Lib.hid hF1
  clear hS hC hF1
  go_wp2_with fail
  obtain ⟨W, hW⟩ : ∃ W, w1.alloc (.cells #[.int .i64 1, .int .i64 1, .int .i64 0, .int .i64 0, .int .i64 2, .int .i64 0, .int .i64 0, .int .i64 0] 65) = W := ⟨_, rfl⟩
  have HB := Lib.hid (show Blk W w1.heap.size (tokC awakeD) 65 by rw [← hW]; exact Blk.new _ _ _)
  have HF2 := Lib.hid (show Fr Nob w1 W by rw [← hW]; exact (Fr.refl _ _).alloc _)
  rw [hW]
  clear hW
  have hreb := rebase_any Nob p rs (groupsF houseL houseG) (house_schok HC.out) [] [] none none 0 0 (.slice (some ⟨w1.heap.size, 0, none⟩) 2 2) awakeD W (fun _ h => h.elim) (HS.out.fr0 HF2.out) ⟨_, _, rfl, Nat.le_refl _, fun _ => ⟨_, rfl, fun h => h, fun j u hu => by rw [add_lit]; exact (HB.out.cell j).trans hu⟩⟩ ⟨Rd.nil _ _ _, fun _ h => (by cases h), fun _ h => (by cases h)⟩ ⟨Rd.nil _ _ _, fun _ h => (by cases h), fun _ h => (by cases h)⟩ (by decide) (by decide)
  simp only [List.map_nil, rebase_awake HC.out] at hreb
  refine hreb.mono ?_
  clear hreb
  rintro e w2 ⟨dv, sv, kv, rfl, hv, hF3⟩
  obtain ⟨⟨A, c, rfl, _, _⟩, ⟨SA, sc, L, rfl, _, hL⟩, ⟨KA, kc, rfl, _⟩⟩ := hv
  have hL0 : L = [] := List.map_eq_nil_iff.1 hL
  subst hL0
  have HF3 := Lib.hid ((HF1.out.same HF2.out).same hF3)
  clear hF3 hL
  obtain ⟨n2, hn2⟩ : ∃ n : Nat, awakeD.length = n := ⟨_, rfl⟩
  have hn2' : n2 = 2 := by rw [← hn2]; rfl
  simp only [hn2, List.length_nil]
  clear hn2
  subst hn2'
  go_wp2_with fail
  go_ret
  exact ⟨rfl, HF3.out.alloc _⟩
set_option maxRecDepth 100000 in
theorem small_any (BA OA VA : Option Addr) (bn on vn bc oc vc : Nat) (w : World) :
    Calls Tryz.prog 16 #[.slice BA bn bc, .slice OA on oc, .slice VA vn vc] w fun e w' => e = .returned (.bool (decide (bn ≤ 200) && (decide (on ≤ 20) && decide (vn ≤ 20)))) ∧ w' = w := by
  by_cases h1 : bn ≤ 200
  · have h1' : (bn : Int) ≤ 200 := by omega
    by_cases h2 : on ≤ 20
    · have h2' : (on : Int) ≤ 20 := by omega
      by_cases h3 : vn ≤ 20
      · have h3' : (vn : Int) ≤ 20 := by omega
        rw [decide_eq_true h1, decide_eq_true h2, decide_eq_true h3]
        clear h1 h2 h3
        go_enter Tryz.func16, Tryz.ntmps16
        go_wp2_with fail
        go_ret
        exact ⟨rfl, rfl⟩
      · have h3' : ¬ (vn : Int) ≤ 20 := by omega
        rw [decide_eq_true h1, decide_eq_true h2, decide_eq_false h3]
        clear h1 h2 h3
        go_enter Tryz.func16, Tryz.ntmps16
        go_wp2_with fail
        go_ret
        exact ⟨rfl, rfl⟩
    · have h2' : ¬ (on : Int) ≤ 20 := by omega
      rw [decide_eq_true h1, decide_eq_false h2]
      clear h1 h2
      go_enter Tryz.func16, Tryz.ntmps16
      go_wp2_with fail
      go_ret
      exact ⟨rfl, rfl⟩
  · have h1' : ¬ (bn : Int) ≤ 200 := by omega
    rw [decide_eq_false h1]
    clear h1
    go_enter Tryz.func16, Tryz.ntmps16
    go_wp2_with fail
    go_ret
    exact ⟨rfl, rfl⟩
def sameF : List Tok → List Tok → Bool
  | [], _ => true
  | _ :: _, [] => true
  | x :: l, y :: m => decide (x = y) && sameF l m
theorem sameF_self : ∀ l : List Tok, sameF l l = true
  | [] => rfl
  | x :: l => by unfold sameF; rw [decide_eq_true rfl, sameF_self l]; rfl
theorem sameF_eq : ∀ (l m : List Tok), l.length = m.length → sameF l m = true → l = m
  | [], [], _, _ => rfl
  | [], _ :: _, h, _ => by cases h
  | _ :: _, [], h, _ => by cases h
  | x :: l, y :: m, h, h' => by
    unfold sameF at h'
    rw [Bool.and_eq_true] at h'
    rw [of_decide_eq_true h'.1, sameF_eq l m (by simpa using h) h'.2]
set_option maxRecDepth 100000 in
set_option maxHeartbeats 2000000 in
/-- The same tokens: so it says. -/
theorem alike_same (M M' : Nat → Prop) (l : List Tok) (A A' : Option Addr) (c c' : Nat) (w : World) (hl : l.length ≤ 4611686018427387904) (hR : Rd M w A (tokC l)) (hR' : Rd M' w A' (tokC l)) :
    Calls Tryz.prog 21 #[.slice A l.length c, .slice A' l.length c'] w fun e w' => e = .returned (.bool true) ∧ Fr Nob w w' := by
  have HR := Lib.hid hR
  have HR' := Lib.hid hR'
  clear hR hR'
  go_enter Tryz.func21, Tryz.ntmps21
  go_wp2_with fail
  go_loopg [5] (l.length) (fun n s5 wr => ∃ (k : Nat), n = l.length - k ∧ k ≤ l.length ∧ s5 = .int .i64 k ∧ Hid (Fr Nob w wr))
  case atStart => exact ⟨0, rfl, Nat.zero_le _, rfl, Fr.refl _ _⟩
  case round =>
    obtain ⟨k, rfl, hk, rfl, HF⟩ := hrel
    by_cases hlt : k < l.length
    · have ht : ((k : Int) < (l.length : Int)) := by omega
      obtain ⟨ad, rfl, hnb, hbl, h0, hj⟩ := Rd.elt Tok.cells_len (by omega) (HR.out.fr HF.out (fun _ _ h => h.elim)) hlt
      obtain ⟨ad', rfl, hnb', hbl', h0', hj'⟩ := Rd.elt Tok.cells_len (by omega) (HR'.out.fr HF.out (fun _ _ h => h.elim)) hlt
      have q1 := hj 0 (by omega)
      have q2 := hj 1 (by omega)
      have q3 := hj 2 (by omega)
      have q1' := hj' 0 (by omega)
      have q2' := hj' 1 (by omega)
      have q3' := hj' 2 (by omega)
      generalize l[k] = x at h0 q1 q2 q3 h0' q1' q2' q3'
      clear hj hj' hnb hnb'
      simp only [Tok.cells, List.getElem?_cons_zero, List.getElem?_cons_succ] at h0 q1 q2 q3 h0' q1' q2' q3'
      go_wp2_with (first | go_quiet (fail) | fail)
      go_roundg (l.length - (k + 1))
      case measure => omega
      case rel => exact ⟨k + 1, rfl, by omega, by first | rfl | go_num, HF.out.drewN _⟩
    · have ht : ¬ ((k : Int) < (l.length : Int)) := by omega
      go_wp2_with fail
      go_ret
      exact ⟨rfl, HF.out⟩
end Go.Proofs.YtanbfplcldloeaaGreatDoor
