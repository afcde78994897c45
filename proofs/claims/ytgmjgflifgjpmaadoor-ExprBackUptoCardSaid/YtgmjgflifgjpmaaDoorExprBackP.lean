/- There and back: a tree's text is read as the tree. -/
import Derived.Test.YtgmjgflifgjpmaaDoorExprText
import Derived.Test.YtgmjgflifgjpmaaDoorExprParse2
namespace Go.Proofs.YtgmjgflifgjpmaaDoor
/-- What a reader of some things reads, thing by thing. -/
inductive Reads (F : List UInt8 → Res) (G : List UInt8 → Bool × List UInt8) : List Tree → List UInt8 → List UInt8 → Prop where
  | last {x r q r2} : F r = .ok x q → G q = (false, r2) → Reads F G [x] r r2
  | more {x l r q r1 r2} : F r = .ok x q → G q = (true, r1) → Reads F G l r1 r2 → Reads F G (x :: l) r r2
theorem someF_reads {kind : Int} {F : List UInt8 → Res} {G : List UInt8 → Bool × List UInt8} (hF : ∀ r x q, F r = .ok x q → q.length < r.length) (hG : ∀ r, (G r).2.length ≤ r.length) {l : List Tree} {r r2 : List UInt8} (h : Reads F G l r r2) :
    ∀ (n : Nat) (acc : List Tree), r.length < n → someF kind F G n acc r = .ok (joinK kind (acc ++ l)) r2 := by
  induction h with
  | last h1 h2 =>
    intro n acc hn
    cases n with
    | zero => omega
    | succ n => unfold someF; rw [h1]; simp only []; rw [h2]
  | more h1 h2 _ ih =>
    rename_i x l r q r1 r2 _
    intro n acc hn
    cases n with
    | zero => omega
    | succ n =>
      have a := hF _ _ _ h1
      have b := hG q
      rw [h2] at b
      simp only at b
      unfold someF
      rw [h1]
      simp only []
      rw [h2]
      simp only []
      rw [ih n (acc ++ [x]) (by omega), List.append_assoc]
      rfl
def startB (c : UInt8) : Bool := letter c || c == 40
theorem start_ne {c : UInt8} (h : startB c = true) (n : UInt8) (hn : startB n = false) : c ≠ n := by rintro rfl; rw [h] at hn; cases hn
theorem skip_start {c : UInt8} {t : List UInt8} (h : startB c = true) : skipB (c :: t) = c :: t := by
  have : (c == 32) = false := by simpa using start_ne h 32 (by decide)
  unfold skipB
  rw [List.dropWhile_cons, this]
  rfl
def NoLet (W : List UInt8) : Prop := ∀ c t, W = c :: t → letter c = false
theorem noLet_nil : NoLet [] := fun c t h => by cases h
theorem noLet_cons {c : UInt8} {t : List UInt8} (h : letter c = false) : NoLet (c :: t) := fun c' t' e => by injection e with e1 _; rw [← e1]; exact h
theorem take_letters : ∀ (n W : List UInt8), n.all letter = true → NoLet W → (n ++ W).takeWhile letter = n ∧ (n ++ W).dropWhile letter = W
  | [], W, _, hW => by
    cases W with
    | nil => exact ⟨rfl, rfl⟩
    | cons c t =>
      have h := hW c t rfl
      refine ⟨?_, ?_⟩
      · rw [List.nil_append, List.takeWhile_cons, h]; rfl
      · rw [List.nil_append, List.dropWhile_cons, h]; rfl
  | c :: n, W, h, hW => by
    rw [List.all_cons, Bool.and_eq_true] at h
    obtain ⟨a, b⟩ := take_letters n W h.2 hW
    refine ⟨?_, ?_⟩
    · rw [List.cons_append, List.takeWhile_cons, h.1, if_pos rfl, a]
    · rw [List.cons_append, List.dropWhile_cons, h.1, if_pos rfl, b]
/-- The signs behind a thing, with fuel enough. -/
def Sg (e : Tree) (r : List UInt8) : Tree × List UInt8 := signsF (r.length + 1) e r
theorem Sg_step {e : Tree} {r : List UInt8} {c : UInt8} {t : List UInt8} (h : skipB r = c :: t) (hc : signK c ≠ 0) : Sg e r = Sg (.node (signK c) ⟨#[]⟩ [e]) t := by
  have hl := skipB_le r
  rw [h] at hl
  simp only [List.length_cons] at hl
  unfold Sg
  rw [signsF, h]
  simp only []
  rw [if_neg hc]
  exact signsF_fuel _ _ _ _ (by omega) (by omega)
theorem Sg_end {e : Tree} {r : List UInt8} (h : ∀ c t, skipB r = c :: t → signK c = 0) : Sg e r = (e, skipB r) := by
  unfold Sg
  rw [signsF]
  cases hs : skipB r with
  | nil => rfl
  | cons c t => simp only []; rw [if_pos (h c t hs)]
theorem partF_atom {C : List UInt8 → Res} {r q : List UInt8} {e : Tree} (h : atomF C r = .ok e q) : partF C r = .ok (Sg e q).1 (Sg e q).2 := by
  unfold partF
  rw [h]
  rfl
theorem start_sign {c : UInt8} (h : startB c = true) : signK c = 0 := by
  unfold signK
  rw [if_neg (start_ne h 42 (by decide)), if_neg (start_ne h 43 (by decide)), if_neg (start_ne h 63 (by decide))]
theorem join_cons2 (a b : List UInt8) (r : List (List UInt8)) (sep : List UInt8) : Lib.join (a :: b :: r) sep = a ++ (sep ++ Lib.join (b :: r) sep) := by
  rw [Lib.join_cons, Lib.join_cons]
  unfold Lib.joinTail
  simp
/-- What may stand behind a row. -/
def RowEnd (W : List UInt8) : Prop := NoLet W ∧ (skipB W = [] ∨ (∃ t, skipB W = 124 :: t) ∨ ∃ t, skipB W = 41 :: t)
theorem RowEnd.sign {W : List UInt8} (h : RowEnd W) : ∀ c t, skipB W = c :: t → signK c = 0 := by
  intro c t e
  rcases h.2 with h | ⟨u, h⟩ | ⟨u, h⟩
  · rw [h] at e; cases e
  · rw [h] at e; injection e with e _; rw [← e]; decide
  · rw [h] at e; injection e with e _; rw [← e]; decide
theorem RowEnd.more {W : List UInt8} (h : RowEnd W) : moreR (skipB W) = (false, skipB W) := by
  unfold moreR
  rw [skipB_skipB]
  rcases h.2 with h | ⟨u, h⟩ | ⟨u, h⟩
  · rw [h]
  · rw [h]; rfl
  · rw [h]; rfl
theorem Ends.row {W : List UInt8} (h : Ends W) : RowEnd W := by
  have hs := h.skip
  rcases h with rfl | ⟨t, rfl⟩
  · exact ⟨noLet_nil, .inl hs⟩
  · exact ⟨noLet_cons (by decide), .inr (.inr ⟨t, hs⟩)⟩
theorem Ends.moreC {W : List UInt8} (h : Ends W) : moreC W = (false, W) := by
  have hs := h.skip
  rcases h with rfl | ⟨t, rfl⟩
  · rfl
  · rw [moreC_of hs]; rfl
/-- What is said of a tree: it is read back from its text. -/
structure Back (x : Tree) : Prop where
  whole : ∀ W, Ends W → Ch (textT x ++ W) = .ok x W
  row : x.k ≠ 3 → ∀ W, RowEnd W → Ro (textT x ++ W) = .ok x (skipB W)
  atom : x.k ≠ 2 → x.k ≠ 3 → ∀ W, NoLet W → ∃ e q, atomF Ch (textT x ++ W) = .ok e q ∧ Sg e q = Sg x W
  head : ∃ c t, textT x = c :: t ∧ startB c = true
theorem item_head {x : Tree} (h : Back x) (k : Int) : ∃ c t, partT k x.k (textT x) = c :: t ∧ startB c = true := by
  unfold partT
  split
  · exact ⟨40, _, rfl, by decide⟩
  · exact h.head
theorem item_back {x : Tree} (h : Back x) (k : Int) (hb : brackB k x.k = true ∨ (x.k ≠ 2 ∧ x.k ≠ 3)) (W : List UInt8) (hW : NoLet W) : ∃ e q, atomF Ch (partT k x.k (textT x) ++ W) = .ok e q ∧ Sg e q = Sg x W := by
  unfold partT
  split
  · refine ⟨x, W, ?_, rfl⟩
    have e : (40 :: (textT x ++ [41])) ++ W = 40 :: (textT x ++ 41 :: W) := by simp
    have hs : skipB (40 :: (textT x ++ 41 :: W)) = 40 :: (textT x ++ 41 :: W) := skip_start (by decide)
    rw [e]
    unfold atomF
    rw [hs]
    simp only []
    rw [h.whole (41 :: W) (.inr ⟨W, rfl⟩)]
    have hs2 : skipB (41 :: W) = 41 :: W := rfl
    rw [closeF_of hs2, if_pos rfl]
  · rename_i hn
    rcases hb with hb | ⟨h2, h3⟩
    · exact absurd hb hn
    · exact h.atom h2 h3 W hW
theorem row_reads (k : Int) (W : List UInt8) (hW : RowEnd W) : ∀ l : List Tree, l ≠ [] → (∀ c ∈ l, Back c ∧ (brackB k c.k = true ∨ (c.k ≠ 2 ∧ c.k ≠ 3))) → Reads (partF Ch) moreR l (Lib.join (textL k l) [32] ++ W) (skipB W) ∧ ∃ c t, Lib.join (textL k l) [32] = c :: t ∧ startB c = true
  | [], h, _ => absurd rfl h
  | [c], _, h => by
    obtain ⟨hb, hbr⟩ := h c (List.mem_singleton.2 rfl)
    obtain ⟨e, q, h1, h2⟩ := item_back hb k hbr W hW.1
    have e1 : Lib.join (textL k [c]) [32] = partT k c.k (textT c) := by simp [textL, Lib.join_one]
    rw [e1]
    refine ⟨.last (q := skipB W) ?_ hW.more, item_head hb k⟩
    rw [partF_atom h1, h2, Sg_end hW.sign]
  | c :: d :: l, _, h => by
    obtain ⟨hb, hbr⟩ := h c (List.mem_cons_self ..)
    obtain ⟨ih, c0, t0, ht, hst⟩ := row_reads k W hW (d :: l) (by simp) (fun x hx => h x (List.mem_cons_of_mem _ hx))
    have e1 : Lib.join (textL k (c :: d :: l)) [32] = partT k c.k (textT c) ++ ([32] ++ Lib.join (textL k (d :: l)) [32]) := by
      show Lib.join (partT k c.k (textT c) :: partT k d.k (textT d) :: textL k l) [32] = _
      rw [join_cons2]
      rfl
    obtain ⟨c1, t1, hi, hs1⟩ := item_head hb k
    refine ⟨?_, ?_⟩
    · obtain ⟨e, q, h1, h2⟩ := item_back hb k hbr (32 :: (Lib.join (textL k (d :: l)) [32] ++ W)) (noLet_cons (by decide))
      have hsk : skipB (32 :: (Lib.join (textL k (d :: l)) [32] ++ W)) = Lib.join (textL k (d :: l)) [32] ++ W := by
        show skipB (Lib.join (textL k (d :: l)) [32] ++ W) = _
        rw [ht, List.cons_append]
        exact skip_start hst
      rw [e1]
      have e2 : (partT k c.k (textT c) ++ ([32] ++ Lib.join (textL k (d :: l)) [32])) ++ W = partT k c.k (textT c) ++ 32 :: (Lib.join (textL k (d :: l)) [32] ++ W) := by simp
      rw [e2]
      refine .more (q := Lib.join (textL k (d :: l)) [32] ++ W) ?_ ?_ ih
      · rw [partF_atom h1, h2, Sg_end, hsk]
        intro c' t' he
        rw [hsk, ht, List.cons_append] at he
        injection he with he _
        rw [← he]
        exact start_sign hst
      · rw [ht, List.cons_append]
        unfold moreR
        rw [skip_start hst]
        have g1 : (c0 != 124) = true := by simpa using start_ne hst 124 (by decide)
        have g2 : (c0 != 41) = true := by simpa using start_ne hst 41 (by decide)
        simp only [g1, g2, Bool.and_self]
    · rw [e1, hi]
      exact ⟨c1, _, rfl, hs1⟩
theorem brack3 (j : Int) : brackB 3 j = false := by simp [brackB]
theorem alt_reads (W : List UInt8) (hW : Ends W) : ∀ l : List Tree, l ≠ [] → (∀ c ∈ l, Back c ∧ c.k ≠ 3) → Reads Ro moreC l (Lib.join (textL 3 l) [124] ++ W) W ∧ ∃ c t, Lib.join (textL 3 l) [124] = c :: t ∧ startB c = true
  | [], h, _ => absurd rfl h
  | [c], _, h => by
    obtain ⟨hb, h3⟩ := h c (List.mem_singleton.2 rfl)
    have e1 : Lib.join (textL 3 [c]) [124] = textT c := by simp [textL, Lib.join_one, partT, brack3]
    rw [e1]
    refine ⟨.last (q := W) ?_ hW.moreC, hb.head⟩
    rw [hb.row h3 W hW.row, hW.skip]
  | c :: d :: l, _, h => by
    obtain ⟨hb, h3⟩ := h c (List.mem_cons_self ..)
    obtain ⟨ih, c0, t0, ht, hst⟩ := alt_reads W hW (d :: l) (by simp) (fun x hx => h x (List.mem_cons_of_mem _ hx))
    have e1 : Lib.join (textL 3 (c :: d :: l)) [124] = textT c ++ ([124] ++ Lib.join (textL 3 (d :: l)) [124]) := by
      show Lib.join (partT 3 c.k (textT c) :: partT 3 d.k (textT d) :: textL 3 l) [124] = _
      rw [join_cons2]
      have : partT 3 c.k (textT c) = textT c := by unfold partT; rw [brack3]; rfl
      rw [this]
      rfl
    obtain ⟨c1, t1, hi, hs1⟩ := hb.head
    refine ⟨?_, ?_⟩
    · rw [e1]
      have e2 : (textT c ++ ([124] ++ Lib.join (textL 3 (d :: l)) [124])) ++ W = textT c ++ 124 :: (Lib.join (textL 3 (d :: l)) [124] ++ W) := by simp
      have hs : ∀ R, skipB (124 :: R) = 124 :: R := fun R => rfl
      rw [e2]
      refine .more (q := 124 :: (Lib.join (textL 3 (d :: l)) [124] ++ W)) ?_ ?_ ih
      · rw [hb.row h3 _ ⟨noLet_cons (by decide), .inr (.inl ⟨_, hs _⟩)⟩, hs]
      · rw [moreC_of (hs _)]; rfl
    · rw [e1, hi]
      exact ⟨c1, _, rfl, hs1⟩
theorem joinK_self (kind : Int) (l : List Tree) (h2 : 2 ≤ l.length) (h : ∀ c ∈ l, c.k ≠ kind) : joinK kind l = .node kind ⟨#[]⟩ l := by
  have hf : flatK kind l = l := by
    unfold flatK
    clear h2
    induction l with
    | nil => rfl
    | cons x l ih =>
      rw [List.flatMap_cons, if_neg (h x (List.mem_cons_self ..)), ih (fun c hc => h c (List.mem_cons_of_mem _ hc))]
      rfl
  match l, h2 with
  | a :: b :: r, _ =>
    show Tree.node kind ⟨#[]⟩ (flatK kind (a :: b :: r)) = _
    rw [hf]
theorem row_of {x : Tree} {r : List UInt8} {W : List UInt8} (hW : RowEnd W) {e : Tree} {q : List UInt8} (h1 : atomF Ch r = .ok e q) (h2 : Sg e q = Sg x W) : Ro r = .ok x (skipB W) := by
  have hp : partF Ch r = .ok x (skipB W) := by rw [partF_atom h1, h2, Sg_end hW.sign]
  unfold Ro
  exact some_one hp hW.more
theorem whole_of {x : Tree} {r W : List UInt8} (hW : Ends W) (h : Ro r = .ok x W) : Ch r = .ok x W := by
  rw [Ch_eq]
  exact some_one h hW.moreC
theorem back_step (x : Tree) (hr : rightR x = true) (hk : x.k ≠ 0) (IH : ∀ c ∈ x.l, Back c) : Back x := by
  rw [rightR_eq, Bool.and_eq_true] at hr
  obtain ⟨hl, he⟩ := hr
  have htx := textT_eq x
  unfold endB at he
  rw [if_neg hk] at he
  by_cases h1 : x.k = 1
  · rw [if_pos h1, Bool.and_eq_true] at he
    obtain ⟨hn, hl0⟩ := he
    rw [if_pos h1] at htx
    have hxl : x.l = [] := by simpa using hl0
    unfold nameB at hn
    rw [Bool.and_eq_true] at hn
    obtain ⟨ha, hne⟩ := hn
    obtain ⟨c, t, hct⟩ : ∃ c t, x.name.data.toList = c :: t := by
      cases hq : x.name.data.toList with
      | nil => rw [hq] at hne; cases hne
      | cons c t => exact ⟨c, t, rfl⟩
    have hstart : startB c = true := by
      rw [hct, List.all_cons, Bool.and_eq_true] at ha
      unfold startB; rw [ha.1]; rfl
    have hletter : letter c = true := by
      rw [hct, List.all_cons, Bool.and_eq_true] at ha
      exact ha.1
    have hx : x = .node 1 ⟨(x.name.data.toList).toArray⟩ [] := by
      cases x with
      | node k n l =>
        simp only [Tree.k] at h1
        simp only [Tree.l] at hxl
        subst h1 hxl
        simp [Tree.name]
    have hatom : ∀ W, NoLet W → ∃ e q, atomF Ch (textT x ++ W) = .ok e q ∧ Sg e q = Sg x W := by
      intro W hW
      obtain ⟨a, b⟩ := take_letters _ W ha hW
      refine ⟨x, W, ?_, rfl⟩
      have hsk : skipB (textT x ++ W) = c :: (t ++ W) := by rw [htx, hct, List.cons_append]; exact skip_start hstart
      have h40 : c ≠ 40 := by rintro rfl; revert hletter; decide
      rw [htx] at hsk ⊢
      rw [hct] at a b
      unfold atomF
      rw [hsk]
      split
      · rename_i t' e; injection e with e _; exact absurd e h40
      · rw [List.cons_append] at a b
        rw [a, b, if_neg (by simp)]
        congr 1
        rw [← hct]
        exact hx.symm
    have hrow : ∀ W, RowEnd W → Ro (textT x ++ W) = .ok x (skipB W) := fun W hW => by
      obtain ⟨e, q, a, b⟩ := hatom W hW.1
      exact row_of hW a b
    exact ⟨fun W hW => whole_of hW (by rw [hrow W hW.row, hW.skip]), fun _ => hrow, fun _ _ => hatom, by rw [htx, hct]; exact ⟨c, t, rfl, hstart⟩⟩
  rw [if_neg h1] at he htx
  by_cases h456 : x.k = 4 ∨ x.k = 5 ∨ x.k = 6
  · rw [if_pos h456, Bool.and_eq_true] at he
    rw [if_neg (by omega), if_neg (by omega), if_pos h456] at htx
    obtain ⟨hn, hl1⟩ := he
    have hlen : x.l.length = 1 := by simpa using hl1
    obtain ⟨c, hc⟩ : ∃ c, x.l = [c] := by
      match hq : x.l, hlen with
      | [c], _ => exact ⟨c, rfl⟩
    have hb := IH c (by rw [hc]; exact List.mem_singleton.2 rfl)
    have hx : x = .node x.k ⟨#[]⟩ [c] := by
      have hnn : x.name = ByteArray.empty := by
        have : x.name.size = 0 := by simpa using hn
        exact ByteArray.ext (Array.eq_empty_of_size_eq_zero this)
      cases x with
      | node k n l =>
        simp only [Tree.l] at hc
        simp only [Tree.name] at hnn
        subst hc hnn
        rfl
    have htx2 : textT x = partT x.k c.k (textT c) ++ [signC x.k] := by
      rw [htx, hc]
      rfl
    have hsign : signK (signC x.k) = x.k ∧ letter (signC x.k) = false ∧ (signC x.k == 32) = false := by
      rcases h456 with h | h | h <;> (rw [h]; decide)
    have hbr : brackB x.k c.k = true ∨ (c.k ≠ 2 ∧ c.k ≠ 3) := by
      by_cases h2 : c.k = 2
      · left; unfold brackB; simp [h2]; omega
      · by_cases h3 : c.k = 3
        · left; unfold brackB; simp [h3]; omega
        · right; exact ⟨h2, h3⟩
    have hatom : ∀ W, NoLet W → ∃ e q, atomF Ch (textT x ++ W) = .ok e q ∧ Sg e q = Sg x W := by
      intro W _
      obtain ⟨e, q, a, b⟩ := item_back hb x.k hbr (signC x.k :: W) (noLet_cons hsign.2.1)
      have e1 : textT x ++ W = partT x.k c.k (textT c) ++ signC x.k :: W := by rw [htx2]; simp
      refine ⟨e, q, by rw [e1]; exact a, ?_⟩
      have hsk : skipB (signC x.k :: W) = signC x.k :: W := by unfold skipB; rw [List.dropWhile_cons, hsign.2.2]; rfl
      rw [b, Sg_step hsk (by rw [hsign.1]; exact hk), hsign.1, ← hx]
    have hrow : ∀ W, RowEnd W → Ro (textT x ++ W) = .ok x (skipB W) := fun W hW => by
      obtain ⟨e, q, a, b⟩ := hatom W hW.1
      exact row_of hW a b
    obtain ⟨c0, t0, hi, hst⟩ := item_head hb x.k
    exact ⟨fun W hW => whole_of hW (by rw [hrow W hW.row, hW.skip]), fun _ => hrow, fun _ _ => hatom, by rw [htx2, hi]; exact ⟨c0, _, rfl, hst⟩⟩
  rw [if_neg h456] at he
  by_cases h23 : x.k = 2 ∨ x.k = 3
  · rw [if_pos h23, Bool.and_eq_true, Bool.and_eq_true] at he
    obtain ⟨⟨hall, hn⟩, hl2⟩ := he
    have hlen : 2 ≤ x.l.length := by simpa using hl2
    have hks : ∀ c ∈ x.l, c.k ≠ x.k := by
      intro c hc
      rw [List.all_map, List.all_eq_true] at hall
      simpa using hall c hc
    have hne : x.l ≠ [] := by rintro h; rw [h] at hlen; simp at hlen
    have hx : x = .node x.k ⟨#[]⟩ x.l := by
      have hnn : x.name = ByteArray.empty := by
        have : x.name.size = 0 := by simpa using hn
        exact ByteArray.ext (Array.eq_empty_of_size_eq_zero this)
      cases x with
      | node k n l =>
        simp only [Tree.name] at hnn
        subst hnn
        rfl
    by_cases h2 : x.k = 2
    · rw [if_pos h2, h2] at htx
      have hit : ∀ c ∈ x.l, Back c ∧ (brackB 2 c.k = true ∨ (c.k ≠ 2 ∧ c.k ≠ 3)) := by
        intro c hc
        refine ⟨IH c hc, ?_⟩
        have h := hks c hc
        rw [h2] at h
        by_cases h3 : c.k = 3
        · left; rw [h3]; decide
        · exact .inr ⟨h, h3⟩
      have hrow : ∀ W, RowEnd W → Ro (textT x ++ W) = .ok x (skipB W) := fun W hW => by
        obtain ⟨hR, _⟩ := row_reads 2 W hW x.l hne hit
        unfold Ro
        rw [htx, someF_reads (good_eats (partF_good Ch_good)) moreR_le hR _ [] (Nat.lt_succ_self _), List.nil_append, joinK_self 2 x.l hlen (fun c hc => by have := hks c hc; rwa [h2] at this)]
        rw [← h2, ← hx]
      obtain ⟨_, c0, t0, hj, hst⟩ := row_reads 2 [] ⟨noLet_nil, .inl rfl⟩ x.l hne hit
      exact ⟨fun W hW => whole_of hW (by rw [hrow W hW.row, hW.skip]), fun _ => hrow, fun h => absurd h2 h, by rw [htx, hj]; exact ⟨c0, t0, rfl, hst⟩⟩
    · have h3 : x.k = 3 := by omega
      rw [if_neg h2, if_pos h3, h3] at htx
      have hit : ∀ c ∈ x.l, Back c ∧ c.k ≠ 3 := fun c hc => ⟨IH c hc, by have := hks c hc; rwa [h3] at this⟩
      have hwh : ∀ W, Ends W → Ch (textT x ++ W) = .ok x W := fun W hW => by
        obtain ⟨hR, _⟩ := alt_reads W hW x.l hne hit
        rw [Ch_eq, htx, someF_reads (good_eats Ro_good) moreC_le hR _ [] (Nat.lt_succ_self _), List.nil_append, joinK_self 3 x.l hlen (fun c hc => by have := hks c hc; rwa [h3] at this)]
        rw [← h3, ← hx]
      obtain ⟨_, c0, t0, hj, hst⟩ := alt_reads [] (.inl rfl) x.l hne hit
      exact ⟨hwh, fun h => absurd h3 h, fun _ h => absurd h3 h, by rw [htx, hj]; exact ⟨c0, t0, rfl, hst⟩⟩
  · rw [if_neg h23] at he; cases he
theorem back (x : Tree) (hr : rightR x = true) (hk : x.k ≠ 0) : Back x :=
  back_step x hr hk (fun c hc => by
    have hl := hr
    rw [rightR_eq, Bool.and_eq_true] at hl
    obtain ⟨h0, h1⟩ := (rightRL_iff x.l).1 hl.1 c hc
    exact back c h1 h0)
termination_by x
decreasing_by
  cases x with
  | node k n l =>
    have := List.sizeOf_lt_of_mem hc
    simp only [Tree.l] at this
    simp only [Tree.node.sizeOf_spec]
    omega
/-- A tree's text is read as the tree. -/
theorem text_back (x : Tree) (h : checkT x = 0) : wholeT (textT x) = some x := by
  have hr : rightR x = true := by rw [rightR_rightB]; exact (checkT_few h).2.2
  by_cases hk : x.k = 0
  · have he := hr
    rw [rightR_eq, Bool.and_eq_true] at he
    have he := he.2
    unfold endB at he
    rw [if_pos hk, Bool.and_eq_true] at he
    obtain ⟨hn, hl⟩ := he
    have hnn : x.name = ByteArray.empty := by
      have : x.name.size = 0 := by simpa using hn
      exact ByteArray.ext (Array.eq_empty_of_size_eq_zero this)
    have hll : x.l = [] := by simpa using hl
    have hx : x = emptyT := by
      cases x with
      | node k n l =>
        simp only [Tree.k] at hk
        simp only [Tree.name] at hnn
        simp only [Tree.l] at hll
        subst hk hnn hll
        rfl
    rw [hx]
    rfl
  · have hb := back x hr hk
    obtain ⟨c, t, ht, hst⟩ := hb.head
    have hw := hb.whole [] (.inl rfl)
    rw [List.append_nil] at hw
    have hs : skipB (textT x) = textT x := by rw [ht]; exact skip_start hst
    unfold wholeT
    rw [hs, if_neg (by rw [ht]; simp), hw]
    show (if skipB [] = [] ∧ checkT x = 0 then some x else none) = some x
    rw [if_pos ⟨rfl, h⟩]
theorem whole_bytes {r : List UInt8} {x : Tree} (h : wholeT r = some x) : x.bytes ≤ r.length := by
  have h1 := skipB_le r
  unfold wholeT at h
  split at h
  · injection h with h
    subst h
    simp [emptyT, Tree.bytes, bytesL]
    exact Nat.zero_le _
  · cases hc : Ch (skipB r) with
    | err q => rw [hc] at h; cases h
    | ok y q =>
      rw [hc] at h
      have h' : (if skipB q = [] ∧ checkT y = 0 then some y else none) = some x := h
      split at h'
      · injection h' with h'
        subst h'
        have := choiceF_few _ _ _ _ hc
        omega
      · cases h'
end Go.Proofs.YtgmjgflifgjpmaaDoor
