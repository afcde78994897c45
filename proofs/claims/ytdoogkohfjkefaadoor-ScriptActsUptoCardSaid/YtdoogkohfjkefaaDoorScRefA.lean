/- Chapter 22: the reference's 'Act', printed: it is the program's. -/
import Derived.Test.YtdoogkohfjkefaaDoorScRefP
namespace Go.Proofs.YtdoogkohfjkefaaDoor.PAct
open Go.RowKit Go.Proofs.YtdoogkohfjkefaaDoorW.PrintWords Go.Proofs.YtdoogkohfjkefaaDoorW.PrintLast Go.Proofs.YtdoogkohfjkefaaDoorW.PrintMore
def actR : Option ActT → Int × Int × Int × Int × Int × Int × List Int × Int
  | some t => (t.k, t.a, t.b, t.c, t.d, t.n, [], 0)
  | none => (0, 0, 0, 0, 0, 0, [], 4)
def pairT (k b : Int) : ActT := ⟨k, 0, b, 0, 0, 0⟩
/-- None of the words ahead of (k, b) is the first. -/
def NoneT (w0 : List UInt8) (k b : Int) : Prop := ∀ f ∈ formsT, f.k < k ∨ f.k = k ∧ f.b < b → f.word ≠ w0
theorem sel_iff (k b : Int) (f : FormT) : selF (pairT k b) f = true ↔ f.k = k ∧ (f.k = 0 → f.b = b) := by
  show (decide (f.k = k) && (decide (f.k ≠ 0) || decide (f.b = b))) = true ↔ _
  simp only [Bool.and_eq_true, Bool.or_eq_true, decide_eq_true_eq]
  constructor
  · rintro ⟨h1, h2 | h2⟩
    · exact ⟨h1, fun h => absurd h h2⟩
    · exact ⟨h1, fun _ => h2⟩
  · rintro ⟨h1, h2⟩
    by_cases h : f.k = 0
    · exact ⟨h1, .inr (h2 h)⟩
    · exact ⟨h1, .inl h⟩
theorem act_ev (S : List UInt8) (ws : List (List UInt8)) (w0 : List UInt8) (hS : actF S = fillO (formsT.find? (fitsF ws)) ws) (hw : ws.head? = some w0) (hx : ∀ x ∈ ws, x.length ≤ 4000000000) (k : Nat) (b : Nat) (f : FormT) (hf : formsT.find? (selF (pairT k b)) = some f) (he : f.word = w0) :
    Ev (fun n => emenderref22_Act.j2 n (ws.map bs) k b (bs f.fields) false) (actR (actF S)) := by
  have hm := List.mem_of_find?_eq_some hf
  have hs := (sel_iff k b f).1 (List.find?_some hf)
  have hff := form_word f hm
  have hact : actF S = if ws.length = (bs f.fields).size + 1 then fillF ⟨f.k, 0, f.b, 0, 0, 0⟩ (bs f.fields).data.toList ws.tail else none := by
    rw [hS, find_fit hm (by rw [hw, he]), bs_size, bs_list]
    split <;> rfl
  have h := fill_f (bs f.fields) ws (by rw [bs_size]; omega) hx ⟨f.k, 0, f.b, 0, 0, 0⟩
  rw [← hact] at h
  by_cases hk : f.k = 0
  · have h2 : Ev (fun n => emenderref22_Act.j2 n (ws.map bs) f.k f.b (bs f.fields) false) (actR (actF S)) := by
      refine Ev.step (fun n => ?_) (Ev.bind (f := fun _ (bt139 : Int × Int × Int × Int × Int × Int × List Int × Bool) => if bt139.2.2.2.2.2.2.2 = true then (some (bt139.1, bt139.2.1, bt139.2.2.1, bt139.2.2.2.1, bt139.2.2.2.2.1, bt139.2.2.2.2.2.1, bt139.2.2.2.2.2.2.1, 0)) else (some (0, 0, 0, 0, 0, 0, ([] : List Int), 4))) h ?_)
      · rw [emenderref22_Act.j2, if_neg (by simp), if_pos hk]
      · refine Ev.congr (fun n => ?_) (Ev.now _)
        cases actF S <;> simp [fillR, actR]
    rw [hs.1, hs.2 hk] at h2
    exact h2
  · have h2 : Ev (fun n => emenderref22_Act.j2 n (ws.map bs) f.k b (bs f.fields) false) (actR (actF S)) := by
      rw [hff.2.2.2.1 hk] at h
      refine Ev.step (fun n => ?_) (Ev.bind (f := fun _ (bt139 : Int × Int × Int × Int × Int × Int × List Int × Bool) => if bt139.2.2.2.2.2.2.2 = true then (some (bt139.1, bt139.2.1, bt139.2.2.1, bt139.2.2.2.1, bt139.2.2.2.2.1, bt139.2.2.2.2.2.1, bt139.2.2.2.2.2.2.1, 0)) else (some (0, 0, 0, 0, 0, 0, ([] : List Int), 4))) h ?_)
      · rw [emenderref22_Act.j2, if_neg (by simp), if_neg hk]
      · refine Ev.congr (fun n => ?_) (Ev.now _)
        cases actF S <;> simp [fillR, actR]
    rw [hs.1] at h2
    exact h2
theorem l1_ev (S : List UInt8) (ws : List (List UInt8)) (w0 : List UInt8) (hS : actF S = fillO (formsT.find? (fitsF ws)) ws) (hw : ws.head? = some w0) (hx : ∀ x ∈ ws, x.length ≤ 4000000000) (k : Nat) (hk : k ≤ 8)
    (next : NoneT w0 (k + 1 : Nat) 0 → Ev (fun n => emenderref22_Act.l0 n (ws.map bs) ((k + 1 : Nat) : Int)) (actR (actF S))) : ∀ (m b : Nat), b + m = 8 → NoneT w0 k b →
    Ev (fun n => emenderref22_Act.l1 n (ws.map bs) k b) (actR (actF S)) := by
  have hlen : 0 < ws.length := by cases ws with
    | nil => simp at hw
    | cons => simp
  have hrd : (rdOf ByteArray.empty (ws.map bs) 0).toList = w0 := by
    cases ws with
    | nil => simp at hw
    | cons x xs =>
      have : x = w0 := by simpa using hw
      rw [← this]
      show (bs x).toList = x
      exact bs_toList x
  intro m
  induction m with
  | zero =>
    intro b hb hn
    obtain rfl : b = 8 := by omega
    refine Ev.step (fun n => ?_) (next (fun f hf h => hn f hf ?_))
    · rw [emenderref22_Act.l1, if_neg (by omega), wrap_ k (by omega)]
    · have h1 := form_word f hf
      have hb7 := forms_b f hf
      omega
  | succ m ih =>
    intro b hb hn
    have hwb := word_f (pairT k b)
    have hnext : NoneT w0 k (b + 1 : Nat) → ∀ fl : ByteArray, Ev (fun n => emenderref22_Act.j2 n (ws.map bs) k b fl true) (actR (actF S)) := fun h fl => by
      refine Ev.step (fun n => ?_) (ih (b + 1) (by omega) h)
      rw [emenderref22_Act.j2, if_pos rfl, wrap_ b (by omega)]
    have hgo : ∀ f ∈ formsT, (f.k = k → f.b = b → f.word ≠ w0) → f.k < (k : Int) ∨ f.k = k ∧ f.b < ((b + 1 : Nat) : Int) → f.word ≠ w0 := fun f hf h1 h2 => by
      by_cases h3 : f.k = k ∧ f.b = b
      · exact h1 h3.1 h3.2
      · exact hn f hf (by omega)
    cases hf : formsT.find? (selF (pairT k b)) with
    | none =>
      rw [hf] at hwb
      have hN : NoneT w0 k (b + 1 : Nat) := fun f hm h => hgo f hm (fun e1 e2 => absurd ((sel_iff k b f).2 ⟨e1, fun _ => e2⟩) (List.find?_eq_none.1 hf f hm)) h
      refine Ev.step (fun n => ?_) (hnext hN ⟨#[]⟩)
      rw [emenderref22_Act.l1, if_pos (by omega), show emenderref22_Word.f (k : Int) (b : Int) = _ from hwb]
      simp only [wordP]
      rw [Option.bind_some, if_pos (by rw [toList_nil]; rfl)]
    | some f =>
      have hm := List.mem_of_find?_eq_some hf
      have hsf := (sel_iff k b f).1 (List.find?_some hf)
      have hne := (form_word f hm).2.2.1
      rw [hf] at hwb
      by_cases he : f.word = w0
      · refine Ev.step (fun n => ?_) (act_ev S ws w0 hS hw hx k b f hf he)
        rw [emenderref22_Act.l1, if_pos (by omega), show emenderref22_Word.f (k : Int) (b : Int) = _ from hwb]
        simp only [wordP]
        rw [Option.bind_some, if_neg (by rw [bs_toList]; exact hne), if_pos (by rw [List.length_map]; omega), hrd, bs_toList, he]
        simp
      · have hN : NoneT w0 k (b + 1 : Nat) := fun g hg h => hgo g hg (fun e1 e2 => by
          have : f = g := kind_uniq hm hg (by rw [hsf.1, e1]) (by
            by_cases h0 : f.k = 0
            · rw [hsf.2 h0, e2]
            · rw [(form_word f hm).2.2.2.1 h0, (form_word g hg).2.2.2.1 (by omega)])
          rw [← this]; exact he) h
        refine Ev.step (fun n => ?_) (hnext hN (bs f.fields))
        rw [emenderref22_Act.l1, if_pos (by omega), show emenderref22_Word.f (k : Int) (b : Int) = _ from hwb]
        simp only [wordP]
        rw [Option.bind_some, if_neg (by rw [bs_toList]; exact hne), if_pos (by rw [List.length_map]; omega), hrd, bs_toList, show (f.word != w0) = true by simpa using he]
theorem l0_ev (S : List UInt8) (ws : List (List UInt8)) (w0 : List UInt8) (hS : actF S = fillO (formsT.find? (fitsF ws)) ws) (hw : ws.head? = some w0) (hx : ∀ x ∈ ws, x.length ≤ 4000000000) : ∀ (m k : Nat), k + m = 9 → NoneT w0 k 0 →
    Ev (fun n => emenderref22_Act.l0 n (ws.map bs) k) (actR (actF S)) := by
  intro m
  induction m with
  | zero =>
    intro k hk hn
    obtain rfl : k = 9 := by omega
    have hno : actF S = none := by
      rw [hS, List.find?_eq_none.2]
      · rfl
      · intro f hf
        have h1 := hn f hf (.inl (by have := form_word f hf; omega))
        simp only [fitsF, Bool.and_eq_true, decide_eq_true_eq, not_and, hw, Option.some.injEq]
        exact fun h => absurd h.symm h1
    rw [hno]
    refine Ev.step (f := fun _ => some _) (fun n => ?_) (Ev.now _)
    rw [emenderref22_Act.l0, if_neg (by omega)]
    rfl
  | succ m ih =>
    intro k hk hn
    refine Ev.step (fun n => ?_) (l1_ev S ws w0 hS hw hx k (by omega) (fun h => ih (k + 1) (by omega) h) 8 0 (by omega) hn)
    rw [emenderref22_Act.l0, if_pos (by omega)]
    rfl
theorem act_f (s : ByteArray) (hs : s.size ≤ 4000000000) : Ev (fun n => emenderref22_Act.f n s) (actR (actF s.data.toList)) := by
  have hw := words_f s hs
  obtain ⟨w0, hw0⟩ : ∃ w0, (wordsL s.data.toList).head? = some w0 := by
    cases h : wordsL s.data.toList with
    | nil => exact absurd h (wordsL_ne _)
    | cons x xs => exact ⟨x, rfl⟩
  have hx : ∀ x ∈ wordsL s.data.toList, x.length ≤ 4000000000 := fun x hx => by
    have := words_short _ x hx
    simp at this
    omega
  have h := l0_ev s.data.toList (wordsL s.data.toList) w0 rfl hw0 hx 9 0 (by omega) (fun f hf h => by have := form_word f hf; have := forms_b f hf; omega)
  refine Ev.congr (fun n => ?_) (Ev.bind (f := fun n t132 => emenderref22_Act.l0 n t132 0) hw h)
  rfl
/-- The reference's 'Act' returns what the program's does. -/
theorem refact_any (s : ByteArray) (hs : s.size ≤ 4000000000) (w : World) :
    Calls Tryd.prog 6 #[.string s] w fun e w' => ∃ A c, e = .returned (.tuple #[.agg ((actT (actF s.data.toList)).cellsV (.slice A 0 c)).toArray, .int .i64 (actE (actF s.data.toList))]) ∧ Fr Nob w w' := by
  obtain ⟨k, hk⟩ := (act_f s hs).rounds
  cases h : actF s.data.toList with
  | none =>
    rw [h] at hk
    refine (emenderref22_Act.calls k s _ _ _ _ _ _ _ _ w hk).mono ?_
    rintro e w' ⟨v, rfl, hv, hb⟩
    obtain ⟨A, c, rfl⟩ := Kd.R_slice hv
    exact ⟨A, c, rfl, Fr.of_below hb⟩
  | some t =>
    rw [h] at hk
    refine (emenderref22_Act.calls k s _ _ _ _ _ _ _ _ w hk).mono ?_
    rintro e w' ⟨v, rfl, hv, hb⟩
    obtain ⟨A, c, rfl⟩ := Kd.R_slice hv
    exact ⟨A, c, rfl, Fr.of_below hb⟩
end Go.Proofs.YtdoogkohfjkefaaDoor.PAct
