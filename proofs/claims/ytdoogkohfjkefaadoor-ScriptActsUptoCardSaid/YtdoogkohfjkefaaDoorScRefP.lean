/- Chapter 22: what the printed functions of the reference answer: words, numbers, acts. -/
import Derived.Test.YtdoogkohfjkefaaDoorPActx3
import Derived.Test.YtdoogkohfjkefaaDoorScLaw
namespace Go.Proofs.YtdoogkohfjkefaaDoor.PAct
open Go.RowKit Go.Proofs.YtdoogkohfjkefaaDoorW.PrintWords Go.Proofs.YtdoogkohfjkefaaDoorW.PrintLast Go.Proofs.YtdoogkohfjkefaaDoorW.PrintMore
/-- A text ahead of the first of some. -/
def preW (u : List UInt8) : List (List UInt8) → List (List UInt8)
  | [] => [u]
  | h :: t => (u ++ h) :: t
theorem preW_nil {l : List (List UInt8)} (h : l ≠ []) : preW [] l = l := by cases l with
  | nil => exact absurd rfl h
  | cons => rfl
theorem bt_drop {s : ByteArray} {i : Nat} (h : i < s.size) : ∃ c t, s.data.toList.drop i = c :: t ∧ t = s.data.toList.drop (i + 1) ∧ bt s (i : Int) = (c.toNat : Int) := by
  have hl : i < s.data.toList.length := by simpa using h
  refine ⟨s.data.toList[i], _, List.drop_eq_getElem_cons hl, rfl, ?_⟩
  have := bt_at s (i : Int) (by simpa using h)
  rw [← this]
  simp; rfl
theorem extract_bs (s : ByteArray) (a b : Nat) : s.extract a b = bs ((s.data.toList.drop a).take (b - a)) := by
  apply ByteArray.ext
  apply Array.ext'
  simp [bs, Array.toList_extract, List.extract_eq_take_drop]
theorem u8_eq (c : UInt8) (n : UInt8) : ((c.toNat : Int) = (n.toNat : Int)) ↔ c = n := by
  constructor
  · intro h; exact UInt8.toNat_inj.1 (by omega)
  · rintro rfl; rfl
theorem words_ev (s : ByteArray) (hs : s.size ≤ 4000000000) : ∀ (d i fr : Nat) (acc : List ByteArray), i + d = s.size → fr ≤ i → acc.length ≤ i →
    Ev (fun k => emenderref22_words.l0 k s acc fr i) (acc ++ (preW ((s.data.toList.drop fr).take (i - fr)) (wordsL (s.data.toList.drop i))).map bs) := by
  intro d
  induction d with
  | zero =>
    intro i fr acc hi hf ha
    obtain rfl : i = s.size := by omega
    have hw1 : wrap64 ((s.size : Int) + 1) = s.size + 1 := w64 _ (by omega) (by omega)
    refine Ev.step (f := fun k => emenderref22_words.l0 k s (acc ++ [s.extract fr s.size]) (s.size + 1) (s.size + 1)) (fun k => ?_) ?_
    · rw [emenderref22_words.l0, if_pos (by omega), if_pos rfl, if_pos (by omega), if_pos (by omega), if_pos (by omega), hw1]
      rfl
    · refine Ev.step (f := fun _ => some (acc ++ [s.extract fr s.size])) (fun k => ?_) ?_
      · rw [emenderref22_words.l0, if_neg (by omega)]
      · rw [show s.data.toList.drop s.size = [] from List.drop_eq_nil_of_le (by simp), wordsL, preW, extract_bs]
        simp only [List.append_nil, List.map_cons, List.map_nil]
        exact Ev.now _
  | succ d ih =>
    intro i fr acc hi hf ha
    obtain ⟨c, t, hd, ht, hb⟩ := bt_drop (s := s) (i := i) (by omega)
    have hw1 : wrap64 ((i : Int) + 1) = ((i + 1 : Nat) : Int) := by rw [w64 _ (by omega) (by omega)]; omega
    have h32 : (c.toNat : Int) = 32 ↔ c = 32 := u8_eq c 32
    by_cases hc : c = 32
    · have h1 := ih (i + 1) (i + 1) (acc ++ [s.extract fr i]) (by omega) (by omega) (by simp; omega)
      rw [Nat.sub_self, List.take_zero, preW_nil (wordsL_ne _), ← ht] at h1
      rw [hd, wordsL, if_pos hc, preW, List.append_nil, List.map_cons, ← extract_bs]
      refine Ev.step (fun k => ?_) (by rw [List.append_assoc] at h1; exact h1)
      rw [emenderref22_words.l0, if_pos (by omega), if_neg (by omega), if_pos (by omega), if_pos (by omega), hb, if_pos (h32.2 hc), if_pos (by omega), if_pos (by omega), if_pos (by omega), hw1]
      rfl
    · have h1 := ih (i + 1) fr acc (by omega) (by omega) (by omega)
      have hpre : preW ((s.data.toList.drop fr).take (i + 1 - fr)) (wordsL t) = preW ((s.data.toList.drop fr).take (i - fr)) (wordsL (c :: t)) := by
        have hget : (s.data.toList.drop fr)[i - fr]? = some c := by
          rw [List.getElem?_drop, show fr + (i - fr) = i by omega]
          have : (s.data.toList.drop i)[0]? = some c := by rw [hd]; rfl
          simpa using this
        rw [show i + 1 - fr = (i - fr) + 1 by omega, List.take_add_one, hget, wordsL, if_neg hc]
        cases hw : wordsL t with
        | nil => exact absurd hw (wordsL_ne t)
        | cons h r => simp [preW]
      rw [← ht, hpre, ← hd] at h1
      refine Ev.step (fun k => ?_) h1
      rw [emenderref22_words.l0, if_pos (by omega), if_neg (by omega), if_pos (by omega), if_pos (by omega), hb, if_neg (fun h => hc (h32.1 h)), hw1]
theorem words_f (s : ByteArray) (hs : s.size ≤ 4000000000) : Ev (fun k => emenderref22_words.f k s) ((wordsL s.data.toList).map bs) := by
  have h := words_ev s hs s.size 0 0 [] (by omega) (Nat.le_refl _) (by simp)
  rw [Nat.sub_self, List.take_zero, List.drop_zero, preW_nil (wordsL_ne _), List.nil_append] at h
  exact h
def valN (n : Nat) (l : List UInt8) : Nat := l.foldl (fun n c => 10 * n + (c.toNat - 48)) n
/-- A number's text, read on. -/
theorem num_ev (s : ByteArray) (d : ByteArray) (hd : d.size ≤ 9) : ∀ (m i : Nat) (n : Nat), i + m = d.size → n < 10 ^ i →
    Ev (fun k => emenderref22_number.l0 k s d n i) (if (d.data.toList.drop i).all digitB then ((if d.toList = s.toList then (valN n (d.data.toList.drop i) : Int) else wrap64 (-(valN n (d.data.toList.drop i) : Int))), true) else (0, false)) := by
  intro m
  induction m with
  | zero =>
    intro i n hi hn
    obtain rfl : i = d.size := by omega
    rw [show d.data.toList.drop d.size = [] from List.drop_eq_nil_of_le (by simp)]
    refine Ev.step (f := fun _ => some _) (fun k => ?_) (Ev.now _)
    rw [emenderref22_number.l0, if_neg (by omega)]
    simp only [List.all_nil, if_true, valN, List.foldl_nil]
    split <;> rfl
  | succ m ih =>
    intro i n hi hn
    obtain ⟨c, t, hc, ht, hb⟩ := bt_drop (s := d) (i := i) (by omega)
    have hcl := c.toNat_lt
    rw [hc]
    by_cases h1 : digitB c = true
    · have h2 : 48 ≤ c.toNat ∧ c.toNat ≤ 57 := by
        simp only [digitB, Bool.and_eq_true, decide_eq_true_eq] at h1
        exact ⟨UInt8.le_iff_toNat_le.1 h1.1, UInt8.le_iff_toNat_le.1 h1.2⟩
      have h10 : (10 : Nat) ^ (i + 1) ≤ 10 ^ 9 := Nat.pow_le_pow_right (by omega) (by omega)
      have hp : (10 : Nat) ^ (i + 1) = 10 ^ i * 10 := Nat.pow_succ ..
      have hw1 : wrap64 ((i : Int) + 1) = ((i + 1 : Nat) : Int) := by rw [w64 _ (by omega) (by omega)]; omega
      have hw2 : wrap64 (wrap64 (10 * (n : Int)) + (((c.toNat : Int) - 48) % 256)) = ((10 * n + (c.toNat - 48) : Nat) : Int) := by
        rw [w64 (10 * (n : Int)) (by omega) (by omega), w64 _ (by omega) (by omega)]; omega
      have h := ih (i + 1) (10 * n + (c.toNat - 48)) (by omega) (by omega)
      rw [← ht] at h
      simp only [List.all_cons, h1, Bool.true_and, valN, List.foldl_cons]
      simp only [valN] at h
      refine Ev.step (fun k => ?_) h
      rw [emenderref22_number.l0, if_pos (by omega), if_pos (by omega), hb, if_neg (by omega), if_neg (by omega), hw2, hw1]
    · have h2 : c.toNat < 48 ∨ 57 < c.toNat := by
        simp only [digitB, Bool.and_eq_true, decide_eq_true_eq, not_and, UInt8.le_iff_toNat_le] at h1
        have e1 : (48 : UInt8).toNat = 48 := rfl
        have e2 : (57 : UInt8).toNat = 57 := rfl
        omega
      simp only [List.all_cons, show digitB c = false by simpa using h1, Bool.false_and, Bool.false_eq_true, if_false]
      refine Ev.step (f := fun _ => some _) (fun k => ?_) (Ev.now _)
      rw [emenderref22_number.l0, if_pos (by omega), if_pos (by omega), hb]
      rcases h2 with h2 | h2
      · rw [if_pos (by omega)]
      · rw [if_neg (by omega), if_pos (by omega)]
def numP (s : List UInt8) : Int × Bool := match numF s with
  | some n => (n, true)
  | none => (0, false)
theorem valN_lt : ∀ (l : List UInt8) (n i : Nat), l.all digitB = true → n < 10 ^ i → valN n l < 10 ^ (i + l.length)
  | [], n, i, _, h => h
  | c :: t, n, i, ha, h => by
    simp only [List.all_cons, Bool.and_eq_true] at ha
    have h2 : 48 ≤ c.toNat ∧ c.toNat ≤ 57 := by
      have h1 := ha.1
      simp only [digitB, Bool.and_eq_true, decide_eq_true_eq] at h1
      exact ⟨UInt8.le_iff_toNat_le.1 h1.1, UInt8.le_iff_toNat_le.1 h1.2⟩
    have hp : (10 : Nat) ^ (i + 1) = 10 ^ i * 10 := Nat.pow_succ ..
    have := valN_lt t (10 * n + (c.toNat - 48)) (i + 1) ha.2 (by omega)
    rw [List.length_cons, show i + (t.length + 1) = i + 1 + t.length by omega]
    exact this
theorem data_inj {a b : ByteArray} (h : a.data.toList = b.data.toList) : a = b := by
  apply ByteArray.ext
  exact Array.ext' h
theorem toList_nil (s : ByteArray) : s.toList = [] ↔ s.size = 0 := by
  rw [ByteArray.toList_eq]
  constructor
  · intro h; have : s.data.toList.length = 0 := by rw [h]; rfl
    simpa using this
  · intro h; exact List.length_eq_zero_iff.1 (by simpa using h)
theorem number_f (s : ByteArray) (hs : s.size ≤ 4000000000) : Ev (fun k => emenderref22_number.f k s) (numP s.data.toList) := by
  have key : ∀ (d : ByteArray), d.data.toList = bareL s.data.toList → (d = s ↔ negB s.data.toList = false) → d.size ≤ s.size → (d.size = s.size ∨ d.size + 1 = s.size) → Ev (fun k => emenderref22_number.j1 k s d) (numP s.data.toList) := by
    intro d hd hds hle hsz
    have hdl : d.data.toList.length = d.size := by simp
    have hsl : s.data.toList.length = s.size := by simp
    have hbad : (bareL s.data.toList = [] ∨ 9 < (bareL s.data.toList).length ∨ ((bareL s.data.toList).head? = some 48 ∧ s.data.toList ≠ [48])) → Ev (fun k => emenderref22_number.j2 k s d true) (numP s.data.toList) := by
      intro h
      have hn : numP s.data.toList = (0, false) := by
        unfold numP numF
        rw [if_pos (by rcases h with h | h | h; exact .inl h; exact .inr (.inl h); exact .inr (.inr (.inl h)))]
      rw [hn]
      refine Ev.step (f := fun _ => some _) (fun k => ?_) (Ev.now _)
      rw [emenderref22_number.j2, if_pos rfl]
    by_cases h1 : d.size = 0
    · refine Ev.step (fun k => ?_) (hbad (.inl (by rw [← hd]; exact List.length_eq_zero_iff.1 (by omega))))
      rw [emenderref22_number.j1, if_pos ((toList_nil d).2 h1)]
    · by_cases h2 : 9 < d.size
      · refine Ev.step (fun k => ?_) (hbad (.inr (.inl (by rw [← hd]; omega))))
        rw [emenderref22_number.j1, if_neg (fun h => h1 ((toList_nil d).1 h)), if_pos (by omega)]
      · obtain ⟨c, t, hc, ht, hb⟩ := bt_drop (s := d) (i := 0) (by omega)
        rw [List.drop_zero] at hc
        have h48 : (c.toNat : Int) = 48 ↔ c = 48 := u8_eq c 48
        have hb0 : bt d 0 = (c.toNat : Int) := hb
        have hgood : ¬ (c = 48 ∧ 1 < s.size) → Ev (fun k => emenderref22_number.j2 k s d false) (numP s.data.toList) := by
          intro hg
          have h := num_ev s d (by omega) d.size 0 0 (by omega) (by decide)
          rw [List.drop_zero, hd] at h
          refine Ev.step (f := fun k => emenderref22_number.l0 k s d 0 0) (fun k => ?_) ?_
          · rw [emenderref22_number.j2, if_neg (by simp)]
          · have hnz : ¬ (bareL s.data.toList = [] ∨ 9 < (bareL s.data.toList).length ∨ ((bareL s.data.toList).head? = some 48 ∧ s.data.toList ≠ [48])) := by
              rw [← hd, hc]
              rintro (h | h | ⟨h, h'⟩)
              · cases h
              · rw [← hc] at h; omega
              · apply hg
                refine ⟨by simpa using h, ?_⟩
                by_cases h5 : d.size = s.size
                · rcases Nat.lt_or_ge 1 s.size with h6 | h6
                  · exact h6
                  · exfalso
                    apply h'
                    have : d = s := by
                      rcases hsz with h7 | h7
                      · by_cases hng : negB s.data.toList = false
                        · exact hds.2 hng
                        · exfalso
                          have : negB s.data.toList = true := by simpa using hng
                          unfold negB at this
                          unfold bareL Lib.trimPrefix at hd
                          rw [this] at hd
                          have := congrArg List.length hd
                          simp at this
                          omega
                      · omega
                    rw [← this, hc]
                    have ht0 : t = [] := by
                      have := congrArg List.length hc
                      simp only [List.length_cons] at this
                      exact List.length_eq_zero_iff.1 (by omega)
                    rw [ht0]
                    have : c = 48 := by simpa using h
                    rw [this]
                · omega
            by_cases ha : (bareL s.data.toList).all digitB = true
            · have hlt := valN_lt (bareL s.data.toList) 0 0 ha (by decide)
              have hle9 : (10 : Nat) ^ (0 + (bareL s.data.toList).length) ≤ 10 ^ 9 := Nat.pow_le_pow_right (by omega) (by rw [← hd]; omega)
              have hn : numP s.data.toList = (if negB s.data.toList then -(valN 0 (bareL s.data.toList) : Int) else (valN 0 (bareL s.data.toList) : Int), true) := by
                unfold numP numF
                rw [if_neg (by rintro (h | h | h | h); exact hnz (.inl h); exact hnz (.inr (.inl h)); exact hnz (.inr (.inr h)); rw [ha] at h; cases h)]
                rfl
              rw [hn]
              rw [if_pos ha] at h
              have e : (if d.toList = s.toList then ((valN 0 (bareL s.data.toList) : Nat) : Int) else wrap64 (-((valN 0 (bareL s.data.toList) : Nat) : Int))) = (if negB s.data.toList then -(valN 0 (bareL s.data.toList) : Int) else (valN 0 (bareL s.data.toList) : Int)) := by
                by_cases hng : negB s.data.toList = true
                · rw [if_pos hng, if_neg, w64 _ (by omega) (by omega)]
                  intro he
                  have : d = s := data_inj (by rw [← ByteArray.toList_eq, ← ByteArray.toList_eq]; exact he)
                  have := hds.1 this
                  rw [hng] at this; cases this
                · have hng' : negB s.data.toList = false := by simpa using hng
                  rw [if_neg hng, if_pos]
                  rw [hds.2 hng']
              rw [← e]
              exact h
            · have ha' : (bareL s.data.toList).all digitB = false := by simpa using ha
              have hn : numP s.data.toList = (0, false) := by
                unfold numP numF
                rw [if_pos (.inr (.inr (.inr ha')))]
              rw [hn]
              rw [if_neg ha] at h
              exact h
        by_cases h3 : c = 48
        · by_cases h4 : 1 < s.size
          · refine Ev.step (fun k => ?_) (hbad (.inr (.inr ⟨by rw [← hd, hc, h3]; rfl, fun h => by have := congrArg List.length h; simp at this; omega⟩)))
            rw [emenderref22_number.j1, if_neg (fun h => h1 ((toList_nil d).1 h)), if_neg (by omega), if_pos (by omega), hb0, if_pos (h48.2 h3), decide_eq_true (by omega)]
          · refine Ev.step (fun k => ?_) (hgood (fun h => h4 h.2))
            rw [emenderref22_number.j1, if_neg (fun h => h1 ((toList_nil d).1 h)), if_neg (by omega), if_pos (by omega), hb0, if_pos (h48.2 h3), decide_eq_false (by omega)]
        · refine Ev.step (fun k => ?_) (hgood (fun h => h3 h.1))
          rw [emenderref22_number.j1, if_neg (fun h => h1 ((toList_nil d).1 h)), if_neg (by omega), if_pos (by omega), hb0, if_neg (fun h => h3 (h48.1 h))]
  have hneg0 : negB s.data.toList = false → Ev (fun k => emenderref22_number.j1 k s s) (numP s.data.toList) := by
    intro h
    refine key s ?_ (by simp [h]) (Nat.le_refl _) (.inl rfl)
    unfold bareL Lib.trimPrefix
    unfold negB at h
    rw [h]; rfl
  by_cases h0 : s.size = 0
  · have hnil : s.data.toList = [] := List.length_eq_zero_iff.1 (by simpa using h0)
    have h := hneg0 (by rw [hnil]; rfl)
    have h2 : Ev (fun k => emenderref22_number.j0 k s s false) (numP s.data.toList) := Ev.step (fun k => by rw [emenderref22_number.j0, if_neg (by simp)]) h
    refine Ev.congr (fun k => ?_) h2
    rw [emenderref22_number.f, if_pos ((toList_nil s).2 h0)]
  · obtain ⟨c, t, hc, ht, hb⟩ := bt_drop (s := s) (i := 0) (by omega)
    rw [List.drop_zero] at hc
    have hb0 : bt s 0 = (c.toNat : Int) := hb
    have h45 : (c.toNat : Int) = 45 ↔ c = 45 := u8_eq c 45
    have hng : negB s.data.toList = decide (c = 45) := by
      rw [hc]; unfold negB Lib.hasPrefix
      rw [Bool.eq_iff_iff]
      simp only [List.isPrefixOf, Bool.and_true, beq_iff_eq, decide_eq_true_eq]
      exact ⟨fun h => h.symm, fun h => h.symm⟩
    by_cases h1 : c = 45
    · have h : Ev (fun k => emenderref22_number.j1 k s (s.extract 1 s.size)) (numP s.data.toList) := by
        have hex : (s.extract 1 s.size).data.toList = t := by
          rw [extract_bs, bs_list, hc]
          simp only [List.drop_succ_cons, List.drop_zero]
          rw [List.take_of_length_le]
          have := congrArg List.length hc
          simp at this; omega
        have hlen : t.length + 1 = s.size := by have := congrArg List.length hc; simp at this; omega
        have hel : (s.extract 1 s.size).size = t.length := by rw [← hex]; simp
        refine key _ ?_ ?_ (by omega) (.inr (by omega))
        · rw [hex]
          have hp : Lib.hasPrefix s.data.toList [45] = true := by
            have := hng
            rw [decide_eq_true h1] at this
            exact this
          unfold bareL Lib.trimPrefix
          rw [hp, hc]; rfl
        · rw [hng, decide_eq_true h1]
          constructor
          · intro h; have := congrArg ByteArray.size h; omega
          · intro h; cases h
      have h2 : Ev (fun k => emenderref22_number.j0 k s s true) (numP s.data.toList) := Ev.step (fun k => by rw [emenderref22_number.j0, if_pos rfl, if_pos (by omega)]) h
      refine Ev.congr (fun k => ?_) h2
      rw [emenderref22_number.f, if_neg (fun h => h0 ((toList_nil s).1 h)), if_pos (by omega), hb0, show ((c.toNat : Int) == 45) = true by simpa using h45.2 h1]
    · have h := hneg0 (by rw [hng, decide_eq_false h1])
      have h2 : Ev (fun k => emenderref22_number.j0 k s s false) (numP s.data.toList) := Ev.step (fun k => by rw [emenderref22_number.j0, if_neg (by simp)]) h
      refine Ev.congr (fun k => ?_) h2
      rw [emenderref22_number.f, if_neg (fun h => h0 ((toList_nil s).1 h)), if_pos (by omega), hb0, show ((c.toNat : Int) == 45) = false by simpa using fun h => h1 (h45.1 h)]
theorem wrap_ (i : Nat) (h : i ≤ 4000000000) : wrap64 ((i : Int) + 1) = ((i + 1 : Nat) : Int) := by rw [w64 _ (by omega) (by omega)]; omega
theorem put_f (t : ActT) (f : UInt8) (n : Int) : emenderref22_put.f t.k t.a t.b t.c t.d t.n [] (f.toNat : Int) n = some ((t.set f n).k, (t.set f n).a, (t.set f n).b, (t.set f n).c, (t.set f n).d, (t.set f n).n, []) := by
  have e1 : (f.toNat : Int) = 97 ↔ f = 97 := u8_eq f 97
  have e2 : (f.toNat : Int) = 99 ↔ f = 99 := u8_eq f 99
  have e3 : (f.toNat : Int) = 100 ↔ f = 100 := u8_eq f 100
  unfold emenderref22_put.f ActT.set
  by_cases h1 : f = 97
  · rw [if_pos (e1.2 h1), if_pos h1]
  · rw [if_neg (fun h => h1 (e1.1 h)), if_neg h1]
    by_cases h2 : f = 99
    · rw [if_pos (e2.2 h2), if_pos h2]
    · rw [if_neg (fun h => h2 (e2.1 h)), if_neg h2]
      by_cases h3 : f = 100
      · rw [if_pos (e3.2 h3), if_pos h3]
      · rw [if_neg (fun h => h3 (e3.1 h)), if_neg h3]
def fillR : Option ActT → Int × Int × Int × Int × Int × Int × List Int × Bool
  | some t => (t.k, t.a, t.b, t.c, t.d, t.n, [], true)
  | none => (0, 0, 0, 0, 0, 0, [], false)
theorem fill_ev (fs : ByteArray) (xs : List (List UInt8)) (hl : xs.length = fs.size + 1) (hfs : fs.size ≤ 10) (hx : ∀ x ∈ xs, x.length ≤ 4000000000) : ∀ (m i : Nat) (t : ActT), i + m = fs.size →
    Ev (fun k => emenderref22_fill.l0 k fs (xs.map bs) i t.k t.a t.b t.c t.d t.n []) (fillR (fillF t (fs.data.toList.drop i) (xs.drop (i + 1)))) := by
  intro m
  induction m with
  | zero =>
    intro i t hi
    obtain rfl : i = fs.size := by omega
    rw [show fs.data.toList.drop fs.size = [] from List.drop_eq_nil_of_le (by simp), List.drop_eq_nil_of_le (by omega)]
    refine Ev.step (f := fun _ => some _) (fun k => ?_) (Ev.now _)
    rw [emenderref22_fill.l0, if_neg (by omega)]
    rfl
  | succ m ih =>
    intro i t hi
    obtain ⟨c, u, hc, hu, hb⟩ := bt_drop (s := fs) (i := i) (by omega)
    have hlt : i + 1 < xs.length := by omega
    have hw := wrap_ i (by omega)
    have hrd : rdOf ByteArray.empty (xs.map bs) (((i + 1 : Nat)) : Int) = bs xs[i + 1] := by
      unfold rdOf
      rw [Int.toNat_natCast]
      simp [List.getD, hlt]
    have hn := number_f (bs xs[i + 1]) (by rw [bs_size]; exact hx _ (List.getElem_mem hlt))
    rw [bs_list] at hn
    rw [hc, List.drop_eq_getElem_cons hlt, fillF]
    cases hnf : numF xs[i + 1] with
    | none =>
      unfold numP at hn
      rw [hnf] at hn
      refine Ev.step (fun k => ?_) (Ev.bind (f := fun k (bt120 : Int × Bool) => (if bt120.2 = true then (if 0 ≤ (i : Int) then ((emenderref22_put.f t.k t.a t.b t.c t.d t.n [] (bt fs (i : Int)) bt120.1).bind fun bt122 => (emenderref22_fill.l0 k fs (xs.map bs) (wrap64 ((i : Int) + 1)) bt122.1 bt122.2.1 bt122.2.2.1 bt122.2.2.2.1 bt122.2.2.2.2.1 bt122.2.2.2.2.2.1 bt122.2.2.2.2.2.2)) else (none)) else (some (0, 0, 0, 0, 0, 0, ([] : List Int), false)))) hn (Ev.now _))
      rw [emenderref22_fill.l0, if_pos (by omega), if_pos (by rw [hw]; omega), if_pos (by rw [hw, List.length_map]; omega), hw, hrd]
    | some n =>
      unfold numP at hn
      rw [hnf] at hn
      have h := ih (i + 1) (t.set c n) (by omega)
      rw [← hu] at h
      refine Ev.step (fun k => ?_) (Ev.bind (f := fun k (bt120 : Int × Bool) => (if bt120.2 = true then (if 0 ≤ (i : Int) then ((emenderref22_put.f t.k t.a t.b t.c t.d t.n [] (bt fs (i : Int)) bt120.1).bind fun bt122 => (emenderref22_fill.l0 k fs (xs.map bs) (wrap64 ((i : Int) + 1)) bt122.1 bt122.2.1 bt122.2.2.1 bt122.2.2.2.1 bt122.2.2.2.2.1 bt122.2.2.2.2.2.1 bt122.2.2.2.2.2.2)) else (none)) else (some (0, 0, 0, 0, 0, 0, ([] : List Int), false)))) hn (Ev.congr (fun k => ?_) h))
      · rw [emenderref22_fill.l0, if_pos (by omega), if_pos (by rw [hw]; omega), if_pos (by rw [hw, List.length_map]; omega), hw, hrd]
      · rw [if_pos rfl, if_pos (by omega), hb, put_f, hw]
        rfl
theorem fill_f (fs : ByteArray) (xs : List (List UInt8)) (hfs : fs.size ≤ 10) (hx : ∀ x ∈ xs, x.length ≤ 4000000000) (t : ActT) :
    Ev (fun k => emenderref22_fill.f k t.k t.a t.b t.c t.d t.n [] fs (xs.map bs)) (fillR (if xs.length = fs.size + 1 then fillF t fs.data.toList xs.tail else none)) := by
  have hw := wrap_ fs.size (by omega)
  by_cases h : xs.length = fs.size + 1
  · rw [if_pos h]
    have h1 := fill_ev fs xs h hfs hx fs.size 0 t (by omega)
    rw [List.drop_zero, List.drop_one] at h1
    refine Ev.congr (fun k => ?_) h1
    rw [emenderref22_fill.f, if_pos (by rw [hw, List.length_map]; omega)]
    rfl
  · rw [if_neg h]
    refine Ev.congr (fun k => ?_) (Ev.now _)
    rw [emenderref22_fill.f, if_neg (by rw [hw, List.length_map]; omega)]
    rfl
theorem form_word (f : FormT) (h : f ∈ formsT) : formsT.find? (fun g => g.word == f.word) = some f ∧ formsT.find? (fun g => g.k == f.k && g.b == f.b) = some f ∧ f.word ≠ [] ∧ (f.k ≠ 0 → f.b = 0) ∧ 0 ≤ f.k ∧ f.k ≤ 8 ∧ f.fields.length ≤ 4 := by
  simp only [formsT, List.mem_cons, List.not_mem_nil, or_false] at h
  rcases h with rfl | rfl | rfl | rfl | rfl | rfl | rfl | rfl | rfl | rfl | rfl | rfl | rfl | rfl | rfl
  all_goals simp [formsT]
theorem word_uniq {f g : FormT} (hf : f ∈ formsT) (hg : g ∈ formsT) (h : f.word = g.word) : f = g := by
  have h1 := (form_word f hf).1
  rw [h, (form_word g hg).1] at h1
  exact (Option.some.inj h1).symm
theorem kind_uniq {f g : FormT} (hf : f ∈ formsT) (hg : g ∈ formsT) (h : f.k = g.k) (h' : f.b = g.b) : f = g := by
  have h1 := (form_word f hf).2.1
  rw [h, h', (form_word g hg).2.1] at h1
  exact (Option.some.inj h1).symm
theorem find_fit {ws : List (List UInt8)} {f : FormT} (hf : f ∈ formsT) (hw : ws.head? = some f.word) : formsT.find? (fitsF ws) = if ws.length = f.fields.length + 1 then some f else none := by
  by_cases h : ws.length = f.fields.length + 1
  · rw [if_pos h]
    cases hx : formsT.find? (fitsF ws) with
    | none =>
      have := List.find?_eq_none.1 hx f hf
      simp [fitsF, hw, h] at this
    | some g =>
      have h1 := List.find?_some hx
      have h2 := List.mem_of_find?_eq_some hx
      simp only [fitsF, Bool.and_eq_true, decide_eq_true_eq] at h1
      rw [hw] at h1
      rw [word_uniq h2 hf (Option.some.inj h1.1).symm]
  · rw [if_neg h]
    rw [List.find?_eq_none]
    intro g hg
    simp only [fitsF, Bool.and_eq_true, decide_eq_true_eq, not_and]
    intro h1
    rw [hw] at h1
    rw [← word_uniq hf hg (Option.some.inj h1)]
    exact h
def wordP (o : Option FormT) : ByteArray × ByteArray := match o with
  | some f => (bs f.word, bs f.fields)
  | none => (⟨#[]⟩, ⟨#[]⟩)
theorem word_f (t : ActT) : emenderref22_Word.f t.k t.b = some (wordP (formsT.find? (selF t))) := by
  unfold emenderref22_Word.f
  by_cases h1 : t.k = 1
  · simp [h1, formsT, selF, wordP, bs]
  by_cases h2 : t.k = 2
  · simp [h2, formsT, selF, wordP, bs]
  by_cases h3 : t.k = 3
  · simp [h3, formsT, selF, wordP, bs]
  by_cases h4 : t.k = 4
  · simp [h4, formsT, selF, wordP, bs]
  by_cases h5 : t.k = 5
  · simp [h5, formsT, selF, wordP, bs]
  by_cases h6 : t.k = 6
  · simp [h6, formsT, selF, wordP, bs]
  by_cases h8 : t.k = 8
  · simp [h8, formsT, selF, wordP, bs]
  by_cases h0 : t.k = 0
  · by_cases b0 : t.b = 0
    · simp [h0, b0, formsT, selF, wordP, bs]
    by_cases b1 : t.b = 1
    · simp [h0, b1, formsT, selF, wordP, bs]
    by_cases b2 : t.b = 2
    · simp [h0, b2, formsT, selF, wordP, bs]
    by_cases b3 : t.b = 3
    · simp [h0, b3, formsT, selF, wordP, bs]
    by_cases b4 : t.b = 4
    · simp [h0, b4, formsT, selF, wordP, bs]
    by_cases b5 : t.b = 5
    · simp [h0, b5, formsT, selF, wordP, bs]
    by_cases b6 : t.b = 6
    · simp [h0, b6, formsT, selF, wordP, bs]
    by_cases b7 : t.b = 7
    · simp [h0, b7, formsT, selF, wordP, bs]
    rw [if_neg h1, if_neg h2, if_neg h3, if_neg h4, if_neg h5, if_neg h6, if_neg h8, if_pos h0, if_neg b0, if_neg b1, if_neg b2, if_neg b3, if_neg b4, if_neg b5, if_neg b6, if_neg b7]
    rw [List.find?_eq_none.2]
    · rfl
    · intro g hg
      simp only [formsT, List.mem_cons, List.not_mem_nil, or_false] at hg
      rcases hg with rfl | rfl | rfl | rfl | rfl | rfl | rfl | rfl | rfl | rfl | rfl | rfl | rfl | rfl | rfl <;> simp [selF, h0] <;> omega
  rw [if_neg h1, if_neg h2, if_neg h3, if_neg h4, if_neg h5, if_neg h6, if_neg h8, if_neg h0]
  rw [List.find?_eq_none.2]
  · rfl
  · intro g hg
    simp only [formsT, List.mem_cons, List.not_mem_nil, or_false] at hg
    rcases hg with rfl | rfl | rfl | rfl | rfl | rfl | rfl | rfl | rfl | rfl | rfl | rfl | rfl | rfl | rfl <;> simp [selF] <;> omega
end Go.Proofs.YtdoogkohfjkefaaDoor.PAct
