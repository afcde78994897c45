/- Chapter 22: a number's text, as a plain function. -/
import Derived.Test.YtdoogkohfjkefaaDoorScBase
namespace Go.Proofs.YtdoogkohfjkefaaDoor
open Go.RowKit
def digitB (c : UInt8) : Bool := 48 ≤ c && c ≤ 57
def valD (l : List UInt8) : Nat := l.foldl (fun n c => 10 * n + (c.toNat - 48)) 0
def negB (s : List UInt8) : Bool := Lib.hasPrefix s [45]
def bareL (s : List UInt8) : List UInt8 := Lib.trimPrefix s [45]
/-- A number's text: the number; none: it is none. -/
def numF (s : List UInt8) : Option Int :=
  if bareL s = [] ∨ 9 < (bareL s).length ∨ ((bareL s).head? = some 48 ∧ s ≠ [48]) ∨ (bareL s).all digitB = false then none
  else some (if negB s then -(valD (bareL s) : Int) else valD (bareL s))
def numV (o : Option Int) : Value := .tuple #[.int .i64 (o.getD 0), .bool o.isSome]
theorem digit_nat (c : UInt8) : digitB c = (decide (48 ≤ c.toNat) && decide (c.toNat ≤ 57)) := rfl
theorem valD_snoc (l : List UInt8) (c : UInt8) : valD (l ++ [c]) = 10 * valD l + (c.toNat - 48) := by simp [valD]
theorem valD_lt : ∀ (k : Nat) (l : List UInt8), l.length = k → l.all digitB = true → valD l < 10 ^ k := by
  intro k
  induction k with
  | zero => intro l h _; rw [List.length_eq_zero_iff.1 h]; decide
  | succ k ih =>
    intro l h ha
    have hne : l ≠ [] := by rintro rfl; simp at h
    have e := List.dropLast_concat_getLast hne
    rw [← e] at ha h ⊢
    rw [List.all_append, Bool.and_eq_true] at ha
    have h1 := ih l.dropLast (by simp at h ⊢; omega) ha.1
    have h2 : digitB (l.getLast hne) = true := by simpa using ha.2
    rw [valD_snoc]
    rw [digit_nat, Bool.and_eq_true, decide_eq_true_eq, decide_eq_true_eq] at h2
    rw [Nat.pow_succ]
    omega
theorem valD_few (l : List UInt8) (h : l.length ≤ 9) (ha : l.all digitB = true) : valD l < 1000000000 := by
  have := valD_lt _ l rfl ha
  have h2 : 10 ^ l.length ≤ 10 ^ 9 := Nat.pow_le_pow_right (by omega) h
  omega
theorem numF_none {s : List UInt8} (h : bareL s = [] ∨ 9 < (bareL s).length ∨ ((bareL s).head? = some 48 ∧ s ≠ [48]) ∨ (bareL s).all digitB = false) : numF s = none := by unfold numF; rw [if_pos h]
set_option maxRecDepth 100000 in
set_option maxHeartbeats 2000000 in
theorem number_any (s : ByteArray) (hs : s.size ≤ 4611686018427387904) (w : World) :
    Calls Tryd.prog 13 #[.string s] w fun e w' => e = .returned (numV (numF s.data.toList)) ∧ Fr Nob w w' := by
  have hl : (bareL s.data.toList).length ≤ s.size := by
    have : s.data.toList.length = s.size := by simp
    unfold bareL Lib.trimPrefix
    split
    · rw [List.length_drop]; omega
    · omega
  have HL := Lib.hid hl
  go_enter Tryd.func13, Tryd.ntmps13
  go_wp2_with fail
  refine (strings_CutPrefix s ⟨#[45]⟩ w).mono ?_
  rintro e w1 ⟨rfl, rfl⟩
  rw [show (⟨(Lib.trimPrefix s.data.toList (⟨#[45]⟩ : ByteArray).data.toList).toArray⟩ : ByteArray) = bs (bareL s.data.toList) from rfl, show Lib.hasPrefix s.data.toList (⟨#[45]⟩ : ByteArray).data.toList = negB s.data.toList from rfl]
  obtain ⟨L, hL⟩ : ∃ L, bareL s.data.toList = L := ⟨_, rfl⟩
  have hnf : numF s.data.toList = if L = [] ∨ 9 < L.length ∨ (L.head? = some 48 ∧ s.data.toList ≠ [48]) ∨ L.all digitB = false then none else some (if negB s.data.toList then -(valD L : Int) else valD L) := by
    unfold numF; rw [hL]
  have HNF := Lib.hid hnf
  rw [hL] at HL ⊢
  obtain ⟨D, hDD⟩ : ∃ D, bs L = D := ⟨_, rfl⟩
  have hdt : D.toList = L := by rw [← hDD]; exact bs_toList _
  have hdl : D.data.toList = L := by rw [← hDD]; exact bs_list _
  have hdz : D.size = L.length := by rw [← hDD]; exact bs_size _
  rw [hDD]
  clear hl hnf hL hDD
  by_cases h0 : L = []
  · have HN := Lib.hid (show numF s.data.toList = none by rw [HNF.out, if_pos (.inl h0)])
    have g0 : D.toList = [] := by rw [hdt, h0]
    clear HNF h0 hdl hdz hdt
    go_wp2_with fail
    refine bodyPost_ret (v := numV none) (by simp [results, go_sem, numV]) rfl ⟨by rw [HN.out], Fr.refl _ _⟩
  have g0 : ¬ D.toList = [] := by rw [hdt]; exact h0
  by_cases h9 : 9 < L.length
  · have HN := Lib.hid (show numF s.data.toList = none by rw [HNF.out, if_pos (.inr (.inl h9))])
    have g9 : (D.size : Int) > 9 := by omega
    clear HNF h0 hdl hdz hdt h9
    go_wp2_with fail
    refine bodyPost_ret (v := numV none) (by simp [results, go_sem, numV]) rfl ⟨by rw [HN.out], Fr.refl _ _⟩
  have g9 : ¬ (D.size : Int) > 9 := by omega
  obtain ⟨c0, t, hct⟩ : ∃ c0 t, L = c0 :: t := by
    cases L with
    | nil => exact absurd rfl h0
    | cons c t => exact ⟨c, t, rfl⟩
  have hd0 : 0 < D.size := by rw [hdz, hct]; simp
  have hc0 : D[0] = c0 := by
    have : D.data.toList[0]? = some c0 := by rw [hdl, hct]; rfl
    rw [Array.getElem?_toList] at this
    exact (Array.getElem?_eq_some_iff.1 this).2
  have hz0 : ((0 : Int) < (D.size : Int)) := by omega
  have HD := Lib.hid (And.intro hdl (And.intro hdz (And.intro hct hdt)))
  by_cases hC : c0.toNat = 48 ∧ s.data.toList ≠ [48]
  · have HN := Lib.hid (show numF s.data.toList = none by
      rw [HNF.out, if_pos (.inr (.inr (.inl ⟨by rw [hct]; exact congrArg some (UInt8.toNat_inj.1 hC.1), hC.2⟩)))])
    have hk : (((c0.toNat : Int)) == 48) = true := by simp; omega
    have hs48 : (s.toList == [48]) = false := by rw [ByteArray.toList_eq]; simpa using hC.2
    clear HNF h0 hdl hdz hdt h9 hct hC
    go_wp2_with fail
    refine bodyPost_ret (v := numV none) (by simp [results, go_sem, numV]) rfl ⟨by rw [HN.out], Fr.refl _ _⟩
  have hcc : (((c0.toNat : Int)) == 48) = false ∨ (((c0.toNat : Int)) == 48) = true ∧ (s.toList == [48]) = true := by
    by_cases h : c0.toNat = 48
    · right
      refine ⟨by simp; omega, ?_⟩
      rw [ByteArray.toList_eq]
      by_cases h2 : s.data.toList = [48]
      · simp [h2]
      · exact absurd ⟨h, h2⟩ hC
    · left; simp; omega
  have hnot : ¬ (L.head? = some 48 ∧ s.data.toList ≠ [48]) := by
    rw [hct]
    rintro ⟨h1, h2⟩
    refine hC ⟨?_, h2⟩
    injection h1 with h1
    rw [h1]
    rfl
  have HN := Lib.hid (show numF s.data.toList = if L.all digitB = false then none else some (if negB s.data.toList then -(valD L : Int) else valD L) by
    rw [HNF.out]
    by_cases ha : L.all digitB = false
    · rw [if_pos (.inr (.inr (.inr ha))), if_pos ha]
    · rw [if_neg ha, if_neg]
      rintro (h | h | h | h)
      · exact h0 h
      · exact h9 h
      · exact hnot h
      · exact ha h)
  have h9' : L.length ≤ 9 := by omega
  have H9 := Lib.hid h9'
  clear HNF hdl hdz hdt h9 hct hC hnot h0 h9'
  have gi : D.toList.isEmpty = false := by simpa using g0
  have gd : decide (9 < (D.size : Int)) = false := by simp; omega
  rcases hcc with k1 | ⟨k1, k2⟩
  all_goals
    go_wp2_with fail
    go_loopg [6] (D.size) (fun n acc wr => ∃ k, n = D.size - k ∧ k ≤ D.size ∧ acc = .int .i64 ((valD (L.take k) : Nat) : Int) ∧ Hid ((L.take k).all digitB = true) ∧ wr = w1.iter D k)
    case atStart => exact ⟨0, rfl, Nat.zero_le _, rfl, rfl, rfl⟩
    case round =>
      obtain ⟨k, rfl, hk, rfl, HA, rfl⟩ := hrel
      by_cases hlt : k < D.size
      · have hdl := HD.out.1
        have hdz := HD.out.2.1
        have hkl : k < L.length := by omega
        have hgk : D[k] = L[k] := by
          have : D.data.toList[k]? = some L[k] := by rw [hdl]; exact List.getElem?_eq_getElem hkl
          rw [Array.getElem?_toList] at this
          exact (Array.getElem?_eq_some_iff.1 this).2
        have htk : L.take (k + 1) = L.take k ++ [L[k]] := List.take_succ_eq_append_getElem hkl
        have hvd := valD_few (L.take k) (by have := H9.out; rw [List.length_take]; omega) HA.out
        have hmem : L[k] ∈ L := List.getElem_mem hkl
        obtain ⟨c, hc⟩ : ∃ c, L[k] = c := ⟨_, rfl⟩
        rw [hc] at hgk htk hmem
        have hcl := c.toNat_lt
        by_cases ha : c.toNat < 128
        · have hnx := fun ty => run_next_ascii (P := Tryd.prog) w1 D k ty hlt (by rw [hgk]; exact ha)
          rw [hgk] at hnx
          have HT := Lib.hid (And.intro htk hmem)
          clear htk hmem hgk hc hdl hdz hkl
          by_cases hd : 48 ≤ c.toNat ∧ c.toNat ≤ 57
          · have j1 : ¬ ((c.toNat : Int) < 48) := by omega
            have j2 : ¬ ((c.toNat : Int) > 57) := by omega
            have hdc : digitB c = true := by rw [digit_nat]; simp; omega
            have HDC := Lib.hid (And.intro hdc hd)
            clear hdc hd
            go_wp2_with fail
            go_roundg (D.size - (k + 1))
            case measure => omega
            case rel =>
              refine ⟨k + 1, rfl, hlt, ?_, ?_, rfl⟩
              · rw [HT.out.1, valD_snoc]
                obtain ⟨_, h1, h2⟩ := HDC.out
                congr 1
                first
                  | omega
                  | (rw [w64 _ (by rw [w64 _ (by omega) (by omega)]; omega) (by rw [w64 _ (by omega) (by omega)]; omega), w64 _ (by omega) (by omega)]; omega)
              · show (L.take (k + 1)).all digitB = true
                rw [HT.out.1, List.all_append, HA.out]
                simp [HDC.out.1]
          · have hn : numF s.data.toList = none := by
              rw [HN.out, if_pos]
              rw [List.all_eq_false]
              refine ⟨c, HT.out.2, ?_⟩
              rw [digit_nat]; simp; omega
            have HN2 := Lib.hid hn
            have hj : (c.toNat : Int) < 48 ∨ ¬ ((c.toNat : Int) < 48) ∧ (c.toNat : Int) > 57 := by omega
            clear hn hd
            rcases hj with j1 | ⟨j1, j2⟩
            all_goals
              go_wp2_with fail
              refine bodyPost_ret (v := numV none) (by simp [results, go_sem, numV]) rfl ⟨by rw [HN2.out], (Fr.refl Nob w1).alloc _⟩
        · have hnx := fun ty => run_next_any (P := Tryd.prog) w1 D k ty hlt
          obtain ⟨hh, _⟩ := decode_high D k hlt (by rw [hgk]; omega)
          have hn : numF s.data.toList = none := by
            rw [HN.out, if_pos]
            rw [List.all_eq_false]
            refine ⟨c, hmem, ?_⟩
            rw [digit_nat]; simp; omega
          have HN2 := Lib.hid hn
          generalize Utf8.decode D k = r at hnx hh
          have j1 : ¬ ((r.1 : Int) < 48) := by omega
          have j2 : ((r.1 : Int) > 57) := by omega
          clear htk hmem hgk hc hdl hdz hkl hn hh
          go_wp2_with fail
          refine bodyPost_ret (v := numV none) (by simp [results, go_sem, numV]) rfl ⟨by rw [HN2.out], (Fr.refl Nob w1).alloc _⟩
      · have hnx := fun ty => run_next_end (P := Tryd.prog) w1 D k ty hlt
        have hkl : k = D.size := by omega
        have hall : L.take k = L := List.take_of_length_le (by have := HD.out.2.1; omega)
        have ha := HA.out
        rw [hall] at ha ⊢
        have HN2 := Lib.hid (show numF s.data.toList = some (if negB s.data.toList then -(valD L : Int) else valD L) by rw [HN.out, ha]; rfl)
        have hvd := valD_few L H9.out ha
        clear hall hkl ha
        cases hng : negB s.data.toList
        · rw [hng] at HN2
          go_wp2_with fail
          refine bodyPost_ret (v := numV (some (valD L : Int))) (by simp [results, go_sem, numV]) rfl ⟨by rw [HN2.out]; rfl, (Fr.refl Nob w1).alloc _⟩
        · rw [hng] at HN2
          go_wp2_with fail
          refine bodyPost_ret (v := numV (some (-(valD L : Int)))) (by simp [results, go_sem, numV]) rfl ⟨by rw [HN2.out]; rfl, (Fr.refl Nob w1).alloc _⟩
end Go.Proofs.YtdoogkohfjkefaaDoor
