/- Chapter 22: the reference's 'Print'. -/
import Derived.Test.YtdoogkohfjkefaaDoorScRefT
import Derived.Test.YtdoogkohfjkefaaDoorScRefA
import Derived.Outline
import Derived.StillTailTactics
namespace Go.Proofs.YtdoogkohfjkefaaDoor
open Go.RowKit
/-- A line of words and numbers, as the reference writes it: what has been written is kept, and is held against the act. -/
def prtR (t : ActT) (m : Nat) : List UInt8 → List UInt8 → ActT → Option (List UInt8)
  | s, [], x => if x = t ∧ m = 0 then some s else none
  | s, c :: fs, x => if bigB (t.get c) then none else prtR t m (s ++ 32 :: Lib.itoa (t.get c)) fs (x.set c (t.get c))
def printR (t : ActT) (m : Nat) : Option (List UInt8) := match formsT.find? (selF t) with
  | none => none
  | some f => prtR t m f.word f.fields ⟨t.k, 0, if t.k = 0 then t.b else 0, 0, 0, 0⟩
theorem print_same (t : ActT) (hok : t.Ok) (m : Nat) : printR t m = printF t m := by
  unfold printR printF
  cases hf : formsT.find? (selF t) with
  | none => rfl
  | some f =>
    have hm := List.mem_of_find?_eq_some hf
    have hs := List.find?_some hf
    obtain ⟨k, a, b, c, d, n⟩ := t
    have hb := hok.b
    simp only at hb
    simp only [selF, Bool.and_eq_true, Bool.or_eq_true, decide_eq_true_eq] at hs
    simp only [formsT, List.mem_cons, List.not_mem_nil, or_false] at hm
    rcases hm with rfl | rfl | rfl | rfl | rfl | rfl | rfl | rfl | rfl | rfl | rfl | rfl | rfl | rfl | rfl
    all_goals
      simp only at hs
      obtain ⟨rfl, hs⟩ := hs
      have h0 := wrap_zero b 0 hb (by omega)
      rw [Int.sub_zero] at h0
      have hz : wrap64 0 = 0 := w64 0 (by omega) (by omega)
      first
        | (rcases hs with hs | hs
           · exact absurd rfl hs
           · subst hs
             simp only [printO, prtF, prtR, ActT.get, ActT.set]
             simp [hz, eq_comm (a := (0 : Int)), and_assoc]
             done)
        | (simp only [printO, prtF, prtR, ActT.get, ActT.set]
           simp [h0, eq_comm (a := (0 : Int)), and_assoc]
           done)
theorem fr_of_drawn {w w' : World} (h : YtdoogkohfjkefaaDoorW.PrintWords.Drawn0 w w') : Fr Nob w w' := by
  obtain ⟨n, rfl⟩ := h
  exact (Fr.refl _ _).drewN n
theorem store7 (w : World) (R : Nat) (fc : UInt8) (x : ActT) (n : Int) (h : Blk w R (x.cellsV (.slice none 0 0)) 24) :
    Fr (One R) w (((((((w.setCell ⟨R, 0, none⟩ (.int .i64 (x.set fc n).k)).setCell ⟨R, 1, none⟩ (.int .i64 (x.set fc n).a)).setCell ⟨R, 2, none⟩ (.int .i64 (x.set fc n).b)).setCell ⟨R, 3, none⟩ (.int .i64 (x.set fc n).c)).setCell ⟨R, 4, none⟩ (.int .i64 (x.set fc n).d)).setCell ⟨R, 5, none⟩ (.int .i64 (x.set fc n).n)).setCell ⟨R, 6, none⟩ (.slice none 0 0)) ∧
    Blk (((((((w.setCell ⟨R, 0, none⟩ (.int .i64 (x.set fc n).k)).setCell ⟨R, 1, none⟩ (.int .i64 (x.set fc n).a)).setCell ⟨R, 2, none⟩ (.int .i64 (x.set fc n).b)).setCell ⟨R, 3, none⟩ (.int .i64 (x.set fc n).c)).setCell ⟨R, 4, none⟩ (.int .i64 (x.set fc n).d)).setCell ⟨R, 5, none⟩ (.int .i64 (x.set fc n).n)).setCell ⟨R, 6, none⟩ (.slice none 0 0)) R ((x.set fc n).cellsV (.slice none 0 0)) 24 :=
  ⟨((((((((Fr.refl (One R) w).setCell (p := ⟨R, 0, none⟩) (.inl rfl) _).setCell (p := ⟨R, 1, none⟩) (.inl rfl) _).setCell (p := ⟨R, 2, none⟩) (.inl rfl) _).setCell (p := ⟨R, 3, none⟩) (.inl rfl) _).setCell (p := ⟨R, 4, none⟩) (.inl rfl) _).setCell (p := ⟨R, 5, none⟩) (.inl rfl) _).setCell (p := ⟨R, 6, none⟩) (.inl rfl) _),
    ((((((h.set 0 _).set 1 _).set 2 _).set 3 _).set 4 _).set 5 _).set 6 _⟩
set_option maxRecDepth 100000 in
set_option maxHeartbeats 8000000 in
theorem refprint_any (t : ActT) (hok : t.Ok) (A : Option Addr) (m c : Nat) (w : World) :
    Calls Tryd.prog 8 #[.agg (t.cellsV (.slice A m c)).toArray] w fun e w' => e = .returned (.tuple #[.string (prtT (printF t m)), .int .i64 (prtE (printF t m))]) ∧ Fr Nob w w' := by
  have hsame := print_same t hok m
  have hfa := (Fr.refl Nob w).alloc (.cells #[.int .i64 t.k, .int .i64 t.a, .int .i64 t.b, .int .i64 t.c, .int .i64 t.d, .int .i64 t.n, .slice A m c] 24)
  have hbo := Blk.new w (t.cellsV (.slice A m c)) 24
  rw [← hsame]
  simp only [ActT.cellsV] at hbo ⊢
  clear hsame
  have HOK := Lib.hid hok
  clear hok
  go_enter Tryd.func8, Tryd.ntmps8
  go_wp2_with fail
  generalize w.alloc (.cells #[.int .i64 t.k, .int .i64 t.a, .int .i64 t.b, .int .i64 t.c, .int .i64 t.d, .int .i64 t.n, .slice A m c] 24) = w0 at hfa hbo ⊢
  have HF := Lib.hid hfa
  have HBO := Lib.hid hbo
  clear hfa hbo
  have hwf := PAct.word_f t
  have hwd : printR t m = (match formsT.find? (selF t) with | none => none | some f => prtR t m f.word f.fields ⟨t.k, 0, if t.k = 0 then t.b else 0, 0, 0, 0⟩) := rfl
  cases hf : formsT.find? (selF t) with
  | none =>
    rw [hf] at hwf hwd
    have HWD := Lib.hid hwd
    clear hwd hf
    refine (PAct.emenderref22_Word.calls t.k t.b _ _ w0 hwf).mono ?_
    rintro e w1 ⟨rfl, hF1⟩
    have HF1 := Lib.hid (HF.out.same (fr_of_drawn hF1))
    clear hF1 hwf
    go_wp2_with fail
    refine bodyPost_ret (v := .tuple #[.string ⟨#[]⟩, .int .i64 1]) (by simp [results, go_sem]) rfl ⟨by rw [HWD.out]; rfl, HF1.out⟩
  | some f =>
    rw [hf] at hwf hwd
    have hfb := forms_b f (List.mem_of_find?_eq_some hf)
    have hne : (bs f.word).toList.isEmpty = false := by
      have h := (PAct.form_word f (List.mem_of_find?_eq_some hf)).2.2.1
      rw [bs_toList]
      cases hw : f.word with
      | nil => exact absurd hw h
      | cons => rfl
    have HWD := Lib.hid hwd
    clear hwd hf
    refine (PAct.emenderref22_Word.calls t.k t.b _ _ w0 hwf).mono ?_
    rintro e w1 ⟨rfl, hF1⟩
    have hF1' := fr_of_drawn hF1
    have HF1 := Lib.hid (HF.out.same hF1')
    have HB1 := Lib.hid (HBO.out.fr hF1' (fun h => h))
    have HFB := Lib.hid hfb
    have d0 := HB1.out.cell 0
    have d2 := HB1.out.cell 2
    have hlo := HB1.out.lt
    simp only [List.getElem?_cons_zero, List.getElem?_cons_succ] at d0 d2
    clear hF1 hF1' hwf hfb
    have hk : (t.k == 0) = true ∨ (t.k == 0) = false := by cases (t.k == 0) <;> simp
    have hen : ∃ W2 x0, Hid (Fr Nob w1 W2) ∧ W2 = w1.alloc (.cells (ActT.cellsV x0 (.slice none 0 0)).toArray 24) ∧ Hid (printR t m = prtR t m f.word f.fields x0) ∧ x0 = ⟨t.k, 0, if t.k = 0 then t.b else 0, 0, 0, 0⟩ := ⟨_, _, (Fr.refl _ _).alloc _, rfl, HWD.out, rfl⟩
    obtain ⟨W2, x0, HF2, hW2, HP0, hx0⟩ := hen
    have hbx : Blk W2 w1.heap.size (x0.cellsV (.slice none 0 0)) 24 := hW2 ▸ Blk.new w1 _ _
    have HBX := Lib.hid hbx
    have HW2 := Lib.hid hW2
    have HX0 := Lib.hid hx0
    have HIT := Lib.hid (fun n h w => PPrint.told_any n h w)
    have HTG := Lib.hid (fun f w => refget_any t A m c f w)
    clear hbx hW2 hx0 HBO
    rcases hk with hk | hk
    · have e0 : x0 = ⟨t.k, 0, t.b, 0, 0, 0⟩ := by rw [HX0.out, if_pos (by simpa using hk)]
      have e : w1.alloc (.cells #[.int .i64 t.k, .int .i64 0, .int .i64 t.b, .int .i64 0, .int .i64 0, .int .i64 0, .slice none 0 0] 24) = W2 := by rw [HW2.out, e0]; rfl
      have HE := Lib.hid e
      clear e e0
      go_wp2_with fail
      rw [HE.out]
      clear HE
      clear hk HW2 HX0 d0 d2 HWD
      have HFW := Lib.hid (HF1.out.same HF2.out)
      have HBA := Lib.hid (HB1.out.fr HF2.out (fun h => h))
      clear HB1 HF1 HF2 HF
      generalize w1.heap.size = R at HBX hlo ⊢
      have hRl := HBX.out.lt
      have hwR : w.heap.size < R := hlo
      go_loopg [6, 8] (f.fields.length) (fun n y i W => ∃ (q : Nat) (s : List UInt8) (x : ActT), n = f.fields.length - q ∧ q ≤ f.fields.length ∧ y = .string (bs s) ∧ i = .int .i64 q ∧ Hid (printR t m = prtR t m s (f.fields.drop q) x) ∧ Hid (s.length ≤ 7 + 22 * q) ∧ Hid (Fr Nob w W) ∧ Hid (Blk W w.heap.size [.int .i64 t.k, .int .i64 t.a, .int .i64 t.b, .int .i64 t.c, .int .i64 t.d, .int .i64 t.n, .slice A m c] 24) ∧ Hid (Blk W R (x.cellsV (.slice none 0 0)) 24))
      case atStart => exact ⟨0, f.word, x0, rfl, Nat.zero_le _, rfl, rfl, HP0.out, by have := HFB.out; rw [Hid]; omega, HFW.out, HBA.out, HBX.out⟩
      case round =>
        obtain ⟨q, s, x, rfl, hq, rfl, rfl, HPq, HSq, HFq, HAq, HXq⟩ := hrel
        clear HP0 HFW HBA HBX
        have hsz : ((bs f.fields).size : Int) = f.fields.length := by rw [bs_size]
        have hf4 : f.fields.length ≤ 4 := HFB.out.2.2.2
        have a0 := HAq.out.cell 0
        have a1 := HAq.out.cell 1
        have a2 := HAq.out.cell 2
        have a3 := HAq.out.cell 3
        have a4 := HAq.out.cell 4
        have a5 := HAq.out.cell 5
        have a6 := HAq.out.cell 6
        have x0' := HXq.out.cell 0
        have x1' := HXq.out.cell 1
        have x2' := HXq.out.cell 2
        have x3' := HXq.out.cell 3
        have x4' := HXq.out.cell 4
        have x5' := HXq.out.cell 5
        have x6' := HXq.out.cell 6
        have hla := HAq.out.lt
        have hlx := HXq.out.lt
        simp only [List.getElem?_cons_zero, List.getElem?_cons_succ, ActT.cellsV] at a0 a1 a2 a3 a4 a5 a6 x0' x1' x2' x3' x4' x5' x6'
        by_cases hql : q < f.fields.length
        · have hdf : f.fields.drop q = f.fields[q] :: f.fields.drop (q + 1) := List.drop_eq_getElem_cons hql
          obtain ⟨fc, hfe⟩ : ∃ fc, f.fields[q] = fc := ⟨_, rfl⟩
          have hti : (q : Int) < (bs f.fields).size := by rw [hsz]; omega
          have hPq := HPq.out
          rw [hdf, hfe, prtR] at hPq
          have HP2 := Lib.hid hPq
          clear hPq HPq hdf
          go_wp2_with fail
          go_still_tail 4, (by kernel_rfl)
          change wpList _ _ _ _ _ wr.drew
          generalize hwd : wr.drew = wd
          have hFd : Fr Nob wr wd := by subst hwd; exact (Fr.refl _ _).drew
          have HFd := Lib.hid (HFq.out.same hFd)
          have HAd := Lib.hid (HAq.out.fr hFd (fun h => h))
          have HXd := Lib.hid (HXq.out.fr hFd (fun h => h))
          clear hFd hwd a0 a1 a2 a3 a4 a5 a6 x0' x1' x2' x3' x4' x5' x6' HFq HAq HXq
          have hix : (bs f.fields)[q]'(by rw [bs_size]; exact hql) = fc := by rw [← hfe]; rfl
          have HIX := Lib.hid hix
          clear hix
          go_wp2_with fail
          rw [HIX.out]
          refine (HTG.out fc wd).mono ?_
          rintro e w5 ⟨rfl, hF5⟩
          have HF5 := Lib.hid (HFd.out.same hF5)
          have HA5 := Lib.hid (HAd.out.fr hF5 (fun h => h))
          have HX5 := Lib.hid (HXd.out.fr hF5 (fun h => h))
          clear hF5 HFd HAd HXd
          by_cases hg : bigB (t.get fc) = true
          · have hno : printR t m = none := by rw [HP2.out, if_pos hg]
            have HNO := Lib.hid hno
            have hgg : t.get fc < -999999999 ∨ 999999999 < t.get fc := by
              simp only [bigB, Bool.or_eq_true, decide_eq_true_eq] at hg
              exact hg
            clear hno hg
            generalize t.get fc = nn at hgg
            rcases hgg with hgg | hgg
            · go_wp2_with fail
              refine bodyPost_ret (v := .tuple #[.string ⟨#[]⟩, .int .i64 1]) (by simp [results, go_sem]) rfl ⟨by rw [HNO.out]; rfl, HF5.out⟩
            · have hgn : ¬ nn < -999999999 := by omega
              go_wp2_with fail
              refine bodyPost_ret (v := .tuple #[.string ⟨#[]⟩, .int .i64 1]) (by simp [results, go_sem]) rfl ⟨by rw [HNO.out]; rfl, HF5.out⟩
          · have hg' : bigB (t.get fc) = false := by simpa using hg
            have hr := big_range hg'
            have hyes : printR t m = prtR t m (s ++ 32 :: Lib.itoa (t.get fc)) (f.fields.drop (q + 1)) (x.set fc (t.get fc)) := by rw [HP2.out, if_neg hg]
            have hle := Lib.itoa_length_le (t.get fc) (by omega) (by omega)
            have HYS := Lib.hid hyes
            have HG := Lib.hid hg'
            have HLE := Lib.hid hle
            have hr1 : ¬ t.get fc < -999999999 := by omega
            have hr2 : ¬ 999999999 < t.get fc := by omega
            have hput := fun W => refput_any x none 0 0 fc (t.get fc) W
            simp only [ActT.cellsV] at hput
            have HPUT := Lib.hid hput
            clear hyes hg hg' hr hle hput
            have x0' := HX5.out.cell 0
            have x1' := HX5.out.cell 1
            have x2' := HX5.out.cell 2
            have x3' := HX5.out.cell 3
            have x4' := HX5.out.cell 4
            have x5' := HX5.out.cell 5
            have x6' := HX5.out.cell 6
            have hlx5 := HX5.out.lt
            simp only [List.getElem?_cons_zero, List.getElem?_cons_succ, ActT.cellsV] at x0' x1' x2' x3' x4' x5' x6'
            go_wp2_with fail
            go_still_tail 5, (by kernel_rfl)
            change wpList _ _ _ _ _ w5.drew
            generalize hwd : w5.drew = w6
            have hFd : Fr Nob w5 w6 := by subst hwd; exact (Fr.refl _ _).drew
            have HF6 := Lib.hid (HF5.out.same hFd)
            have HA6 := Lib.hid (HA5.out.fr hFd (fun h => h))
            have HX6 := Lib.hid (HX5.out.fr hFd (fun h => h))
            clear hFd hwd x0' x1' x2' x3' x4' x5' x6' HF5 HA5 HX5
            go_wp2_with fail
            rw [HIX.out]
            refine (HPUT.out w6).mono ?_
            rintro e w7 ⟨rfl, hF7⟩
            have HF7 := Lib.hid (HF6.out.same hF7)
            have HA7 := Lib.hid (HA6.out.fr hF7 (fun h => h))
            have HX7 := Lib.hid (HX6.out.fr hF7 (fun h => h))
            clear hF7 HF6 HA6 HX6
            have x0' := HX7.out.cell 0
            have x1' := HX7.out.cell 1
            have x2' := HX7.out.cell 2
            have x3' := HX7.out.cell 3
            have x4' := HX7.out.cell 4
            have x5' := HX7.out.cell 5
            have x6' := HX7.out.cell 6
            have y0' := HX7.out.frozen 0
            have y1' := HX7.out.frozen 1
            have y2' := HX7.out.frozen 2
            have y3' := HX7.out.frozen 3
            have y4' := HX7.out.frozen 4
            have y5' := HX7.out.frozen 5
            have y6' := HX7.out.frozen 6
            have hlx7 := HX7.out.lt
            have hz1 : ¬ (bs s).size + (⟨#[32]⟩ : ByteArray).size > 9223372036854775807 := by
              have h1 := HSq.out
              rw [bs_size]; show ¬ _ + 1 > _; omega
            have hz2 : ¬ ((bs s) ++ (⟨#[32]⟩ : ByteArray)).size + (bs (Lib.itoa (t.get fc))).size > 9223372036854775807 := by
              have h1 := HSq.out
              have h2 := HLE.out
              rw [ByteArray.size_append, bs_size, bs_size]; show ¬ _ + 1 + _ > _; omega
            simp only [List.getElem?_cons_zero, List.getElem?_cons_succ, ActT.cellsV] at x0' x1' x2' x3' x4' x5' x6'
            go_wp2_with fail
            obtain ⟨hF8, hX8⟩ := store7 w7 R fc x (t.get fc) (HX7.out)
            generalize ((((((w7.setCell ⟨R, 0, none⟩ (.int .i64 (x.set fc (t.get fc)).k)).setCell ⟨R, 1, none⟩ (.int .i64 (x.set fc (t.get fc)).a)).setCell ⟨R, 2, none⟩ (.int .i64 (x.set fc (t.get fc)).b)).setCell ⟨R, 3, none⟩ (.int .i64 (x.set fc (t.get fc)).c)).setCell ⟨R, 4, none⟩ (.int .i64 (x.set fc (t.get fc)).d)).setCell ⟨R, 5, none⟩ (.int .i64 (x.set fc (t.get fc)).n)).setCell ⟨R, 6, none⟩ (.slice none 0 0) = w8 at hF8 hX8 ⊢
            have HF8 := Lib.hid (HF7.out.trans (M := Nob) hF8 (fun k hk h => by have : k = R := h; omega))
            have HA8 := Lib.hid (HA7.out.fr hF8 (fun h => by have : w.heap.size = R := h; omega))
            have HX8 := Lib.hid hX8
            clear hF8 hX8 x0' x1' x2' x3' x4' x5' x6' y0' y1' y2' y3' y4' y5' y6' HF7 HA7 HX7
            refine (HIT.out (t.get fc) HG.out w8).mono ?_
            rintro e w9 ⟨rfl, hF9⟩
            have HF9 := Lib.hid (HF8.out.same hF9)
            have HA9 := Lib.hid (HA8.out.fr hF9 (fun h => h))
            have HX9 := Lib.hid (HX8.out.fr hF9 (fun h => h))
            clear hF9 HF8 HA8 HX8
            go_wp2_with fail
            go_roundg (f.fields.length - (q + 1))
            case measure => omega
            case rel =>
              refine ⟨q + 1, s ++ 32 :: Lib.itoa (t.get fc), x.set fc (t.get fc), rfl, by omega, ?_, by first | rfl | (rw [w64 _ (by omega) (by omega)]; rfl), HYS.out, ?_, HF9.out, HA9.out, HX9.out⟩
              · show Value.string _ = Value.string _
                congr 1
                show bs s ++ bs [32] ++ bs _ = _
                rw [bs_append, bs_append, List.append_assoc]
                rfl
              · have h1 := HSq.out
                have h2 := HLE.out
                rw [Hid, List.length_append, List.length_cons]; omega
        · have hti : ¬ (q : Int) < (bs f.fields).size := by rw [hsz]; omega
          have hlast : printR t m = prtR t m s [] x := by rw [HPq.out, List.drop_eq_nil_of_le (by omega)]
          have HLA := Lib.hid hlast
          have hsm := fun W => refsame_any x t none A 0 m 0 c W
          simp only [ActT.cellsV] at hsm
          have HSM := Lib.hid hsm
          clear hlast HPq hsm
          go_wp2_with fail
          refine (HSM.out _).mono ?_
          rintro e w3 ⟨he, hF3⟩
          have HF3 := Lib.hid (HFq.out.same hF3)
          obtain ⟨b, rfl, HB⟩ : ∃ b : Bool, e = .returned (.bool b) ∧ Hid (b = true ↔ x = t ∧ m = 0) := ⟨_, he, by rw [Hid]; simp⟩
          clear he
          clear hF3 a0 a1 a2 a3 a4 a5 a6 x0' x1' x2' x3' x4' x5' x6'
          cases b with
          | true =>
            go_wp2_with fail
            refine bodyPost_ret (v := .tuple #[.string (bs s), .int .i64 0]) (by simp [results, go_sem]) rfl ⟨by rw [HLA.out, prtR, if_pos (HB.out.1 (by first | rfl | trivial))]; rfl, HF3.out⟩
          | false =>
            go_wp2_with fail
            refine bodyPost_ret (v := .tuple #[.string ⟨#[]⟩, .int .i64 1]) (by simp [results, go_sem]) rfl ⟨by rw [HLA.out, prtR, if_neg (fun h => by have := HB.out.2 h; simp at this)]; rfl, HF3.out⟩
    · have e0 : x0 = ⟨t.k, 0, 0, 0, 0, 0⟩ := by rw [HX0.out, if_neg (by simpa using hk)]
      have e : w1.alloc (.cells #[.int .i64 t.k, .int .i64 0, .int .i64 0, .int .i64 0, .int .i64 0, .int .i64 0, .slice none 0 0] 24) = W2 := by rw [HW2.out, e0]; rfl
      have HE := Lib.hid e
      clear e e0
      go_wp2_with fail
      rw [HE.out]
      clear HE
      clear hk HW2 HX0 d0 d2 HWD
      have HFW := Lib.hid (HF1.out.same HF2.out)
      have HBA := Lib.hid (HB1.out.fr HF2.out (fun h => h))
      clear HB1 HF1 HF2 HF
      generalize w1.heap.size = R at HBX hlo ⊢
      have hRl := HBX.out.lt
      have hwR : w.heap.size < R := hlo
      go_loopg [6, 8] (f.fields.length) (fun n y i W => ∃ (q : Nat) (s : List UInt8) (x : ActT), n = f.fields.length - q ∧ q ≤ f.fields.length ∧ y = .string (bs s) ∧ i = .int .i64 q ∧ Hid (printR t m = prtR t m s (f.fields.drop q) x) ∧ Hid (s.length ≤ 7 + 22 * q) ∧ Hid (Fr Nob w W) ∧ Hid (Blk W w.heap.size [.int .i64 t.k, .int .i64 t.a, .int .i64 t.b, .int .i64 t.c, .int .i64 t.d, .int .i64 t.n, .slice A m c] 24) ∧ Hid (Blk W R (x.cellsV (.slice none 0 0)) 24))
      case atStart => exact ⟨0, f.word, x0, rfl, Nat.zero_le _, rfl, rfl, HP0.out, by have := HFB.out; rw [Hid]; omega, HFW.out, HBA.out, HBX.out⟩
      case round =>
        obtain ⟨q, s, x, rfl, hq, rfl, rfl, HPq, HSq, HFq, HAq, HXq⟩ := hrel
        clear HP0 HFW HBA HBX
        have hsz : ((bs f.fields).size : Int) = f.fields.length := by rw [bs_size]
        have hf4 : f.fields.length ≤ 4 := HFB.out.2.2.2
        have a0 := HAq.out.cell 0
        have a1 := HAq.out.cell 1
        have a2 := HAq.out.cell 2
        have a3 := HAq.out.cell 3
        have a4 := HAq.out.cell 4
        have a5 := HAq.out.cell 5
        have a6 := HAq.out.cell 6
        have x0' := HXq.out.cell 0
        have x1' := HXq.out.cell 1
        have x2' := HXq.out.cell 2
        have x3' := HXq.out.cell 3
        have x4' := HXq.out.cell 4
        have x5' := HXq.out.cell 5
        have x6' := HXq.out.cell 6
        have hla := HAq.out.lt
        have hlx := HXq.out.lt
        simp only [List.getElem?_cons_zero, List.getElem?_cons_succ, ActT.cellsV] at a0 a1 a2 a3 a4 a5 a6 x0' x1' x2' x3' x4' x5' x6'
        by_cases hql : q < f.fields.length
        · have hdf : f.fields.drop q = f.fields[q] :: f.fields.drop (q + 1) := List.drop_eq_getElem_cons hql
          obtain ⟨fc, hfe⟩ : ∃ fc, f.fields[q] = fc := ⟨_, rfl⟩
          have hti : (q : Int) < (bs f.fields).size := by rw [hsz]; omega
          have hPq := HPq.out
          rw [hdf, hfe, prtR] at hPq
          have HP2 := Lib.hid hPq
          clear hPq HPq hdf
          go_wp2_with fail
          go_still_tail 4, (by kernel_rfl)
          change wpList _ _ _ _ _ wr.drew
          generalize hwd : wr.drew = wd
          have hFd : Fr Nob wr wd := by subst hwd; exact (Fr.refl _ _).drew
          have HFd := Lib.hid (HFq.out.same hFd)
          have HAd := Lib.hid (HAq.out.fr hFd (fun h => h))
          have HXd := Lib.hid (HXq.out.fr hFd (fun h => h))
          clear hFd hwd a0 a1 a2 a3 a4 a5 a6 x0' x1' x2' x3' x4' x5' x6' HFq HAq HXq
          have hix : (bs f.fields)[q]'(by rw [bs_size]; exact hql) = fc := by rw [← hfe]; rfl
          have HIX := Lib.hid hix
          clear hix
          go_wp2_with fail
          rw [HIX.out]
          refine (HTG.out fc wd).mono ?_
          rintro e w5 ⟨rfl, hF5⟩
          have HF5 := Lib.hid (HFd.out.same hF5)
          have HA5 := Lib.hid (HAd.out.fr hF5 (fun h => h))
          have HX5 := Lib.hid (HXd.out.fr hF5 (fun h => h))
          clear hF5 HFd HAd HXd
          by_cases hg : bigB (t.get fc) = true
          · have hno : printR t m = none := by rw [HP2.out, if_pos hg]
            have HNO := Lib.hid hno
            have hgg : t.get fc < -999999999 ∨ 999999999 < t.get fc := by
              simp only [bigB, Bool.or_eq_true, decide_eq_true_eq] at hg
              exact hg
            clear hno hg
            generalize t.get fc = nn at hgg
            rcases hgg with hgg | hgg
            · go_wp2_with fail
              refine bodyPost_ret (v := .tuple #[.string ⟨#[]⟩, .int .i64 1]) (by simp [results, go_sem]) rfl ⟨by rw [HNO.out]; rfl, HF5.out⟩
            · have hgn : ¬ nn < -999999999 := by omega
              go_wp2_with fail
              refine bodyPost_ret (v := .tuple #[.string ⟨#[]⟩, .int .i64 1]) (by simp [results, go_sem]) rfl ⟨by rw [HNO.out]; rfl, HF5.out⟩
          · have hg' : bigB (t.get fc) = false := by simpa using hg
            have hr := big_range hg'
            have hyes : printR t m = prtR t m (s ++ 32 :: Lib.itoa (t.get fc)) (f.fields.drop (q + 1)) (x.set fc (t.get fc)) := by rw [HP2.out, if_neg hg]
            have hle := Lib.itoa_length_le (t.get fc) (by omega) (by omega)
            have HYS := Lib.hid hyes
            have HG := Lib.hid hg'
            have HLE := Lib.hid hle
            have hr1 : ¬ t.get fc < -999999999 := by omega
            have hr2 : ¬ 999999999 < t.get fc := by omega
            have hput := fun W => refput_any x none 0 0 fc (t.get fc) W
            simp only [ActT.cellsV] at hput
            have HPUT := Lib.hid hput
            clear hyes hg hg' hr hle hput
            have x0' := HX5.out.cell 0
            have x1' := HX5.out.cell 1
            have x2' := HX5.out.cell 2
            have x3' := HX5.out.cell 3
            have x4' := HX5.out.cell 4
            have x5' := HX5.out.cell 5
            have x6' := HX5.out.cell 6
            have hlx5 := HX5.out.lt
            simp only [List.getElem?_cons_zero, List.getElem?_cons_succ, ActT.cellsV] at x0' x1' x2' x3' x4' x5' x6'
            go_wp2_with fail
            go_still_tail 5, (by kernel_rfl)
            change wpList _ _ _ _ _ w5.drew
            generalize hwd : w5.drew = w6
            have hFd : Fr Nob w5 w6 := by subst hwd; exact (Fr.refl _ _).drew
            have HF6 := Lib.hid (HF5.out.same hFd)
            have HA6 := Lib.hid (HA5.out.fr hFd (fun h => h))
            have HX6 := Lib.hid (HX5.out.fr hFd (fun h => h))
            clear hFd hwd x0' x1' x2' x3' x4' x5' x6' HF5 HA5 HX5
            go_wp2_with fail
            rw [HIX.out]
            refine (HPUT.out w6).mono ?_
            rintro e w7 ⟨rfl, hF7⟩
            have HF7 := Lib.hid (HF6.out.same hF7)
            have HA7 := Lib.hid (HA6.out.fr hF7 (fun h => h))
            have HX7 := Lib.hid (HX6.out.fr hF7 (fun h => h))
            clear hF7 HF6 HA6 HX6
            have x0' := HX7.out.cell 0
            have x1' := HX7.out.cell 1
            have x2' := HX7.out.cell 2
            have x3' := HX7.out.cell 3
            have x4' := HX7.out.cell 4
            have x5' := HX7.out.cell 5
            have x6' := HX7.out.cell 6
            have y0' := HX7.out.frozen 0
            have y1' := HX7.out.frozen 1
            have y2' := HX7.out.frozen 2
            have y3' := HX7.out.frozen 3
            have y4' := HX7.out.frozen 4
            have y5' := HX7.out.frozen 5
            have y6' := HX7.out.frozen 6
            have hlx7 := HX7.out.lt
            have hz1 : ¬ (bs s).size + (⟨#[32]⟩ : ByteArray).size > 9223372036854775807 := by
              have h1 := HSq.out
              rw [bs_size]; show ¬ _ + 1 > _; omega
            have hz2 : ¬ ((bs s) ++ (⟨#[32]⟩ : ByteArray)).size + (bs (Lib.itoa (t.get fc))).size > 9223372036854775807 := by
              have h1 := HSq.out
              have h2 := HLE.out
              rw [ByteArray.size_append, bs_size, bs_size]; show ¬ _ + 1 + _ > _; omega
            simp only [List.getElem?_cons_zero, List.getElem?_cons_succ, ActT.cellsV] at x0' x1' x2' x3' x4' x5' x6'
            go_wp2_with fail
            obtain ⟨hF8, hX8⟩ := store7 w7 R fc x (t.get fc) (HX7.out)
            generalize ((((((w7.setCell ⟨R, 0, none⟩ (.int .i64 (x.set fc (t.get fc)).k)).setCell ⟨R, 1, none⟩ (.int .i64 (x.set fc (t.get fc)).a)).setCell ⟨R, 2, none⟩ (.int .i64 (x.set fc (t.get fc)).b)).setCell ⟨R, 3, none⟩ (.int .i64 (x.set fc (t.get fc)).c)).setCell ⟨R, 4, none⟩ (.int .i64 (x.set fc (t.get fc)).d)).setCell ⟨R, 5, none⟩ (.int .i64 (x.set fc (t.get fc)).n)).setCell ⟨R, 6, none⟩ (.slice none 0 0) = w8 at hF8 hX8 ⊢
            have HF8 := Lib.hid (HF7.out.trans (M := Nob) hF8 (fun k hk h => by have : k = R := h; omega))
            have HA8 := Lib.hid (HA7.out.fr hF8 (fun h => by have : w.heap.size = R := h; omega))
            have HX8 := Lib.hid hX8
            clear hF8 hX8 x0' x1' x2' x3' x4' x5' x6' y0' y1' y2' y3' y4' y5' y6' HF7 HA7 HX7
            refine (HIT.out (t.get fc) HG.out w8).mono ?_
            rintro e w9 ⟨rfl, hF9⟩
            have HF9 := Lib.hid (HF8.out.same hF9)
            have HA9 := Lib.hid (HA8.out.fr hF9 (fun h => h))
            have HX9 := Lib.hid (HX8.out.fr hF9 (fun h => h))
            clear hF9 HF8 HA8 HX8
            go_wp2_with fail
            go_roundg (f.fields.length - (q + 1))
            case measure => omega
            case rel =>
              refine ⟨q + 1, s ++ 32 :: Lib.itoa (t.get fc), x.set fc (t.get fc), rfl, by omega, ?_, by first | rfl | (rw [w64 _ (by omega) (by omega)]; rfl), HYS.out, ?_, HF9.out, HA9.out, HX9.out⟩
              · show Value.string _ = Value.string _
                congr 1
                show bs s ++ bs [32] ++ bs _ = _
                rw [bs_append, bs_append, List.append_assoc]
                rfl
              · have h1 := HSq.out
                have h2 := HLE.out
                rw [Hid, List.length_append, List.length_cons]; omega
        · have hti : ¬ (q : Int) < (bs f.fields).size := by rw [hsz]; omega
          have hlast : printR t m = prtR t m s [] x := by rw [HPq.out, List.drop_eq_nil_of_le (by omega)]
          have HLA := Lib.hid hlast
          have hsm := fun W => refsame_any x t none A 0 m 0 c W
          simp only [ActT.cellsV] at hsm
          have HSM := Lib.hid hsm
          clear hlast HPq hsm
          go_wp2_with fail
          refine (HSM.out _).mono ?_
          rintro e w3 ⟨he, hF3⟩
          have HF3 := Lib.hid (HFq.out.same hF3)
          obtain ⟨b, rfl, HB⟩ : ∃ b : Bool, e = .returned (.bool b) ∧ Hid (b = true ↔ x = t ∧ m = 0) := ⟨_, he, by rw [Hid]; simp⟩
          clear he
          clear hF3 a0 a1 a2 a3 a4 a5 a6 x0' x1' x2' x3' x4' x5' x6'
          cases b with
          | true =>
            go_wp2_with fail
            refine bodyPost_ret (v := .tuple #[.string (bs s), .int .i64 0]) (by simp [results, go_sem]) rfl ⟨by rw [HLA.out, prtR, if_pos (HB.out.1 (by first | rfl | trivial))]; rfl, HF3.out⟩
          | false =>
            go_wp2_with fail
            refine bodyPost_ret (v := .tuple #[.string ⟨#[]⟩, .int .i64 1]) (by simp [results, go_sem]) rfl ⟨by rw [HLA.out, prtR, if_neg (fun h => by have := HB.out.2 h; simp at this)]; rfl, HF3.out⟩
end Go.Proofs.YtdoogkohfjkefaaDoor
