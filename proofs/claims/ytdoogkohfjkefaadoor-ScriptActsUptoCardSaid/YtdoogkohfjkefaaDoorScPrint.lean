/- Chapter 22: the program's 'Print'. -/
import Derived.Test.YtdoogkohfjkefaaDoorScActW
import Derived.Test.YtdoogkohfjkefaaDoorScItoa
import Derived.Deep.RegionHeld3
import Derived.Lib.ConvBytes
namespace Go.Proofs.YtdoogkohfjkefaaDoor
open Go.RowKit
def selF (t : ActT) (f : FormT) : Bool := decide (f.k = t.k) && (decide (f.k ≠ 0) || decide (f.b = t.b))
def ActT.cellsV (t : ActT) (v : Value) : List Value := [.int .i64 t.k, .int .i64 t.a, .int .i64 t.b, .int .i64 t.c, .int .i64 t.d, .int .i64 t.n, v]
theorem cellsV_set (t : ActT) (v : Value) (f : UInt8) (n : Int) : (t.cellsV v).set (offA f) (.int .i64 n) = (t.set f n).cellsV v := by
  unfold offA ActT.set
  split
  · rfl
  · split
    · rfl
    · split <;> rfl
theorem cellsV_get (t : ActT) (v : Value) (f : UInt8) : (t.cellsV v)[offA f]? = some (.int .i64 (t.get f)) := by
  unfold offA ActT.get
  split
  · rfl
  · split
    · rfl
    · split <;> rfl
/-- A line of words and numbers; none: a number is too great, or something is left. -/
def prtF (m : Nat) : List UInt8 → List UInt8 → ActT → Option (List UInt8)
  | s, [], r => if r.a = 0 ∧ r.b = 0 ∧ r.c = 0 ∧ r.d = 0 ∧ r.n = 0 ∧ m = 0 then some s else none
  | s, c :: fs, r => if bigB (r.get c) then none else prtF m (s ++ 32 :: Lib.itoa (r.get c)) fs (r.set c 0)
def printO (t : ActT) (m : Nat) : Option FormT → Option (List UInt8)
  | none => none
  | some f => prtF m f.word f.fields { t with k := 0, b := wrap64 (t.b - f.b) }
def printF (t : ActT) (m : Nat) : Option (List UInt8) := printO t m (formsT.find? (selF t))
def prtT (o : Option (List UInt8)) : ByteArray := bs (o.getD [])
def prtE (o : Option (List UInt8)) : Int := if o.isSome then 0 else 1
structure ActT.Ok (t : ActT) : Prop where
  a : -9223372036854775808 ≤ t.a ∧ t.a ≤ 9223372036854775807
  b : -9223372036854775808 ≤ t.b ∧ t.b ≤ 9223372036854775807
  c : -9223372036854775808 ≤ t.c ∧ t.c ≤ 9223372036854775807
  d : -9223372036854775808 ≤ t.d ∧ t.d ≤ 9223372036854775807
  n : -9223372036854775808 ≤ t.n ∧ t.n ≤ 9223372036854775807
/-- The numbers of an act that are printed lie in an int. -/
def RngA (t : ActT) : Prop := ∀ f, -9223372036854775808 ≤ t.get f ∧ t.get f ≤ 9223372036854775807
theorem ActT.Ok.rng {t : ActT} (h : t.Ok) (b : Int) : RngA { t with k := 0, b := b } := fun f => by
  unfold ActT.get
  split
  · exact h.a
  · split
    · exact h.c
    · split
      · exact h.d
      · exact h.n
theorem RngA.set {t : ActT} (h : RngA t) (f : UInt8) : RngA (t.set f 0) := fun g => by
  have h0 := h g
  unfold ActT.get ActT.set at *
  split
  · rename_i e; rw [if_pos e] at h0; split
    · simp
    · split
      · exact h0
      · split <;> exact h0
  · rename_i e; rw [if_neg e] at h0; split
    · rename_i e2; rw [if_pos e2] at h0; split
      · exact h0
      · split
        · simp
        · split <;> exact h0
    · rename_i e2; rw [if_neg e2] at h0; split
      · rename_i e3; rw [if_pos e3] at h0; split
        · exact h0
        · split
          · exact h0
          · split
            · simp
            · exact h0
      · rename_i e3; rw [if_neg e3] at h0; split
        · exact h0
        · split
          · exact h0
          · split
            · exact h0
            · simp
theorem forms_b (f : FormT) (h : f ∈ formsT) : 0 ≤ f.b ∧ f.b ≤ 7 ∧ f.word.length ≤ 7 ∧ f.fields.length ≤ 4 := by
  have : formsT.all (fun f => decide (0 ≤ f.b) && decide (f.b ≤ 7) && decide (f.word.length ≤ 7) && decide (f.fields.length ≤ 4)) = true := by decide
  have h2 := List.all_eq_true.1 this f h
  simp only [Bool.and_eq_true, decide_eq_true_eq] at h2
  exact ⟨h2.1.1.1, h2.1.1.2, h2.1.2, h2.2⟩
set_option maxRecDepth 100000 in
set_option maxHeartbeats 8000000 in
theorem print_any (t : ActT) (hok : t.Ok) (A : Option Addr) (m c : Nat) (w : World) (h : SW w) :
    Calls Tryd.prog 7 #[.agg (t.cellsV (.slice A m c)).toArray] w fun e w' => e = .returned (.tuple #[.string (prtT (printF t m)), .int .i64 (prtE (printF t m))]) ∧ Fr Nob w w' := by
  have HSW := Lib.hid h
  have hfa := (Fr.refl Nob w).alloc (.cells #[.int .i64 t.k, .int .i64 t.a, .int .i64 t.b, .int .i64 t.c, .int .i64 t.d, .int .i64 t.n, .slice A m c] 24)
  have hbo := Blk.new w [.int .i64 t.k, .int .i64 t.a, .int .i64 t.b, .int .i64 t.c, .int .i64 t.d, .int .i64 t.n, .slice A m c] 24
  clear h
  simp only [ActT.cellsV]
  go_enter Tryd.func7, Tryd.ntmps7
  go_wp2_with fail
  generalize w.alloc (.cells #[.int .i64 t.k, .int .i64 t.a, .int .i64 t.b, .int .i64 t.c, .int .i64 t.d, .int .i64 t.n, .slice A m c] 24) = w0 at hfa hbo
  refine (forms_any w0).mono ?_
  rintro e w2 ⟨rfl, hF2⟩
  have hixf := index_form
  obtain ⟨FA, hFA⟩ : ∃ FA, formsC.toArray = FA := ⟨_, rfl⟩
  rw [hFA] at hixf ⊢
  have HIX := Lib.hid hixf
  have HF := Lib.hid (hfa.same hF2)
  have HBO := Lib.hid (hbo.fr hF2 (fun h => h))
  clear hfa hF2 hbo hixf hFA
  go_wp2_with fail
  have hcv := fun (f : FormT) (W : World) => Lib.run_convert_string_bytes (P := Tryd.prog) W 9 22 5 (bs f.fields) Tryd.underlying9 Tryd.underlying22 Tryd.underlying5
  have HCV := Lib.hid hcv
  have HOK := Lib.hid hok
  clear hcv hok
  go_loopg [12] 15 (fun n i wr => ∃ k : Nat, n = 15 - k ∧ k ≤ 15 ∧ i = .int .i64 k ∧ Hid (∀ f ∈ formsT.take k, selF t f = false) ∧ Hid (Fr Nob w wr) ∧ Hid (Blk wr w.heap.size [.int .i64 t.k, .int .i64 t.a, .int .i64 t.b, .int .i64 t.c, .int .i64 t.d, .int .i64 t.n, .slice A m c] 24))
  case atStart => exact ⟨0, rfl, by omega, rfl, by simp [Hid], HF.out, HBO.out⟩
  case round =>
    obtain ⟨k, rfl, hk, rfl, HN, HFr, HBo⟩ := hrel
    have d0 := HBo.out.cell 0
    have d1 := HBo.out.cell 1
    have d2 := HBo.out.cell 2
    have d3 := HBo.out.cell 3
    have d4 := HBo.out.cell 4
    have d5 := HBo.out.cell 5
    have d6 := HBo.out.cell 6
    have hlo := HBo.out.lt
    simp only [List.getElem?_cons_zero, List.getElem?_cons_succ] at d0 d1 d2 d3 d4 d5 d6
    by_cases hlt : k < 15
    · have ht : ((k : Int) < 15) := by omega
      obtain ⟨f, hf, hix⟩ := HIX.out k hlt
      have HFM := Lib.hid hf
      clear hf
      have hkn : Hid (selF t f = false) ∧ (f.k != t.k) = true ∨ Hid (selF t f = false) ∧ (f.k != t.k) = false ∧ (f.k == 0) = true ∧ (f.b != t.b) = true ∨ Hid (selF t f = true) ∧ (f.k != t.k) = false ∧ (f.k == 0) = false ∨ Hid (selF t f = true) ∧ (f.k != t.k) = false ∧ (f.k == 0) = true ∧ (f.b != t.b) = false := by
        by_cases h1 : f.k = t.k
        · by_cases h2 : f.k = 0
          · by_cases h3 : f.b = t.b
            · right; right; right; exact ⟨by simp [Hid, selF, h1, h3], by simpa using h1, by simpa using h2, by simpa using h3⟩
            · right; left; exact ⟨by simp only [Hid, selF]; simp [h2, h3], by simpa using h1, by simpa using h2, by simpa using h3⟩
          · right; right; left; exact ⟨by simp only [Hid, selF]; simp [h1]; exact .inl (fun h => h2 (h1.trans h)), by simpa using h1, by simpa using h2⟩
        · left; exact ⟨by simp [Hid, selF, h1], by simpa using h1⟩
      rcases hkn with ⟨HNo, j1⟩ | ⟨HNo, j1, j2, j3⟩ | ⟨HYes, j1, j2⟩ | ⟨HYes, j1, j2, j3⟩
      · go_wp2_with fail
        go_roundg (15 - (k + 1))
        case measure => omega
        case rel =>
          refine ⟨k + 1, rfl, by omega, by first | rfl | (rw [w64 _ (by omega) (by omega)]; rfl), ?_, HFr.out.alloc _, HBo.out.alloc _⟩
          intro g hg
          rw [List.take_add_one, HFM.out] at hg
          rcases List.mem_append.1 hg with hg | hg
          · exact HN.out g hg
          · rw [show g = f by simpa using hg]; exact HNo.out
      · go_wp2_with fail
        go_roundg (15 - (k + 1))
        case measure => omega
        case rel =>
          refine ⟨k + 1, rfl, by omega, by first | rfl | (rw [w64 _ (by omega) (by omega)]; rfl), ?_, HFr.out.alloc _, HBo.out.alloc _⟩
          intro g hg
          rw [List.take_add_one, HFM.out] at hg
          rcases List.mem_append.1 hg with hg | hg
          · exact HN.out g hg
          · rw [show g = f by simpa using hg]; exact HNo.out
      all_goals
        have hfind : formsT.find? (selF t) = some f := by
          have hlf : k < formsT.length := (List.getElem?_eq_some_iff.1 HFM.out).1
          rw [List.find?_eq_some_iff_append]
          refine ⟨HYes.out, formsT.take k, formsT.drop (k + 1), ?_, ?_⟩
          · have hgf : formsT[k] = f := (List.getElem?_eq_some_iff.1 HFM.out).2
            rw [← hgf, ← List.drop_eq_getElem_cons hlf, List.take_append_drop]
          · intro g hg; rw [HN.out g hg]; rfl
        have hpf : printF t m = prtF m f.word f.fields { t with k := 0, b := wrap64 (t.b - f.b) } := by unfold printF; rw [hfind]; rfl
        have HPF := Lib.hid hpf
        have hfb := forms_b f (List.mem_of_getElem? HFM.out)
        have hob := HOK.out.b
        clear hfind hpf
        go_wp2_with fail
        have hW2 : Fr Nob wr ((wr.alloc (.cells #[.string (bs f.word), .int .i64 f.k, .int .i64 f.b, .string (bs f.fields)] 41)).alloc (.cells #[.int .i64 t.k, .int .i64 t.a, .int .i64 t.b, .int .i64 t.c, .int .i64 t.d, .int .i64 t.n, .slice A m c] 24)) := ((Fr.refl Nob wr).alloc _).alloc _
        have hR2 : Blk ((wr.alloc (.cells #[.string (bs f.word), .int .i64 f.k, .int .i64 f.b, .string (bs f.fields)] 41)).alloc (.cells #[.int .i64 t.k, .int .i64 t.a, .int .i64 t.b, .int .i64 t.c, .int .i64 t.d, .int .i64 t.n, .slice A m c] 24)) (wr.heap.size + 1) (t.cellsV (.slice A m c)) 24 := Blk.new_at _ _ _ _ (by simp)
        have hS2 : Blk ((wr.alloc (.cells #[.string (bs f.word), .int .i64 f.k, .int .i64 f.b, .string (bs f.fields)] 41)).alloc (.cells #[.int .i64 t.k, .int .i64 t.a, .int .i64 t.b, .int .i64 t.c, .int .i64 t.d, .int .i64 t.n, .slice A m c] 24)) wr.heap.size [.string (bs f.word), .int .i64 f.k, .int .i64 f.b, .string (bs f.fields)] 41 := (Blk.new wr _ _).alloc _
        generalize (wr.alloc (.cells #[.string (bs f.word), .int .i64 f.k, .int .i64 f.b, .string (bs f.fields)] 41)).alloc (.cells #[.int .i64 t.k, .int .i64 t.a, .int .i64 t.b, .int .i64 t.c, .int .i64 t.d, .int .i64 t.n, .slice A m c] 24) = W2 at hW2 hR2 hS2 ⊢
        have HR2 := Lib.hid hR2
        have HS2 := Lib.hid hS2
        have HB2 := Lib.hid (HBo.out.fr hW2 (fun h => h))
        have HW2 := Lib.hid hW2
        have x1 := (HB2.out.cell 2)
        have x2 := HS2.out.cell 2
        have y1 := HR2.out.frozen 0
        have y2 := HR2.out.frozen 2
        have y3 := HR2.out.cell 0
        have y4 := HR2.out.cell 2
        clear hW2 hR2 hS2 d0 d1 d2 d3 d4 d5 d6
        simp only [List.getElem?_cons_zero, List.getElem?_cons_succ, ActT.cellsV] at x1 x2 y3 y4
        go_region
        generalize hT : ((W2.setCell ⟨wr.heap.size + 1, 0, none⟩ (.int .i64 0)).setCell ⟨wr.heap.size + 1, 2, none⟩ (.int .i64 (wrap64 (t.b - f.b)))).drew = W3
        have hF3 : Fr Nob w W3 := by
          rw [← hT]
          exact (((HFr.out.same HW2.out).setCell (.inr (by show w.heap.size ≤ wr.heap.size + 1; omega)) _).setCell (.inr (by show w.heap.size ≤ wr.heap.size + 1; omega)) _).drew
        have hR3 : Blk W3 (wr.heap.size + 1) (ActT.cellsV { t with k := 0, b := wrap64 (t.b - f.b) } (.slice A m c)) 24 := by
          rw [← hT]
          exact ((HR2.out.set 0 _).set 2 _).drew
        have hS3 : Blk W3 wr.heap.size [.string (bs f.word), .int .i64 f.k, .int .i64 f.b, .string (bs f.fields)] 41 := by
          rw [← hT]
          exact ((HS2.out.far (p := ⟨wr.heap.size + 1, 0, none⟩) (by show wr.heap.size ≠ wr.heap.size + 1; omega) _).far (p := ⟨wr.heap.size + 1, 2, none⟩) (by show wr.heap.size ≠ wr.heap.size + 1; omega) _).drew
        have hR0 : RngA { t with k := 0, b := wrap64 (t.b - f.b) } := HOK.out.rng _
        generalize hr : ({ t with k := 0, b := wrap64 (t.b - f.b) } : ActT) = r0 at hR3 hR0
        have HPR := Lib.hid (hr ▸ HPF.out : printF t m = prtF m f.word f.fields r0)
        have HF3 := Lib.hid hF3
        have HR3 := Lib.hid hR3
        have HRG := Lib.hid hR0
        have x5 := hS3.cell 3
        have hlt3 : wr.heap.size + 1 < W3.heap.size := hR3.lt
        have hcv3 := HCV.out f W3
        simp only [List.getElem?_cons_zero, List.getElem?_cons_succ] at x5
        clear hT hF3 hR3 hR0 hr hS3 x1 x2 y1 y2 y3 y4 hob
        generalize hRe : wr.heap.size + 1 = R at HR3 hlt3 ⊢
        have hwR : w.heap.size ≤ R := by omega
        go_wp2_with fail
        have hb4 : ∀ q, q < (bs f.fields).size → (Lib.bytesWorld W3 5 (bs f.fields)).cell? ⟨W3.heap.size, q, none⟩ = some (.int .u8 ((bs f.fields).data.toList.getD q 0).toNat) := fun q hq => Lib.bytesWorld_cell _ _ _ _ hq
        have hf4 : Fr Nob W3 (Lib.bytesWorld W3 5 (bs f.fields)) := ⟨rfl, rfl, rfl, by rw [Lib.bytesWorld_size]; omega, fun q hq _ => Lib.bytesWorld_at_old _ _ _ _ hq⟩
        have hl4 : W3.heap.size < (Lib.bytesWorld W3 5 (bs f.fields)).heap.size := by rw [Lib.bytesWorld_size]; omega
        generalize Lib.bytesWorld W3 5 (bs f.fields) = W4 at hb4 hf4 hl4 ⊢
        generalize grownCap W3 (bs f.fields).size 0 5 = cap
        have HB4 := Lib.hid hb4
        have HR4 := Lib.hid (HR3.out.fr hf4 (fun h => h))
        have HF4 := Lib.hid (HF3.out.same hf4)
        have hfl : (bs f.fields).size = f.fields.length := bs_size _
        have hfw : f.word.length ≤ 7 := hfb.2.2.1
        have hf4' : f.fields.length ≤ 4 := hfb.2.2.2
        have HFW := Lib.hid hfw
        have HFL := Lib.hid hfl
        clear hb4 hf4 hcv3 x5 hfb HR2 HS2 HB2 HW2 hRe hfw hfl
        generalize W3.heap.size = Bq at HB4 hl4 hlt3 ⊢
        go_loopg [6, 46] (f.fields.length) (fun n x i W => ∃ (q : Nat) (s : List UInt8) (r : ActT), n = f.fields.length - q ∧ q ≤ f.fields.length ∧ x = .string (bs s) ∧ i = .int .i64 q ∧ Hid (printF t m = prtF m s (f.fields.drop q) r) ∧ Hid (RngA r) ∧ Hid (s.length ≤ 7 + 22 * q) ∧ Hid (Fr Nob w W) ∧ Hid (Fr (One R) W4 W) ∧ Hid (Blk W R (r.cellsV (.slice A m c)) 24))
        case atStart => exact ⟨0, f.word, r0, rfl, Nat.zero_le _, rfl, rfl, HPR.out, HRG.out, by have := HFW.out; rw [Hid]; omega, HF4.out, Fr.refl _ _, HR4.out⟩
        case round =>
          obtain ⟨q, s, r, rfl, hq, rfl, rfl, HPq, HRq, HSq, HFq, HGq, HBq⟩ := hrel
          by_cases hql : q < f.fields.length
          · have hti : ((q : Int) < ((bs f.fields).size : Int)) := by have := HFL.out; omega
            have hdf : f.fields.drop q = f.fields[q] :: f.fields.drop (q + 1) := List.drop_eq_getElem_cons hql
            obtain ⟨fc, hfe⟩ : ∃ fc, f.fields[q] = fc := ⟨_, rfl⟩
            have hcb : wr.cell? ⟨Bq, q, none⟩ = some (.int .u8 fc.toNat) := by
              have h1 := HB4.out q (by have := HFL.out; omega)
              rw [HGq.out.cell (p := ⟨Bq, q, none⟩) hl4 (by show ¬ Bq = R; omega), h1, bs_list, ← hfe]
              simp [List.getD, hql]
            have hPq := HPq.out
            rw [hdf, hfe] at hPq
            have HP2 := Lib.hid hPq
            have hlW := HBq.out.lt
            have hcx := HBq.out.cell (offA fc)
            rw [cellsV_get] at hcx
            have hfx := HBq.out.frozen (offA fc)
            have hrx := HRq.out fc
            clear hdf hfe hPq HPq
            go_wp2_with fail
            refine (field_any R fc wr).mono ?_
            rintro e w5 ⟨rfl, rfl⟩
            go_wp2_with fail
            refine (itoa_any (r.get fc) hrx.1 hrx.2 w5 (HSW.out.fr HFq.out)).mono ?_
            rintro e w6 ⟨rfl, hF6⟩
            have hit : (Lib.itoa (r.get fc)).length ≤ 21 := Lib.itoa_length_le _ hrx.1 hrx.2
            have HIT := Lib.hid hit
            have hlB5 : Bq < w5.heap.size := cell_lt hcb
            have HF6 := Lib.hid hF6
            have HFq6 := Lib.hid (HFq.out.same hF6)
            have HGq6 := Lib.hid (HGq.out.none hF6)
            have HB6 := Lib.hid (HBq.out.fr hF6 (fun h => h))
            have hlW6 := HB6.out.lt
            have hcx6 := HB6.out.cell (offA fc)
            rw [cellsV_get] at hcx6
            clear hF6 hcx hfx hcb hit hlW
            go_wp2_with fail
            refine (strings_TrimPrefix (bs (Lib.itoa (r.get fc))) ⟨#[45]⟩ w6).mono ?_
            rintro e w7 ⟨he7, rfl⟩
            have hbg := itoa_big (r.get fc)
            have hsz : (⟨(Lib.trimPrefix (bs (Lib.itoa (r.get fc))).data.toList [45]).toArray⟩ : ByteArray).size = (bareL (Lib.itoa (r.get fc))).length := by
              rw [bs_list]; exact bs_size _
            generalize (⟨(Lib.trimPrefix (bs (Lib.itoa (r.get fc))).data.toList [45]).toArray⟩ : ByteArray) = tb at hsz he7
            subst he7
            by_cases hg : bigB (r.get fc) = true
            · have hg9 : (9 : Int) < (tb.size : Int) := by
                rw [hg] at hbg; rw [hsz]; have := of_decide_eq_true hbg; omega
              have hno : printF t m = none := by rw [HP2.out, prtF, if_pos hg]
              have HNO := Lib.hid hno
              clear hbg hsz hg hno
              go_wp2_with fail
              refine bodyPost_ret (v := .tuple #[.string ⟨#[]⟩, .int .i64 1]) (by simp [results, go_sem]) rfl ⟨by rw [HNO.out]; rfl, HFq6.out⟩
            · have hg9 : ¬ (9 : Int) < (tb.size : Int) := by
                have hg' : bigB (r.get fc) = false := by simpa using hg
                rw [hg'] at hbg; rw [hsz]; have := of_decide_eq_false hbg; omega
              have hyes : printF t m = prtF m (s ++ 32 :: Lib.itoa (r.get fc)) (f.fields.drop (q + 1)) (r.set fc 0) := by rw [HP2.out, prtF, if_neg hg]
              have HYS := Lib.hid hyes
              clear hbg hsz hg hyes
              go_wp2_with fail
              refine (itoa_any (r.get fc) hrx.1 hrx.2 w7 (HSW.out.fr HFq6.out)).mono ?_
              rintro e w8 ⟨rfl, hF8⟩
              have HFq8 := Lib.hid (HFq6.out.same hF8)
              have HGq8 := Lib.hid (HGq6.out.none hF8)
              have HB8 := Lib.hid (HB6.out.fr hF8 (fun h => h))
              have hlW8 := HB8.out.lt
              have hcx8 := HB8.out.cell (offA fc)
              rw [cellsV_get] at hcx8
              have hfx8 := HB8.out.frozen (offA fc)
              have hz1 : ¬ (⟨#[32]⟩ : ByteArray).size + (bs (Lib.itoa (r.get fc))).size > 9223372036854775807 := by
                have h2 := HIT.out
                rw [bs_size]; show ¬ 1 + _ > _; omega
              have hz2 : ¬ (bs s).size + ((⟨#[32]⟩ : ByteArray) ++ bs (Lib.itoa (r.get fc))).size > 9223372036854775807 := by
                have h1 := HSq.out
                have h2 := HIT.out
                rw [ByteArray.size_append, bs_size, bs_size]; show ¬ _ + (1 + _) > _; omega
              clear hF8 hg9 hcx6 hlW6
              go_wp2_with fail
              go_roundg (f.fields.length - (q + 1))
              case measure => omega
              case rel =>
                refine ⟨q + 1, s ++ 32 :: Lib.itoa (r.get fc), r.set fc 0, rfl, by omega, ?_, by first | rfl | (rw [w64 _ (by omega) (by omega)]; rfl), HYS.out, HRq.out.set fc, ?_, ?_, ?_, ?_⟩
                · show Value.string _ = Value.string _
                  congr 1
                · have h1 := HSq.out
                  have h2 := HIT.out
                  rw [Hid, List.length_append, List.length_cons]; omega
                · exact HFq8.out.setCell (p := ⟨R, offA fc, none⟩) (.inr hwR) _
                · exact HGq8.out.setCell (p := ⟨R, offA fc, none⟩) (.inl rfl) _
                · rw [Hid, ← cellsV_set]
                  exact HB8.out.set _ _
          · have hti : ¬ ((q : Int) < ((bs f.fields).size : Int)) := by have := HFL.out; omega
            have hlast : printF t m = prtF m s [] r := by rw [HPq.out, List.drop_eq_nil_of_le (by omega)]
            have HLA := Lib.hid hlast
            have e0 := HBq.out.cell 0
            have e1 := HBq.out.cell 1
            have e2 := HBq.out.cell 2
            have e3 := HBq.out.cell 3
            have e4 := HBq.out.cell 4
            have e5 := HBq.out.cell 5
            have e6 := HBq.out.cell 6
            have hlW := HBq.out.lt
            simp only [ActT.cellsV, List.getElem?_cons_zero, List.getElem?_cons_succ] at e0 e1 e2 e3 e4 e5 e6
            clear hlast
            go_wp2_with fail
            all_goals first
              | refine bodyPost_ret (v := .tuple #[.string ⟨#[]⟩, .int .i64 1]) (by simp [results, go_sem]) rfl ⟨by rw [HLA.out, prtF, if_neg (by omega)]; rfl, HFq.out⟩
              | refine bodyPost_ret (v := .tuple #[.string (bs s), .int .i64 0]) (by simp [results, go_sem]) rfl ⟨by rw [HLA.out, prtF, if_pos (by omega)]; rfl, HFq.out⟩
    · have ht : ¬ ((k : Int) < 15) := by omega
      have hall : formsT.take k = formsT := List.take_of_length_le (by show 15 ≤ k; omega)
      have hno : printF t m = none := by
        unfold printF
        rw [List.find?_eq_none.2 (fun g hg => by
          have := HN.out g (by rw [hall]; exact hg)
          rw [this]; simp)]
        rfl
      have HNO := Lib.hid hno
      clear hall hno
      go_wp2_with fail
      refine bodyPost_ret (v := .tuple #[.string ⟨#[]⟩, .int .i64 1]) (by simp [results, go_sem]) rfl ⟨by rw [HNO.out]; rfl, HFr.out⟩
end Go.Proofs.YtdoogkohfjkefaaDoor
