/- Chapter 22: the program's 'Act'. -/
import Derived.Test.YtdoogkohfjkefaaDoorScAct
import Derived.Deep.RegionHeld3
namespace Go.Proofs.YtdoogkohfjkefaaDoor
open Go.RowKit
/-- The end of a function that hands an act and a number back, the act out of the block of its result. -/
theorem ret_act {fn : Func} {i j : Nat} (hfn : fn.results = #[.cell i 24, .tmp j]) {R : Ending → World → Prop} {a : Act} {W : World} {B : Nat} {c0 c1 c2 c3 c4 c5 c6 ev : Value} (hi : a.tmps[i]?.getD undef = .pointer (some ⟨B, 0, none⟩)) (hj : a.tmps[j]?.getD undef = ev) (hd : a.defers = [])
    (hb : Blk W B [c0, c1, c2, c3, c4, c5, c6] 24) (hR : R (.returned (.tuple #[.agg #[c0, c1, c2, c3, c4, c5, c6], ev])) W) : bodyPost Tryd.prog fn R .ret a W := by
  have q0 := hb.cell 0
  have q1 := hb.cell 1
  have q2 := hb.cell 2
  have q3 := hb.cell 3
  have q4 := hb.cell 4
  have q5 := hb.cell 5
  have q6 := hb.cell 6
  simp only [List.getElem?_cons_zero, List.getElem?_cons_succ] at q0 q1 q2 q3 q4 q5 q6
  exact bodyPost_ret (v := .tuple #[.agg #[c0, c1, c2, c3, c4, c5, c6], ev]) (by simp [results, hfn, go_sem, q0, q1, q2, q3, q4, q5, q6, hi, hj]) hd hR
theorem Blk.set7 {W : World} {B : Nat} {t : TypeId} {x0 x1 x2 x3 x4 x5 x6 : Value} (h : Blk W B [x0, x1, x2, x3, x4, x5, x6] t) (a b c d e f g : Value) :
    Blk (((((((W.setCell ⟨B, 0, none⟩ a).setCell ⟨B, 1, none⟩ b).setCell ⟨B, 2, none⟩ c).setCell ⟨B, 3, none⟩ d).setCell ⟨B, 4, none⟩ e).setCell ⟨B, 5, none⟩ f).setCell ⟨B, 6, none⟩ g) B [a, b, c, d, e, f, g] t :=
  ((((((h.set 0 a).set 1 b).set 2 c).set 3 d).set 4 e).set 5 f).set 6 g
theorem fr_store7 (w : World) (B : Nat) (a b c d e f g : Value) : Fr (One B) w (((((((w.setCell ⟨B, 0, none⟩ a).setCell ⟨B, 1, none⟩ b).setCell ⟨B, 2, none⟩ c).setCell ⟨B, 3, none⟩ d).setCell ⟨B, 4, none⟩ e).setCell ⟨B, 5, none⟩ f).setCell ⟨B, 6, none⟩ g) :=
  ((((((((Fr.refl (One B) w).setCell (p := ⟨B, 0, none⟩) (.inl rfl) a).setCell (p := ⟨B, 1, none⟩) (.inl rfl) b).setCell (p := ⟨B, 2, none⟩) (.inl rfl) c).setCell (p := ⟨B, 3, none⟩) (.inl rfl) d).setCell (p := ⟨B, 4, none⟩) (.inl rfl) e).setCell (p := ⟨B, 5, none⟩) (.inl rfl) f).setCell (p := ⟨B, 6, none⟩) (.inl rfl) g)
theorem forms_few (f : FormT) (h : f ∈ formsT) : f.fields.length ≤ 4 := by
  have : formsT.all (fun f => decide (f.fields.length ≤ 4)) = true := by decide
  simpa using List.all_eq_true.1 this f h
set_option maxRecDepth 100000 in
set_option maxHeartbeats 8000000 in
theorem act_any (s : ByteArray) (hs : s.size ≤ 4000000) (w : World) (h : SW w) :
    Calls Tryd.prog 5 #[.string s] w fun e w' => e = .returned (.tuple #[.agg (actT (actF s.data.toList)).cells.toArray, .int .i64 (actE (actF s.data.toList))]) ∧ Fr Nob w w' := by
  obtain ⟨S, hS⟩ : ∃ S, s.data.toList = S := ⟨_, rfl⟩
  have hSl : S.length = s.size := by rw [← hS]; simp
  obtain ⟨ws, hws⟩ : ∃ ws, wordsL S = ws := ⟨_, rfl⟩
  have hne : ws ≠ [] := by rw [← hws]; exact wordsL_ne S
  have hfew : ws.length ≤ s.size + 1 := by rw [← hws, ← hSl]; exact words_few S
  have hshort : ∀ u ∈ ws, u.length ≤ s.size := by rw [← hws, ← hSl]; exact words_short S
  have hact : actF S = fillO (formsT.find? (fitsF ws)) ws := by unfold actF; rw [hws]
  have HACT := Lib.hid hact
  have HW := Lib.hid (And.intro hne (And.intro hfew hshort))
  have HSW := Lib.hid h
  obtain ⟨x0, xs, hx⟩ : ∃ x0 xs, ws = x0 :: xs := by
    cases ws with
    | nil => exact absurd rfl hne
    | cons a b => exact ⟨a, b, rfl⟩
  have hfa := (Fr.refl Nob w).alloc (.cells #[.int .i64 0, .int .i64 0, .int .i64 0, .int .i64 0, .int .i64 0, .int .i64 0, .slice none 0 0] 24)
  have hbo := Blk.new w [.int .i64 0, .int .i64 0, .int .i64 0, .int .i64 0, .int .i64 0, .int .i64 0, .slice none 0 0] 24
  have hsz0 : (w.alloc (.cells #[.int .i64 0, .int .i64 0, .int .i64 0, .int .i64 0, .int .i64 0, .int .i64 0, .slice none 0 0] 24)).heap.size = w.heap.size + 1 := by simp
  have hsp := split_any s (by omega)
  rw [hS, hws] at hsp
  rw [hS]
  have HSP := Lib.hid hsp
  have HX := Lib.hid hx
  clear hact hne hfew hshort h hws hSl hS hsp hx
  go_enter Tryd.func5, Tryd.ntmps5
  go_wp2_with fail
  generalize w.alloc (.cells #[.int .i64 0, .int .i64 0, .int .i64 0, .int .i64 0, .int .i64 0, .int .i64 0, .slice none 0 0] 24) = w0 at hfa hbo hsz0
  refine (HSP.out w0 (HSW.out.fr hfa)).mono ?_
  rintro e w1 ⟨rfl, hw1⟩
  have hfs : Fr Nob w0 w1 := by rw [hw1]; exact (Fr.refl Nob w0).alloc _
  have hbw : Blk w1 w0.heap.size (ws.map (fun u => Value.string (bs u))) 9 := by rw [hw1]; exact Blk.new w0 _ _
  rw [hsz0] at hbw ⊢
  clear hw1
  go_wp2_with fail
  refine (forms_any w1).mono ?_
  rintro e w2 ⟨rfl, hF2⟩
  have hixf := index_form
  obtain ⟨FA, hFA⟩ : ∃ FA, formsC.toArray = FA := ⟨_, rfl⟩
  rw [hFA] at hixf ⊢
  have HIX := Lib.hid hixf
  have HF := Lib.hid ((hfa.same hfs).same hF2)
  have HBO := Lib.hid ((hbo.fr hfs (fun h => h)).fr hF2 (fun h => h))
  have HBW := Lib.hid (hbw.fr hF2 (fun h => h))
  clear hfa hfs hF2 hbo hbw hixf hFA hsz0
  go_wp2_with fail
  go_loopg [15] 15 (fun n i wr => ∃ k : Nat, n = 15 - k ∧ k ≤ 15 ∧ i = .int .i64 k ∧ Hid (∀ f ∈ formsT.take k, fitsF ws f = false) ∧ Hid (Fr Nob w wr) ∧ Hid (Blk wr w.heap.size [.int .i64 0, .int .i64 0, .int .i64 0, .int .i64 0, .int .i64 0, .int .i64 0, .slice none 0 0] 24) ∧ Hid (Blk wr (w.heap.size + 1) (ws.map (fun u => Value.string (bs u))) 9))
  case atStart => exact ⟨0, rfl, by omega, rfl, by simp [Hid], HF.out, HBO.out, HBW.out⟩
  case round =>
    obtain ⟨k, rfl, hk, rfl, HN, HFr, HBo, HBw⟩ := hrel
    by_cases hlt : k < 15
    · have ht : ((k : Int) < 15) := by omega
      obtain ⟨f, hf, hix⟩ := HIX.out k hlt
      have HFM := Lib.hid hf
      clear hf
      have c0 : wr.cell? ⟨w.heap.size + 1, 0, none⟩ = some (.string (bs x0)) := by
        have := HBw.out.cell 0
        rw [HX.out] at this
        exact this
      have hlw := HBw.out.lt
      have hwl : 0 < ws.length := by rw [HX.out]; simp
      have hwli : (0 : Int) < (ws.length : Int) := by omega
      have hfz : (bs f.fields).size = f.fields.length := bs_size _
      have hfl : f.fields.length ≤ 4 := forms_few f (List.mem_of_getElem? HFM.out)
      have hweq : ((bs f.word).toList == (bs x0).toList) = decide (f.word = x0) := by rw [bs_toList, bs_toList, Bool.eq_iff_iff]; simp
      have hlen := HW.out.2.1
      have hkn : Hid (fitsF ws f = false) ∧ ((bs f.word).toList == (bs x0).toList) = false ∨ Hid (fitsF ws f = false) ∧ ((bs f.word).toList == (bs x0).toList) = true ∧ ((ws.length : Int) == ((f.fields.length : Int) + 1)) = false ∨ Hid (fitsF ws f = true) ∧ ((bs f.word).toList == (bs x0).toList) = true ∧ ((ws.length : Int) == ((f.fields.length : Int) + 1)) = true := by
        rw [hweq]
        have e : fitsF ws f = (decide (x0 = f.word) && decide (ws.length = f.fields.length + 1)) := by unfold fitsF; rw [HX.out]; simp
        by_cases h1 : f.word = x0
        · by_cases h2 : ws.length = f.fields.length + 1
          · right; right; exact ⟨by rw [Hid, e]; simp [h1, h2], by simpa using h1, by simp; omega⟩
          · right; left; exact ⟨by rw [Hid, e]; simp [h2], by simpa using h1, by simp; omega⟩
        · left; exact ⟨by rw [Hid, e]; simp [Ne.symm h1], by simpa using h1⟩
      clear hweq
      rcases hkn with ⟨HNo, j1⟩ | ⟨HNo, j1, j2⟩ | ⟨HYes, j1, j2⟩
      · go_wp2_with fail
        go_quiet (fail)
        go_wp2_with fail
        go_roundg (15 - (k + 1))
        case measure => omega
        case rel =>
          refine ⟨k + 1, rfl, by omega, by first | rfl | (rw [w64 _ (by omega) (by omega)]; rfl), ?_, (HFr.out.alloc _).drewN _, (HBo.out.alloc _).drewN _, (HBw.out.alloc _).drewN _⟩
          intro g hg
          rw [List.take_add_one, HFM.out] at hg
          rcases List.mem_append.1 hg with hg | hg
          · exact HN.out g hg
          · rw [show g = f by simpa using hg]; exact HNo.out
      · go_wp2_with fail
        go_quiet (fail)
        go_wp2_with fail
        go_roundg (15 - (k + 1))
        case measure => omega
        case rel =>
          refine ⟨k + 1, rfl, by omega, by first | rfl | (rw [w64 _ (by omega) (by omega)]; rfl), ?_, (HFr.out.alloc _).drewN _, (HBo.out.alloc _).drewN _, (HBw.out.alloc _).drewN _⟩
          intro g hg
          rw [List.take_add_one, HFM.out] at hg
          rcases List.mem_append.1 hg with hg | hg
          · exact HN.out g hg
          · rw [show g = f by simpa using hg]; exact HNo.out
      · have hfind : formsT.find? (fitsF ws) = some f := by
          have hlf : k < formsT.length := (List.getElem?_eq_some_iff.1 HFM.out).1
          rw [List.find?_eq_some_iff_append]
          refine ⟨HYes.out, formsT.take k, formsT.drop (k + 1), ?_, ?_⟩
          · have hgf : formsT[k] = f := (List.getElem?_eq_some_iff.1 HFM.out).2
            rw [← hgf, ← List.drop_eq_getElem_cons hlf, List.take_append_drop]
          · intro g hg; rw [HN.out g hg]; rfl
        have hres : actF S = fillF ⟨f.k, 0, f.b, 0, 0, 0⟩ f.fields ws.tail := by rw [HACT.out, hfind]; rfl
        have hlw2 : ws.length = f.fields.length + 1 := by simp at j2; omega
        have HRES := Lib.hid (And.intro hres hlw2)
        clear hfind hres hlw2
        go_wp2_with fail
        go_quiet (fail)
        have hbf := ((Blk.new wr [.string (bs f.word), .int .i64 f.k, .int .i64 f.b, .string (bs f.fields)] 41).drewN nq).alloc (.cells #[.int .i64 f.k, .int .i64 0, .int .i64 f.b, .int .i64 0, .int .i64 0, .int .i64 0, .slice none 0 0] 24)
        have hba : Blk (((wr.alloc (.cells #[.string (bs f.word), .int .i64 f.k, .int .i64 f.b, .string (bs f.fields)] 41)).drewN nq).alloc (.cells #[.int .i64 f.k, .int .i64 0, .int .i64 f.b, .int .i64 0, .int .i64 0, .int .i64 0, .slice none 0 0] 24)) (wr.heap.size + 1) (ActT.mk f.k 0 f.b 0 0 0).cells 24 :=
          Blk.new_at ((wr.alloc (.cells #[.string (bs f.word), .int .i64 f.k, .int .i64 f.b, .string (bs f.fields)] 41)).drewN nq) [.int .i64 f.k, .int .i64 0, .int .i64 f.b, .int .i64 0, .int .i64 0, .int .i64 0, .slice none 0 0] 24 (wr.heap.size + 1) (by simp [World.drewN])
        have hfA : Fr Nob wr (((wr.alloc (.cells #[.string (bs f.word), .int .i64 f.k, .int .i64 f.b, .string (bs f.fields)] 41)).drewN nq).alloc (.cells #[.int .i64 f.k, .int .i64 0, .int .i64 f.b, .int .i64 0, .int .i64 0, .int .i64 0, .slice none 0 0] 24)) := (((Fr.refl Nob wr).alloc _).drewN _).alloc _
        have hlwr : w.heap.size ≤ wr.heap.size := HFr.out.size
        go_wp2_with fail
        · have HBa := Lib.hid hba
          have HBO2 := HBo.out.fr hfA (fun h => h)
          have hres : actF S = some ⟨f.k, 0, f.b, 0, 0, 0⟩ := by
            obtain ⟨h1, h2⟩ := HRES.out
            have hf0 : f.fields = [] := List.length_eq_zero_iff.1 (by omega)
            have hw0 : ws.tail = [] := List.length_eq_zero_iff.1 (by rw [List.length_tail]; omega)
            rw [h1, hf0, hw0]
            rfl
          have HR2 := Lib.hid hres
          generalize hW0 : (((wr.alloc (.cells #[.string (bs f.word), .int .i64 f.k, .int .i64 f.b, .string (bs f.fields)] 41)).drewN nq).alloc (.cells #[.int .i64 f.k, .int .i64 0, .int .i64 f.b, .int .i64 0, .int .i64 0, .int .i64 0, .slice none 0 0] 24)) = W0 at hbf hba hfA HBa HBO2
          have d0 := HBO2.cell 0
          have d1 := HBO2.cell 1
          have d2 := HBO2.cell 2
          have d3 := HBO2.cell 3
          have d4 := HBO2.cell 4
          have d5 := HBO2.cell 5
          have d6 := HBO2.cell 6
          have f0 := HBO2.frozen 0
          have f1 := HBO2.frozen 1
          have f2 := HBO2.frozen 2
          have f3 := HBO2.frozen 3
          have f4 := HBO2.frozen 4
          have f5 := HBO2.frozen 5
          have f6 := HBO2.frozen 6
          have hlo := HBO2.lt
          simp only [List.getElem?_cons_zero, List.getElem?_cons_succ] at d0 d1 d2 d3 d4 d5 d6
          have a0 := HBa.out.cell 0
          have a1 := HBa.out.cell 1
          have a2 := HBa.out.cell 2
          have a3 := HBa.out.cell 3
          have a4 := HBa.out.cell 4
          have a5 := HBa.out.cell 5
          have a6 := HBa.out.cell 6
          have hla := HBa.out.lt
          simp only [ActT.cells, List.getElem?_cons_zero, List.getElem?_cons_succ] at a0 a1 a2 a3 a4 a5 a6
          have HBO3 := Lib.hid HBO2
          have HFA := Lib.hid hfA
          clear hbf hba hfA hW0 HBO2 hix hres j1 j2
          go_loopg [41] 0 (fun n i W => n = 0 ∧ i = .int .i64 0 ∧ W = W0)
          case atStart => exact ⟨rfl, rfl, rfl⟩
          case round =>
            obtain ⟨rfl, rfl, rfl⟩ := hrel
            go_wp2_with fail
            rw [HR2.out]
            refine ret_act (ev := .int .i64 0) rfl rfl rfl rfl (HBO3.out.set7 _ _ _ _ _ _ _) ⟨rfl, ?_⟩
            exact (HFr.out.same HFA.out).trans (fr_store7 _ w.heap.size _ _ _ _ _ _ _) (fun k hk h => by have : k = w.heap.size := h; omega)
        · generalize (((wr.alloc (.cells #[.string (bs f.word), .int .i64 f.k, .int .i64 f.b, .string (bs f.fields)] 41)).drewN nq).alloc (.cells #[.int .i64 f.k, .int .i64 0, .int .i64 f.b, .int .i64 0, .int .i64 0, .int .i64 0, .slice none 0 0] 24)) = W0 at hbf hba hfA
          have HBF := Lib.hid hbf
          have HBA := Lib.hid hba
          have HFA := Lib.hid hfA
          have HLW := Lib.hid hlwr
          clear hbf hba hfA hlwr hix j1 j2
          go_loopg [41] (ws.length) (fun n i W => ∃ (j : Nat) (t : ActT), n = ws.length - j ∧ j + 1 ≤ ws.length ∧ i = .int .i64 j ∧ Hid (actF S = fillF t (f.fields.drop j) (ws.drop (j + 1))) ∧ Hid (Fr Nob wr W) ∧ Hid (Blk W wr.heap.size [.string (bs f.word), .int .i64 f.k, .int .i64 f.b, .string (bs f.fields)] 41) ∧ Hid (Blk W (wr.heap.size + 1) t.cells 24))
          case atStart => exact ⟨0, _, rfl, by omega, rfl, by rw [Hid, HRES.out.1, List.drop_one]; rfl, HFA.out, HBF.out, HBA.out⟩
          case round =>
            obtain ⟨j, t, rfl, hj, rfl, HFI, HFj, HBf, HBa⟩ := hrel
            have HBO2 := HBo.out.fr HFj.out (fun h => h)
            have d0 := HBO2.cell 0
            have d1 := HBO2.cell 1
            have d2 := HBO2.cell 2
            have d3 := HBO2.cell 3
            have d4 := HBO2.cell 4
            have d5 := HBO2.cell 5
            have d6 := HBO2.cell 6
            have f0 := HBO2.frozen 0
            have f1 := HBO2.frozen 1
            have f2 := HBO2.frozen 2
            have f3 := HBO2.frozen 3
            have f4 := HBO2.frozen 4
            have f5 := HBO2.frozen 5
            have f6 := HBO2.frozen 6
            have hlo := HBO2.lt
            simp only [List.getElem?_cons_zero, List.getElem?_cons_succ] at d0 d1 d2 d3 d4 d5 d6
            have HBO3 := Lib.hid HBO2
            clear HBO2
            by_cases hjl : j + 1 < ws.length
            · have hti : ((j : Int) < ((ws.length - 1 : Nat) : Int)) := by omega
              have hfj : j < f.fields.length := by have := HRES.out.2; omega
              have hmem : ws[j + 1] ∈ ws := List.getElem_mem hjl
              have hxs := HW.out.2.2 _ hmem
              have hdw : ws.drop (j + 1) = ws[j + 1] :: ws.drop (j + 1 + 1) := List.drop_eq_getElem_cons hjl
              have hdf : f.fields.drop j = f.fields[j] :: f.fields.drop (j + 1) := List.drop_eq_getElem_cons hfj
              have hcw : wr.cell? ⟨w.heap.size + 1, 1 + j, none⟩ = some (.string (bs ws[j + 1])) := by
                have := (HBw.out.fr HFj.out (fun h => h)).cell (1 + j)
                rw [List.getElem?_map, Nat.add_comm 1 j, List.getElem?_eq_getElem hjl] at this
                rw [Nat.add_comm 1 j]
                exact this
              have hlw2 := (HBw.out.fr HFj.out (fun h => h)).lt
              obtain ⟨x, hxe⟩ : ∃ x, ws[j + 1] = x := ⟨_, rfl⟩
              obtain ⟨fc, hfe⟩ : ∃ fc, f.fields[j] = fc := ⟨_, rfl⟩
              have hfb : ∀ h, (bs f.fields)[j]'h = fc := fun h => by rw [← hfe]; simp [bs]; rfl
              have hfi := HFI.out
              rw [hdw, hdf, hxe, hfe] at hfi
              rw [hxe] at hcw hxs
              have hfi2 : actF S = match numF x with | none => none | some n => fillF (t.set fc n) (f.fields.drop (j + 1)) (ws.drop (j + 1 + 1)) := by rw [hfi]; rfl
              have HFI2 := Lib.hid hfi2
              have hfd3 := HBf.out.cell 3
              have hlf := HBf.out.lt
              simp only [List.getElem?_cons_zero, List.getElem?_cons_succ] at hfd3
              have hjs : j < (bs f.fields).size := by rw [bs_size]; exact hfj
              have hxsz : (bs x).size ≤ 4611686018427387904 := by rw [bs_size]; omega
              clear hmem hdw hdf hxe hfe hfi hfi2 hxs HFI
              go_wp2_with fail
              refine (number_any (bs x) hxsz wr).mono ?_
              rintro e w3 ⟨rfl, hF3⟩
              have HBO4 := HBO3.out.fr hF3 (fun h => h)
              have HF3 := Lib.hid (HFj.out.same hF3)
              have HBf3 := Lib.hid (HBf.out.fr hF3 (fun h => h))
              have HBa3 := Lib.hid (HBa.out.fr hF3 (fun h => h))
              rw [bs_list]
              clear hF3 d0 d1 d2 d3 d4 d5 d6 f0 f1 f2 f3 f4 f5 f6 hlo hcw hfd3 hlf hxsz hlw2
              cases hnf : numF x with
              | none =>
                have hres : actF S = none := by rw [HFI2.out, hnf]
                have HR2 := Lib.hid hres
                have d0 := HBO4.cell 0
                have d1 := HBO4.cell 1
                have d2 := HBO4.cell 2
                have d3 := HBO4.cell 3
                have d4 := HBO4.cell 4
                have d5 := HBO4.cell 5
                have d6 := HBO4.cell 6
                have f0 := HBO4.frozen 0
                have f1 := HBO4.frozen 1
                have f2 := HBO4.frozen 2
                have f3 := HBO4.frozen 3
                have f4 := HBO4.frozen 4
                have f5 := HBO4.frozen 5
                have f6 := HBO4.frozen 6
                have hlo := HBO4.lt
                simp only [List.getElem?_cons_zero, List.getElem?_cons_succ] at d0 d1 d2 d3 d4 d5 d6
                have HBO5 := Lib.hid HBO4
                clear hres hnf HBO4
                simp only [numV, Option.getD_none, Option.isSome_none]
                go_wp2_with fail
                rw [HR2.out]
                refine ret_act (ev := .int .i64 4) rfl rfl rfl rfl (HBO5.out.set7 _ _ _ _ _ _ _) ⟨rfl, ?_⟩
                exact (HFr.out.same HF3.out).trans (fr_store7 _ w.heap.size _ _ _ _ _ _ _) (fun k hk h => by have : k = w.heap.size := h; omega)
              | some n =>
                have hfi : actF S = fillF (t.set fc n) (f.fields.drop (j + 1)) (ws.drop (j + 1 + 1)) := by rw [HFI2.out, hnf]
                have HFI3 := Lib.hid hfi
                have hfd3 := HBf3.out.cell 3
                have hlf := HBf3.out.lt
                have hla := HBa3.out.lt
                have hcc := HBa3.out.cell (offA fc)
                rw [cells_get] at hcc
                have hcf := HBa3.out.frozen (offA fc)
                simp only [List.getElem?_cons_zero, List.getElem?_cons_succ] at hfd3
                clear hfi hnf HBO4 HFI2
                simp only [numV, Option.getD_some, Option.isSome_some]
                go_wp2_with fail
                refine (field_any _ fc w3).mono ?_
                rintro e w4 ⟨rfl, rfl⟩
                go_wp2_with fail
                go_roundg (ws.length - (j + 1))
                case measure => omega
                case rel =>
                  refine ⟨j + 1, t.set fc n, rfl, by omega, by first | rfl | (rw [w64 _ (by omega) (by omega)]; rfl), HFI3.out, ?_, ?_, ?_⟩
                  · exact HF3.out.setCell (p := ⟨_, offA fc, none⟩) (.inr (Nat.le_succ _)) _
                  · exact HBf3.out.far (p := ⟨_, offA fc, none⟩) (Nat.ne_of_lt (Nat.lt_succ_self _)) _
                  · rw [Hid, ← cells_set]
                    exact HBa3.out.set _ _
            · have hti : ¬ ((j : Int) < ((ws.length - 1 : Nat) : Int)) := by omega
              have hres : actF S = some t := by
                rw [HFI.out, List.drop_eq_nil_of_le (by have := HRES.out.2; omega), List.drop_eq_nil_of_le (by omega)]
                rfl
              have HR2 := Lib.hid hres
              have a0 := HBa.out.cell 0
              have a1 := HBa.out.cell 1
              have a2 := HBa.out.cell 2
              have a3 := HBa.out.cell 3
              have a4 := HBa.out.cell 4
              have a5 := HBa.out.cell 5
              have a6 := HBa.out.cell 6
              have hla := HBa.out.lt
              simp only [ActT.cells, List.getElem?_cons_zero, List.getElem?_cons_succ] at a0 a1 a2 a3 a4 a5 a6
              clear hres
              go_wp2_with fail
              rw [HR2.out]
              refine ret_act (ev := .int .i64 0) rfl rfl rfl rfl (HBO3.out.set7 _ _ _ _ _ _ _) ⟨rfl, ?_⟩
              exact (HFr.out.same HFj.out).trans (fr_store7 _ w.heap.size _ _ _ _ _ _ _) (fun k hk h => by have : k = w.heap.size := h; omega)
    · have ht : ¬ ((k : Int) < 15) := by omega
      have hall : formsT.take k = formsT := List.take_of_length_le (by show 15 ≤ k; omega)
      have hno : actF S = none := by
        rw [HACT.out, List.find?_eq_none.2 (fun g hg => by
          have := HN.out g (by rw [hall]; exact hg)
          rw [this]; simp)]
        rfl
      have HNO := Lib.hid hno
      have d0 := HBo.out.cell 0
      have d1 := HBo.out.cell 1
      have d2 := HBo.out.cell 2
      have d3 := HBo.out.cell 3
      have d4 := HBo.out.cell 4
      have d5 := HBo.out.cell 5
      have d6 := HBo.out.cell 6
      have f0 := HBo.out.frozen 0
      have f1 := HBo.out.frozen 1
      have f2 := HBo.out.frozen 2
      have f3 := HBo.out.frozen 3
      have f4 := HBo.out.frozen 4
      have f5 := HBo.out.frozen 5
      have f6 := HBo.out.frozen 6
      have hlo := HBo.out.lt
      simp only [List.getElem?_cons_zero, List.getElem?_cons_succ] at d0 d1 d2 d3 d4 d5 d6
      clear hall hno
      go_wp2_with fail
      rw [HNO.out]
      refine ret_act (ev := .int .i64 4) rfl rfl rfl rfl (HBo.out.set7 _ _ _ _ _ _ _) ⟨rfl, ?_⟩
      exact HFr.out.trans (fr_store7 _ w.heap.size _ _ _ _ _ _ _) (fun k hk h => by have : k = w.heap.size := h; omega)
end Go.Proofs.YtdoogkohfjkefaaDoor
