/- 'Parse'. -/
import Derived.Test.YtgmjgflifgjpmaaDoorExprWhole
import Derived.Test.YtgmjgflifgjpmaaDoorExprAs
namespace Go.Proofs.YtgmjgflifgjpmaaDoor
open Go.RowKit
/-- The variable errors.errorType is laid. -/
def HG (w : World) : Prop := w.cell? ⟨0, 0, none⟩ = some (.iface 84 (.agg #[.pointer (some ⟨2, 48, none⟩)]))
theorem HG.fr {w w' : World} (h : HG w) {M : Nat → Prop} (hf : Fr M w w') (hM : ¬ M 0) : HG w' := by
  have h' : w.cell? ⟨0, 0, none⟩ = _ := h
  exact (hf.cell (p := ⟨0, 0, none⟩) (cell_lt h') hM).trans h'
def emptyT : Tree := .node 0 ⟨#[]⟩ []
def parseW (n : Nat) : Whole → Tree × Int × Int
  | .ok x => (x, n, 0)
  | .err i => (emptyT, i, 4)
/-- What 'Parse' tells. -/
def parseF (s : ByteArray) : Tree × Int × Int := if 200 < s.size then (emptyT, 0, 2) else parseW s.size (wholeF s.size s.data.toList)
/-- The end of a function that hands a tree and two more back, the tree out of the block of its result. -/
theorem ret_tree3 {fn : Func} {i j k : Nat} (hfn : fn.results = #[.cell i 24, .tmp j, .tmp k]) {R : Ending → World → Prop} {a : Act} {W : World} {B : Nat} {c0 c1 c2 ev fv : Value} (hi : a.tmps[i]?.getD undef = .pointer (some ⟨B, 0, none⟩)) (hj : a.tmps[j]?.getD undef = ev) (hk : a.tmps[k]?.getD undef = fv) (hd : a.defers = [])
    (hb : Blk W B [c0, c1, c2] 24) (hR : R (.returned (.tuple #[.agg #[c0, c1, c2], ev, fv])) W) : bodyPost Tryd.prog fn R .ret a W := by
  have q0 := hb.cell 0
  have q1 := hb.cell 1
  have q2 := hb.cell 2
  simp only [List.getElem?_cons_zero, List.getElem?_cons_succ] at q0 q1 q2
  exact bodyPost_ret (v := .tuple #[.agg #[c0, c1, c2], ev, fv]) (by simp [results, hfn, go_sem, q0, q1, q2, hi, hj, hk]) hd hR
set_option maxRecDepth 100000 in
set_option maxHeartbeats 4000000 in
theorem parse_any (s : ByteArray) (w : World) (hg : HG w) :
    Calls Tryd.prog 9 #[.string s] w fun e w' => (∃ cs, e = .returned (.tuple #[.agg cs.toArray, .int .i64 (parseF s).2.1, .int .i64 (parseF s).2.2]) ∧ ERep (fun k => k < w.heap.size) w' (parseF s).1 cs) ∧ Fr Nob w w' := by
  have HGG := Lib.hid hg
  have h0 := cell_lt hg
  clear hg
  by_cases hs : 200 < s.size
  · have hp : parseF s = (emptyT, 0, 2) := by unfold parseF; rw [if_pos hs]
    have HP := Lib.hid hp
    have ht : ((s.size : Int) > 200) := by omega
    clear hp hs
    go_enter Tryd.func9, Tryd.ntmps9
    go_wp2_with fail
    rw [HP.out]
    refine ret_tree3 (ev := .int .i64 0) (fv := .int .i64 2) rfl rfl rfl rfl rfl (Blk.new w [.int .i64 0, .string ⟨#[]⟩, .slice none 0 0] 24) ⟨⟨_, rfl, ?_⟩, (Fr.refl Nob w).alloc _⟩
    exact ERep.empty _ _ _ _
  · have hp : parseF s = parseW s.size (wholeF s.size s.data.toList) := by unfold parseF; rw [if_neg hs]
    have HP := Lib.hid hp
    have ht : ¬ ((s.size : Int) > 200) := by omega
    have hs2 : s.size ≤ 200 := by omega
    have hlen : s.data.toList.length = s.size := by simp
    have hbt := Blk.new (w.alloc (.cells #[.int .i64 0, .string ⟨#[]⟩, .slice none 0 0] 24)) [.string s, .int .i64 0] 46
    have HS := Lib.hid (And.intro hs2 hlen)
    clear hp hs hs2 hlen
    go_enter Tryd.func9, Tryd.ntmps9
    go_wp2_with fail
    have hT : Tx ((w.alloc (.cells #[.int .i64 0, .string ⟨#[]⟩, .slice none 0 0] 24)).alloc (.cells #[.string s, .int .i64 0] 46)) (w.heap.size + 1) s s.data.toList := by
      obtain ⟨h1, h2⟩ := HS.out
      refine ⟨?_, by omega, ?_⟩
      · have e : ((s.size : Int) - (s.data.toList.length : Int)) = 0 := by omega
        rw [e]
        exact Blk.new_at _ [.string s, .int .i64 0] _ _ (by simp)
      · rw [h2, Nat.sub_self, List.drop_zero]
    refine (whole_any (w.heap.size + 1) s HS.out.1 _ hT).mono ?_
    rintro e w1 ⟨hO, hF1⟩
    have hb0 := ((Blk.new w [.int .i64 0, .string ⟨#[]⟩, .slice none 0 0] 24).alloc (.cells #[.string s, .int .i64 0] 46)).fr hF1 (fun h => by have : w.heap.size = w.heap.size + 1 := h; omega)
    have hFw : Fr Nob w w1 := (((Fr.refl Nob w).alloc (.cells #[.int .i64 0, .string ⟨#[]⟩, .slice none 0 0] 24)).alloc (.cells #[.string s, .int .i64 0] 46)).trans hF1 (fun k hk h => by have : k = w.heap.size + 1 := h; omega)
    have hsz : w.heap.size + 2 ≤ w1.heap.size := by have := hF1.size; simp at this; omega
    clear hT hbt
    cases hW : wholeF s.size s.data.toList with
    | ok x =>
      rw [hW] at hO
      obtain ⟨cs, rfl, hx⟩ := hO
      obtain ⟨A, c, css, rfl, hc, hR, hE⟩ := hx.open_
      have d0 := hb0.cell 0
      have d1 := hb0.cell 1
      have d2 := hb0.cell 2
      have f0 := hb0.frozen 0
      have f1 := hb0.frozen 1
      have f2 := hb0.frozen 2
      simp only [List.getElem?_cons_zero, List.getElem?_cons_succ] at d0 d1 d2
      have hl := hb0.lt
      have HB0 := Lib.hid hb0
      have HF1 := Lib.hid hFw
      have HX := Lib.hid hx
      have HW := Lib.hid hW
      clear hb0 hF1 hFw hx hR hE hW
      go_wp2_with fail
      refine (as_nil _ _).mono ?_
      rintro e w2 ⟨rfl, hw2⟩
      subst hw2
      go_wp2_with fail
      rw [HP.out, HW.out]
      have hsa : ((w.alloc (Obj.cells #[.int .i64 0, .string ⟨#[]⟩, .slice none 0 0] 24)).alloc (Obj.cells #[.string s, .int .i64 0] 46)).heap.size = w.heap.size + 2 := by simp
      have hF2 : Fr (One w.heap.size) w1 (((((w1.setCell { block := w.heap.size, off := 0 } (.int .i64 x.k)).setCell { block := w.heap.size, off := 1 } (.string x.name)).setCell { block := w.heap.size, off := 2 } (.slice A x.l.length c)).alloc (.cells #[.int .i64 x.k, .string x.name, .slice A x.l.length c] 24)).alloc (.cells #[.pointer none] 51)) := ((fr_store3 w1 w.heap.size _ _ _).alloc _).alloc _
      refine ret_tree3 (ev := .int .i64 s.size) (fv := .int .i64 0) rfl rfl rfl rfl rfl (((((HB0.out.set 0 _).set 1 _).set 2 _).alloc _).alloc _) ⟨⟨_, rfl, ?_⟩, ?_⟩
      · have h1 := ERep.fr hF2 (fun k _ hk => by have : k = w.heap.size := hk; show k < _; omega) _ _ HX.out
        refine ERep.mono (fun k hk => ?_) _ _ h1
        show k < _
        omega
      · exact HF1.out.trans hF2 (fun k hk h => by have : k = w.heap.size := h; omega)
    | err n =>
      rw [hW] at hO
      obtain ⟨cs, bf, rfl, ⟨x, hx⟩, hbf, hbl⟩ := hO
      obtain ⟨A, c, css, rfl, hc, hR, hE⟩ := hx.open_
      have d0 := hb0.cell 0
      have d1 := hb0.cell 1
      have d2 := hb0.cell 2
      have f0 := hb0.frozen 0
      have f1 := hb0.frozen 1
      have f2 := hb0.frozen 2
      simp only [List.getElem?_cons_zero, List.getElem?_cons_succ] at d0 d1 d2
      have hl := hb0.lt
      have hlb := hbf.lt
      have hsa : ((w.alloc (Obj.cells #[.int .i64 0, .string ⟨#[]⟩, .slice none 0 0] 24)).alloc (Obj.cells #[.string s, .int .i64 0] 46)).heap.size = w.heap.size + 2 := by simp
      rw [hsa] at hbl
      have HB0 := Lib.hid hb0
      have HF1 := Lib.hid hFw
      have HBF := Lib.hid hbf
      have HW := Lib.hid hW
      clear hb0 hF1 hFw hx hR hE hW hbf hsa
      go_wp2_with fail
      have hfA : Fr Nob w1 ((w1.alloc (.cells #[.int .i64 x.k, .string x.name, .slice A x.l.length c] 24)).alloc (.cells #[.pointer none] 51)) := ((Fr.refl _ _).alloc _).alloc _
      have hbA := Blk.new_at (w1.alloc (.cells #[.int .i64 x.k, .string x.name, .slice A x.l.length c] 24)) [.pointer none] 51 (w1.heap.size + 1) (by simp)
      generalize hA : (w1.alloc (.cells #[.int .i64 x.k, .string x.name, .slice A x.l.length c] 24)).alloc (.cells #[.pointer none] 51) = wA at hfA hbA
      have ht0 := hbA.cell 0
      have hf0 := hbA.frozen 0
      simp only [List.getElem?_cons_zero] at ht0
      refine (as_hit ⟨bf, 0, none⟩ ⟨w1.heap.size + 1, 0, none⟩ (.pointer none) wA ((HGG.out.fr HF1.out (fun h => h)).fr hfA (fun h => h)) ht0 hf0).mono ?_
      rintro e W ⟨rfl, hW⟩
      have hFA2 : Fr (One (w1.heap.size + 1)) wA W := by
        rw [hW]
        exact ((((Fr.refl (One (w1.heap.size + 1)) wA).alloc _).alloc _).alloc _).alloc _ |>.setCell (p := ⟨w1.heap.size + 1, 0, none⟩) (.inl rfl) _
      have hF1W : Fr Nob w1 W := hfA.trans hFA2 (fun k hk h => by have : k = w1.heap.size + 1 := h; omega)
      have htW : Blk W (w1.heap.size + 1) [.pointer (some ⟨bf, 0, none⟩)] 51 := by
        rw [hW]
        exact ((((hbA.alloc _).alloc _).alloc _).alloc _).set 0 _
      clear d0 d1 d2 f0 f1 f2
      have hbW := HB0.out.fr hF1W (fun h => h)
      have hfW := HBF.out.fr hF1W (fun h => h)
      have d0 := hbW.cell 0
      have d1 := hbW.cell 1
      have d2 := hbW.cell 2
      have f0 := hbW.frozen 0
      have f1 := hbW.frozen 1
      have f2 := hbW.frozen 2
      have g0 := hfW.cell 0
      have t0 := htW.cell 0
      simp only [List.getElem?_cons_zero, List.getElem?_cons_succ] at d0 d1 d2 g0 t0
      have hlW := hbW.lt
      have hlf := hfW.lt
      have hlt := htW.lt
      have HBW := Lib.hid hbW
      have HFW := Lib.hid (HF1.out.same hF1W)
      clear hfA hbA hA ht0 hf0 hW hFA2 hF1W htW hbW hfW
      go_wp2_with fail
      go_region
      all_goals go_wp2_with fail
      all_goals rw [HP.out, HW.out]
      all_goals refine ret_tree3 (ev := .int .i64 n) (fv := .int .i64 4) rfl rfl rfl rfl rfl (((HBW.out.set 0 _).set 1 _).set 2 _).drew ⟨⟨_, rfl, ERep.empty _ _ _ _⟩, ?_⟩
      all_goals exact HFW.out.trans (fr_store3 W w.heap.size _ _ _).drew (fun k hk h => by have : k = w.heap.size := h; omega)
end Go.Proofs.YtgmjgflifgjpmaaDoor
