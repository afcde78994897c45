/- A part of the proof for chapter 10: ExprParse, ExprOpen, Row, Blk, Ready, Reg, RegN, RegC, Set, Mach, MachR; no conditions. -/
import Derived.Test.YtldcffonfidbcaaGreatDoorY06
import Derived.Test.YtldcffonfidbcaaGreatDoorY07
import Derived.Test.YtldcffonfidbcaaGreatDoorY01
import Derived.ChangeSlices
import Derived.Deep.RegionHeld3
import Derived.BigQuiet
import Derived.Test.YtldcffonfidbcaaGreatDoorY03
import Derived.Laws.IdiomRangeMap
import Derived.StillTailTactics
/- 'Parse'. -/
namespace Go.Proofs.YtldcffonfidbcaaGreatDoor
open Go.RowKit
/-- The variable errors.errorType is laid. -/
def HG (w : World) : Prop := w.cell? ⟨0, 0, none⟩ = some (.iface 262 (.agg #[.pointer (some ⟨1, 142, none⟩)]))
theorem HG.fr {w w' : World} (h : HG w) {M : Nat → Prop} (hf : Fr M w w') (hM : ¬ M 0) : HG w' := by
  have h' : w.cell? ⟨0, 0, none⟩ = _ := h
  exact (hf.cell (p := ⟨0, 0, none⟩) (cell_lt h') hM).trans h'
def emptyT : Tree := .node 0 ⟨#[]⟩ []
def parseW (n : Nat) : Whole → Tree × Int × Int
  | .ok x => (x, n, 0)
  | .err i => (emptyT, i, 4)
/-- What 'Parse' tells. -/
def parseF (s : ByteArray) : Tree × Int × Int := if 200 < s.size then (emptyT, 0, 2) else parseW s.size (wholeF s.size s.data.toList)
/-- The end of a function that hands a tree and two more back, the tree out of the block of its result. -/
theorem ret_tree3 {fn : Func} {i j k : Nat} (hfn : fn.results = #[.cell i 82, .tmp j, .tmp k]) {R : Ending → World → Prop} {a : Act} {W : World} {B : Nat} {c0 c1 c2 ev fv : Value} (hi : a.tmps[i]?.getD undef = .pointer (some ⟨B, 0, none⟩)) (hj : a.tmps[j]?.getD undef = ev) (hk : a.tmps[k]?.getD undef = fv) (hd : a.defers = [])
    (hb : Blk W B [c0, c1, c2] 82) (hR : R (.returned (.tuple #[.agg #[c0, c1, c2], ev, fv])) W) : bodyPost Tryz.prog fn R .ret a W := by
  have q0 := hb.cell 0
  have q1 := hb.cell 1
  have q2 := hb.cell 2
  simp only [List.getElem?_cons_zero, List.getElem?_cons_succ] at q0 q1 q2
  exact bodyPost_ret (v := .tuple #[.agg #[c0, c1, c2], ev, fv]) (by simp [results, hfn, go_sem, q0, q1, q2, hi, hj, hk]) hd hR
set_option maxRecDepth 100000 in
set_option maxHeartbeats 4000000 in
theorem parse_any (s : ByteArray) (w : World) (hg : HG w) :
    Calls Tryz.prog 55 #[.string s] w fun e w' => (∃ cs, e = .returned (.tuple #[.agg cs.toArray, .int .i64 (parseF s).2.1, .int .i64 (parseF s).2.2]) ∧ ERep (fun k => k < w.heap.size) w' (parseF s).1 cs) ∧ Fr Nob w w' := by
  have HGG := Lib.hid hg
  have h0 := cell_lt hg
  clear hg
  by_cases hs : 200 < s.size
  · have hp : parseF s = (emptyT, 0, 2) := by unfold parseF; rw [if_pos hs]
    have HP := Lib.hid hp
    have ht : ((s.size : Int) > 200) := by omega
    clear hp hs
    go_enter Tryz.func55, Tryz.ntmps55
    go_wp2_with fail
    rw [HP.out]
    refine ret_tree3 (ev := .int .i64 0) (fv := .int .i64 2) rfl rfl rfl rfl rfl (Blk.new w [.int .i64 0, .string ⟨#[]⟩, .slice none 0 0] 82) ⟨⟨_, rfl, ?_⟩, (Fr.refl Nob w).alloc _⟩
    exact ERep.empty _ _ _ _
  · have hp : parseF s = parseW s.size (wholeF s.size s.data.toList) := by unfold parseF; rw [if_neg hs]
    have HP := Lib.hid hp
    have ht : ¬ ((s.size : Int) > 200) := by omega
    have hs2 : s.size ≤ 200 := by omega
    have hlen : s.data.toList.length = s.size := by simp
    have hbt := Blk.new (w.alloc (.cells #[.int .i64 0, .string ⟨#[]⟩, .slice none 0 0] 82)) [.string s, .int .i64 0] 160
    have HS := Lib.hid (And.intro hs2 hlen)
    clear hp hs hs2 hlen
    go_enter Tryz.func55, Tryz.ntmps55
    go_wp2_with fail
    have hT : Tx ((w.alloc (.cells #[.int .i64 0, .string ⟨#[]⟩, .slice none 0 0] 82)).alloc (.cells #[.string s, .int .i64 0] 160)) (w.heap.size + 1) s s.data.toList := by
      obtain ⟨h1, h2⟩ := HS.out
      refine ⟨?_, by omega, ?_⟩
      · have e : ((s.size : Int) - (s.data.toList.length : Int)) = 0 := by omega
        rw [e]
        exact Blk.new_at _ [.string s, .int .i64 0] _ _ (by simp)
      · rw [h2, Nat.sub_self, List.drop_zero]
    refine (whole_any (w.heap.size + 1) s HS.out.1 _ hT).mono ?_
    rintro e w1 ⟨hO, hF1⟩
    have hb0 := ((Blk.new w [.int .i64 0, .string ⟨#[]⟩, .slice none 0 0] 82).alloc (.cells #[.string s, .int .i64 0] 160)).fr hF1 (fun h => by have : w.heap.size = w.heap.size + 1 := h; omega)
    have hFw : Fr Nob w w1 := (((Fr.refl Nob w).alloc (.cells #[.int .i64 0, .string ⟨#[]⟩, .slice none 0 0] 82)).alloc (.cells #[.string s, .int .i64 0] 160)).trans hF1 (fun k hk h => by have : k = w.heap.size + 1 := h; omega)
    have hsz : w.heap.size + 2 ≤ w1.heap.size := by have := hF1.size; simp at this; omega
    clear hT hbt
    cases hW : wholeF s.size s.data.toList with
    | ok x =>
      rw [hW] at hO
      obtain ⟨cs, rfl, hx⟩ := hO
      obtain ⟨A, c, css, rfl, hc, hR, hE⟩ := hx.open_
      have d0 := hb0.cell 0
      have d1 := hb0.cell 1
      have d2 := hb0.cell 2
      have f0 := hb0.frozen 0
      have f1 := hb0.frozen 1
      have f2 := hb0.frozen 2
      simp only [List.getElem?_cons_zero, List.getElem?_cons_succ] at d0 d1 d2
      have hl := hb0.lt
      have HB0 := Lib.hid hb0
      have HF1 := Lib.hid hFw
      have HX := Lib.hid hx
      have HW := Lib.hid hW
      clear hb0 hF1 hFw hx hR hE hW
      go_wp2_with fail
      refine (as_nil _ _).mono ?_
      rintro e w2 ⟨rfl, hw2⟩
      subst hw2
      go_wp2_with fail
      rw [HP.out, HW.out]
      have hsa : ((w.alloc (Obj.cells #[.int .i64 0, .string ⟨#[]⟩, .slice none 0 0] 82)).alloc (Obj.cells #[.string s, .int .i64 0] 160)).heap.size = w.heap.size + 2 := by simp
      have hF2 : Fr (One w.heap.size) w1 (((((w1.setCell { block := w.heap.size, off := 0 } (.int .i64 x.k)).setCell { block := w.heap.size, off := 1 } (.string x.name)).setCell { block := w.heap.size, off := 2 } (.slice A x.l.length c)).alloc (.cells #[.int .i64 x.k, .string x.name, .slice A x.l.length c] 82)).alloc (.cells #[.pointer none] 163)) := ((fr_store3 w1 w.heap.size _ _ _).alloc _).alloc _
      refine ret_tree3 (ev := .int .i64 s.size) (fv := .int .i64 0) rfl rfl rfl rfl rfl (((((HB0.out.set 0 _).set 1 _).set 2 _).alloc _).alloc _) ⟨⟨_, rfl, ?_⟩, ?_⟩
      · have h1 := ERep.fr hF2 (fun k _ hk => by have : k = w.heap.size := hk; show k < _; omega) _ _ HX.out
        refine ERep.mono (fun k hk => ?_) _ _ h1
        show k < _
        omega
      · exact HF1.out.trans hF2 (fun k hk h => by have : k = w.heap.size := h; omega)
    | err n =>
      rw [hW] at hO
      obtain ⟨cs, bf, rfl, ⟨x, hx⟩, hbf, hbl⟩ := hO
      obtain ⟨A, c, css, rfl, hc, hR, hE⟩ := hx.open_
      have d0 := hb0.cell 0
      have d1 := hb0.cell 1
      have d2 := hb0.cell 2
      have f0 := hb0.frozen 0
      have f1 := hb0.frozen 1
      have f2 := hb0.frozen 2
      simp only [List.getElem?_cons_zero, List.getElem?_cons_succ] at d0 d1 d2
      have hl := hb0.lt
      have hlb := hbf.lt
      have hsa : ((w.alloc (Obj.cells #[.int .i64 0, .string ⟨#[]⟩, .slice none 0 0] 82)).alloc (Obj.cells #[.string s, .int .i64 0] 160)).heap.size = w.heap.size + 2 := by simp
      rw [hsa] at hbl
      have HB0 := Lib.hid hb0
      have HF1 := Lib.hid hFw
      have HBF := Lib.hid hbf
      have HW := Lib.hid hW
      clear hb0 hF1 hFw hx hR hE hW hbf hsa
      go_wp2_with fail
      have hfA : Fr Nob w1 ((w1.alloc (.cells #[.int .i64 x.k, .string x.name, .slice A x.l.length c] 82)).alloc (.cells #[.pointer none] 163)) := ((Fr.refl _ _).alloc _).alloc _
      have hbA := Blk.new_at (w1.alloc (.cells #[.int .i64 x.k, .string x.name, .slice A x.l.length c] 82)) [.pointer none] 163 (w1.heap.size + 1) (by simp)
      generalize hA : (w1.alloc (.cells #[.int .i64 x.k, .string x.name, .slice A x.l.length c] 82)).alloc (.cells #[.pointer none] 163) = wA at hfA hbA
      have ht0 := hbA.cell 0
      have hf0 := hbA.frozen 0
      simp only [List.getElem?_cons_zero] at ht0
      refine (as_hit ⟨bf, 0, none⟩ ⟨w1.heap.size + 1, 0, none⟩ (.pointer none) wA ((HGG.out.fr HF1.out (fun h => h)).fr hfA (fun h => h)) ht0 hf0).mono ?_
      rintro e W ⟨rfl, hW⟩
      have hFA2 : Fr (One (w1.heap.size + 1)) wA W := by
        rw [hW]
        exact ((((Fr.refl (One (w1.heap.size + 1)) wA).alloc _).alloc _).alloc _).alloc _ |>.setCell (p := ⟨w1.heap.size + 1, 0, none⟩) (.inl rfl) _
      have hF1W : Fr Nob w1 W := hfA.trans hFA2 (fun k hk h => by have : k = w1.heap.size + 1 := h; omega)
      have htW : Blk W (w1.heap.size + 1) [.pointer (some ⟨bf, 0, none⟩)] 163 := by
        rw [hW]
        exact ((((hbA.alloc _).alloc _).alloc _).alloc _).set 0 _
      clear d0 d1 d2 f0 f1 f2
      have hbW := HB0.out.fr hF1W (fun h => h)
      have hfW := HBF.out.fr hF1W (fun h => h)
      have d0 := hbW.cell 0
      have d1 := hbW.cell 1
      have d2 := hbW.cell 2
      have f0 := hbW.frozen 0
      have f1 := hbW.frozen 1
      have f2 := hbW.frozen 2
      have g0 := hfW.cell 0
      have t0 := htW.cell 0
      simp only [List.getElem?_cons_zero, List.getElem?_cons_succ] at d0 d1 d2 g0 t0
      have hlW := hbW.lt
      have hlf := hfW.lt
      have hlt := htW.lt
      have HBW := Lib.hid hbW
      have HFW := Lib.hid (HF1.out.same hF1W)
      clear hfA hbA hA ht0 hf0 hW hFA2 hF1W htW hbW hfW
      go_wp2_with fail
      go_region
      all_goals go_wp2_with fail
      all_goals rw [HP.out, HW.out]
      all_goals refine ret_tree3 (ev := .int .i64 n) (fv := .int .i64 4) rfl rfl rfl rfl rfl (((HBW.out.set 0 _).set 1 _).set 2 _).drew ⟨⟨_, rfl, ERep.empty _ _ _ _⟩, ?_⟩
      all_goals exact HFW.out.trans (fr_store3 W w.heap.size _ _ _).drew (fun k hk h => by have : k = w.heap.size := h; omega)
end Go.Proofs.YtldcffonfidbcaaGreatDoor

/- Arguments of chapter 05's laws, opened. -/
namespace Go.Proofs.YtldcffonfidbcaaGreatDoor
open Go.Joins Go.ChangeShapes Go.WideShapes Go.ChangeAt Go.RowKit Go.Deep
theorem hg_of_laid {W : World} (h : laidMetH Tryz.prog theLaid W) : HG W := by
  have h1 := handle_of_laid h
  have e : typeHandle Tryz.prog 142 = .pointer (some ⟨1, 142, none⟩) := by kernel_rfl
  rw [e] at h1
  exact h1
end Go.Proofs.YtldcffonfidbcaaGreatDoor

/- Rows of elements of some cells each: where an element's cells lie; whole blocks that are loaded and stored. -/
namespace Go.Proofs.YtldcffonfidbcaaGreatDoor
open Go.RowKit
theorem wrp64 (i : Int) (h1 : -9223372036854775808 ≤ i) (h2 : i < 9223372036854775808) : wrap64 i = i := by unfold wrap64; omega
theorem ret_i {k : IntKind} {a b : Int} (h : a = b) : Ending.returned (.int k a) = .returned (.int k b) := by rw [h]
section
variable {α : Type} {f : α → List Value} {s : Nat}
theorem flat_len (hs : ∀ x, (f x).length = s) : ∀ l : List α, (l.flatMap f).length = l.length * s
  | [] => by simp
  | x :: l => by rw [List.flatMap_cons, List.length_append, hs, flat_len hs l, List.length_cons, Nat.add_mul]; omega
theorem flat_get (hs : ∀ x, (f x).length = s) : ∀ (l : List α) (k j : Nat) (hk : k < l.length), j < s → (l.flatMap f)[k * s + j]? = (f l[k])[j]?
  | [], k, j, hk, _ => by simp at hk
  | x :: l, 0, j, _, hj => by
    rw [List.flatMap_cons, List.getElem?_append_left (by rw [hs]; omega)]; simp
  | x :: l, k + 1, j, hk, hj => by
    rw [List.flatMap_cons, List.getElem?_append_right (by rw [hs, Nat.add_mul]; omega), hs, show (k + 1) * s + j - s = k * s + j by rw [Nat.add_mul]; omega]
    exact flat_get hs l k j (by simpa using hk) hj
theorem add_nxt (ad : Addr) (m i : Nat) : (⟨(ad.add m).block, (ad.add m).off + (i + 1), none⟩ : Addr) = ad.add (m + (i + 1)) := by
  unfold Addr.add
  split
  · rename_i h; subst h; simp
  · rw [if_neg (by omega)]; simp [Nat.add_assoc]
/-- The cells of one of some elements. -/
theorem Rd.elt {M : Nat → Prop} {w : World} {A : Option Addr} {l : List α} (hs : ∀ x, (f x).length = s) (h0 : 0 < s) (h : Rd M w A (l.flatMap f)) {k : Nat} (hk : k < l.length) :
    ∃ ad, A = some ad ∧ ¬ M ad.block ∧ ad.block < w.heap.size ∧ w.cell? (ad.add (k * s)) = (f l[k])[0]? ∧ ∀ j, j + 1 < s → w.cell? ⟨(ad.add (k * s)).block, (ad.add (k * s)).off + (j + 1), none⟩ = (f l[k])[j + 1]? := by
  have hle : k * s + s ≤ l.length * s := by
    have := Nat.mul_le_mul_right s (show k + 1 ≤ l.length from hk)
    rwa [Nat.add_mul, Nat.one_mul] at this
  obtain ⟨ad, rfl, hn, hc⟩ := h (by intro e; have := flat_len hs l; rw [e] at this; simp at this; omega)
  have hg := fun j (hj : j < s) => flat_get hs l k j hk hj
  have hcell : ∀ j, j < s → w.cell? (ad.add (k * s + j)) = (f l[k])[j]? := fun j hj => by
    have hj' : j < (f l[k]).length := by rw [hs]; exact hj
    rw [hc (k * s + j) _ ((hg j hj).trans (List.getElem?_eq_getElem hj'))]
    exact (List.getElem?_eq_getElem hj').symm
  refine ⟨ad, rfl, hn, h.lt (by intro e; have := flat_len hs l; rw [e] at this; simp at this; omega), hcell 0 h0, fun j hj => ?_⟩
  rw [add_nxt]
  exact hcell (j + 1) hj
end
end Go.Proofs.YtldcffonfidbcaaGreatDoor

/- Blocks of three, four, eight cells: all their cells at once; ways to return what such a block holds; a step of a drawn region, with what the kernel finds by itself left out. -/
namespace Go.Proofs.YtldcffonfidbcaaGreatDoor
open Go.RowKit
theorem Blk.f3 {w : World} {g : Nat} {t : TypeId} {a b c : Value} (h : Blk w g [a, b, c] t) : w.cell? ⟨g, 0, none⟩ = some a ∧ w.cell? ⟨g, 1, none⟩ = some b ∧ w.cell? ⟨g, 2, none⟩ = some c ∧ g < w.heap.size := ⟨h.cell 0, h.cell 1, h.cell 2, h.lt⟩
theorem Blk.f4 {w : World} {g : Nat} {t : TypeId} {a b c d : Value} (h : Blk w g [a, b, c, d] t) : w.cell? ⟨g, 0, none⟩ = some a ∧ w.cell? ⟨g, 1, none⟩ = some b ∧ w.cell? ⟨g, 2, none⟩ = some c ∧ w.cell? ⟨g, 3, none⟩ = some d ∧
    w.frozen? ⟨g, 0, none⟩ = false ∧ w.frozen? ⟨g, 1, none⟩ = false ∧ w.frozen? ⟨g, 2, none⟩ = false ∧ w.frozen? ⟨g, 3, none⟩ = false ∧ g < w.heap.size := ⟨h.cell 0, h.cell 1, h.cell 2, h.cell 3, h.frozen 0, h.frozen 1, h.frozen 2, h.frozen 3, h.lt⟩
theorem Blk.c8 {w : World} {g : Nat} {t : TypeId} {x0 x1 x2 x3 x4 x5 x6 x7 : Value} (h : Blk w g [x0, x1, x2, x3, x4, x5, x6, x7] t) : w.cell? ⟨g, 0, none⟩ = some x0 ∧ w.cell? ⟨g, 1, none⟩ = some x1 ∧ w.cell? ⟨g, 2, none⟩ = some x2 ∧ w.cell? ⟨g, 3, none⟩ = some x3 ∧
    w.cell? ⟨g, 4, none⟩ = some x4 ∧ w.cell? ⟨g, 5, none⟩ = some x5 ∧ w.cell? ⟨g, 6, none⟩ = some x6 ∧ w.cell? ⟨g, 7, none⟩ = some x7 ∧ g < w.heap.size := ⟨h.cell 0, h.cell 1, h.cell 2, h.cell 3, h.cell 4, h.cell 5, h.cell 6, h.cell 7, h.lt⟩
theorem Blk.z8 {w : World} {g : Nat} {t : TypeId} {x0 x1 x2 x3 x4 x5 x6 x7 : Value} (h : Blk w g [x0, x1, x2, x3, x4, x5, x6, x7] t) : w.frozen? ⟨g, 0, none⟩ = false ∧ w.frozen? ⟨g, 1, none⟩ = false ∧ w.frozen? ⟨g, 2, none⟩ = false ∧ w.frozen? ⟨g, 3, none⟩ = false ∧
    w.frozen? ⟨g, 4, none⟩ = false ∧ w.frozen? ⟨g, 5, none⟩ = false ∧ w.frozen? ⟨g, 6, none⟩ = false ∧ w.frozen? ⟨g, 7, none⟩ = false := ⟨h.frozen 0, h.frozen 1, h.frozen 2, h.frozen 3, h.frozen 4, h.frozen 5, h.frozen 6, h.frozen 7⟩
theorem ret8 {P : Program} {fn : Func} {R : Ending → World → Prop} {ac : Act} {W w0 : World} {g : Nat} {t : TypeId} {x0 x1 x2 x3 x4 x5 x6 x7 y0 y1 y2 y3 y4 y5 y6 y7 v : Value} (hg : Blk W g [x0, x1, x2, x3, x4, x5, x6, x7] t) (hF : Fr Nob w0 W) (hl : w0.heap.size ≤ g) (hd : ac.defers = [])
    (hr : ∀ WE : World, WE.cell? ⟨g, 0, none⟩ = some y0 → WE.cell? ⟨g, 1, none⟩ = some y1 → WE.cell? ⟨g, 2, none⟩ = some y2 → WE.cell? ⟨g, 3, none⟩ = some y3 → WE.cell? ⟨g, 4, none⟩ = some y4 → WE.cell? ⟨g, 5, none⟩ = some y5 → WE.cell? ⟨g, 6, none⟩ = some y6 → WE.cell? ⟨g, 7, none⟩ = some y7 → (results fn ac.tmps).run P WE = .ok v WE) (hR : ∀ WE, Fr Nob w0 WE → R (.returned v) WE) :
    bodyPost P fn R .ret ac ((((((((W.setCell ⟨g, 0, none⟩ y0).setCell ⟨g, 1, none⟩ y1).setCell ⟨g, 2, none⟩ y2).setCell ⟨g, 3, none⟩ y3).setCell ⟨g, 4, none⟩ y4).setCell ⟨g, 5, none⟩ y5).setCell ⟨g, 6, none⟩ y6).setCell ⟨g, 7, none⟩ y7) := by
  have hB : Blk ((((((((W.setCell ⟨g, 0, none⟩ y0).setCell ⟨g, 1, none⟩ y1).setCell ⟨g, 2, none⟩ y2).setCell ⟨g, 3, none⟩ y3).setCell ⟨g, 4, none⟩ y4).setCell ⟨g, 5, none⟩ y5).setCell ⟨g, 6, none⟩ y6).setCell ⟨g, 7, none⟩ y7) g [y0, y1, y2, y3, y4, y5, y6, y7] t :=
    (((((((hg.set 0 y0).set 1 y1).set 2 y2).set 3 y3).set 4 y4).set 5 y5).set 6 y6).set 7 y7
  exact bodyPost_ret (hr _ (hB.cell 0) (hB.cell 1) (hB.cell 2) (hB.cell 3) (hB.cell 4) (hB.cell 5) (hB.cell 6) (hB.cell 7)) hd (hR _ ((((((((hF.setCell (p := ⟨g, 0, none⟩) (.inr hl) y0).setCell (p := ⟨g, 1, none⟩) (.inr hl) y1).setCell (p := ⟨g, 2, none⟩) (.inr hl) y2).setCell (p := ⟨g, 3, none⟩) (.inr hl) y3).setCell (p := ⟨g, 4, none⟩) (.inr hl) y4).setCell (p := ⟨g, 5, none⟩) (.inr hl) y5).setCell (p := ⟨g, 6, none⟩) (.inr hl) y6).setCell (p := ⟨g, 7, none⟩) (.inr hl) y7))
section
variable {P : Program} {md : Region.Mode} {ops : Array Oper} {Q : Exit → Act → World → Prop} {S : World → Prop}
/-- A step of a drawn region that yields v in every world of S. -/
theorem take_by {i : Nat} {oi : Oper} {v : Value} {fuel : Nat} {listed : Array Bool} {a : Act} {w : World} (hi : ops[i]? = some oi) (hS : S w)
    (h : wpAnyH P md ops Q S fuel (listed.setIfInBounds i true) (a.put oi.dst v) w)
    (hs : Region.noSelect ops = true := by kernel_rfl) (hf : Region.free md ops listed i = true := by kernel_rfl) (hr : (Region.ready md ops listed).contains i = true := by kernel_rfl)
    (hQ : ∀ c a w, Q (.panic c) (a.put oi.dst v) w → Q (.panic c) a w := by exact fun _ _ _ h => h)
    (hy : YieldsIf P ops S oi v a := by exact Or.inl ⟨by rfl, fun w hSw => by (try dsimp only at hSw); go_simp⟩) : wpAnyH P md ops Q S (fuel + 1) listed a w :=
  wpAnyH_take hi hs hf hr hQ hy hS h
/-- .. one that is passed over. -/
theorem skip_by {i : Nat} {oi : Oper} {fuel : Nat} {listed : Array Bool} {a : Act} {w : World} (hi : ops[i]? = some oi) (hS : S w)
    (h : wpAnyH P md ops Q S fuel (listed.setIfInBounds i true) (a.put oi.dst undef) w)
    (hs : Region.noSelect ops = true := by kernel_rfl) (hf : Region.free md ops listed i = true := by kernel_rfl) (hr : (Region.ready md ops listed).contains i = true := by kernel_rfl)
    (hQ : ∀ c a w, Q (.panic c) (a.put oi.dst undef) w → Q (.panic c) a w := by exact fun _ _ _ h => h)
    (hy : YieldsIf P ops S oi undef a := by exact Or.inr ⟨by kernel_rfl, rfl⟩) : wpAnyH P md ops Q S (fuel + 1) listed a w :=
  wpAnyH_take hi hs hf hr hQ hy hS h
end
end Go.Proofs.YtldcffonfidbcaaGreatDoor

/- Operations of a drawn region that are ready and are run now; the frame is laid out first. -/
namespace Go.Proofs.YtldcffonfidbcaaGreatDoor
open Go.RowKit
section
variable {P : Program} {md : Region.Mode} {ops : Array Oper} {Q : Exit → Act → World → Prop} {S : World → Prop} {fuel : Nat} {listed : Array Bool} {a a' : Act} {w : World}
theorem ready1 (i : Nat) {o : Oper} (hi : ops[i]? = some o)
    (gi : ∀ K : Act → World → Prop, Shut (∀ a w, S w → (S w → wpAnyH P md ops Q S fuel (listed.setIfInBounds i true) a w) → K a w) → if Region.wanted o (yielded ops a'.tmps) = true then Oper.wp P o a' w K Q else K (a'.put o.dst undef) w)
    (hr : Region.ready md ops listed = [i] := by kernel_rfl)
    (ha : a = a' := by (try simp only [List.getElem_toArray, List.getElem_cons_succ, List.getElem_cons_zero, Act.put, List.setIfInBounds_toArray, List.set_cons_zero, List.set_cons_succ]); rfl) : wpAnyH P md ops Q S (fuel + 1) listed a w := by
  subst ha
  exact wpAnyH_ready hr (by simp) (AllReadyH.cons hi gi AllReadyH.nil)
theorem ready2 (i j : Nat) {o p : Oper} (hi : ops[i]? = some o) (hj : ops[j]? = some p)
    (gi : ∀ K : Act → World → Prop, Shut (∀ a w, S w → (S w → wpAnyH P md ops Q S fuel (listed.setIfInBounds i true) a w) → K a w) → if Region.wanted o (yielded ops a'.tmps) = true then Oper.wp P o a' w K Q else K (a'.put o.dst undef) w)
    (gj : ∀ K : Act → World → Prop, Shut (∀ a w, S w → (S w → wpAnyH P md ops Q S fuel (listed.setIfInBounds j true) a w) → K a w) → if Region.wanted p (yielded ops a'.tmps) = true then Oper.wp P p a' w K Q else K (a'.put p.dst undef) w)
    (hr : Region.ready md ops listed = [i, j] := by kernel_rfl)
    (ha : a = a' := by (try simp only [List.getElem_toArray, List.getElem_cons_succ, List.getElem_cons_zero, Act.put, List.setIfInBounds_toArray, List.set_cons_zero, List.set_cons_succ]); rfl) : wpAnyH P md ops Q S (fuel + 1) listed a w := by
  subst ha
  exact wpAnyH_ready hr (by simp) (AllReadyH.cons hi gi (AllReadyH.cons hj gj AllReadyH.nil))
theorem ready3 (i j k : Nat) {o p q : Oper} (hi : ops[i]? = some o) (hj : ops[j]? = some p) (hk : ops[k]? = some q)
    (gi : ∀ K : Act → World → Prop, Shut (∀ a w, S w → (S w → wpAnyH P md ops Q S fuel (listed.setIfInBounds i true) a w) → K a w) → if Region.wanted o (yielded ops a'.tmps) = true then Oper.wp P o a' w K Q else K (a'.put o.dst undef) w)
    (gj : ∀ K : Act → World → Prop, Shut (∀ a w, S w → (S w → wpAnyH P md ops Q S fuel (listed.setIfInBounds j true) a w) → K a w) → if Region.wanted p (yielded ops a'.tmps) = true then Oper.wp P p a' w K Q else K (a'.put p.dst undef) w)
    (gk : ∀ K : Act → World → Prop, Shut (∀ a w, S w → (S w → wpAnyH P md ops Q S fuel (listed.setIfInBounds k true) a w) → K a w) → if Region.wanted q (yielded ops a'.tmps) = true then Oper.wp P q a' w K Q else K (a'.put q.dst undef) w)
    (hr : Region.ready md ops listed = [i, j, k] := by kernel_rfl)
    (ha : a = a' := by (try simp only [List.getElem_toArray, List.getElem_cons_succ, List.getElem_cons_zero, Act.put, List.setIfInBounds_toArray, List.set_cons_zero, List.set_cons_succ]); rfl) : wpAnyH P md ops Q S (fuel + 1) listed a w := by
  subst ha
  exact wpAnyH_ready hr (by simp) (AllReadyH.cons hi gi (AllReadyH.cons hj gj (AllReadyH.cons hk gk AllReadyH.nil)))
theorem done_by (h : Q .normal a' w) (hr : Region.ready md ops listed = [] := by kernel_rfl) (ha : a = a' := by (try simp only [List.getElem_toArray, List.getElem_cons_succ, List.getElem_cons_zero, Act.put, List.setIfInBounds_toArray, List.set_cons_zero, List.set_cons_succ]); rfl) : wpAnyH P md ops Q S fuel listed a w := by
  subst ha
  exact wpAnyH_done hr h _
end
end Go.Proofs.YtldcffonfidbcaaGreatDoor

/- Chapter 6: names and their types, as memory holds them; 'types', 'named', 'Check'. -/
namespace Go.Proofs.YtldcffonfidbcaaGreatDoor
open Go.RowKit
/-- A name, and its types. -/
structure Grp where
  name : ByteArray
  types : List Int
def intC (l : List Int) : List Value := l.map (Value.int .i64)
/-- The two cells of each of some names. -/
def GReps (M : Nat → Prop) (w : World) : List Grp → List Value → Prop
  | [], css => css = []
  | g :: gs, css => ∃ A c rest, css = .string g.name :: .slice A g.types.length c :: rest ∧ g.types.length ≤ c ∧ Rd M w A (intC g.types) ∧ GReps M w gs rest
theorem GReps.fr {M M' : Nat → Prop} {w w' : World} (hf : Fr M' w w') (hM : ∀ k, k < w.heap.size → M' k → M k) : ∀ (l : List Grp) (cs : List Value), GReps M w l cs → GReps M w' l cs
  | [], cs => by simp only [GReps]; exact id
  | x :: xs, cs => by
    simp only [GReps]
    rintro ⟨A, c, rest, rfl, hl, hr, hs⟩
    exact ⟨A, c, rest, rfl, hl, hr.fr hf hM, GReps.fr hf hM xs rest hs⟩
theorem GReps.mono {M M' : Nat → Prop} {w : World} (hM : ∀ k, M' k → M k) : ∀ (l : List Grp) (cs : List Value), GReps M w l cs → GReps M' w l cs
  | [], cs => by simp only [GReps]; exact id
  | x :: xs, cs => by
    simp only [GReps]
    rintro ⟨A, c, rest, rfl, hl, hr, hs⟩
    exact ⟨A, c, rest, rfl, hl, hr.mono hM, GReps.mono hM xs rest hs⟩
theorem GReps.len {M : Nat → Prop} {w : World} : ∀ (l : List Grp) (cs : List Value), GReps M w l cs → cs.length = l.length * 2
  | [], cs => by simp only [GReps]; rintro rfl; rfl
  | x :: xs, cs => by
    simp only [GReps]
    rintro ⟨A, c, rest, rfl, hl, hr, hs⟩
    have := GReps.len xs rest hs
    simp only [List.length_cons]; omega
theorem GReps.at_ {M : Nat → Prop} {w : World} : ∀ (l : List Grp) (css : List Value), GReps M w l css → ∀ (i : Nat) (hi : i < l.length),
    ∃ A c, css[i * 2]? = some (.string l[i].name) ∧ css[i * 2 + 1]? = some (.slice A l[i].types.length c) ∧ l[i].types.length ≤ c ∧ Rd M w A (intC l[i].types)
  | [], css, _, i, hi => by simp at hi
  | x :: xs, css, h, i, hi => by
    simp only [GReps] at h
    obtain ⟨A, c, rest, rfl, hc, hr, hs⟩ := h
    cases i with
    | zero => exact ⟨A, c, rfl, rfl, hc, hr⟩
    | succ i =>
      obtain ⟨A', c', h0, h1, h2, h3⟩ := GReps.at_ xs rest hs i (by simpa using hi)
      refine ⟨A', c', ?_, ?_, h2, h3⟩
      · rw [show (i + 1) * 2 = i * 2 + 1 + 1 by omega]; simpa using h0
      · rw [show (i + 1) * 2 + 1 = i * 2 + 1 + 1 + 1 by omega]; simpa using h1
/-- Some names, in a slice. -/
def Grps (M : Nat → Prop) (w : World) (v : Value) (l : List Grp) : Prop := ∃ A c css, v = .slice A l.length c ∧ l.length ≤ c ∧ Rd M w A css ∧ GReps M w l css
theorem Grps.fr {M M' : Nat → Prop} {w w' : World} {v : Value} {l : List Grp} (h : Grps M w v l) (hf : Fr M' w w') (hM : ∀ k, k < w.heap.size → M' k → M k) : Grps M w' v l := by
  obtain ⟨A, c, css, rfl, hc, hr, hg⟩ := h
  exact ⟨A, c, css, rfl, hc, hr.fr hf hM, GReps.fr hf hM _ _ hg⟩
theorem Grps.fr0 {M : Nat → Prop} {w w' : World} {v : Value} {l : List Grp} (h : Grps M w v l) (hf : Fr Nob w w') : Grps M w' v l := h.fr hf (fun _ _ h => h.elim)
theorem Grps.mono {M M' : Nat → Prop} {w : World} {v : Value} {l : List Grp} (h : Grps M w v l) (hM : ∀ k, M' k → M k) : Grps M' w v l := by
  obtain ⟨A, c, css, rfl, hc, hr, hg⟩ := h
  exact ⟨A, c, css, rfl, hc, hr.mono hM, GReps.mono hM _ _ hg⟩
/-- One of some names. -/
theorem grp_elt {M : Nat → Prop} {w : World} {A : Option Addr} {l : List Grp} {css : List Value} (hR : Rd M w A css) (hE : GReps M w l css) {k : Nat} (hk : k < l.length) :
    ∃ ad A2 c, A = some ad ∧ w.cell? (ad.add (k * 2)) = some (.string l[k].name) ∧ w.cell? ⟨(ad.add (k * 2)).block, (ad.add (k * 2)).off + 1, none⟩ = some (.slice A2 l[k].types.length c) ∧ l[k].types.length ≤ c ∧ Rd M w A2 (intC l[k].types) := by
  have e3 := GReps.len _ _ hE
  obtain ⟨A2, c2, h0, h1, h2, h3⟩ := GReps.at_ _ _ hE k hk
  obtain ⟨ad, rfl, _, hcell⟩ := hR (by rintro rfl; simp at e3; omega)
  exact ⟨ad, A2, c2, rfl, hcell _ _ h0, by rw [add_nxt ad (k * 2) 0]; exact hcell _ _ h1, h2, h3⟩
/-- The types of a name. -/
def typesF : List Grp → ByteArray → List Int
  | [], _ => []
  | g :: gs, s => if g.name = s then g.types else typesF gs s
theorem ba_beq (a b : ByteArray) : (a.toList == b.toList) = decide (a = b) := by
  rw [Bool.eq_iff_iff]
  simp only [beq_iff_eq, decide_eq_true_eq, ByteArray.toList_eq]
  exact ⟨fun h => by apply ByteArray.ext; exact Array.ext' h, fun h => by rw [h]⟩
set_option maxRecDepth 100000 in
theorem types_any (M : Nat → Prop) (l : List Grp) (v : Value) (s : ByteArray) (w : World) (h : Grps M w v l) (hl : l.length ≤ 1000000) :
    Calls Tryz.prog 127 #[v, .string s] w fun e w' => (∃ A c, e = .returned (.slice A (typesF l s).length c) ∧ (typesF l s).length ≤ c ∧ Rd M w' A (intC (typesF l s))) ∧ Fr Nob w w' := by
  obtain ⟨A, c, css, rfl, hc, hr, hg⟩ := h
  obtain ⟨r, hrr⟩ : ∃ r, typesF l s = r := ⟨_, rfl⟩
  rw [hrr]
  have HR := Lib.hid hrr
  have HRd := Lib.hid hr
  have HG := Lib.hid hg
  clear hrr hr hg
  go_enter Tryz.func127, Tryz.ntmps127
  go_wp2_with fail
  go_loopg [9] (l.length) (fun n b wr => ∃ (k : Nat), n = l.length - k ∧ k ≤ l.length ∧ b = .int .i64 k ∧ Hid (Fr Nob w wr) ∧ Hid (typesF (l.drop k) s = r))
  case atStart => exact ⟨0, rfl, Nat.zero_le _, rfl, Fr.refl _ _, HR.out⟩
  case round =>
    obtain ⟨k, rfl, hk, rfl, HF, HRr⟩ := hrel
    by_cases hlt : k < l.length
    · have ht : ((k : Int) < (l.length : Int)) := by omega
      obtain ⟨ad, A2, c2, rfl, q0, q1, hc2, hR2⟩ := grp_elt (HRd.out.fr HF.out (fun _ _ h => h.elim)) (GReps.fr HF.out (fun _ _ h => h.elim) _ _ HG.out) hlt
      have hdr : l.drop k = l[k] :: l.drop (k + 1) := List.drop_eq_getElem_cons hlt
      generalize l[k] = x at q0 q1 hdr hc2 hR2
      have hRr := HRr.out
      rw [hdr, typesF] at hRr
      have HR2 := Lib.hid hRr
      have HD2 := Lib.hid hR2
      clear hdr hRr HRr hR2
      by_cases hx : x.name = s
      · have hb : (x.name.toList == s.toList) = true := by rw [ba_beq]; simpa using hx
        have hb2 : x.name.toList = s.toList := by rw [hx]
        have HE := Lib.hid (show x.types = r by rw [← HR2.out, if_pos hx])
        clear hx HR2
        go_wp2_with fail
        go_ret
        refine ⟨⟨A2, c2, by rw [← HE.out]; rfl, by rw [← HE.out]; exact hc2, ?_⟩, HF.out.alloc _⟩
        rw [← HE.out]
        exact HD2.out.fr ((Fr.refl Nob _).alloc _) (fun _ _ h => h.elim)
      · have hb : (x.name.toList == s.toList) = false := by rw [ba_beq]; simpa using hx
        have HE := Lib.hid (show typesF (l.drop (k + 1)) s = r by rw [← HR2.out, if_neg hx])
        have hb2 : ¬ x.name.toList = s.toList := by simpa using hb
        clear hx HR2
        go_wp2_with fail
        go_roundg (l.length - (k + 1))
        case measure => omega
        case rel => exact ⟨k + 1, rfl, by omega, by first | rfl | go_num, HF.out.alloc _, HE.out⟩
    · have ht : ¬ ((k : Int) < (l.length : Int)) := by omega
      have hRr := HRr.out
      rw [List.drop_eq_nil_of_le (by omega), typesF] at hRr
      have HR2 := Lib.hid hRr
      clear hRr HRr
      go_wp2_with fail
      go_ret
      exact ⟨⟨none, 0, by rw [← HR2.out]; rfl, by rw [← HR2.out]; simp, by rw [← HR2.out]; exact Rd.nil _ _ _⟩, HF.out⟩
end Go.Proofs.YtldcffonfidbcaaGreatDoor

/- Chapter 6: 'named'. -/
namespace Go.Proofs.YtldcffonfidbcaaGreatDoor
open Go.RowKit
mutual
/-- Have all names types? -/
def namedT (g : List Grp) : Tree → Bool
  | .node k n l => if k = 1 then decide (0 < (typesF g n).length) else namedL g l
def namedL (g : List Grp) : List Tree → Bool
  | [] => true
  | x :: xs => namedT g x && namedL g xs
end
theorem namedT_eq (g : List Grp) (x : Tree) : namedT g x = if x.k = 1 then decide (0 < (typesF g x.name).length) else namedL g x.l := by
  cases x with
  | node k n l => rw [namedT]; rfl
def NamedC (g : List Grp) (x : Tree) : Prop := ∀ (cs : List Value) (v : Value) (w : World), ERep Nob w x cs → Grps Nob w v g →
  Calls Tryz.prog 88 #[.agg cs.toArray, v] w fun e w' => e = .returned (.bool (namedT g x)) ∧ Fr Nob w w'
set_option maxRecDepth 100000 in
theorem namedfn_any (g : List Grp) (x : Tree) (IH : NamedC g x) (cs : List Value) (v : Value) (b : Nat) (w : World) (h : ERep Nob w x cs) (hg : Grps Nob w v g) (hb : Blk w b [v] 78) :
    Calls Tryz.prog 129 #[.agg cs.toArray, .pointer (some ⟨b, 0, none⟩)] w fun e w' => e = .returned (.bool (!namedT g x)) ∧ Fr Nob w w' := by
  obtain ⟨A, c, css, rfl, hc, hR, hE⟩ := h.open_
  have HIH := Lib.hid IH
  have HX := Lib.hid h
  have HG := Lib.hid hg
  have hcb := hb.cell 0
  have hlb := hb.lt
  simp only [List.getElem?_cons_zero] at hcb
  clear IH h hg hR hE hb
  go_enter Tryz.func129, Tryz.ntmps129
  go_wp2_with fail
  have hf : Fr Nob w (w.alloc (.cells #[.int .i64 x.k, .string x.name, .slice A x.l.length c] 82)) := (Fr.refl _ _).alloc _
  generalize w.alloc (.cells #[.int .i64 x.k, .string x.name, .slice A x.l.length c] 82) = w1 at hf ⊢
  refine (HIH.out _ v w1 (HX.out.fr0 hf) (HG.out.fr0 hf)).mono ?_
  rintro e w2 ⟨rfl, hF2⟩
  go_wp2_with fail
  go_ret
  exact ⟨rfl, hf.same hF2⟩
set_option maxRecDepth 100000 in
theorem indexnamed_any (g : List Grp) (l : List Tree) (IH : ∀ (k : Nat) (hk : k < l.length), NamedC g l[k]) (A : Option Addr) (c : Nat) (css : List Value) (v : Value) (b : Nat) (w : World) (hl : l.length ≤ 4611686018427387904)
    (hR : Rd Nob w A css) (hE : EReps Nob w l css) (hg : Grps Nob w v g) (hb : Blk w b [v] 78) :
    Calls Tryz.prog 159 #[.slice A l.length c, .func (.func 129) #[] #[.pointer (some ⟨b, 0, none⟩)]] w fun e w' => (∃ i : Int, e = .returned (.int .i64 i) ∧ (decide (0 ≤ i)) = !namedL g l) ∧ Fr Nob w w' := by
  have HIH := Lib.hid IH
  have HR := Lib.hid hR
  have HE := Lib.hid hE
  have HG := Lib.hid hg
  have HB := Lib.hid hb
  clear IH hR hE hg hb
  go_enter Tryz.func159, Tryz.ntmps159
  go_wp2_with fail
  go_loopg [8] (l.length) (fun n b wr => ∃ (k : Nat), n = l.length - k ∧ k ≤ l.length ∧ b = .int .i64 k ∧ Hid (Fr Nob w wr) ∧ Hid (namedL g (l.drop k) = namedL g l))
  case atStart => exact ⟨0, rfl, Nat.zero_le _, rfl, Fr.refl _ _, rfl⟩
  case round =>
    obtain ⟨k, rfl, hk, rfl, HF, HRr⟩ := hrel
    by_cases hlt : k < l.length
    · have ht : ((k : Int) < (l.length : Int)) := by omega
      obtain ⟨ad, A2, c2, rfl, q0, q1, q2, hX⟩ := EReps.elt (HR.out.fr HF.out (fun _ _ h => h)) (HE.out.fr0 HF.out) hlt
      have hdr : l.drop k = l[k] :: l.drop (k + 1) := List.drop_eq_getElem_cons hlt
      have hih := HIH.out k hlt
      generalize l[k] = x at q0 q1 q2 hX hdr hih
      have hRr := HRr.out
      rw [hdr, namedL] at hRr
      have HR2 := Lib.hid hRr
      have HX := Lib.hid hX
      have HIX := Lib.hid hih
      clear hdr hRr HRr hX hih
      go_wp2_with fail
      refine (namedfn_any g x HIX.out _ v b wr HX.out (HG.out.fr0 HF.out) (HB.out.fr HF.out (fun h => h))).mono ?_
      rintro e w2 ⟨rfl, hF2⟩
      have HF2 := Lib.hid (HF.out.same hF2)
      clear hF2 q0 q1 q2 HX HF
      cases hn : namedT g x
      · have HE := Lib.hid (show false = namedL g l by rw [← HR2.out, hn]; rfl)
        clear hn HR2
        go_wp2_with fail
        go_ret
        exact ⟨⟨k, rfl, by rw [← HE.out]; simp⟩, HF2.out⟩
      · have HE := Lib.hid (show namedL g (l.drop (k + 1)) = namedL g l by rw [← HR2.out, hn]; rfl)
        clear hn HR2
        go_wp2_with fail
        go_roundg (l.length - (k + 1))
        case measure => omega
        case rel => exact ⟨k + 1, rfl, by omega, by first | rfl | go_num, HF2.out, HE.out⟩
    · have ht : ¬ ((k : Int) < (l.length : Int)) := by omega
      have hRr := HRr.out
      rw [List.drop_eq_nil_of_le (by omega), namedL] at hRr
      have HR2 := Lib.hid hRr
      clear hRr HRr
      go_wp2_with fail
      go_ret
      exact ⟨⟨-1, rfl, by rw [← HR2.out]; rfl⟩, HF.out⟩
set_option maxRecDepth 100000 in
theorem anynamed_any (g : List Grp) (l : List Tree) (IH : ∀ (k : Nat) (hk : k < l.length), NamedC g l[k]) (A : Option Addr) (c : Nat) (css : List Value) (v : Value) (b : Nat) (w : World) (hl : l.length ≤ 4611686018427387904)
    (hR : Rd Nob w A css) (hE : EReps Nob w l css) (hg : Grps Nob w v g) (hb : Blk w b [v] 78) :
    Calls Tryz.prog 128 #[.slice A l.length c, .func (.func 129) #[] #[.pointer (some ⟨b, 0, none⟩)]] w fun e w' => e = .returned (.bool (!namedL g l)) ∧ Fr Nob w w' := by
  have H := Lib.hid (indexnamed_any g l IH A c css v b w hl hR hE hg hb)
  clear IH hR hE hg hb
  go_enter Tryz.func128, Tryz.ntmps128
  go_wp2_with fail
  refine H.out.mono ?_
  rintro e w2 ⟨⟨i, rfl, hi⟩, hF⟩
  have HI := Lib.hid hi
  clear hi
  go_wp2_with fail
  go_ret
  exact ⟨by rw [← HI.out]; rfl, hF⟩
set_option maxRecDepth 100000 in
theorem named_step (g : List Grp) (hgl : g.length ≤ 1000000) (x : Tree) (hn : x.count ≤ 4611686018427387904) (IH : ∀ (k : Nat) (hk : k < x.l.length), NamedC g x.l[k]) : NamedC g x := by
  intro cs v w h hg
  obtain ⟨A, c, css, rfl, hc, hR, hE⟩ := h.open_
  have hg' := hg
  obtain ⟨GA, gc, gcss, rfl, _, _⟩ := hg'
  obtain ⟨r, hr⟩ : ∃ r, namedT g x = r := ⟨_, rfl⟩
  rw [hr]
  rw [namedT_eq] at hr
  have hlen := len_le_countL x.l
  have hcx := count_eq x
  have hl : x.l.length ≤ 4611686018427387904 := by omega
  have HIH := Lib.hid IH
  have HR := Lib.hid hR
  have HE := Lib.hid hE
  have HG := Lib.hid hg
  have hf : Fr Nob w ((w.alloc (.cells #[.int .i64 x.k, .string x.name, .slice A x.l.length c] 82)).alloc (.cells #[.slice GA g.length gc] 78)) := ((Fr.refl _ _).alloc _).alloc _
  have hb := Blk.new_at (w.alloc (.cells #[.int .i64 x.k, .string x.name, .slice A x.l.length c] 82)) [.slice GA g.length gc] 78 (w.heap.size + 1) (by simp)
  have hbx := (Blk.new w [.int .i64 x.k, .string x.name, .slice A x.l.length c] 82).alloc (.cells #[.slice GA g.length gc] 78)
  have HF := Lib.hid hf
  have HB := Lib.hid hb
  have HBX := Lib.hid hbx
  clear h hg IH hR hE hf hb hbx hlen hcx
  by_cases hk : x.k = 1
  · have hb1 : (x.k == 1) = true := by simpa using hk
    have HE1 := Lib.hid (show decide (0 < (typesF g x.name).length) = r by rw [← hr, if_pos hk])
    clear hk hr
    go_enter Tryz.func88, Tryz.ntmps88
    go_wp2_with fail
    generalize ((w.alloc (.cells #[.int .i64 x.k, .string x.name, .slice A x.l.length c] 82)).alloc (.cells #[.slice GA g.length gc] 78)) = w1 at HF HB HBX ⊢
    refine (types_any Nob g _ x.name w1 (HG.out.fr0 HF.out) hgl).mono ?_
    rintro e w2 ⟨⟨A2, c2, rfl, _, _⟩, hF2⟩
    have HF2 := Lib.hid (HF.out.same hF2)
    clear hF2
    go_wp2_with fail
    go_ret
    refine ⟨?_, HF2.out⟩
    rw [← HE1.out]
    refine congrArg (fun b => Ending.returned (.bool b)) ?_
    rw [Bool.eq_iff_iff]
  · have hb1 : (x.k == 1) = false := by simpa using hk
    have HE1 := Lib.hid (show namedL g x.l = r by rw [← hr, if_neg hk])
    clear hk hr
    go_enter Tryz.func88, Tryz.ntmps88
    go_wp2_with fail
    generalize ((w.alloc (.cells #[.int .i64 x.k, .string x.name, .slice A x.l.length c] 82)).alloc (.cells #[.slice GA g.length gc] 78)) = w1 at HF HB HBX ⊢
    refine (anynamed_any g x.l HIH.out A c css _ (w.heap.size + 1) w1 hl (HR.out.fr HF.out (fun _ _ h => h)) (HE.out.fr0 HF.out) (HG.out.fr0 HF.out) HB.out).mono ?_
    rintro e w2 ⟨rfl, hF2⟩
    have HF2 := Lib.hid (HF.out.same hF2)
    clear hF2
    go_wp2_with fail
    go_ret
    exact ⟨by rw [← HE1.out]; simp, HF2.out⟩
theorem named_any (g : List Grp) (hgl : g.length ≤ 1000000) (x : Tree) (hn : x.count ≤ 4611686018427387904) : NamedC g x :=
  named_step g hgl x hn (fun k hk => named_any g hgl x.l[k] (by have := count_lt_of_mem x.l k hk; have := count_eq x; omega))
termination_by x
decreasing_by exact Tree.lt_of_elt x k hk
end Go.Proofs.YtldcffonfidbcaaGreatDoor

/- Chapter 6: 'Check', of few names of few types. -/
namespace Go.Proofs.YtldcffonfidbcaaGreatDoor
open Go.RowKit
/-- Few names of few types, all of them types. -/
structure GOk (g : List Grp) : Prop where
  few : g.length ≤ 16
  types : ∀ x ∈ g, x.types.length ≤ 16 ∧ ∀ t ∈ x.types, 0 ≤ t ∧ t < 16
def checkR (g : List Grp) (x : Tree) : Int := if checkT x ≠ 0 then checkT x else if namedT g x then 0 else 6
theorem Rd.int {M : Nat → Prop} {w : World} {A : Option Addr} {l : List Int} (h : Rd M w A (intC l)) {k : Nat} (hk : k < l.length) : ∃ ad, A = some ad ∧ ¬ M ad.block ∧ w.cell? (ad.add k) = some (.int .i64 l[k]) := by
  obtain ⟨ad, rfl, hn, hc⟩ := h.at_ (j := k) (by unfold intC; simpa using hk)
  refine ⟨ad, rfl, hn, ?_⟩
  rw [hc]
  simp [intC]
set_option maxRecDepth 100000 in
theorem checkR_any (g : List Grp) (hg0 : GOk g) (x : Tree) (cs : List Value) (v : Value) (w : World) (h : ERep Nob w x cs) (hg : Grps Nob w v g) (hn : x.count ≤ 4611686018427387904) (hb : x.bytes ≤ 4611686018427387904) :
    Calls Tryz.prog 56 #[.agg cs.toArray, v] w fun e w' => e = .returned (.int .i64 (checkR g x)) ∧ Fr Nob w w' := by
  obtain ⟨r, hr⟩ : ∃ r, checkR g x = r := ⟨_, rfl⟩
  rw [hr]
  obtain ⟨A, c, css, rfl, hc, hR, hE⟩ := h.open_
  have hg' := hg
  obtain ⟨GA, gc, gcss, rfl, hgc, hgR, hgE⟩ := hg'
  have HX := Lib.hid h
  have HG := Lib.hid hg
  have HGR := Lib.hid hgR
  have HGE := Lib.hid hgE
  have HGO := Lib.hid hg0
  have HC := Lib.hid (fun w h => check_any x [.int .i64 x.k, .string x.name, .slice A x.l.length c] w h hn hb)
  have HN := Lib.hid (named_any g (by have := hg0.few; omega) x hn)
  have hf : Fr Nob w (w.alloc (.cells #[.int .i64 x.k, .string x.name, .slice A x.l.length c] 82)) := (Fr.refl _ _).alloc _
  have hbx := Blk.new w [.int .i64 x.k, .string x.name, .slice A x.l.length c] 82
  have hfew := hg0.few
  have HF := Lib.hid hf
  have HB := Lib.hid hbx
  have HR := Lib.hid hr
  clear h hg hgR hgE hR hE hf hbx hn hb hg0 hr
  go_enter Tryz.func56, Tryz.ntmps56
  go_wp2_with fail
  generalize (w.alloc (.cells #[.int .i64 x.k, .string x.name, .slice A x.l.length c] 82)) = w1 at HF HB ⊢
  refine (HC.out w1 (HX.out.fr0 HF.out)).mono ?_
  rintro e w2 ⟨rfl, hF2⟩
  have HF2 := Lib.hid (HF.out.same hF2)
  have HB2 := Lib.hid (HB.out.fr hF2 (fun h => h))
  clear hF2 HF HB
  by_cases hk : checkT x = 0
  · have HR2 := Lib.hid (show (if namedT g x then (0 : Int) else 6) = r by rw [← HR.out]; unfold checkR; simp [hk])
    rw [hk]
    clear hk HR
    go_wp2_with fail
    go_loopg [6, 21] (g.length) (fun n a b wr => ∃ (k : Nat), n = g.length - k ∧ k ≤ g.length ∧ a = .bool false ∧ b = .int .i64 k ∧ Hid (Fr Nob w wr) ∧ Hid (Blk wr w.heap.size [.int .i64 x.k, .string x.name, .slice A x.l.length c] 82))
    case atStart => exact ⟨0, rfl, Nat.zero_le _, by first | rfl | (congr 1; simp; omega), rfl, HF2.out, HB2.out⟩
    case round =>
      obtain ⟨k, rfl, hk, rfl, rfl, HF, HB⟩ := hrel
      by_cases hlt : k < g.length
      · have ht : ((k : Int) < (g.length : Int)) := by omega
        obtain ⟨ad, A2, c2, rfl, q0, q1, hc2, hR2⟩ := grp_elt (HGR.out.fr HF.out (fun _ _ h => h.elim)) (GReps.fr HF.out (fun _ _ h => h.elim) _ _ HGE.out) hlt
        have hty := HGO.out.types g[k] (List.getElem_mem hlt)
        generalize g[k] = y at q0 q1 hc2 hR2 hty
        have hl16 := hty.1
        have HT := Lib.hid hty.2
        have HD2 := Lib.hid (hR2.fr (w' := wr.alloc (.cells #[.string y.name, .slice A2 y.types.length c2] 77)) ((Fr.refl Nob _).alloc _) (fun _ _ h => h.elim))
        have hlx : ¬ (16 : Int) < (y.types.length : Int) := by omega
        have hF3 : Fr Nob w (wr.alloc (.cells #[.string y.name, .slice A2 y.types.length c2] 77)) := HF.out.alloc _
        have hB3 := HB.out.alloc (.cells #[.string y.name, .slice A2 y.types.length c2] 77)
        have HF3 := Lib.hid hF3
        have HB3 := Lib.hid hB3
        clear hR2 hty hF3 hB3
        go_wp2_with fail
        generalize wr.alloc (.cells #[.string y.name, .slice A2 y.types.length c2] 77) = wo at HF3 HB3 HD2 ⊢
        clear q0 q1 HF HB
        go_loopg [6, 35] (y.types.length) (fun n a b wi => ∃ (j : Nat), n = y.types.length - j ∧ j ≤ y.types.length ∧ a = .bool false ∧ b = .int .i64 j ∧ Hid (wi = wo))
        case atStart => exact ⟨0, rfl, Nat.zero_le _, rfl, rfl, rfl⟩
        case round =>
          obtain ⟨j, rfl, hj, rfl, rfl, HW⟩ := hrel
          have hw := HW.out
          subst hw
          by_cases hjlt : j < y.types.length
          · have htj : ((j : Int) < (y.types.length : Int)) := by omega
            obtain ⟨ad3, rfl, _, q3⟩ := HD2.out.int hjlt
            have hr3 := HT.out _ (List.getElem_mem hjlt)
            generalize y.types[j] = tv at q3 hr3
            have h31 : ¬ tv < 0 := by omega
            have h32 : ¬ 16 ≤ tv := by omega
            clear HW
            go_wp2_with fail
            go_roundg (y.types.length - (j + 1))
            case measure => omega
            case rel => exact ⟨j + 1, rfl, by omega, rfl, by first | rfl | go_num, rfl⟩
          · have htj : ¬ ((j : Int) < (y.types.length : Int)) := by omega
            clear HW
            go_wp2_with fail
            go_roundg (g.length - (k + 1))
            case measure => omega
            case rel => exact ⟨k + 1, rfl, by omega, rfl, by first | rfl | go_num, HF3.out, HB3.out⟩
      · have ht : ¬ ((k : Int) < (g.length : Int)) := by omega
        have d0 := HB.out.cell 0
        have d1 := HB.out.cell 1
        have d2 := HB.out.cell 2
        have hlo := HB.out.lt
        simp only [List.getElem?_cons_zero, List.getElem?_cons_succ] at d0 d1 d2
        go_wp2_with fail
        refine (HN.out _ _ wr (HX.out.fr0 HF.out) (HG.out.fr0 HF.out)).mono ?_
        rintro e w5 ⟨rfl, hF5⟩
        have HF5 := Lib.hid (HF.out.same hF5)
        clear hF5 d0 d1 d2
        cases hnm : namedT g x
        · have HE := Lib.hid (show (6 : Int) = r by rw [← HR2.out, hnm]; rfl)
          clear hnm HR2
          go_wp2_with fail
          go_ret
          exact ⟨ret_i HE.out, HF5.out⟩
        · have HE := Lib.hid (show (0 : Int) = r by rw [← HR2.out, hnm]; rfl)
          clear hnm HR2
          go_wp2_with fail
          go_ret
          exact ⟨ret_i HE.out, HF5.out⟩
  · have hb1 : (checkT x != 0) = true := by simpa using hk
    have HE := Lib.hid (show checkT x = r by rw [← HR.out, checkR, if_pos hk])
    clear hk HR
    go_wp2_with fail
    go_ret
    exact ⟨ret_i HE.out, HF2.out⟩
end Go.Proofs.YtldcffonfidbcaaGreatDoor

/- Maps of one entry at most: what is done with them. -/
namespace Go.Proofs.YtldcffonfidbcaaGreatDoor
open Go.RowKit
def put (w : World) (b : Nat) (o : Obj) : World := { w with heap := w.heap.setIfInBounds b o }
def set0 : Obj := .map #[] 0
def set1 (n : Int) : Obj := .map #[⟨.int .i64 n, .bool true, 0⟩] 1
theorem put_size (w : World) (b : Nat) (o : Obj) : (put w b o).heap.size = w.heap.size := by simp [put]
theorem put_at {w : World} {b : Nat} {o o' : Obj} (h : w.heap[b]? = some o') : (put w b o).heap[b]? = some o := by
  have := lt_of_blk h
  simp [put, this]
theorem put_far {w : World} {b k : Nat} (o : Obj) (h : k ≠ b) : (put w b o).heap[k]? = w.heap[k]? := by
  simp only [put]
  rw [Array.getElem?_setIfInBounds_ne (Ne.symm h)]
theorem fr_put {M : Nat → Prop} {a w : World} (h : Fr M a w) {b : Nat} (hb : M b ∨ a.heap.size ≤ b) (o : Obj) : Fr M a (put w b o) :=
  h.trans (M' := One b) ⟨rfl, rfl, rfl, by rw [put_size]; exact Nat.le_refl _, fun k _ hn => put_far o hn⟩ (fun k hk hm => by
    have : k = b := hm
    subst this
    exact hb.resolve_right (by omega))
section
variable {P : Program} {w : World} {b : Nat} {t k e : TypeId}
theorem run_upd0 (ht : P.underlying t = some (.map k e)) (hk : P.underlying k = some (.int .i64)) (hb : w.heap[b]? = some set0) (n : Int) :
    (Instr.mapUpdate t (.map (some b)) (.int .i64 n) (.bool true)).run P w = .ok () (put w b (set1 n)) := by
  have hb' : w.heap[b]? = some (.map #[] 0) := hb
  have h1 := MapKept.run_checkKey (P := P) (w := w) hk (k := .int .i64 n) (by simp [MapKept.IsKey]) false 9999
  have h2 : (Instr.findKey k (.int .i64 n) []).run P w = .ok none w := by simp [Instr.findKey, run_underlying hk, Result.andThen, Instr.findNow, Instr.findAsking]
  simp only [Instr.mapUpdate, Sem.run_bind, run_underlying ht, Result.andThen, MapKept.run_getObj_map hb', h1, h2]
  rw [MapKept.run_setObj_map _ hb']
  rfl
theorem run_len (ht : P.underlying t = some (.map k e)) (ty : TypeId) {es : Array MapEntry} {c : Nat} (hb : w.heap[b]? = some (.map es c)) : (Builtin.len_ #[t] ty #[.map (some b)]).run P w = .ok (goInt es.size) w := by
  simp [Builtin.len_, run_underlying ht, MapKept.run_getObj_map hb]
theorem run_next1 {it : Nat} (n : Int) (hb : w.heap[b]? = some (set1 n)) (hi : w.heap[it]? = some (.mapIter (some b) 1 #[] 1)) (ty : TypeId) :
    (Instr.next (.pointer (some ⟨it, 0, none⟩)) false ty).run P w = .ok (.tuple #[.bool true, .int .i64 n, .bool true]) (put w it (.mapIter (some b) 1 #[0] 1)) := by
  have hb' : w.heap[b]? = some (.map #[⟨.int .i64 n, .bool true, 0⟩] 1) := hb
  simp [Instr.next, getObj, setObj, Sem.run, hi, hb', Result.andThen, choose, Question.forced, put]
theorem run_next2 {it : Nat} (n : Int) (hb : w.heap[b]? = some (set1 n)) (hi : w.heap[it]? = some (.mapIter (some b) 1 #[0] 1)) (ty : TypeId) :
    (Instr.next (.pointer (some ⟨it, 0, none⟩)) false ty).run P w = .ok (.tuple #[.bool false]) w := by
  have hb' : w.heap[b]? = some (.map #[⟨.int .i64 n, .bool true, 0⟩] 1) := hb
  simp [Instr.next, getObj, Sem.run, hi, hb', Result.andThen, choose, Question.forced]
theorem run_entry1 {it : Nat} (n : Int) (hb : w.heap[b]? = some (set1 n)) (hi : w.heap[it]? = some (.mapIter (some b) 1 #[0] 1)) :
    (Instr.entry (.pointer (some ⟨it, 0, none⟩))).run P w = .ok (.tuple #[.int .i64 n, .bool true]) w := by
  have hb' : w.heap[b]? = some (.map #[⟨.int .i64 n, .bool true, 0⟩] 1) := hb
  simp [Instr.entry, getObj, Sem.run, hi, hb', Result.andThen]
end
end Go.Proofs.YtldcffonfidbcaaGreatDoor

/- Chapter 6: the machine of 'x*' and 'x+', as memory holds it; its steps. -/
namespace Go.Proofs.YtldcffonfidbcaaGreatDoor
open Go.RowKit
set_option maxRecDepth 100000 in
theorem indexI_any (M : Nat → Prop) (l : List Int) (A : Option Addr) (c : Nat) (t : Int) (w : World) (hl : l.length ≤ 4611686018427387904) (hR : Rd M w A (intC l)) :
    Calls Tryz.prog 132 #[.slice A l.length c, .int .i64 t] w fun e w' => (∃ i : Int, e = .returned (.int .i64 i) ∧ decide (0 ≤ i) = l.contains t) ∧ w = w' := by
  have HR := Lib.hid hR
  obtain ⟨r, hr⟩ : ∃ r, l.contains t = r := ⟨_, rfl⟩
  rw [hr]
  have HQ := Lib.hid hr
  clear hR hr
  go_enter Tryz.func132, Tryz.ntmps132
  go_wp2_with fail
  go_loopg [8] (l.length) (fun n b wr => ∃ (k : Nat), n = l.length - k ∧ k ≤ l.length ∧ b = .int .i64 k ∧ wr = w ∧ Hid ((l.drop k).contains t = r))
  case atStart => exact ⟨0, rfl, Nat.zero_le _, rfl, rfl, HQ.out⟩
  case round =>
    obtain ⟨k, rfl, hk, rfl, rfl, HRr⟩ := hrel
    by_cases hlt : k < l.length
    · have ht : ((k : Int) < (l.length : Int)) := by omega
      obtain ⟨ad, rfl, _, q0⟩ := HR.out.int hlt
      have hdr : l.drop k = l[k] :: l.drop (k + 1) := List.drop_eq_getElem_cons hlt
      generalize l[k] = x at q0 hdr
      have hRr := HRr.out
      rw [hdr, List.contains_cons] at hRr
      have HR2 := Lib.hid hRr
      clear hdr hRr HRr
      by_cases hx : t = x
      · subst hx
        have hb : (t == t) = true := by simp
        have HE := Lib.hid (show true = r by rw [← HR2.out, hb]; rfl)
        clear HR2
        go_wp2_with fail
        go_ret
        exact ⟨⟨k, rfl, by rw [← HE.out]; simp⟩, rfl⟩
      · have hb : (x == t) = false := by rw [beq_eq_false_iff_ne]; exact fun h => hx h.symm
        have hb' : (t == x) = false := by rw [beq_eq_false_iff_ne]; exact hx
        have HE := Lib.hid (show (l.drop (k + 1)).contains t = r by rw [← HR2.out, hb']; rfl)
        clear HR2 hx
        go_wp2_with fail
        go_roundg (l.length - (k + 1))
        case measure => omega
        case rel => exact ⟨k + 1, rfl, by omega, by first | rfl | go_num, rfl, HE.out⟩
    · have ht : ¬ ((k : Int) < (l.length : Int)) := by omega
      have hRr := HRr.out
      rw [List.drop_eq_nil_of_le (by omega)] at hRr
      have HR2 := Lib.hid hRr
      clear hRr HRr
      go_wp2_with fail
      go_ret
      exact ⟨⟨-1, rfl, by rw [← HR2.out]; rfl⟩, rfl⟩
set_option maxRecDepth 100000 in
theorem containsI_any (M : Nat → Prop) (l : List Int) (A : Option Addr) (c : Nat) (t : Int) (w : World) (hl : l.length ≤ 4611686018427387904) (hR : Rd M w A (intC l)) :
    Calls Tryz.prog 92 #[.slice A l.length c, .int .i64 t] w fun e w' => e = .returned (.bool (l.contains t)) ∧ w = w' := by
  have H := Lib.hid (indexI_any M l A c t w hl hR)
  obtain ⟨r, hr⟩ : ∃ r, l.contains t = r := ⟨_, rfl⟩
  rw [hr] at H ⊢
  clear hr
  clear hR
  go_enter Tryz.func92, Tryz.ntmps92
  go_wp2_with fail
  refine H.out.mono ?_
  rintro e w2 ⟨⟨i, rfl, hi⟩, rfl⟩
  have HI := Lib.hid hi
  clear hi
  go_wp2_with fail
  go_ret
  exact ⟨by rw [← HI.out]; rfl, rfl⟩
/-- A machine of one place: its types; may it be nothing. -/
structure MachAt (w : World) (m : Nat) (T : List Int) (star : Bool) : Prop where
  out : ∃ (TA : Option Addr) (tc tb fb nb c1 c2 c3 c4 cf ff : Nat),
    Blk w m [.slice (some ⟨tb, 0, none⟩) 1 c1, .slice (some ⟨fb, 0, none⟩) 1 c2, .bool star, .slice (some ⟨nb, 0, none⟩) 1 c3, .slice (some ⟨nb, 0, none⟩) 1 c4] 176 ∧
    w.cell? ⟨tb, 0, none⟩ = some (.slice TA T.length tc) ∧ Rd Nob w TA (intC T) ∧ w.cell? ⟨fb, 0, none⟩ = some (.slice (some ⟨ff, 0, none⟩) 1 cf) ∧ w.cell? ⟨ff, 0, none⟩ = some (.int .i64 0) ∧ w.cell? ⟨nb, 0, none⟩ = some (.int .i64 0)
theorem Fr.cell0 {w w' : World} (h : Fr Nob w w') {p : Addr} {v : Value} (hc : w.cell? p = some v) : w'.cell? p = some v := (h.cell (cell_lt hc) (fun h => h)).trans hc
theorem Fr.cellM {M : Nat → Prop} {w w' : World} (h : Fr M w w') {p : Addr} {v : Value} (hc : w.cell? p = some v) (hn : ¬ M p.block) : w'.cell? p = some v := (h.cell (cell_lt hc) hn).trans hc
theorem MachAt.fr {w w' : World} {m : Nat} {T : List Int} {star : Bool} (h : MachAt w m T star) (hf : Fr Nob w w') : MachAt w' m T star := by
  obtain ⟨TA, tc, tb, fb, nb, c1, c2, c3, c4, cf, ff, h1, h2, h3, h4, h5, h6⟩ := h.out
  exact ⟨TA, tc, tb, fb, nb, c1, c2, c3, c4, cf, ff, h1.fr hf (fun h => h), hf.cell0 h2, h3.fr hf (fun _ _ h => h), hf.cell0 h4, hf.cell0 h5, hf.cell0 h6⟩
set_option maxRecDepth 100000 in
theorem addfn_any (m : Nat) (T : List Int) (star : Bool) (hT : T.length ≤ 4611686018427387904) (a c bm bt bo b : Nat) (t : Int) (w : World) (hM : MachAt w m T star) (ha : w.cell? ⟨a, 0, none⟩ = some (.int .i64 0))
    (h1 : Blk w bm [.pointer (some ⟨m, 0, none⟩)] 123) (h2 : Blk w bt [.int .i64 t] 3) (h3 : Blk w bo [.map (some b)] 126) (hb : w.heap[b]? = some set0) :
    Calls Tryz.prog 131 #[.slice (some ⟨a, 0, none⟩) 1 c, .pointer (some ⟨bm, 0, none⟩), .pointer (some ⟨bt, 0, none⟩), .pointer (some ⟨bo, 0, none⟩)] w
      fun e w' => e = .returned (.tuple #[]) ∧ w'.heap[b]? = some (if T.contains t then set1 0 else set0) ∧ Fr (One b) w w' := by
  obtain ⟨TA, tc, tb, fb, nb, c1, c2, c3, c4, cf, ff, m1, m2, m3, m4, m5, m6⟩ := hM.out
  have HM3 := Lib.hid m3
  have HB := Lib.hid hb
  have HCT := Lib.hid (fun w h => containsI_any Nob T TA tc t w hT h)
  obtain ⟨r, hr⟩ : ∃ r, T.contains t = r := ⟨_, rfl⟩
  rw [hr] at HCT ⊢
  have d0 := m1.cell 0
  have hlm := m1.lt
  have x1 := h1.cell 0
  have x2 := h2.cell 0
  have x3 := h3.cell 0
  have l1 := h1.lt
  have l2 := h2.lt
  have l3 := h3.lt
  have la := cell_lt ha
  have lt := cell_lt m2
  simp only [List.getElem?_cons_zero] at d0 x1 x2 x3
  clear hM m1 m3 m4 m5 m6 h1 h2 h3 hb hr
  cases r
  · go_enter Tryz.func131, Tryz.ntmps131
    go_wp2_with fail
    refine wp_loop_rounds 2 ?_
    rw [rounds_succ]
    go_wp2_with fail
    go_quiet ((go_at_call 92; exact Calls.quiet_of_same ((HCT.out _ (HM3.out.fr ((Fr.refl Nob w).drewN _) (fun _ _ h => h))).mono fun _ _ ⟨h, k⟩ => ⟨h, k.symm⟩)))
    go_wp2_with fail
    rw [rounds_succ]
    go_wp2_with fail
    refine bodyPost_end (v := .tuple #[]) (by simp [results, go_sem]) rfl ⟨rfl, HB.out, (Fr.refl _ _).drewN _⟩
  · have hup := fun n => run_upd0 (P := Tryz.prog) (w := w.drewN n) Tryz.underlying126 Tryz.underlying3 (b := b) HB.out 0
    go_enter Tryz.func131, Tryz.ntmps131
    go_wp2_with fail
    refine wp_loop_rounds 2 ?_
    rw [rounds_succ]
    go_wp2_with fail
    go_quiet ((go_at_call 92; exact Calls.quiet_of_same ((HCT.out _ (HM3.out.fr ((Fr.refl Nob w).drewN _) (fun _ _ h => h))).mono fun _ _ ⟨h, k⟩ => ⟨h, k.symm⟩)))
    go_wp2_with fail
    rw [rounds_succ]
    go_wp2_with fail
    refine bodyPost_end (v := .tuple #[]) (by simp [results, go_sem]) rfl ⟨rfl, put_at HB.out, fr_put (M := One b) ((Fr.refl _ _).drewN _) (.inl rfl) _⟩
def setF (b : Bool) : Obj := if b then set1 0 else set0
set_option maxRecDepth 100000 in
theorem step_any (m : Nat) (T : List Int) (star : Bool) (hT : T.length ≤ 4611686018427387904) (s : Nat) (key : Int) (hkey : key = -1 ∨ key = 0) (t : Int) (w : World) (hM : MachAt w m T star) (hs : w.heap[s]? = some (set1 key)) :
    Calls Tryz.prog 91 #[.pointer (some ⟨m, 0, none⟩), .map (some s), .int .i64 t] w fun e w' => (∃ b, e = .returned (.map (some b)) ∧ w'.heap[b]? = some (setF (T.contains t))) ∧ Fr Nob w w' := by
  obtain ⟨r, hr⟩ : ∃ r, setF (T.contains t) = r := ⟨_, rfl⟩
  have hADD := fun a c bm bt bo b w h1 h2 h3 h4 h5 h6 => addfn_any m T star hT a c bm bt bo b t w h1 h2 h3 h4 h5 h6
  simp only [show (if T.contains t = true then set1 0 else set0) = r from hr] at hADD
  rw [hr]
  clear hr hT
  have HADD := Lib.hid hADD
  clear hADD
  have HM := Lib.hid hM
  have HS := Lib.hid hs
  have hmm := @run_makeMap Tryz.prog
  obtain ⟨W, hW⟩ : ∃ W, W = (((w.alloc (.cells #[.pointer (some ⟨m, 0, none⟩)] 123)).alloc (.cells #[.int .i64 t] 3)).alloc (.map #[] 0)).alloc (.cells #[.map (some (w.heap.size + 1 + 1))] 126) := ⟨_, rfl⟩
  have hf : Fr Nob w W := hW ▸ ((((Fr.refl Nob w).alloc _).alloc _).alloc _).alloc _
  have b1 : Blk W w.heap.size [.pointer (some ⟨m, 0, none⟩)] 123 := hW ▸ (((Blk.new w _ _).alloc _).alloc _).alloc _
  have b2 : Blk W (w.heap.size + 1) [.int .i64 t] 3 := hW ▸ ((Blk.new_at _ _ _ _ (by simp)).alloc _).alloc _
  have b3 : W.heap[w.heap.size + 1 + 1]? = some set0 := by
    rw [hW, heap_alloc_old _ _ (by simp)]
    have h := heap_alloc_new ((w.alloc (.cells #[.pointer (some ⟨m, 0, none⟩)] 123)).alloc (.cells #[.int .i64 t] 3)) (.map #[] 0)
    have e : ((w.alloc (.cells #[.pointer (some ⟨m, 0, none⟩)] 123)).alloc (.cells #[.int .i64 t] 3)).heap.size = w.heap.size + 1 + 1 := by simp
    rw [e] at h
    exact h
  have b4 : Blk W (w.heap.size + 1 + 1 + 1) [.map (some (w.heap.size + 1 + 1))] 126 := hW ▸ Blk.new_at _ _ _ _ (by simp)
  have hsz : W.heap.size = w.heap.size + 1 + 1 + 1 + 1 := by rw [hW]; simp
  have hsW : W.heap[s]? = some (set1 key) := hf.blk hs (fun h => h)
  have hrg := run_range_map (P := Tryz.prog) W 126 3 4 s _ 1 Tryz.underlying126 hsW
  obtain ⟨W1, hW1⟩ : ∃ W1, W.alloc (.mapIter (some s) 1 #[] 1) = W1 := ⟨_, rfl⟩
  rw [hW1] at hrg
  rw [hW] at hrg
  have hf1 : Fr Nob W W1 := hW1 ▸ (Fr.refl _ _).alloc _
  have hit : W1.heap[W.heap.size]? = some (.mapIter (some s) 1 #[] 1) := hW1 ▸ heap_alloc_new W _
  have hsW1 : W1.heap[s]? = some (set1 key) := (hf.same hf1).blk hs (fun h => h)
  have hn1 := fun ty => run_next1 (P := Tryz.prog) key hsW1 hit ty
  have hsz1 : W.heap.size < W1.heap.size := by rw [← hW1]; simp
  obtain ⟨W2, hW2⟩ : ∃ W2, put W1 W.heap.size (.mapIter (some s) 1 #[0] 1) = W2 := ⟨_, rfl⟩
  rw [hW2] at hn1
  have hf2 : Fr Nob w W2 := hW2 ▸ fr_put (hf.same hf1) (.inr hf.size) _
  have hf2W : Fr (One W.heap.size) W W2 := hW2 ▸ fr_put (M := One W.heap.size) (hf1.any) (.inl rfl) _
  have hit2 : W2.heap[W.heap.size]? = some (.mapIter (some s) 1 #[0] 1) := hW2 ▸ put_at hit
  have hs2 : W2.heap[s]? = some (set1 key) := hf2.blk hs (fun h => h)
  have hen := run_entry1 (P := Tryz.prog) key hs2 hit2
  obtain ⟨it, hI⟩ : ∃ it, W.heap.size = it := ⟨_, rfl⟩
  have hne : ∀ k, k < W.heap.size → ¬ One W.heap.size k := fun k hk h => by have : k = W.heap.size := h; omega
  have hb1 := b1.fr hf2W (hne _ b1.lt)
  have hb2 := b2.fr hf2W (hne _ b2.lt)
  have hb3 := hf2W.blk b3 (hne _ (lt_of_blk b3))
  have hb4 := b4.fr hf2W (hne _ b4.lt)
  rw [hI] at hn1 hen hit2
  have hgi : W.heap.size = w.heap.size + 1 + 1 + 1 + 1 := hsz
  have hrg' : (Instr.range 126 (.map (some s))).run Tryz.prog ((((w.alloc (.cells #[.pointer (some ⟨m, 0, none⟩)] 123)).alloc (.cells #[.int .i64 t] 3)).alloc (.map #[] 0)).alloc (.cells #[.map (some (w.heap.size + 1 + 1))] 126)) = .ok (.pointer (some ⟨it, 0, none⟩)) W1 := by
    rw [hrg, ← hW, hI]
  have hlt1 : s < W2.heap.size := lt_of_blk hs2
  have hsne : s ≠ it := by have := lt_of_blk hs; omega
  have HF2 := Lib.hid hf2
  have B1 := Lib.hid hb1
  have B2 := Lib.hid hb2
  have B3 := Lib.hid hb3
  have B4 := Lib.hid hb4
  have HIT2 := Lib.hid hit2
  have HS2 := Lib.hid hs2
  have HIW := Lib.hid (show it = w.heap.size + 1 + 1 + 1 + 1 by omega)
  obtain ⟨TA, tc, tb, fb, nb, c1, c2, c3, c4, cf, ff, m1, m2, m3, m4, m5, m6⟩ := (hM.fr hf2).out
  have HM2 := Lib.hid (hM.fr hf2)
  have HM6 := Lib.hid m6
  have HM5 := Lib.hid m5
  have HC4 := Lib.hid m4
  have p1 := m1.cell 1
  have p3 := m1.cell 3
  have hlm := m1.lt
  have x1 := hb1.cell 0
  simp only [List.getElem?_cons_zero, List.getElem?_cons_succ] at p1 p3 x1
  clear hM hs hf b1 b2 b3 b4 hsz hW hsW hrg hW1 hf1 hit hsW1 hsz1 hW2 hf2 hf2W hit2 hs2 hne hb1 hb2 hb3 hb4 hgi hI m1 m2 m3 m5 m6
  have hk : (key == -1) = true ∨ (key == -1) = false ∧ key = 0 := by rcases hkey with rfl | rfl <;> simp
  clear hkey
  rcases hk with hk | ⟨hk, rfl⟩
  · go_enter Tryz.func91, Tryz.ntmps91
    go_wp2_with fail
    refine wp_loop_rounds 3 ?_
    rw [rounds_succ]
    go_wp2_with fail
    refine (HADD.out nb c3 w.heap.size (w.heap.size + 1) (w.heap.size + 1 + 1 + 1) (w.heap.size + 1 + 1) W2 HM2.out HM6.out B1.out B2.out B4.out B3.out).mono ?_
    rintro e W3 ⟨rfl, hb3, hf3⟩
    have hq : ∀ k, k ≠ w.heap.size + 1 + 1 → ¬ One (w.heap.size + 1 + 1) k := fun k hk h => hk h
    have hs3 := hf3.blk HS2.out (hq _ (by have := lt_of_blk HS.out; omega))
    have hi3 := hf3.blk HIT2.out (hq _ (by have := HIW.out; omega))
    have hn2 := fun ty => run_next2 (P := Tryz.prog) _ hs3 hi3 ty
    have x4 := (B4.out.fr hf3 (hq _ (by omega))).cell 0
    have l4 := (B4.out.fr hf3 (hq _ (by omega))).lt
    simp only [List.getElem?_cons_zero] at x4
    have HB3 := Lib.hid hb3
    have HF3 := Lib.hid (HF2.out.trans (M := Nob) hf3 (fun k hk h => by have : k = w.heap.size + 1 + 1 := h; omega))
    clear hb3 hf3 hq hs3 hi3 hn1 hen hrg' hmm x1 p1 p3
    go_wp2_with fail
    rw [rounds_succ]
    go_wp2_with fail
    go_ret
    exact ⟨⟨_, rfl, HB3.out⟩, HF3.out⟩
  · have x2 : W2.cell? ⟨fb, 0, none⟩ = some (.slice (some ⟨ff, 0, none⟩) 1 cf) := HC4.out
    have l2 := cell_lt x2
    go_enter Tryz.func91, Tryz.ntmps91
    go_wp2_with fail
    refine wp_loop_rounds 3 ?_
    rw [rounds_succ]
    go_wp2_with fail
    refine (HADD.out ff cf w.heap.size (w.heap.size + 1) (w.heap.size + 1 + 1 + 1) (w.heap.size + 1 + 1) W2 HM2.out HM5.out B1.out B2.out B4.out B3.out).mono ?_
    rintro e W3 ⟨rfl, hb3, hf3⟩
    have hq : ∀ k, k ≠ w.heap.size + 1 + 1 → ¬ One (w.heap.size + 1 + 1) k := fun k hk h => hk h
    have hs3 := hf3.blk HS2.out (hq _ (by have := lt_of_blk HS.out; omega))
    have hi3 := hf3.blk HIT2.out (hq _ (by have := HIW.out; omega))
    have hn2 := fun ty => run_next2 (P := Tryz.prog) _ hs3 hi3 ty
    have x4 := (B4.out.fr hf3 (hq _ (by omega))).cell 0
    have l4 := (B4.out.fr hf3 (hq _ (by omega))).lt
    simp only [List.getElem?_cons_zero] at x4
    have HB3 := Lib.hid hb3
    have HF3 := Lib.hid (HF2.out.trans (M := Nob) hf3 (fun k hk h => by have : k = w.heap.size + 1 + 1 := h; omega))
    clear hb3 hf3 hq hs3 hi3 hn1 hen hrg' hmm x1 p1 p3
    go_wp2_with fail
    rw [rounds_succ]
    go_wp2_with fail
    go_ret
    exact ⟨⟨_, rfl, HB3.out⟩, HF3.out⟩
end Go.Proofs.YtldcffonfidbcaaGreatDoor

/- Chapter 6: the machine's 'run' and 'ends'. -/
namespace Go.Proofs.YtldcffonfidbcaaGreatDoor
open Go.RowKit
/-- How long the longest beginning of a word is, of these types alone. -/
def prefN (T : List Int) (l : List Int) : Nat := (l.takeWhile (T.contains ·)).length
theorem prefN_cons (T : List Int) (x : Int) (l : List Int) : prefN T (x :: l) = if T.contains x then prefN T l + 1 else 0 := by
  unfold prefN
  rw [List.takeWhile_cons]
  split <;> rfl
def keyN (n : Nat) : Int := if n = 0 then -1 else 0
theorem keyN_or (n : Nat) : keyN n = -1 ∨ keyN n = 0 := by unfold keyN; split <;> simp
set_option maxRecDepth 100000 in
theorem run_any (m : Nat) (T : List Int) (star : Bool) (hT : T.length ≤ 4611686018427387904) (l : List Int) (A : Option Addr) (c : Nat) (w : World) (hM : MachAt w m T star) (hR : Rd Nob w A (intC l)) (hl : l.length ≤ 4611686018427387904) :
    Calls Tryz.prog 59 #[.pointer (some ⟨m, 0, none⟩), .slice A l.length c] w fun e w' => (∃ b, e = .returned (.tuple #[.map (some b), .int .i64 (prefN T l)]) ∧ w'.heap[b]? = some (set1 (keyN (prefN T l)))) ∧ Fr Nob w w' := by
  obtain ⟨r, hr⟩ : ∃ r, prefN T l = r := ⟨_, rfl⟩
  rw [hr]
  have HR := Lib.hid hr
  have HM := Lib.hid hM
  have HRd := Lib.hid hR
  have HST := Lib.hid (fun s key hk t w h1 h2 => step_any m T star hT s key hk t w h1 h2)
  have hmm := @run_makeMap Tryz.prog
  have h0 : (w.alloc (.map #[] 0)).heap[w.heap.size]? = some set0 := heap_alloc_new w _
  have hup := run_upd0 (P := Tryz.prog) Tryz.underlying126 Tryz.underlying3 h0 (-1)
  obtain ⟨W1, hW1⟩ : ∃ W1, put (w.alloc (.map #[] 0)) w.heap.size (set1 (-1)) = W1 := ⟨_, rfl⟩
  rw [hW1] at hup
  have hf1 : Fr Nob w W1 := hW1 ▸ fr_put ((Fr.refl Nob w).alloc _) (.inr (Nat.le_refl _)) _
  have hb1 : W1.heap[w.heap.size]? = some (set1 (-1)) := hW1 ▸ put_at h0
  have HF1 := Lib.hid hf1
  have HB1 := Lib.hid hb1
  clear hr hM hR h0 hW1 hf1 hb1 hT
  go_enter Tryz.func59, Tryz.ntmps59
  go_wp2_with fail
  clear hup hmm
  go_loopg [6, 14] (l.length) (fun n v i wr => ∃ (k b : Nat), n = l.length - k ∧ k ≤ l.length ∧ v = .map (some b) ∧ i = .int .i64 k ∧ Hid (wr.heap[b]? = some (set1 (keyN k))) ∧ Hid (Fr Nob w wr) ∧ Hid (k + prefN T (l.drop k) = r))
  case atStart => exact ⟨0, _, rfl, Nat.zero_le _, rfl, rfl, HB1.out, HF1.out, by rw [Hid, ← HR.out, List.drop_zero, Nat.zero_add]⟩
  case round =>
    obtain ⟨k, b, rfl, hk, rfl, rfl, HB, HF, HRr⟩ := hrel
    by_cases hlt : k < l.length
    · have ht : ((k : Int) < (l.length : Int)) := by omega
      obtain ⟨ad, rfl, _, q0⟩ := (HRd.out.fr HF.out (fun _ _ h => h)).int hlt
      have hdr : l.drop k = l[k] :: l.drop (k + 1) := List.drop_eq_getElem_cons hlt
      generalize l[k] = x at q0 hdr
      have hRr := HRr.out
      rw [hdr, prefN_cons] at hRr
      have HR2 := Lib.hid hRr
      clear hdr hRr HRr
      go_wp2_with fail
      refine (HST.out b (keyN k) (keyN_or k) x wr (HM.out.fr HF.out) HB.out).mono ?_
      rintro e w2 ⟨⟨b2, rfl, hb2⟩, hF2⟩
      have HB2 := Lib.hid (HB.out)
      have HB2 := Lib.hid (hF2.blk HB.out (fun h => h))
      have HF2 := Lib.hid (HF.out.same hF2)
      clear hF2 q0
      cases hc : T.contains x
      · rw [hc] at hb2
        have hln := fun ty => run_len (P := Tryz.prog) Tryz.underlying126 ty hb2
        have hr : r = k := by have := HR2.out; rw [hc] at this; simpa using this.symm
        subst hr
        clear hc hb2 HR2
        go_wp2_with fail
        go_ret2
        exact ⟨⟨b, rfl, HB2.out⟩, HF2.out⟩
      · rw [hc] at hb2
        have hln := fun ty => run_len (P := Tryz.prog) Tryz.underlying126 ty hb2
        have hr : k + 1 + prefN T (l.drop (k + 1)) = r := by have := HR2.out; rw [hc] at this; simp only [if_true] at this; omega
        have HR3 := Lib.hid hr
        have HB3 := Lib.hid hb2
        clear hc hb2 HR2 hr
        go_wp2_with fail
        go_roundg (l.length - (k + 1))
        case measure => omega
        case rel => exact ⟨k + 1, b2, rfl, by omega, rfl, by first | rfl | go_num, HB3.out, HF2.out, HR3.out⟩
    · have ht : ¬ ((k : Int) < (l.length : Int)) := by omega
      have hr : r = l.length := by
        have := HRr.out
        rw [List.drop_eq_nil_of_le (by omega)] at this
        have h0 : prefN T [] = 0 := rfl
        omega
      have hkl : k = l.length := by omega
      subst hkl
      subst hr
      go_wp2_with fail
      go_ret2
      exact ⟨⟨b, rfl, HB.out⟩, HF.out⟩
set_option maxRecDepth 100000 in
theorem ends_any (m : Nat) (T : List Int) (star : Bool) (s : Nat) (n : Nat) (w : World) (hM : MachAt w m T star) (hs : w.heap[s]? = some (set1 (keyN n))) :
    Calls Tryz.prog 60 #[.pointer (some ⟨m, 0, none⟩), .map (some s)] w fun e w' => e = .returned (.bool (if n = 0 then star else true)) ∧ Fr Nob w w' := by
  obtain ⟨r, hr⟩ : ∃ r, (if n = 0 then star else true) = r := ⟨_, rfl⟩
  rw [hr]
  obtain ⟨key, hkey⟩ : ∃ key, keyN n = key := ⟨_, rfl⟩
  rw [hkey] at hs
  have hrg := run_range_map (P := Tryz.prog) w 126 3 4 s _ 1 Tryz.underlying126 hs
  obtain ⟨W1, hW1⟩ : ∃ W1, w.alloc (.mapIter (some s) 1 #[] 1) = W1 := ⟨_, rfl⟩
  rw [hW1] at hrg
  have hf1 : Fr Nob w W1 := hW1 ▸ (Fr.refl _ _).alloc _
  have hit : W1.heap[w.heap.size]? = some (.mapIter (some s) 1 #[] 1) := hW1 ▸ heap_alloc_new w _
  have hs1 : W1.heap[s]? = some (set1 key) := hf1.blk hs (fun h => h)
  have hn1 := fun ty => run_next1 (P := Tryz.prog) key hs1 hit ty
  obtain ⟨W2, hW2⟩ : ∃ W2, put W1 w.heap.size (.mapIter (some s) 1 #[0] 1) = W2 := ⟨_, rfl⟩
  rw [hW2] at hn1
  have hf2 : Fr Nob w W2 := hW2 ▸ fr_put hf1 (.inr (Nat.le_refl _)) _
  have hit2 : W2.heap[w.heap.size]? = some (.mapIter (some s) 1 #[0] 1) := hW2 ▸ put_at hit
  have hs2 : W2.heap[s]? = some (set1 key) := hf2.blk hs (fun h => h)
  have hen := run_entry1 (P := Tryz.prog) key hs2 hit2
  have hn2 := fun ty => run_next2 (P := Tryz.prog) key hs2 hit2 ty
  obtain ⟨TA, tc, tb, fb, nb, c1, c2, c3, c4, cf, ff, m1, m2, m3, m4, m5, m6⟩ := (hM.fr hf2).out
  have p2 := m1.cell 2
  have p4 := m1.cell 4
  have hlm := m1.lt
  have hln := cell_lt m6
  simp only [List.getElem?_cons_zero, List.getElem?_cons_succ] at p2 p4
  have HF2 := Lib.hid hf2
  have HRl := Lib.hid (show Rd Nob W2 (some ⟨nb, 0, none⟩) (intC [0]) from fun _ => ⟨_, rfl, fun h => h, fun j u hj => by
    cases j with
    | zero => rw [show u = .int .i64 0 by simpa [intC] using hj.symm, add_lit]; exact m6
    | succ j => simp [intC] at hj⟩)
  have HCT := Lib.hid (fun t w h => containsI_any Nob [0] (some ⟨nb, 0, none⟩) c4 t w (by simp) h)
  clear hM hs hW1 hf1 hit hs1 hW2 hf2 hit2 hs2 m1 m2 m3 m4 m5 m6
  by_cases hn : n = 0
  · have hk : key = -1 := by rw [← hkey, keyN, if_pos hn]
    subst hk
    have hr' : star = r := by rw [← hr, if_pos hn]
    subst hr'
    clear hr hkey hn
    cases star
    · go_enter Tryz.func60, Tryz.ntmps60
      go_wp2_with fail
      refine wp_loop_rounds 3 ?_
      rw [rounds_succ]
      go_wp2_with fail
      clear hn1
      rw [rounds_succ]
      go_wp2_with fail
      go_ret
      exact ⟨rfl, HF2.out⟩
    · go_enter Tryz.func60, Tryz.ntmps60
      go_wp2_with fail
      refine wp_loop_rounds 3 ?_
      rw [rounds_succ]
      go_wp2_with fail
      go_ret
      exact ⟨rfl, HF2.out⟩
  · have hk : key = 0 := by rw [← hkey, keyN, if_neg hn]
    subst hk
    have hr' : r = true := by rw [← hr, if_neg hn]
    subst hr'
    clear hr hkey hn
    go_enter Tryz.func60, Tryz.ntmps60
    go_wp2_with fail
    refine wp_loop_rounds 3 ?_
    rw [rounds_succ]
    go_wp2_with fail
    refine (HCT.out 0 W2 HRl.out).mono ?_
    rintro e w3 ⟨rfl, rfl⟩
    go_wp2_with fail
    go_ret
    exact ⟨rfl, HF2.out⟩
end Go.Proofs.YtldcffonfidbcaaGreatDoor
