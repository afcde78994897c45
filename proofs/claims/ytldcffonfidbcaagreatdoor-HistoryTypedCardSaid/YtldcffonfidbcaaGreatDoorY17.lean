/- A part of the proof for chapter 10: Tokens, StepDo, StepDoA; no conditions. -/
import Derived.Test.YtldcffonfidbcaaGreatDoorY11
import Derived.Test.YtldcffonfidbcaaGreatDoorY16
import Derived.Laws.MakeOwn
import Derived.Deep.OwnRows
import Derived.StillTailTactics
/- Chapter 9: lists, joined into an own one. -/
namespace Go.Proofs.YtldcffonfidbcaaGreatDoor
open Go.RowKit
theorem Tok.cells_len4 (x : Tok) : x.cells.length = 4 := rfl
theorem infoTok : (Tryz.prog.info? 40).map (fun i => (i.zero, i.size, i.bytes)) = some (some (.agg #[.int .i64 0, .int .i64 0, .int .i64 0, .int .i64 0]), 4, 32) := by kernel_rfl
theorem infoTok4 : (Tryz.prog.info? 40).map (·.size) = some 4 := by
  have h := infoTok
  cases hq : Tryz.prog.info? 40 with
  | none => rw [hq] at h; simp at h
  | some i => rw [hq] at h; simp only [Option.map_some, Option.some.injEq, Prod.mk.injEq] at h; simp [h.2.1]
/-- A new row of tokens. -/
theorem make_toks (n : Nat) (hn : n ≤ 1000000) (w : World) : ∃ cur : List Value, cur.length = 4 * n ∧
    (Instr.makeSlice 22 (.int .i64 (n : Int)) (.int .i64 (n : Int))).run Tryz.prog w = .ok (.slice (some ⟨w.heap.size, 0, none⟩) n n) (w.alloc (.cells cur.toArray 40)) := by
  obtain ⟨i, hi, hzz⟩ := Option.map_eq_some_iff.1 infoTok
  simp only [Prod.mk.injEq] at hzz
  obtain ⟨hz, hs, hb⟩ := hzz
  have hr := run_make (P := Tryz.prog) 22 40 i _ Tryz.underlying22 hi hz .i64 .i64 n n (by omega) (Int.le_refl _) (by rw [hb]; omega) (by omega) (w := w)
  rw [hs] at hr
  simp only [Int.toNat_natCast] at hr
  exact ⟨(madeCells (Value.agg #[.int .i64 0, .int .i64 0, .int .i64 0, .int .i64 0]).cells (n * 4)).toList, by rw [Array.length_toList, size_madeCells]; omega, by rw [hr]⟩
/-- A piece of a list: where it lies, what it could hold, what it holds. -/
structure Seg where
  a : Option Addr
  c : Nat
  l : List Tok
def Seg.v (x : Seg) : Value := .slice x.a x.l.length x.c
def segsL (L : List Seg) : List Tok := L.flatMap Seg.l
theorem segs_take (L : List Seg) (k : Nat) (hk : k < L.length) : segsL (L.take (k + 1)) = segsL (L.take k) ++ L[k].l := by
  rw [List.take_succ_eq_append_getElem hk]; unfold segsL; rw [List.flatMap_append, List.flatMap_singleton]
theorem segs_take_le (L : List Seg) (k : Nat) : (segsL (L.take k)).length ≤ (segsL L).length := by
  have : segsL L = segsL (L.take k) ++ segsL (L.drop k) := by unfold segsL; rw [← List.flatMap_append, List.take_append_drop]
  rw [this, List.length_append]; omega
theorem tokC_one (l : List Tok) : ∀ v ∈ tokC l, v.oneCell' = true := by
  intro v hv
  obtain ⟨x, _, hx⟩ := List.mem_flatMap.1 hv
  simp only [Tok.cells, List.mem_cons, List.not_mem_nil, or_false] at hx
  rcases hx with rfl | rfl | rfl | rfl <;> rfl
theorem splice_toks (d x : List Tok) (cur : List Value) (h : 4 * d.length + 4 * x.length ≤ cur.length) :
    splice (tokC d ++ cur.drop (4 * d.length)) (4 * d.length) (tokC x) = tokC (d ++ x) ++ cur.drop (4 * (d ++ x).length) := by
  unfold splice
  rw [List.take_append_of_le_length (by rw [tokC_length]; omega), List.take_of_length_le (by rw [tokC_length]; omega), List.drop_append, List.drop_eq_nil_of_le (by rw [tokC_length]; omega), List.nil_append, List.drop_drop, tokC_append, List.append_assoc]
  simp only [tokC_length, List.length_append]
  congr 3
  omega
/-- A list of one's own, in a block that is new. -/
def NewDoc (w0 w : World) (v : Value) (l : List Tok) : Prop := ∃ g, v = .slice (some ⟨g, 0, none⟩) l.length l.length ∧ w0.heap.size ≤ g ∧ Blk w g (tokC l) 40
theorem NewDoc.doc {w0 w : World} {v : Value} {l : List Tok} (h : NewDoc w0 w v l) : Doc (fun k => k < w0.heap.size) w v l := by
  obtain ⟨g, rfl, hg, hb⟩ := h
  refine ⟨_, l.length, rfl, Nat.le_refl _, fun _ => ⟨_, rfl, Nat.not_lt.2 hg, fun j u hu => ?_⟩⟩
  rw [add_lit]
  exact (hb.cell j).trans hu
theorem NewDoc.old {w0 w1 w : World} {v : Value} {l : List Tok} (h : NewDoc w1 w v l) (hs : w0.heap.size ≤ w1.heap.size) : NewDoc w0 w v l := by
  obtain ⟨g, rfl, hg, hb⟩ := h
  exact ⟨g, rfl, Nat.le_trans hs hg, hb⟩
set_option maxRecDepth 100000 in
set_option maxHeartbeats 4000000 in
theorem tokens_any (M : Nat → Prop) (L : List Seg) (A : Option Addr) (c : Nat) (w : World) (hr : Rd M w A (L.map Seg.v)) (hd : ∀ x ∈ L, Rd M w x.a (tokC x.l)) (hn : (segsL L).length ≤ 100000) (hL : L.length ≤ 100000) :
    Calls Tryz.prog 75 #[.slice A L.length c] w fun e w' => ∃ v, e = .returned v ∧ NewDoc w w' v (segsL L) ∧ Fr Nob w w' := by
  have HRd := Lib.hid hr
  have HD := Lib.hid hd
  clear hr hd
  go_enter Tryz.func75, Tryz.ntmps75
  go_wp2_with fail
  go_loopg [3, 12] (L.length) (fun n s i wr => ∃ (k : Nat), n = L.length - k ∧ k ≤ L.length ∧ s = .int .i64 (segsL (L.take k)).length ∧ i = .int .i64 k ∧ wr = w)
  case atStart => exact ⟨0, rfl, Nat.zero_le _, rfl, rfl, rfl⟩
  case round =>
    obtain ⟨k, rfl, hk, rfl, rfl, rfl⟩ := hrel
    by_cases hlt : k < L.length
    · have ht : ((k : Int) < (L.length : Int)) := by omega
      obtain ⟨ad, rfl, _, q0⟩ := (HRd.out).at_ (j := k) (by simpa using hlt)
      rw [List.getElem_map] at q0
      have hlb := cell_lt q0
      rw [add_block] at hlb
      have hs := segs_take L k hlt
      have hs1 := segs_take_le L (k + 1)
      rw [hs, List.length_append] at hs1
      generalize hx : L[k] = x at q0 hs hs1
      simp only [Seg.v] at q0
      have HS := Lib.hid (show (segsL (List.take (k + 1) L)).length = (segsL (List.take k L)).length + x.l.length by rw [hs, List.length_append])
      clear hs
      generalize (segsL (List.take k L)).length = m at HS hs1
      go_wp2_with fail
      go_roundg (L.length - (k + 1))
      case measure => omega
      case rel => exact ⟨k + 1, rfl, by omega, by rw [HS.out]; first | rfl | go_num, by first | rfl | go_num, rfl⟩
    · have ht : ¬ ((k : Int) < (L.length : Int)) := by omega
      obtain rfl : k = L.length := by omega
      rw [List.take_length]
      obtain ⟨N, hN⟩ : ∃ N, (segsL L).length = N := ⟨_, rfl⟩
      rw [hN] at hn ⊢
      obtain ⟨cur, hcl, hmk⟩ := make_toks N (by omega) wr
      obtain ⟨W, hW⟩ : ∃ W, wr.alloc (.cells cur.toArray 40) = W := ⟨_, rfl⟩
      have HF := Lib.hid (show Fr Nob wr W by rw [← hW]; exact (Fr.refl _ _).alloc _)
      have HB := Lib.hid (show Blk W wr.heap.size cur 40 by rw [← hW]; exact Blk.new _ _ _)
      rw [hW] at hmk
      clear hW
      go_wp2_with fail
      go_loopg [7, 25] (L.length) (fun n s i wx => ∃ (k : Nat), n = L.length - k ∧ k ≤ L.length ∧ s = .int .i64 (segsL (L.take k)).length ∧ i = .int .i64 k ∧ Hid (Fr Nob wr wx) ∧ Hid (Blk wx wr.heap.size (tokC (segsL (L.take k)) ++ cur.drop (4 * (segsL (L.take k)).length)) 40))
      case atStart => exact ⟨0, rfl, Nat.zero_le _, rfl, rfl, HF.out, show Blk _ _ _ _ by simpa [segsL, tokC] using HB.out⟩
      case round =>
        obtain ⟨k, rfl, hk, rfl, rfl, HF2, HB2⟩ := hrel
        by_cases hlt : k < L.length
        · have ht : ((k : Int) < (L.length : Int)) := by omega
          obtain ⟨ad, rfl, _, q0⟩ := (HRd.out.fr HF2.out (fun _ _ h => h.elim)).at_ (j := k) (by simpa using hlt)
          rw [List.getElem_map] at q0
          have hlb := cell_lt q0
          rw [add_block] at hlb
          have hs := segs_take L k hlt
          have hs1 := segs_take_le L (k + 1)
          rw [hs, List.length_append, hN] at hs1
          have HX := Lib.hid ((HD.out L[k] (List.getElem_mem hlt)).fr HF2.out (fun _ _ h => h.elim))
          generalize hx : L[k] = x at q0 hs hs1 HX
          obtain ⟨xa, xc, xl⟩ := x
          simp only [Seg.v] at q0 hs hs1 HX
          have HS := Lib.hid hs
          obtain ⟨d, hdd⟩ : ∃ d, segsL (List.take k L) = d := ⟨_, rfl⟩
          rw [hdd] at HS HB2 hs1 ⊢
          have hlen : (tokC d ++ cur.drop (4 * d.length)).length = 4 * N := by rw [List.length_append, tokC_length, List.length_drop]; omega
          have HSP := Lib.hid (splice_toks d xl cur (by omega))
          have hCs := tokC_length xl
          obtain ⟨Cs, hcs⟩ : ∃ Cs, tokC xl = Cs := ⟨_, rfl⟩
          have HC1 := Lib.hid (tokC_one xl)
          rw [hcs] at HX HSP hCs HC1
          obtain ⟨Cur, hcur⟩ : ∃ Cur, tokC d ++ cur.drop (4 * d.length) = Cur := ⟨_, rfl⟩
          rw [hcur] at HSP HB2 hlen
          obtain ⟨dl, hdl⟩ : ∃ dl, d.length = dl := ⟨_, rfl⟩
          obtain ⟨xn, hxn⟩ : ∃ xn, xl.length = xn := ⟨_, rfl⟩
          have HDL := Lib.hid hdl
          have HXN := Lib.hid hxn
          rw [hdl, hxn] at hs1
          rw [hdl] at HSP ⊢
          rw [hxn] at q0 hCs
          have HT := Lib.hid (show xn = Nat.min xn (N - dl) from (Nat.min_eq_left (by omega)).symm)
          clear hs hdd hcs hcur hdl hxn hx
          have HNE := Lib.hid (show 0 < xn → ∃ ad, xa = some ad ∧ ∀ (j : Nat) (v : Value), Cs[j]? = some v → wr.cell? (ad.add j) = some v from fun h0 => by
            obtain ⟨ad', e, _, hc⟩ := HX.out (by intro e; rw [e] at hCs; simp at hCs; omega)
            exact ⟨ad', e, hc⟩)
          by_cases hND : N = dl
          · subst hND
            have hx0 : xn = 0 := by omega
            go_wp2_with (refine wpList_copyS rfl _ _ _ _ rfl 40 4 Tryz.underlying22 infoTok4 _ _ _ _ _ _ rfl rfl _ (N * 4) Cur 40 HB2.out Cs ?hn (by omega) ?hpos (by omega) HC1.out xn ?hm ?_; rotate_left 3; (intro w2 HB3 HF3))
            case hn => rw [hCs, Nat.mul_comm]; simp [hx0]
            case hpos => intro h0; exfalso; omega
            case hm => simp [hx0]
            go_roundg (L.length - (k + 1))
            case measure => omega
            case rel =>
              refine ⟨k + 1, rfl, by omega, ?_, by first | rfl | go_num, HF2.out.trans HF3.out (fun g hg hm => ?_), ?_⟩
              · rw [HS.out, List.length_append, HDL.out, HXN.out]; first | rfl | go_num
              · exact absurd hm (Nat.ne_of_lt hg)
              · show Blk _ _ _ _
                rw [HS.out, ← HSP.out, Nat.mul_comm 4]
                exact HB3.out
          · go_wp2_with (refine wpList_copyS rfl _ _ _ _ rfl 40 4 Tryz.underlying22 infoTok4 _ _ _ _ _ _ rfl rfl _ (dl * 4) Cur 40 HB2.out Cs ?hn (by omega) ?hpos (by omega) HC1.out xn ?hm ?_; rotate_left 3; (intro w2 HB3 HF3))
            case hn => rw [hCs, Nat.mul_comm]; exact congrArg (· * 4) HT.out
            case hpos => exact fun _ => HNE.out (by omega)
            case hm => exact HT.out
            go_roundg (L.length - (k + 1))
            case measure => omega
            case rel =>
              refine ⟨k + 1, rfl, by omega, ?_, by first | rfl | go_num, HF2.out.trans HF3.out (fun g hg hm => ?_), ?_⟩
              · rw [HS.out, List.length_append, HDL.out, HXN.out]; first | rfl | go_num
              · exact absurd hm (Nat.ne_of_lt hg)
              · show Blk _ _ _ _
                rw [HS.out, ← HSP.out, Nat.mul_comm 4]
                exact HB3.out
        · have ht : ¬ ((k : Int) < (L.length : Int)) := by omega
          obtain rfl : k = L.length := by omega
          rw [List.take_length, hN, List.drop_eq_nil_of_le (by omega), List.append_nil] at HB2
          go_wp2_with fail
          go_ret
          exact ⟨.slice (some ⟨_, 0, none⟩) N N, rfl, ⟨_, by rw [hN], Nat.le_refl _, HB2.out⟩, HF2.out⟩
end Go.Proofs.YtldcffonfidbcaaGreatDoor

/- Chapter 9: a step, done: a replacement. -/
namespace Go.Proofs.YtldcffonfidbcaaGreatDoor
open Go.RowKit
/-- Where a piece of a list lies. -/
def cutA (A : Option Addr) (c l : Nat) : Option Addr := if c = l then A else A.map (·.add (l * 4))
theorem sizeTok (w : World) : (sizeOf 40).run Tryz.prog w = .ok 4 w := by
  have h := infoTok4
  cases hq : Tryz.prog.info? 40 with
  | none => rw [hq] at h; simp at h
  | some i => rw [hq] at h; simp at h; simp [sizeOf, typeInfo, hq, h]
theorem elemTok : Tryz.prog.elem 22 = 40 := by kernel_rfl
theorem cut_lh (A : Option Addr) (n c l h : Nat) (h1 : l ≤ h) (h2 : h ≤ c) (w : World) :
    (Instr.slice 22 (.slice A n c) (some (.int .i64 (l : Int))) (some (.int .i64 (h : Int))) none).run Tryz.prog w = .ok (.slice (cutA A c l) (h - l) (c - l)) w := by
  rw [run_slice_lh (P := Tryz.prog) (w := w) (t := 22) (a := A) (len := n) (cap := c) (ht := by rw [elemTok]; exact Tryz.underlying22) .i64 .i64 l h (by omega) (by omega) (by omega), elemTok, sizeTok]
  simp [Result.andThen, sliced, cutA]
theorem cut_h (A : Option Addr) (n c h : Nat) (h2 : h ≤ c) (w : World) :
    (Instr.slice 22 (.slice A n c) none (some (.int .i64 (h : Int))) none).run Tryz.prog w = .ok (.slice (cutA A c 0) h c) w := by
  rw [run_slice_h (P := Tryz.prog) (w := w) (t := 22) (a := A) (len := n) (cap := c) (ht := by rw [elemTok]; exact Tryz.underlying22) .i64 h (by omega) (by omega), elemTok, sizeTok]
  simp [Result.andThen, sliced, cutA]
theorem cut_l (A : Option Addr) (n c l : Nat) (h1 : l ≤ n) (w : World) :
    (Instr.slice 22 (.slice A n c) (some (.int .i64 (l : Int))) none none).run Tryz.prog w = .ok (.slice (cutA A c l) (n - l) (c - l)) w := by
  rw [run_slice_l (P := Tryz.prog) (w := w) (t := 22) (a := A) (len := n) (cap := c) (ht := by rw [elemTok]; exact Tryz.underlying22) .i64 l (by omega) (by omega), elemTok, sizeTok]
  simp [Result.andThen, sliced, cutA]
theorem tokC_split (l : List Tok) (k : Nat) : tokC l = tokC (l.take k) ++ tokC (l.drop k) := by rw [← tokC_append, List.take_append_drop]
theorem tokC_drop (l : List Tok) (k : Nat) : tokC (l.drop k) = (tokC l).drop (k * 4) := by
  by_cases h : k ≤ l.length
  · have hl : (tokC (l.take k)).length = k * 4 := by rw [tokC_length, List.length_take]; omega
    have e := congrArg (List.drop (k * 4)) (tokC_split l k)
    rw [List.drop_append, List.drop_eq_nil_of_le (Nat.le_of_eq hl), List.nil_append, hl, Nat.sub_self, List.drop_zero] at e
    exact e.symm
  · rw [List.drop_eq_nil_of_le (by omega), List.drop_eq_nil_of_le (by rw [tokC_length]; omega)]; rfl
theorem tokC_take (l : List Tok) (k : Nat) : tokC (l.take k) = (tokC l).take (k * 4) := by
  by_cases h : k ≤ l.length
  · have hl : (tokC (l.take k)).length = k * 4 := by rw [tokC_length, List.length_take]; omega
    have e := congrArg (List.take (k * 4)) (tokC_split l k)
    rw [List.take_append_of_le_length (Nat.le_of_eq hl.symm), List.take_of_length_le (Nat.le_of_eq hl)] at e
    exact e.symm
  · rw [List.take_of_length_le (by omega), List.take_of_length_le (by rw [tokC_length]; omega)]
theorem Rd.drop {M : Nat → Prop} {w : World} {A : Option Addr} {xs : List Value} (h : Rd M w A xs) (k : Nat) : Rd M w (A.map (·.add k)) (xs.drop k) := fun hx => by
  obtain ⟨ad, rfl, hn, hc⟩ := h (by rintro rfl; simp at hx)
  refine ⟨ad.add k, rfl, by rw [add_block]; exact hn, fun j u hu => ?_⟩
  rw [add_of_add]
  rw [List.getElem?_drop] at hu
  exact hc _ u hu
/-- A piece of a list is read where it lies. -/
theorem Rd.cut {M : Nat → Prop} {w : World} {A : Option Addr} {l : List Tok} (h : Rd M w A (tokC l)) {c k : Nat} (hc : l.length ≤ c) (n : Nat) : Rd M w (cutA A c k) (tokC ((l.drop k).take n)) := by
  rw [tokC_take]
  refine Rd.take ?_ _
  unfold cutA
  split
  · rename_i e
    rw [List.drop_eq_nil_of_le (by omega)]
    exact Rd.nil _ _ _
  · rw [tokC_drop]
    exact h.drop _
theorem Rd.cut0 {M : Nat → Prop} {w : World} {A : Option Addr} {l : List Tok} (h : Rd M w A (tokC l)) {c : Nat} (hc : l.length ≤ c) (n : Nat) : Rd M w (cutA A c 0) (tokC (l.take n)) := by
  have := h.cut (k := 0) hc n
  rwa [List.drop_zero] at this
theorem Rd.cutD {M : Nat → Prop} {w : World} {A : Option Addr} {l : List Tok} (h : Rd M w A (tokC l)) {c : Nat} (hc : l.length ≤ c) (k : Nat) : Rd M w (cutA A c k) (tokC (l.drop k)) := by
  have := h.cut (k := k) hc l.length
  rwa [List.take_of_length_le (by rw [List.length_drop]; omega)] at this
attribute [local go_sem high] cut_lh cut_h cut_l
/-- Lists, joined: their row has just been built. -/
theorem tokens_new (M : Nat → Prop) (L : List Seg) (w0 w : World) (T : TypeId) (cs : List Value) (n : Nat) (hF : Fr Nob w0 w) (hd : ∀ x ∈ L, Rd M w0 x.a (tokC x.l)) (hcs : L.map Seg.v = cs) (hn : L.length = n) (hL : (segsL L).length ≤ 100000) (hL2 : n ≤ 100000) :
    Calls Tryz.prog 75 #[.slice (some ⟨w.heap.size, 0, none⟩) n n] (w.alloc (.cells cs.toArray T)) fun e w' => ∃ v, e = .returned v ∧ NewDoc w0 w' v (segsL L) ∧ Fr Nob w0 w' := by
  subst hn hcs
  have hfa : Fr Nob w0 (w.alloc (.cells (L.map Seg.v).toArray T)) := hF.alloc _
  have hrow : Rd Nob (w.alloc (.cells (L.map Seg.v).toArray T)) (some ⟨w.heap.size, 0, none⟩) (L.map Seg.v) := fun _ => ⟨_, rfl, fun h => h, fun j u hu => by rw [add_lit]; exact ((Blk.new w (L.map Seg.v) T).cell j).trans hu⟩
  refine (tokens_any Nob L _ L.length _ hrow (fun x hx => ((hd x hx).mono (fun _ h => h.elim)).fr hfa (fun _ _ h => h)) hL hL2).mono ?_
  rintro e w' ⟨v, rfl, hv, hF2⟩
  exact ⟨v, rfl, hv.old hfa.size, hfa.same hF2⟩
def repF (f t : Nat) (x l : List Tok) : List Tok := l.take f ++ (x ++ l.drop t)
set_option maxRecDepth 100000 in
set_option maxHeartbeats 4000000 in
theorem stepdo_rep (M : Nat → Prop) (f t : Nat) (gf gt ins mk : Int) (A B : Option Addr) (x l : List Tok) (c b : Nat) (w : World) (hl : Rd M w A (tokC l)) (hx : Rd M w B (tokC x)) (hc : l.length ≤ c) (hft : f ≤ t) (htl : t ≤ l.length) (hn : l.length ≤ 10000) (hnx : x.length ≤ 10000) :
    Calls Tryz.prog 77 #[.slice A l.length c, .agg #[.int .i64 0, .int .i64 f, .int .i64 t, .int .i64 gf, .int .i64 gt, .int .i64 ins, .slice B x.length b, .int .i64 mk]] w fun e w' => ∃ v, e = .returned v ∧ NewDoc w w' v (repF f t x l) ∧ Fr Nob w w' := by
  obtain ⟨ln, hln⟩ : ∃ ln, l.length = ln := ⟨_, rfl⟩
  obtain ⟨xn, hxn⟩ : ∃ xn, x.length = xn := ⟨_, rfl⟩
  have HLN := Lib.hid hln
  have HXN := Lib.hid hxn
  have HRl := Lib.hid hl
  have HRx := Lib.hid hx
  rw [hln] at hc htl hn ⊢
  rw [hxn] at hnx ⊢
  clear hl hx hln hxn
  go_enter Tryz.func77, Tryz.ntmps77
  go_wp2_with fail
  obtain ⟨W, hW⟩ : ∃ W, w.alloc (.cells #[.int .i64 0, .int .i64 f, .int .i64 t, .int .i64 gf, .int .i64 gt, .int .i64 ins, .slice B xn b, .int .i64 mk] 32) = W := ⟨_, rfl⟩
  have HF := Lib.hid (show Fr Nob w W by rw [← hW]; exact (Fr.refl _ _).alloc _)
  have hB : Blk W w.heap.size [.int .i64 0, .int .i64 f, .int .i64 t, .int .i64 gf, .int .i64 gt, .int .i64 ins, .slice B xn b, .int .i64 mk] 32 := by rw [← hW]; exact Blk.new _ _ _
  have d1 := hB.cell 1
  have d2 := hB.cell 2
  have d6 := hB.cell 6
  have hlb := hB.lt
  simp only [List.getElem?_cons_zero, List.getElem?_cons_succ] at d1 d2 d6
  rw [hW]
  clear hW hB
  have hfc : f ≤ c := by omega
  go_still_tail 10, (by kernel_rfl)
  change wpList _ _ _ _ _ W.drew
  generalize hwd : W.drew = wd
  have HF2 := Lib.hid (show Fr Nob w wd by subst hwd; exact HF.out.drew)
  clear hwd d1 d2 d6 hlb
  go_wp2_with fail
  refine (tokens_new M [⟨cutA A c 0, c, l.take f⟩, ⟨B, b, x⟩, ⟨cutA A c t, c - t, l.drop t⟩] w wd _ _ 3 HF2.out ?hd ?hcs rfl ?hL (by omega)).mono ?_
  case hd =>
    have h1 := HLN.out
    intro y hy
    simp only [List.mem_cons, List.not_mem_nil, or_false] at hy
    rcases hy with rfl | rfl | rfl
    · exact HRl.out.cut0 (by omega) f
    · exact HRx.out
    · exact HRl.out.cutD (by omega) t
  case hcs =>
    have h1 := HLN.out
    have h2 := HXN.out
    simp only [List.map_cons, List.map_nil, Seg.v, List.length_take, List.length_drop, h1, h2]
    rw [Nat.min_eq_left (by omega)]
  case hL =>
    have h1 := HLN.out
    have h2 := HXN.out
    simp only [segsL, List.flatMap_cons, List.flatMap_nil, List.length_append, List.length_take, List.length_drop, List.length_nil, h1, h2]
    omega
  rintro e w' ⟨v, rfl, hv, hF3⟩
  have HV := Lib.hid hv
  have HF3 := Lib.hid hF3
  clear hv hF3
  go_wp2_with fail
  go_ret
  refine ⟨v, rfl, ?_, HF3.out⟩
  have := HV.out
  simpa [segsL, repF] using this
end Go.Proofs.YtldcffonfidbcaaGreatDoor

/- Chapter 9: a step, done: around. -/
namespace Go.Proofs.YtldcffonfidbcaaGreatDoor
open Go.RowKit
attribute [local go_sem high] cut_lh cut_h cut_l
def aroF (f t gf gt i : Nat) (x l : List Tok) : List Tok := l.take f ++ (x.take i ++ ((l.drop gf).take (gt - gf) ++ (x.drop i ++ l.drop t)))
set_option maxRecDepth 100000 in
set_option maxHeartbeats 4000000 in
theorem stepdo_aro (M : Nat → Prop) (f t gf gt i : Nat) (mk : Int) (A B : Option Addr) (x l : List Tok) (c b : Nat) (w : World) (hl : Rd M w A (tokC l)) (hx : Rd M w B (tokC x)) (hc : l.length ≤ c) (hb : x.length ≤ b) (h1 : f ≤ gf) (h2 : gf ≤ gt) (h3 : gt ≤ t) (h4 : i ≤ x.length) (htl : t ≤ l.length) (hn : l.length ≤ 10000) (hnx : x.length ≤ 10000) :
    Calls Tryz.prog 77 #[.slice A l.length c, .agg #[.int .i64 1, .int .i64 f, .int .i64 t, .int .i64 gf, .int .i64 gt, .int .i64 i, .slice B x.length b, .int .i64 mk]] w fun e w' => ∃ v, e = .returned v ∧ NewDoc w w' v (aroF f t gf gt i x l) ∧ Fr Nob w w' := by
  obtain ⟨ln, hln⟩ : ∃ ln, l.length = ln := ⟨_, rfl⟩
  obtain ⟨xn, hxn⟩ : ∃ xn, x.length = xn := ⟨_, rfl⟩
  have HLN := Lib.hid hln
  have HXN := Lib.hid hxn
  have HRl := Lib.hid hl
  have HRx := Lib.hid hx
  rw [hln] at hc htl hn ⊢
  rw [hxn] at hnx hb h4 ⊢
  clear hl hx hln hxn
  go_enter Tryz.func77, Tryz.ntmps77
  go_wp2_with fail
  obtain ⟨W, hW⟩ : ∃ W, w.alloc (.cells #[.int .i64 1, .int .i64 f, .int .i64 t, .int .i64 gf, .int .i64 gt, .int .i64 i, .slice B xn b, .int .i64 mk] 32) = W := ⟨_, rfl⟩
  have HF := Lib.hid (show Fr Nob w W by rw [← hW]; exact (Fr.refl _ _).alloc _)
  have hB : Blk W w.heap.size [.int .i64 1, .int .i64 f, .int .i64 t, .int .i64 gf, .int .i64 gt, .int .i64 i, .slice B xn b, .int .i64 mk] 32 := by rw [← hW]; exact Blk.new _ _ _
  have d1 := hB.cell 1
  have d2 := hB.cell 2
  have d3 := hB.cell 3
  have d4 := hB.cell 4
  have d5 := hB.cell 5
  have d6 := hB.cell 6
  have hlb := hB.lt
  simp only [List.getElem?_cons_zero, List.getElem?_cons_succ] at d1 d2 d3 d4 d5 d6
  rw [hW]
  clear hW hB
  have hfc : f ≤ c := by omega
  have hgc : gt ≤ c := by omega
  have hic : i ≤ b := by omega
  go_still_tail 24, (by kernel_rfl)
  change wpList _ _ _ _ _ W.drew
  generalize hwd : W.drew = wd
  have HF2 := Lib.hid (show Fr Nob w wd by subst hwd; exact HF.out.drew)
  clear hwd d1 d2 d3 d4 d5 d6 hlb
  go_wp2_with fail
  refine (tokens_new M [⟨cutA A c 0, c, l.take f⟩, ⟨cutA B b 0, b, x.take i⟩, ⟨cutA A c gf, c - gf, (l.drop gf).take (gt - gf)⟩, ⟨cutA B b i, b - i, x.drop i⟩, ⟨cutA A c t, c - t, l.drop t⟩] w wd _ _ 5 HF2.out ?hd ?hcs rfl ?hL (by omega)).mono ?_
  case hd =>
    have g1 := HLN.out
    intro y hy
    simp only [List.mem_cons, List.not_mem_nil, or_false] at hy
    have g2 := HXN.out
    rcases hy with rfl | rfl | rfl | rfl | rfl
    · exact HRl.out.cut0 (by omega) f
    · exact HRx.out.cut0 (by omega) i
    · exact HRl.out.cut (by omega) (gt - gf)
    · exact HRx.out.cutD (by omega) i
    · exact HRl.out.cutD (by omega) t
  case hcs =>
    have g1 := HLN.out
    have g2 := HXN.out
    simp only [List.map_cons, List.map_nil, Seg.v, List.length_take, List.length_drop, g1, g2]
    rw [Nat.min_eq_left (by omega), Nat.min_eq_left (by omega), Nat.min_eq_left (by omega)]
  case hL =>
    have g1 := HLN.out
    have g2 := HXN.out
    simp only [segsL, List.flatMap_cons, List.flatMap_nil, List.length_append, List.length_take, List.length_drop, List.length_nil, g1, g2]
    omega
  rintro e w' ⟨v, rfl, hv, hF3⟩
  have HV := Lib.hid hv
  have HF3 := Lib.hid hF3
  clear hv hF3
  go_wp2_with fail
  go_ret
  refine ⟨v, rfl, ?_, HF3.out⟩
  have := HV.out
  simpa [segsL, aroF] using this
end Go.Proofs.YtldcffonfidbcaaGreatDoor
