/- A part of the proof for chapter 10: StepJ, Copy, Tokens, StepDo, StepDoA, StepDoM, Apply, Pos, PosW; no conditions. -/
import Derived.Test.YtanbfplcldloeaaGreatDoorG07
import Derived.Test.YtanbfplcldloeaaGreatDoorG05
import Derived.Laws.CopyOwn
import Derived.Test.YtanbfplcldloeaaGreatDoorG06
import Derived.Laws.MakeOwn
import Derived.Deep.OwnRows
import Derived.StillTailTactics
import Derived.Deep.RegionHeld3
import Derived.Deep.RegionLaw
/- Chapter 9: may a step be: all kinds. -/
namespace Go.Proofs.YtanbfplcldloeaaGreatDoor
open Go.RowKit
def kindOk (s : StepM) : Bool :=
  if s.k = 0 then okRep s.f s.t s.gf s.gt s.ins s.m
  else if s.k = 1 then okAro s.f s.t s.gf s.gt s.ins s.m s.l.length
  else if s.k = 2 ∨ s.k = 3 then okMark s.f s.t s.gf s.gt s.ins s.m s.l.length
  else false
/-- What 'Check' answers. -/
def stepF (s : StepM) : Int := if 2048 < s.l.length then 2 else if (kindOk s && s.l.all okT) = true then 0 else 1
theorem stepcheck_any (M : Nat → Prop) (s : StepM) (A : Option Addr) (c : Nat) (w : World) (hr : Rd M w A (tokC s.l)) :
    Calls Tryz.prog 29 #[.agg (s.cells (.slice A s.l.length c)).toArray] w fun e w' => e = .returned (.int .i64 (stepF s)) ∧ Fr Nob w w' := by
  obtain ⟨k, f, t, gf, gt, ins, m, l⟩ := s
  by_cases hn : 2048 < l.length
  · have h : stepF ⟨k, f, t, gf, gt, ins, m, l⟩ = 2 := if_pos hn
    rw [h]
    exact stepcheck_long k f t gf gt ins m A l.length c w hn
  · have hn' : l.length ≤ 2048 := by omega
    have h : stepF ⟨k, f, t, gf, gt, ins, m, l⟩ = if (kindOk ⟨k, f, t, gf, gt, ins, m, l⟩ && l.all okT) = true then 0 else 1 := if_neg hn
    by_cases h0 : k = 0
    · subst h0
      exact stepcheck_rep M f t gf gt ins m A l c w _ hr hn' (by rw [h]; rfl)
    · by_cases h1 : k = 1
      · subst h1
        exact stepcheck_aro M f t gf gt ins m A l c w _ hr hn' (by rw [h]; rfl)
      · by_cases h2 : k = 2 ∨ k = 3
        · exact stepcheck_mark M k f t gf gt ins m A l c w _ hr hn' h2 (by rw [h]; simp only [kindOk, h0, h1, h2, if_true, if_false])
        · exact stepcheck_none M k f t gf gt ins m A l c w _ hr hn' h0 h1 (fun e => h2 (.inl e)) (fun e => h2 (.inr e)) (by rw [h]; simp only [kindOk, h0, h1, h2, if_false])
end Go.Proofs.YtanbfplcldloeaaGreatDoor

/- The builtin copy of elements of some cells each, out of any row into a row that is known whole. -/
namespace Go.Proofs.YtanbfplcldloeaaGreatDoor
open Go.RowKit
/-- Nothing goes over where one of the two has no element. -/
theorem run_copy_noneS {P : Program} (w : World) (dT sT ty elem : TypeId) (d a : Option Addr) (dLen dCap sLen sCap sz : Nat) (hu : P.underlying dT = some (.slice elem)) (hs : (P.info? elem).map (·.size) = some sz) (hn : Nat.min sLen dLen = 0) :
    (Builtin.copy_ #[dT, sT] ty #[.slice d dLen dCap, .slice a sLen sCap]).run P w = .ok (goInt 0) w := by
  cases hq : P.info? elem with
  | none => simp [hq] at hs
  | some i =>
    have hl : ∀ (x : Addr), (loadCells x 0).run P w = .ok #[] w := fun x => by simpa using run_loadCells_list (P := P) w x [] (by simp)
    cases d <;> cases a <;> simp [Builtin.copy_, run_underlying hu, Builtin.lenOf, Builtin.firstCells, sizeOf, typeInfo, hq, hn, storeCells, hl]
theorem run_copy_rowS {P : Program} (w : World) (dT sT ty elem : TypeId) (g o dLen dCap : Nat) (a : Addr) (sLen sCap sz : Nat) (cur : Array Value) (t : TypeId) (cs : List Value)
    (hu : P.underlying dT = some (.slice elem)) (hs : (P.info? elem).map (·.size) = some sz)
    (hg : w.heap[g]? = some (.cells cur t (0, 0))) (hn : cs.length = Nat.min sLen dLen * sz)
    (hsrc : ∀ j v, cs[j]? = some v → w.cell? (a.add j) = some v) (hfit : o + cs.length ≤ cur.size) (h1 : ∀ v ∈ cs, v.oneCell' = true) :
    (Builtin.copy_ #[dT, sT] ty #[.slice (some ⟨g, o, none⟩) dLen dCap, .slice (some a) sLen sCap]).run P w =
      .ok (goInt (Nat.min sLen dLen)) (w.setRow g (cur.toList.take o ++ cs ++ cur.toList.drop (o + cs.length)).toArray) := by
  have hl := run_loadCells_list (P := P) w a cs hsrc
  have hst := run_storeCells_at P g o t cs 0 cur w hg (by simpa using hfit) h1
  cases hq : P.info? elem with
  | none => simp [hq] at hs
  | some i =>
    have hi : i.size = sz := by simpa [hq] using hs
    simp [Builtin.copy_, run_underlying hu, Builtin.lenOf, Builtin.firstCells, sizeOf, typeInfo, hq, hi, ← hn, hl, hst]
/-- copy as a step of the walk: the row behind it is the splice of the two. -/
theorem wpList_copyS {P : Program} {w : World} {ops : Array Oper} {rest : List Oper} {o : Oper} {a : Act} {Q : Exit → Act → World → Prop} (hgd : o.guard = none) (d s : Operand) (dT sT : TypeId)
    (ho : o.op = .call { callee := .builtin .copy, args := #[d, s], argTypes := #[dT, sT] }) (elem : TypeId) (sz : Nat) (hu : P.underlying dT = some (.slice elem)) (hsz : (P.info? elem).map (·.size) = some sz)
    (dp sp : Option Addr) (dLen dCap sLen sCap : Nat) (hd : a.eval d = .slice dp dLen dCap) (hs : a.eval s = .slice sp sLen sCap)
    (g off : Nat) (cur : List Value) (t : TypeId) (hg : Blk w g cur t) (cs : List Value) (hn : cs.length = Nat.min sLen dLen * sz) (hz : 0 < sz)
    (hpos : 0 < cs.length → dp = some ⟨g, off, none⟩ ∧ ∃ ad, sp = some ad ∧ ∀ j v, cs[j]? = some v → w.cell? (ad.add j) = some v)
    (hfit : off + cs.length ≤ cur.length) (h1 : ∀ v ∈ cs, v.oneCell' = true) (m : Nat) (hm : m = Nat.min sLen dLen)
    (h : ∀ w', Hid (Blk w' g (splice cur off cs) t) → Hid (Fr (One g) w w') → wpList P ops Q rest (a.put o.dst (goInt m)) w') :
    wpList P ops Q (o :: rest) a w := by
  subst hm
  by_cases h0 : cs.length = 0
  · obtain rfl : cs = [] := List.eq_nil_of_length_eq_zero h0
    have hmin : Nat.min sLen dLen = 0 := by
      rcases Nat.eq_zero_or_pos (Nat.min sLen dLen) with h | h
      · exact h
      · have := Nat.mul_pos h hz
        simp only [List.length_nil] at hn
        omega
    refine wpList_plain hgd fun K hK => ?_
    have hrun := run_copy_noneS (P := P) w dT sT o.type elem dp sp dLen dCap sLen sCap sz hu hsz hmin
    unfold Oper.wp
    simp [execOp, ho, resolve, invoke, builtin, hd, hs, hrun, Result.andThen]
    refine hK _ _ ?_
    have := h w (show _ = _ by have h' : _ = _ := hg; simpa [splice] using h') (Fr.refl _ _)
    rwa [hmin] at this
  · obtain ⟨rfl, ad, rfl, hsrc⟩ := hpos (by omega)
    refine wpList_plain hgd fun K hK => ?_
    have hrun := run_copy_rowS (P := P) w dT sT o.type elem g off dLen dCap ad sLen sCap sz cur.toArray t cs hu hsz hg hn hsrc (by simpa using hfit) h1
    unfold Oper.wp
    simp [execOp, ho, resolve, invoke, builtin, hd, hs, hrun, Result.andThen]
    refine hK _ _ (h _ (show _ = _ by simpa [splice] using setRow_heap w g _ _ t _ hg) ?_)
    exact ⟨rfl, rfl, rfl, by simp [World.setRow], fun k hk hne => setRow_other w g k _ hne⟩
end Go.Proofs.YtanbfplcldloeaaGreatDoor

/- Chapter 9: lists, joined into an own one. -/
namespace Go.Proofs.YtanbfplcldloeaaGreatDoor
open Go.RowKit
theorem Tok.cells_len4 (x : Tok) : x.cells.length = 4 := rfl
theorem infoTok : (Tryz.prog.info? 65).map (fun i => (i.zero, i.size, i.bytes)) = some (some (.agg #[.int .i64 0, .int .i64 0, .int .i64 0, .int .i64 0]), 4, 32) := by kernel_rfl
theorem infoTok4 : (Tryz.prog.info? 65).map (·.size) = some 4 := by
  have h := infoTok
  cases hq : Tryz.prog.info? 65 with
  | none => rw [hq] at h; simp at h
  | some i => rw [hq] at h; simp only [Option.map_some, Option.some.injEq, Prod.mk.injEq] at h; simp [h.2.1]
/-- A new row of tokens. -/
theorem make_toks (n : Nat) (hn : n ≤ 1000000) (w : World) : ∃ cur : List Value, cur.length = 4 * n ∧
    (Instr.makeSlice 22 (.int .i64 (n : Int)) (.int .i64 (n : Int))).run Tryz.prog w = .ok (.slice (some ⟨w.heap.size, 0, none⟩) n n) (w.alloc (.cells cur.toArray 65)) := by
  obtain ⟨i, hi, hzz⟩ := Option.map_eq_some_iff.1 infoTok
  simp only [Prod.mk.injEq] at hzz
  obtain ⟨hz, hs, hb⟩ := hzz
  have hr := run_make (P := Tryz.prog) 22 65 i _ Tryz.underlying22 hi hz .i64 .i64 n n (by omega) (Int.le_refl _) (by rw [hb]; omega) (by omega) (w := w)
  rw [hs] at hr
  simp only [Int.toNat_natCast] at hr
  exact ⟨(madeCells (Value.agg #[.int .i64 0, .int .i64 0, .int .i64 0, .int .i64 0]).cells (n * 4)).toList, by rw [Array.length_toList, size_madeCells]; omega, by rw [hr]⟩
/-- A piece of a list: where it lies, what it could hold, what it holds. -/
structure Seg where
  a : Option Addr
  c : Nat
  l : List Tok
def Seg.v (x : Seg) : Value := .slice x.a x.l.length x.c
def segsL (L : List Seg) : List Tok := L.flatMap Seg.l
theorem segs_take (L : List Seg) (k : Nat) (hk : k < L.length) : segsL (L.take (k + 1)) = segsL (L.take k) ++ L[k].l := by
  rw [List.take_succ_eq_append_getElem hk]; unfold segsL; rw [List.flatMap_append, List.flatMap_singleton]
theorem segs_take_le (L : List Seg) (k : Nat) : (segsL (L.take k)).length ≤ (segsL L).length := by
  have : segsL L = segsL (L.take k) ++ segsL (L.drop k) := by unfold segsL; rw [← List.flatMap_append, List.take_append_drop]
  rw [this, List.length_append]; omega
theorem tokC_one (l : List Tok) : ∀ v ∈ tokC l, v.oneCell' = true := by
  intro v hv
  obtain ⟨x, _, hx⟩ := List.mem_flatMap.1 hv
  simp only [Tok.cells, List.mem_cons, List.not_mem_nil, or_false] at hx
  rcases hx with rfl | rfl | rfl | rfl <;> rfl
theorem splice_toks (d x : List Tok) (cur : List Value) (h : 4 * d.length + 4 * x.length ≤ cur.length) :
    splice (tokC d ++ cur.drop (4 * d.length)) (4 * d.length) (tokC x) = tokC (d ++ x) ++ cur.drop (4 * (d ++ x).length) := by
  unfold splice
  rw [List.take_append_of_le_length (by rw [tokC_length]; omega), List.take_of_length_le (by rw [tokC_length]; omega), List.drop_append, List.drop_eq_nil_of_le (by rw [tokC_length]; omega), List.nil_append, List.drop_drop, tokC_append, List.append_assoc]
  simp only [tokC_length, List.length_append]
  congr 3
  omega
/-- A list of one's own, in a block that is new. -/
def NewDoc (w0 w : World) (v : Value) (l : List Tok) : Prop := ∃ g, v = .slice (some ⟨g, 0, none⟩) l.length l.length ∧ w0.heap.size ≤ g ∧ Blk w g (tokC l) 65
theorem NewDoc.doc {w0 w : World} {v : Value} {l : List Tok} (h : NewDoc w0 w v l) : Doc (fun k => k < w0.heap.size) w v l := by
  obtain ⟨g, rfl, hg, hb⟩ := h
  refine ⟨_, l.length, rfl, Nat.le_refl _, fun _ => ⟨_, rfl, Nat.not_lt.2 hg, fun j u hu => ?_⟩⟩
  rw [add_lit]
  exact (hb.cell j).trans hu
theorem NewDoc.old {w0 w1 w : World} {v : Value} {l : List Tok} (h : NewDoc w1 w v l) (hs : w0.heap.size ≤ w1.heap.size) : NewDoc w0 w v l := by
  obtain ⟨g, rfl, hg, hb⟩ := h
  exact ⟨g, rfl, Nat.le_trans hs hg, hb⟩
set_option maxRecDepth 100000 in
set_option maxHeartbeats 4000000 in
theorem tokens_any (M : Nat → Prop) (L : List Seg) (A : Option Addr) (c : Nat) (w : World) (hr : Rd M w A (L.map Seg.v)) (hd : ∀ x ∈ L, Rd M w x.a (tokC x.l)) (hn : (segsL L).length ≤ 100000) (hL : L.length ≤ 100000) :
    Calls Tryz.prog 81 #[.slice A L.length c] w fun e w' => ∃ v, e = .returned v ∧ NewDoc w w' v (segsL L) ∧ Fr Nob w w' := by
  have HRd := Lib.hid hr
  have HD := Lib.hid hd
  clear hr hd
  go_enter Tryz.func81, Tryz.ntmps81
  go_wp2_with fail
  go_loopg [3, 12] (L.length) (fun n s i wr => ∃ (k : Nat), n = L.length - k ∧ k ≤ L.length ∧ s = .int .i64 (segsL (L.take k)).length ∧ i = .int .i64 k ∧ wr = w)
  case atStart => exact ⟨0, rfl, Nat.zero_le _, rfl, rfl, rfl⟩
  case round =>
    obtain ⟨k, rfl, hk, rfl, rfl, rfl⟩ := hrel
    by_cases hlt : k < L.length
    · have ht : ((k : Int) < (L.length : Int)) := by omega
      obtain ⟨ad, rfl, _, q0⟩ := (HRd.out).at_ (j := k) (by simpa using hlt)
      rw [List.getElem_map] at q0
      have hlb := cell_lt q0
      rw [add_block] at hlb
      have hs := segs_take L k hlt
      have hs1 := segs_take_le L (k + 1)
      rw [hs, List.length_append] at hs1
      generalize hx : L[k] = x at q0 hs hs1
      simp only [Seg.v] at q0
      have HS := Lib.hid (show (segsL (List.take (k + 1) L)).length = (segsL (List.take k L)).length + x.l.length by rw [hs, List.length_append])
      clear hs
      generalize (segsL (List.take k L)).length = m at HS hs1
      go_wp2_with fail
      go_roundg (L.length - (k + 1))
      case measure => omega
      case rel => exact ⟨k + 1, rfl, by omega, by rw [HS.out]; first | rfl | go_num, by first | rfl | go_num, rfl⟩
    · have ht : ¬ ((k : Int) < (L.length : Int)) := by omega
      obtain rfl : k = L.length := by omega
      rw [List.take_length]
      obtain ⟨N, hN⟩ : ∃ N, (segsL L).length = N := ⟨_, rfl⟩
      rw [hN] at hn ⊢
      obtain ⟨cur, hcl, hmk⟩ := make_toks N (by omega) wr
      obtain ⟨W, hW⟩ : ∃ W, wr.alloc (.cells cur.toArray 65) = W := ⟨_, rfl⟩
      have HF := Lib.hid (show Fr Nob wr W by rw [← hW]; exact (Fr.refl _ _).alloc _)
      have HB := Lib.hid (show Blk W wr.heap.size cur 65 by rw [← hW]; exact Blk.new _ _ _)
      rw [hW] at hmk
      clear hW
      go_wp2_with fail
      go_loopg [7, 25] (L.length) (fun n s i wx => ∃ (k : Nat), n = L.length - k ∧ k ≤ L.length ∧ s = .int .i64 (segsL (L.take k)).length ∧ i = .int .i64 k ∧ Hid (Fr Nob wr wx) ∧ Hid (Blk wx wr.heap.size (tokC (segsL (L.take k)) ++ cur.drop (4 * (segsL (L.take k)).length)) 65))
      case atStart => exact ⟨0, rfl, Nat.zero_le _, rfl, rfl, HF.out, show Blk _ _ _ _ by simpa [segsL, tokC] using HB.out⟩
      case round =>
        obtain ⟨k, rfl, hk, rfl, rfl, HF2, HB2⟩ := hrel
        by_cases hlt : k < L.length
        · have ht : ((k : Int) < (L.length : Int)) := by omega
          obtain ⟨ad, rfl, _, q0⟩ := (HRd.out.fr HF2.out (fun _ _ h => h.elim)).at_ (j := k) (by simpa using hlt)
          rw [List.getElem_map] at q0
          have hlb := cell_lt q0
          rw [add_block] at hlb
          have hs := segs_take L k hlt
          have hs1 := segs_take_le L (k + 1)
          rw [hs, List.length_append, hN] at hs1
          have HX := Lib.hid ((HD.out L[k] (List.getElem_mem hlt)).fr HF2.out (fun _ _ h => h.elim))
          generalize hx : L[k] = x at q0 hs hs1 HX
          obtain ⟨xa, xc, xl⟩ := x
          simp only [Seg.v] at q0 hs hs1 HX
          have HS := Lib.hid hs
          obtain ⟨d, hdd⟩ : ∃ d, segsL (List.take k L) = d := ⟨_, rfl⟩
          rw [hdd] at HS HB2 hs1 ⊢
          have hlen : (tokC d ++ cur.drop (4 * d.length)).length = 4 * N := by rw [List.length_append, tokC_length, List.length_drop]; omega
          have HSP := Lib.hid (splice_toks d xl cur (by omega))
          have hCs := tokC_length xl
          obtain ⟨Cs, hcs⟩ : ∃ Cs, tokC xl = Cs := ⟨_, rfl⟩
          have HC1 := Lib.hid (tokC_one xl)
          rw [hcs] at HX HSP hCs HC1
          obtain ⟨Cur, hcur⟩ : ∃ Cur, tokC d ++ cur.drop (4 * d.length) = Cur := ⟨_, rfl⟩
          rw [hcur] at HSP HB2 hlen
          obtain ⟨dl, hdl⟩ : ∃ dl, d.length = dl := ⟨_, rfl⟩
          obtain ⟨xn, hxn⟩ : ∃ xn, xl.length = xn := ⟨_, rfl⟩
          have HDL := Lib.hid hdl
          have HXN := Lib.hid hxn
          rw [hdl, hxn] at hs1
          rw [hdl] at HSP ⊢
          rw [hxn] at q0 hCs
          have HT := Lib.hid (show xn = Nat.min xn (N - dl) from (Nat.min_eq_left (by omega)).symm)
          clear hs hdd hcs hcur hdl hxn hx
          have HNE := Lib.hid (show 0 < xn → ∃ ad, xa = some ad ∧ ∀ (j : Nat) (v : Value), Cs[j]? = some v → wr.cell? (ad.add j) = some v from fun h0 => by
            obtain ⟨ad', e, _, hc⟩ := HX.out (by intro e; rw [e] at hCs; simp at hCs; omega)
            exact ⟨ad', e, hc⟩)
          by_cases hND : N = dl
          · subst hND
            have hx0 : xn = 0 := by omega
            go_wp2_with (refine wpList_copyS rfl _ _ _ _ rfl 65 4 Tryz.underlying22 infoTok4 _ _ _ _ _ _ rfl rfl _ (N * 4) Cur 65 HB2.out Cs ?hn (by omega) ?hpos (by omega) HC1.out xn ?hm ?_; rotate_left 3; (intro w2 HB3 HF3))
            case hn => rw [hCs, Nat.mul_comm]; simp [hx0]
            case hpos => intro h0; exfalso; omega
            case hm => simp [hx0]
            go_roundg (L.length - (k + 1))
            case measure => omega
            case rel =>
              refine ⟨k + 1, rfl, by omega, ?_, by first | rfl | go_num, HF2.out.trans HF3.out (fun g hg hm => ?_), ?_⟩
              · rw [HS.out, List.length_append, HDL.out, HXN.out]; first | rfl | go_num
              · exact absurd hm (Nat.ne_of_lt hg)
              · show Blk _ _ _ _
                rw [HS.out, ← HSP.out, Nat.mul_comm 4]
                exact HB3.out
          · go_wp2_with (refine wpList_copyS rfl _ _ _ _ rfl 65 4 Tryz.underlying22 infoTok4 _ _ _ _ _ _ rfl rfl _ (dl * 4) Cur 65 HB2.out Cs ?hn (by omega) ?hpos (by omega) HC1.out xn ?hm ?_; rotate_left 3; (intro w2 HB3 HF3))
            case hn => rw [hCs, Nat.mul_comm]; exact congrArg (· * 4) HT.out
            case hpos => exact fun _ => HNE.out (by omega)
            case hm => exact HT.out
            go_roundg (L.length - (k + 1))
            case measure => omega
            case rel =>
              refine ⟨k + 1, rfl, by omega, ?_, by first | rfl | go_num, HF2.out.trans HF3.out (fun g hg hm => ?_), ?_⟩
              · rw [HS.out, List.length_append, HDL.out, HXN.out]; first | rfl | go_num
              · exact absurd hm (Nat.ne_of_lt hg)
              · show Blk _ _ _ _
                rw [HS.out, ← HSP.out, Nat.mul_comm 4]
                exact HB3.out
        · have ht : ¬ ((k : Int) < (L.length : Int)) := by omega
          obtain rfl : k = L.length := by omega
          rw [List.take_length, hN, List.drop_eq_nil_of_le (by omega), List.append_nil] at HB2
          go_wp2_with fail
          go_ret
          exact ⟨.slice (some ⟨_, 0, none⟩) N N, rfl, ⟨_, by rw [hN], Nat.le_refl _, HB2.out⟩, HF2.out⟩
end Go.Proofs.YtanbfplcldloeaaGreatDoor

/- Chapter 9: a step, done: a replacement. -/
namespace Go.Proofs.YtanbfplcldloeaaGreatDoor
open Go.RowKit
/-- Where a piece of a list lies. -/
def cutA (A : Option Addr) (c l : Nat) : Option Addr := if c = l then A else A.map (·.add (l * 4))
theorem sizeTok (w : World) : (sizeOf 65).run Tryz.prog w = .ok 4 w := by
  have h := infoTok4
  cases hq : Tryz.prog.info? 65 with
  | none => rw [hq] at h; simp at h
  | some i => rw [hq] at h; simp at h; simp [sizeOf, typeInfo, hq, h]
theorem elemTok : Tryz.prog.elem 22 = 65 := by kernel_rfl
theorem cut_lh (A : Option Addr) (n c l h : Nat) (h1 : l ≤ h) (h2 : h ≤ c) (w : World) :
    (Instr.slice 22 (.slice A n c) (some (.int .i64 (l : Int))) (some (.int .i64 (h : Int))) none).run Tryz.prog w = .ok (.slice (cutA A c l) (h - l) (c - l)) w := by
  rw [run_slice_lh (P := Tryz.prog) (w := w) (t := 22) (a := A) (len := n) (cap := c) (ht := by rw [elemTok]; exact Tryz.underlying22) .i64 .i64 l h (by omega) (by omega) (by omega), elemTok, sizeTok]
  simp [Result.andThen, sliced, cutA]
theorem cut_h (A : Option Addr) (n c h : Nat) (h2 : h ≤ c) (w : World) :
    (Instr.slice 22 (.slice A n c) none (some (.int .i64 (h : Int))) none).run Tryz.prog w = .ok (.slice (cutA A c 0) h c) w := by
  rw [run_slice_h (P := Tryz.prog) (w := w) (t := 22) (a := A) (len := n) (cap := c) (ht := by rw [elemTok]; exact Tryz.underlying22) .i64 h (by omega) (by omega), elemTok, sizeTok]
  simp [Result.andThen, sliced, cutA]
theorem cut_l (A : Option Addr) (n c l : Nat) (h1 : l ≤ n) (w : World) :
    (Instr.slice 22 (.slice A n c) (some (.int .i64 (l : Int))) none none).run Tryz.prog w = .ok (.slice (cutA A c l) (n - l) (c - l)) w := by
  rw [run_slice_l (P := Tryz.prog) (w := w) (t := 22) (a := A) (len := n) (cap := c) (ht := by rw [elemTok]; exact Tryz.underlying22) .i64 l (by omega) (by omega), elemTok, sizeTok]
  simp [Result.andThen, sliced, cutA]
theorem tokC_split (l : List Tok) (k : Nat) : tokC l = tokC (l.take k) ++ tokC (l.drop k) := by rw [← tokC_append, List.take_append_drop]
theorem tokC_drop (l : List Tok) (k : Nat) : tokC (l.drop k) = (tokC l).drop (k * 4) := by
  by_cases h : k ≤ l.length
  · have hl : (tokC (l.take k)).length = k * 4 := by rw [tokC_length, List.length_take]; omega
    have e := congrArg (List.drop (k * 4)) (tokC_split l k)
    rw [List.drop_append, List.drop_eq_nil_of_le (Nat.le_of_eq hl), List.nil_append, hl, Nat.sub_self, List.drop_zero] at e
    exact e.symm
  · rw [List.drop_eq_nil_of_le (by omega), List.drop_eq_nil_of_le (by rw [tokC_length]; omega)]; rfl
theorem tokC_take (l : List Tok) (k : Nat) : tokC (l.take k) = (tokC l).take (k * 4) := by
  by_cases h : k ≤ l.length
  · have hl : (tokC (l.take k)).length = k * 4 := by rw [tokC_length, List.length_take]; omega
    have e := congrArg (List.take (k * 4)) (tokC_split l k)
    rw [List.take_append_of_le_length (Nat.le_of_eq hl.symm), List.take_of_length_le (Nat.le_of_eq hl)] at e
    exact e.symm
  · rw [List.take_of_length_le (by omega), List.take_of_length_le (by rw [tokC_length]; omega)]
theorem Rd.drop {M : Nat → Prop} {w : World} {A : Option Addr} {xs : List Value} (h : Rd M w A xs) (k : Nat) : Rd M w (A.map (·.add k)) (xs.drop k) := fun hx => by
  obtain ⟨ad, rfl, hn, hc⟩ := h (by rintro rfl; simp at hx)
  refine ⟨ad.add k, rfl, by rw [add_block]; exact hn, fun j u hu => ?_⟩
  rw [add_of_add]
  rw [List.getElem?_drop] at hu
  exact hc _ u hu
/-- A piece of a list is read where it lies. -/
theorem Rd.cut {M : Nat → Prop} {w : World} {A : Option Addr} {l : List Tok} (h : Rd M w A (tokC l)) {c k : Nat} (hc : l.length ≤ c) (n : Nat) : Rd M w (cutA A c k) (tokC ((l.drop k).take n)) := by
  rw [tokC_take]
  refine Rd.take ?_ _
  unfold cutA
  split
  · rename_i e
    rw [List.drop_eq_nil_of_le (by omega)]
    exact Rd.nil _ _ _
  · rw [tokC_drop]
    exact h.drop _
theorem Rd.cut0 {M : Nat → Prop} {w : World} {A : Option Addr} {l : List Tok} (h : Rd M w A (tokC l)) {c : Nat} (hc : l.length ≤ c) (n : Nat) : Rd M w (cutA A c 0) (tokC (l.take n)) := by
  have := h.cut (k := 0) hc n
  rwa [List.drop_zero] at this
theorem Rd.cutD {M : Nat → Prop} {w : World} {A : Option Addr} {l : List Tok} (h : Rd M w A (tokC l)) {c : Nat} (hc : l.length ≤ c) (k : Nat) : Rd M w (cutA A c k) (tokC (l.drop k)) := by
  have := h.cut (k := k) hc l.length
  rwa [List.take_of_length_le (by rw [List.length_drop]; omega)] at this
attribute [local go_sem high] cut_lh cut_h cut_l
/-- Lists, joined: their row has just been built. -/
theorem tokens_new (M : Nat → Prop) (L : List Seg) (w0 w : World) (T : TypeId) (cs : List Value) (n : Nat) (hF : Fr Nob w0 w) (hd : ∀ x ∈ L, Rd M w0 x.a (tokC x.l)) (hcs : L.map Seg.v = cs) (hn : L.length = n) (hL : (segsL L).length ≤ 100000) (hL2 : n ≤ 100000) :
    Calls Tryz.prog 81 #[.slice (some ⟨w.heap.size, 0, none⟩) n n] (w.alloc (.cells cs.toArray T)) fun e w' => ∃ v, e = .returned v ∧ NewDoc w0 w' v (segsL L) ∧ Fr Nob w0 w' := by
  subst hn hcs
  have hfa : Fr Nob w0 (w.alloc (.cells (L.map Seg.v).toArray T)) := hF.alloc _
  have hrow : Rd Nob (w.alloc (.cells (L.map Seg.v).toArray T)) (some ⟨w.heap.size, 0, none⟩) (L.map Seg.v) := fun _ => ⟨_, rfl, fun h => h, fun j u hu => by rw [add_lit]; exact ((Blk.new w (L.map Seg.v) T).cell j).trans hu⟩
  refine (tokens_any Nob L _ L.length _ hrow (fun x hx => ((hd x hx).mono (fun _ h => h.elim)).fr hfa (fun _ _ h => h)) hL hL2).mono ?_
  rintro e w' ⟨v, rfl, hv, hF2⟩
  exact ⟨v, rfl, hv.old hfa.size, hfa.same hF2⟩
def repF (f t : Nat) (x l : List Tok) : List Tok := l.take f ++ (x ++ l.drop t)
set_option maxRecDepth 100000 in
set_option maxHeartbeats 4000000 in
theorem stepdo_rep (M : Nat → Prop) (f t : Nat) (gf gt ins mk : Int) (A B : Option Addr) (x l : List Tok) (c b : Nat) (w : World) (hl : Rd M w A (tokC l)) (hx : Rd M w B (tokC x)) (hc : l.length ≤ c) (hft : f ≤ t) (htl : t ≤ l.length) (hn : l.length ≤ 10000) (hnx : x.length ≤ 10000) :
    Calls Tryz.prog 52 #[.slice A l.length c, .agg #[.int .i64 0, .int .i64 f, .int .i64 t, .int .i64 gf, .int .i64 gt, .int .i64 ins, .slice B x.length b, .int .i64 mk]] w fun e w' => ∃ v, e = .returned v ∧ NewDoc w w' v (repF f t x l) ∧ Fr Nob w w' := by
  obtain ⟨ln, hln⟩ : ∃ ln, l.length = ln := ⟨_, rfl⟩
  obtain ⟨xn, hxn⟩ : ∃ xn, x.length = xn := ⟨_, rfl⟩
  have HLN := Lib.hid hln
  have HXN := Lib.hid hxn
  have HRl := Lib.hid hl
  have HRx := Lib.hid hx
  rw [hln] at hc htl hn ⊢
  rw [hxn] at hnx ⊢
  clear hl hx hln hxn
  go_enter Tryz.func52, Tryz.ntmps52
  go_wp2_with fail
  obtain ⟨W, hW⟩ : ∃ W, w.alloc (.cells #[.int .i64 0, .int .i64 f, .int .i64 t, .int .i64 gf, .int .i64 gt, .int .i64 ins, .slice B xn b, .int .i64 mk] 24) = W := ⟨_, rfl⟩
  have HF := Lib.hid (show Fr Nob w W by rw [← hW]; exact (Fr.refl _ _).alloc _)
  have hB : Blk W w.heap.size [.int .i64 0, .int .i64 f, .int .i64 t, .int .i64 gf, .int .i64 gt, .int .i64 ins, .slice B xn b, .int .i64 mk] 24 := by rw [← hW]; exact Blk.new _ _ _
  have d1 := hB.cell 1
  have d2 := hB.cell 2
  have d6 := hB.cell 6
  have hlb := hB.lt
  simp only [List.getElem?_cons_zero, List.getElem?_cons_succ] at d1 d2 d6
  rw [hW]
  clear hW hB
  have hfc : f ≤ c := by omega
  go_still_tail 10, (by kernel_rfl)
  change wpList _ _ _ _ _ W.drew
  generalize hwd : W.drew = wd
  have HF2 := Lib.hid (show Fr Nob w wd by subst hwd; exact HF.out.drew)
  clear hwd d1 d2 d6 hlb
  go_wp2_with fail
  refine (tokens_new M [⟨cutA A c 0, c, l.take f⟩, ⟨B, b, x⟩, ⟨cutA A c t, c - t, l.drop t⟩] w wd _ _ 3 HF2.out ?hd ?hcs rfl ?hL (by omega)).mono ?_
  case hd =>
    have h1 := HLN.out
    intro y hy
    simp only [List.mem_cons, List.not_mem_nil, or_false] at hy
    rcases hy with rfl | rfl | rfl
    · exact HRl.out.cut0 (by omega) f
    · exact HRx.out
    · exact HRl.out.cutD (by omega) t
  case hcs =>
    have h1 := HLN.out
    have h2 := HXN.out
    simp only [List.map_cons, List.map_nil, Seg.v, List.length_take, List.length_drop, h1, h2]
    rw [Nat.min_eq_left (by omega)]
  case hL =>
    have h1 := HLN.out
    have h2 := HXN.out
    simp only [segsL, List.flatMap_cons, List.flatMap_nil, List.length_append, List.length_take, List.length_drop, List.length_nil, h1, h2]
    omega
  rintro e w' ⟨v, rfl, hv, hF3⟩
  have HV := Lib.hid hv
  have HF3 := Lib.hid hF3
  clear hv hF3
  go_wp2_with fail
  go_ret
  refine ⟨v, rfl, ?_, HF3.out⟩
  have := HV.out
  simpa [segsL, repF] using this
end Go.Proofs.YtanbfplcldloeaaGreatDoor

/- Chapter 9: a step, done: around. -/
namespace Go.Proofs.YtanbfplcldloeaaGreatDoor
open Go.RowKit
attribute [local go_sem high] cut_lh cut_h cut_l
def aroF (f t gf gt i : Nat) (x l : List Tok) : List Tok := l.take f ++ (x.take i ++ ((l.drop gf).take (gt - gf) ++ (x.drop i ++ l.drop t)))
set_option maxRecDepth 100000 in
set_option maxHeartbeats 4000000 in
theorem stepdo_aro (M : Nat → Prop) (f t gf gt i : Nat) (mk : Int) (A B : Option Addr) (x l : List Tok) (c b : Nat) (w : World) (hl : Rd M w A (tokC l)) (hx : Rd M w B (tokC x)) (hc : l.length ≤ c) (hb : x.length ≤ b) (h1 : f ≤ gf) (h2 : gf ≤ gt) (h3 : gt ≤ t) (h4 : i ≤ x.length) (htl : t ≤ l.length) (hn : l.length ≤ 10000) (hnx : x.length ≤ 10000) :
    Calls Tryz.prog 52 #[.slice A l.length c, .agg #[.int .i64 1, .int .i64 f, .int .i64 t, .int .i64 gf, .int .i64 gt, .int .i64 i, .slice B x.length b, .int .i64 mk]] w fun e w' => ∃ v, e = .returned v ∧ NewDoc w w' v (aroF f t gf gt i x l) ∧ Fr Nob w w' := by
  obtain ⟨ln, hln⟩ : ∃ ln, l.length = ln := ⟨_, rfl⟩
  obtain ⟨xn, hxn⟩ : ∃ xn, x.length = xn := ⟨_, rfl⟩
  have HLN := Lib.hid hln
  have HXN := Lib.hid hxn
  have HRl := Lib.hid hl
  have HRx := Lib.hid hx
  rw [hln] at hc htl hn ⊢
  rw [hxn] at hnx hb h4 ⊢
  clear hl hx hln hxn
  go_enter Tryz.func52, Tryz.ntmps52
  go_wp2_with fail
  obtain ⟨W, hW⟩ : ∃ W, w.alloc (.cells #[.int .i64 1, .int .i64 f, .int .i64 t, .int .i64 gf, .int .i64 gt, .int .i64 i, .slice B xn b, .int .i64 mk] 24) = W := ⟨_, rfl⟩
  have HF := Lib.hid (show Fr Nob w W by rw [← hW]; exact (Fr.refl _ _).alloc _)
  have hB : Blk W w.heap.size [.int .i64 1, .int .i64 f, .int .i64 t, .int .i64 gf, .int .i64 gt, .int .i64 i, .slice B xn b, .int .i64 mk] 24 := by rw [← hW]; exact Blk.new _ _ _
  have d1 := hB.cell 1
  have d2 := hB.cell 2
  have d3 := hB.cell 3
  have d4 := hB.cell 4
  have d5 := hB.cell 5
  have d6 := hB.cell 6
  have hlb := hB.lt
  simp only [List.getElem?_cons_zero, List.getElem?_cons_succ] at d1 d2 d3 d4 d5 d6
  rw [hW]
  clear hW hB
  have hfc : f ≤ c := by omega
  have hgc : gt ≤ c := by omega
  have hic : i ≤ b := by omega
  go_still_tail 24, (by kernel_rfl)
  change wpList _ _ _ _ _ W.drew
  generalize hwd : W.drew = wd
  have HF2 := Lib.hid (show Fr Nob w wd by subst hwd; exact HF.out.drew)
  clear hwd d1 d2 d3 d4 d5 d6 hlb
  go_wp2_with fail
  refine (tokens_new M [⟨cutA A c 0, c, l.take f⟩, ⟨cutA B b 0, b, x.take i⟩, ⟨cutA A c gf, c - gf, (l.drop gf).take (gt - gf)⟩, ⟨cutA B b i, b - i, x.drop i⟩, ⟨cutA A c t, c - t, l.drop t⟩] w wd _ _ 5 HF2.out ?hd ?hcs rfl ?hL (by omega)).mono ?_
  case hd =>
    have g1 := HLN.out
    intro y hy
    simp only [List.mem_cons, List.not_mem_nil, or_false] at hy
    have g2 := HXN.out
    rcases hy with rfl | rfl | rfl | rfl | rfl
    · exact HRl.out.cut0 (by omega) f
    · exact HRx.out.cut0 (by omega) i
    · exact HRl.out.cut (by omega) (gt - gf)
    · exact HRx.out.cutD (by omega) i
    · exact HRl.out.cutD (by omega) t
  case hcs =>
    have g1 := HLN.out
    have g2 := HXN.out
    simp only [List.map_cons, List.map_nil, Seg.v, List.length_take, List.length_drop, g1, g2]
    rw [Nat.min_eq_left (by omega), Nat.min_eq_left (by omega), Nat.min_eq_left (by omega)]
  case hL =>
    have g1 := HLN.out
    have g2 := HXN.out
    simp only [segsL, List.flatMap_cons, List.flatMap_nil, List.length_append, List.length_take, List.length_drop, List.length_nil, g1, g2]
    omega
  rintro e w' ⟨v, rfl, hv, hF3⟩
  have HV := Lib.hid hv
  have HF3 := Lib.hid hF3
  clear hv hF3
  go_wp2_with fail
  go_ret
  refine ⟨v, rfl, ?_, HF3.out⟩
  have := HV.out
  simpa [segsL, aroF] using this
end Go.Proofs.YtanbfplcldloeaaGreatDoor

/- Chapter 9: a step, done: marks. -/
namespace Go.Proofs.YtanbfplcldloeaaGreatDoor
open Go.RowKit
def turnF (k s m : Int) : Int := if k = 3 then (takeF s m).1 else (addF s m).1
def turnT (k m : Int) (x : Tok) : Tok := if x.k = 0 then { x with m := turnF k x.m m } else x
/-- The tokens from f up to i, turned. -/
def markL (k m : Int) (f i : Nat) (l : List Tok) : List Tok := l.mapIdx fun j x => if f ≤ j ∧ j < i then turnT k m x else x
theorem markL_len (k m : Int) (f i : Nat) (l : List Tok) : (markL k m f i l).length = l.length := by simp [markL]
theorem markL_start (k m : Int) (f : Nat) (l : List Tok) : markL k m f f l = l := by
  refine List.ext_getElem (markL_len _ _ _ _ _) (fun j h1 h2 => ?_)
  simp only [markL, List.getElem_mapIdx]
  rw [if_neg (by omega)]
theorem markL_at (k m : Int) (f i : Nat) (l : List Tok) (hi : i < l.length) : (markL k m f i l)[i]'(by rw [markL_len]; exact hi) = l[i] := by
  simp only [markL, List.getElem_mapIdx]
  rw [if_neg (by omega)]
theorem markL_set (k m : Int) (f i : Nat) (l : List Tok) (hf : f ≤ i) (hi : i < l.length) : (markL k m f i l).set i (turnT k m l[i]) = markL k m f (i + 1) l := by
  refine List.ext_getElem (by simp [markL]) (fun j h1 h2 => ?_)
  rw [List.getElem_set]
  simp only [markL, List.getElem_mapIdx]
  split
  · rename_i e; subst e; rw [if_pos (by omega)]
  · rename_i e
    by_cases hj : f ≤ j ∧ j < i
    · rw [if_pos hj, if_pos (by omega)]
    · rw [if_neg hj, if_neg (by omega)]
theorem markL_same (k m : Int) (f i : Nat) (l : List Tok) (hf : f ≤ i) (hi : i < l.length) (hk : l[i].k ≠ 0) : markL k m f i l = markL k m f (i + 1) l := by
  rw [← markL_set k m f i l hf hi, turnT, if_neg hk, ← markL_at k m f i l hi, List.set_getElem_self]
theorem tokC_set (m : Int) : ∀ (l : List Tok) (i : Nat) (hi : i < l.length), (tokC l).set (i * 4 + 3) (.int .i64 m) = tokC (l.set i { l[i] with m := m })
  | [], _, hi => by simp at hi
  | x :: l, 0, _ => rfl
  | x :: l, i + 1, hi => by
    have ih := tokC_set m l i (by simpa using hi)
    have e : (i + 1) * 4 + 3 = (i * 4 + 3) + 1 + 1 + 1 + 1 := by omega
    rw [e]
    simp only [tokC, List.flatMap_cons, Tok.cells, List.cons_append, List.nil_append, List.set_cons_succ, List.getElem_cons_succ] at ih ⊢
    rw [ih]
theorem tokC_get (l : List Tok) (i j : Nat) (hi : i < l.length) (hj : j < 4) : (tokC l)[i * 4 + j]? = l[i].cells[j]? := flat_get Tok.cells_len4 l i j hi hj
set_option maxRecDepth 100000 in
set_option maxHeartbeats 4000000 in
theorem stepdo_add (M : Nat → Prop) (f t : Nat) (gf gt ins mk : Int) (A B : Option Addr) (l : List Tok) (c xn b : Nat) (w : World) (hl : Rd M w A (tokC l)) (hc : l.length ≤ c) (hft : f ≤ t) (htl : t ≤ l.length) (hn : l.length ≤ 10000) :
    Calls Tryz.prog 52 #[.slice A l.length c, .agg #[.int .i64 2, .int .i64 f, .int .i64 t, .int .i64 gf, .int .i64 gt, .int .i64 ins, .slice B xn b, .int .i64 mk]] w fun e w' => ∃ v, e = .returned v ∧ NewDoc w w' v (markL 2 mk f t l) ∧ Fr Nob w w' := by
  obtain ⟨ln, hln⟩ : ∃ ln, l.length = ln := ⟨_, rfl⟩
  have HLN := Lib.hid hln
  have HRl := Lib.hid hl
  rw [hln] at hc htl hn ⊢
  clear hl hln
  go_enter Tryz.func52, Tryz.ntmps52
  go_upto_region 9 with (fail)
  obtain ⟨W, hW⟩ : ∃ W, w.alloc (.cells #[.int .i64 2, .int .i64 f, .int .i64 t, .int .i64 gf, .int .i64 gt, .int .i64 ins, .slice B xn b, .int .i64 mk] 24) = W := ⟨_, rfl⟩
  have HF := Lib.hid (show Fr Nob w W by rw [← hW]; exact (Fr.refl _ _).alloc _)
  have HB := Lib.hid (show Blk W w.heap.size [.int .i64 2, .int .i64 f, .int .i64 t, .int .i64 gf, .int .i64 gt, .int .i64 ins, .slice B xn b, .int .i64 mk] 24 by rw [← hW]; exact Blk.new _ _ _)
  rw [hW]
  clear hW
  go_wp2_with fail
  refine (tokens_new M [⟨A, c, l⟩] W W _ _ 1 (Fr.refl _ _) ?hd ?hcs rfl ?hL (by omega)).mono ?_
  case hd =>
    intro y hy
    simp only [List.mem_cons, List.not_mem_nil, or_false] at hy
    subst hy
    exact HRl.out.fr HF.out (fun _ _ h => h.elim)
  case hcs => simp only [List.map_cons, List.map_nil, Seg.v, HLN.out]
  case hL =>
    have g1 := HLN.out
    simp only [segsL, List.flatMap_cons, List.flatMap_nil, List.length_append, List.length_nil, g1]
    omega
  rintro e w1 ⟨v, rfl, ⟨g, rfl, hg, hbg⟩, hF3⟩
  have hsl : segsL [⟨A, c, l⟩] = l := by simp [segsL]
  rw [hsl] at hbg
  rw [hsl, HLN.out]
  have hgw : w.heap.size < g := Nat.lt_of_lt_of_le HB.out.lt hg
  have HF1 := Lib.hid (HF.out.same hF3)
  have HB1 := Lib.hid (HB.out.fr hF3 (fun h => h))
  have HG1 := Lib.hid hbg
  have d1 := HB1.out.cell 1
  have hlb := HB1.out.lt
  simp only [List.getElem?_cons_zero, List.getElem?_cons_succ] at d1
  clear hbg hF3 hsl hg
  go_wp2_with fail
  go_loopg [7] (t - f) (fun n s wx => ∃ i : Nat, n = t - i ∧ f ≤ i ∧ i ≤ t ∧ s = .int .i64 i ∧ Hid (Fr Nob w wx) ∧ Hid (Blk wx w.heap.size [.int .i64 2, .int .i64 f, .int .i64 t, .int .i64 gf, .int .i64 gt, .int .i64 ins, .slice B xn b, .int .i64 mk] 24) ∧ Hid (Blk wx g (tokC (markL 2 mk f i l)) 65))
  case atStart => exact ⟨f, rfl, Nat.le_refl _, hft, rfl, HF1.out, HB1.out, by show Blk _ _ _ _; rw [markL_start]; exact HG1.out⟩
  case round =>
    obtain ⟨i, rfl, hfi, hit, rfl, HF, HB, HG⟩ := hrel
    have d0 := HB.out.cell 0
    have d2 := HB.out.cell 2
    have d7 := HB.out.cell 7
    have hlb := HB.out.lt
    simp only [List.getElem?_cons_zero, List.getElem?_cons_succ] at d0 d2 d7
    by_cases hlt : i < t
    · have ht : ((i : Int) < (t : Int)) := by omega
      have hil : i < l.length := by have := HLN.out; omega
      have e0 := HG.out.cell (i * 4)
      have e3 := HG.out.cell (i * 4 + 3)
      have f3 := HG.out.frozen (i * 4 + 3)
      have hlg := HG.out.lt
      have q0 := tokC_get (markL 2 mk f i l) i 0 (by rw [markL_len]; exact hil) (by omega)
      have q3 := tokC_get (markL 2 mk f i l) i 3 (by rw [markL_len]; exact hil) (by omega)
      rw [Nat.add_zero] at q0
      rw [q0, markL_at _ _ _ _ _ hil] at e0
      rw [q3, markL_at _ _ _ _ _ hil] at e3
      have HS := Lib.hid (markL_set 2 mk f i l hfi hil)
      have HM := Lib.hid (markL_same 2 mk f i l hfi hil)
      have HAT := Lib.hid (markL_at 2 mk f i l hil)
      clear q0 q3
      generalize hx : l[i] = x at e0 e3 HS HM HAT
      simp only [Tok.cells, List.getElem?_cons_zero, List.getElem?_cons_succ] at e0 e3
      clear hx
      by_cases hk : x.k = 0
      · have hkb : (x.k == 0) = true := by simpa using hk
        go_wp2_with fail
        have HAD := Lib.hid (add_any x.m mk)
        go_region_with (go_at_call 82; refine (HAD.out _).mono ?_; rintro e w3 ⟨rfl, rfl⟩)
        all_goals
          have HF2 := Lib.hid (show Fr Nob w (wr.setCell ⟨g, i * 4 + 3, none⟩ (.int .i64 (addF x.m mk).1)).drew from (HF.out.setCell (p := ⟨g, i * 4 + 3, none⟩) (.inr (Nat.le_of_lt hgw)) _).drew)
          have HB2 := Lib.hid (show Blk (wr.setCell ⟨g, i * 4 + 3, none⟩ (.int .i64 (addF x.m mk).1)).drew w.heap.size [.int .i64 2, .int .i64 f, .int .i64 t, .int .i64 gf, .int .i64 gt, .int .i64 ins, .slice B xn b, .int .i64 mk] 24 from (HB.out.far (p := ⟨g, i * 4 + 3, none⟩) (Nat.ne_of_lt hgw) _).drew)
          have HG2 := Lib.hid (show Blk (wr.setCell ⟨g, i * 4 + 3, none⟩ (.int .i64 (addF x.m mk).1)).drew g (tokC (markL 2 mk f (i + 1) l)) 65 from by
            have h1 := (HG.out.set (i * 4 + 3) (.int .i64 (addF x.m mk).1)).drew
            have h2 := tokC_set (addF x.m mk).1 (markL 2 mk f i l) i (by rw [markL_len]; exact hil)
            rw [h2, HAT.out] at h1
            have h3 := HS.out
            rw [turnT, if_pos hk] at h3
            rw [← h3]
            exact h1)
          generalize (wr.setCell ⟨g, i * 4 + 3, none⟩ (.int .i64 (addF x.m mk).1)).drew = w4 at HF2 HB2 HG2 ⊢
          clear e0 e3 f3 d0 d2 d7 hlb hlg
          go_wp2_with fail
          go_roundg (t - (i + 1))
          case measure => omega
          case rel => exact ⟨i + 1, rfl, by omega, by omega, by first | rfl | go_num, HF2.out, HB2.out, HG2.out⟩
      · have hkb : (x.k == 0) = false := by simpa using hk
        go_wp2_with fail
        go_roundg (t - (i + 1))
        case measure => omega
        case rel => exact ⟨i + 1, rfl, by omega, by omega, by first | rfl | go_num, HF.out, HB.out, by show Blk _ _ _ _; rw [← HM.out hk]; exact HG.out⟩
    · have ht : ¬ ((i : Int) < (t : Int)) := by omega
      obtain rfl : i = t := by omega
      go_wp2_with fail
      go_ret
      exact ⟨.slice (some ⟨g, 0, none⟩) ln ln, rfl, ⟨g, by rw [markL_len, HLN.out], by omega, HG.out⟩, HF.out⟩
set_option maxRecDepth 100000 in
set_option maxHeartbeats 4000000 in
theorem stepdo_take (M : Nat → Prop) (f t : Nat) (gf gt ins mk : Int) (A B : Option Addr) (l : List Tok) (c xn b : Nat) (w : World) (hl : Rd M w A (tokC l)) (hc : l.length ≤ c) (hft : f ≤ t) (htl : t ≤ l.length) (hn : l.length ≤ 10000) :
    Calls Tryz.prog 52 #[.slice A l.length c, .agg #[.int .i64 3, .int .i64 f, .int .i64 t, .int .i64 gf, .int .i64 gt, .int .i64 ins, .slice B xn b, .int .i64 mk]] w fun e w' => ∃ v, e = .returned v ∧ NewDoc w w' v (markL 3 mk f t l) ∧ Fr Nob w w' := by
  obtain ⟨ln, hln⟩ : ∃ ln, l.length = ln := ⟨_, rfl⟩
  have HLN := Lib.hid hln
  have HRl := Lib.hid hl
  rw [hln] at hc htl hn ⊢
  clear hl hln
  go_enter Tryz.func52, Tryz.ntmps52
  go_upto_region 9 with (fail)
  obtain ⟨W, hW⟩ : ∃ W, w.alloc (.cells #[.int .i64 3, .int .i64 f, .int .i64 t, .int .i64 gf, .int .i64 gt, .int .i64 ins, .slice B xn b, .int .i64 mk] 24) = W := ⟨_, rfl⟩
  have HF := Lib.hid (show Fr Nob w W by rw [← hW]; exact (Fr.refl _ _).alloc _)
  have HB := Lib.hid (show Blk W w.heap.size [.int .i64 3, .int .i64 f, .int .i64 t, .int .i64 gf, .int .i64 gt, .int .i64 ins, .slice B xn b, .int .i64 mk] 24 by rw [← hW]; exact Blk.new _ _ _)
  rw [hW]
  clear hW
  go_wp2_with fail
  refine (tokens_new M [⟨A, c, l⟩] W W _ _ 1 (Fr.refl _ _) ?hd ?hcs rfl ?hL (by omega)).mono ?_
  case hd =>
    intro y hy
    simp only [List.mem_cons, List.not_mem_nil, or_false] at hy
    subst hy
    exact HRl.out.fr HF.out (fun _ _ h => h.elim)
  case hcs => simp only [List.map_cons, List.map_nil, Seg.v, HLN.out]
  case hL =>
    have g1 := HLN.out
    simp only [segsL, List.flatMap_cons, List.flatMap_nil, List.length_append, List.length_nil, g1]
    omega
  rintro e w1 ⟨v, rfl, ⟨g, rfl, hg, hbg⟩, hF3⟩
  have hsl : segsL [⟨A, c, l⟩] = l := by simp [segsL]
  rw [hsl] at hbg
  rw [hsl, HLN.out]
  have hgw : w.heap.size < g := Nat.lt_of_lt_of_le HB.out.lt hg
  have HF1 := Lib.hid (HF.out.same hF3)
  have HB1 := Lib.hid (HB.out.fr hF3 (fun h => h))
  have HG1 := Lib.hid hbg
  have d1 := HB1.out.cell 1
  have hlb := HB1.out.lt
  simp only [List.getElem?_cons_zero, List.getElem?_cons_succ] at d1
  clear hbg hF3 hsl hg
  go_wp2_with fail
  go_loopg [7] (t - f) (fun n s wx => ∃ i : Nat, n = t - i ∧ f ≤ i ∧ i ≤ t ∧ s = .int .i64 i ∧ Hid (Fr Nob w wx) ∧ Hid (Blk wx w.heap.size [.int .i64 3, .int .i64 f, .int .i64 t, .int .i64 gf, .int .i64 gt, .int .i64 ins, .slice B xn b, .int .i64 mk] 24) ∧ Hid (Blk wx g (tokC (markL 3 mk f i l)) 65))
  case atStart => exact ⟨f, rfl, Nat.le_refl _, hft, rfl, HF1.out, HB1.out, by show Blk _ _ _ _; rw [markL_start]; exact HG1.out⟩
  case round =>
    obtain ⟨i, rfl, hfi, hit, rfl, HF, HB, HG⟩ := hrel
    have d0 := HB.out.cell 0
    have d2 := HB.out.cell 2
    have d7 := HB.out.cell 7
    have hlb := HB.out.lt
    simp only [List.getElem?_cons_zero, List.getElem?_cons_succ] at d0 d2 d7
    by_cases hlt : i < t
    · have ht : ((i : Int) < (t : Int)) := by omega
      have hil : i < l.length := by have := HLN.out; omega
      have e0 := HG.out.cell (i * 4)
      have e3 := HG.out.cell (i * 4 + 3)
      have f3 := HG.out.frozen (i * 4 + 3)
      have hlg := HG.out.lt
      have q0 := tokC_get (markL 3 mk f i l) i 0 (by rw [markL_len]; exact hil) (by omega)
      have q3 := tokC_get (markL 3 mk f i l) i 3 (by rw [markL_len]; exact hil) (by omega)
      rw [Nat.add_zero] at q0
      rw [q0, markL_at _ _ _ _ _ hil] at e0
      rw [q3, markL_at _ _ _ _ _ hil] at e3
      have HS := Lib.hid (markL_set 3 mk f i l hfi hil)
      have HM := Lib.hid (markL_same 3 mk f i l hfi hil)
      have HAT := Lib.hid (markL_at 3 mk f i l hil)
      clear q0 q3
      generalize hx : l[i] = x at e0 e3 HS HM HAT
      simp only [Tok.cells, List.getElem?_cons_zero, List.getElem?_cons_succ] at e0 e3
      clear hx
      by_cases hk : x.k = 0
      · have hkb : (x.k == 0) = true := by simpa using hk
        go_wp2_with fail
        have HAD := Lib.hid (take_any x.m mk)
        go_region_with (go_at_call 83; refine (HAD.out _).mono ?_; rintro e w3 ⟨rfl, rfl⟩)
        all_goals
          have HF2 := Lib.hid (show Fr Nob w (wr.setCell ⟨g, i * 4 + 3, none⟩ (.int .i64 (takeF x.m mk).1)).drew from (HF.out.setCell (p := ⟨g, i * 4 + 3, none⟩) (.inr (Nat.le_of_lt hgw)) _).drew)
          have HB2 := Lib.hid (show Blk (wr.setCell ⟨g, i * 4 + 3, none⟩ (.int .i64 (takeF x.m mk).1)).drew w.heap.size [.int .i64 3, .int .i64 f, .int .i64 t, .int .i64 gf, .int .i64 gt, .int .i64 ins, .slice B xn b, .int .i64 mk] 24 from (HB.out.far (p := ⟨g, i * 4 + 3, none⟩) (Nat.ne_of_lt hgw) _).drew)
          have HG2 := Lib.hid (show Blk (wr.setCell ⟨g, i * 4 + 3, none⟩ (.int .i64 (takeF x.m mk).1)).drew g (tokC (markL 3 mk f (i + 1) l)) 65 from by
            have h1 := (HG.out.set (i * 4 + 3) (.int .i64 (takeF x.m mk).1)).drew
            have h2 := tokC_set (takeF x.m mk).1 (markL 3 mk f i l) i (by rw [markL_len]; exact hil)
            rw [h2, HAT.out] at h1
            have h3 := HS.out
            rw [turnT, if_pos hk] at h3
            rw [← h3]
            exact h1)
          generalize (wr.setCell ⟨g, i * 4 + 3, none⟩ (.int .i64 (takeF x.m mk).1)).drew = w4 at HF2 HB2 HG2 ⊢
          clear e0 e3 f3 d0 d2 d7 hlb hlg
          go_wp2_with fail
          go_roundg (t - (i + 1))
          case measure => omega
          case rel => exact ⟨i + 1, rfl, by omega, by omega, by first | rfl | go_num, HF2.out, HB2.out, HG2.out⟩
      · have hkb : (x.k == 0) = false := by simpa using hk
        go_wp2_with fail
        go_roundg (t - (i + 1))
        case measure => omega
        case rel => exact ⟨i + 1, rfl, by omega, by omega, by first | rfl | go_num, HF.out, HB.out, by show Blk _ _ _ _; rw [← HM.out hk]; exact HG.out⟩
    · have ht : ¬ ((i : Int) < (t : Int)) := by omega
      obtain rfl : i = t := by omega
      go_wp2_with fail
      go_ret
      exact ⟨.slice (some ⟨g, 0, none⟩) ln ln, rfl, ⟨g, by rw [markL_len, HLN.out], by omega, HG.out⟩, HF.out⟩
end Go.Proofs.YtanbfplcldloeaaGreatDoor

/- Chapter 9: a step, done; a step at a document. -/
namespace Go.Proofs.YtanbfplcldloeaaGreatDoor
open Go.RowKit
theorem stepF_zero {s : StepM} (h : stepF s = 0) : s.l.length ≤ 2048 ∧ kindOk s = true ∧ s.l.all okT = true := by
  unfold stepF at h
  split at h
  · omega
  · split at h
    · rename_i h1 h2
      rw [Bool.and_eq_true] at h2
      exact ⟨by omega, h2.1, h2.2⟩
    · omega
theorem kindOk_0 {s : StepM} (h : kindOk s = true) : ok0S s.f s.t = true := by
  unfold kindOk okRep okAro okMark at h
  by_cases h0 : s.k = 0
  · rw [if_pos h0] at h; simp only [Bool.and_eq_true] at h; exact h.1.1.1.1
  · rw [if_neg h0] at h
    by_cases h1 : s.k = 1
    · rw [if_pos h1] at h; simp only [Bool.and_eq_true] at h; exact h.1.1
    · rw [if_neg h1] at h
      by_cases h2 : s.k = 2 ∨ s.k = 3
      · rw [if_pos h2] at h; simp only [Bool.and_eq_true] at h; exact h.1.1.1.1.1.1
      · rw [if_neg h2] at h; simp at h
theorem kindOk_1 {s : StepM} (h : kindOk s = true) (h1 : s.k = 1) : aroS s.f s.t s.gf s.gt s.ins s.l.length = true := by
  unfold kindOk okAro at h
  rw [if_neg (by omega), if_pos h1] at h
  simp only [Bool.and_eq_true] at h
  exact h.1.2
theorem kindOk_k {s : StepM} (h : kindOk s = true) : s.k = 0 ∨ s.k = 1 ∨ s.k = 2 ∨ s.k = 3 := by
  unfold kindOk at h
  by_cases h0 : s.k = 0
  · exact .inl h0
  · by_cases h1 : s.k = 1
    · exact .inr (.inl h1)
    · by_cases h2 : s.k = 2 ∨ s.k = 3
      · exact .inr (.inr h2)
      · rw [if_neg h0, if_neg h1, if_neg h2] at h; simp at h
/-- What a step makes of a list. -/
def doF (s : StepM) (l : List Tok) : List Tok :=
  if s.k = 0 then repF s.f.toNat s.t.toNat s.l l
  else if s.k = 1 then aroF s.f.toNat s.t.toNat s.gf.toNat s.gt.toNat s.ins.toNat s.l l
  else markL s.k s.m s.f.toNat s.t.toNat l
theorem doF_len (s : StepM) (l : List Tok) (h : s.l.length ≤ 2048) (hl : l.length ≤ 10000) : (doF s l).length ≤ 40000 := by
  unfold doF
  split
  · simp only [repF, List.length_append, List.length_take, List.length_drop]; omega
  · split
    · simp only [aroF, List.length_append, List.length_take, List.length_drop]; omega
    · rw [markL_len]; omega
theorem stepdo_any (M : Nat → Prop) (s : StepM) (A B : Option Addr) (l : List Tok) (c b : Nat) (w : World) (hl : Rd M w A (tokC l)) (hx : Rd M w B (tokC s.l)) (hc : l.length ≤ c) (hb : s.l.length ≤ b) (hs : stepF s = 0) (ht : s.t ≤ l.length) (hn : l.length ≤ 10000) :
    Calls Tryz.prog 52 #[.slice A l.length c, .agg (s.cells (.slice B s.l.length b)).toArray] w fun e w' => ∃ v, e = .returned v ∧ NewDoc w w' v (doF s l) ∧ Fr Nob w w' := by
  obtain ⟨hxl, hk, _⟩ := stepF_zero hs
  have h0 := (ok0S_iff _ _).1 (kindOk_0 hk)
  have hkk := kindOk_k hk
  have haro := fun h1 => (aroS_iff _ _ _ _ _ _).1 (kindOk_1 hk h1)
  obtain ⟨k, f, t, gf, gt, ins, m, x⟩ := s
  simp only at *
  obtain ⟨f, rfl⟩ := Int.eq_ofNat_of_zero_le h0.1
  obtain ⟨t, rfl⟩ := Int.eq_ofNat_of_zero_le (show 0 ≤ t by omega)
  rcases hkk with rfl | rfl | rfl | rfl
  · refine (stepdo_rep M f t gf gt ins m A B x l c b w hl hx hc (by omega) (by omega) hn (by omega)).mono ?_
    rintro e w' ⟨v, rfl, hv, hF⟩
    exact ⟨v, rfl, hv, hF⟩
  · have ha := haro rfl
    obtain ⟨gf, rfl⟩ := Int.eq_ofNat_of_zero_le (show 0 ≤ gf by omega)
    obtain ⟨gt, rfl⟩ := Int.eq_ofNat_of_zero_le (show 0 ≤ gt by omega)
    obtain ⟨ins, rfl⟩ := Int.eq_ofNat_of_zero_le (show 0 ≤ ins by omega)
    refine (stepdo_aro M f t gf gt ins m A B x l c b w hl hx hc hb (by omega) (by omega) (by omega) (by omega) (by omega) hn (by omega)).mono ?_
    rintro e w' ⟨v, rfl, hv, hF⟩
    exact ⟨v, rfl, hv, hF⟩
  · refine (stepdo_add M f t gf gt ins m A B l c x.length b w hl hc (by omega) (by omega) hn).mono ?_
    rintro e w' ⟨v, rfl, hv, hF⟩
    exact ⟨v, rfl, hv, hF⟩
  · refine (stepdo_take M f t gf gt ins m A B l c x.length b w hl hc (by omega) (by omega) hn).mono ?_
    rintro e w' ⟨v, rfl, hv, hF⟩
    exact ⟨v, rfl, hv, hF⟩
/-- A step at a document: its error, or 0. -/
def applyE (s : StepM) (l : List Tok) : Int :=
  if (flatCheck l).2 ≠ 0 then (flatCheck l).2
  else if stepF s ≠ 0 then stepF s
  else if (l.length : Int) < s.t then 1
  else if (flatCheck (doF s l)).2 = 3 then 4
  else (flatCheck (doF s l)).2
theorem flat_short {l : List Tok} (h : (flatCheck l).2 = 0) : l.length ≤ 2048 := by
  unfold flatCheck at h
  split at h
  · simp at h
  · omega
set_option maxRecDepth 100000 in
set_option maxHeartbeats 4000000 in
theorem apply_any (M : Nat → Prop) (s : StepM) (A B : Option Addr) (l : List Tok) (c b : Nat) (w : World) (hl : Rd M w A (tokC l)) (hx : Rd M w B (tokC s.l)) (hc : l.length ≤ c) (hb : s.l.length ≤ b) (hn : l.length ≤ 9223372036854775807) :
    Calls Tryz.prog 24 #[.slice A l.length c, .agg (s.cells (.slice B s.l.length b)).toArray] w fun e w' => ∃ v, e = .returned (.tuple #[v, .int .i64 (applyE s l)]) ∧ (applyE s l = 0 → NewDoc w w' v (doF s l)) ∧ (applyE s l ≠ 0 → v = .slice none 0 0) ∧ Fr Nob w w' := by
  obtain ⟨E, hE⟩ : ∃ E, applyE s l = E := ⟨_, rfl⟩
  rw [hE]
  have HE := Lib.hid hE
  have HL := Lib.hid hl
  have HX := Lib.hid hx
  have HCB := Lib.hid (And.intro hc hb)
  obtain ⟨ln, hln⟩ : ∃ ln, l.length = ln := ⟨_, rfl⟩
  obtain ⟨xn, hxn⟩ : ∃ xn, s.l.length = xn := ⟨_, rfl⟩
  have HLN := Lib.hid hln
  have HXN := Lib.hid hxn
  have HDL : Hid (Doc M w (.slice A ln c) l) := ⟨A, c, by rw [hln], by rw [hln] at hc ⊢; exact hc, hl⟩
  have HN := Lib.hid hn
  rw [hln] at hn
  rw [hln, hxn]
  clear hl hx hc hb hln hxn hE
  obtain ⟨k, f, t, gf, gt, ins, m, x⟩ := s
  simp only [StepM.cells] at *
  go_enter Tryz.func24, Tryz.ntmps24
  go_upto_region 1 with (fail)
  obtain ⟨W, hW⟩ : ∃ W, w.alloc (.cells #[.int .i64 k, .int .i64 f, .int .i64 t, .int .i64 gf, .int .i64 gt, .int .i64 ins, .slice B xn b, .int .i64 m] 24) = W := ⟨_, rfl⟩
  have HF := Lib.hid (show Fr Nob w W by rw [← hW]; exact (Fr.refl _ _).alloc _)
  have HB := Lib.hid (show Blk W w.heap.size [.int .i64 k, .int .i64 f, .int .i64 t, .int .i64 gf, .int .i64 gt, .int .i64 ins, .slice B xn b, .int .i64 m] 24 by rw [← hW]; exact Blk.new _ _ _)
  rw [hW]
  clear hW
  go_wp2_with fail
  refine (flatcheck_any M l _ W (HDL.out.fr0 HF.out) HN.out).mono ?_
  rintro e w1 ⟨rfl, hF1⟩
  have HF1 := Lib.hid (HF.out.same hF1)
  have HB1 := Lib.hid (HB.out.fr hF1 (fun h => h))
  clear hF1
  obtain ⟨⟨fi, fe⟩, hfe⟩ : ∃ r, flatCheck l = r := ⟨_, rfl⟩
  have HFE := Lib.hid hfe
  rw [hfe]
  simp only
  clear hfe
  by_cases hz : fe = 0
  · subst hz
    have b0 := HB1.out.cell 0
    have b1 := HB1.out.cell 1
    have b2 := HB1.out.cell 2
    have b3 := HB1.out.cell 3
    have b4 := HB1.out.cell 4
    have b5 := HB1.out.cell 5
    have b6 := HB1.out.cell 6
    have b7 := HB1.out.cell 7
    have hlb := HB1.out.lt
    simp only [List.getElem?_cons_zero, List.getElem?_cons_succ] at b0 b1 b2 b3 b4 b5 b6 b7
    go_wp2_with fail
    have hck := stepcheck_any M ⟨k, f, t, gf, gt, ins, m, x⟩ B b w1 (HX.out.fr HF1.out (fun _ _ h => h.elim))
    simp only [StepM.cells, HXN.out] at hck
    refine hck.mono ?_
    clear hck
    rintro e w2 ⟨rfl, hF2⟩
    have HF2 := Lib.hid (HF1.out.same hF2)
    have HB2 := Lib.hid (HB1.out.fr hF2 (fun h => h))
    clear hF2 b0 b1 b2 b3 b4 b5 b6 b7 hlb
    obtain ⟨se, hse⟩ : ∃ r, stepF ⟨k, f, t, gf, gt, ins, m, x⟩ = r := ⟨_, rfl⟩
    have HSE := Lib.hid hse
    rw [hse]
    clear hse
    by_cases hz : se = 0
    · subst hz
      have b0 := HB2.out.cell 0
      have b1 := HB2.out.cell 1
      have b2 := HB2.out.cell 2
      have b3 := HB2.out.cell 3
      have b4 := HB2.out.cell 4
      have b5 := HB2.out.cell 5
      have b6 := HB2.out.cell 6
      have b7 := HB2.out.cell 7
      have hlb := HB2.out.lt
      simp only [List.getElem?_cons_zero, List.getElem?_cons_succ] at b0 b1 b2 b3 b4 b5 b6 b7
      by_cases htl : (ln : Int) < t
      · have HE2 := Lib.hid (show E = 1 by
          rw [← HE.out, applyE, HFE.out, if_neg (by simp), HSE.out, if_neg (by simp), if_pos (by rw [HLN.out]; exact htl)])
        go_wp2_with fail
        refine bodyPost_ret (v := .tuple #[.slice none 0 0, .int .i64 1]) (by simp [results, go_sem]) rfl ?_
        exact ⟨_, by rw [HE2.out], by rw [HE2.out]; intro h; omega, fun _ => rfl, HF2.out⟩
      · have HE2 := Lib.hid (show E = if (flatCheck (doF ⟨k, f, t, gf, gt, ins, m, x⟩ l)).2 = 3 then 4 else (flatCheck (doF ⟨k, f, t, gf, gt, ins, m, x⟩ l)).2 by
          rw [← HE.out, applyE, HFE.out, if_neg (by simp), HSE.out, if_neg (by simp), if_neg (by rw [HLN.out]; exact htl)])
        go_wp2_with fail
        have hsh := flat_short (show (flatCheck l).2 = 0 by rw [HFE.out])
        have hdo := stepdo_any M ⟨k, f, t, gf, gt, ins, m, x⟩ A B l c b w2 (HL.out.fr HF2.out (fun _ _ h => h.elim)) (HX.out.fr HF2.out (fun _ _ h => h.elim)) HCB.out.1 HCB.out.2 HSE.out (by show t ≤ _; rw [HLN.out]; omega) (by omega)
        have hdl := doF_len ⟨k, f, t, gf, gt, ins, m, x⟩ l (stepF_zero HSE.out).1 (by omega)
        simp only [StepM.cells, HXN.out, HLN.out] at hdo
        refine hdo.mono ?_
        clear hdo
        obtain ⟨D, hD⟩ : ∃ D, doF ⟨k, f, t, gf, gt, ins, m, x⟩ l = D := ⟨_, rfl⟩
        rw [hD] at HE2 hdl ⊢
        rintro e w3 ⟨v, rfl, hv, hF3⟩
        have HV := Lib.hid (hv.old HF2.out.size)
        have HF3 := Lib.hid (HF2.out.same hF3)
        clear hv hF3 b0 b1 b2 b3 b4 b5 b6 b7 hlb hsh
        go_wp2_with fail
        refine (flatcheck_any _ D _ w3 HV.out.doc (by omega)).mono ?_
        rintro e w4 ⟨rfl, hF4⟩
        have HV4 : Hid (NewDoc w w4 v D) := by
          obtain ⟨g, rfl, hg, hb⟩ := HV.out
          exact ⟨g, rfl, hg, hb.fr hF4 (fun h => h)⟩
        have HF4 := Lib.hid (HF3.out.same hF4)
        clear hF4
        obtain ⟨⟨oi, oe⟩, hoe⟩ : ∃ r, flatCheck D = r := ⟨_, rfl⟩
        rw [hoe] at HE2 ⊢
        simp only at HE2 ⊢
        clear hoe
        by_cases ho : oe = 0
        · subst ho
          have HE3 := Lib.hid (show E = 0 by rw [HE2.out, if_neg (by omega)])
          go_wp2_with fail
          refine bodyPost_ret (v := .tuple #[v, .int .i64 0]) (by simp [results, go_sem]) rfl ?_
          exact ⟨v, by rw [HE3.out], fun _ => by rw [hD]; exact HV4.out, fun h => absurd HE3.out h, HF4.out⟩
        · have ho1 : (oe == 0) = false := by simpa using ho
          by_cases ho3 : oe = 3
          · subst ho3
            have HE3 := Lib.hid (show E = 4 by rw [HE2.out, if_pos rfl])
            go_wp2_with fail
            refine bodyPost_ret (v := .tuple #[.slice none 0 0, .int .i64 4]) (by simp [results, go_sem]) rfl ?_
            exact ⟨_, by rw [HE3.out], by rw [HE3.out]; intro h; omega, fun _ => rfl, HF4.out⟩
          · have ho2 : (oe == 3) = false := by simpa using ho3
            have HE3 := Lib.hid (show E = oe by rw [HE2.out, if_neg ho3])
            go_wp2_with fail
            refine bodyPost_ret (v := .tuple #[.slice none 0 0, .int .i64 oe]) (by simp [results, go_sem]) rfl ?_
            exact ⟨_, by rw [HE3.out], by rw [HE3.out]; intro h; exact absurd h ho, fun _ => rfl, HF4.out⟩
    · have hse2 : (se != 0) = true := by simpa using hz
      have HE2 := Lib.hid (show E = se by
        rw [← HE.out, applyE, HFE.out, if_neg (by simp), HSE.out, if_pos hz])
      go_wp2_with fail
      refine bodyPost_ret (v := .tuple #[.slice none 0 0, .int .i64 se]) (by simp [results, go_sem]) rfl ?_
      exact ⟨_, by rw [HE2.out], by rw [HE2.out]; intro h; exact absurd h hz, fun _ => rfl, HF2.out⟩
  · have hfe2 : (fe != 0) = true := by simpa using hz
    have HE2 := Lib.hid (show E = fe by
      rw [← HE.out, applyE, HFE.out, if_pos hz])
    go_wp2_with fail
    refine bodyPost_ret (v := .tuple #[.slice none 0 0, .int .i64 fe]) (by simp [results, go_sem]) rfl ?_
    exact ⟨_, by rw [HE2.out], by rw [HE2.out]; intro h; exact absurd h hz, fun _ => rfl, HF1.out⟩
end Go.Proofs.YtanbfplcldloeaaGreatDoor

/- Chapter 8: ranges; may a map be. -/
namespace Go.Proofs.YtanbfplcldloeaaGreatDoor
open Go.RowKit
structure Rng where
  a : Int
  o : Int
  n : Int
def Rng.cells (x : Rng) : List Value := [.int .i64 x.a, .int .i64 x.o, .int .i64 x.n]
theorem Rng.cells_len (x : Rng) : x.cells.length = 3 := rfl
def rngC (l : List Rng) : List Value := l.flatMap Rng.cells
def badR (x : Rng) (last : Int) : Bool := decide (x.a < last ∨ 65536 < x.a ∨ 65536 < x.o ∨ 65536 < x.n ∨ x.o < 0 ∨ x.n < 0)
theorem badR_iff (x : Rng) (last : Int) : badR x last = true ↔ (x.a < last ∨ 65536 < x.a ∨ 65536 < x.o ∨ 65536 < x.n ∨ x.o < 0 ∨ x.n < 0) := by unfold badR; exact decide_eq_true_iff
def rightF : List Rng → Int → Bool
  | [], _ => true
  | x :: l, last => if badR x last = true then false else rightF l (x.a + x.o)
def rightP (l : List Rng) : Bool := rightF l 0 && decide (l.length ≤ 4)
set_option maxRecDepth 100000 in
theorem posright_any (M : Nat → Prop) (l : List Rng) (A : Option Addr) (c : Nat) (w : World) (hr : Rd M w A (rngC l)) (hl : l.length ≤ 4611686018427387904) :
    Calls Tryz.prog 27 #[.slice A l.length c] w fun e w' => e = .returned (.bool (rightP l)) ∧ Fr Nob w w' := by
  obtain ⟨r, hrr⟩ : ∃ r, rightP l = r := ⟨_, rfl⟩
  rw [hrr]
  have HR0 := Lib.hid hrr
  obtain ⟨q0, hq0⟩ : ∃ q0, rightF l 0 = q0 := ⟨_, rfl⟩
  have HQ0 := Lib.hid hq0
  have HRd := Lib.hid hr
  clear hrr hr hq0
  go_enter Tryz.func27, Tryz.ntmps27
  go_wp2_with fail
  go_loopg [3, 8] (l.length) (fun n la i wr => ∃ (k : Nat) (last : Int), n = l.length - k ∧ k ≤ l.length ∧ la = .int .i64 last ∧ i = .int .i64 k ∧ 0 ≤ last ∧ last ≤ 131072 ∧ Hid (Fr Nob w wr) ∧ Hid (rightF (l.drop k) last = q0))
  case atStart => exact ⟨0, 0, rfl, Nat.zero_le _, rfl, rfl, by omega, by omega, Fr.refl _ _, HQ0.out⟩
  case round =>
    obtain ⟨k, last, rfl, hk, rfl, rfl, hl0, hl1, HF, HC⟩ := hrel
    by_cases hlt : k < l.length
    · have ht : ((k : Int) < (l.length : Int)) := by omega
      obtain ⟨ad, rfl, _, hlb, q0', q⟩ := Rd.elt Rng.cells_len (by omega) (HRd.out.fr HF.out (fun _ _ h => h.elim)) hlt
      have hdr : l.drop k = l[k] :: l.drop (k + 1) := List.drop_eq_getElem_cons hlt
      generalize l[k] = x at q0' q hdr
      have q1 := q 0 (by omega)
      have q2 := q 1 (by omega)
      simp only [Rng.cells, List.getElem?_cons_zero, List.getElem?_cons_succ, Nat.reduceAdd] at q0' q1 q2
      have hcc := HC.out
      rw [hdr, rightF] at hcc
      have HCC := Lib.hid hcc
      have hff : Fr Nob w (wr.alloc (.cells #[.int .i64 x.a, .int .i64 x.o, .int .i64 x.n] 135)) := HF.out.alloc _
      have HFF := Lib.hid hff
      clear q hdr HC hcc hff
      by_cases h1 : x.a < last
      · have HE := Lib.hid (show false = r by rw [← HR0.out, rightP, HQ0.out, ← HCC.out, if_pos ((badR_iff x last).2 (.inl h1))]; rfl)
        go_wp2_with fail
        go_ret
        exact ⟨by rw [← HE.out]; rfl, HFF.out⟩
      · go_wp2_with fail
        all_goals first
          | (have hb : x.a < last ∨ 65536 < x.a ∨ 65536 < x.o ∨ 65536 < x.n ∨ x.o < 0 ∨ x.n < 0 := by omega
             have HE := Lib.hid (show false = r by rw [← HR0.out, rightP, HQ0.out, ← HCC.out, if_pos ((badR_iff x last).2 hb)]; rfl)
             go_ret
             exact ⟨by rw [← HE.out]; rfl, HFF.out⟩)
          | (have hb : ¬ (x.a < last ∨ 65536 < x.a ∨ 65536 < x.o ∨ 65536 < x.n ∨ x.o < 0 ∨ x.n < 0) := by omega
             have hcc := HCC.out
             rw [if_neg (fun h => hb ((badR_iff x last).1 h))] at hcc
             have HE := Lib.hid hcc
             clear hcc
             go_roundg (l.length - (k + 1))
             case measure => omega
             case rel => exact ⟨k + 1, x.a + x.o, rfl, by omega, by first | rfl | go_num, by first | rfl | go_num, by omega, by omega, HFF.out, HE.out⟩)
    · have ht : ¬ ((k : Int) < (l.length : Int)) := by omega
      have hcc := HC.out
      rw [List.drop_eq_nil_of_le (by omega), rightF] at hcc
      have HE := Lib.hid (show decide (l.length ≤ 4) = r by rw [← HR0.out, rightP, HQ0.out, ← hcc]; rfl)
      clear hcc HC
      by_cases h4 : l.length ≤ 4
      · have h4' : ((l.length : Int) ≤ 4) := by omega
        rw [decide_eq_true h4] at HE
        go_wp2_with fail
        go_ret
        exact ⟨by rw [← HE.out]; rfl, HF.out⟩
      · have h4' : ¬ ((l.length : Int) ≤ 4) := by omega
        rw [decide_eq_false h4] at HE
        go_wp2_with fail
        go_ret
        exact ⟨by rw [← HE.out]; rfl, HF.out⟩
end Go.Proofs.YtanbfplcldloeaaGreatDoor

/- Chapter 8: maps that nobody made; a place's spot in a range. -/
namespace Go.Proofs.YtanbfplcldloeaaGreatDoor
open Go.RowKit
set_option maxRecDepth 100000 in
theorem posnone_any (m : Nat) (w : World) (h : w.cell? ⟨m, 1, none⟩ = some (.bool true)) :
    Calls Tryz.prog 26 #[.pointer (some ⟨m, 0, none⟩)] w fun e w' => e = .returned (.bool false) ∧ w' = w := by
  have hl := cell_lt h
  go_enter Tryz.func26, Tryz.ntmps26
  go_wp2_with fail
  go_ret
  exact ⟨rfl, rfl⟩
set_option maxRecDepth 100000 in
theorem posnew_any (w : World) :
    Calls Tryz.prog 9 #[] w fun e w' => e = .returned (.pointer (some ⟨w.heap.size, 0, none⟩)) ∧ w' = w.alloc (.cells #[.slice none 0 0, .bool true] 71) := by
  go_enter Tryz.func9, Tryz.ntmps9
  go_wp2_with fail
  go_ret
  exact ⟨rfl, rfl⟩
def withinL (x : Rng) (p side : Int) : Bool := if x.o = 0 then decide (side < 0) else if p = x.a then true else if p = x.a + x.o then false else decide (side < 0)
def withinG (x : Rng) (p : Int) : Bool := if x.o = 0 then false else if p = x.a then false else if p = x.a + x.o then false else true
def spotC (a : Int) (g : Bool) (i o : Int) : List Value := [.int .i64 a, .bool g, .int .i64 i, .int .i64 o]
theorem spot_ret (w : World) (xa xo xn A : Int) (G : Bool) :
    ∀ W : World, ((w.alloc (.cells #[.int .i64 xa, .int .i64 xo, .int .i64 xn] 135)).alloc (.cells #[.int .i64 A, .bool G, .int .i64 (-1), .int .i64 0] 80)).alloc (.cells #[.int .i64 A, .bool G, .int .i64 (-1), .int .i64 0] 80) = W → W.cell? ⟨w.heap.size + 1, 0, none⟩ = some (.int .i64 A) ∧ W.cell? ⟨w.heap.size + 1, 1, none⟩ = some (.bool G) ∧ W.cell? ⟨w.heap.size + 1, 2, none⟩ = some (.int .i64 (-1)) ∧ W.cell? ⟨w.heap.size + 1, 3, none⟩ = some (.int .i64 0) ∧ Fr Nob w W := by
  rintro W rfl
  have hb : Blk (((w.alloc (.cells #[.int .i64 xa, .int .i64 xo, .int .i64 xn] 135)).alloc (.cells #[.int .i64 A, .bool G, .int .i64 (-1), .int .i64 0] 80)).alloc (.cells #[.int .i64 A, .bool G, .int .i64 (-1), .int .i64 0] 80)) (w.heap.size + 1) [.int .i64 A, .bool G, .int .i64 (-1), .int .i64 0] 80 := (Blk.new_at (w.alloc (.cells #[.int .i64 xa, .int .i64 xo, .int .i64 xn] 135)) _ _ (w.heap.size + 1) (by simp)).alloc _
  exact ⟨hb.cell 0, hb.cell 1, hb.cell 2, hb.cell 3, (((Fr.refl Nob w).alloc _).alloc _).alloc _⟩
set_option maxRecDepth 100000 in
set_option maxHeartbeats 2000000 in
theorem within_any (x : Rng) (b p side : Int) (w : World) (ha : 0 ≤ x.a ∧ x.a ≤ 65536) (ho : 0 ≤ x.o ∧ x.o ≤ 65536) (hn : 0 ≤ x.n ∧ x.n ≤ 65536) (hb : -1000000 ≤ b ∧ b ≤ 1000000) :
    Calls Tryz.prog 90 #[.agg x.cells.toArray, .int .i64 b, .int .i64 p, .int .i64 side] w fun e w' => e = .returned (.agg (spotC (if withinL x p side = true then b else b + x.n) (withinG x p) (-1) 0).toArray) ∧ Fr Nob w w' := by
  obtain ⟨xa, xo, xn⟩ := x
  simp only at ha ho hn
  obtain ⟨L, hL⟩ : ∃ L, withinL ⟨xa, xo, xn⟩ p side = L := ⟨_, rfl⟩
  obtain ⟨G, hG⟩ : ∃ G, withinG ⟨xa, xo, xn⟩ p = G := ⟨_, rfl⟩
  rw [hL, hG, show (⟨xa, xo, xn⟩ : Rng).cells.toArray = #[.int .i64 xa, .int .i64 xo, .int .i64 xn] from rfl]
  unfold withinL at hL
  unfold withinG at hG
  simp only at hL hG
  obtain ⟨R, hR⟩ : ∃ R, (if L = true then b else b + xn) = R := ⟨_, rfl⟩
  rw [hR]
  have HR := Lib.hid hR
  have HL := Lib.hid hL
  have HG := Lib.hid hG
  clear hL hG hR
  by_cases h0 : xo = 0
  · have b0 : (xo == 0) = true := by simpa using h0
    by_cases hs : side < 0
    · have hs' := hs
      have HE := Lib.hid (show b = R ∧ false = G by have h1 := HL.out; have h2 := HG.out; have h3 := HR.out; rw [if_pos h0] at h1 h2; rw [decide_eq_true hs] at h1; rw [← h1, if_pos rfl] at h3; exact ⟨h3, h2⟩)
      clear HL HG HR h0
      go_enter Tryz.func90, Tryz.ntmps90
      go_wp2_with fail
      obtain ⟨W, hW⟩ : ∃ W, ((w.alloc (.cells #[.int .i64 xa, .int .i64 xo, .int .i64 xn] 135)).alloc (.cells #[.int .i64 b, .bool false, .int .i64 (-1), .int .i64 0] 80)).alloc (.cells #[.int .i64 b, .bool false, .int .i64 (-1), .int .i64 0] 80) = W := ⟨_, rfl⟩
      obtain ⟨p0, p1, p2, p3, hF⟩ := spot_ret w xa xo xn b false W hW
      rw [hW]
      exact bodyPost_ret (v := .agg #[.int .i64 b, .bool false, .int .i64 (-1), .int .i64 0]) (by simp [results, go_sem, p0, p1, p2, p3]) rfl ⟨by rw [← HE.out.1, ← HE.out.2]; rfl, hF⟩
    · have hs' := hs
      have HE := Lib.hid (show (b + xn) = R ∧ false = G by have h1 := HL.out; have h2 := HG.out; have h3 := HR.out; rw [if_pos h0] at h1 h2; rw [decide_eq_false hs] at h1; rw [← h1, if_neg (by simp)] at h3; exact ⟨h3, h2⟩)
      clear HL HG HR h0
      go_enter Tryz.func90, Tryz.ntmps90
      go_wp2_with fail
      obtain ⟨W, hW⟩ : ∃ W, ((w.alloc (.cells #[.int .i64 xa, .int .i64 xo, .int .i64 xn] 135)).alloc (.cells #[.int .i64 (b + xn), .bool false, .int .i64 (-1), .int .i64 0] 80)).alloc (.cells #[.int .i64 (b + xn), .bool false, .int .i64 (-1), .int .i64 0] 80) = W := ⟨_, rfl⟩
      obtain ⟨p0, p1, p2, p3, hF⟩ := spot_ret w xa xo xn (b + xn) false W hW
      rw [hW]
      exact bodyPost_ret (v := .agg #[.int .i64 (b + xn), .bool false, .int .i64 (-1), .int .i64 0]) (by simp [results, go_sem, p0, p1, p2, p3]) rfl ⟨by rw [← HE.out.1, ← HE.out.2]; rfl, hF⟩
  · have b0 : (xo == 0) = false := by simpa using h0
    by_cases h1' : p = xa
    · have b1 : (p == xa) = true := by simpa using h1'
      have HE := Lib.hid (show b = R ∧ false = G by have h1 := HL.out; have h2 := HG.out; have h3 := HR.out; rw [if_neg h0, if_pos h1'] at h1 h2; rw [← h1, if_pos rfl] at h3; exact ⟨h3, h2⟩)
      clear HL HG HR h0 h1'
      go_enter Tryz.func90, Tryz.ntmps90
      go_wp2_with fail
      obtain ⟨W, hW⟩ : ∃ W, ((w.alloc (.cells #[.int .i64 xa, .int .i64 xo, .int .i64 xn] 135)).alloc (.cells #[.int .i64 b, .bool false, .int .i64 (-1), .int .i64 0] 80)).alloc (.cells #[.int .i64 b, .bool false, .int .i64 (-1), .int .i64 0] 80) = W := ⟨_, rfl⟩
      obtain ⟨p0, p1, p2, p3, hF⟩ := spot_ret w xa xo xn b false W hW
      rw [hW]
      exact bodyPost_ret (v := .agg #[.int .i64 b, .bool false, .int .i64 (-1), .int .i64 0]) (by simp [results, go_sem, p0, p1, p2, p3]) rfl ⟨by rw [← HE.out.1, ← HE.out.2]; rfl, hF⟩
    · have b1 : (p == xa) = false := by simpa using h1'
      by_cases h2' : p = xa + xo
      · have b2 : (p == xa + xo) = true := by simpa using h2'
        have HE := Lib.hid (show (b + xn) = R ∧ false = G by have h1 := HL.out; have h2 := HG.out; have h3 := HR.out; rw [if_neg h0, if_neg h1', if_pos h2'] at h1 h2; rw [← h1, if_neg (by simp)] at h3; exact ⟨h3, h2⟩)
        clear HL HG HR h0 h1' h2'
        go_enter Tryz.func90, Tryz.ntmps90
        go_wp2_with fail
        obtain ⟨W, hW⟩ : ∃ W, ((w.alloc (.cells #[.int .i64 xa, .int .i64 xo, .int .i64 xn] 135)).alloc (.cells #[.int .i64 (b + xn), .bool false, .int .i64 (-1), .int .i64 0] 80)).alloc (.cells #[.int .i64 (b + xn), .bool false, .int .i64 (-1), .int .i64 0] 80) = W := ⟨_, rfl⟩
        obtain ⟨p0, p1, p2, p3, hF⟩ := spot_ret w xa xo xn (b + xn) false W hW
        rw [hW]
        exact bodyPost_ret (v := .agg #[.int .i64 (b + xn), .bool false, .int .i64 (-1), .int .i64 0]) (by simp [results, go_sem, p0, p1, p2, p3]) rfl ⟨by rw [← HE.out.1, ← HE.out.2]; rfl, hF⟩
      · have b2 : (p == xa + xo) = false := by simpa using h2'
        by_cases hs : side < 0
        · have hs' := hs
          have HE := Lib.hid (show b = R ∧ true = G by have h1 := HL.out; have h2 := HG.out; have h3 := HR.out; rw [if_neg h0, if_neg h1', if_neg h2'] at h1 h2; rw [decide_eq_true hs] at h1; rw [← h1, if_pos rfl] at h3; exact ⟨h3, h2⟩)
          clear HL HG HR h0 h1' h2'
          go_enter Tryz.func90, Tryz.ntmps90
          go_wp2_with fail
          obtain ⟨W, hW⟩ : ∃ W, ((w.alloc (.cells #[.int .i64 xa, .int .i64 xo, .int .i64 xn] 135)).alloc (.cells #[.int .i64 b, .bool true, .int .i64 (-1), .int .i64 0] 80)).alloc (.cells #[.int .i64 b, .bool true, .int .i64 (-1), .int .i64 0] 80) = W := ⟨_, rfl⟩
          obtain ⟨p0, p1, p2, p3, hF⟩ := spot_ret w xa xo xn b true W hW
          rw [hW]
          exact bodyPost_ret (v := .agg #[.int .i64 b, .bool true, .int .i64 (-1), .int .i64 0]) (by simp [results, go_sem, p0, p1, p2, p3]) rfl ⟨by rw [← HE.out.1, ← HE.out.2]; rfl, hF⟩
        · have hs' := hs
          have HE := Lib.hid (show (b + xn) = R ∧ true = G by have h1 := HL.out; have h2 := HG.out; have h3 := HR.out; rw [if_neg h0, if_neg h1', if_neg h2'] at h1 h2; rw [decide_eq_false hs] at h1; rw [← h1, if_neg (by simp)] at h3; exact ⟨h3, h2⟩)
          clear HL HG HR h0 h1' h2'
          go_enter Tryz.func90, Tryz.ntmps90
          go_wp2_with fail
          obtain ⟨W, hW⟩ : ∃ W, ((w.alloc (.cells #[.int .i64 xa, .int .i64 xo, .int .i64 xn] 135)).alloc (.cells #[.int .i64 (b + xn), .bool true, .int .i64 (-1), .int .i64 0] 80)).alloc (.cells #[.int .i64 (b + xn), .bool true, .int .i64 (-1), .int .i64 0] 80) = W := ⟨_, rfl⟩
          obtain ⟨p0, p1, p2, p3, hF⟩ := spot_ret w xa xo xn (b + xn) true W hW
          rw [hW]
          exact bodyPost_ret (v := .agg #[.int .i64 (b + xn), .bool true, .int .i64 (-1), .int .i64 0]) (by simp [results, go_sem, p0, p1, p2, p3]) rfl ⟨by rw [← HE.out.1, ← HE.out.2]; rfl, hF⟩
end Go.Proofs.YtanbfplcldloeaaGreatDoor
