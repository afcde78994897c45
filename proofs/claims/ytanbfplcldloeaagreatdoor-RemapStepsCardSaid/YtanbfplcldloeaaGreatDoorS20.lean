/- A part of the proof for chapter 10: PosE, Append, Recover, Invert, PosMap; no conditions. -/
import Derived.Test.YtanbfplcldloeaaGreatDoorS19
import Derived.Deep.AppendLies
import Derived.Deep.DeepAppendRoom
import Derived.Deep.Onto
import Derived.ArgAppend
import Derived.Deep.RegionHeld
/- Chapter 8: a walk over ranges: what the iterator promises. -/
namespace Go.Proofs.YtanbfplcldloeaaGreatDoor
open Go.RowKit Go.Shelf
attribute [local go_sem] Oper.semAt_some
/-- How far places have moved behind the first k. -/
def dF (xs : List Rng) (k : Nat) : Int := ((xs.take k).map fun x => x.n - x.o).sum
theorem dF_succ (xs : List Rng) (k : Nat) (hk : k < xs.length) : dF xs (k + 1) = dF xs k + (xs[k].n - xs[k].o) := by
  unfold dF
  rw [List.take_succ_eq_append_getElem hk, List.map_append, List.sum_append]
  simp
/-- Where the k-th begins behind the change. -/
def begF (xs : List Rng) (k : Nat) : Int := (xs[k]?.getD ⟨0, 0, 0⟩).a + dF xs k
/-- The first k have come. -/
def Upto {n : Nat} (pre : List (Fin n)) (k : Nat) : Prop := pre.map Fin.val = List.range k
theorem Upto.len {n : Nat} {pre : List (Fin n)} {k : Nat} (h : Upto pre k) : pre.length = k := by
  have := congrArg List.length h
  simpa using this
theorem Upto.succ {n : Nat} {pre : List (Fin n)} {k : Nat} (h : Upto pre k) (hk : k < n) : Upto (pre ++ [⟨k, hk⟩]) (k + 1) := by
  unfold Upto at h ⊢
  rw [List.map_append, h, List.range_succ]
  rfl
def okR (x : Rng) : Prop := 0 ≤ x.a ∧ x.a ≤ 65536 ∧ 0 ≤ x.o ∧ x.o ≤ 65536 ∧ 0 ≤ x.n ∧ x.n ≤ 65536
theorem rightF_ok : ∀ (l : List Rng) (last : Int), 0 ≤ last → rightF l last = true → ∀ x ∈ l, okR x
  | [], _, _, _ => by simp
  | x :: l, last, h0, h => by
    rw [rightF] at h
    split at h
    · simp at h
    · rename_i hb
      rw [badR_iff] at hb
      intro y hy
      rcases List.mem_cons.1 hy with rfl | hy
      · unfold okR; omega
      · exact rightF_ok l _ (by omega) h y hy
theorem rightP_ok {l : List Rng} (h : rightP l = true) : l.length ≤ 4 ∧ ∀ x ∈ l, okR x := by
  rw [rightP, Bool.and_eq_true, decide_eq_true_eq] at h
  exact ⟨h.2, rightF_ok l 0 (by omega) h.1⟩
theorem dF_bound (xs : List Rng) (hx : ∀ x ∈ xs, okR x) : ∀ k, k ≤ xs.length → -65536 * (k : Int) ≤ dF xs k ∧ dF xs k ≤ 65536 * (k : Int)
  | 0, _ => by simp [dF]
  | k + 1, hk => by
    have h1 := dF_bound xs hx k (by omega)
    have h2 := hx xs[k] (List.getElem_mem _)
    rw [dF_succ xs k (by omega)]
    unfold okR at h2
    omega
theorem fr_of_below {n₀ : Nat} {A B : World} (h : Below n₀ A B) : Fr (fun k => n₀ ≤ k) A B := ⟨h.os, h.tape, h.output, h.size, fun k _ hn => h.block k (by omega)⟩
/-- What a round keeps: what lay below n₀, and the blocks of one range. -/
def KpR (n₀ : Nat) (A B : World) : Prop := Below n₀ A B ∧ ∀ (k : Nat) (cs : Array Value), A.heap[k]? = some (.cells cs 135 (0, 0)) → cs.size = 3 → B.heap[k]? = some (.cells cs 135 (0, 0))
theorem KpR.refl (n₀ : Nat) (A : World) : KpR n₀ A A := ⟨Below.refl _ _, fun _ _ h _ => h⟩
theorem KpR.trans {n₀ : Nat} {A B C : World} (h : KpR n₀ A B) (k : KpR n₀ B C) : KpR n₀ A C := ⟨h.1.trans k.1, fun i cs hi hs => k.2 i cs (h.2 i cs hi hs) hs⟩
theorem KpR.drew (n₀ : Nat) (W : World) : KpR n₀ W W.drew := ⟨(Below.refl n₀ W).drew, fun _ _ h _ => h⟩
theorem KpR.putObj {n₀ : Nat} {w : World} (hn : n₀ ≤ w.heap.size) (W : World) (l : Nat) (o o' : Obj) (hl : w.heap.size ≤ l) (h : W.heap[l]? = some o) (hc : o.isCells = false) (hw : o.isWalk = false) : KpR n₀ W (W.putObj l o') :=
  ⟨belowK_b hn W l o o' hl h hc hw, fun k cs hk _ => by
    have hne : k ≠ l := by rintro rfl; rw [hk] at h; cases h; simp [Obj.isCells] at hc
    exact (World.putObj_heap_other hne).trans hk⟩
set_option maxRecDepth 100000 in
set_option maxHeartbeats 4000000 in
theorem each1_in (F : Fence) (n : Nat) (hf : F.fn 93) (hro : F.round = none) (hn : 1 ≤ n) (l Bs n₀ : Nat) (A : Option Addr) (c : Nat) (xs : List Rng) (hx : ∀ x ∈ xs, okR x) (h4 : xs.length ≤ 4) (J Jx : List (Fin xs.length) → World → Prop)
    (hY : ∀ pre x W, J pre W → pre.length < xs.length → YieldAt F (n - 1) Tryz.prog l #[.int .i64 (x.val : Int), .int .i64 (begF xs x.val)] W fun e W' =>
      (e = .returned (.bool true) ∧ J (pre ++ [x]) W' ∧ KpR n₀ W W') ∨ (e = .returned (.bool false) ∧ Jx (pre ++ [x]) W'))
    (W : World) (hJ : AbidesFrom W.heap.size J) (hBs : W.cell? ⟨Bs, 0, none⟩ = some (.slice A xs.length c)) (hr : Rd (fun k => n₀ ≤ k) W A (rngC xs)) (hn0 : n₀ ≤ W.heap.size) (h0 : J [] W) :
    CallsIn F n Tryz.prog 93 #[.func (.yield l) #[] #[], .pointer (some ⟨Bs, 0, none⟩)] W fun e W' => (∃ v, e = .returned v) ∧
      ((∃ ys, Upto ys xs.length ∧ J ys W') ∨ (∃ pre, (∃ k, k ≤ xs.length ∧ Upto pre k) ∧ Jx pre W')) := by
  refine callsIn_of_wp Tryz.func93 rfl hf ?_ hro
  simp only [Tryz.ntmps93, List.size_toArray, List.length_cons, List.length_nil, Nat.reduceAdd, Nat.reduceSub, Array.replicate_succ, Array.replicate_zero, List.push_toArray, List.append_toArray, List.nil_append, List.cons_append]
  have HRd := Lib.hid hr
  have HX := Lib.hid hx
  have HJ := Lib.hid hJ
  have HY := Lib.hid hY
  clear hr hx hJ hY
  gi_wp2
  gi_loopw [3, 8] (fun d i wr => ∃ (k : Nat) (pre : List (Fin xs.length)), k ≤ xs.length ∧ d = .int .i64 (dF xs k) ∧ i = .int .i64 k ∧ Hid (Upto pre k) ∧ Hid (J pre wr) ∧ Hid (Below n₀ W wr))
    (fun _ i _ => xs.length - (intOf i).toNat)
  case atStart => exact ⟨0, [], Nat.zero_le _, by simp [dF], rfl, (show Upto [] 0 from rfl), h0, Below.refl _ _⟩
  case round =>
    obtain ⟨k, pre, hk, rfl, rfl, HU, HJs, HB⟩ := hrel
    by_cases hlt : k < xs.length
    · have ht : ((k : Int) < (xs.length : Int)) := by omega
      obtain ⟨ad, rfl, _, hlb, q0', q⟩ := Rd.elt Rng.cells_len (by omega) (HRd.out.fr (fr_of_below HB.out) (fun _ _ h => h)) hlt
      have q1 := q 0 (by omega)
      have q2 := q 1 (by omega)
      clear q
      have hd1 := dF_bound xs HX.out k hk
      have hd2 := dF_bound xs HX.out (k + 1) (by omega)
      have hds := dF_succ xs k hlt
      have hox := HX.out xs[k] (List.getElem_mem _)
      have hbg : begF xs k = xs[k].a + dF xs k := by simp [begF, hlt]
      generalize xs[k] = x at q0' q1 q2 hds hox hbg
      simp only [Rng.cells, List.getElem?_cons_zero, List.getElem?_cons_succ, Nat.reduceAdd] at q0' q1 q2
      unfold okR at hox
      obtain ⟨fn, tmps, assign, body, hy, hR⟩ := HY.out pre ⟨k, hlt⟩ (wr.alloc (.cells #[.int .i64 x.a, .int .i64 x.o, .int .i64 x.n] 135)) (HJ.out _ wr _ none HJs.out (World.grownBy_alloc _ _ none) (by simp)) (by rw [HU.out.len]; exact hlt)
      dsimp only at hy
      rw [hbg] at hy
      have HR := Lib.hid hR
      have HDS := Lib.hid hds
      have HBG := Lib.hid hbg
      rw [hds] at hd2
      clear hR hds hbg
      generalize hdd : dF xs k = d at *
      gi_wp2
      refine HR.out.mono ?_
      rintro e W3 (⟨rfl, hJ3, hk3⟩ | ⟨rfl, hJx3⟩)
      · have hb : Blk W3 wr.heap.size [.int .i64 x.a, .int .i64 x.o, .int .i64 x.n] 135 := hk3.2 _ _ (Blk.new wr [.int .i64 x.a, .int .i64 x.o, .int .i64 x.n] 135) rfl
        have e1 := hb.cell 1
        have e2 := hb.cell 2
        have hlb3 := hb.lt
        simp only [List.getElem?_cons_zero, List.getElem?_cons_succ] at e1 e2
        have HB3 := Lib.hid (HB.out.trans (((Below.refl n₀ wr).alloc (Nat.le_trans hn0 HB.out.size) (.cells #[.int .i64 x.a, .int .i64 x.o, .int .i64 x.n] 135)).trans hk3.1))
        have HJ3 := Lib.hid hJ3
        clear hb hk3 hJ3 q0' q1 q2 hlb hy
        gi_wp2
        go_roundw
        case rel => exact ⟨k + 1, pre ++ [(⟨k, hlt⟩ : Fin xs.length)], by omega, by rw [HDS.out], by simp, Lib.hid (HU.out.succ hlt), HJ3, HB3⟩
        case measure => simp [intOf]; omega
      · gi_wp2
        refine bodyPost_ret (results_none rfl _ _ _) rfl ?_
        exact ⟨⟨_, rfl⟩, .inr ⟨_, ⟨k + 1, by omega, HU.out.succ hlt⟩, hJx3⟩⟩
    · have ht : ¬ ((k : Int) < (xs.length : Int)) := by omega
      obtain rfl : k = xs.length := by omega
      gi_wp2
      go_end0
      exact ⟨⟨_, rfl⟩, .inl ⟨_, HU.out, HJs.out⟩⟩
/-- **each(m) hands back a value that 'SeqStopsK'.** -/
theorem each_stops (F : Fence) (n : Nat) (hf : F.fn 93) (hro : F.round = none) (hn : 1 ≤ n) (Bs n₀ : Nat) (A : Option Addr) (c : Nat) (xs : List Rng) (hx : ∀ x ∈ xs, okR x) (h4 : xs.length ≤ 4) (w : World) (hBs : Bs < w.heap.size) (hn₀ : n₀ ≤ w.heap.size)
    (hc : w.cell? ⟨Bs, 0, none⟩ = some (.slice A xs.length c)) (hr : Rd (fun k => n₀ ≤ k) w A (rngC xs)) :
    SeqStopsK F n Tryz.prog 93 #[.pointer (some ⟨Bs, 0, none⟩)] (fun x : Fin xs.length => #[Value.int .i64 (x.val : Int), Value.int .i64 (begF xs x.val)]) (KpR n₀) (fun ys => Upto ys xs.length)
      (fun pre => ∃ k, k ≤ xs.length ∧ Upto pre k) xs.length w := fun l J Jx W hW hJ _ hY h0 =>
  each1_in F n hf hro hn l Bs n₀ A c xs hx h4 J Jx hY W hJ ((hW.cell (p := ⟨Bs, 0, none⟩) hBs).trans hc) (hr.fr (fr_of_below (hW.mono hn₀)) (fun _ _ h => h)) (Nat.le_trans hn₀ hW.size) h0
end Go.Proofs.YtanbfplcldloeaaGreatDoor

/- append onto a row of one's own: where the new row lies, and what else has turned: nothing, where it grows. -/
namespace Go.Proofs.YtanbfplcldloeaaGreatDoor
open Go.RowKit
theorem run_append_two {P : Program} (w : World) (t ty : TypeId) (base : Nat) (e : TypeId) (i : TypeInfo) (z : Value) (size bytes : Nat) (ht : P.underlying t = some (.slice e)) (hi : P.info? e = some i) (hz : i.zero = some z)
    (hsize : i.size = size) (hby : i.bytes = bytes) (hzs : z.cells.size = size) (hsz : 0 < size)
    (v : Value) (n : Nat) (xs : List Value) (hown : w.ownsRow base e size v n xs)
    (ad : Addr) (m c : Nat) (news : List Value) (hl : news.length = m * size) (hnews : ∀ j u, news[j]? = some u → w.cell? (ad.add j) = some u) (h1 : ∀ u ∈ news, u.oneCell' = true)
    (hm : 0 < m) (h63 : n + m ≤ maxLen) (hbytes : (n + m) * bytes ≤ 140737488355328) (hbase : base ≤ w.heap.size) :
    ∃ g cap w', (Builtin.append_ #[t, t] ty #[v, .slice (some ad) m c]).run P w = .ok (.slice (some ⟨g, 0, none⟩) (n + m) cap) w' ∧
      w'.ownsRow base e size (.slice (some ⟨g, 0, none⟩) (n + m) cap) (n + m) (xs ++ news) ∧
      ((w.grownBy w' none ∧ w.heap.size ≤ g) ∨ (∃ cap0, v = .slice (some ⟨g, 0, none⟩) n cap0 ∧ n + m ≤ cap0 ∧ w.grownBy w' (some g))) := by
  rcases hown.2 with ⟨rfl, rfl⟩ | ⟨g, cap, cur, rfl, hb, hg, hnc, hcm, hcs, htake⟩
  · obtain ⟨g, cap, w', hr, h2, h3, h4, h5⟩ := run_append_lies (P := P) w t ty w.heap.size e i z size bytes ht hi hz hsize hby hzs hsz (.slice none 0 0) 0 [] (World.ownsRow_nil w _ e size) ad m c news hl hnews h1 hm h63 hbytes (Nat.le_refl _) w.heap.size rfl
    have hxs : xs = [] := by have := hown.1; simpa using this
    subst hxs
    have hgl : w.heap.size ≤ g := (World.ownsRow.lt h2 g rfl).1
    exact ⟨g, cap, w', hr, h2.mono hbase, .inl ⟨h3, hgl⟩⟩
  · by_cases hroom : n + m ≤ cap
    · obtain ⟨w', hr, h2, h3⟩ := run_append_own_spare (P := P) w base t ty e i size ht hi hsize g n cap xs hown ad m c news hl hnews h1 hroom
      exact ⟨g, cap, w', hr, h2, .inr ⟨cap, rfl, hroom, h3⟩⟩
    · obtain ⟨v', w', hr, h2, h3⟩ := run_append_arg_grows (P := P) w t ty e i z size bytes ht hi hz hsize hby hzs hsz ⟨g, 0, none⟩ n cap xs hown.1 (fun j u hj => hown.cells (g := g) rfl j u hj) ad m c news hl hnews (by omega) h63 hbytes
      obtain ⟨g', cap', rfl, hg1, hg2⟩ := h2.form (by omega)
      exact ⟨g', cap', w', hr, h2.mono hbase, .inl ⟨h3, hg1⟩⟩
theorem wp_append_two {P : Program} (w : World) {o : Oper} {a : Act} {K : Act → World → Prop} {Q : Exit → Act → World → Prop} (s x : Operand) (t : TypeId)
    (ho : o.op = .call { callee := .builtin .append, args := #[s, x], argTypes := #[t, t] })
    (base : Nat) (e : TypeId) (i : TypeInfo) (z : Value) (size bytes : Nat) (ht : P.underlying t = some (.slice e)) (hi : P.info? e = some i) (hz : i.zero = some z)
    (hsize : i.size = size) (hby : i.bytes = bytes) (hzs : z.cells.size = size) (hsz : 0 < size)
    (v : Value) (n : Nat) (xs : List Value) (hs : a.eval s = v) (hown : w.ownsRow base e size v n xs)
    (ad : Addr) (m c : Nat) (news : List Value) (hx : a.eval x = .slice (some ad) m c) (hl : news.length = m * size) (hnews : ∀ j u, news[j]? = some u → w.cell? (ad.add j) = some u) (h1 : ∀ u ∈ news, u.oneCell' = true)
    (hm : 0 < m) (h63 : n + m ≤ maxLen) (hbytes : (n + m) * bytes ≤ 140737488355328) (hbase : base ≤ w.heap.size)
    (h : ∀ g cap w', w'.ownsRow base e size (.slice (some ⟨g, 0, none⟩) (n + m) cap) (n + m) (xs ++ news) → ((w.grownBy w' none ∧ w.heap.size ≤ g) ∨ (∃ cap0, v = .slice (some ⟨g, 0, none⟩) n cap0 ∧ n + m ≤ cap0 ∧ w.grownBy w' (some g))) → K (a.put o.dst (.slice (some ⟨g, 0, none⟩) (n + m) cap)) w') : o.wp P a w K Q := by
  obtain ⟨g, cap, w', hr, h2, h3⟩ := run_append_two (P := P) w t o.type base e i z size bytes ht hi hz hsize hby hzs hsz v n xs hown ad m c news hl hnews h1 hm h63 hbytes hbase
  unfold Oper.wp execOp
  simp only [ho, resolve, invoke, builtin, Sem.run_bind, Sem.run_pure, Result.andThen_ok, List.map_toArray, List.map_cons, List.map_nil, hs, hx, hr]
  exact h g cap w' h2 h3
theorem step_append_two {P : Program} (w : World) {ops : Array Oper} {E : Prop} {o : Oper} {a : Act} {K : Act → World → Prop} {Q : Exit → Act → World → Prop} (hgd : o.guard = none) (s x : Operand) (t : TypeId)
    (ho : o.op = .call { callee := .builtin .append, args := #[s, x], argTypes := #[t, t] })
    (base : Nat) (e : TypeId) (i : TypeInfo) (z : Value) (size bytes : Nat) (ht : P.underlying t = some (.slice e)) (hi : P.info? e = some i) (hz : i.zero = some z)
    (hsize : i.size = size) (hby : i.bytes = bytes) (hzs : z.cells.size = size) (hsz : 0 < size)
    (v : Value) (n : Nat) (xs : List Value) (hs : a.eval s = v) (hown : w.ownsRow base e size v n xs)
    (ad : Addr) (m c : Nat) (news : List Value) (hx : a.eval x = .slice (some ad) m c) (hl : news.length = m * size) (hnews : ∀ j u, news[j]? = some u → w.cell? (ad.add j) = some u) (h1 : ∀ u ∈ news, u.oneCell' = true)
    (hm : 0 < m) (h63 : n + m ≤ maxLen) (hbytes : (n + m) * bytes ≤ 140737488355328) (hbase : base ≤ w.heap.size)
    (h : ∀ g cap w', w'.ownsRow base e size (.slice (some ⟨g, 0, none⟩) (n + m) cap) (n + m) (xs ++ news) → ((w.grownBy w' none ∧ w.heap.size ≤ g) ∨ (∃ cap0, v = .slice (some ⟨g, 0, none⟩) n cap0 ∧ n + m ≤ cap0 ∧ w.grownBy w' (some g))) → K (a.put o.dst (.slice (some ⟨g, 0, none⟩) (n + m) cap)) w') : if Region.wanted o (yielded ops a.tmps) = true then Oper.wp P o a w K Q else E := by
  rw [if_pos (by simp [Region.wanted, hgd])]
  exact wp_append_two w s x t ho base e i z size bytes ht hi hz hsize hby hzs hsz v n xs hs hown ad m c news hx hl hnews h1 hm h63 hbytes hbase h
theorem KpR.alloc {n₀ : Nat} {W : World} (hn : n₀ ≤ W.heap.size) (o : Obj) : KpR n₀ W (W.alloc o) :=
  ⟨(Below.refl n₀ W).alloc hn o, fun k cs h _ => (Below.heap_alloc _ _ _ (lt_of_blk h)).trans h⟩
/-- A store into a block that is no range. -/
theorem KpR.setCell {n₀ : Nat} {W : World} {g i : Nat} {cs : List Value} {t : TypeId} (h : Blk W g cs t) (hn : n₀ ≤ g) (ht : t ≠ 135) (v : Value) : KpR n₀ W (W.setCell ⟨g, i, none⟩ v) :=
  ⟨(Below.refl n₀ W).setCell (p := ⟨g, i, none⟩) hn v, fun k cs' hk _ => by
    have hne : k ≠ g := by
      rintro rfl
      have h' : W.heap[k]? = some (.cells cs.toArray t (0, 0)) := h
      rw [hk] at h'
      simp only [Option.some.injEq, Obj.cells.injEq] at h'
      exact ht h'.2.1.symm
    exact (Below.heap_setCell W ⟨g, i, none⟩ v k hne).trans hk⟩
/-- An append onto a row of ranges: rows of one range stay. -/
theorem KpR.append {n₀ base n m g : Nat} {w w' : World} {v : Value} {xs : List Value} (hn : n₀ ≤ base) (hnw : n₀ ≤ w.heap.size) (hm : 0 < m) (h0 : n = 0 → v = .slice none 0 0) (hown : w.ownsRow base 135 3 v n xs)
    (h : (w.grownBy w' none ∧ w.heap.size ≤ g) ∨ (∃ cap0, v = .slice (some ⟨g, 0, none⟩) n cap0 ∧ n + m ≤ cap0 ∧ w.grownBy w' (some g))) : KpR n₀ w w' := by
  rcases h with ⟨hg, _⟩ | ⟨cap0, rfl, hroom, hg⟩
  · exact ⟨(Below.refl n₀ w).grown hg hnw (fun k e => by cases e), fun k cs hk _ => (hg.block k (lt_of_blk hk) (by simp)).trans hk⟩
  · have hb := (World.ownsRow.lt hown g rfl).1
    refine ⟨(Below.refl n₀ w).grown hg hnw (fun k e => by cases e; omega), fun k cs hk hs => ?_⟩
    have hne : k ≠ g := by
      rintro rfl
      rcases hown.2 with ⟨h1, _⟩ | ⟨g', cap, cur, h1, _, h3, _, _, h5, _⟩
      · cases h1
      · simp only [Value.slice.injEq, Option.some.injEq, Addr.mk.injEq, and_true, true_and] at h1
        obtain ⟨rfl, rfl⟩ := h1
        rw [hk] at h3
        simp only [Option.some.injEq, Obj.cells.injEq] at h3
        rw [← h3.1, hs] at h5
        rcases Nat.eq_zero_or_pos n with rfl | hp
        · cases h0 rfl
        · omega
    exact (hg.block k (lt_of_blk hk) (fun e => hne (by cases e; rfl))).trans hk
end Go.Proofs.YtanbfplcldloeaaGreatDoor

/- Chapter 8: a place within a range that was undone. -/
namespace Go.Proofs.YtanbfplcldloeaaGreatDoor
open Go.RowKit Go.Shelf
attribute [local go_sem] Oper.semAt_some
/-- 'Recover', of a map that may be. -/
def recF (xs : List Rng) (i off : Int) : Int × Int :=
  if 0 ≤ i ∧ i < xs.length ∧ 0 ≤ off ∧ off ≤ (xs[i.toNat]?.getD ⟨0, 0, 0⟩).n then (begF xs i.toNat + off, 0) else (0, 1)
def hitF (xs : List Rng) (i off : Int) (j : Fin xs.length) : Bool := decide ((j.val : Int) = i) && decide (0 ≤ off) && decide (off ≤ xs[j].n)
theorem hitF_iff (xs : List Rng) (i off : Int) (j : Fin xs.length) : hitF xs i off j = true ↔ (j.val : Int) = i ∧ 0 ≤ off ∧ off ≤ xs[j.val].n := by
  simp [hitF, and_assoc]
theorem recF_some {xs : List Rng} {i off : Int} {j : Fin xs.length} (h : hitF xs i off j = true) : recF xs i off = (begF xs j.val + off, 0) := by
  obtain ⟨rfl, h1, h2⟩ := (hitF_iff _ _ _ _).1 h
  have h3 := j.isLt
  unfold recF
  rw [if_pos (by simp only [Int.toNat_natCast, List.getElem?_eq_getElem h3, Option.getD_some]; omega), Int.toNat_natCast]
theorem recF_none {xs : List Rng} {i off : Int} (h : ∀ j, hitF xs i off j = false) : recF xs i off = (0, 1) := by
  unfold recF
  rw [if_neg]
  rintro ⟨h1, h2, h3, h4⟩
  have hl : i.toNat < xs.length := by omega
  rw [List.getElem?_eq_getElem hl, Option.getD_some] at h4
  have := h ⟨i.toNat, hl⟩
  rw [(hitF_iff _ _ _ ⟨i.toNat, hl⟩).2 ⟨by simp; omega, h3, h4⟩] at this
  cases this
theorem Upto.all {n : Nat} {ys : List (Fin n)} (h : Upto ys n) (j : Fin n) : j ∈ ys := by
  have h1 : j.val ∈ ys.map Fin.val := by rw [h, List.mem_range]; exact j.isLt
  obtain ⟨y, hy, e⟩ := List.mem_map.1 h1
  rwa [← Fin.ext e]
set_option maxRecDepth 100000 in
set_option maxHeartbeats 4000000 in
theorem recover_any (M : Nat → Prop) (xs : List Rng) (A : Option Addr) (c : Nat) (i off : Int) (w : World) (hr : Rd M w A (rngC xs)) (hx : rightP xs = true) :
    Calls Tryz.prog 60 #[.slice A xs.length c, .int .i64 i, .int .i64 off] w fun e w' => e = .returned (.tuple #[.int .i64 (recF xs i off).1, .int .i64 (recF xs i off).2]) ∧ Fr Nob w w' := by
  refine callsIn_wide.1 (?_ : CallsIn Fence.wide 3 _ _ _ _ _)
  refine callsIn_of_wp_marks Tryz.func60 rfl trivial ?_ rfl
  simp only [Tryz.ntmps60, List.size_toArray, List.length_cons, List.length_nil, Nat.reduceAdd, Nat.reduceSub, Array.replicate_succ, Array.replicate_zero, List.push_toArray, List.append_toArray, List.nil_append, List.cons_append]
  obtain ⟨h4, hok⟩ := rightP_ok hx
  have HRd := Lib.hid hr
  have HOK := Lib.hid hok
  have HX := Lib.hid hx
  clear hr hok hx
  gi_wp2
  obtain ⟨W, hW⟩ : ∃ W, (((((w.alloc (.cells #[.slice A xs.length c] 34)).alloc (.cells #[.int .i64 i] 3)).alloc (.cells #[.int .i64 off] 3)).alloc (.cells #[.int .i64 0] 3)).alloc (.cells #[.int .i64 0] 32)) = W := ⟨_, rfl⟩
  have HF := Lib.hid (show Fr Nob w W by rw [← hW]; exact ((((((Fr.refl _ _).alloc _).alloc _).alloc _).alloc _).alloc _))
  have h0 : Blk W w.heap.size [.slice A xs.length c] 34 := by rw [← hW]; exact ((((Blk.new w _ _).alloc _).alloc _).alloc _).alloc _
  have h1 : Blk W (w.heap.size + 1) [.int .i64 i] 3 := by rw [← hW]; exact (((Blk.new_at _ _ _ (w.heap.size + 1) (by simp)).alloc _).alloc _).alloc _
  have h2 : Blk W (w.heap.size + 1 + 1) [.int .i64 off] 3 := by rw [← hW]; exact ((Blk.new_at _ _ _ (w.heap.size + 1 + 1) (by simp)).alloc _).alloc _
  have h3 : Blk W (w.heap.size + 1 + 1 + 1) [.int .i64 0] 3 := by rw [← hW]; exact (Blk.new_at _ _ _ (w.heap.size + 1 + 1 + 1) (by simp)).alloc _
  have h5 : Blk W (w.heap.size + 1 + 1 + 1 + 1) [.int .i64 0] 32 := by rw [← hW]; exact Blk.new_at _ _ _ (w.heap.size + 1 + 1 + 1 + 1) (by simp)
  rw [hW]
  clear hW
  refine ⟨trivial, callsIn_wide.2 ((posright_any M xs A c W (HRd.out.fr HF.out (fun _ _ h => h.elim)) (by omega)).mono ?_)⟩
  rintro e w1 ⟨rfl, hF1⟩
  rw [HX.out]
  have HF1 := Lib.hid (HF.out.same hF1)
  have g0 := h0.fr hF1 (fun h => h)
  have g1 := h1.fr hF1 (fun h => h)
  have g2 := h2.fr hF1 (fun h => h)
  have g3 := h3.fr hF1 (fun h => h)
  have g4 := h5.fr hF1 (fun h => h)
  clear h0 h1 h2 h3 h5 hF1
  have c0 := g0.cell 0
  have l0 := g0.lt
  simp only [List.getElem?_cons_zero] at c0
  have G0 := Lib.hid g0
  have G1 := Lib.hid g1
  have G2 := Lib.hid g2
  have G3 := Lib.hid g3
  have G4 := Lib.hid g4
  clear g0 g1 g2 g3 g4
  gi_wp2
  refine ⟨trivial, callsIn_wide.2 ((poseach_any A xs.length c w1).mono ?_)⟩
  rintro e w2 ⟨rfl, hw2⟩
  have HF2 := Lib.hid (show Fr Nob w w2 by rw [hw2]; exact HF1.out.alloc _)
  have HC := Lib.hid (show Blk w2 w1.heap.size [.slice A xs.length c] 34 by rw [hw2]; exact Blk.new _ _ _)
  have e0 : Blk w2 w.heap.size [.slice A xs.length c] 34 := by rw [hw2]; exact G0.out.alloc _
  have e1 : Blk w2 (w.heap.size + 1) [.int .i64 i] 3 := by rw [hw2]; exact G1.out.alloc _
  have e2 : Blk w2 (w.heap.size + 1 + 1) [.int .i64 off] 3 := by rw [hw2]; exact G2.out.alloc _
  have e3 : Blk w2 (w.heap.size + 1 + 1 + 1) [.int .i64 0] 3 := by rw [hw2]; exact G3.out.alloc _
  have e4 : Blk w2 (w.heap.size + 1 + 1 + 1 + 1) [.int .i64 0] 32 := by rw [hw2]; exact G4.out.alloc _
  clear hw2 c0 l0
  have E0 := Lib.hid e0
  have E1 := Lib.hid e1
  have E2 := Lib.hid e2
  have E3 := Lib.hid e3
  have E4 := Lib.hid e4
  have hlt4 := e4.lt
  clear e0 e1 e2 e3 e4
  gi_wp2
  refine wpIn_rangeFunc_ownF rfl (by omega : 1 ≤ 3) (gf := 93) (lb := #[.pointer (some ⟨w1.heap.size, 0, none⟩)]) rfl trivial (enters_of Tryz.func93 (by kernel_rfl) rfl)
    (each_stops Fence.wide 2 trivial rfl (by omega) w1.heap.size w.heap.size A c xs HOK.out h4 w2 HC.out.lt HF2.out.size (HC.out.cell 0) ((HRd.out.bound.mono (fun _ h => .inr h)).fr HF2.out (fun _ _ h => h.elim))) KpR.trans (KpR.putObj HF2.out.size) (Below.refl _ _) (fun _ => rfl)
    (fun pre W => Fr Nob w2 W ∧ ∀ j ∈ pre, hitF xs i off j = false)
    (fun c pre W => c = .ret ∧ ∃ j, hitF xs i off j = true ∧ Fr (fun k => k = w.heap.size + 1 + 1 + 1 ∨ k = w.heap.size + 1 + 1 + 1 + 1) w2 W ∧ Blk W (w.heap.size + 1 + 1 + 1) [.int .i64 (begF xs j + off)] 3 ∧ Blk W (w.heap.size + 1 + 1 + 1 + 1) [.int .i64 0] 32)
    ((ownFrom_fr (Nat.le_refl _)).and (ownFrom_pure _))
    (fun c => (ownFrom_pure _).and (ownFrom_ex (fun j => (ownFrom_pure _).and ((ownFrom_fr (Nat.le_refl _)).and ((ownFrom_blk (by omega) (fun _ => [.int .i64 (begF xs j + off)]) _).and (ownFrom_blk (by omega) (fun _ => [.int .i64 0]) _))))))
    ⟨Fr.refl _ _, by simp⟩ ?a1 ?assign ?body ?done ?stop
  case assign =>
    intro l x W K hK
    gi_wp2
    exact hK
  case body =>
    rintro l pre x W ⟨hF, hP⟩ hlt
    obtain ⟨ad, rfl, _, hlb, _, q⟩ := Rd.elt Rng.cells_len (by omega) ((HRd.out.fr HF2.out (fun _ _ h => h.elim)).fr hF (fun _ _ h => h.elim)) x.isLt
    have q2 := q 1 (by omega)
    have HH := Lib.hid (show hitF xs i off x = (decide ((x.val : Int) = i) && decide (0 ≤ off) && decide (off ≤ xs[x.val].n)) from rfl)
    have HBG := Lib.hid (show ∃ b, begF xs x.val = b ∧ -1000000 ≤ b ∧ b ≤ 1000000 from ⟨_, rfl, by
      have h1 := dF_bound xs HOK.out x.val (Nat.le_of_lt x.isLt)
      have h2 := HOK.out xs[x.val] (List.getElem_mem _)
      have h3 := x.isLt
      unfold okR at h2
      simp only [begF, List.getElem?_eq_getElem x.isLt, Option.getD_some]
      omega⟩)
    clear q
    have hxl := x.isLt
    have hrn : xs[x.val].n ≤ 65536 := by
      have h2 := HOK.out xs[x.val] (List.getElem_mem _)
      unfold okR at h2
      omega
    generalize xs[x.val] = r at q2 HH hrn
    simp only [Rng.cells, List.getElem?_cons_zero, List.getElem?_cons_succ, Nat.reduceAdd] at q2
    have d0 := (E0.out.fr hF (fun h => h)).cell 0
    have d1 := (E1.out.fr hF (fun h => h)).cell 0
    have d2 := (E2.out.fr hF (fun h => h)).cell 0
    have l0 := (E0.out.fr hF (fun h => h)).lt
    have l1 := (E1.out.fr hF (fun h => h)).lt
    have l2 := (E2.out.fr hF (fun h => h)).lt
    simp only [List.getElem?_cons_zero] at d0 d1 d2
    have HFW := Lib.hid hF
    have HP := Lib.hid hP
    obtain ⟨b, hb, hb1, hb2⟩ := HBG.out
    have HB := Lib.hid hb
    rw [hb]
    clear hF hP hb
    obtain ⟨k, hk⟩ : ∃ k : Nat, x.val = k := ⟨_, rfl⟩
    have HK := Lib.hid hk
    rw [hk] at q2 HH hxl ⊢
    clear hk
    have hki : ((k : Int) < (xs.length : Int)) := by omega
    gi_wp2
    obtain ⟨z1, hz1⟩ : ∃ z, ((k : Int) == i) = z := ⟨_, rfl⟩
    have HZ1 := Lib.hid hz1
    cases z1
    · have HHF := Lib.hid (show hitF xs i off x = false by
        rw [HH.out]
        have := HZ1.out
        rw [beq_eq_false_iff_ne] at this
        simp [this])
      refine region_round_still (by kernel_rfl) (by kernel_rfl) (by kernel_rfl) ?hQ ?_
      case hQ => repeat (first | refine notOut_then ?_ | refine notOut_block ?_ | exact notOut_own)
      refine .step (fun K hK => ?_)
      go_simp
      refine hK _ ?_
      clear hK K
      refine .step (fun K hK => ?_)
      go_simp
      refine hK _ ?_
      clear hK K
      refine .step (fun K hK => ?_)
      go_simp
      refine hK _ ?_
      clear hK K
      refine .step (fun K hK => ?_)
      go_simp
      refine hK _ ?_
      clear hK K
      refine .skip (by kernel_rfl) ?_
      simp only [Act.put, List.setIfInBounds_toArray, List.set_cons_zero, List.set_cons_succ]
      refine .skip (by kernel_rfl) ?_
      simp only [Act.put, List.setIfInBounds_toArray, List.set_cons_zero, List.set_cons_succ]
      refine .pick false (.bool false) rfl (by kernel_rfl) rfl rfl ?_
      simp only [Act.put, List.setIfInBounds_toArray, List.set_cons_zero, List.set_cons_succ]
      refine .move (.bool false) rfl (by kernel_rfl) rfl ?_
      simp only [Act.put, List.setIfInBounds_toArray, List.set_cons_zero, List.set_cons_succ]
      refine .skip (by kernel_rfl) ?_
      simp only [Act.put, List.setIfInBounds_toArray, List.set_cons_zero, List.set_cons_succ]
      refine .skip (by kernel_rfl) ?_
      simp only [Act.put, List.setIfInBounds_toArray, List.set_cons_zero, List.set_cons_succ]
      refine .skip (by kernel_rfl) ?_
      simp only [Act.put, List.setIfInBounds_toArray, List.set_cons_zero, List.set_cons_succ]
      refine .skip (by kernel_rfl) ?_
      simp only [Act.put, List.setIfInBounds_toArray, List.set_cons_zero, List.set_cons_succ]
      refine .skip (by kernel_rfl) ?_
      simp only [Act.put, List.setIfInBounds_toArray, List.set_cons_zero, List.set_cons_succ]
      refine .skip (by kernel_rfl) ?_
      simp only [Act.put, List.setIfInBounds_toArray, List.set_cons_zero, List.set_cons_succ]
      refine .skip (by kernel_rfl) ?_
      simp only [Act.put, List.setIfInBounds_toArray, List.set_cons_zero, List.set_cons_succ]
      refine .pick false (.bool false) rfl (by kernel_rfl) rfl rfl ?_
      simp only [Act.put, List.setIfInBounds_toArray, List.set_cons_zero, List.set_cons_succ]
      refine .nil ?_
      gi_wp2
      exact ⟨KeepsOthers.drew _, KpR.drew _ _, HFW.out.drew, fun j hj => (List.mem_append.1 hj).elim (HP.out j) (fun h => by rw [List.mem_singleton.1 h]; exact HHF.out)⟩
    · by_cases h2 : 0 ≤ off
      · by_cases h3 : off ≤ r.n
        · have HHF := Lib.hid (show hitF xs i off x = true by
            rw [HH.out]
            have := HZ1.out
            rw [beq_iff_eq] at this
            simp [this, h2, h3])
          refine region_round_still (by kernel_rfl) (by kernel_rfl) (by kernel_rfl) ?hQ ?_
          case hQ => repeat (first | refine notOut_then ?_ | refine notOut_block ?_ | exact notOut_own)
          refine .step (fun K hK => ?_)
          go_simp
          refine hK _ ?_
          clear hK K
          refine .step (fun K hK => ?_)
          go_simp
          refine hK _ ?_
          clear hK K
          refine .step (fun K hK => ?_)
          go_simp
          refine hK _ ?_
          clear hK K
          refine .step (fun K hK => ?_)
          go_simp
          refine hK _ ?_
          clear hK K
          refine .want (by kernel_rfl) (fun K hK => ?_)
          go_simp
          refine hK _ ?_
          clear hK K
          refine .want (by kernel_rfl) (fun K hK => ?_)
          go_simp
          refine hK _ ?_
          clear hK K
          refine .pick true (.bool true) rfl (by kernel_rfl) rfl rfl ?_
          simp only [Act.put, List.setIfInBounds_toArray, List.set_cons_zero, List.set_cons_succ]
          refine .move (.bool true) rfl (by kernel_rfl) rfl ?_
          simp only [Act.put, List.setIfInBounds_toArray, List.set_cons_zero, List.set_cons_succ]
          refine .want (by kernel_rfl) (fun K hK => ?_)
          go_simp
          refine hK _ ?_
          clear hK K
          refine .want (by kernel_rfl) (fun K hK => ?_)
          go_simp
          refine hK _ ?_
          clear hK K
          refine .want (by kernel_rfl) (fun K hK => ?_)
          go_simp
          refine hK _ ?_
          clear hK K
          refine .want (by kernel_rfl) (fun K hK => ?_)
          go_simp
          refine hK _ ?_
          clear hK K
          refine .want (by kernel_rfl) (fun K hK => ?_)
          go_simp
          refine hK _ ?_
          clear hK K
          refine .want (by kernel_rfl) (fun K hK => ?_)
          go_simp
          refine hK _ ?_
          clear hK K
          refine .want (by kernel_rfl) (fun K hK => ?_)
          go_simp
          refine hK _ ?_
          clear hK K
          refine .pick true (.bool true) rfl (by kernel_rfl) rfl rfl ?_
          simp only [Act.put, List.setIfInBounds_toArray, List.set_cons_zero, List.set_cons_succ]
          refine .nil ?_
          have d3 := (E3.out.fr HFW.out (fun h => h)).cell 0
          have d4 := (E4.out.fr HFW.out (fun h => h)).cell 0
          have f3 := (E3.out.fr HFW.out (fun h => h)).frozen 0
          have f4 := (E4.out.fr HFW.out (fun h => h)).frozen 0
          have l3 := (E3.out.fr HFW.out (fun h => h)).lt
          have l4 := (E4.out.fr HFW.out (fun h => h)).lt
          simp only [List.getElem?_cons_zero] at d3 d4
          gi_wp2
          have hB3 := E3.out.fr HFW.out (fun h => h)
          have hB4 := E4.out.fr HFW.out (fun h => h)
          refine ⟨((KeepsOthers.setCell _ _ _).trans (KeepsOthers.setCell _ _ _)).trans (KeepsOthers.drew _), rfl, x, HHF.out, ?_, ?_, ?_⟩
          · exact ((HFW.out.any.setCell (p := ⟨w.heap.size + 1 + 1 + 1, 0, none⟩) (.inl (.inl rfl)) _).setCell (p := ⟨w.heap.size + 1 + 1 + 1 + 1, 0, none⟩) (.inl (.inr rfl)) _).drew
          · rw [HB.out]
            exact ((hB3.set 0 (.int .i64 (b + off))).far (p := ⟨w.heap.size + 1 + 1 + 1 + 1, 0, none⟩) (by simp) _).drew
          · exact ((hB4.far (p := ⟨w.heap.size + 1 + 1 + 1, 0, none⟩) (by simp) (.int .i64 (b + off))).set 0 (.int .i64 0)).drew
        · have HHF := Lib.hid (show hitF xs i off x = false by rw [HH.out]; simp [h3])
          refine region_round_still (by kernel_rfl) (by kernel_rfl) (by kernel_rfl) ?hQ ?_
          case hQ => repeat (first | refine notOut_then ?_ | refine notOut_block ?_ | exact notOut_own)
          refine .step (fun K hK => ?_)
          go_simp
          refine hK _ ?_
          clear hK K
          refine .step (fun K hK => ?_)
          go_simp
          refine hK _ ?_
          clear hK K
          refine .step (fun K hK => ?_)
          go_simp
          refine hK _ ?_
          clear hK K
          refine .step (fun K hK => ?_)
          go_simp
          refine hK _ ?_
          clear hK K
          refine .want (by kernel_rfl) (fun K hK => ?_)
          go_simp
          refine hK _ ?_
          clear hK K
          refine .want (by kernel_rfl) (fun K hK => ?_)
          go_simp
          refine hK _ ?_
          clear hK K
          refine .pick true (.bool true) rfl (by kernel_rfl) rfl rfl ?_
          simp only [Act.put, List.setIfInBounds_toArray, List.set_cons_zero, List.set_cons_succ]
          refine .move (.bool true) rfl (by kernel_rfl) rfl ?_
          simp only [Act.put, List.setIfInBounds_toArray, List.set_cons_zero, List.set_cons_succ]
          refine .want (by kernel_rfl) (fun K hK => ?_)
          go_simp
          refine hK _ ?_
          clear hK K
          refine .want (by kernel_rfl) (fun K hK => ?_)
          go_simp
          refine hK _ ?_
          clear hK K
          refine .want (by kernel_rfl) (fun K hK => ?_)
          go_simp
          refine hK _ ?_
          clear hK K
          refine .want (by kernel_rfl) (fun K hK => ?_)
          go_simp
          refine hK _ ?_
          clear hK K
          refine .want (by kernel_rfl) (fun K hK => ?_)
          go_simp
          refine hK _ ?_
          clear hK K
          refine .want (by kernel_rfl) (fun K hK => ?_)
          go_simp
          refine hK _ ?_
          clear hK K
          refine .want (by kernel_rfl) (fun K hK => ?_)
          go_simp
          refine hK _ ?_
          clear hK K
          refine .pick true (.bool false) rfl (by kernel_rfl) rfl rfl ?_
          simp only [Act.put, List.setIfInBounds_toArray, List.set_cons_zero, List.set_cons_succ]
          refine .nil ?_
          gi_wp2
          exact ⟨KeepsOthers.drew _, KpR.drew _ _, HFW.out.drew, fun j hj => (List.mem_append.1 hj).elim (HP.out j) (fun h => by rw [List.mem_singleton.1 h]; exact HHF.out)⟩
      · have HHF := Lib.hid (show hitF xs i off x = false by rw [HH.out]; simp [h2])
        refine region_round_still (by kernel_rfl) (by kernel_rfl) (by kernel_rfl) ?hQ ?_
        case hQ => repeat (first | refine notOut_then ?_ | refine notOut_block ?_ | exact notOut_own)
        refine .step (fun K hK => ?_)
        go_simp
        refine hK _ ?_
        clear hK K
        refine .step (fun K hK => ?_)
        go_simp
        refine hK _ ?_
        clear hK K
        refine .step (fun K hK => ?_)
        go_simp
        refine hK _ ?_
        clear hK K
        refine .step (fun K hK => ?_)
        go_simp
        refine hK _ ?_
        clear hK K
        refine .want (by kernel_rfl) (fun K hK => ?_)
        go_simp
        refine hK _ ?_
        clear hK K
        refine .want (by kernel_rfl) (fun K hK => ?_)
        go_simp
        refine hK _ ?_
        clear hK K
        refine .pick true (.bool false) rfl (by kernel_rfl) rfl rfl ?_
        simp only [Act.put, List.setIfInBounds_toArray, List.set_cons_zero, List.set_cons_succ]
        refine .move (.bool false) rfl (by kernel_rfl) rfl ?_
        simp only [Act.put, List.setIfInBounds_toArray, List.set_cons_zero, List.set_cons_succ]
        refine .skip (by kernel_rfl) ?_
        simp only [Act.put, List.setIfInBounds_toArray, List.set_cons_zero, List.set_cons_succ]
        refine .skip (by kernel_rfl) ?_
        simp only [Act.put, List.setIfInBounds_toArray, List.set_cons_zero, List.set_cons_succ]
        refine .skip (by kernel_rfl) ?_
        simp only [Act.put, List.setIfInBounds_toArray, List.set_cons_zero, List.set_cons_succ]
        refine .skip (by kernel_rfl) ?_
        simp only [Act.put, List.setIfInBounds_toArray, List.set_cons_zero, List.set_cons_succ]
        refine .skip (by kernel_rfl) ?_
        simp only [Act.put, List.setIfInBounds_toArray, List.set_cons_zero, List.set_cons_succ]
        refine .skip (by kernel_rfl) ?_
        simp only [Act.put, List.setIfInBounds_toArray, List.set_cons_zero, List.set_cons_succ]
        refine .skip (by kernel_rfl) ?_
        simp only [Act.put, List.setIfInBounds_toArray, List.set_cons_zero, List.set_cons_succ]
        refine .pick false (.bool false) rfl (by kernel_rfl) rfl rfl ?_
        simp only [Act.put, List.setIfInBounds_toArray, List.set_cons_zero, List.set_cons_succ]
        refine .nil ?_
        gi_wp2
        exact ⟨KeepsOthers.drew _, KpR.drew _ _, HFW.out.drew, fun j hj => (List.mem_append.1 hj).elim (HP.out j) (fun h => by rw [List.mem_singleton.1 h]; exact HHF.out)⟩
  case done =>
    rintro D ys W hD hU ⟨hF, hP⟩ hK
    have d3 := (E3.out.fr hF (fun h => h)).cell 0
    have d4 := (E4.out.fr hF (fun h => h)).cell 0
    have f3 := (E3.out.fr hF (fun h => h)).frozen 0
    have f4 := (E4.out.fr hF (fun h => h)).frozen 0
    have l3 := (E3.out.fr hF (fun h => h)).lt
    have l4 := (E4.out.fr hF (fun h => h)).lt
    simp only [List.getElem?_cons_zero] at d3 d4
    have HFW := Lib.hid hF
    have HP := Lib.hid hP
    have HKD := Lib.hid hK
    have HU := Lib.hid hU
    clear hF hP hK hU
    gi_wp2
    have hB3 := E3.out.fr HFW.out (fun h => h)
    have hB4 := E4.out.fr HFW.out (fun h => h)
    refine ⟨by simp, .inl ⟨_, _, rfl, run_takeDeferred (((KeepsOthers.setCell _ _ _).trans (KeepsOthers.setCell _ _ _)).same D _ HKD.out rfl), ?_⟩⟩
    have HFE := Lib.hid (fr_putObj (M := fun k => k = w.heap.size + 1 + 1 + 1 ∨ k = w.heap.size + 1 + 1 + 1 + 1) (.deferred none) ((HFW.out.any.setCell (p := ⟨w.heap.size + 1 + 1 + 1, 0, none⟩) (.inl (.inl rfl)) (.int .i64 0)).setCell (p := ⟨w.heap.size + 1 + 1 + 1 + 1, 0, none⟩) (.inl (.inr rfl)) (.int .i64 1)) hD)
    have p3 := (blk_putObj (D := D) (.deferred none) ((hB3.set 0 (.int .i64 0)).far (p := ⟨w.heap.size + 1 + 1 + 1 + 1, 0, none⟩) (by simp) (.int .i64 1)) (by omega)).cell 0
    have p4 := (blk_putObj (D := D) (.deferred none) ((hB4.far (p := ⟨w.heap.size + 1 + 1 + 1, 0, none⟩) (by simp) (.int .i64 0)).set 0 (.int .i64 1)) (by omega)).cell 0
    simp only [List.set_cons_zero, List.getElem?_cons_zero] at p3 p4
    generalize ((W.setCell ⟨w.heap.size + 1 + 1 + 1, 0, none⟩ (.int .i64 0)).setCell ⟨w.heap.size + 1 + 1 + 1 + 1, 0, none⟩ (.int .i64 1)).putObj D (.deferred none) = WE at HFE p3 p4 ⊢
    refine ⟨.tuple #[.int .i64 0, .int .i64 1], by simp [results, go_sem, p3, p4], ?_⟩
    rw [recF_none (fun j => HP.out j (HU.out.all j))]
    exact ⟨rfl, HF2.out.trans HFE.out (fun k hk h => by rcases h with rfl | rfl <;> omega)⟩
  case stop =>
    rintro D c pre W hD ⟨k, hk, hU⟩ ⟨rfl, j, hj, hF, hb3, hb4⟩ hK
    gi_wp2
    refine ⟨by simp, .inl ⟨_, _, rfl, run_takeDeferred hK, ?_⟩⟩
    have HFE := Lib.hid (fr_putObj (.deferred none) hF hD)
    have p3 := (blk_putObj (D := D) (.deferred none) hb3 (by omega)).cell 0
    have p4 := (blk_putObj (D := D) (.deferred none) hb4 (by omega)).cell 0
    simp only [List.getElem?_cons_zero] at p3 p4
    generalize W.putObj D (.deferred none) = WE at HFE p3 p4 ⊢
    refine ⟨.tuple #[.int .i64 (begF xs j + off), .int .i64 0], by simp [results, go_sem, p3, p4], ?_⟩
    rw [recF_some hj]
    exact ⟨rfl, HF2.out.trans HFE.out (fun k hk h => by rcases h with rfl | rfl <;> omega)⟩
end Go.Proofs.YtanbfplcldloeaaGreatDoor

/- Chapter 8: what undoes a map. -/
namespace Go.Proofs.YtanbfplcldloeaaGreatDoor
open Go.RowKit Go.Shelf
attribute [local go_sem] Oper.semAt_some
theorem infoRng : (Tryz.prog.info? 135).map (fun i => (i.zero, i.size, i.bytes)) = some (some (.agg #[.int .i64 0, .int .i64 0, .int .i64 0]), 3, 24) := by kernel_rfl
/-- The k-th range, undone. -/
def undoR (xs : List Rng) (j : Fin xs.length) : Rng := ⟨begF xs j.val, xs[j.val].n, xs[j.val].o⟩
def invF (xs : List Rng) : List Rng := (List.finRange xs.length).map (undoR xs)
theorem Upto.eq {n : Nat} {ys : List (Fin n)} (h : Upto ys n) : ys = List.finRange n := by
  have hl := h.len
  refine List.ext_getElem (by rw [hl, List.length_finRange]) (fun i h1 h2 => Fin.ext ?_)
  have h3 : (ys.map Fin.val)[i]? = (List.range n)[i]? := by rw [h]
  rw [List.getElem?_map, List.getElem?_eq_getElem h1, Option.map_some, List.getElem?_range (by omega)] at h3
  rw [List.getElem_finRange]
  exact Option.some.inj h3
def InvAt (xs : List Rng) (w2 : World) (b : Nat) (pre : List (Fin xs.length)) (W : World) : Prop :=
  Fr (fun k => k = b) w2 W ∧ ∃ v, Blk W b [v] 34 ∧ W.ownsRow w2.heap.size 135 3 v pre.length (rngC (pre.map (undoR xs))) ∧ (pre.length = 0 → v = .slice none 0 0)
theorem ownFrom_inv (xs : List Rng) (w2 : World) (b : Nat) (hb : b < w2.heap.size) : OwnFrom w2.heap.size (InvAt xs w2 b) := fun pre W W' row hs hg hr => by
  obtain ⟨hF, v, hB, hown, h0⟩ := hs
  refine ⟨hF.trans (Fr.of_grown hg) (fun k hk e => by have := (hr k e.symm).1; omega), v, hB.fr (Fr.of_grown hg) (fun e => by have := (hr b e.symm).1; omega), hown.kept hg ?_, h0⟩
  rcases hown.2 with ⟨rfl, _⟩ | ⟨g, cap, cur, rfl, _, h3, _⟩
  · exact .inl rfl
  · right
    intro e
    obtain ⟨_, o, ho, hc⟩ := hr g e.symm
    rw [h3] at ho
    cases ho
    simp [Obj.isCells] at hc
theorem cell_ne_deferred {w : World} {a : Addr} {v : Value} {D : Nat} {x : Option (List Deferred)} (h : w.cell? a = some v) (hD : w.heap[D]? = some (.deferred x)) : a.block ≠ D := by
  rintro rfl
  simp [World.cell?, hD] at h
set_option maxRecDepth 100000 in
set_option maxHeartbeats 4000000 in
theorem invert_any (M : Nat → Prop) (xs : List Rng) (A : Option Addr) (c : Nat) (w : World) (hr : Rd M w A (rngC xs)) (hx : rightP xs = true) :
    Calls Tryz.prog 37 #[.slice A xs.length c] w fun e w' => ∃ v, e = .returned (.tuple #[v, .int .i64 (if rightP (invF xs) = true then 0 else 4)]) ∧ Rngs (fun k => k < w.heap.size) w' v (if rightP (invF xs) = true then invF xs else []) ∧ Fr Nob w w' := by
  refine callsIn_wide.1 (?_ : CallsIn Fence.wide 3 _ _ _ _ _)
  refine callsIn_of_wp_marks Tryz.func37 rfl trivial ?_ rfl
  simp only [Tryz.ntmps37, List.size_toArray, List.length_cons, List.length_nil, Nat.reduceAdd, Nat.reduceSub, Array.replicate_succ, Array.replicate_zero, List.push_toArray, List.append_toArray, List.nil_append, List.cons_append]
  obtain ⟨R, hR⟩ : ∃ R, rightP (invF xs) = R := ⟨_, rfl⟩
  have HR := Lib.hid hR
  rw [hR]
  clear hR
  obtain ⟨h4, hok⟩ := rightP_ok hx
  have HRd := Lib.hid hr
  have HOK := Lib.hid hok
  have HX := Lib.hid hx
  clear hr hok hx
  gi_wp2
  obtain ⟨W, hW⟩ : ∃ W, w.alloc (.cells #[.slice A xs.length c] 34) = W := ⟨_, rfl⟩
  have HF := Lib.hid (show Fr Nob w W by rw [← hW]; exact (Fr.refl _ _).alloc _)
  have h0 : Blk W w.heap.size [.slice A xs.length c] 34 := by rw [← hW]; exact Blk.new w _ _
  rw [hW]
  clear hW
  refine ⟨trivial, callsIn_wide.2 ((posright_any M xs A c W (HRd.out.fr HF.out (fun _ _ h => h.elim)) (by omega)).mono ?_)⟩
  rintro e w1 ⟨rfl, hF1⟩
  rw [HX.out]
  have HF1 := Lib.hid (HF.out.same hF1)
  have g0 := h0.fr hF1 (fun h => h)
  clear h0 hF1
  have c0 := g0.cell 0
  have l0 := g0.lt
  simp only [List.getElem?_cons_zero] at c0
  have G0 := Lib.hid g0
  clear g0
  gi_wp2
  obtain ⟨W1, hW1⟩ : ∃ W1, w1.alloc (.cells #[.slice none 0 0] 34) = W1 := ⟨_, rfl⟩
  rw [hW1]
  refine ⟨trivial, callsIn_wide.2 ((poseach_any A xs.length c W1).mono ?_)⟩
  rintro e w2 ⟨rfl, hw2⟩
  have HF2 := Lib.hid (show Fr Nob w w2 by rw [hw2, ← hW1]; exact (HF1.out.alloc _).alloc _)
  have HC := Lib.hid (show Blk w2 W1.heap.size [.slice A xs.length c] 34 by rw [hw2]; exact Blk.new _ _ _)
  have e0 : Blk w2 w.heap.size [.slice A xs.length c] 34 := by rw [hw2, ← hW1]; exact (G0.out.alloc _).alloc _
  have e1 : Blk w2 w1.heap.size [.slice none 0 0] 34 := by rw [hw2, ← hW1]; exact (Blk.new w1 _ _).alloc _
  have hw1 : w.heap.size < w1.heap.size := l0
  clear hw2 hW1 c0 l0
  have E0 := Lib.hid e0
  have E1 := Lib.hid e1
  have hlt1 := e1.lt
  clear e0 e1
  obtain ⟨i0, hi, hz0, hz1, hz2⟩ := info_parts infoRng
  gi_wp2
  refine wpIn_rangeFunc_ownF rfl (by omega : 1 ≤ 3) (gf := 93) (lb := #[.pointer (some ⟨W1.heap.size, 0, none⟩)]) rfl trivial (enters_of Tryz.func93 (by kernel_rfl) rfl)
    (each_stops Fence.wide 2 trivial rfl (by omega) W1.heap.size w.heap.size A c xs HOK.out h4 w2 HC.out.lt HF2.out.size (HC.out.cell 0) ((HRd.out.bound.mono (fun _ h => .inr h)).fr HF2.out (fun _ _ h => h.elim))) KpR.trans (KpR.putObj HF2.out.size) (Below.refl _ _) (fun _ => rfl)
    (InvAt xs w2 w1.heap.size)
    (fun _ _ _ => False)
    (ownFrom_inv xs w2 w1.heap.size hlt1)
    (fun c => ownFrom_pure (fun _ => False))
    ⟨Fr.refl _ _, _, E1.out, World.ownsRow_nil _ _ _ _, fun _ => rfl⟩ ?a1 ?assign ?body ?done ?stop
  case assign =>
    intro l x W K hK
    gi_wp2
    exact hK
  case body =>
    rintro l pre x W ⟨hF, v, hB, hown, hnil⟩ hlt
    have hOK := HRd.out.bound.mono (M' := fun k => w.heap.size ≤ k) (fun _ h => .inr h)
    have hR2 := hOK.fr HF2.out (fun _ _ h => h.elim)
    obtain ⟨ad, rfl, _, hlb, _, q⟩ := Rd.elt Rng.cells_len (by omega) (hR2.fr hF (fun k hk e => by subst e; omega)) x.isLt
    have HR2 := Lib.hid hR2
    clear hOK hR2
    have q1 := q 0 (by omega)
    have q2 := q 1 (by omega)
    have q1' : ∀ W', Fr (fun k => k = w1.heap.size) w2 W' → W'.cell? ⟨(ad.add (x.val * 3)).block, (ad.add (x.val * 3)).off + 1, none⟩ = some (.int .i64 xs[x.val].o) ∧ W'.cell? ⟨(ad.add (x.val * 3)).block, (ad.add (x.val * 3)).off + 2, none⟩ = some (.int .i64 xs[x.val].n) := fun W' hF' => by
      obtain ⟨ad', e, _, _, _, q⟩ := Rd.elt Rng.cells_len (by omega) (HR2.out.fr hF' (fun k hk e => by subst e; omega)) x.isLt
      injection e with e
      subst e
      exact ⟨q 0 (by omega), q 1 (by omega)⟩
    clear q
    have HQ := Lib.hid q1'
    clear q1'
    have hxl := x.isLt
    have HUN := Lib.hid (show undoR xs x = ⟨begF xs x.val, xs[x.val].n, xs[x.val].o⟩ from rfl)
    generalize xs[x.val] = r at q1 q2 HUN HQ
    simp only [Rng.cells, List.getElem?_cons_zero, List.getElem?_cons_succ, Nat.reduceAdd] at q1 q2
    have HFW := Lib.hid hF
    have HBW := Lib.hid hB
    have HOWN := Lib.hid hown
    have HNIL := Lib.hid hnil
    generalize begF xs x.val = b at HUN ⊢
    clear hF hB hown hnil
    have hpl : pre.length ≤ 4 := by omega
    have FIN0 : ∀ (wd : World), Hid (KeepsOthers W wd) → Hid (KpR w.heap.size W wd) → Hid (Fr (fun k => k = w1.heap.size) w2 wd) → Hid (Blk wd w1.heap.size [v] 34) → Hid (wd.ownsRow w2.heap.size 135 3 v pre.length (rngC (pre.map (undoR xs)))) →
        ∀ (g cap : Nat) (w' : World), w'.ownsRow w2.heap.size 135 3 (.slice (some ⟨g, 0, none⟩) (pre.length + 1) cap) (pre.length + 1) (rngC (pre.map (undoR xs)) ++ [.int .i64 b, .int .i64 r.n, .int .i64 r.o]) →
        (((wd.alloc (.cells #[.int .i64 b, .int .i64 r.n, .int .i64 r.o] 135)).grownBy w' none ∧ (wd.alloc (.cells #[.int .i64 b, .int .i64 r.n, .int .i64 r.o] 135)).heap.size ≤ g) ∨ (∃ cap0, v = .slice (some ⟨g, 0, none⟩) pre.length cap0 ∧ pre.length + 1 ≤ cap0 ∧ (wd.alloc (.cells #[.int .i64 b, .int .i64 r.n, .int .i64 r.o] 135)).grownBy w' (some g))) →
        Fr (fun k => k = w1.heap.size) w2 w' ∧ Blk w' w1.heap.size [v] 34 ∧
          (KeepsOthers W (w'.setCell ⟨w1.heap.size, 0, none⟩ (.slice (some ⟨g, 0, none⟩) (pre.length + 1) cap)) ∧ KpR w.heap.size W (w'.setCell ⟨w1.heap.size, 0, none⟩ (.slice (some ⟨g, 0, none⟩) (pre.length + 1) cap)) ∧ InvAt xs w2 w1.heap.size (pre ++ [x]) (w'.setCell ⟨w1.heap.size, 0, none⟩ (.slice (some ⟨g, 0, none⟩) (pre.length + 1) cap))) := fun wd hKO hKP hF hB hO g cap w' hown' htwo => by
      have hwd := hF.out.size
      have hsz : (wd.alloc (.cells #[.int .i64 b, .int .i64 r.n, .int .i64 r.o] 135)).heap.size = wd.heap.size + 1 := by simp
      have hgl : w2.heap.size ≤ g := (World.ownsRow.lt hown' g rfl).1
      have hFa := hF.out.alloc (.cells #[.int .i64 b, .int .i64 r.n, .int .i64 r.o] 135)
      have hBa := hB.out.alloc (.cells #[.int .i64 b, .int .i64 r.n, .int .i64 r.o] 135)
      have hg : ∃ row, (wd.alloc (.cells #[.int .i64 b, .int .i64 r.n, .int .i64 r.o] 135)).grownBy w' row ∧ (∀ j, row = some j → w2.heap.size ≤ j) ∧ ∀ (j : Nat) (o : Obj), row = some j → (wd.alloc (.cells #[.int .i64 b, .int .i64 r.n, .int .i64 r.o] 135)).heap[j]? = some o → o.isCells = true := by
        rcases htwo with ⟨h, _⟩ | ⟨cap0, e, _, h⟩
        · exact ⟨_, h, fun j e => (by cases e), fun j o e => (by cases e)⟩
        · refine ⟨_, h, fun j e => (by cases e; exact hgl), fun j o e' ho => ?_⟩
          cases e'
          rcases (hO.out.alloc (.cells #[.int .i64 b, .int .i64 r.n, .int .i64 r.o] 135)).2 with ⟨h1, _⟩ | ⟨g', cap', cur, h1, _, h3, _⟩
          · rw [e] at h1; cases h1
          · rw [e] at h1
            simp only [Value.slice.injEq, Option.some.injEq, Addr.mk.injEq, and_true, true_and] at h1
            obtain ⟨rfl, rfl⟩ := h1
            rw [h3] at ho
            cases ho
            rfl
      have hKA := KpR.append (n₀ := w.heap.size) (m := 1) HF2.out.size (Nat.le_trans HF2.out.size (by rw [hsz]; omega)) (by omega) HNIL.out (hO.out.alloc _) htwo
      obtain ⟨row, hg, hrow, hcells⟩ := hg
      have hF' : Fr (fun k => k = w1.heap.size) w2 w' := hFa.trans (Fr.of_grown hg) (fun k hk e => by have := hrow k e.symm; omega)
      have hB' : Blk w' w1.heap.size [v] 34 := hBa.fr (Fr.of_grown hg) (fun e => by have := hrow _ e.symm; omega)
      refine ⟨hF', hB', ?_, ?_, ?_⟩
      · exact ((hKO.out.trans (KeepsOthers.alloc _ _)).trans (KeepsOthers.of_grownBy hg hcells)).trans (KeepsOthers.setCell _ _ _)
      · exact ((hKP.out.trans (KpR.alloc (Nat.le_trans HF2.out.size hwd) _)).trans hKA).trans (KpR.setCell hB' (Nat.le_of_lt hw1) (by decide) _)
      · refine ⟨hF'.setCell (.inl rfl) _, _, hB'.set 0 _, ?_, fun h => ?_⟩
        · have := own_fr hown' ((Fr.refl (One w1.heap.size) w').setCell (p := ⟨w1.heap.size, 0, none⟩) (.inl rfl) (.slice (some ⟨g, 0, none⟩) (pre.length + 1) cap)) (fun k e h => by cases e; have : g = w1.heap.size := h; omega)
          rw [List.length_append, List.map_append, rngC, List.flatMap_append]
          simpa [rngC, HUN.out, Rng.cells] using this
        · simp at h
    obtain ⟨k, hk⟩ : ∃ k : Nat, x.val = k := ⟨_, rfl⟩
    rw [hk] at q1 q2 hxl HQ ⊢
    have hki : ((k : Int) < (xs.length : Int)) := by omega
    have HS : Hid (∀ W', Fr (fun k => k = w1.heap.size) w2 W' → W'.cell? ⟨w.heap.size, 0, none⟩ = some (.slice (some ad) xs.length c) ∧ W'.cell? ⟨(ad.add (k * 3)).block, (ad.add (k * 3)).off + 1, none⟩ = some (.int .i64 r.o) ∧ W'.cell? ⟨(ad.add (k * 3)).block, (ad.add (k * 3)).off + 2, none⟩ = some (.int .i64 r.n)) := fun W' hF' =>
      ⟨(E0.out.fr hF' (fun h => Nat.ne_of_lt hw1 h)).cell 0, (HQ.out W' hF').1, (HQ.out W' hF').2⟩
    have FIN1 := Lib.hid FIN0
    clear hk FIN0 q1 q2
    gi_wp2
    refine region_round_held (S := fun W' : World => W'.cell? ⟨w.heap.size, 0, none⟩ = some (.slice (some ad) xs.length c) ∧ W'.cell? ⟨(ad.add (k * 3)).block, (ad.add (k * 3)).off + 1, none⟩ = some (.int .i64 r.o) ∧ W'.cell? ⟨(ad.add (k * 3)).block, (ad.add (k * 3)).off + 2, none⟩ = some (.int .i64 r.n)) (by kernel_rfl) (by kernel_rfl) ?hQ ?_
    case hQ => repeat (first | refine notOut_then ?_ | refine notOut_block ?_ | exact notOut_own)
    have HKO := Lib.hid (KeepsOthers.drew W)
    have HKP := Lib.hid (KpR.drew w.heap.size W)
    have HFD : Hid (Fr (fun k => k = w1.heap.size) w2 W.drew) := HFW.out.drew
    have HBD : Hid (Blk W.drew w1.heap.size [v] 34) := HBW.out.drew
    have HOWND : Hid (W.drew.ownsRow w2.heap.size 135 3 v pre.length (rngC (pre.map (undoR xs)))) := HOWN.out.drew
    generalize W.drew = wd at HKO HKP HFD HBD HOWND ⊢
    have HSD := Lib.hid (HS.out wd HFD.out)
    have FIN := Lib.hid (FIN1.out wd HKO HKP HFD HBD HOWND)
    have dv := HBD.out.cell 0
    have lv := HBD.out.lt
    have ldd := HFD.out.size
    simp only [List.getElem?_cons_zero] at dv
    refine wpAnyH_take (i := 1) (v := .int .i64 b) rfl (by kernel_rfl) (by kernel_rfl) (by kernel_rfl) (fun _ _ _ h => h) (Or.inl ⟨by rfl, fun w hSw => by (try dsimp only at hSw); go_simp⟩) HSD.out ?_
    simp only [List.getElem_toArray, List.getElem_cons_succ, List.getElem_cons_zero, Act.put, List.setIfInBounds_toArray, List.set_cons_zero, List.set_cons_succ]
    refine wpAnyH_take (i := 2) (v := .slice (some ad) xs.length c) rfl (by kernel_rfl) (by kernel_rfl) (by kernel_rfl) (fun _ _ _ h => h) (Or.inl ⟨by rfl, fun w hSw => by (try dsimp only at hSw); go_simp⟩) HSD.out ?_
    simp only [List.getElem_toArray, List.getElem_cons_succ, List.getElem_cons_zero, Act.put, List.setIfInBounds_toArray, List.set_cons_zero, List.set_cons_succ]
    refine wpAnyH_take (i := 3) (v := .int .i64 k) rfl (by kernel_rfl) (by kernel_rfl) (by kernel_rfl) (fun _ _ _ h => h) (Or.inl ⟨by rfl, fun w hSw => by (try dsimp only at hSw); go_simp⟩) HSD.out ?_
    simp only [List.getElem_toArray, List.getElem_cons_succ, List.getElem_cons_zero, Act.put, List.setIfInBounds_toArray, List.set_cons_zero, List.set_cons_succ]
    refine wpAnyH_take (i := 4) (v := .pointer (some (ad.add (k * 3)))) rfl (by kernel_rfl) (by kernel_rfl) (by kernel_rfl) (fun _ _ _ h => h) (Or.inl ⟨by rfl, fun w hSw => by (try dsimp only at hSw); go_simp⟩) HSD.out ?_
    simp only [List.getElem_toArray, List.getElem_cons_succ, List.getElem_cons_zero, Act.put, List.setIfInBounds_toArray, List.set_cons_zero, List.set_cons_succ]
    refine wpAnyH_take (i := 5) (v := .pointer (some ⟨(ad.add (k * 3)).block, (ad.add (k * 3)).off + 2, none⟩)) rfl (by kernel_rfl) (by kernel_rfl) (by kernel_rfl) (fun _ _ _ h => h) (Or.inl ⟨by rfl, fun w hSw => by (try dsimp only at hSw); go_simp⟩) HSD.out ?_
    simp only [List.getElem_toArray, List.getElem_cons_succ, List.getElem_cons_zero, Act.put, List.setIfInBounds_toArray, List.set_cons_zero, List.set_cons_succ]
    refine wpAnyH_take (i := 6) (v := .int .i64 r.n) rfl (by kernel_rfl) (by kernel_rfl) (by kernel_rfl) (fun _ _ _ h => h) (Or.inl ⟨by rfl, fun w hSw => by (try dsimp only at hSw); go_simp⟩) HSD.out ?_
    simp only [List.getElem_toArray, List.getElem_cons_succ, List.getElem_cons_zero, Act.put, List.setIfInBounds_toArray, List.set_cons_zero, List.set_cons_succ]
    refine wpAnyH_take (i := 7) (v := .slice (some ad) xs.length c) rfl (by kernel_rfl) (by kernel_rfl) (by kernel_rfl) (fun _ _ _ h => h) (Or.inl ⟨by rfl, fun w hSw => by (try dsimp only at hSw); go_simp⟩) HSD.out ?_
    simp only [List.getElem_toArray, List.getElem_cons_succ, List.getElem_cons_zero, Act.put, List.setIfInBounds_toArray, List.set_cons_zero, List.set_cons_succ]
    refine wpAnyH_take (i := 8) (v := .int .i64 k) rfl (by kernel_rfl) (by kernel_rfl) (by kernel_rfl) (fun _ _ _ h => h) (Or.inl ⟨by rfl, fun w hSw => by (try dsimp only at hSw); go_simp⟩) HSD.out ?_
    simp only [List.getElem_toArray, List.getElem_cons_succ, List.getElem_cons_zero, Act.put, List.setIfInBounds_toArray, List.set_cons_zero, List.set_cons_succ]
    refine wpAnyH_take (i := 9) (v := .pointer (some (ad.add (k * 3)))) rfl (by kernel_rfl) (by kernel_rfl) (by kernel_rfl) (fun _ _ _ h => h) (Or.inl ⟨by rfl, fun w hSw => by (try dsimp only at hSw); go_simp⟩) HSD.out ?_
    simp only [List.getElem_toArray, List.getElem_cons_succ, List.getElem_cons_zero, Act.put, List.setIfInBounds_toArray, List.set_cons_zero, List.set_cons_succ]
    refine wpAnyH_take (i := 10) (v := .pointer (some ⟨(ad.add (k * 3)).block, (ad.add (k * 3)).off + 1, none⟩)) rfl (by kernel_rfl) (by kernel_rfl) (by kernel_rfl) (fun _ _ _ h => h) (Or.inl ⟨by rfl, fun w hSw => by (try dsimp only at hSw); go_simp⟩) HSD.out ?_
    simp only [List.getElem_toArray, List.getElem_cons_succ, List.getElem_cons_zero, Act.put, List.setIfInBounds_toArray, List.set_cons_zero, List.set_cons_succ]
    refine wpAnyH_take (i := 11) (v := .int .i64 r.o) rfl (by kernel_rfl) (by kernel_rfl) (by kernel_rfl) (fun _ _ _ h => h) (Or.inl ⟨by rfl, fun w hSw => by (try dsimp only at hSw); go_simp⟩) HSD.out ?_
    simp only [List.getElem_toArray, List.getElem_cons_succ, List.getElem_cons_zero, Act.put, List.setIfInBounds_toArray, List.set_cons_zero, List.set_cons_succ]
    refine wpAnyH_take (i := 12) (v := .agg #[.int .i64 b, .int .i64 r.n, .int .i64 r.o]) rfl (by kernel_rfl) (by kernel_rfl) (by kernel_rfl) (fun _ _ _ h => h) (Or.inl ⟨by rfl, fun w hSw => by (try dsimp only at hSw); go_simp⟩) HSD.out ?_
    simp only [List.getElem_toArray, List.getElem_cons_succ, List.getElem_cons_zero, Act.put, List.setIfInBounds_toArray, List.set_cons_zero, List.set_cons_succ]
    refine wpAnyH_ready (rs := [0, 13]) (by kernel_rfl) (by simp) (AllReadyH.cons (o := _) rfl (fun K hK => ?_) (AllReadyH.cons (o := _) rfl (fun K hK => ?_) AllReadyH.nil))
    · go_simp
      refine hK.out _ _ (HS.out _ HFD.out) (fun _ => ?_)
      clear hK K
      try simp only [List.getElem_toArray, List.getElem_cons_succ, List.getElem_cons_zero, Act.put, List.setIfInBounds_toArray, List.set_cons_zero, List.set_cons_succ]
      refine wpAnyH_ready (rs := [13]) (by kernel_rfl) (by simp) (AllReadyH.cons (o := _) rfl (fun K hK => ?_) AllReadyH.nil)
      go_simp
      refine hK.out _ _ (HS.out _ (HFD.out.alloc _)) (fun _ => ?_)
      clear hK K
      try simp only [List.getElem_toArray, List.getElem_cons_succ, List.getElem_cons_zero, Act.put, List.setIfInBounds_toArray, List.set_cons_zero, List.set_cons_succ]
      refine wpAnyH_ready (rs := [14]) (by kernel_rfl) (by simp) (AllReadyH.cons (o := _) rfl (fun K hK => ?_) AllReadyH.nil)
      refine step_append_two _ rfl _ _ 34 rfl w2.heap.size 135 i0 _ 3 24 Tryz.underlying34 hi hz0 hz1 hz2 rfl (by decide) v pre.length _ rfl (HOWND.out.alloc _) ⟨wd.heap.size, 0, none⟩ 1 1 [.int .i64 b, .int .i64 r.n, .int .i64 r.o] rfl rfl (fun j u hu => by rw [add_lit]; exact ((Blk.new wd [.int .i64 b, .int .i64 r.n, .int .i64 r.o] 135).cell j).trans hu) (by simp [Value.oneCell']) (by omega) (by simp only [maxLen]; omega) (by omega) (by simp; have := HFD.out.size; omega) ?_
      intro g cap w' hown' htwo
      obtain ⟨hFA, hBA, hEND⟩ := FIN.out g cap w' hown' htwo
      have HEND := Lib.hid hEND
      refine hK.out _ _ (HS.out _ hFA) (fun _ => ?_)
      clear hK K
      try simp only [List.getElem_toArray, List.getElem_cons_succ, List.getElem_cons_zero, Act.put, List.setIfInBounds_toArray, List.set_cons_zero, List.set_cons_succ]
      have da := hBA.cell 0
      have fa := hBA.frozen 0
      have la := hBA.lt
      simp only [List.getElem?_cons_zero] at da
      refine wpAnyH_ready (rs := [15]) (by kernel_rfl) (by simp) (AllReadyH.cons (o := _) rfl (fun K hK => ?_) AllReadyH.nil)
      go_simp
      refine hK.out _ _ (HS.out _ (hFA.setCell (p := ⟨w1.heap.size, 0, none⟩) (.inl rfl) _)) (fun _ => ?_)
      clear hK K
      refine wpAnyH_done (by kernel_rfl) ?_ _
      gi_wp2
      exact HEND.out
    · go_simp
      refine hK.out _ _ (HS.out _ (HFD.out.alloc _)) (fun _ => ?_)
      clear hK K
      try simp only [List.getElem_toArray, List.getElem_cons_succ, List.getElem_cons_zero, Act.put, List.setIfInBounds_toArray, List.set_cons_zero, List.set_cons_succ]
      refine wpAnyH_ready (rs := [0]) (by kernel_rfl) (by simp) (AllReadyH.cons (o := _) rfl (fun K hK => ?_) AllReadyH.nil)
      have da := (HBD.out.alloc (.cells #[.int .i64 b, .int .i64 r.n, .int .i64 r.o] 135)).cell 0
      simp only [List.getElem?_cons_zero] at da
      go_simp
      clear da
      refine hK.out _ _ (HS.out _ (HFD.out.alloc _)) (fun _ => ?_)
      clear hK K
      try simp only [List.getElem_toArray, List.getElem_cons_succ, List.getElem_cons_zero, Act.put, List.setIfInBounds_toArray, List.set_cons_zero, List.set_cons_succ]
      refine wpAnyH_ready (rs := [14]) (by kernel_rfl) (by simp) (AllReadyH.cons (o := _) rfl (fun K hK => ?_) AllReadyH.nil)
      refine step_append_two _ rfl _ _ 34 rfl w2.heap.size 135 i0 _ 3 24 Tryz.underlying34 hi hz0 hz1 hz2 rfl (by decide) v pre.length _ rfl (HOWND.out.alloc _) ⟨wd.heap.size, 0, none⟩ 1 1 [.int .i64 b, .int .i64 r.n, .int .i64 r.o] rfl rfl (fun j u hu => by rw [add_lit]; exact ((Blk.new wd [.int .i64 b, .int .i64 r.n, .int .i64 r.o] 135).cell j).trans hu) (by simp [Value.oneCell']) (by omega) (by simp only [maxLen]; omega) (by omega) (by simp; have := HFD.out.size; omega) ?_
      intro g cap w' hown' htwo
      obtain ⟨hFA, hBA, hEND⟩ := FIN.out g cap w' hown' htwo
      have HEND := Lib.hid hEND
      refine hK.out _ _ (HS.out _ hFA) (fun _ => ?_)
      clear hK K
      try simp only [List.getElem_toArray, List.getElem_cons_succ, List.getElem_cons_zero, Act.put, List.setIfInBounds_toArray, List.set_cons_zero, List.set_cons_succ]
      have da := hBA.cell 0
      have fa := hBA.frozen 0
      have la := hBA.lt
      simp only [List.getElem?_cons_zero] at da
      refine wpAnyH_ready (rs := [15]) (by kernel_rfl) (by simp) (AllReadyH.cons (o := _) rfl (fun K hK => ?_) AllReadyH.nil)
      go_simp
      refine hK.out _ _ (HS.out _ (hFA.setCell (p := ⟨w1.heap.size, 0, none⟩) (.inl rfl) _)) (fun _ => ?_)
      clear hK K
      refine wpAnyH_done (by kernel_rfl) ?_ _
      gi_wp2
      exact HEND.out
  case done =>
    rintro D ys W hD hU ⟨hF, v, hB, hown, hnil⟩ hK
    have hys := hU.eq
    subst hys
    rw [List.length_finRange] at hown
    have hil : (invF xs).length = xs.length := by simp [invF]
    obtain ⟨VA, vc, rfl, hvc, hrd⟩ := Rd.of_own (M := fun k => k < w2.heap.size) hown (fun k e => by have := (World.ownsRow.lt hown k e).1; omega)
    have hrd' : Rd (fun k => k < w2.heap.size) W VA (rngC (invF xs)) := hrd
    have HRV := Lib.hid hrd'
    have d1 := hB.cell 0
    have l1 := hB.lt
    simp only [List.getElem?_cons_zero] at d1
    have HFW := Lib.hid hF
    have HBW := Lib.hid hB
    have HKD := Lib.hid hK
    clear hF hB hown hnil hrd hrd' hK hU
    gi_wp2
    have hrt := posright_any _ (invF xs) VA vc W HRV.out (by omega)
    rw [hil, HR.out] at hrt
    refine ⟨trivial, callsIn_wide.2 (hrt.mono ?_)⟩
    rintro e w5 ⟨rfl, hF5⟩
    have hB5 := HBW.out.fr hF5 (fun h => h)
    have HRV5 := Lib.hid (HRV.out.fr hF5 (fun _ _ h => h.elim))
    have HF5 := Lib.hid (HFW.out.none hF5)
    have HK5 := Lib.hid (hF5.blk HKD.out (fun h => h))
    have d5 := hB5.cell 0
    have l5 := hB5.lt
    simp only [List.getElem?_cons_zero] at d5
    clear hF5 hB5 d1 l1
    have HFE := Lib.hid (fr_putObj (.deferred none) HF5.out hD)
    cases R
    · gi_wp2
      refine ⟨by simp, .inl ⟨_, _, rfl, run_takeDeferred HK5.out, ?_⟩⟩
      refine ⟨.tuple #[.slice none 0 0, .int .i64 4], by simp [results, go_sem], ?_⟩
      exact ⟨_, rfl, Rngs.nil _ _, HF2.out.trans HFE.out (fun k hk h => by subst h; omega)⟩
    · gi_wp2
      refine ⟨by simp, .inl ⟨_, _, rfl, run_takeDeferred HK5.out, ?_⟩⟩
      refine ⟨.tuple #[.slice VA xs.length vc, .int .i64 0], by simp [results, go_sem], ?_⟩
      refine ⟨_, rfl, ⟨VA, vc, by rw [hil], ?_⟩, HF2.out.trans HFE.out (fun k hk h => by subst h; omega)⟩
      intro hne
      obtain ⟨ad, e, hn, hc⟩ := HRV5.out hne
      refine ⟨ad, e, fun h => hn (Nat.lt_of_lt_of_le h HF2.out.size), fun j u hu => ?_⟩
      have h1 := hc j u hu
      have h2 := cell_ne_deferred h1 HK5.out
      exact (World.cell?_of_block (World.putObj_heap_other h2)).trans h1
  case stop =>
    rintro D c pre W hD ⟨k, hk, hU⟩ h hK
    exact h.elim
end Go.Proofs.YtanbfplcldloeaaGreatDoor

/- Chapter 8: a place through a map. -/
namespace Go.Proofs.YtanbfplcldloeaaGreatDoor
open Go.RowKit Go.Shelf
attribute [local go_sem] Oper.semAt_some
structure Spot where
  a : Int
  g : Bool
  i : Int
  o : Int
def Spot.cells (s : Spot) : List Value := spotC s.a s.g s.i s.o
/-- Where a place comes to lie that stands in a range. -/
def spotF (b p side : Int) (j : Nat) (r : Rng) : Spot :=
  if side < 0 ∧ p ≠ r.a ∨ 0 ≤ side ∧ p ≠ r.a + r.o then ⟨if withinL r p side = true then b else b + r.n, withinG r p, j, p - r.a⟩ else ⟨if withinL r p side = true then b else b + r.n, withinG r p, -1, 0⟩
def mapGo (xs : List Rng) (p side : Int) : Nat → List Rng → Spot
  | k, [] => ⟨p + dF xs k, false, -1, 0⟩
  | k, r :: rest => if p < r.a then ⟨p + dF xs k, false, -1, 0⟩ else if p ≤ r.a + r.o then spotF (begF xs k) p side k r else mapGo xs p side (k + 1) rest
/-- 'Map', of a map that may be: the spot; its error. -/
def posmapF (xs : List Rng) (p side : Int) : Spot × Int := if p < 0 ∨ 65536 < p then (⟨0, false, 0, 0⟩, 1) else (mapGo xs p side 0 xs, 0)
/-- A range that lies ahead of the place. -/
def passF (xs : List Rng) (p : Int) (j : Fin xs.length) : Prop := xs[j.val].a + xs[j.val].o < p ∧ xs[j.val].a ≤ p
/-- What has come of the place behind some. -/
def atP {n : Nat} (xs : List Rng) (p : Int) (pre : List (Fin n)) : Int := match pre.getLast? with | none => p | some j => p + dF xs (j.val + 1)
theorem atP_snoc {n : Nat} (xs : List Rng) (p : Int) (pre : List (Fin n)) (j : Fin n) : atP xs p (pre ++ [j]) = p + dF xs (j.val + 1) := by simp [atP]
theorem atP_upto {n : Nat} (xs : List Rng) (p : Int) {pre : List (Fin n)} {k : Nat} (h : Upto pre k) : atP xs p pre = p + dF xs k := by
  rcases List.eq_nil_or_concat pre with rfl | ⟨ini, j, rfl⟩
  · have := h.len; simp at this; subst this; simp [atP, dF]
  · rw [List.concat_eq_append, atP_snoc]
    have hl := h.len
    simp at hl
    have h2 : ((ini.concat j).map Fin.val)[ini.length]? = (List.range k)[ini.length]? := by rw [h]
    rw [List.concat_eq_append, List.map_append, List.getElem?_append_right (by simp), List.getElem?_range (by omega)] at h2
    simp at h2
    rw [h2, hl]
theorem mapGo_pass (xs : List Rng) (p side : Int) : ∀ (k : Nat), k ≤ xs.length → (∀ j : Fin xs.length, j.val < k → passF xs p j) → mapGo xs p side 0 xs = mapGo xs p side k (xs.drop k)
  | 0, _, _ => rfl
  | k + 1, hk, h => by
    rw [mapGo_pass xs p side k (by omega) (fun j hj => h j (by omega)), List.drop_eq_getElem_cons (show k < xs.length by omega), mapGo]
    have hp : xs[k].a + xs[k].o < p ∧ xs[k].a ≤ p := h ⟨k, by omega⟩ (by simp)
    rw [if_neg (by omega), if_neg (by omega)]
theorem Upto.pre {n : Nat} {ini : List (Fin n)} {j : Fin n} {k : Nat} (h : Upto (ini ++ [j]) k) : k = j.val + 1 ∧ Upto ini j.val := by
  have hl := h.len
  simp at hl
  have h2 : ((ini ++ [j]).map Fin.val)[ini.length]? = (List.range k)[ini.length]? := by rw [h]
  rw [List.map_append, List.getElem?_append_right (by simp), List.getElem?_range (by omega)] at h2
  simp at h2
  refine ⟨by omega, ?_⟩
  unfold Upto at h ⊢
  rw [List.map_append, ← hl, List.range_succ] at h
  have := List.append_inj_left' h (by simp)
  rw [this, h2]
theorem Upto.below {n : Nat} {pre : List (Fin n)} {k : Nat} (h : Upto pre k) (j : Fin n) (hj : j.val < k) : j ∈ pre := by
  have h1 : j.val ∈ pre.map Fin.val := by rw [h, List.mem_range]; exact hj
  obtain ⟨y, hy, e⟩ := List.mem_map.1 h1
  rwa [← Fin.ext e]
theorem mapGo_done {xs : List Rng} {p : Int} (side : Int) (h : ∀ j, passF xs p j) : mapGo xs p side 0 xs = ⟨p + dF xs xs.length, false, -1, 0⟩ := by
  rw [mapGo_pass xs p side xs.length (Nat.le_refl _) (fun j _ => h j), List.drop_length, mapGo]
theorem mapGo_break {xs : List Rng} {p : Int} (side : Int) (j : Fin xs.length) (h : ∀ i : Fin xs.length, i.val < j.val → passF xs p i) (hb : p < xs[j.val].a) : mapGo xs p side 0 xs = ⟨p + dF xs j.val, false, -1, 0⟩ := by
  rw [mapGo_pass xs p side j.val (Nat.le_of_lt j.isLt) h, List.drop_eq_getElem_cons j.isLt, mapGo, if_pos hb]
theorem mapGo_hit {xs : List Rng} {p : Int} (side : Int) (j : Fin xs.length) (h : ∀ i : Fin xs.length, i.val < j.val → passF xs p i) (hb : ¬ p < xs[j.val].a) (hc : p ≤ xs[j.val].a + xs[j.val].o) : mapGo xs p side 0 xs = spotF (begF xs j.val) p side j.val xs[j.val] := by
  rw [mapGo_pass xs p side j.val (Nat.le_of_lt j.isLt) h, List.drop_eq_getElem_cons j.isLt, mapGo, if_neg hb, if_pos hc]
end Go.Proofs.YtanbfplcldloeaaGreatDoor
