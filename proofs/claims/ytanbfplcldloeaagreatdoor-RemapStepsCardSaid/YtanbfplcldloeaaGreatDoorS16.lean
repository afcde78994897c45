/- A part of the proof for chapter 10: StepDo, StepDoA; no conditions. -/
import Derived.Test.YtanbfplcldloeaaGreatDoorS15
import Derived.StillTailTactics
/- Chapter 9: a step, done: a replacement. -/
namespace Go.Proofs.YtanbfplcldloeaaGreatDoor
open Go.RowKit
/-- Where a piece of a list lies. -/
def cutA (A : Option Addr) (c l : Nat) : Option Addr := if c = l then A else A.map (·.add (l * 4))
theorem sizeTok (w : World) : (sizeOf 65).run Tryz.prog w = .ok 4 w := by
  have h := infoTok4
  cases hq : Tryz.prog.info? 65 with
  | none => rw [hq] at h; simp at h
  | some i => rw [hq] at h; simp at h; simp [sizeOf, typeInfo, hq, h]
theorem elemTok : Tryz.prog.elem 22 = 65 := by kernel_rfl
theorem cut_lh (A : Option Addr) (n c l h : Nat) (h1 : l ≤ h) (h2 : h ≤ c) (w : World) :
    (Instr.slice 22 (.slice A n c) (some (.int .i64 (l : Int))) (some (.int .i64 (h : Int))) none).run Tryz.prog w = .ok (.slice (cutA A c l) (h - l) (c - l)) w := by
  rw [run_slice_lh (P := Tryz.prog) (w := w) (t := 22) (a := A) (len := n) (cap := c) (ht := by rw [elemTok]; exact Tryz.underlying22) .i64 .i64 l h (by omega) (by omega) (by omega), elemTok, sizeTok]
  simp [Result.andThen, sliced, cutA]
theorem cut_h (A : Option Addr) (n c h : Nat) (h2 : h ≤ c) (w : World) :
    (Instr.slice 22 (.slice A n c) none (some (.int .i64 (h : Int))) none).run Tryz.prog w = .ok (.slice (cutA A c 0) h c) w := by
  rw [run_slice_h (P := Tryz.prog) (w := w) (t := 22) (a := A) (len := n) (cap := c) (ht := by rw [elemTok]; exact Tryz.underlying22) .i64 h (by omega) (by omega), elemTok, sizeTok]
  simp [Result.andThen, sliced, cutA]
theorem cut_l (A : Option Addr) (n c l : Nat) (h1 : l ≤ n) (w : World) :
    (Instr.slice 22 (.slice A n c) (some (.int .i64 (l : Int))) none none).run Tryz.prog w = .ok (.slice (cutA A c l) (n - l) (c - l)) w := by
  rw [run_slice_l (P := Tryz.prog) (w := w) (t := 22) (a := A) (len := n) (cap := c) (ht := by rw [elemTok]; exact Tryz.underlying22) .i64 l (by omega) (by omega), elemTok, sizeTok]
  simp [Result.andThen, sliced, cutA]
theorem tokC_split (l : List Tok) (k : Nat) : tokC l = tokC (l.take k) ++ tokC (l.drop k) := by rw [← tokC_append, List.take_append_drop]
theorem tokC_drop (l : List Tok) (k : Nat) : tokC (l.drop k) = (tokC l).drop (k * 4) := by
  by_cases h : k ≤ l.length
  · have hl : (tokC (l.take k)).length = k * 4 := by rw [tokC_length, List.length_take]; omega
    have e := congrArg (List.drop (k * 4)) (tokC_split l k)
    rw [List.drop_append, List.drop_eq_nil_of_le (Nat.le_of_eq hl), List.nil_append, hl, Nat.sub_self, List.drop_zero] at e
    exact e.symm
  · rw [List.drop_eq_nil_of_le (by omega), List.drop_eq_nil_of_le (by rw [tokC_length]; omega)]; rfl
theorem tokC_take (l : List Tok) (k : Nat) : tokC (l.take k) = (tokC l).take (k * 4) := by
  by_cases h : k ≤ l.length
  · have hl : (tokC (l.take k)).length = k * 4 := by rw [tokC_length, List.length_take]; omega
    have e := congrArg (List.take (k * 4)) (tokC_split l k)
    rw [List.take_append_of_le_length (Nat.le_of_eq hl.symm), List.take_of_length_le (Nat.le_of_eq hl)] at e
    exact e.symm
  · rw [List.take_of_length_le (by omega), List.take_of_length_le (by rw [tokC_length]; omega)]
theorem Rd.drop {M : Nat → Prop} {w : World} {A : Option Addr} {xs : List Value} (h : Rd M w A xs) (k : Nat) : Rd M w (A.map (·.add k)) (xs.drop k) := fun hx => by
  obtain ⟨ad, rfl, hn, hc⟩ := h (by rintro rfl; simp at hx)
  refine ⟨ad.add k, rfl, by rw [add_block]; exact hn, fun j u hu => ?_⟩
  rw [add_of_add]
  rw [List.getElem?_drop] at hu
  exact hc _ u hu
/-- A piece of a list is read where it lies. -/
theorem Rd.cut {M : Nat → Prop} {w : World} {A : Option Addr} {l : List Tok} (h : Rd M w A (tokC l)) {c k : Nat} (hc : l.length ≤ c) (n : Nat) : Rd M w (cutA A c k) (tokC ((l.drop k).take n)) := by
  rw [tokC_take]
  refine Rd.take ?_ _
  unfold cutA
  split
  · rename_i e
    rw [List.drop_eq_nil_of_le (by omega)]
    exact Rd.nil _ _ _
  · rw [tokC_drop]
    exact h.drop _
theorem Rd.cut0 {M : Nat → Prop} {w : World} {A : Option Addr} {l : List Tok} (h : Rd M w A (tokC l)) {c : Nat} (hc : l.length ≤ c) (n : Nat) : Rd M w (cutA A c 0) (tokC (l.take n)) := by
  have := h.cut (k := 0) hc n
  rwa [List.drop_zero] at this
theorem Rd.cutD {M : Nat → Prop} {w : World} {A : Option Addr} {l : List Tok} (h : Rd M w A (tokC l)) {c : Nat} (hc : l.length ≤ c) (k : Nat) : Rd M w (cutA A c k) (tokC (l.drop k)) := by
  have := h.cut (k := k) hc l.length
  rwa [List.take_of_length_le (by rw [List.length_drop]; omega)] at this
attribute [local go_sem high] cut_lh cut_h cut_l
/-- Lists, joined: their row has just been built. -/
theorem tokens_new (M : Nat → Prop) (L : List Seg) (w0 w : World) (T : TypeId) (cs : List Value) (n : Nat) (hF : Fr Nob w0 w) (hd : ∀ x ∈ L, Rd M w0 x.a (tokC x.l)) (hcs : L.map Seg.v = cs) (hn : L.length = n) (hL : (segsL L).length ≤ 100000) (hL2 : n ≤ 100000) :
    Calls Tryz.prog 81 #[.slice (some ⟨w.heap.size, 0, none⟩) n n] (w.alloc (.cells cs.toArray T)) fun e w' => ∃ v, e = .returned v ∧ NewDoc w0 w' v (segsL L) ∧ Fr Nob w0 w' := by
  subst hn hcs
  have hfa : Fr Nob w0 (w.alloc (.cells (L.map Seg.v).toArray T)) := hF.alloc _
  have hrow : Rd Nob (w.alloc (.cells (L.map Seg.v).toArray T)) (some ⟨w.heap.size, 0, none⟩) (L.map Seg.v) := fun _ => ⟨_, rfl, fun h => h, fun j u hu => by rw [add_lit]; exact ((Blk.new w (L.map Seg.v) T).cell j).trans hu⟩
  refine (tokens_any Nob L _ L.length _ hrow (fun x hx => ((hd x hx).mono (fun _ h => h.elim)).fr hfa (fun _ _ h => h)) hL hL2).mono ?_
  rintro e w' ⟨v, rfl, hv, hF2⟩
  exact ⟨v, rfl, hv.old hfa.size, hfa.same hF2⟩
def repF (f t : Nat) (x l : List Tok) : List Tok := l.take f ++ (x ++ l.drop t)
set_option maxRecDepth 100000 in
set_option maxHeartbeats 4000000 in
theorem stepdo_rep (M : Nat → Prop) (f t : Nat) (gf gt ins mk : Int) (A B : Option Addr) (x l : List Tok) (c b : Nat) (w : World) (hl : Rd M w A (tokC l)) (hx : Rd M w B (tokC x)) (hc : l.length ≤ c) (hft : f ≤ t) (htl : t ≤ l.length) (hn : l.length ≤ 10000) (hnx : x.length ≤ 10000) :
    Calls Tryz.prog 52 #[.slice A l.length c, .agg #[.int .i64 0, .int .i64 f, .int .i64 t, .int .i64 gf, .int .i64 gt, .int .i64 ins, .slice B x.length b, .int .i64 mk]] w fun e w' => ∃ v, e = .returned v ∧ NewDoc w w' v (repF f t x l) ∧ Fr Nob w w' := by
  obtain ⟨ln, hln⟩ : ∃ ln, l.length = ln := ⟨_, rfl⟩
  obtain ⟨xn, hxn⟩ : ∃ xn, x.length = xn := ⟨_, rfl⟩
  have HLN := Lib.hid hln
  have HXN := Lib.hid hxn
  have HRl := Lib.hid hl
  have HRx := Lib.hid hx
  rw [hln] at hc htl hn ⊢
  rw [hxn] at hnx ⊢
  clear hl hx hln hxn
  go_enter Tryz.func52, Tryz.ntmps52
  go_wp2_with fail
  obtain ⟨W, hW⟩ : ∃ W, w.alloc (.cells #[.int .i64 0, .int .i64 f, .int .i64 t, .int .i64 gf, .int .i64 gt, .int .i64 ins, .slice B xn b, .int .i64 mk] 24) = W := ⟨_, rfl⟩
  have HF := Lib.hid (show Fr Nob w W by rw [← hW]; exact (Fr.refl _ _).alloc _)
  have hB : Blk W w.heap.size [.int .i64 0, .int .i64 f, .int .i64 t, .int .i64 gf, .int .i64 gt, .int .i64 ins, .slice B xn b, .int .i64 mk] 24 := by rw [← hW]; exact Blk.new _ _ _
  have d1 := hB.cell 1
  have d2 := hB.cell 2
  have d6 := hB.cell 6
  have hlb := hB.lt
  simp only [List.getElem?_cons_zero, List.getElem?_cons_succ] at d1 d2 d6
  rw [hW]
  clear hW hB
  have hfc : f ≤ c := by omega
  go_still_tail 10, (by kernel_rfl)
  change wpList _ _ _ _ _ W.drew
  generalize hwd : W.drew = wd
  have HF2 := Lib.hid (show Fr Nob w wd by subst hwd; exact HF.out.drew)
  clear hwd d1 d2 d6 hlb
  go_wp2_with fail
  refine (tokens_new M [⟨cutA A c 0, c, l.take f⟩, ⟨B, b, x⟩, ⟨cutA A c t, c - t, l.drop t⟩] w wd _ _ 3 HF2.out ?hd ?hcs rfl ?hL (by omega)).mono ?_
  case hd =>
    have h1 := HLN.out
    intro y hy
    simp only [List.mem_cons, List.not_mem_nil, or_false] at hy
    rcases hy with rfl | rfl | rfl
    · exact HRl.out.cut0 (by omega) f
    · exact HRx.out
    · exact HRl.out.cutD (by omega) t
  case hcs =>
    have h1 := HLN.out
    have h2 := HXN.out
    simp only [List.map_cons, List.map_nil, Seg.v, List.length_take, List.length_drop, h1, h2]
    rw [Nat.min_eq_left (by omega)]
  case hL =>
    have h1 := HLN.out
    have h2 := HXN.out
    simp only [segsL, List.flatMap_cons, List.flatMap_nil, List.length_append, List.length_take, List.length_drop, List.length_nil, h1, h2]
    omega
  rintro e w' ⟨v, rfl, hv, hF3⟩
  have HV := Lib.hid hv
  have HF3 := Lib.hid hF3
  clear hv hF3
  go_wp2_with fail
  go_ret
  refine ⟨v, rfl, ?_, HF3.out⟩
  have := HV.out
  simpa [segsL, repF] using this
end Go.Proofs.YtanbfplcldloeaaGreatDoor

/- Chapter 9: a step, done: around. -/
namespace Go.Proofs.YtanbfplcldloeaaGreatDoor
open Go.RowKit
attribute [local go_sem high] cut_lh cut_h cut_l
def aroF (f t gf gt i : Nat) (x l : List Tok) : List Tok := l.take f ++ (x.take i ++ ((l.drop gf).take (gt - gf) ++ (x.drop i ++ l.drop t)))
set_option maxRecDepth 100000 in
set_option maxHeartbeats 4000000 in
theorem stepdo_aro (M : Nat → Prop) (f t gf gt i : Nat) (mk : Int) (A B : Option Addr) (x l : List Tok) (c b : Nat) (w : World) (hl : Rd M w A (tokC l)) (hx : Rd M w B (tokC x)) (hc : l.length ≤ c) (hb : x.length ≤ b) (h1 : f ≤ gf) (h2 : gf ≤ gt) (h3 : gt ≤ t) (h4 : i ≤ x.length) (htl : t ≤ l.length) (hn : l.length ≤ 10000) (hnx : x.length ≤ 10000) :
    Calls Tryz.prog 52 #[.slice A l.length c, .agg #[.int .i64 1, .int .i64 f, .int .i64 t, .int .i64 gf, .int .i64 gt, .int .i64 i, .slice B x.length b, .int .i64 mk]] w fun e w' => ∃ v, e = .returned v ∧ NewDoc w w' v (aroF f t gf gt i x l) ∧ Fr Nob w w' := by
  obtain ⟨ln, hln⟩ : ∃ ln, l.length = ln := ⟨_, rfl⟩
  obtain ⟨xn, hxn⟩ : ∃ xn, x.length = xn := ⟨_, rfl⟩
  have HLN := Lib.hid hln
  have HXN := Lib.hid hxn
  have HRl := Lib.hid hl
  have HRx := Lib.hid hx
  rw [hln] at hc htl hn ⊢
  rw [hxn] at hnx hb h4 ⊢
  clear hl hx hln hxn
  go_enter Tryz.func52, Tryz.ntmps52
  go_wp2_with fail
  obtain ⟨W, hW⟩ : ∃ W, w.alloc (.cells #[.int .i64 1, .int .i64 f, .int .i64 t, .int .i64 gf, .int .i64 gt, .int .i64 i, .slice B xn b, .int .i64 mk] 24) = W := ⟨_, rfl⟩
  have HF := Lib.hid (show Fr Nob w W by rw [← hW]; exact (Fr.refl _ _).alloc _)
  have hB : Blk W w.heap.size [.int .i64 1, .int .i64 f, .int .i64 t, .int .i64 gf, .int .i64 gt, .int .i64 i, .slice B xn b, .int .i64 mk] 24 := by rw [← hW]; exact Blk.new _ _ _
  have d1 := hB.cell 1
  have d2 := hB.cell 2
  have d3 := hB.cell 3
  have d4 := hB.cell 4
  have d5 := hB.cell 5
  have d6 := hB.cell 6
  have hlb := hB.lt
  simp only [List.getElem?_cons_zero, List.getElem?_cons_succ] at d1 d2 d3 d4 d5 d6
  rw [hW]
  clear hW hB
  have hfc : f ≤ c := by omega
  have hgc : gt ≤ c := by omega
  have hic : i ≤ b := by omega
  go_still_tail 24, (by kernel_rfl)
  change wpList _ _ _ _ _ W.drew
  generalize hwd : W.drew = wd
  have HF2 := Lib.hid (show Fr Nob w wd by subst hwd; exact HF.out.drew)
  clear hwd d1 d2 d3 d4 d5 d6 hlb
  go_wp2_with fail
  refine (tokens_new M [⟨cutA A c 0, c, l.take f⟩, ⟨cutA B b 0, b, x.take i⟩, ⟨cutA A c gf, c - gf, (l.drop gf).take (gt - gf)⟩, ⟨cutA B b i, b - i, x.drop i⟩, ⟨cutA A c t, c - t, l.drop t⟩] w wd _ _ 5 HF2.out ?hd ?hcs rfl ?hL (by omega)).mono ?_
  case hd =>
    have g1 := HLN.out
    intro y hy
    simp only [List.mem_cons, List.not_mem_nil, or_false] at hy
    have g2 := HXN.out
    rcases hy with rfl | rfl | rfl | rfl | rfl
    · exact HRl.out.cut0 (by omega) f
    · exact HRx.out.cut0 (by omega) i
    · exact HRl.out.cut (by omega) (gt - gf)
    · exact HRx.out.cutD (by omega) i
    · exact HRl.out.cutD (by omega) t
  case hcs =>
    have g1 := HLN.out
    have g2 := HXN.out
    simp only [List.map_cons, List.map_nil, Seg.v, List.length_take, List.length_drop, g1, g2]
    rw [Nat.min_eq_left (by omega), Nat.min_eq_left (by omega), Nat.min_eq_left (by omega)]
  case hL =>
    have g1 := HLN.out
    have g2 := HXN.out
    simp only [segsL, List.flatMap_cons, List.flatMap_nil, List.length_append, List.length_take, List.length_drop, List.length_nil, g1, g2]
    omega
  rintro e w' ⟨v, rfl, hv, hF3⟩
  have HV := Lib.hid hv
  have HF3 := Lib.hid hF3
  clear hv hF3
  go_wp2_with fail
  go_ret
  refine ⟨v, rfl, ?_, HF3.out⟩
  have := HV.out
  simpa [segsL, aroF] using this
end Go.Proofs.YtanbfplcldloeaaGreatDoor
