/- A part of the proof for chapter 10: StepDoM; no conditions. -/
import Derived.Test.YtldcffonfidbcaaGreatDoorY17
import Derived.Deep.RegionHeld3
/- Chapter 9: a step, done: marks. -/
namespace Go.Proofs.YtldcffonfidbcaaGreatDoor
open Go.RowKit
def turnF (k s m : Int) : Int := if k = 3 then (takeF s m).1 else (addF s m).1
def turnT (k m : Int) (x : Tok) : Tok := if x.k = 0 then { x with m := turnF k x.m m } else x
/-- The tokens from f up to i, turned. -/
def markL (k m : Int) (f i : Nat) (l : List Tok) : List Tok := l.mapIdx fun j x => if f ≤ j ∧ j < i then turnT k m x else x
theorem markL_len (k m : Int) (f i : Nat) (l : List Tok) : (markL k m f i l).length = l.length := by simp [markL]
theorem markL_start (k m : Int) (f : Nat) (l : List Tok) : markL k m f f l = l := by
  refine List.ext_getElem (markL_len _ _ _ _ _) (fun j h1 h2 => ?_)
  simp only [markL, List.getElem_mapIdx]
  rw [if_neg (by omega)]
theorem markL_at (k m : Int) (f i : Nat) (l : List Tok) (hi : i < l.length) : (markL k m f i l)[i]'(by rw [markL_len]; exact hi) = l[i] := by
  simp only [markL, List.getElem_mapIdx]
  rw [if_neg (by omega)]
theorem markL_set (k m : Int) (f i : Nat) (l : List Tok) (hf : f ≤ i) (hi : i < l.length) : (markL k m f i l).set i (turnT k m l[i]) = markL k m f (i + 1) l := by
  refine List.ext_getElem (by simp [markL]) (fun j h1 h2 => ?_)
  rw [List.getElem_set]
  simp only [markL, List.getElem_mapIdx]
  split
  · rename_i e; subst e; rw [if_pos (by omega)]
  · rename_i e
    by_cases hj : f ≤ j ∧ j < i
    · rw [if_pos hj, if_pos (by omega)]
    · rw [if_neg hj, if_neg (by omega)]
theorem markL_same (k m : Int) (f i : Nat) (l : List Tok) (hf : f ≤ i) (hi : i < l.length) (hk : l[i].k ≠ 0) : markL k m f i l = markL k m f (i + 1) l := by
  rw [← markL_set k m f i l hf hi, turnT, if_neg hk, ← markL_at k m f i l hi, List.set_getElem_self]
theorem tokC_set (m : Int) : ∀ (l : List Tok) (i : Nat) (hi : i < l.length), (tokC l).set (i * 4 + 3) (.int .i64 m) = tokC (l.set i { l[i] with m := m })
  | [], _, hi => by simp at hi
  | x :: l, 0, _ => rfl
  | x :: l, i + 1, hi => by
    have ih := tokC_set m l i (by simpa using hi)
    have e : (i + 1) * 4 + 3 = (i * 4 + 3) + 1 + 1 + 1 + 1 := by omega
    rw [e]
    simp only [tokC, List.flatMap_cons, Tok.cells, List.cons_append, List.nil_append, List.set_cons_succ, List.getElem_cons_succ] at ih ⊢
    rw [ih]
theorem tokC_get (l : List Tok) (i j : Nat) (hi : i < l.length) (hj : j < 4) : (tokC l)[i * 4 + j]? = l[i].cells[j]? := flat_get Tok.cells_len4 l i j hi hj
set_option maxRecDepth 100000 in
set_option maxHeartbeats 4000000 in
theorem stepdo_add (M : Nat → Prop) (f t : Nat) (gf gt ins mk : Int) (A B : Option Addr) (l : List Tok) (c xn b : Nat) (w : World) (hl : Rd M w A (tokC l)) (hc : l.length ≤ c) (hft : f ≤ t) (htl : t ≤ l.length) (hn : l.length ≤ 10000) :
    Calls Tryz.prog 77 #[.slice A l.length c, .agg #[.int .i64 2, .int .i64 f, .int .i64 t, .int .i64 gf, .int .i64 gt, .int .i64 ins, .slice B xn b, .int .i64 mk]] w fun e w' => ∃ v, e = .returned v ∧ NewDoc w w' v (markL 2 mk f t l) ∧ Fr Nob w w' := by
  obtain ⟨ln, hln⟩ : ∃ ln, l.length = ln := ⟨_, rfl⟩
  have HLN := Lib.hid hln
  have HRl := Lib.hid hl
  rw [hln] at hc htl hn ⊢
  clear hl hln
  go_enter Tryz.func77, Tryz.ntmps77
  go_upto_region 9 with (fail)
  obtain ⟨W, hW⟩ : ∃ W, w.alloc (.cells #[.int .i64 2, .int .i64 f, .int .i64 t, .int .i64 gf, .int .i64 gt, .int .i64 ins, .slice B xn b, .int .i64 mk] 32) = W := ⟨_, rfl⟩
  have HF := Lib.hid (show Fr Nob w W by rw [← hW]; exact (Fr.refl _ _).alloc _)
  have HB := Lib.hid (show Blk W w.heap.size [.int .i64 2, .int .i64 f, .int .i64 t, .int .i64 gf, .int .i64 gt, .int .i64 ins, .slice B xn b, .int .i64 mk] 32 by rw [← hW]; exact Blk.new _ _ _)
  rw [hW]
  clear hW
  go_wp2_with fail
  refine (tokens_new M [⟨A, c, l⟩] W W _ _ 1 (Fr.refl _ _) ?hd ?hcs rfl ?hL (by omega)).mono ?_
  case hd =>
    intro y hy
    simp only [List.mem_cons, List.not_mem_nil, or_false] at hy
    subst hy
    exact HRl.out.fr HF.out (fun _ _ h => h.elim)
  case hcs => simp only [List.map_cons, List.map_nil, Seg.v, HLN.out]
  case hL =>
    have g1 := HLN.out
    simp only [segsL, List.flatMap_cons, List.flatMap_nil, List.length_append, List.length_nil, g1]
    omega
  rintro e w1 ⟨v, rfl, ⟨g, rfl, hg, hbg⟩, hF3⟩
  have hsl : segsL [⟨A, c, l⟩] = l := by simp [segsL]
  rw [hsl] at hbg
  rw [hsl, HLN.out]
  have hgw : w.heap.size < g := Nat.lt_of_lt_of_le HB.out.lt hg
  have HF1 := Lib.hid (HF.out.same hF3)
  have HB1 := Lib.hid (HB.out.fr hF3 (fun h => h))
  have HG1 := Lib.hid hbg
  have d1 := HB1.out.cell 1
  have hlb := HB1.out.lt
  simp only [List.getElem?_cons_zero, List.getElem?_cons_succ] at d1
  clear hbg hF3 hsl hg
  go_wp2_with fail
  go_loopg [7] (t - f) (fun n s wx => ∃ i : Nat, n = t - i ∧ f ≤ i ∧ i ≤ t ∧ s = .int .i64 i ∧ Hid (Fr Nob w wx) ∧ Hid (Blk wx w.heap.size [.int .i64 2, .int .i64 f, .int .i64 t, .int .i64 gf, .int .i64 gt, .int .i64 ins, .slice B xn b, .int .i64 mk] 32) ∧ Hid (Blk wx g (tokC (markL 2 mk f i l)) 40))
  case atStart => exact ⟨f, rfl, Nat.le_refl _, hft, rfl, HF1.out, HB1.out, by show Blk _ _ _ _; rw [markL_start]; exact HG1.out⟩
  case round =>
    obtain ⟨i, rfl, hfi, hit, rfl, HF, HB, HG⟩ := hrel
    have d0 := HB.out.cell 0
    have d2 := HB.out.cell 2
    have d7 := HB.out.cell 7
    have hlb := HB.out.lt
    simp only [List.getElem?_cons_zero, List.getElem?_cons_succ] at d0 d2 d7
    by_cases hlt : i < t
    · have ht : ((i : Int) < (t : Int)) := by omega
      have hil : i < l.length := by have := HLN.out; omega
      have e0 := HG.out.cell (i * 4)
      have e3 := HG.out.cell (i * 4 + 3)
      have f3 := HG.out.frozen (i * 4 + 3)
      have hlg := HG.out.lt
      have q0 := tokC_get (markL 2 mk f i l) i 0 (by rw [markL_len]; exact hil) (by omega)
      have q3 := tokC_get (markL 2 mk f i l) i 3 (by rw [markL_len]; exact hil) (by omega)
      rw [Nat.add_zero] at q0
      rw [q0, markL_at _ _ _ _ _ hil] at e0
      rw [q3, markL_at _ _ _ _ _ hil] at e3
      have HS := Lib.hid (markL_set 2 mk f i l hfi hil)
      have HM := Lib.hid (markL_same 2 mk f i l hfi hil)
      have HAT := Lib.hid (markL_at 2 mk f i l hil)
      clear q0 q3
      generalize hx : l[i] = x at e0 e3 HS HM HAT
      simp only [Tok.cells, List.getElem?_cons_zero, List.getElem?_cons_succ] at e0 e3
      clear hx
      by_cases hk : x.k = 0
      · have hkb : (x.k == 0) = true := by simpa using hk
        go_wp2_with fail
        have HAD := Lib.hid (add_any x.m mk)
        go_region_with (go_at_call 112; refine (HAD.out _).mono ?_; rintro e w3 ⟨rfl, rfl⟩)
        all_goals
          have HF2 := Lib.hid (show Fr Nob w (wr.setCell ⟨g, i * 4 + 3, none⟩ (.int .i64 (addF x.m mk).1)).drew from (HF.out.setCell (p := ⟨g, i * 4 + 3, none⟩) (.inr (Nat.le_of_lt hgw)) _).drew)
          have HB2 := Lib.hid (show Blk (wr.setCell ⟨g, i * 4 + 3, none⟩ (.int .i64 (addF x.m mk).1)).drew w.heap.size [.int .i64 2, .int .i64 f, .int .i64 t, .int .i64 gf, .int .i64 gt, .int .i64 ins, .slice B xn b, .int .i64 mk] 32 from (HB.out.far (p := ⟨g, i * 4 + 3, none⟩) (Nat.ne_of_lt hgw) _).drew)
          have HG2 := Lib.hid (show Blk (wr.setCell ⟨g, i * 4 + 3, none⟩ (.int .i64 (addF x.m mk).1)).drew g (tokC (markL 2 mk f (i + 1) l)) 40 from by
            have h1 := (HG.out.set (i * 4 + 3) (.int .i64 (addF x.m mk).1)).drew
            have h2 := tokC_set (addF x.m mk).1 (markL 2 mk f i l) i (by rw [markL_len]; exact hil)
            rw [h2, HAT.out] at h1
            have h3 := HS.out
            rw [turnT, if_pos hk] at h3
            rw [← h3]
            exact h1)
          generalize (wr.setCell ⟨g, i * 4 + 3, none⟩ (.int .i64 (addF x.m mk).1)).drew = w4 at HF2 HB2 HG2 ⊢
          clear e0 e3 f3 d0 d2 d7 hlb hlg
          go_wp2_with fail
          go_roundg (t - (i + 1))
          case measure => omega
          case rel => exact ⟨i + 1, rfl, by omega, by omega, by first | rfl | go_num, HF2.out, HB2.out, HG2.out⟩
      · have hkb : (x.k == 0) = false := by simpa using hk
        go_wp2_with fail
        go_roundg (t - (i + 1))
        case measure => omega
        case rel => exact ⟨i + 1, rfl, by omega, by omega, by first | rfl | go_num, HF.out, HB.out, by show Blk _ _ _ _; rw [← HM.out hk]; exact HG.out⟩
    · have ht : ¬ ((i : Int) < (t : Int)) := by omega
      obtain rfl : i = t := by omega
      go_wp2_with fail
      go_ret
      exact ⟨.slice (some ⟨g, 0, none⟩) ln ln, rfl, ⟨g, by rw [markL_len, HLN.out], by omega, HG.out⟩, HF.out⟩
set_option maxRecDepth 100000 in
set_option maxHeartbeats 4000000 in
theorem stepdo_take (M : Nat → Prop) (f t : Nat) (gf gt ins mk : Int) (A B : Option Addr) (l : List Tok) (c xn b : Nat) (w : World) (hl : Rd M w A (tokC l)) (hc : l.length ≤ c) (hft : f ≤ t) (htl : t ≤ l.length) (hn : l.length ≤ 10000) :
    Calls Tryz.prog 77 #[.slice A l.length c, .agg #[.int .i64 3, .int .i64 f, .int .i64 t, .int .i64 gf, .int .i64 gt, .int .i64 ins, .slice B xn b, .int .i64 mk]] w fun e w' => ∃ v, e = .returned v ∧ NewDoc w w' v (markL 3 mk f t l) ∧ Fr Nob w w' := by
  obtain ⟨ln, hln⟩ : ∃ ln, l.length = ln := ⟨_, rfl⟩
  have HLN := Lib.hid hln
  have HRl := Lib.hid hl
  rw [hln] at hc htl hn ⊢
  clear hl hln
  go_enter Tryz.func77, Tryz.ntmps77
  go_upto_region 9 with (fail)
  obtain ⟨W, hW⟩ : ∃ W, w.alloc (.cells #[.int .i64 3, .int .i64 f, .int .i64 t, .int .i64 gf, .int .i64 gt, .int .i64 ins, .slice B xn b, .int .i64 mk] 32) = W := ⟨_, rfl⟩
  have HF := Lib.hid (show Fr Nob w W by rw [← hW]; exact (Fr.refl _ _).alloc _)
  have HB := Lib.hid (show Blk W w.heap.size [.int .i64 3, .int .i64 f, .int .i64 t, .int .i64 gf, .int .i64 gt, .int .i64 ins, .slice B xn b, .int .i64 mk] 32 by rw [← hW]; exact Blk.new _ _ _)
  rw [hW]
  clear hW
  go_wp2_with fail
  refine (tokens_new M [⟨A, c, l⟩] W W _ _ 1 (Fr.refl _ _) ?hd ?hcs rfl ?hL (by omega)).mono ?_
  case hd =>
    intro y hy
    simp only [List.mem_cons, List.not_mem_nil, or_false] at hy
    subst hy
    exact HRl.out.fr HF.out (fun _ _ h => h.elim)
  case hcs => simp only [List.map_cons, List.map_nil, Seg.v, HLN.out]
  case hL =>
    have g1 := HLN.out
    simp only [segsL, List.flatMap_cons, List.flatMap_nil, List.length_append, List.length_nil, g1]
    omega
  rintro e w1 ⟨v, rfl, ⟨g, rfl, hg, hbg⟩, hF3⟩
  have hsl : segsL [⟨A, c, l⟩] = l := by simp [segsL]
  rw [hsl] at hbg
  rw [hsl, HLN.out]
  have hgw : w.heap.size < g := Nat.lt_of_lt_of_le HB.out.lt hg
  have HF1 := Lib.hid (HF.out.same hF3)
  have HB1 := Lib.hid (HB.out.fr hF3 (fun h => h))
  have HG1 := Lib.hid hbg
  have d1 := HB1.out.cell 1
  have hlb := HB1.out.lt
  simp only [List.getElem?_cons_zero, List.getElem?_cons_succ] at d1
  clear hbg hF3 hsl hg
  go_wp2_with fail
  go_loopg [7] (t - f) (fun n s wx => ∃ i : Nat, n = t - i ∧ f ≤ i ∧ i ≤ t ∧ s = .int .i64 i ∧ Hid (Fr Nob w wx) ∧ Hid (Blk wx w.heap.size [.int .i64 3, .int .i64 f, .int .i64 t, .int .i64 gf, .int .i64 gt, .int .i64 ins, .slice B xn b, .int .i64 mk] 32) ∧ Hid (Blk wx g (tokC (markL 3 mk f i l)) 40))
  case atStart => exact ⟨f, rfl, Nat.le_refl _, hft, rfl, HF1.out, HB1.out, by show Blk _ _ _ _; rw [markL_start]; exact HG1.out⟩
  case round =>
    obtain ⟨i, rfl, hfi, hit, rfl, HF, HB, HG⟩ := hrel
    have d0 := HB.out.cell 0
    have d2 := HB.out.cell 2
    have d7 := HB.out.cell 7
    have hlb := HB.out.lt
    simp only [List.getElem?_cons_zero, List.getElem?_cons_succ] at d0 d2 d7
    by_cases hlt : i < t
    · have ht : ((i : Int) < (t : Int)) := by omega
      have hil : i < l.length := by have := HLN.out; omega
      have e0 := HG.out.cell (i * 4)
      have e3 := HG.out.cell (i * 4 + 3)
      have f3 := HG.out.frozen (i * 4 + 3)
      have hlg := HG.out.lt
      have q0 := tokC_get (markL 3 mk f i l) i 0 (by rw [markL_len]; exact hil) (by omega)
      have q3 := tokC_get (markL 3 mk f i l) i 3 (by rw [markL_len]; exact hil) (by omega)
      rw [Nat.add_zero] at q0
      rw [q0, markL_at _ _ _ _ _ hil] at e0
      rw [q3, markL_at _ _ _ _ _ hil] at e3
      have HS := Lib.hid (markL_set 3 mk f i l hfi hil)
      have HM := Lib.hid (markL_same 3 mk f i l hfi hil)
      have HAT := Lib.hid (markL_at 3 mk f i l hil)
      clear q0 q3
      generalize hx : l[i] = x at e0 e3 HS HM HAT
      simp only [Tok.cells, List.getElem?_cons_zero, List.getElem?_cons_succ] at e0 e3
      clear hx
      by_cases hk : x.k = 0
      · have hkb : (x.k == 0) = true := by simpa using hk
        go_wp2_with fail
        have HAD := Lib.hid (take_any x.m mk)
        go_region_with (go_at_call 113; refine (HAD.out _).mono ?_; rintro e w3 ⟨rfl, rfl⟩)
        all_goals
          have HF2 := Lib.hid (show Fr Nob w (wr.setCell ⟨g, i * 4 + 3, none⟩ (.int .i64 (takeF x.m mk).1)).drew from (HF.out.setCell (p := ⟨g, i * 4 + 3, none⟩) (.inr (Nat.le_of_lt hgw)) _).drew)
          have HB2 := Lib.hid (show Blk (wr.setCell ⟨g, i * 4 + 3, none⟩ (.int .i64 (takeF x.m mk).1)).drew w.heap.size [.int .i64 3, .int .i64 f, .int .i64 t, .int .i64 gf, .int .i64 gt, .int .i64 ins, .slice B xn b, .int .i64 mk] 32 from (HB.out.far (p := ⟨g, i * 4 + 3, none⟩) (Nat.ne_of_lt hgw) _).drew)
          have HG2 := Lib.hid (show Blk (wr.setCell ⟨g, i * 4 + 3, none⟩ (.int .i64 (takeF x.m mk).1)).drew g (tokC (markL 3 mk f (i + 1) l)) 40 from by
            have h1 := (HG.out.set (i * 4 + 3) (.int .i64 (takeF x.m mk).1)).drew
            have h2 := tokC_set (takeF x.m mk).1 (markL 3 mk f i l) i (by rw [markL_len]; exact hil)
            rw [h2, HAT.out] at h1
            have h3 := HS.out
            rw [turnT, if_pos hk] at h3
            rw [← h3]
            exact h1)
          generalize (wr.setCell ⟨g, i * 4 + 3, none⟩ (.int .i64 (takeF x.m mk).1)).drew = w4 at HF2 HB2 HG2 ⊢
          clear e0 e3 f3 d0 d2 d7 hlb hlg
          go_wp2_with fail
          go_roundg (t - (i + 1))
          case measure => omega
          case rel => exact ⟨i + 1, rfl, by omega, by omega, by first | rfl | go_num, HF2.out, HB2.out, HG2.out⟩
      · have hkb : (x.k == 0) = false := by simpa using hk
        go_wp2_with fail
        go_roundg (t - (i + 1))
        case measure => omega
        case rel => exact ⟨i + 1, rfl, by omega, by omega, by first | rfl | go_num, HF.out, HB.out, by show Blk _ _ _ _; rw [← HM.out hk]; exact HG.out⟩
    · have ht : ¬ ((i : Int) < (t : Int)) := by omega
      obtain rfl : i = t := by omega
      go_wp2_with fail
      go_ret
      exact ⟨.slice (some ⟨g, 0, none⟩) ln ln, rfl, ⟨g, by rw [markL_len, HLN.out], by omega, HG.out⟩, HF.out⟩
end Go.Proofs.YtldcffonfidbcaaGreatDoor
