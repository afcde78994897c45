/- A part of the proof for chapter 10: RefMaps; no conditions. -/
import Derived.Test.YtanbfplcldloeaaGreatDoorS23
import Derived.Test.YtanbfplcldloeaaGreatDoorS25
import Derived.BigQuiet
/- Chapter 8, the reference: maps, one behind the other; a place through all of them. -/
namespace Go.Proofs.YtanbfplcldloeaaGreatDoor
open Go.RowKit
theorem mpGo_big {ms : List OneM} {side a : Int} (h : 65536 < a) (f i : Nat) (g : Bool) : mpGo ms side (f + 1) i a g = (⟨0, false, 0, 0⟩, 1) := by
  rw [mpGo]
  cases hi : ms[i]? with
  | none => simp only; rw [if_pos h]
  | some x =>
    simp only
    rw [if_pos]
    rw [posmapF, if_pos (.inr h)]
    decide
theorem mpGo_plain {ms : List OneM} {side : Int} {f i : Nat} {a : Int} {g : Bool} (hi : i < ms.length) (hm : ms[i].mir = -1) :
    mpGo ms side (f + 1) i a g = if (posmapF ms[i].l a side).2 ≠ 0 then (⟨0, false, 0, 0⟩, 1) else mpGo ms side f (i + 1) (posmapF ms[i].l a side).1.a (g || (posmapF ms[i].l a side).1.g) := by
  rw [mpGo, List.getElem?_eq_getElem hi]
  simp only
  rw [hm]
  by_cases h : (posmapF ms[i].l a side).2 ≠ 0
  · rw [if_pos h, if_pos h]
  · rw [if_neg h, if_neg h, if_neg (by omega)]
theorem posmapF_err (xs : List Rng) (p side : Int) : (posmapF xs p side).2 = 0 ∨ (posmapF xs p side).2 = 1 := by
  unfold posmapF
  split
  · exact .inr rfl
  · exact .inl rfl
/-- The reference's maps: they are the ranges themselves, not rows of their own. -/
structure RMp (N : Nat → Prop) (base : Nat) (w : World) (m : Nat) (v : Value) (ms : List OneM) : Prop where
  blk : Blk w m [v] 31
  lo : base ≤ m
  own : w.ownsRow base 76 2 v ms.length (oneC ms)
  ne : v.ownBlock ≠ some m
  mine : ∀ k, MB m v k → N k
  rows : ∀ x ∈ ms, Rd N w x.A (rngC x.l)
  right : ∀ x ∈ ms, rightP x.l = true
  mirs : ∀ x ∈ ms, x.mir = -1
theorem RMp.fr {N M : Nat → Prop} {base m : Nat} {w w' : World} {v : Value} {ms : List OneM} (h : RMp N base w m v ms) (hf : Fr M w w') (hM : ∀ k, k < w.heap.size → M k → N k) (hm : ∀ k, MB m v k → ¬ M k) : RMp N base w' m v ms :=
  ⟨h.blk.fr hf (hm m (.inl rfl)), h.lo, own_fr h.own hf (fun k e => hm k (.inr e)), h.ne, h.mine, fun x hx => (h.rows x hx).fr hf hM, h.right, h.mirs⟩
theorem RMp.fr0 {N : Nat → Prop} {base m : Nat} {w w' : World} {v : Value} {ms : List OneM} (h : RMp N base w m v ms) (hf : Fr Nob w w') : RMp N base w' m v ms := h.fr hf (fun _ _ h => h.elim) (fun _ _ h => h)
set_option maxRecDepth 100000 in
set_option maxHeartbeats 8000000 in
theorem ref8maps_any (N : Nat → Prop) (base m : Nat) (v : Value) (ms : List OneM) (start p side : Int) (w : World) (hm : RMp N base w m v ms) (hn : ms.length ≤ 4096) :
    Calls Tryz.prog 33 #[.pointer (some ⟨m, 0, none⟩), .int .i64 start, .int .i64 p, .int .i64 side] w fun e w' => e = .returned (.tuple #[.agg (mapsF ms start p side).1.cells.toArray, .int .i64 (mapsF ms start p side).2]) ∧ Fr Nob w w' := by
  obtain ⟨R, hR⟩ : ∃ R, mapsF ms start p side = R := ⟨_, rfl⟩
  have HR := Lib.hid hR
  rw [hR]
  clear hR
  obtain ⟨VA, vc, rfl, hvc, hrv⟩ := Rd.of_own (M := Nob) hm.own (fun _ _ h => h)
  have HM := Lib.hid hm
  have HRV := Lib.hid hrv
  have HN := Lib.hid hn
  clear hm hrv hn hvc
  go_enter Tryz.func33, Tryz.ntmps33
  go_upto_region 1 with (fail)
  obtain ⟨W, hW⟩ : ∃ W, w.alloc (.cells #[.int .i64 0, .bool false, .int .i64 0, .int .i64 0] 80) = W := ⟨_, rfl⟩
  have HF1 := Lib.hid (show Fr Nob w W by rw [← hW]; exact (Fr.refl _ _).alloc _)
  have HB1 := Lib.hid (show Blk W w.heap.size [.int .i64 0, .bool false, .int .i64 0, .int .i64 0] 80 by rw [← hW]; exact Blk.new _ _ _)
  rw [hW]
  clear hW
  have HMW := Lib.hid (HM.out.fr0 HF1.out)
  have d0 := HMW.out.blk.cell 0
  have lm := HMW.out.blk.lt
  obtain ⟨c0, c1, c2, c3, f0, f1, f2, f3, l6⟩ := HB1.out.f4
  simp only [List.getElem?_cons_zero] at d0
  by_cases hbad : start < 0 ∨ (ms.length : Int) < start ∨ p < 0 ∨ 65536 < p
  · have HRR := Lib.hid (show (⟨0, false, 0, 0⟩, 1) = R by rw [← HR.out, mapsF, if_pos hbad])
    by_cases b1 : start < 0
    · go_wp2_with fail
      exact ret4 (v := .tuple #[.agg #[.int .i64 0, .bool false, .int .i64 0, .int .i64 0], .int .i64 1]) HB1.out HF1.out (Nat.le_refl _) rfl (fun WE p0 p1 p2 p3 => by simp [results, go_sem, p0, p1, p2, p3]) (fun WE hF => ⟨by rw [← HRR.out]; rfl, hF⟩)
    · by_cases b2 : (ms.length : Int) < start
      · go_wp2_with fail
        exact ret4 (v := .tuple #[.agg #[.int .i64 0, .bool false, .int .i64 0, .int .i64 0], .int .i64 1]) HB1.out HF1.out (Nat.le_refl _) rfl (fun WE p0 p1 p2 p3 => by simp [results, go_sem, p0, p1, p2, p3]) (fun WE hF => ⟨by rw [← HRR.out]; rfl, hF⟩)
      · by_cases b3 : p < 0
        · go_wp2_with fail
          exact ret4 (v := .tuple #[.agg #[.int .i64 0, .bool false, .int .i64 0, .int .i64 0], .int .i64 1]) HB1.out HF1.out (Nat.le_refl _) rfl (fun WE p0 p1 p2 p3 => by simp [results, go_sem, p0, p1, p2, p3]) (fun WE hF => ⟨by rw [← HRR.out]; rfl, hF⟩)
        · have b4 : 65536 < p := by omega
          go_wp2_with fail
          exact ret4 (v := .tuple #[.agg #[.int .i64 0, .bool false, .int .i64 0, .int .i64 0], .int .i64 1]) HB1.out HF1.out (Nat.le_refl _) rfl (fun WE p0 p1 p2 p3 => by simp [results, go_sem, p0, p1, p2, p3]) (fun WE hF => ⟨by rw [← HRR.out]; rfl, hF⟩)
  · have b1 : ¬ start < 0 := by omega
    have b2 : ¬ (ms.length : Int) < start := by omega
    have b3 : ¬ p < 0 := by omega
    have b4 : ¬ 65536 < p := by omega
    have HRR := Lib.hid (show mpGo ms side (ms.length - start.toNat + 1) start.toNat p false = R by rw [← HR.out, mapsF, if_neg hbad])
    obtain ⟨st, rfl⟩ := Int.eq_ofNat_of_zero_le (show 0 ≤ start by omega)
    have HST := Lib.hid (show st ≤ ms.length by omega)
    have HP := Lib.hid (show p ≤ 65536 by omega)
    clear hbad
    go_upto_region 3 with (fail)
    clear b1 b2 b3 b4 c0 c1 c2 c3 f0 f1 f2 f3 l6 d0 lm HMW
    try rename (0 : Int) ≤ (st : Int) => hq1
    try clear hq1
    go_wp2_with fail
    go_loopg [10, 11, 12] (ms.length + 1 - st) (fun n s10 s11 s12 wx => ∃ (fu i : Nat) (a : Int) (gg : Bool), n = ms.length + 1 - i ∧ i ≤ ms.length ∧ s10 = .bool gg ∧ s11 = .int .i64 a ∧ s12 = .int .i64 i ∧ Hid (Fr Nob w wx) ∧ Hid (Blk wx w.heap.size [.int .i64 0, .bool false, .int .i64 0, .int .i64 0] 80) ∧ Hid (ms.length - i + 1 ≤ fu) ∧ Hid (a ≤ 65536) ∧ Hid (mpGo ms side fu i a gg = R))
    case atStart => exact ⟨_, st, p, false, rfl, HST.out, rfl, rfl, rfl, HF1.out, HB1.out, by simp [Hid], HP.out, HRR.out⟩
    case round =>
      obtain ⟨fu, i, a, gg, rfl, hi, rfl, rfl, rfl, HF, HB, HFU, HA, HG⟩ := hrel
      have hfu := HFU.out
      obtain ⟨fu, rfl⟩ : ∃ k, fu = k + 1 := ⟨fu - 1, by omega⟩
      clear hfu
      have hn := HN.out
      have HMr := Lib.hid (HM.out.fr0 HF.out)
      have d0 := HMr.out.blk.cell 0
      have lm := HMr.out.blk.lt
      simp only [List.getElem?_cons_zero] at d0
      by_cases hlt : i < ms.length
      · have ht : ((i : Int) < (ms.length : Int)) := by omega
        have hx := List.getElem_mem hlt
        have HX := Lib.hid (HMr.out.rows _ hx)
        have HXR := Lib.hid (HMr.out.right _ hx)
        have hmr := HMr.out.mirs _ hx
        obtain ⟨ad, hA, _, hlb, q0, q⟩ := Rd.elt OneM.cells_len (by omega) (HRV.out.fr HF.out (fun _ _ h => h)) hlt
        subst hA
        have q1 := q 0 (by omega)
        have hgo := HG.out
        rw [mpGo_plain hlt hmr] at hgo
        obtain ⟨x, hxx⟩ : ∃ x, ms[i] = x := ⟨_, rfl⟩
        rw [hxx] at HX HXR q0 q1 hgo hmr
        simp only [OneM.cells, List.getElem?_cons_zero, List.getElem?_cons_succ, Nat.reduceAdd, hmr] at q0 q1
        clear q hx hxx hmr
        obtain ⟨⟨⟨sa, sg, si, so⟩, er⟩, hpm⟩ : ∃ r, posmapF x.l a side = r := ⟨_, rfl⟩
        have HPM := Lib.hid hpm
        have her := posmapF_err x.l a side
        rw [hpm] at hgo her
        simp only at hgo her
        have HGO := Lib.hid hgo
        clear hpm hgo HG
        go_wp2_with fail
        have h0 := ref8map_any N x.l x.A x.c a side wr HX.out HXR.out
        rw [HPM.out] at h0
        have h : Calls Tryz.prog 62 #[.slice x.A x.l.length x.c, .int .i64 a, .int .i64 side] wr fun e w' => e = .returned (.tuple #[.agg #[.int .i64 sa, .bool sg, .int .i64 si, .int .i64 so], .int .i64 er]) ∧ Fr Nob wr w' := h0
        clear h0
        refine h.mono ?_
        clear h
        rintro e w2 ⟨rfl, hF2⟩
        have HF2 := Lib.hid hF2
        have HRow := Lib.hid (show ∀ W' : World, Fr Nob wr W' → W'.cell? (ad.add (i * 2)) = some (.slice x.A x.l.length x.c) ∧ W'.cell? ⟨(ad.add (i * 2)).block, (ad.add (i * 2)).off + 1, none⟩ = some (.int .i64 (-1)) ∧ ad.block < W'.heap.size from fun W' hF' =>
          ⟨(hF'.cell (by rw [add_block]; exact hlb) (fun h => h)).trans q0, (hF'.cell (p := ⟨(ad.add (i * 2)).block, (ad.add (i * 2)).off + 1, none⟩) (by rw [add_block]; exact hlb) (fun h => h)).trans q1, Nat.lt_of_lt_of_le hlb hF'.size⟩)
        clear hF2 q0 q1 d0 lm hlb
        go_upto_region 9 with (fail)
        obtain ⟨T, hT⟩ : ∃ T, w2.heap.size = T := ⟨_, rfl⟩
        obtain ⟨w3, hw3⟩ : ∃ W, w2.alloc (.cells #[.int .i64 sa, .bool sg, .int .i64 si, .int .i64 so] 80) = W := ⟨_, rfl⟩
        have HF3 := Lib.hid (show Fr Nob wr w3 by rw [← hw3]; exact HF2.out.alloc _)
        have HT3 := Lib.hid (show Blk w3 T [.int .i64 sa, .bool sg, .int .i64 si, .int .i64 so] 80 by rw [← hw3, ← hT]; exact Blk.new _ _ _)
        rw [hw3, hT]
        clear hw3 hT HF2
        have HFw := Lib.hid (HF.out.same HF3.out)
        have HBw := Lib.hid (HB.out.fr HF3.out (fun h => h))
        by_cases he : er = 0
        · subst he
          have hgo := HGO.out
          rw [if_neg (by decide)] at hgo
          have HGN := Lib.hid hgo
          clear hgo HGO her
          obtain ⟨r0, r1, rl⟩ := HRow.out w3 HF3.out
          have d0 := (HMr.out.fr0 HF3.out).blk.cell 0
          have lm := (HMr.out.fr0 HF3.out).blk.lt
          have t0 := HT3.out.cell 0
          have t1 := HT3.out.cell 1
          have t2 := HT3.out.cell 2
          have t3 := HT3.out.cell 3
          have tl := HT3.out.lt
          simp only [List.getElem?_cons_zero, List.getElem?_cons_succ] at d0 t0 t1 t2 t3
          have hmi : ¬ ((i : Int) < -1) := by omega
          by_cases hsi : 0 ≤ si
          all_goals
            go_upto_region 12 with (fail)
            go_quiet (fail)
            cases gg
            all_goals
              go_upto_region 18 with (fail)
              by_cases hbig : 65536 < sa
              · have HRR := Lib.hid (show (⟨0, false, 0, 0⟩, 1) = R by
                  have h := HGN.out
                  have hfu := HFU.out
                  obtain ⟨f2, e2⟩ : ∃ k, fu = k + 1 := ⟨fu - 1, by omega⟩
                  rw [e2, mpGo_big hbig] at h
                  exact h)
                have HB1 := Lib.hid (HBw.out.drewN nq)
                have HFN := Lib.hid (HFw.out.drewN nq)
                clear r0 r1 rl d0 lm t0 t1 t2 t3 tl
                generalize w3.drewN nq = w4 at HB1 HFN ⊢
                obtain ⟨c0, c1, c2, c3, f0, f1, f2, f3, l6⟩ := HB1.out.f4
                go_wp2_with fail
                exact ret4 (v := .tuple #[.agg #[.int .i64 0, .bool false, .int .i64 0, .int .i64 0], .int .i64 1]) HB1.out HFN.out (Nat.le_refl _) rfl (fun WE p0 p1 p2 p3 => by simp [results, go_sem, p0, p1, p2, p3]) (fun WE hF => ⟨by rw [← HRR.out]; rfl, hF⟩)
              · have HS1 := Lib.hid (show ms.length - (i + 1) + 1 ≤ fu by have := HFU.out; omega)
                have HS2 := Lib.hid (show sa ≤ 65536 by omega)
                have HFN := Lib.hid (HFw.out.drewN nq)
                have HBN := Lib.hid (HBw.out.drewN nq)
                clear r0 r1 rl d0 lm t0 t1 t2 t3 tl
                generalize w3.drewN nq = w4 at HFN HBN ⊢
                go_wp2_with fail
                go_roundg (ms.length + 1 - (i + 1))
                case measure => omega
                case rel => exact ⟨fu, i + 1, sa, _, rfl, by omega, by first | rfl | (cases sg <;> rfl), rfl, by first | rfl | go_num, HFN.out, HBN.out, HS1.out, HS2.out, HGN.out⟩
        · have hgo := HGO.out
          rw [if_pos he] at hgo
          have HRR := Lib.hid hgo
          clear hgo HGO
          have he2 : (er != 0) = true := by simp [he]
          have HB1 := HBw
          have HFN := HFw
          obtain ⟨w4, hw4⟩ : ∃ W, w3 = W := ⟨_, rfl⟩
          rw [hw4] at HB1 HFN ⊢
          clear hw4
          obtain ⟨c0, c1, c2, c3, f0, f1, f2, f3, l6⟩ := HB1.out.f4
          go_wp2_with fail
          exact ret4 (v := .tuple #[.agg #[.int .i64 0, .bool false, .int .i64 0, .int .i64 0], .int .i64 1]) HB1.out HFN.out (Nat.le_refl _) rfl (fun WE p0 p1 p2 p3 => by simp [results, go_sem, p0, p1, p2, p3]) (fun WE hF => ⟨by rw [← HRR.out]; rfl, hF⟩)
      · have ht : ¬ ((i : Int) < (ms.length : Int)) := by omega
        obtain rfl : i = ms.length := by omega
        have hgo := HG.out
        rw [mpGo, List.getElem?_eq_none (Nat.le_refl _)] at hgo
        simp only at hgo
        have ha := HA.out
        rw [if_neg (by omega)] at hgo
        have HRR := Lib.hid hgo
        clear hgo ha
        have HB1 := HB
        have HFN := HF
        obtain ⟨c0, c1, c2, c3, f0, f1, f2, f3, l6⟩ := HB1.out.f4
        go_wp2_with fail
        exact ret4 (v := .tuple #[.agg #[.int .i64 a, .bool gg, .int .i64 (-1), .int .i64 0], .int .i64 0]) HB1.out HFN.out (Nat.le_refl _) rfl (fun WE p0 p1 p2 p3 => by simp [results, go_sem, p0, p1, p2, p3]) (fun WE hF => ⟨by rw [← HRR.out]; rfl, hF⟩)
end Go.Proofs.YtanbfplcldloeaaGreatDoor
