/- A part of the proof for chapter 10: HistSend; no conditions. -/
import Derived.Test.YtldcffonfidbcaaGreatDoorY31
import Derived.Test.YtldcffonfidbcaaGreatDoorY24
/- stack.send: a stack through a step. -/
namespace Go.Proofs.YtldcffonfidbcaaGreatDoor
open Go.RowKit
attribute [local go_sem high] cut_stackh
set_option maxRecDepth 100000 in
set_option maxHeartbeats 3000000 in
theorem send_any (N : Nat → Prop) (A : Option Addr) (c : Nat) (L : List StepA) (y : StepM) (C : Option Addr) (cc : Nat) (w : World) (hk : Stk N w A c L) (hy : Rd N w C (tokC y.l)) (hyc : y.l.length ≤ cc) (hn : L.length ≤ 1000) (hN : ∀ k, N k → k < w.heap.size) :
    Calls Tryz.prog 31 #[.slice A L.length c, .agg (y.cells (.slice C y.l.length cc)).toArray] w fun e w' => ∃ A' c', e = .returned (.tuple #[.slice A' (sendGo L.reverse y).1.length c', .int .i64 (sendGo L.reverse y).2]) ∧ Stk N w' A' c' (sendGo L.reverse y).1.reverse ∧ Fr Nob w w' := by
  have HK := Lib.hid hk
  have HY := Lib.hid hy
  have HYC := Lib.hid hyc
  have HNN := Lib.hid hN
  obtain ⟨ln, hln⟩ : ∃ n, L.length = n := ⟨_, rfl⟩
  have HLN := Lib.hid hln
  rw [hln] at hn ⊢
  obtain ⟨R, hR⟩ : ∃ R, sendGo L.reverse y = R := ⟨_, rfl⟩
  have HR := Lib.hid hR
  rw [hR]
  obtain ⟨yn, hyn⟩ : ∃ n, y.l.length = n := ⟨_, rfl⟩
  have HYN := Lib.hid hyn
  rw [hyn]
  have hcap := hk.cap
  rw [hln] at hcap
  clear hk hy hyc hN hln hR hyn
  obtain ⟨y0, hy0⟩ : ∃ y0, y = y0 := ⟨_, rfl⟩
  have HY0 := Lib.hid hy0
  obtain ⟨yk, yf, yt, ygf, ygt, yins, ym, yl⟩ := y
  simp only [StepM.cells]
  clear hy0
  obtain ⟨i0, hi, hz0, hz1, hz2⟩ := info_parts infoStep
  go_enter Tryz.func31, Tryz.ntmps31
  go_upto_region 1 with (fail)
  obtain ⟨W0, hW0⟩ : ∃ W, w.alloc (.cells #[.int .i64 yk, .int .i64 yf, .int .i64 yt, .int .i64 ygf, .int .i64 ygt, .int .i64 yins, .slice C yn cc, .int .i64 ym] 32) = W := ⟨_, rfl⟩
  have HF0 := Lib.hid (show Fr Nob w W0 by rw [← hW0]; exact (Fr.refl _ _).alloc _)
  have HB0 := Lib.hid (show Blk W0 w.heap.size [.int .i64 yk, .int .i64 yf, .int .i64 yt, .int .i64 ygf, .int .i64 ygt, .int .i64 yins, .slice C yn cc, .int .i64 ym] 32 by rw [← hW0]; exact Blk.new _ _ _)
  rw [hW0]
  clear hW0
  go_wp2_with fail
  go_loopg [7, 8, 9, 6] (ln) (fun n s7 s8 s9 s6 wr => ∃ (r acc : List StepA) (z : StepM) (ls : Nat) (on : Bool) (j : Int) (VA : Option Addr) (an vc : Nat) (cs : List Value), n = r.length ∧ s7 = .int .i64 j ∧ s8 = .int .i64 ls ∧ s9 = .bool on ∧ s6 = .slice VA an vc ∧ Hid (an = acc.length) ∧ Hid (j = (r.length : Int) - 1) ∧ Hid (∃ t, L = r.reverse ++ t) ∧ Hid (R = (acc ++ (if on = true then (sendGo r z).1 else r), ls + (if on = true then (sendGo r z).2 else 0))) ∧ Hid (wr.ownsRow (w.heap.size + 1) 32 8 (.slice VA an vc) an (stepC acc)) ∧ Hid (∀ x ∈ acc, Rd N w x.B (tokC x.s.l) ∧ x.s.l.length ≤ x.b) ∧ Hid (Blk wr w.heap.size cs 32 ∧ (on = true → cs = z.cells (.slice C yn cc) ∧ z.l = y0.l)) ∧ Hid (Fr Nob w wr) ∧ Hid (ls + acc.length + r.length = ln))
  case atStart =>
    refine ⟨L.reverse, [], y0, 0, true, (ln : Int) - 1, none, 0, 0, _, by rw [List.length_reverse, HLN.out], by first | rfl | go_num, rfl, rfl, rfl, rfl, by show (ln : Int) - 1 = _; rw [List.length_reverse, HLN.out], ⟨[], by simp⟩, ?_, World.ownsRow_nil _ _ _ _, fun _ h => (by cases h), ⟨HB0.out, fun _ => ⟨?_, rfl⟩⟩, HF0.out, ?_⟩
    · show R = ([] ++ (sendGo L.reverse y0).1, 0 + (sendGo L.reverse y0).2)
      rw [← HY0.out, HR.out]; simp
    · rw [← HY0.out]; rfl
    · show 0 + ([] : List StepA).length + L.reverse.length = ln
      rw [List.length_reverse, HLN.out]; simp
  case round =>
    obtain ⟨r, acc, z, ls, on, j, VA, an, vc, cs, rfl, rfl, rfl, rfl, rfl, HAN, HJ, HSP, HRR, HOW, HAC, HBZ, HFr, HCT⟩ := hrel
    obtain ⟨b, hb⟩ : ∃ b, (decide ((0 : Int) ≤ j) && on) = b := ⟨_, rfl⟩
    have HB := Lib.hid hb
    clear hb
    go_upto_region 4 with (fail)
    go_cut [21] from 17 to 49 (fun s21 wx => s21 = .bool b ∧ wx = wr)
    case first =>
      by_cases hj : (0 : Int) ≤ j
      · have hjb := decide_eq_true hj
        go_wp2_with fail
        go_meet
        refine ⟨?_, rfl⟩
        rw [← HB.out, hjb]
        rfl
      · have hjb := decide_eq_false hj
        go_wp2_with fail
        go_meet
        refine ⟨?_, rfl⟩
        rw [← HB.out, hjb]
        rfl
    case rest =>
      obtain ⟨rfl, hw⟩ := hcut
      have hw := hw.symm
      subst hw
      cases b with
      | true =>
        have hbb := HB.out
        rw [Bool.and_eq_true, decide_eq_true_eq] at hbb
        obtain ⟨hj0, rfl⟩ := hbb
        cases r with
        | nil =>
          have h1 := HJ.out
          simp at h1
          omega
        | cons x r =>
          obtain ⟨jn, hjn⟩ : ∃ n, r.length = n := ⟨_, rfl⟩
          have HJN := Lib.hid hjn
          obtain rfl : j = (jn : Int) := by rw [HJ.out, List.length_cons, hjn]; omega
          clear hjn HJ HB
          obtain ⟨tt, ht⟩ := HSP.out
          have hlt : jn < L.length := by rw [ht, List.length_append, List.length_reverse, List.length_cons, HJN.out]; omega
          have hget : L[jn]? = some x := by
            rw [ht, List.reverse_cons, List.append_assoc, List.getElem?_append_right (by rw [List.length_reverse, HJN.out]; exact Nat.le_refl _), List.length_reverse, HJN.out]
            simp
          have hxL : L[jn] = x := by rw [List.getElem?_eq_getElem hlt] at hget; exact Option.some.inj hget
          have hrow := (HK.out.fr0 HFr.out).rows
          obtain ⟨ad, rfl, hnb, hbl, c0, cj⟩ := Rd.elt StepA.cells_len (by omega) hrow.row hlt
          rw [hxL] at c0 cj
          have hxm : x ∈ L := by rw [ht]; simp
          have HXR := Lib.hid (hrow.each x hxm)
          have HXC := Lib.hid (hrow.cap x hxm)
          have HXW := Lib.hid (HK.out.rows.each x hxm)
          have HSP2 := Lib.hid (show L = r.reverse ++ (x :: tt) by rw [ht]; simp)
          have hjl : (jn : Int) < (ln : Int) := by have := HLN.out; omega
          have c1 := cj 0 (by omega)
          have c2 := cj 1 (by omega)
          have c3 := cj 2 (by omega)
          have c4 := cj 3 (by omega)
          have c5 := cj 4 (by omega)
          have c6 := cj 5 (by omega)
          have c7 := cj 6 (by omega)
          obtain ⟨xn, hxn⟩ : ∃ n, x.s.l.length = n := ⟨_, rfl⟩
          have HXN := Lib.hid hxn
          simp only [StepA.cells, StepM.cells, List.getElem?_cons_zero, List.getElem?_cons_succ, Nat.reduceAdd, hxn] at c0 c1 c2 c3 c4 c5 c6 c7
          obtain ⟨hbz, hcs⟩ := HBZ.out
          obtain ⟨hcs1, hzl⟩ := hcs rfl
          rw [hcs1] at hbz
          simp only [StepM.cells] at hbz
          have HBZ1 := Lib.hid hbz
          have HZL := Lib.hid hzl
          have hzn : z.l.length = yn := by rw [hzl, ← HY0.out]; exact HYN.out
          have hcr : Rd N wr C (tokC z.l) := by rw [hzl, ← HY0.out]; exact HY.out.fr HFr.out (fun _ _ h => h.elim)
          have HS1 := Lib.hid (fun (W : World) (h : Fr Nob wr W) => sent_any N N x.s z x.B C x.b cc W (HXR.out.fr h (fun _ _ h => h.elim)) (hcr.fr h (fun _ _ h => h.elim)))
          have HS2 := Lib.hid (fun (W : World) (h : Fr Nob wr W) => sent_any N N z x.s C x.B cc x.b W (hcr.fr h (fun _ _ h => h.elim)) (HXR.out.fr h (fun _ _ h => h.elim)))
          obtain ⟨O1, hO1⟩ : ∃ O, sentF x.s z = O := ⟨_, rfl⟩
          obtain ⟨O2, hO2⟩ : ∃ O, sentF z x.s = O := ⟨_, rfl⟩
          have HG0 := Lib.hid (show O1 = none → sendGo (x :: r) z = ((sendGo r z).1, (sendGo r z).2 + 1) from fun h => by conv => lhs; unfold sendGo; rw [hO1, h])
          have HG1 := Lib.hid (show ∀ s' y', O1 = some s' → O2 = some y' → sendGo (x :: r) z = (⟨s', x.B, x.b⟩ :: (sendGo r y').1, (sendGo r y').2) from fun s' y' h h' => by conv => lhs; unfold sendGo; rw [hO1, h, hO2, h'])
          have HG2 := Lib.hid (show ∀ s', O1 = some s' → O2 = none → sendGo (x :: r) z = (⟨s', x.B, x.b⟩ :: r, 0) from fun s' h h' => by conv => lhs; unfold sendGo; rw [hO1, h, hO2, h'])
          have HL1 := Lib.hid (show ∀ s', O1 = some s' → s'.l = x.s.l from fun s' h => thru_l (hO1.trans h))
          have HL2 := Lib.hid (show ∀ s', O2 = some s' → s'.l = z.l from fun s' h => thru_l (hO2.trans h))
          obtain ⟨bo, hbo⟩ : ∃ b, O1.isSome = b := ⟨_, rfl⟩
          obtain ⟨bo2, hbo2⟩ : ∃ b, O2.isSome = b := ⟨_, rfl⟩
          simp only [hO1, hxn, hzn, StepM.cells, hbo] at HS1
          simp only [hO2, hxn, hzn, StepM.cells, hbo2] at HS2
          have HBO := Lib.hid hbo
          have HBO2 := Lib.hid hbo2
          have KS := Lib.hid (show ∀ W' : World, Fr Nob wr W' → (W'.cell? ⟨w.heap.size, 0, none⟩ = some (.int .i64 z.k) ∧ W'.cell? ⟨w.heap.size, 1, none⟩ = some (.int .i64 z.f) ∧ W'.cell? ⟨w.heap.size, 2, none⟩ = some (.int .i64 z.t) ∧ W'.cell? ⟨w.heap.size, 3, none⟩ = some (.int .i64 z.gf) ∧ W'.cell? ⟨w.heap.size, 4, none⟩ = some (.int .i64 z.gt) ∧ W'.cell? ⟨w.heap.size, 5, none⟩ = some (.int .i64 z.ins) ∧ W'.cell? ⟨w.heap.size, 6, none⟩ = some (.slice C yn cc) ∧ W'.cell? ⟨w.heap.size, 7, none⟩ = some (.int .i64 z.m) ∧ W'.cell? (ad.add (jn * 8)) = some (.int .i64 x.s.k) ∧ W'.cell? ⟨(ad.add (jn * 8)).block, (ad.add (jn * 8)).off + 1, none⟩ = some (.int .i64 x.s.f) ∧ W'.cell? ⟨(ad.add (jn * 8)).block, (ad.add (jn * 8)).off + 2, none⟩ = some (.int .i64 x.s.t) ∧ W'.cell? ⟨(ad.add (jn * 8)).block, (ad.add (jn * 8)).off + 3, none⟩ = some (.int .i64 x.s.gf) ∧ W'.cell? ⟨(ad.add (jn * 8)).block, (ad.add (jn * 8)).off + 4, none⟩ = some (.int .i64 x.s.gt) ∧ W'.cell? ⟨(ad.add (jn * 8)).block, (ad.add (jn * 8)).off + 5, none⟩ = some (.int .i64 x.s.ins) ∧ W'.cell? ⟨(ad.add (jn * 8)).block, (ad.add (jn * 8)).off + 6, none⟩ = some (.slice x.B xn x.b) ∧ W'.cell? ⟨(ad.add (jn * 8)).block, (ad.add (jn * 8)).off + 7, none⟩ = some (.int .i64 x.s.m)) from fun W' hF' => by
            have h := HBZ1.out.fr hF' (fun h => h)
            have hx : ∀ (j : Nat) v, wr.cell? ⟨(ad.add (jn * 8)).block, (ad.add (jn * 8)).off + j, none⟩ = some v → W'.cell? ⟨(ad.add (jn * 8)).block, (ad.add (jn * 8)).off + j, none⟩ = some v := fun j v h => (hF'.cell (by show (ad.add (jn * 8)).block < _; rw [add_block]; exact hbl) (fun h => h)).trans h
            exact ⟨h.cell 0, h.cell 1, h.cell 2, h.cell 3, h.cell 4, h.cell 5, h.cell 6, h.cell 7, (hF'.cell (by rw [add_block]; exact hbl) (fun h => h)).trans c0, hx _ _ c1, hx _ _ c2, hx _ _ c3, hx _ _ c4, hx _ _ c5, hx _ _ c6, hx _ _ c7⟩)
          clear hO1 hO2 hbo hbo2 hxn hzn hcr hbz hcs hcs1 hzl c0 c1 c2 c3 c4 c5 c6 c7 cj hnb hrow hxm hxL hget hlt ht HSP HBZ
          go_upto_region 6 with (fail)
          go_cut [10, 11] from 17 to 49 (fun s10 s11 wx => ∃ T, s10 = .pointer (some ⟨T, 0, none⟩) ∧ s11 = .bool bo ∧ Hid (Fr Nob wr wx) ∧ Hid (∀ s', O1 = some s' → Blk wx T (s'.cells (.slice x.B xn x.b)) 32) ∧ Hid (wr.heap.size ≤ T))
          case first =>
            refine wp_region_held_drew (S := fun W' : World => W'.cell? ⟨w.heap.size, 0, none⟩ = some (.int .i64 z.k) ∧ W'.cell? ⟨w.heap.size, 1, none⟩ = some (.int .i64 z.f) ∧ W'.cell? ⟨w.heap.size, 2, none⟩ = some (.int .i64 z.t) ∧ W'.cell? ⟨w.heap.size, 3, none⟩ = some (.int .i64 z.gf) ∧ W'.cell? ⟨w.heap.size, 4, none⟩ = some (.int .i64 z.gt) ∧ W'.cell? ⟨w.heap.size, 5, none⟩ = some (.int .i64 z.ins) ∧ W'.cell? ⟨w.heap.size, 6, none⟩ = some (.slice C yn cc) ∧ W'.cell? ⟨w.heap.size, 7, none⟩ = some (.int .i64 z.m) ∧ W'.cell? (ad.add (jn * 8)) = some (.int .i64 x.s.k) ∧ W'.cell? ⟨(ad.add (jn * 8)).block, (ad.add (jn * 8)).off + 1, none⟩ = some (.int .i64 x.s.f) ∧ W'.cell? ⟨(ad.add (jn * 8)).block, (ad.add (jn * 8)).off + 2, none⟩ = some (.int .i64 x.s.t) ∧ W'.cell? ⟨(ad.add (jn * 8)).block, (ad.add (jn * 8)).off + 3, none⟩ = some (.int .i64 x.s.gf) ∧ W'.cell? ⟨(ad.add (jn * 8)).block, (ad.add (jn * 8)).off + 4, none⟩ = some (.int .i64 x.s.gt) ∧ W'.cell? ⟨(ad.add (jn * 8)).block, (ad.add (jn * 8)).off + 5, none⟩ = some (.int .i64 x.s.ins) ∧ W'.cell? ⟨(ad.add (jn * 8)).block, (ad.add (jn * 8)).off + 6, none⟩ = some (.slice x.B xn x.b) ∧ W'.cell? ⟨(ad.add (jn * 8)).block, (ad.add (jn * 8)).off + 7, none⟩ = some (.int .i64 x.s.m)) (by kernel_rfl) (KS.out _ (Fr.refl _ _).drew) (fun _ => ?_)
            have HFD := Lib.hid ((Fr.refl Nob wr).drew)
            generalize wr.drew = wd at HFD ⊢
            have HSD := Lib.hid (KS.out wd HFD.out)
            refine take_by (i := 0) (v := .slice (some ad) ln c) rfl HSD.out ?_
            refine take_by (i := 1) (v := .int .i64 (jn : Int)) rfl HSD.out ?_
            refine take_by (i := 4) (v := .agg #[.int .i64 z.k, .int .i64 z.f, .int .i64 z.t, .int .i64 z.gf, .int .i64 z.gt, .int .i64 z.ins, .slice C yn cc, .int .i64 z.m]) rfl HSD.out ?_
            refine take_by (i := 2) (v := .pointer (some (ad.add (jn * 8)))) rfl HSD.out ?_
            refine take_by (i := 3) (v := .agg #[.int .i64 x.s.k, .int .i64 x.s.f, .int .i64 x.s.t, .int .i64 x.s.gf, .int .i64 x.s.gt, .int .i64 x.s.ins, .slice x.B xn x.b, .int .i64 x.s.m]) rfl HSD.out ?_
            refine ready2 5 9 rfl rfl (fun K hK => ?_) (fun K hK => ?_)
            · go_simp
              refine (HS1.out wd (HFD.out)).mono ?_
              rintro e w3 ⟨rfl, hF3⟩
              have HF23 := Lib.hid hF3
              have HF3 := Lib.hid (HFD.out.same hF3)
              clear hF3
              obtain ⟨rk, rf, rt, rgf, rgt, rins, RA, rn9, rc, rm, hrs⟩ : ∃ rk rf rt rgf rgt rins RA rn9 rc rm, sentV O1 (.slice x.B xn x.b) = .agg #[.int .i64 rk, .int .i64 rf, .int .i64 rt, .int .i64 rgf, .int .i64 rgt, .int .i64 rins, .slice RA rn9 rc, .int .i64 rm] := by
                cases O1 with
                | none => exact ⟨0, 0, 0, 0, 0, 0, none, 0, 0, 0, rfl⟩
                | some x => exact ⟨_, _, _, _, _, _, _, _, _, _, rfl⟩
              rw [hrs]
              have HRS := Lib.hid hrs
              clear hrs
              go_wp2_with fail
              refine hK.out _ _ (KS.out _ HF3.out) (fun _ => ?_)
              clear hK K
              refine take_by (i := 6) (v := .tuple #[.agg #[.int .i64 rk, .int .i64 rf, .int .i64 rt, .int .i64 rgf, .int .i64 rgt, .int .i64 rins, .slice RA rn9 rc, .int .i64 rm], .bool bo]) rfl (KS.out _ HF3.out) ?_
              refine take_by (i := 7) (v := .agg #[.int .i64 rk, .int .i64 rf, .int .i64 rt, .int .i64 rgf, .int .i64 rgt, .int .i64 rins, .slice RA rn9 rc, .int .i64 rm]) rfl (KS.out _ HF3.out) ?_
              refine take_by (i := 8) (v := .bool bo) rfl (KS.out _ HF3.out) ?_
              refine ready1 9 rfl (fun K hK => ?_)
              go_simp
              obtain ⟨r0, hr⟩ : ∃ r, w3.heap.size = r := ⟨_, rfl⟩
              obtain ⟨wa, hW4⟩ : ∃ W, w3.alloc (.cells #[.int .i64 0, .int .i64 0, .int .i64 0, .int .i64 0, .int .i64 0, .int .i64 0, .slice none 0 0, .int .i64 0] 32) = W := ⟨_, rfl⟩
              have HFA := Lib.hid (show Fr Nob wr wa by rw [← hW4]; exact HF3.out.alloc _)
              have HBN := Lib.hid (show Blk wa r0 [.int .i64 0, .int .i64 0, .int .i64 0, .int .i64 0, .int .i64 0, .int .i64 0, .slice none 0 0, .int .i64 0] 32 by rw [← hW4, ← hr]; exact Blk.new _ _ _)
              have HRW := Lib.hid (show wr.heap.size ≤ r0 by rw [← hr]; exact HF3.out.size)
              rw [hW4, hr]
              clear hW4 hr
              refine hK.out _ _ (KS.out _ HFA.out) (fun _ => ?_)
              clear hK K
              refine ready1 10 rfl (fun K hK => ?_)
              obtain ⟨z0, z1, z2, z3, z4, z5, z6, z7⟩ := HBN.out.z8
              obtain ⟨b0, b1, b2, b3, b4, b5, b6, b7, zl⟩ := HBN.out.c8
              go_simp
              obtain ⟨hb5, hf5⟩ := storeB8 HBN.out (.int .i64 rk) (.int .i64 rf) (.int .i64 rt) (.int .i64 rgf) (.int .i64 rgt) (.int .i64 rins) (.slice RA rn9 rc) (.int .i64 rm)
              obtain ⟨w5, hw5⟩ : ∃ W, ((((((((wa.setCell ⟨r0, 0, none⟩ (.int .i64 rk)).setCell ⟨r0, 1, none⟩ (.int .i64 rf)).setCell ⟨r0, 2, none⟩ (.int .i64 rt)).setCell ⟨r0, 3, none⟩ (.int .i64 rgf)).setCell ⟨r0, 4, none⟩ (.int .i64 rgt)).setCell ⟨r0, 5, none⟩ (.int .i64 rins)).setCell ⟨r0, 6, none⟩ (.slice RA rn9 rc)).setCell ⟨r0, 7, none⟩ (.int .i64 rm)) = W := ⟨_, rfl⟩
              simp only [hw5] at hb5 hf5 ⊢
              have HF5 := Lib.hid (HFA.out.trans hf5 (fun k hk e => by have e' : k = r0 := e; have := HRW.out; omega))
              have HB5 := Lib.hid hb5
              clear hw5 hb5 hf5 z0 z1 z2 z3 z4 z5 z6 z7 b0 b1 b2 b3 b4 b5 b6 b7 zl
              refine hK.out _ _ (KS.out _ HF5.out) (fun _ => ?_)
              clear hK K
              refine take_by (i := 11) (v := .bool bo) rfl (KS.out _ HF5.out) ?_
              refine done_by ?_
              go_wp2_with fail
              go_meet
              refine ⟨r0, rfl, rfl, HF5.out, Lib.hid (fun s' hs' => ?_), HRW.out⟩
              have h := HRS.out
              rw [hs'] at h
              have h2 : s'.cells (.slice x.B xn x.b) = [.int .i64 rk, .int .i64 rf, .int .i64 rt, .int .i64 rgf, .int .i64 rgt, .int .i64 rins, .slice RA rn9 rc, .int .i64 rm] := by
                have h3 : (Value.agg (s'.cells (.slice x.B xn x.b)).toArray) = .agg #[.int .i64 rk, .int .i64 rf, .int .i64 rt, .int .i64 rgf, .int .i64 rgt, .int .i64 rins, .slice RA rn9 rc, .int .i64 rm] := h
                injection h3 with h3
                simpa using congrArg Array.toList h3
              rw [h2]
              exact HB5.out
            · go_simp
              obtain ⟨r0, hr⟩ : ∃ r, wd.heap.size = r := ⟨_, rfl⟩
              obtain ⟨wa, hW4⟩ : ∃ W, wd.alloc (.cells #[.int .i64 0, .int .i64 0, .int .i64 0, .int .i64 0, .int .i64 0, .int .i64 0, .slice none 0 0, .int .i64 0] 32) = W := ⟨_, rfl⟩
              have HFA := Lib.hid (show Fr Nob wr wa by rw [← hW4]; exact HFD.out.alloc _)
              have HBN := Lib.hid (show Blk wa r0 [.int .i64 0, .int .i64 0, .int .i64 0, .int .i64 0, .int .i64 0, .int .i64 0, .slice none 0 0, .int .i64 0] 32 by rw [← hW4, ← hr]; exact Blk.new _ _ _)
              have HRW := Lib.hid (show wr.heap.size ≤ r0 by rw [← hr]; exact HFD.out.size)
              rw [hW4, hr]
              clear hW4 hr
              refine hK.out _ _ (KS.out _ HFA.out) (fun _ => ?_)
              clear hK K
              refine ready1 5 rfl (fun K hK => ?_)
              go_simp
              refine (HS1.out wa (HFA.out)).mono ?_
              rintro e w3 ⟨rfl, hF3⟩
              have HF23 := Lib.hid hF3
              have HF3 := Lib.hid (HFA.out.same hF3)
              clear hF3
              obtain ⟨rk, rf, rt, rgf, rgt, rins, RA, rn9, rc, rm, hrs⟩ : ∃ rk rf rt rgf rgt rins RA rn9 rc rm, sentV O1 (.slice x.B xn x.b) = .agg #[.int .i64 rk, .int .i64 rf, .int .i64 rt, .int .i64 rgf, .int .i64 rgt, .int .i64 rins, .slice RA rn9 rc, .int .i64 rm] := by
                cases O1 with
                | none => exact ⟨0, 0, 0, 0, 0, 0, none, 0, 0, 0, rfl⟩
                | some x => exact ⟨_, _, _, _, _, _, _, _, _, _, rfl⟩
              rw [hrs]
              have HRS := Lib.hid hrs
              clear hrs
              go_wp2_with fail
              have HBN3 := Lib.hid (HBN.out.fr HF23.out (fun h => h))
              refine hK.out _ _ (KS.out _ HF3.out) (fun _ => ?_)
              clear hK K
              refine take_by (i := 6) (v := .tuple #[.agg #[.int .i64 rk, .int .i64 rf, .int .i64 rt, .int .i64 rgf, .int .i64 rgt, .int .i64 rins, .slice RA rn9 rc, .int .i64 rm], .bool bo]) rfl (KS.out _ HF3.out) ?_
              refine take_by (i := 7) (v := .agg #[.int .i64 rk, .int .i64 rf, .int .i64 rt, .int .i64 rgf, .int .i64 rgt, .int .i64 rins, .slice RA rn9 rc, .int .i64 rm]) rfl (KS.out _ HF3.out) ?_
              refine take_by (i := 8) (v := .bool bo) rfl (KS.out _ HF3.out) ?_
              refine ready1 10 rfl (fun K hK => ?_)
              obtain ⟨z0, z1, z2, z3, z4, z5, z6, z7⟩ := HBN3.out.z8
              obtain ⟨b0, b1, b2, b3, b4, b5, b6, b7, zl⟩ := HBN3.out.c8
              go_simp
              obtain ⟨hb5, hf5⟩ := storeB8 HBN3.out (.int .i64 rk) (.int .i64 rf) (.int .i64 rt) (.int .i64 rgf) (.int .i64 rgt) (.int .i64 rins) (.slice RA rn9 rc) (.int .i64 rm)
              obtain ⟨w5, hw5⟩ : ∃ W, ((((((((w3.setCell ⟨r0, 0, none⟩ (.int .i64 rk)).setCell ⟨r0, 1, none⟩ (.int .i64 rf)).setCell ⟨r0, 2, none⟩ (.int .i64 rt)).setCell ⟨r0, 3, none⟩ (.int .i64 rgf)).setCell ⟨r0, 4, none⟩ (.int .i64 rgt)).setCell ⟨r0, 5, none⟩ (.int .i64 rins)).setCell ⟨r0, 6, none⟩ (.slice RA rn9 rc)).setCell ⟨r0, 7, none⟩ (.int .i64 rm)) = W := ⟨_, rfl⟩
              simp only [hw5] at hb5 hf5 ⊢
              have HF5 := Lib.hid (HF3.out.trans hf5 (fun k hk e => by have e' : k = r0 := e; have := HRW.out; omega))
              have HB5 := Lib.hid hb5
              clear hw5 hb5 hf5 z0 z1 z2 z3 z4 z5 z6 z7 b0 b1 b2 b3 b4 b5 b6 b7 zl
              refine hK.out _ _ (KS.out _ HF5.out) (fun _ => ?_)
              clear hK K
              refine take_by (i := 11) (v := .bool bo) rfl (KS.out _ HF5.out) ?_
              refine done_by ?_
              go_wp2_with fail
              go_meet
              refine ⟨r0, rfl, rfl, HF5.out, Lib.hid (fun s' hs' => ?_), HRW.out⟩
              have h := HRS.out
              rw [hs'] at h
              have h2 : s'.cells (.slice x.B xn x.b) = [.int .i64 rk, .int .i64 rf, .int .i64 rt, .int .i64 rgf, .int .i64 rgt, .int .i64 rins, .slice RA rn9 rc, .int .i64 rm] := by
                have h3 : (Value.agg (s'.cells (.slice x.B xn x.b)).toArray) = .agg #[.int .i64 rk, .int .i64 rf, .int .i64 rt, .int .i64 rgf, .int .i64 rgt, .int .i64 rins, .slice RA rn9 rc, .int .i64 rm] := h
                injection h3 with h3
                simpa using congrArg Array.toList h3
              rw [h2]
              exact HB5.out
          case rest =>
            obtain ⟨T, rfl, rfl, HFx, HBT, HTL⟩ := hcut
            have HFw := Lib.hid (HFr.out.same HFx.out)
            have HZX := Lib.hid (HBZ1.out.fr HFx.out (fun h => h))
            have hls : ls ≤ 1000 := by have h := HCT.out; omega
            cases hO : O1 with
            | none =>
              obtain rfl : bo = false := by rw [← HBO.out, hO]; rfl
              have HRN := Lib.hid (HG0.out hO)
              go_wp2_with fail
              go_roundg (r.length)
              case measure => simp
              case rel =>
                refine ⟨r, acc, z, ls + 1, true, (jn : Int) - 1, VA, an, vc, _, rfl, by first | rfl | go_num, by first | rfl | go_num, rfl, rfl, HAN.out, by show (jn : Int) - 1 = (r.length : Int) - 1; rw [HJN.out], ⟨x :: tt, HSP2.out⟩, ?_, own_fr HOW.out HFx.out (fun _ _ h => h), HAC.out, ⟨HZX.out, fun _ => ⟨rfl, HZL.out⟩⟩, HFw.out, by have h := HCT.out; show ls + 1 + acc.length + r.length = ln; rw [List.length_cons] at h; omega⟩
                have h := HRR.out
                simp only [if_true, HRN.out] at h
                show R = (acc ++ (if true = true then (sendGo r z).1 else r), ls + 1 + (if true = true then (sendGo r z).2 else 0))
                simp only [if_true]
                rw [h, show ls + ((sendGo r z).2 + 1) = ls + 1 + (sendGo r z).2 by omega]
            | some s' =>
              obtain rfl : bo = true := by rw [← HBO.out, hO]; rfl
              have HBT2 := Lib.hid (HBT.out s' hO)
              have HSL := Lib.hid (HL1.out s' hO)
              have KS2 := Lib.hid (show ∀ W' : World, Fr Nob wc W' → (W'.cell? ⟨w.heap.size, 0, none⟩ = some (.int .i64 z.k) ∧ W'.cell? ⟨w.heap.size, 1, none⟩ = some (.int .i64 z.f) ∧ W'.cell? ⟨w.heap.size, 2, none⟩ = some (.int .i64 z.t) ∧ W'.cell? ⟨w.heap.size, 3, none⟩ = some (.int .i64 z.gf) ∧ W'.cell? ⟨w.heap.size, 4, none⟩ = some (.int .i64 z.gt) ∧ W'.cell? ⟨w.heap.size, 5, none⟩ = some (.int .i64 z.ins) ∧ W'.cell? ⟨w.heap.size, 6, none⟩ = some (.slice C yn cc) ∧ W'.cell? ⟨w.heap.size, 7, none⟩ = some (.int .i64 z.m) ∧ W'.cell? (ad.add (jn * 8)) = some (.int .i64 x.s.k) ∧ W'.cell? ⟨(ad.add (jn * 8)).block, (ad.add (jn * 8)).off + 1, none⟩ = some (.int .i64 x.s.f) ∧ W'.cell? ⟨(ad.add (jn * 8)).block, (ad.add (jn * 8)).off + 2, none⟩ = some (.int .i64 x.s.t) ∧ W'.cell? ⟨(ad.add (jn * 8)).block, (ad.add (jn * 8)).off + 3, none⟩ = some (.int .i64 x.s.gf) ∧ W'.cell? ⟨(ad.add (jn * 8)).block, (ad.add (jn * 8)).off + 4, none⟩ = some (.int .i64 x.s.gt) ∧ W'.cell? ⟨(ad.add (jn * 8)).block, (ad.add (jn * 8)).off + 5, none⟩ = some (.int .i64 x.s.ins) ∧ W'.cell? ⟨(ad.add (jn * 8)).block, (ad.add (jn * 8)).off + 6, none⟩ = some (.slice x.B xn x.b) ∧ W'.cell? ⟨(ad.add (jn * 8)).block, (ad.add (jn * 8)).off + 7, none⟩ = some (.int .i64 x.s.m)) from fun W' hF' => KS.out W' (HFx.out.same hF'))
              go_upto_region 9 with (fail)
              refine wp_region_G 9 (S := fun W' : World => W'.cell? ⟨w.heap.size, 0, none⟩ = some (.int .i64 z.k) ∧ W'.cell? ⟨w.heap.size, 1, none⟩ = some (.int .i64 z.f) ∧ W'.cell? ⟨w.heap.size, 2, none⟩ = some (.int .i64 z.t) ∧ W'.cell? ⟨w.heap.size, 3, none⟩ = some (.int .i64 z.gf) ∧ W'.cell? ⟨w.heap.size, 4, none⟩ = some (.int .i64 z.gt) ∧ W'.cell? ⟨w.heap.size, 5, none⟩ = some (.int .i64 z.ins) ∧ W'.cell? ⟨w.heap.size, 6, none⟩ = some (.slice C yn cc) ∧ W'.cell? ⟨w.heap.size, 7, none⟩ = some (.int .i64 z.m) ∧ W'.cell? (ad.add (jn * 8)) = some (.int .i64 x.s.k) ∧ W'.cell? ⟨(ad.add (jn * 8)).block, (ad.add (jn * 8)).off + 1, none⟩ = some (.int .i64 x.s.f) ∧ W'.cell? ⟨(ad.add (jn * 8)).block, (ad.add (jn * 8)).off + 2, none⟩ = some (.int .i64 x.s.t) ∧ W'.cell? ⟨(ad.add (jn * 8)).block, (ad.add (jn * 8)).off + 3, none⟩ = some (.int .i64 x.s.gf) ∧ W'.cell? ⟨(ad.add (jn * 8)).block, (ad.add (jn * 8)).off + 4, none⟩ = some (.int .i64 x.s.gt) ∧ W'.cell? ⟨(ad.add (jn * 8)).block, (ad.add (jn * 8)).off + 5, none⟩ = some (.int .i64 x.s.ins) ∧ W'.cell? ⟨(ad.add (jn * 8)).block, (ad.add (jn * 8)).off + 6, none⟩ = some (.slice x.B xn x.b) ∧ W'.cell? ⟨(ad.add (jn * 8)).block, (ad.add (jn * 8)).off + 7, none⟩ = some (.int .i64 x.s.m)) (by kernel_rfl) ?_
              have HFD := Lib.hid ((Fr.refl Nob wc).drew)
              generalize wc.drew = wd at HFD ⊢
              have HSD := Lib.hid (KS2.out wd HFD.out)
              refine take_g (i := 0) (v := .agg #[.int .i64 z.k, .int .i64 z.f, .int .i64 z.t, .int .i64 z.gf, .int .i64 z.gt, .int .i64 z.ins, .slice C yn cc, .int .i64 z.m]) rfl HSD.out ?_
              refine take_g (i := 1) (v := .slice (some ad) ln c) rfl HSD.out ?_
              refine take_g (i := 2) (v := .int .i64 (jn : Int)) rfl HSD.out ?_
              refine take_g (i := 3) (v := .pointer (some (ad.add (jn * 8)))) rfl HSD.out ?_
              refine take_g (i := 4) (v := .agg #[.int .i64 x.s.k, .int .i64 x.s.f, .int .i64 x.s.t, .int .i64 x.s.gf, .int .i64 x.s.gt, .int .i64 x.s.ins, .slice x.B xn x.b, .int .i64 x.s.m]) rfl HSD.out ?_
              refine readyG1 5 rfl (fun K hK => ?_)
              go_simp
              refine (HS2.out wd (HFx.out.same HFD.out)).mono ?_
              rintro e w3 ⟨rfl, hF3⟩
              have HF3 := Lib.hid (HFD.out.same hF3)
              clear hF3
              obtain ⟨rk, rf, rt, rgf, rgt, rins, RA, rn9, rc, rm, hrs⟩ : ∃ rk rf rt rgf rgt rins RA rn9 rc rm, sentV O2 (.slice C yn cc) = .agg #[.int .i64 rk, .int .i64 rf, .int .i64 rt, .int .i64 rgf, .int .i64 rgt, .int .i64 rins, .slice RA rn9 rc, .int .i64 rm] := by
                cases O2 with
                | none => exact ⟨0, 0, 0, 0, 0, 0, none, 0, 0, 0, rfl⟩
                | some x => exact ⟨_, _, _, _, _, _, _, _, _, _, rfl⟩
              rw [hrs]
              have HQS := Lib.hid hrs
              clear hrs
              go_wp2_with fail
              refine hK.out _ _ (fun _ => (KS2.out _ HF3.out)) ?_
              clear hK K
              refine take_g (i := 6) (v := .tuple #[.agg #[.int .i64 rk, .int .i64 rf, .int .i64 rt, .int .i64 rgf, .int .i64 rgt, .int .i64 rins, .slice RA rn9 rc, .int .i64 rm], .bool bo2]) rfl (KS2.out _ HF3.out) ?_
              refine take_g (i := 7) (v := .agg #[.int .i64 rk, .int .i64 rf, .int .i64 rt, .int .i64 rgf, .int .i64 rgt, .int .i64 rins, .slice RA rn9 rc, .int .i64 rm]) rfl (KS2.out _ HF3.out) ?_
              refine take_p (i := 8) (v := .bool bo2) rfl (fun _ => (KS2.out _ HF3.out)) ?_
              refine readyG1 9 rfl (fun K hK => ?_)
              have HZ3 := Lib.hid (HZX.out.fr HF3.out (fun h => h))
              obtain ⟨z0, z1, z2, z3, z4, z5, z6, z7⟩ := HZ3.out.z8
              obtain ⟨b0, b1, b2, b3, b4, b5, b6, b7, zl⟩ := HZ3.out.c8
              go_simp
              obtain ⟨hb5, hf5⟩ := storeB8 HZ3.out (.int .i64 rk) (.int .i64 rf) (.int .i64 rt) (.int .i64 rgf) (.int .i64 rgt) (.int .i64 rins) (.slice RA rn9 rc) (.int .i64 rm)
              obtain ⟨w5, hw5⟩ : ∃ W, ((((((((w3.setCell ⟨w.heap.size, 0, none⟩ (.int .i64 rk)).setCell ⟨w.heap.size, 1, none⟩ (.int .i64 rf)).setCell ⟨w.heap.size, 2, none⟩ (.int .i64 rt)).setCell ⟨w.heap.size, 3, none⟩ (.int .i64 rgf)).setCell ⟨w.heap.size, 4, none⟩ (.int .i64 rgt)).setCell ⟨w.heap.size, 5, none⟩ (.int .i64 rins)).setCell ⟨w.heap.size, 6, none⟩ (.slice RA rn9 rc)).setCell ⟨w.heap.size, 7, none⟩ (.int .i64 rm)) = W := ⟨_, rfl⟩
              simp only [hw5] at hb5 hf5 ⊢
              have HF5 := Lib.hid hf5
              have HB5 := Lib.hid hb5
              clear hw5 hb5 hf5 z0 z1 z2 z3 z4 z5 z6 z7 b0 b1 b2 b3 b4 b5 b6 b7 zl
              refine hK.out _ _ (late (by kernel_rfl)) ?_
              clear hK K
              refine take_p (i := 10) (v := .bool bo2) rfl (late (by kernel_rfl)) ?_
              refine doneG_by ?_
              have HBT5 := Lib.hid (HBT2.out.fr (HF3.out.any.same HF5.out) (fun e => by have e' : T = w.heap.size := e; have := HTL.out; have := HBZ1.out.lt; omega))
              have HFw5 := Lib.hid (show Fr Nob w w5 from (HFw.out.same HF3.out).trans HF5.out (fun k hk e => by have e' : k = w.heap.size := e; omega))
              have HOW5 := Lib.hid (own_fr (own_fr HOW.out (HFx.out.same HF3.out) (fun _ _ h => h)) HF5.out (fun k e e2 => by have e' : k = w.heap.size := e2; have := (World.ownsRow.lt HOW.out k e).1; omega))
              have hbt := HBT5.out
              simp only [StepM.cells] at hbt
              obtain ⟨d0, d1, d2, d3, d4, d5, d6, d7, dl⟩ := hbt.c8
              obtain ⟨W6, hW6⟩ : ∃ W, w5.alloc (.cells #[.int .i64 s'.k, .int .i64 s'.f, .int .i64 s'.t, .int .i64 s'.gf, .int .i64 s'.gt, .int .i64 s'.ins, .slice x.B xn x.b, .int .i64 s'.m] 32) = W := ⟨_, rfl⟩
              have HF6 := Lib.hid (show Fr Nob w5 W6 by rw [← hW6]; exact (Fr.refl _ _).alloc _)
              have HB6 := Lib.hid (show Blk W6 w5.heap.size [.int .i64 s'.k, .int .i64 s'.f, .int .i64 s'.t, .int .i64 s'.gf, .int .i64 s'.gt, .int .i64 s'.ins, .slice x.B xn x.b, .int .i64 s'.m] 32 by rw [← hW6]; exact Blk.new _ _ _)
              have HOW6 := Lib.hid (own_fr HOW5.out HF6.out (fun _ _ h => h))
              have HBS := Lib.hid (show w.heap.size + 1 ≤ W6.heap.size from by have h1 := HB5.out.lt; have h2 := HF6.out.size; omega)
              have han : an ≤ 1000 := by have h1 := HCT.out; have h2 := HAN.out; omega
              have hbt2 : (an + 1) * 80 ≤ 140737488355328 := by omega
              clear hbt
              go_wp2_with (at_builtin; refine wpList_append_row _ rfl _ _ 57 rfl (w.heap.size + 1) 32 i0 _ 8 80 Tryz.underlying57 hi hz0 hz1 hz2 rfl (by decide) (.slice VA an vc) an (stepC acc) rfl HOW6.out ⟨w5.heap.size, 0, none⟩ 1 1 [.int .i64 s'.k, .int .i64 s'.f, .int .i64 s'.t, .int .i64 s'.gf, .int .i64 s'.gt, .int .i64 s'.ins, .slice x.B xn x.b, .int .i64 s'.m] rfl rfl (fun j u hu => by rw [add_lit]; exact (HB6.out.cell j).trans hu) (fun u hu => by simp only [List.mem_cons, List.not_mem_nil, or_false] at hu; rcases hu with rfl | rfl | rfl | rfl | rfl | rfl | rfl | rfl <;> rfl) (by omega) (by simp only [maxLen]; omega) hbt2 HBS.out ?_; intro g cap w9 hown9 hf9 hg9)
              have hlt9 := fun k e => (World.ownsRow.lt HOW.out k e).1
              have hfw9 : Fr Nob w w9 := (HFw5.out.same HF6.out).trans hf9 (fun k hk e => by have := hlt9 k e; omega)
              have hb9 := (HB5.out.fr HF6.out (fun h => h)).fr hf9 (fun e => by have := hlt9 _ e; omega)
              have hcnt := HCT.out
              have hsl : s'.l.length = xn := by rw [HSL.out]; exact HXN.out
              go_roundg (r.length)
              case measure => simp
              case rel =>
                refine ⟨r, acc ++ [⟨s', x.B, x.b⟩], O2.getD z, ls, bo2, (jn : Int) - 1, some ⟨g, 0, none⟩, an + 1, cap, _, rfl, by first | rfl | go_num, rfl, rfl, rfl, ?_, by show (jn : Int) - 1 = (r.length : Int) - 1; rw [HJN.out], ⟨x :: tt, HSP2.out⟩, ?_, ?_, ?_, ⟨hb9, fun hb2 => ?_⟩, hfw9, ?_⟩
                · show an + 1 = (acc ++ [_]).length
                  rw [List.length_append, ← HAN.out]; rfl
                · have h := HRR.out
                  simp only [if_true] at h
                  show R = ((acc ++ [⟨s', x.B, x.b⟩]) ++ (if bo2 = true then (sendGo r (O2.getD z)).1 else r), ls + (if bo2 = true then (sendGo r (O2.getD z)).2 else 0))
                  rw [h, ← HBO2.out]
                  cases hO2 : O2 with
                  | none => rw [HG2.out s' hO hO2]; simp
                  | some y' => rw [HG1.out s' y' hO hO2]; simp
                · show w9.ownsRow (w.heap.size + 1) 32 8 (.slice (some ⟨g, 0, none⟩) (an + 1) cap) (an + 1) (stepC (acc ++ [⟨s', x.B, x.b⟩]))
                  have e1 : stepC (acc ++ [⟨s', x.B, x.b⟩]) = stepC acc ++ [.int .i64 s'.k, .int .i64 s'.f, .int .i64 s'.t, .int .i64 s'.gf, .int .i64 s'.gt, .int .i64 s'.ins, .slice x.B xn x.b, .int .i64 s'.m] := by simp [stepC, StepA.cells, StepM.cells, hsl]
                  rw [e1]
                  exact hown9
                · intro a ha
                  rcases List.mem_append.1 ha with ha | ha
                  · exact HAC.out a ha
                  · rw [List.mem_singleton.1 ha]
                    exact ⟨by show Rd N w x.B (tokC s'.l); rw [HSL.out]; exact HXW.out, by show s'.l.length ≤ x.b; rw [HSL.out]; exact HXC.out⟩
                · rw [← HBO2.out] at hb2
                  cases hO2 : O2 with
                  | none => rw [hO2] at hb2; cases hb2
                  | some y' =>
                    refine ⟨?_, (HL2.out y' hO2).trans HZL.out⟩
                    have h := HQS.out
                    rw [hO2] at h
                    have h3 : (Value.agg (y'.cells (.slice C yn cc)).toArray) = .agg #[.int .i64 rk, .int .i64 rf, .int .i64 rt, .int .i64 rgf, .int .i64 rgt, .int .i64 rins, .slice RA rn9 rc, .int .i64 rm] := h
                    injection h3 with h3
                    simpa using (congrArg Array.toList h3).symm
                · show ls + (acc ++ [_]).length + r.length = ln
                  rw [List.length_append, List.length_singleton]
                  rw [List.length_cons] at hcnt
                  omega
      | false =>
        obtain ⟨we, hwe⟩ : ∃ we, we = wr := ⟨_, rfl⟩
        subst hwe
        have hfin : R = (acc ++ r, ls) := by
          have hbb := HB.out
          have h := HRR.out
          cases on with
          | false => simpa using h
          | true =>
            rw [Bool.and_true, decide_eq_false_iff_not] at hbb
            have h1 := HJ.out
            have hr : r = [] := by
              cases r with
              | nil => rfl
              | cons a r => rw [List.length_cons] at h1; omega
            rw [hr] at h ⊢
            simpa [sendGo] using h
        have HFI := Lib.hid hfin
        obtain ⟨rn, hrn⟩ : ∃ n, r.length = n := ⟨_, rfl⟩
        have HRL := Lib.hid hrn
        obtain rfl : j = (rn : Int) - 1 := by rw [HJ.out, hrn]
        obtain ⟨tt, ht⟩ := HSP.out
        have hrb : rn ≤ 1000 := by have h := HCT.out; omega
        have han : an ≤ 1000 := by have h1 := HCT.out; have h2 := HAN.out; omega
        have hls : ls ≤ 1000 := by have h := HCT.out; omega
        have hrc : rn ≤ c := by have h := HCT.out; omega
        have hrow := (HK.out.fr0 HFr.out).rows
        have HRA := Lib.hid (show Rd N we A (stepC r.reverse) by have h1 := hrow.row.take (stepC r.reverse).length; rw [ht] at h1; simpa [stepC] using h1)
        have HRE := Lib.hid (show ∀ x ∈ r, Rd N w x.B (tokC x.s.l) ∧ x.s.l.length ≤ x.b from fun x hx => ⟨HK.out.rows.each x (by rw [ht]; simp [hx]), HK.out.rows.cap x (by rw [ht]; simp [hx])⟩)
        have hsl : (stepC r.reverse).length = rn * 8 := by rw [stepC_len, List.length_reverse, hrn]
        have hbt : (0 + rn) * 80 ≤ 140737488355328 := by omega
        have HOW' := Lib.hid HOW.out
        clear hfin hrn hrow ht HJ HB HRR HBZ HSP
        go_wp2_with (at_builtin; refine wpList_append_many _ N rfl _ _ 57 rfl we.heap.size 32 i0 _ 8 80 Tryz.underlying57 hi hz0 hz1 hz2 rfl (by decide) (.slice none 0 0) 0 [] rfl (World.ownsRow_nil _ _ _ _) A rn c (stepC r.reverse) rfl hsl HRA.out (stepC_oneC _) (by simp only [maxLen]; omega) hbt (Nat.le_refl _) ?_; intro v w9 hown9 hf9; rw [Nat.zero_add, List.nil_append] at hown9; obtain ⟨OA, oc, rfl, hoc, _⟩ := Rd.of_own (M := Nob) hown9 (fun _ _ h => h))
        have HF9 := Lib.hid (show Fr Nob we w9 from hf9.mono (fun k _ e => by cases e))
        have HOWN9 := Lib.hid hown9
        clear hown9 hf9 hsl hbt
        go_loopg [13, 12] (an) (fun n s13 s12 wr => ∃ (d : Nat) (OA : Option Addr) (oc sn : Nat) (j : Int), n = d ∧ d ≤ an ∧ s13 = .int .i64 j ∧ s12 = .slice OA sn oc ∧ Hid (sn = rn + (an - d)) ∧ Hid (j = (d : Int) - 1) ∧ Hid (wr.ownsRow we.heap.size 32 8 (.slice OA sn oc) sn (stepC (r.reverse ++ (acc.drop d).reverse))) ∧ Hid (Fr Nob we wr))
        case atStart =>
          refine ⟨an, OA, oc, rn, (an : Int) - 1, rfl, Nat.le_refl _, by first | rfl | go_num, rfl, by show rn = rn + (an - an); omega, rfl, ?_, HF9.out⟩
          have h := HAN.out
          show w9.ownsRow we.heap.size 32 8 (.slice OA rn oc) rn (stepC (r.reverse ++ (acc.drop an).reverse))
          rw [h, List.drop_length, List.reverse_nil, List.append_nil]
          exact HOWN9.out
        case round =>
          obtain ⟨d, OA, oc, sn, j, hnd, hd, rfl, rfl, HSN, HJ, HOL, HFL⟩ := hrel
          have hnd := hnd.symm
          subst hnd
          cases d with
          | zero =>
            obtain rfl : j = -1 := by rw [HJ.out]; rfl
            go_wp2_with fail
            refine bodyPost_ret (v := .tuple #[.slice OA sn oc, .int .i64 ls]) (by simp [results, go_sem]) rfl ?_
            have hsn := HSN.out
            have hol := HOL.out
            have hfi := HFI.out
            rw [List.drop_zero] at hol
            have hfw := HFr.out.same HFL.out
            have hlen : R.1.length = sn := by rw [hfi]; show (acc ++ r).length = sn; rw [List.length_append, ← HAN.out, HRL.out]; omega
            refine ⟨OA, oc, by rw [hlen, hfi], ⟨⟨?_, fun x hx => ?_, fun x hx => ?_⟩, ?_, ?_⟩, hfw⟩
            · obtain ⟨A', c', e, _, hr⟩ := Rd.of_own (M := N) hol (fun k e hk => by have h1 := (World.ownsRow.lt hol k e).1; have h2 := HNN.out k hk; have h3 := HFr.out.size; omega)
              injection e with e1 e2 e3
              subst e1
              rw [hfi]
              show Rd N _ OA (stepC (acc ++ r).reverse)
              rw [List.reverse_append]
              exact hr
            · rw [hfi, List.mem_reverse] at hx
              rcases List.mem_append.1 hx with hx | hx
              · exact (HAC.out x hx).1.fr hfw (fun _ _ h => h.elim)
              · exact (HRE.out x hx).1.fr hfw (fun _ _ h => h.elim)
            · rw [hfi, List.mem_reverse] at hx
              rcases List.mem_append.1 hx with hx | hx
              · exact (HAC.out x hx).2
              · exact (HRE.out x hx).2
            · rw [List.length_reverse, hlen]
              obtain ⟨A', c', e, hc, _⟩ := Rd.of_own (M := Nob) hol (fun _ _ h => h)
              injection e with e1 e2 e3
              rw [e3]; exact hc
            · intro hA
              rcases hol.2 with ⟨e, _⟩ | ⟨g, cap, cur, e, _⟩
              · injection e with _ _ e3
              · injection e with e1 _ _
                rw [e1] at hA
                cases hA
          | succ d =>
            obtain rfl : j = (d : Int) := by rw [HJ.out]; omega
            have hda : d < acc.length := by rw [← HAN.out]; omega
            have hol := own_fr HOW.out HFL.out (fun _ _ h => h)
            obtain ⟨A', c', e, _, hr⟩ := Rd.of_own (M := Nob) hol (fun _ _ h => h)
            injection e with e1 e2 e3
            subst e1
            obtain ⟨ad, rfl, hnb, hbl, c0, cj⟩ := Rd.elt StepA.cells_len (by omega) hr hda
            have c1 := cj 0 (by omega)
            have c2 := cj 1 (by omega)
            have c3 := cj 2 (by omega)
            have c4 := cj 3 (by omega)
            have c5 := cj 4 (by omega)
            have c6 := cj 5 (by omega)
            have c7 := cj 6 (by omega)
            obtain ⟨x, hx⟩ : ∃ x, acc[d] = x := ⟨_, rfl⟩
            simp only [hx, StepA.cells, StepM.cells, List.getElem?_cons_zero, List.getElem?_cons_succ, Nat.reduceAdd] at c0 c1 c2 c3 c4 c5 c6 c7
            have HDR := Lib.hid (show acc.drop d = x :: acc.drop (d + 1) by rw [← hx]; exact List.drop_eq_getElem_cons hda)
            obtain ⟨xn, hxn⟩ : ∃ n, x.s.l.length = n := ⟨_, rfl⟩
            have HXN := Lib.hid hxn
            rw [hxn] at c6
            have hdl : (d : Int) < (an : Int) := by omega
            have hd0 : (0 : Int) ≤ (d : Int) := by omega
            have hbl2 : (ad.add (d * 8)).block < wr.heap.size := by rw [add_block]; exact hbl
            obtain ⟨W6, hW6⟩ : ∃ W, wr.alloc (.cells #[.int .i64 x.s.k, .int .i64 x.s.f, .int .i64 x.s.t, .int .i64 x.s.gf, .int .i64 x.s.gt, .int .i64 x.s.ins, .slice x.B xn x.b, .int .i64 x.s.m] 32) = W := ⟨_, rfl⟩
            have HF6 := Lib.hid (show Fr Nob wr W6 by rw [← hW6]; exact (Fr.refl _ _).alloc _)
            have HB6 := Lib.hid (show Blk W6 wr.heap.size [.int .i64 x.s.k, .int .i64 x.s.f, .int .i64 x.s.t, .int .i64 x.s.gf, .int .i64 x.s.gt, .int .i64 x.s.ins, .slice x.B xn x.b, .int .i64 x.s.m] 32 by rw [← hW6]; exact Blk.new _ _ _)
            have HOW6 := Lib.hid (own_fr HOL.out HF6.out (fun _ _ h => h))
            have HBS := Lib.hid (show we.heap.size ≤ W6.heap.size from (HFL.out.same HF6.out).size)
            have hsn2 : sn ≤ 2000 := by have h := HSN.out; omega
            have hbt2 : (sn + 1) * 80 ≤ 140737488355328 := by omega
            clear hnb hbl cj hx hxn hol hr e2 e3 hda
            go_wp2_with (at_builtin; refine wpList_append_row _ rfl _ _ 57 rfl we.heap.size 32 i0 _ 8 80 Tryz.underlying57 hi hz0 hz1 hz2 rfl (by decide) (.slice OA sn oc) sn (stepC (r.reverse ++ (acc.drop (d + 1)).reverse)) rfl HOW6.out ⟨wr.heap.size, 0, none⟩ 1 1 [.int .i64 x.s.k, .int .i64 x.s.f, .int .i64 x.s.t, .int .i64 x.s.gf, .int .i64 x.s.gt, .int .i64 x.s.ins, .slice x.B xn x.b, .int .i64 x.s.m] rfl rfl (fun j u hu => by rw [add_lit]; exact (HB6.out.cell j).trans hu) (fun u hu => by simp only [List.mem_cons, List.not_mem_nil, or_false] at hu; rcases hu with rfl | rfl | rfl | rfl | rfl | rfl | rfl | rfl <;> rfl) (by omega) (by simp only [maxLen]; omega) hbt2 HBS.out ?_; intro g cap w9 hown9 hf9 hg9)
            have hlt9 := fun k e => (World.ownsRow.lt HOL.out k e).1
            have hfw9 : Fr Nob we w9 := (HFL.out.same HF6.out).trans hf9 (fun k hk e => by have := hlt9 k e; omega)
            go_roundg (d)
            case measure => omega
            case rel =>
              refine ⟨d, some ⟨g, 0, none⟩, cap, sn + 1, (d : Int) - 1, rfl, by omega, by first | rfl | go_num, rfl, ?_, rfl, ?_, hfw9⟩
              · show sn + 1 = rn + (an - d)
                have h := HSN.out
                omega
              · show w9.ownsRow we.heap.size 32 8 (.slice (some ⟨g, 0, none⟩) (sn + 1) cap) (sn + 1) (stepC (r.reverse ++ (acc.drop d).reverse))
                have e1 : stepC (r.reverse ++ (acc.drop d).reverse) = stepC (r.reverse ++ (acc.drop (d + 1)).reverse) ++ [.int .i64 x.s.k, .int .i64 x.s.f, .int .i64 x.s.t, .int .i64 x.s.gf, .int .i64 x.s.gt, .int .i64 x.s.ins, .slice x.B xn x.b, .int .i64 x.s.m] := by
                  rw [HDR.out, List.reverse_cons, ← List.append_assoc]
                  simp [stepC, StepA.cells, StepM.cells, HXN.out]
                rw [e1]
                exact hown9
end Go.Proofs.YtldcffonfidbcaaGreatDoor
