/- A part of the proof for chapter 10: HistDo, Round, PosE, Append, Recover, RngInv, PosMap; no conditions. -/
import Derived.Test.YtldcffonfidbcaaGreatDoorY24
import Derived.RangeFuncBox
import Derived.RangeFuncNested
import Derived.RangeFuncLeaves
import Derived.Shelf.Abstract
import Derived.OwnWalkIn
import Derived.TacticsInMore
import Derived.LoopNIn
import Derived.LoopIn
import Derived.OrdersIn
import Derived.OrdersHeld
import Derived.StillTail
import Derived.Test.YtldcffonfidbcaaGreatDoorY20
/- History.do: a step done at the document; what undoes it. -/
namespace Go.Proofs.YtldcffonfidbcaaGreatDoor
open Go.RowKit
/-- What 'do' answers. -/
def DoPost (N : Nat → Prop) (w : World) (q p : Nat) (rs : List RuleM) (g : List Grp) (x : HX) (s : StepM) (e : Ending) (w' : World) : Prop :=
  (doE rs g s x.l = 0 → ∃ B' b' A' c', e = .returned (.tuple #[.agg ((invS s x.l).cells (.slice B' (invS s x.l).l.length b')).toArray, .int .i64 0]) ∧ HM N w' q p rs g { x with A := A', c := c', l := doF s x.l } ∧ Rd N w' B' (tokC (invS s x.l).l) ∧ (invS s x.l).l.length ≤ b') ∧
  (doE rs g s x.l ≠ 0 → e = .returned (.tuple #[.agg #[.int .i64 0, .int .i64 0, .int .i64 0, .int .i64 0, .int .i64 0, .int .i64 0, .slice none 0 0, .int .i64 0], .int .i64 (doE rs g s x.l)]) ∧ HM N w' q p rs g x) ∧ Fr (One q) w w'
set_option maxRecDepth 100000 in
set_option maxHeartbeats 4000000 in
theorem hdo_any (N : Nat → Prop) (q p : Nat) (rs : List RuleM) (g : List Grp) (hok : SchOk rs g) (x : HX) (s : StepM) (B : Option Addr) (b : Nat) (w : World) (h : HM N w q p rs g x) (hx : Rd N w B (tokC s.l)) (hb : s.l.length ≤ b) (hn : x.l.length ≤ 100000) (hN : ∀ k, N k → k < w.heap.size) :
    Calls Tryz.prog 28 #[.pointer (some ⟨q, 0, none⟩), .agg (s.cells (.slice B s.l.length b)).toArray] w fun e w' => DoPost N w q p rs g x s e w' := by
  have HH := Lib.hid h
  have HNN := Lib.hid hN
  have HQ := Lib.hid h.blk.lt
  have HDO := Lib.hid (fun (W : World) (hF : Fr Nob w W) => Do_any N Nob Nob p rs g hok s x.A B x.l x.c b W (h.sch.fr0 hF) ((h.doc.mono (M' := Nob) (fun _ h => h.elim)).fr hF (fun _ _ h => h)) ((hx.mono (M' := Nob) (fun _ h => h.elim)).fr hF (fun _ _ h => h)) h.cap hb (by omega))
  have HIN := Lib.hid (fun (W : World) (hF : Fr Nob w W) (h0 : doE rs g s x.l = 0) => stepinv_any Nob Nob s x.A B x.l x.c b W ((h.doc.mono (M' := Nob) (fun _ h => h.elim)).fr hF (fun _ _ h => h)) ((hx.mono (M' := Nob) (fun _ h => h.elim)).fr hF (fun _ _ h => h)) h.cap hb (doE_zero h0).1)
  have HP := Lib.hid (show ∀ (e : Ending) (w' : World), ((doE rs g s x.l = 0 → ∃ B' b' A' c', e = .returned (.tuple #[.agg ((invS s x.l).cells (.slice B' (invS s x.l).l.length b')).toArray, .int .i64 0]) ∧ HM N w' q p rs g { x with A := A', c := c', l := doF s x.l } ∧ Rd N w' B' (tokC (invS s x.l).l) ∧ (invS s x.l).l.length ≤ b') ∧
    (doE rs g s x.l ≠ 0 → e = .returned (.tuple #[.agg #[.int .i64 0, .int .i64 0, .int .i64 0, .int .i64 0, .int .i64 0, .int .i64 0, .slice none 0 0, .int .i64 0], .int .i64 (doE rs g s x.l)]) ∧ HM N w' q p rs g x) ∧ Fr (One q) w w') → DoPost N w q p rs g x s e w' from fun e w' h => h)
  clear h hx hb hn hok hN
  obtain ⟨E, hE⟩ : ∃ E, doE rs g s x.l = E := ⟨_, rfl⟩
  obtain ⟨D, hD⟩ : ∃ D, doF s x.l = D := ⟨_, rfl⟩
  obtain ⟨Y, hY⟩ : ∃ Y, invS s x.l = Y := ⟨_, rfl⟩
  simp only [hE, hD, hY] at HDO HIN HP
  obtain ⟨PO, hPO⟩ : ∃ P, DoPost N w q p rs g x s = P := ⟨_, rfl⟩
  rw [hPO] at HP ⊢
  clear hE hD hY hPO
  obtain ⟨yk, yf, yt, ygf, ygt, yins, ym, yl⟩ := Y
  obtain ⟨yn, hyn⟩ : ∃ n, yl.length = n := ⟨_, rfl⟩
  have HYN := Lib.hid hyn
  clear hyn
  obtain ⟨A, c, l, UA, uc, U, RA, rc, R, lost⟩ := x
  simp only at HH HDO HIN HP
  obtain ⟨q0, q1, _, _, _, _, _, _, _, hql⟩ := HH.out.f5
  obtain ⟨k, f, t, gf, gt, ins, m, x⟩ := s
  simp only [StepM.cells] at *
  obtain ⟨ln, hln⟩ : ∃ ln, l.length = ln := ⟨_, rfl⟩
  obtain ⟨xn, hxn⟩ : ∃ xn, x.length = xn := ⟨_, rfl⟩
  simp only [hln, hxn] at HDO HIN q1 ⊢
  have HLN := Lib.hid hln
  clear hln hxn
  go_enter Tryz.func28, Tryz.ntmps28
  go_upto_region 1 with (fail)
  obtain ⟨W, hW⟩ : ∃ W, (w.alloc (.cells #[.int .i64 k, .int .i64 f, .int .i64 t, .int .i64 gf, .int .i64 gt, .int .i64 ins, .slice B xn b, .int .i64 m] 32)).alloc (.cells #[.int .i64 0, .int .i64 0, .int .i64 0, .int .i64 0, .int .i64 0, .int .i64 0, .slice none 0 0, .int .i64 0] 32) = W := ⟨_, rfl⟩
  have HF := Lib.hid (show Fr Nob w W by rw [← hW]; exact ((Fr.refl _ _).alloc _).alloc _)
  have HS := Lib.hid (show Blk W w.heap.size [.int .i64 k, .int .i64 f, .int .i64 t, .int .i64 gf, .int .i64 gt, .int .i64 ins, .slice B xn b, .int .i64 m] 32 by rw [← hW]; exact (Blk.new _ _ _).alloc _)
  have HZ := Lib.hid (show Blk W (w.heap.size + 1) [.int .i64 0, .int .i64 0, .int .i64 0, .int .i64 0, .int .i64 0, .int .i64 0, .slice none 0 0, .int .i64 0] 32 by rw [← hW]; exact Blk.new_at (w.alloc _) _ _ (w.heap.size + 1) (by simp))
  rw [hW]
  clear hW
  have KS := Lib.hid (show ∀ W' : World, Fr Nob W W' → (fun W' : World => W'.cell? ⟨q, 0, none⟩ = some (.pointer (some ⟨p, 0, none⟩)) ∧ W'.cell? ⟨q, 1, none⟩ = some (.slice A ln c) ∧ W'.cell? ⟨w.heap.size, 0, none⟩ = some (.int .i64 k) ∧ W'.cell? ⟨w.heap.size, 1, none⟩ = some (.int .i64 f) ∧ W'.cell? ⟨w.heap.size, 2, none⟩ = some (.int .i64 t) ∧ W'.cell? ⟨w.heap.size, 3, none⟩ = some (.int .i64 gf) ∧ W'.cell? ⟨w.heap.size, 4, none⟩ = some (.int .i64 gt) ∧ W'.cell? ⟨w.heap.size, 5, none⟩ = some (.int .i64 ins) ∧ W'.cell? ⟨w.heap.size, 6, none⟩ = some (.slice B xn b) ∧ W'.cell? ⟨w.heap.size, 7, none⟩ = some (.int .i64 m)) W' from fun W' hF' => by
    have h := HS.out.fr hF' (fun h => h)
    have hq := (HH.out.fr0 (HF.out.same hF')).f5
    simp only [HLN.out] at hq
    exact ⟨hq.1, hq.2.1, h.cell 0, h.cell 1, h.cell 2, h.cell 3, h.cell 4, h.cell 5, h.cell 6, h.cell 7⟩)
  clear q0 q1 hql
  refine wp_region_held_drew (S := fun W' : World => W'.cell? ⟨q, 0, none⟩ = some (.pointer (some ⟨p, 0, none⟩)) ∧ W'.cell? ⟨q, 1, none⟩ = some (.slice A ln c) ∧ W'.cell? ⟨w.heap.size, 0, none⟩ = some (.int .i64 k) ∧ W'.cell? ⟨w.heap.size, 1, none⟩ = some (.int .i64 f) ∧ W'.cell? ⟨w.heap.size, 2, none⟩ = some (.int .i64 t) ∧ W'.cell? ⟨w.heap.size, 3, none⟩ = some (.int .i64 gf) ∧ W'.cell? ⟨w.heap.size, 4, none⟩ = some (.int .i64 gt) ∧ W'.cell? ⟨w.heap.size, 5, none⟩ = some (.int .i64 ins) ∧ W'.cell? ⟨w.heap.size, 6, none⟩ = some (.slice B xn b) ∧ W'.cell? ⟨w.heap.size, 7, none⟩ = some (.int .i64 m)) (by kernel_rfl) (KS.out _ (Fr.refl _ _).drew) (fun _ => ?_)
  have HFD := Lib.hid ((Fr.refl Nob W).drew)
  generalize W.drew = wd at HFD ⊢
  have HSD := Lib.hid (KS.out wd HFD.out)
  refine take_by (i := 0) (v := .pointer (some ⟨q, 0, none⟩)) rfl HSD.out ?_
  refine take_by (i := 1) (v := .pointer (some ⟨q, 0, none⟩)) rfl HSD.out ?_
  refine take_by (i := 2) (v := .pointer (some ⟨q, 0, none⟩)) rfl HSD.out ?_
  refine take_by (i := 3) (v := .pointer (some ⟨p, 0, none⟩)) rfl HSD.out ?_
  refine take_by (i := 4) (v := .pointer (some ⟨q, 0, none⟩)) rfl HSD.out ?_
  refine take_by (i := 5) (v := .pointer (some ⟨q, 0, none⟩)) rfl HSD.out ?_
  refine take_by (i := 6) (v := .pointer (some ⟨q, 1, none⟩)) rfl HSD.out ?_
  refine take_by (i := 7) (v := .slice A ln c) rfl HSD.out ?_
  refine take_by (i := 8) (v := .agg #[.int .i64 k, .int .i64 f, .int .i64 t, .int .i64 gf, .int .i64 gt, .int .i64 ins, .slice B xn b, .int .i64 m]) rfl HSD.out ?_
  try simp only [List.getElem_toArray, List.getElem_cons_succ, List.getElem_cons_zero, Act.put, List.setIfInBounds_toArray, List.set_cons_zero, List.set_cons_succ]
  refine wpAnyH_ready (rs := [9]) (by kernel_rfl) (by simp) (AllReadyH.cons (o := _) rfl (fun K hK => ?_) AllReadyH.nil)
  go_simp
  refine (HDO.out wd (HF.out.same HFD.out)).mono ?_
  rintro e w2 ⟨v, rfl, hv, hz, hF2⟩
  have HF2 := Lib.hid (HFD.out.same hF2)
  have HV := Lib.hid hv
  have HSZ := Lib.hid HFD.out.size
  clear hF2 hv hz
  go_wp2_with fail
  refine hK.out _ _ (KS.out _ HF2.out) (fun _ => ?_)
  clear hK K
  refine take_by (i := 10) (v := .tuple #[v, .int .i64 E]) rfl (KS.out _ HF2.out) ?_
  refine take_by (i := 11) (v := v) rfl (KS.out _ HF2.out) ?_
  refine take_by (i := 12) (v := .int .i64 E) rfl (KS.out _ HF2.out) ?_
  refine take_by (i := 13) (v := v) rfl (KS.out _ HF2.out) ?_
  refine take_by (i := 14) (v := .int .i64 E) rfl (KS.out _ HF2.out) ?_
  try simp only [List.getElem_toArray, List.getElem_cons_succ, List.getElem_cons_zero, Act.put, List.setIfInBounds_toArray, List.set_cons_zero, List.set_cons_succ]
  refine wpAnyH_done (by kernel_rfl) ?_ _
  have HFW := Lib.hid (HF.out.same HF2.out)
  by_cases h0 : E = 0
  · subst h0
    go_upto_region 4 with (fail)
    obtain ⟨dg, rfl, hdg, hbd⟩ := HV.out rfl
    have HDL := Lib.hid (show W.heap.size ≤ dg from Nat.le_trans HFD.out.size hdg)
    have HDG := Lib.hid (fun (W' : World) (h : Fr Nob w2.drew W') => Blk.fr (show Blk w2.drew dg (tokC D) 40 from hbd) h (fun h => h))
    clear hdg hbd
    obtain ⟨dn, hdn⟩ : ∃ n, D.length = n := ⟨_, rfl⟩
    have HDN := Lib.hid hdn
    rw [hdn]
    clear hdn
    refine wp_region_held_drew (S := fun W' : World => W'.cell? ⟨q, 0, none⟩ = some (.pointer (some ⟨p, 0, none⟩)) ∧ W'.cell? ⟨q, 1, none⟩ = some (.slice A ln c) ∧ W'.cell? ⟨w.heap.size, 0, none⟩ = some (.int .i64 k) ∧ W'.cell? ⟨w.heap.size, 1, none⟩ = some (.int .i64 f) ∧ W'.cell? ⟨w.heap.size, 2, none⟩ = some (.int .i64 t) ∧ W'.cell? ⟨w.heap.size, 3, none⟩ = some (.int .i64 gf) ∧ W'.cell? ⟨w.heap.size, 4, none⟩ = some (.int .i64 gt) ∧ W'.cell? ⟨w.heap.size, 5, none⟩ = some (.int .i64 ins) ∧ W'.cell? ⟨w.heap.size, 6, none⟩ = some (.slice B xn b) ∧ W'.cell? ⟨w.heap.size, 7, none⟩ = some (.int .i64 m)) (by kernel_rfl) (KS.out _ HF2.out.drew) (fun _ => ?_)
    have HFP := Lib.hid (HF2.out.drew)
    generalize w2.drew = we at HFP HDG ⊢
    have HSE := Lib.hid (KS.out we HFP.out)
    refine take_by (i := 0) (v := .pointer (some ⟨q, 0, none⟩)) rfl HSE.out ?_
    refine take_by (i := 1) (v := .pointer (some ⟨q, 0, none⟩)) rfl HSE.out ?_
    refine take_by (i := 2) (v := .pointer (some ⟨q, 1, none⟩)) rfl HSE.out ?_
    refine take_by (i := 3) (v := .slice A ln c) rfl HSE.out ?_
    refine take_by (i := 4) (v := .agg #[.int .i64 k, .int .i64 f, .int .i64 t, .int .i64 gf, .int .i64 gt, .int .i64 ins, .slice B xn b, .int .i64 m]) rfl HSE.out ?_
    refine ready2 5 9 rfl rfl (fun K hK => ?_) (fun K hK => ?_)
    · go_simp
      refine (HIN.out we (HF.out.same HFP.out) rfl).mono ?_
      rintro e w3 ⟨IB, ib, rfl, hIB, hib, hF3⟩
      have HIB := Lib.hid hIB
      have HYB := Lib.hid hib
      have HF23 := Lib.hid hF3
      have HF3 := Lib.hid (HFP.out.same hF3)
      clear hIB hib hF3
      simp only [StepM.cells, HYN.out] at HYB ⊢
      go_wp2_with fail
      refine hK.out _ _ (KS.out _ HF3.out) (fun _ => ?_)
      clear hK K
      refine take_by (i := 6) (v := .tuple #[.agg #[.int .i64 yk, .int .i64 yf, .int .i64 yt, .int .i64 ygf, .int .i64 ygt, .int .i64 yins, .slice IB yn ib, .int .i64 ym], .int .i64 0]) rfl (KS.out _ HF3.out) ?_
      refine take_by (i := 7) (v := .agg #[.int .i64 yk, .int .i64 yf, .int .i64 yt, .int .i64 ygf, .int .i64 ygt, .int .i64 yins, .slice IB yn ib, .int .i64 ym]) rfl (KS.out _ HF3.out) ?_
      refine take_by (i := 8) (v := .int .i64 0) rfl (KS.out _ HF3.out) ?_
      refine ready1 9 rfl (fun K hK => ?_)
      go_simp
      obtain ⟨r, hr⟩ : ∃ r, w3.heap.size = r := ⟨_, rfl⟩
      obtain ⟨w4, hW4⟩ : ∃ W, w3.alloc (.cells #[.int .i64 0, .int .i64 0, .int .i64 0, .int .i64 0, .int .i64 0, .int .i64 0, .slice none 0 0, .int .i64 0] 32) = W := ⟨_, rfl⟩
      have HFA := Lib.hid (show Fr Nob W w4 by rw [← hW4]; exact HF3.out.alloc _)
      have HBN := Lib.hid (show Blk w4 r [.int .i64 0, .int .i64 0, .int .i64 0, .int .i64 0, .int .i64 0, .int .i64 0, .slice none 0 0, .int .i64 0] 32 by rw [← hW4, ← hr]; exact Blk.new _ _ _)
      have HRW := Lib.hid (show W.heap.size ≤ r by rw [← hr]; exact HF3.out.size)
      have HAA := Lib.hid (show Fr Nob w3 w4 by rw [← hW4]; exact (Fr.refl _ _).alloc _)
      have HRR := Lib.hid hr
      rw [hW4, hr]
      clear hW4 hr
      refine hK.out _ _ (KS.out _ HFA.out) (fun _ => ?_)
      clear hK K
      have HF4 := HFA
      have HB4 := HBN
      have HG4 := Lib.hid (HF23.out.same HAA.out)
      have HRE := Lib.hid (show we.heap.size ≤ r by have h1 := HRR.out; have h2 := HF23.out.size; omega)
      have HIB4 := Lib.hid ((HIB.out.bound.fr HAA.out (fun _ _ h => h.elim)).mono (M' := fun k => k < W.heap.size ∨ k = r) (fun k h => by have h1 := HRR.out; have h2 := HFP.out.size; rcases h with h | h; exact .inl (by omega); exact .inr (by omega)))
      refine ready1 10 rfl (fun K hK => ?_)
      obtain ⟨z0, z1, z2, z3, z4, z5, z6, z7⟩ := HB4.out.z8
      obtain ⟨b0, b1, b2, b3, b4, b5, b6, b7, zl⟩ := HB4.out.c8
      go_simp
      obtain ⟨hb5, hf5⟩ := storeB8 HB4.out (.int .i64 yk) (.int .i64 yf) (.int .i64 yt) (.int .i64 ygf) (.int .i64 ygt) (.int .i64 yins) (.slice IB yn ib) (.int .i64 ym)
      obtain ⟨w5, hw5⟩ : ∃ W, ((((((((w4.setCell ⟨r, 0, none⟩ (.int .i64 yk)).setCell ⟨r, 1, none⟩ (.int .i64 yf)).setCell ⟨r, 2, none⟩ (.int .i64 yt)).setCell ⟨r, 3, none⟩ (.int .i64 ygf)).setCell ⟨r, 4, none⟩ (.int .i64 ygt)).setCell ⟨r, 5, none⟩ (.int .i64 yins)).setCell ⟨r, 6, none⟩ (.slice IB yn ib)).setCell ⟨r, 7, none⟩ (.int .i64 ym)) = W := ⟨_, rfl⟩
      simp only [hw5] at hb5 hf5 ⊢
      have HF5 := Lib.hid (HF4.out.trans hf5 (fun k hk e => by have e' : k = r := e; have := HRW.out; omega))
      have HE5 := Lib.hid (HG4.out.trans hf5 (fun k hk e => by have e' : k = r := e; have := HRE.out; omega))
      have HB5 := Lib.hid hb5
      have HIB5 := Lib.hid (HIB4.out.fr hf5 (fun k hk e => .inr e))
      clear hw5 hb5 hf5 z0 z1 z2 z3 z4 z5 z6 z7 b0 b1 b2 b3 b4 b5 b6 b7 zl
      refine hK.out _ _ (KS.out _ HF5.out) (fun _ => ?_)
      clear hK K
      refine take_by (i := 11) (v := .int .i64 0) rfl (KS.out _ HF5.out) ?_
      refine done_by ?_
      have hq9 := (HH.out.fr0 (HF.out.same HF5.out)).f5
      simp only [HLN.out] at hq9
      obtain ⟨q0, q1, _, _, _, u1, _, _, _, hql⟩ := hq9
      have HD5 := Lib.hid (HDG.out _ HE5.out)
      go_upto_region 6 with (fail)
      obtain ⟨W6, hW6⟩ : ∃ W, w5.setCell ⟨q, 1, none⟩ (.slice (some ⟨dg, 0, none⟩) dn dn) = W := ⟨_, rfl⟩
      have HF56 := Lib.hid (show Fr (One q) w5 W6 by rw [← hW6]; exact (Fr.refl (One q) w5).setCell (p := ⟨q, 1, none⟩) (.inl rfl) _)
      have HQ6 := Lib.hid (show Blk W6 q _ _ from by rw [← hW6]; exact (HH.out.fr0 (HF.out.same HF5.out)).blk.set 1 (.slice (some ⟨dg, 0, none⟩) dn dn))
      have HB6 := Lib.hid (HB5.out.fr HF56.out (fun e => by have e' : r = q := e; have h1 := HRW.out; have h2 := HQ.out; have h3 := HF.out.size; omega))
      have HZ6 := Lib.hid ((HZ.out.fr HF5.out (fun h => h)).fr HF56.out (fun e => by have e' : w.heap.size + 1 = q := e; have h1 := HQ.out; omega))
      rw [hW6]
      clear hW6 q0 q1 u1 hql
      obtain ⟨d0, d1, d2, d3, d4, d5, d6, d7, dl⟩ := HB6.out.c8
      obtain ⟨b0, b1, b2, b3, b4, b5, b6, b7, bl⟩ := HZ6.out.c8
      obtain ⟨z0, z1, z2, z3, z4, z5, z6, z7⟩ := HZ6.out.z8
      go_wp2_with fail
      refine ret8m (v := .tuple #[.agg #[.int .i64 yk, .int .i64 yf, .int .i64 yt, .int .i64 ygf, .int .i64 ygt, .int .i64 yins, .slice IB yn ib, .int .i64 ym], .int .i64 0]) HZ6.out rfl (fun WE z0 z1 z2 z3 z4 z5 z6 z7 => by simp [results, go_sem, z0, z1, z2, z3, z4, z5, z6, z7]) (fun WE hFE => ?_)
      have hw := HF.out.size
      have hW2 := HZ.out.lt
      have hq := HQ.out
      have hdg := HDL.out
      have hfin : Fr (One q) w WE := ((HF.out.same HF5.out).any.same HF56.out).trans hFE (fun k hk e => by have e' : k = w.heap.size + 1 := e; omega)
      have hd9 := (HD5.out.fr HF56.out (fun e => by have e' : dg = q := e; omega)).fr hFE (fun e => by have e' : dg = w.heap.size + 1 := e; omega)
      refine HP.out _ _ ⟨fun _ => ⟨IB, ib, some ⟨dg, 0, none⟩, dn, by simp only [HYN.out], ⟨?_, HH.out.mem, HH.out.sch.fr hfin (HH.out.one _), ?_, ?_, HH.out.und.fr hfin (HH.out.one _), HH.out.red.fr hfin (HH.out.one _)⟩, ?_, by rw [HYN.out]; exact HYB.out⟩, fun h => absurd rfl h, hfin⟩
      · have h1 := HQ6.out.fr hFE (fun e => by have e' : q = w.heap.size + 1 := e; omega)
        simpa [HX.cells, HDN.out] using h1
      · exact fun _ => ⟨_, rfl, fun e => by have e' : dg < w.heap.size := HNN.out _ e; omega, fun j u hu => by rw [add_lit]; exact (hd9.cell j).trans hu⟩
      · show D.length ≤ dn; rw [HDN.out]; exact Nat.le_refl _
      · exact ((HIB5.out.fr HF56.out (fun k hk e => by have e' : k = q := e; exact .inl (by omega))).fr hFE (fun k hk e => by have e' : k = w.heap.size + 1 := e; exact .inl (by omega))).mono (fun k e => by have e' := HNN.out _ e; exact .inl (by omega))
    · go_simp
      obtain ⟨r, hr⟩ : ∃ r, we.heap.size = r := ⟨_, rfl⟩
      obtain ⟨wa, hW4⟩ : ∃ W, we.alloc (.cells #[.int .i64 0, .int .i64 0, .int .i64 0, .int .i64 0, .int .i64 0, .int .i64 0, .slice none 0 0, .int .i64 0] 32) = W := ⟨_, rfl⟩
      have HFA := Lib.hid (show Fr Nob W wa by rw [← hW4]; exact HFP.out.alloc _)
      have HBN := Lib.hid (show Blk wa r [.int .i64 0, .int .i64 0, .int .i64 0, .int .i64 0, .int .i64 0, .int .i64 0, .slice none 0 0, .int .i64 0] 32 by rw [← hW4, ← hr]; exact Blk.new _ _ _)
      have HRW := Lib.hid (show W.heap.size ≤ r by rw [← hr]; exact HFP.out.size)
      have HAA := Lib.hid (show Fr Nob we wa by rw [← hW4]; exact (Fr.refl _ _).alloc _)
      have HRR := Lib.hid hr
      rw [hW4, hr]
      clear hW4 hr
      refine hK.out _ _ (KS.out _ HFA.out) (fun _ => ?_)
      clear hK K
      refine ready1 5 rfl (fun K hK => ?_)
      go_simp
      refine (HIN.out wa (HF.out.same HFA.out) rfl).mono ?_
      rintro e w3 ⟨IB, ib, rfl, hIB, hib, hF3⟩
      have HIB := Lib.hid hIB
      have HYB := Lib.hid hib
      have HF23 := Lib.hid hF3
      have HF3 := Lib.hid (HFA.out.same hF3)
      clear hIB hib hF3
      simp only [StepM.cells, HYN.out] at HYB ⊢
      go_wp2_with fail
      refine hK.out _ _ (KS.out _ HF3.out) (fun _ => ?_)
      clear hK K
      refine take_by (i := 6) (v := .tuple #[.agg #[.int .i64 yk, .int .i64 yf, .int .i64 yt, .int .i64 ygf, .int .i64 ygt, .int .i64 yins, .slice IB yn ib, .int .i64 ym], .int .i64 0]) rfl (KS.out _ HF3.out) ?_
      refine take_by (i := 7) (v := .agg #[.int .i64 yk, .int .i64 yf, .int .i64 yt, .int .i64 ygf, .int .i64 ygt, .int .i64 yins, .slice IB yn ib, .int .i64 ym]) rfl (KS.out _ HF3.out) ?_
      refine take_by (i := 8) (v := .int .i64 0) rfl (KS.out _ HF3.out) ?_
      have HF4 := HF3
      have HG4 := Lib.hid (HAA.out.same HF23.out)
      have HRE := Lib.hid (Nat.le_of_eq HRR.out)
      have HB4 := Lib.hid (HBN.out.fr HF23.out (fun h => h))
      have HIB4 := Lib.hid (HIB.out.mono (M' := fun k => k < W.heap.size ∨ k = r) (fun k h => by have h1 := HBN.out.lt; have h2 := HFA.out.size; rcases h with h | h <;> (show k < _; omega)))
      refine ready1 10 rfl (fun K hK => ?_)
      obtain ⟨z0, z1, z2, z3, z4, z5, z6, z7⟩ := HB4.out.z8
      obtain ⟨b0, b1, b2, b3, b4, b5, b6, b7, zl⟩ := HB4.out.c8
      go_simp
      obtain ⟨hb5, hf5⟩ := storeB8 HB4.out (.int .i64 yk) (.int .i64 yf) (.int .i64 yt) (.int .i64 ygf) (.int .i64 ygt) (.int .i64 yins) (.slice IB yn ib) (.int .i64 ym)
      obtain ⟨w5, hw5⟩ : ∃ W, ((((((((w3.setCell ⟨r, 0, none⟩ (.int .i64 yk)).setCell ⟨r, 1, none⟩ (.int .i64 yf)).setCell ⟨r, 2, none⟩ (.int .i64 yt)).setCell ⟨r, 3, none⟩ (.int .i64 ygf)).setCell ⟨r, 4, none⟩ (.int .i64 ygt)).setCell ⟨r, 5, none⟩ (.int .i64 yins)).setCell ⟨r, 6, none⟩ (.slice IB yn ib)).setCell ⟨r, 7, none⟩ (.int .i64 ym)) = W := ⟨_, rfl⟩
      simp only [hw5] at hb5 hf5 ⊢
      have HF5 := Lib.hid (HF4.out.trans hf5 (fun k hk e => by have e' : k = r := e; have := HRW.out; omega))
      have HE5 := Lib.hid (HG4.out.trans hf5 (fun k hk e => by have e' : k = r := e; have := HRE.out; omega))
      have HB5 := Lib.hid hb5
      have HIB5 := Lib.hid (HIB4.out.fr hf5 (fun k hk e => .inr e))
      clear hw5 hb5 hf5 z0 z1 z2 z3 z4 z5 z6 z7 b0 b1 b2 b3 b4 b5 b6 b7 zl
      refine hK.out _ _ (KS.out _ HF5.out) (fun _ => ?_)
      clear hK K
      refine take_by (i := 11) (v := .int .i64 0) rfl (KS.out _ HF5.out) ?_
      refine done_by ?_
      have hq9 := (HH.out.fr0 (HF.out.same HF5.out)).f5
      simp only [HLN.out] at hq9
      obtain ⟨q0, q1, _, _, _, u1, _, _, _, hql⟩ := hq9
      have HD5 := Lib.hid (HDG.out _ HE5.out)
      go_upto_region 6 with (fail)
      obtain ⟨W6, hW6⟩ : ∃ W, w5.setCell ⟨q, 1, none⟩ (.slice (some ⟨dg, 0, none⟩) dn dn) = W := ⟨_, rfl⟩
      have HF56 := Lib.hid (show Fr (One q) w5 W6 by rw [← hW6]; exact (Fr.refl (One q) w5).setCell (p := ⟨q, 1, none⟩) (.inl rfl) _)
      have HQ6 := Lib.hid (show Blk W6 q _ _ from by rw [← hW6]; exact (HH.out.fr0 (HF.out.same HF5.out)).blk.set 1 (.slice (some ⟨dg, 0, none⟩) dn dn))
      have HB6 := Lib.hid (HB5.out.fr HF56.out (fun e => by have e' : r = q := e; have h1 := HRW.out; have h2 := HQ.out; have h3 := HF.out.size; omega))
      have HZ6 := Lib.hid ((HZ.out.fr HF5.out (fun h => h)).fr HF56.out (fun e => by have e' : w.heap.size + 1 = q := e; have h1 := HQ.out; omega))
      rw [hW6]
      clear hW6 q0 q1 u1 hql
      obtain ⟨d0, d1, d2, d3, d4, d5, d6, d7, dl⟩ := HB6.out.c8
      obtain ⟨b0, b1, b2, b3, b4, b5, b6, b7, bl⟩ := HZ6.out.c8
      obtain ⟨z0, z1, z2, z3, z4, z5, z6, z7⟩ := HZ6.out.z8
      go_wp2_with fail
      refine ret8m (v := .tuple #[.agg #[.int .i64 yk, .int .i64 yf, .int .i64 yt, .int .i64 ygf, .int .i64 ygt, .int .i64 yins, .slice IB yn ib, .int .i64 ym], .int .i64 0]) HZ6.out rfl (fun WE z0 z1 z2 z3 z4 z5 z6 z7 => by simp [results, go_sem, z0, z1, z2, z3, z4, z5, z6, z7]) (fun WE hFE => ?_)
      have hw := HF.out.size
      have hW2 := HZ.out.lt
      have hq := HQ.out
      have hdg := HDL.out
      have hfin : Fr (One q) w WE := ((HF.out.same HF5.out).any.same HF56.out).trans hFE (fun k hk e => by have e' : k = w.heap.size + 1 := e; omega)
      have hd9 := (HD5.out.fr HF56.out (fun e => by have e' : dg = q := e; omega)).fr hFE (fun e => by have e' : dg = w.heap.size + 1 := e; omega)
      refine HP.out _ _ ⟨fun _ => ⟨IB, ib, some ⟨dg, 0, none⟩, dn, by simp only [HYN.out], ⟨?_, HH.out.mem, HH.out.sch.fr hfin (HH.out.one _), ?_, ?_, HH.out.und.fr hfin (HH.out.one _), HH.out.red.fr hfin (HH.out.one _)⟩, ?_, by rw [HYN.out]; exact HYB.out⟩, fun h => absurd rfl h, hfin⟩
      · have h1 := HQ6.out.fr hFE (fun e => by have e' : q = w.heap.size + 1 := e; omega)
        simpa [HX.cells, HDN.out] using h1
      · exact fun _ => ⟨_, rfl, fun e => by have e' : dg < w.heap.size := HNN.out _ e; omega, fun j u hu => by rw [add_lit]; exact (hd9.cell j).trans hu⟩
      · show D.length ≤ dn; rw [HDN.out]; exact Nat.le_refl _
      · exact ((HIB5.out.fr HF56.out (fun k hk e => by have e' : k = q := e; exact .inl (by omega))).fr hFE (fun k hk e => by have e' : k = w.heap.size + 1 := e; exact .inl (by omega))).mono (fun k e => by have e' := HNN.out _ e; exact .inl (by omega))
  · have h0' : (E == 0) = false := by simpa using h0
    have hz8 := HZ.out.fr HF2.out (fun h => h)
    obtain ⟨d0, d1, d2, d3, d4, d5, d6, d7, dl⟩ := hz8.c8
    obtain ⟨z0, z1, z2, z3, z4, z5, z6, z7⟩ := hz8.z8
    have HZ8 := Lib.hid hz8
    clear hz8
    go_wp2_with fail
    refine ret8m (v := .tuple #[.agg #[.int .i64 0, .int .i64 0, .int .i64 0, .int .i64 0, .int .i64 0, .int .i64 0, .slice none 0 0, .int .i64 0], .int .i64 E]) HZ8.out rfl (fun WE z0 z1 z2 z3 z4 z5 z6 z7 => by simp [results, go_sem, z0, z1, z2, z3, z4, z5, z6, z7]) (fun WE hF => ?_)
    have hFE := HFW.out.trans hF (fun k hk e => by have e' : k = w.heap.size + 1 := e; omega)
    exact HP.out _ _ ⟨fun h => absurd h h0, fun _ => ⟨rfl, HH.out.fr0 hFE⟩, hFE.any⟩
end Go.Proofs.YtldcffonfidbcaaGreatDoor

/- A region that draws its order, within a round of a range over a function, out of what is shown of it anywhere: the wide fence alone. -/
namespace Go.Proofs.YtldcffonfidbcaaGreatDoor
open Go.RowKit
theorem op_round {P : Program} {o : Oper} {a : Act} {w : World} {K : Act → World → Prop} {Q : Exit → Act → World → Prop} (l n : Nat) (hd : ∀ c, o.op ≠ .defer c) (h : o.wp P a w K Q) : o.wpIn (Fence.wide.inRound l) n P a w K Q := by
  unfold Oper.wpIn
  refine ⟨fun f _ => trivial, ?_⟩
  rw [Fence.inRound_round, Oper.semAt_some l _ _ hd]
  unfold Oper.wp at h
  generalize (execOp a.eval o).run P w = r at h ⊢
  cases r with
  | ok x w' =>
    cases x <;> simp only [Oper.upon, Oper.uponIn] at h ⊢ <;> first | exact h | skip
    · exact ⟨fun h => by simp [Fence.wide] at h, (callsIn_wide.2 h).inRound l⟩
    · exact ⟨fun h => by simp [Fence.wide] at h, fun c cs _ => let ⟨v, w', hv, hs⟩ := h c cs; ⟨v, w', hv, stepsIn_wide.2 hs⟩⟩
  | halt x w' => cases x <;> simp only [Oper.upon, Oper.uponIn] at h ⊢ <;> exact h
def noDefer (o : Oper) : Bool := match o.op with | .defer _ => false | _ => true
theorem noDefer_ne {o : Oper} (h : noDefer o = true) : ∀ c, o.op ≠ .defer c := fun c e => by simp [noDefer, e] at h
theorem wpOp_round {P : Program} {ops : Array Oper} {Q : Exit → Act → World → Prop} (l n : Nat) (hd : ∀ o ∈ ops, noDefer o = true) (hQ : ¬ LetsOut Q) {i : Nat} {K : Act → World → Prop} {a : Act} {w : World} (h : wpOp P ops Q i K a w) : wpOpIn (Fence.wide.inRound l) n P ops Q i K a w := by
  unfold wpOp at h
  unfold wpOpIn
  cases ho : ops[i]? with
  | none => simpa [ho] using h
  | some o =>
    simp only [ho] at h ⊢
    split
    · rename_i hw
      rw [if_pos hw] at h
      exact op_round l n (noDefer_ne (hd o (Array.mem_of_getElem? ho))) (h.resolve_right (fun hh => hQ hh.2))
    · rename_i hw
      rw [if_neg hw] at h
      exact ⟨fun _ _ => trivial, h⟩
theorem wpAny_round {P : Program} {md : Region.Mode} {ops : Array Oper} {Q : Exit → Act → World → Prop} (l n : Nat) (hd : ∀ o ∈ ops, noDefer o = true) (hQ : ¬ LetsOut Q) : ∀ (fuel : Nat) (listed : Array Bool) (a : Act) (w : World), wpAny P md ops Q fuel listed a w → wpAnyIn (Fence.wide.inRound l) n P md ops Q fuel listed a w
  | 0, _, _, _, h => h
  | fuel + 1, _, _, _, h => ⟨h.1, fun i hi => wpOpIn_mono (fun a' w' h' => wpAny_round l n hd hQ fuel _ a' w' h') (wpOp_round l n hd hQ (h.2 i hi))⟩
/-- A region within a round: whatever order is drawn. -/
theorem region_round {P : Program} {id l n : Nat} {ops : Array Oper} {Q : Exit → Act → World → Prop} {a : Act} {w : World} (hm : P.follows .mixedOrders = true) (hd : ops.all noDefer = true) (hQ : ¬ LetsOut Q)
    (h : wpAny P .any ops Q ops.size (Array.replicate ops.size false) a w.drew) : (Code.region id ops true).wpIn (Fence.wide.inRound l) n P Q a w :=
  wpIn_region_any hm (wpAny_round l n (fun o ho => by rw [Array.all_eq_true] at hd; obtain ⟨i, hi, rfl⟩ := Array.mem_iff_getElem.1 ho; exact hd i hi) hQ _ _ _ _ h)
theorem region_round_held {P : Program} {id l n : Nat} {ops : Array Oper} {Q : Exit → Act → World → Prop} {S : World → Prop} {a : Act} {w : World} (hm : P.follows .mixedOrders = true) (hd : ops.all noDefer = true) (hQ : ¬ LetsOut Q)
    (h : wpAnyH P .any ops Q S ops.size (Array.replicate ops.size false) a w.drew) : (Code.region id ops true).wpIn (Fence.wide.inRound l) n P Q a w :=
  region_round hm hd hQ (wpAny_of_held _ _ _ _ h)
/-- 'wpStill', shut: else Lean reckons it through at every term that is typed against it. -/
structure StillW (P : Program) (ops : Array Oper) (w : World) (Q : Act → Prop) (l : List Oper) (a : Act) : Prop where
  out : wpStill P ops w Q l a
section
variable {P : Program} {ops : Array Oper} {w : World} {Q : Act → Prop} {o : Oper} {rest : List Oper} {a : Act}
theorem StillW.nil (h : Q a) : StillW P ops w Q [] a := ⟨h⟩
theorem StillW.step (h : ∀ K : Act → Prop, (∀ a, StillW P ops w Q rest a → K a) → if Region.wanted o (yielded ops a.tmps) then o.still P a w K else K (a.put o.dst undef)) : StillW P ops w Q (o :: rest) a :=
  ⟨wpStill_step (fun K hK => h K (fun a ha => hK a ha.out))⟩
/-- An operation whose guard says no. -/
theorem StillW.skip (h : Region.wanted o (yielded ops a.tmps) = false) (hr : StillW P ops w Q rest (a.put o.dst undef)) : StillW P ops w Q (o :: rest) a :=
  .step (fun K hK => by rw [if_neg (by rw [h]; simp)]; exact hK _ hr)
/-- One whose guard says yes. -/
theorem StillW.want (h : Region.wanted o (yielded ops a.tmps) = true) (hr : ∀ K : Act → Prop, (∀ a, StillW P ops w Q rest a → K a) → o.still P a w K) : StillW P ops w Q (o :: rest) a :=
  .step (fun K hK => by rw [if_pos h]; exact hr K hK)
/-- A choice. -/
theorem StillW.pick {c x y : Operand} (t : Bool) (v : Value) (hop : o.op = .pick c x y) (hg : Region.wanted o (yielded ops a.tmps) = true) (hc : a.eval c = .bool t) (hv : (if t = true then a.eval x else a.eval y) = v) (hr : StillW P ops w Q rest (a.put o.dst v)) : StillW P ops w Q (o :: rest) a := by
  refine .want hg (fun K hK => ?_)
  unfold Oper.still
  have : (execOp a.eval o).run P w = .ok (.value v) w := by simp [execOp, hop, hc, asBool, hv]
  rw [this]
  exact ⟨rfl, hK _ hr⟩
/-- A move. -/
theorem StillW.move {x : Operand} (v : Value) (hop : o.op = .move x) (hg : Region.wanted o (yielded ops a.tmps) = true) (hv : a.eval x = v) (hr : StillW P ops w Q rest (a.put o.dst v)) : StillW P ops w Q (o :: rest) a := by
  refine .want hg (fun K hK => ?_)
  unfold Oper.still
  have : (execOp a.eval o).run P w = .ok (.value v) w := by simp [execOp, hop, hv]
  rw [this]
  exact ⟨rfl, hK _ hr⟩
end
/-- .. that only reads. -/
theorem region_round_still {P : Program} {id r n : Nat} {l : List Oper} {Q : Exit → Act → World → Prop} {a : Act} {w : World} (hm : P.follows .mixedOrders = true) (hd : l.toArray.all noDefer = true) (hB : Region.lexB .any l.toArray = true) (hQ : ¬ LetsOut Q)
    (h' : StillW P l.toArray w.drew (fun a' => Q .normal a' w.drew) l a) : (Code.region id l.toArray true).wpIn (Fence.wide.inRound r) n P Q a w := by
  have h := h'.out
  simp only [Region.lexB, Bool.and_eq_true] at hB
  refine region_round hm hd hQ (wpAny_of_still (Q := fun a' => Q .normal a' w.drew) (fun _ h => h) _ _ _ ?_)
  have := wpAnyS_lex (md := .any) hB.1 l 0 (Array.replicate l.toArray.size false) a (by simp) (by simpa using hB.2) h
  simpa using this
theorem notOut_then {K : Act → World → Prop} {Q : Exit → Act → World → Prop} (h : ¬ LetsOut Q) : ¬ LetsOut (Exit.then K Q) := fun ⟨a, w, h'⟩ => h ⟨a, w, h'⟩
theorem notOut_block {id : Nat} {Q : Exit → Act → World → Prop} (h : ¬ LetsOut Q) : ¬ LetsOut (Exit.inBlock id Q) := fun ⟨a, w, h'⟩ => h ⟨a, w, h'⟩
theorem notOut_own {α : Type} {Kp : World → World → Prop} {I : List α → World → Prop} {Ix : Code → List α → World → Prop} {xs : List α} {W : World} : ¬ LetsOut (ownPostK Kp I Ix xs W) := fun ⟨_, _, h⟩ => h
/-- What speaks of old blocks alone abides what a loop's own blocks do. -/
theorem ownFrom_fr {β : Type} {M : Nat → Prop} {w2 : World} {B : Nat} (hB : w2.heap.size ≤ B) : OwnFrom B (fun (_ : β) W => Fr M w2 W) := fun _ W W' row hs hg hr =>
  hs.trans (Fr.of_grown hg) (fun k hk e => by have := (hr k e.symm).1; omega)
theorem ownFrom_blk {β : Type} {b B : Nat} (hb : b < B) (f : β → List Value) (T : TypeId) : OwnFrom B (fun (s : β) W => Blk W b (f s) T) := fun _ W W' row hs hg hr =>
  hs.fr (Fr.of_grown hg) (fun e => by have := (hr b e.symm).1; omega)
theorem ownFrom_pure {β : Type} {B : Nat} (p : β → Prop) : OwnFrom B (fun (s : β) (_ : World) => p s) := fun _ _ _ _ hs _ _ => hs
theorem ownFrom_ex {β ι : Type} {B : Nat} {I : ι → β → World → Prop} (h : ∀ i, OwnFrom B (I i)) : OwnFrom B (fun (s : β) W => ∃ i, I i s W) := fun s A W row ⟨i, hs⟩ hg hr => ⟨i, h i s A W row hs hg hr⟩
/-- The frame behind a loop: its book is closed. -/
theorem fr_putObj {M : Nat → Prop} {w2 W : World} {D : Nat} (o : Obj) (h : Fr M w2 W) (hD : w2.heap.size ≤ D) : Fr M w2 (W.putObj D o) :=
  h.trans (Fr.of_grown (grownBy_putObj' W D o)) (fun k hk e => by cases e; omega)
theorem blk_putObj {W : World} {g D : Nat} {cs : List Value} {t : TypeId} (o : Obj) (h : Blk W g cs t) (hne : g ≠ D) : Blk (W.putObj D o) g cs t := (World.putObj_heap_other hne).trans h
end Go.Proofs.YtldcffonfidbcaaGreatDoor

/- Chapter 8: a walk over ranges: what the iterator promises. -/
namespace Go.Proofs.YtldcffonfidbcaaGreatDoor
open Go.RowKit Go.Shelf
attribute [local go_sem] Oper.semAt_some
/-- How far places have moved behind the first k. -/
def dF (xs : List Rng) (k : Nat) : Int := ((xs.take k).map fun x => x.n - x.o).sum
theorem dF_succ (xs : List Rng) (k : Nat) (hk : k < xs.length) : dF xs (k + 1) = dF xs k + (xs[k].n - xs[k].o) := by
  unfold dF
  rw [List.take_succ_eq_append_getElem hk, List.map_append, List.sum_append]
  simp
/-- Where the k-th begins behind the change. -/
def begF (xs : List Rng) (k : Nat) : Int := (xs[k]?.getD ⟨0, 0, 0⟩).a + dF xs k
/-- The first k have come. -/
def Upto {n : Nat} (pre : List (Fin n)) (k : Nat) : Prop := pre.map Fin.val = List.range k
theorem Upto.len {n : Nat} {pre : List (Fin n)} {k : Nat} (h : Upto pre k) : pre.length = k := by
  have := congrArg List.length h
  simpa using this
theorem Upto.succ {n : Nat} {pre : List (Fin n)} {k : Nat} (h : Upto pre k) (hk : k < n) : Upto (pre ++ [⟨k, hk⟩]) (k + 1) := by
  unfold Upto at h ⊢
  rw [List.map_append, h, List.range_succ]
  rfl
def okR (x : Rng) : Prop := 0 ≤ x.a ∧ x.a ≤ 65536 ∧ 0 ≤ x.o ∧ x.o ≤ 65536 ∧ 0 ≤ x.n ∧ x.n ≤ 65536
theorem rightF_ok : ∀ (l : List Rng) (last : Int), 0 ≤ last → rightF l last = true → ∀ x ∈ l, okR x
  | [], _, _, _ => by simp
  | x :: l, last, h0, h => by
    rw [rightF] at h
    split at h
    · simp at h
    · rename_i hb
      rw [badR_iff] at hb
      intro y hy
      rcases List.mem_cons.1 hy with rfl | hy
      · unfold okR; omega
      · exact rightF_ok l _ (by omega) h y hy
theorem rightP_ok {l : List Rng} (h : rightP l = true) : l.length ≤ 4 ∧ ∀ x ∈ l, okR x := by
  rw [rightP, Bool.and_eq_true, decide_eq_true_eq] at h
  exact ⟨h.2, rightF_ok l 0 (by omega) h.1⟩
theorem dF_bound (xs : List Rng) (hx : ∀ x ∈ xs, okR x) : ∀ k, k ≤ xs.length → -65536 * (k : Int) ≤ dF xs k ∧ dF xs k ≤ 65536 * (k : Int)
  | 0, _ => by simp [dF]
  | k + 1, hk => by
    have h1 := dF_bound xs hx k (by omega)
    have h2 := hx xs[k] (List.getElem_mem _)
    rw [dF_succ xs k (by omega)]
    unfold okR at h2
    omega
theorem fr_of_below {n₀ : Nat} {A B : World} (h : Below n₀ A B) : Fr (fun k => n₀ ≤ k) A B := ⟨h.os, h.tape, h.output, h.size, fun k _ hn => h.block k (by omega)⟩
/-- What a round keeps: what lay below n₀, and the blocks of one range. -/
def KpR (n₀ : Nat) (A B : World) : Prop := Below n₀ A B ∧ ∀ (k : Nat) (cs : Array Value), A.heap[k]? = some (.cells cs 205 (0, 0)) → cs.size = 3 → B.heap[k]? = some (.cells cs 205 (0, 0))
theorem KpR.refl (n₀ : Nat) (A : World) : KpR n₀ A A := ⟨Below.refl _ _, fun _ _ h _ => h⟩
theorem KpR.trans {n₀ : Nat} {A B C : World} (h : KpR n₀ A B) (k : KpR n₀ B C) : KpR n₀ A C := ⟨h.1.trans k.1, fun i cs hi hs => k.2 i cs (h.2 i cs hi hs) hs⟩
theorem KpR.drew (n₀ : Nat) (W : World) : KpR n₀ W W.drew := ⟨(Below.refl n₀ W).drew, fun _ _ h _ => h⟩
theorem KpR.putObj {n₀ : Nat} {w : World} (hn : n₀ ≤ w.heap.size) (W : World) (l : Nat) (o o' : Obj) (hl : w.heap.size ≤ l) (h : W.heap[l]? = some o) (hc : o.isCells = false) (hw : o.isWalk = false) : KpR n₀ W (W.putObj l o') :=
  ⟨belowK_b hn W l o o' hl h hc hw, fun k cs hk _ => by
    have hne : k ≠ l := by rintro rfl; rw [hk] at h; cases h; simp [Obj.isCells] at hc
    exact (World.putObj_heap_other hne).trans hk⟩
set_option maxRecDepth 100000 in
set_option maxHeartbeats 4000000 in
theorem each1_in (F : Fence) (n : Nat) (hf : F.fn 179) (hro : F.round = none) (hn : 1 ≤ n) (l Bs n₀ : Nat) (A : Option Addr) (c : Nat) (xs : List Rng) (hx : ∀ x ∈ xs, okR x) (h4 : xs.length ≤ 4) (J Jx : List (Fin xs.length) → World → Prop)
    (hY : ∀ pre x W, J pre W → pre.length < xs.length → YieldAt F (n - 1) Tryz.prog l #[.int .i64 (x.val : Int), .int .i64 (begF xs x.val)] W fun e W' =>
      (e = .returned (.bool true) ∧ J (pre ++ [x]) W' ∧ KpR n₀ W W') ∨ (e = .returned (.bool false) ∧ Jx (pre ++ [x]) W'))
    (W : World) (hJ : AbidesFrom W.heap.size J) (hBs : W.cell? ⟨Bs, 0, none⟩ = some (.slice A xs.length c)) (hr : Rd (fun k => n₀ ≤ k) W A (rngC xs)) (hn0 : n₀ ≤ W.heap.size) (h0 : J [] W) :
    CallsIn F n Tryz.prog 179 #[.func (.yield l) #[] #[], .pointer (some ⟨Bs, 0, none⟩)] W fun e W' => (∃ v, e = .returned v) ∧
      ((∃ ys, Upto ys xs.length ∧ J ys W') ∨ (∃ pre, (∃ k, k ≤ xs.length ∧ Upto pre k) ∧ Jx pre W')) := by
  refine callsIn_of_wp Tryz.func179 rfl hf ?_ hro
  simp only [Tryz.ntmps179, List.size_toArray, List.length_cons, List.length_nil, Nat.reduceAdd, Nat.reduceSub, Array.replicate_succ, Array.replicate_zero, List.push_toArray, List.append_toArray, List.nil_append, List.cons_append]
  have HRd := Lib.hid hr
  have HX := Lib.hid hx
  have HJ := Lib.hid hJ
  have HY := Lib.hid hY
  clear hr hx hJ hY
  gi_wp2
  gi_loopw [3, 8] (fun d i wr => ∃ (k : Nat) (pre : List (Fin xs.length)), k ≤ xs.length ∧ d = .int .i64 (dF xs k) ∧ i = .int .i64 k ∧ Hid (Upto pre k) ∧ Hid (J pre wr) ∧ Hid (Below n₀ W wr))
    (fun _ i _ => xs.length - (intOf i).toNat)
  case atStart => exact ⟨0, [], Nat.zero_le _, by simp [dF], rfl, (show Upto [] 0 from rfl), h0, Below.refl _ _⟩
  case round =>
    obtain ⟨k, pre, hk, rfl, rfl, HU, HJs, HB⟩ := hrel
    by_cases hlt : k < xs.length
    · have ht : ((k : Int) < (xs.length : Int)) := by omega
      obtain ⟨ad, rfl, _, hlb, q0', q⟩ := Rd.elt Rng.cells_len (by omega) (HRd.out.fr (fr_of_below HB.out) (fun _ _ h => h)) hlt
      have q1 := q 0 (by omega)
      have q2 := q 1 (by omega)
      clear q
      have hd1 := dF_bound xs HX.out k hk
      have hd2 := dF_bound xs HX.out (k + 1) (by omega)
      have hds := dF_succ xs k hlt
      have hox := HX.out xs[k] (List.getElem_mem _)
      have hbg : begF xs k = xs[k].a + dF xs k := by simp [begF, hlt]
      generalize xs[k] = x at q0' q1 q2 hds hox hbg
      simp only [Rng.cells, List.getElem?_cons_zero, List.getElem?_cons_succ, Nat.reduceAdd] at q0' q1 q2
      unfold okR at hox
      obtain ⟨fn, tmps, assign, body, hy, hR⟩ := HY.out pre ⟨k, hlt⟩ (wr.alloc (.cells #[.int .i64 x.a, .int .i64 x.o, .int .i64 x.n] 205)) (HJ.out _ wr _ none HJs.out (World.grownBy_alloc _ _ none) (by simp)) (by rw [HU.out.len]; exact hlt)
      dsimp only at hy
      rw [hbg] at hy
      have HR := Lib.hid hR
      have HDS := Lib.hid hds
      have HBG := Lib.hid hbg
      rw [hds] at hd2
      clear hR hds hbg
      generalize hdd : dF xs k = d at *
      gi_wp2
      refine HR.out.mono ?_
      rintro e W3 (⟨rfl, hJ3, hk3⟩ | ⟨rfl, hJx3⟩)
      · have hb : Blk W3 wr.heap.size [.int .i64 x.a, .int .i64 x.o, .int .i64 x.n] 205 := hk3.2 _ _ (Blk.new wr [.int .i64 x.a, .int .i64 x.o, .int .i64 x.n] 205) rfl
        have e1 := hb.cell 1
        have e2 := hb.cell 2
        have hlb3 := hb.lt
        simp only [List.getElem?_cons_zero, List.getElem?_cons_succ] at e1 e2
        have HB3 := Lib.hid (HB.out.trans (((Below.refl n₀ wr).alloc (Nat.le_trans hn0 HB.out.size) (.cells #[.int .i64 x.a, .int .i64 x.o, .int .i64 x.n] 205)).trans hk3.1))
        have HJ3 := Lib.hid hJ3
        clear hb hk3 hJ3 q0' q1 q2 hlb hy
        gi_wp2
        go_roundw
        case rel => exact ⟨k + 1, pre ++ [(⟨k, hlt⟩ : Fin xs.length)], by omega, by rw [HDS.out], by simp, Lib.hid (HU.out.succ hlt), HJ3, HB3⟩
        case measure => simp [intOf]; omega
      · gi_wp2
        refine bodyPost_ret (results_none rfl _ _ _) rfl ?_
        exact ⟨⟨_, rfl⟩, .inr ⟨_, ⟨k + 1, by omega, HU.out.succ hlt⟩, hJx3⟩⟩
    · have ht : ¬ ((k : Int) < (xs.length : Int)) := by omega
      obtain rfl : k = xs.length := by omega
      gi_wp2
      go_end0
      exact ⟨⟨_, rfl⟩, .inl ⟨_, HU.out, HJs.out⟩⟩
/-- **each(m) hands back a value that 'SeqStopsK'.** -/
theorem each_stops (F : Fence) (n : Nat) (hf : F.fn 179) (hro : F.round = none) (hn : 1 ≤ n) (Bs n₀ : Nat) (A : Option Addr) (c : Nat) (xs : List Rng) (hx : ∀ x ∈ xs, okR x) (h4 : xs.length ≤ 4) (w : World) (hBs : Bs < w.heap.size) (hn₀ : n₀ ≤ w.heap.size)
    (hc : w.cell? ⟨Bs, 0, none⟩ = some (.slice A xs.length c)) (hr : Rd (fun k => n₀ ≤ k) w A (rngC xs)) :
    SeqStopsK F n Tryz.prog 179 #[.pointer (some ⟨Bs, 0, none⟩)] (fun x : Fin xs.length => #[Value.int .i64 (x.val : Int), Value.int .i64 (begF xs x.val)]) (KpR n₀) (fun ys => Upto ys xs.length)
      (fun pre => ∃ k, k ≤ xs.length ∧ Upto pre k) xs.length w := fun l J Jx W hW hJ _ hY h0 =>
  each1_in F n hf hro hn l Bs n₀ A c xs hx h4 J Jx hY W hJ ((hW.cell (p := ⟨Bs, 0, none⟩) hBs).trans hc) (hr.fr (fr_of_below (hW.mono hn₀)) (fun _ _ h => h)) (Nat.le_trans hn₀ hW.size) h0
end Go.Proofs.YtldcffonfidbcaaGreatDoor

/- append, by a round's body. -/
namespace Go.Proofs.YtldcffonfidbcaaGreatDoor
open Go.RowKit
theorem KpR.alloc {n₀ : Nat} {W : World} (hn : n₀ ≤ W.heap.size) (o : Obj) : KpR n₀ W (W.alloc o) :=
  ⟨(Below.refl n₀ W).alloc hn o, fun k cs h _ => (Below.heap_alloc _ _ _ (lt_of_blk h)).trans h⟩
/-- A store into a block that is no range. -/
theorem KpR.setCell {n₀ : Nat} {W : World} {g i : Nat} {cs : List Value} {t : TypeId} (h : Blk W g cs t) (hn : n₀ ≤ g) (ht : t ≠ 205) (v : Value) : KpR n₀ W (W.setCell ⟨g, i, none⟩ v) :=
  ⟨(Below.refl n₀ W).setCell (p := ⟨g, i, none⟩) hn v, fun k cs' hk _ => by
    have hne : k ≠ g := by
      rintro rfl
      have h' : W.heap[k]? = some (.cells cs.toArray t (0, 0)) := h
      rw [hk] at h'
      simp only [Option.some.injEq, Obj.cells.injEq] at h'
      exact ht h'.2.1.symm
    exact (Below.heap_setCell W ⟨g, i, none⟩ v k hne).trans hk⟩
/-- An append onto a row of ranges: rows of one range stay. -/
theorem KpR.append {n₀ base n m g : Nat} {w w' : World} {v : Value} {xs : List Value} (hn : n₀ ≤ base) (hnw : n₀ ≤ w.heap.size) (hm : 0 < m) (h0 : n = 0 → v = .slice none 0 0) (hown : w.ownsRow base 205 3 v n xs)
    (h : (w.grownBy w' none ∧ w.heap.size ≤ g) ∨ (∃ cap0, v = .slice (some ⟨g, 0, none⟩) n cap0 ∧ n + m ≤ cap0 ∧ w.grownBy w' (some g))) : KpR n₀ w w' := by
  rcases h with ⟨hg, _⟩ | ⟨cap0, rfl, hroom, hg⟩
  · exact ⟨(Below.refl n₀ w).grown hg hnw (fun k e => by cases e), fun k cs hk _ => (hg.block k (lt_of_blk hk) (by simp)).trans hk⟩
  · have hb := (World.ownsRow.lt hown g rfl).1
    refine ⟨(Below.refl n₀ w).grown hg hnw (fun k e => by cases e; omega), fun k cs hk hs => ?_⟩
    have hne : k ≠ g := by
      rintro rfl
      rcases hown.2 with ⟨h1, _⟩ | ⟨g', cap, cur, h1, _, h3, _, _, h5, _⟩
      · cases h1
      · simp only [Value.slice.injEq, Option.some.injEq, Addr.mk.injEq, and_true, true_and] at h1
        obtain ⟨rfl, rfl⟩ := h1
        rw [hk] at h3
        simp only [Option.some.injEq, Obj.cells.injEq] at h3
        rw [← h3.1, hs] at h5
        rcases Nat.eq_zero_or_pos n with rfl | hp
        · cases h0 rfl
        · omega
    exact (hg.block k (lt_of_blk hk) (fun e => hne (by cases e; rfl))).trans hk
end Go.Proofs.YtldcffonfidbcaaGreatDoor

/- Chapter 8: a place within a range that was undone. -/
namespace Go.Proofs.YtldcffonfidbcaaGreatDoor
open Go.RowKit Go.Shelf
attribute [local go_sem] Oper.semAt_some
/-- 'Recover', of a map that may be. -/
def recF (xs : List Rng) (i off : Int) : Int × Int :=
  if 0 ≤ i ∧ i < xs.length ∧ 0 ≤ off ∧ off ≤ (xs[i.toNat]?.getD ⟨0, 0, 0⟩).n then (begF xs i.toNat + off, 0) else (0, 1)
def hitF (xs : List Rng) (i off : Int) (j : Fin xs.length) : Bool := decide ((j.val : Int) = i) && decide (0 ≤ off) && decide (off ≤ xs[j].n)
theorem hitF_iff (xs : List Rng) (i off : Int) (j : Fin xs.length) : hitF xs i off j = true ↔ (j.val : Int) = i ∧ 0 ≤ off ∧ off ≤ xs[j.val].n := by
  simp [hitF, and_assoc]
theorem recF_some {xs : List Rng} {i off : Int} {j : Fin xs.length} (h : hitF xs i off j = true) : recF xs i off = (begF xs j.val + off, 0) := by
  obtain ⟨rfl, h1, h2⟩ := (hitF_iff _ _ _ _).1 h
  have h3 := j.isLt
  unfold recF
  rw [if_pos (by simp only [Int.toNat_natCast, List.getElem?_eq_getElem h3, Option.getD_some]; omega), Int.toNat_natCast]
theorem recF_none {xs : List Rng} {i off : Int} (h : ∀ j, hitF xs i off j = false) : recF xs i off = (0, 1) := by
  unfold recF
  rw [if_neg]
  rintro ⟨h1, h2, h3, h4⟩
  have hl : i.toNat < xs.length := by omega
  rw [List.getElem?_eq_getElem hl, Option.getD_some] at h4
  have := h ⟨i.toNat, hl⟩
  rw [(hitF_iff _ _ _ ⟨i.toNat, hl⟩).2 ⟨by simp; omega, h3, h4⟩] at this
  cases this
theorem Upto.all {n : Nat} {ys : List (Fin n)} (h : Upto ys n) (j : Fin n) : j ∈ ys := by
  have h1 : j.val ∈ ys.map Fin.val := by rw [h, List.mem_range]; exact j.isLt
  obtain ⟨y, hy, e⟩ := List.mem_map.1 h1
  rwa [← Fin.ext e]
set_option maxRecDepth 100000 in
set_option maxHeartbeats 4000000 in
theorem recover_any (M : Nat → Prop) (xs : List Rng) (A : Option Addr) (c : Nat) (i off : Int) (w : World) (hr : Rd M w A (rngC xs)) (hx : rightP xs = true) :
    Calls Tryz.prog 153 #[.slice A xs.length c, .int .i64 i, .int .i64 off] w fun e w' => e = .returned (.tuple #[.int .i64 (recF xs i off).1, .int .i64 (recF xs i off).2]) ∧ Fr Nob w w' := by
  refine callsIn_wide.1 (?_ : CallsIn Fence.wide 3 _ _ _ _ _)
  refine callsIn_of_wp_marks Tryz.func153 rfl trivial ?_ rfl
  simp only [Tryz.ntmps153, List.size_toArray, List.length_cons, List.length_nil, Nat.reduceAdd, Nat.reduceSub, Array.replicate_succ, Array.replicate_zero, List.push_toArray, List.append_toArray, List.nil_append, List.cons_append]
  obtain ⟨h4, hok⟩ := rightP_ok hx
  have HRd := Lib.hid hr
  have HOK := Lib.hid hok
  have HX := Lib.hid hx
  clear hr hok hx
  gi_wp2
  obtain ⟨W, hW⟩ : ∃ W, (((((w.alloc (.cells #[.slice A xs.length c] 148)).alloc (.cells #[.int .i64 i] 3)).alloc (.cells #[.int .i64 off] 3)).alloc (.cells #[.int .i64 0] 3)).alloc (.cells #[.int .i64 0] 25)) = W := ⟨_, rfl⟩
  have HF := Lib.hid (show Fr Nob w W by rw [← hW]; exact ((((((Fr.refl _ _).alloc _).alloc _).alloc _).alloc _).alloc _))
  have h0 : Blk W w.heap.size [.slice A xs.length c] 148 := by rw [← hW]; exact ((((Blk.new w _ _).alloc _).alloc _).alloc _).alloc _
  have h1 : Blk W (w.heap.size + 1) [.int .i64 i] 3 := by rw [← hW]; exact (((Blk.new_at _ _ _ (w.heap.size + 1) (by simp)).alloc _).alloc _).alloc _
  have h2 : Blk W (w.heap.size + 1 + 1) [.int .i64 off] 3 := by rw [← hW]; exact ((Blk.new_at _ _ _ (w.heap.size + 1 + 1) (by simp)).alloc _).alloc _
  have h3 : Blk W (w.heap.size + 1 + 1 + 1) [.int .i64 0] 3 := by rw [← hW]; exact (Blk.new_at _ _ _ (w.heap.size + 1 + 1 + 1) (by simp)).alloc _
  have h5 : Blk W (w.heap.size + 1 + 1 + 1 + 1) [.int .i64 0] 25 := by rw [← hW]; exact Blk.new_at _ _ _ (w.heap.size + 1 + 1 + 1 + 1) (by simp)
  rw [hW]
  clear hW
  refine ⟨trivial, callsIn_wide.2 ((posright_any M xs A c W (HRd.out.fr HF.out (fun _ _ h => h.elim)) (by omega)).mono ?_)⟩
  rintro e w1 ⟨rfl, hF1⟩
  rw [HX.out]
  have HF1 := Lib.hid (HF.out.same hF1)
  have g0 := h0.fr hF1 (fun h => h)
  have g1 := h1.fr hF1 (fun h => h)
  have g2 := h2.fr hF1 (fun h => h)
  have g3 := h3.fr hF1 (fun h => h)
  have g4 := h5.fr hF1 (fun h => h)
  clear h0 h1 h2 h3 h5 hF1
  have c0 := g0.cell 0
  have l0 := g0.lt
  simp only [List.getElem?_cons_zero] at c0
  have G0 := Lib.hid g0
  have G1 := Lib.hid g1
  have G2 := Lib.hid g2
  have G3 := Lib.hid g3
  have G4 := Lib.hid g4
  clear g0 g1 g2 g3 g4
  gi_wp2
  refine ⟨trivial, callsIn_wide.2 ((poseach_any A xs.length c w1).mono ?_)⟩
  rintro e w2 ⟨rfl, hw2⟩
  have HF2 := Lib.hid (show Fr Nob w w2 by rw [hw2]; exact HF1.out.alloc _)
  have HC := Lib.hid (show Blk w2 w1.heap.size [.slice A xs.length c] 148 by rw [hw2]; exact Blk.new _ _ _)
  have e0 : Blk w2 w.heap.size [.slice A xs.length c] 148 := by rw [hw2]; exact G0.out.alloc _
  have e1 : Blk w2 (w.heap.size + 1) [.int .i64 i] 3 := by rw [hw2]; exact G1.out.alloc _
  have e2 : Blk w2 (w.heap.size + 1 + 1) [.int .i64 off] 3 := by rw [hw2]; exact G2.out.alloc _
  have e3 : Blk w2 (w.heap.size + 1 + 1 + 1) [.int .i64 0] 3 := by rw [hw2]; exact G3.out.alloc _
  have e4 : Blk w2 (w.heap.size + 1 + 1 + 1 + 1) [.int .i64 0] 25 := by rw [hw2]; exact G4.out.alloc _
  clear hw2 c0 l0
  have E0 := Lib.hid e0
  have E1 := Lib.hid e1
  have E2 := Lib.hid e2
  have E3 := Lib.hid e3
  have E4 := Lib.hid e4
  have hlt4 := e4.lt
  clear e0 e1 e2 e3 e4
  gi_wp2
  refine wpIn_rangeFunc_ownF rfl (by omega : 1 ≤ 3) (gf := 179) (lb := #[.pointer (some ⟨w1.heap.size, 0, none⟩)]) rfl trivial (enters_of Tryz.func179 (by kernel_rfl) rfl)
    (each_stops Fence.wide 2 trivial rfl (by omega) w1.heap.size w.heap.size A c xs HOK.out h4 w2 HC.out.lt HF2.out.size (HC.out.cell 0) ((HRd.out.bound.mono (fun _ h => .inr h)).fr HF2.out (fun _ _ h => h.elim))) KpR.trans (KpR.putObj HF2.out.size) (Below.refl _ _) (fun _ => rfl)
    (fun pre W => Fr Nob w2 W ∧ ∀ j ∈ pre, hitF xs i off j = false)
    (fun c pre W => c = .ret ∧ ∃ j, hitF xs i off j = true ∧ Fr (fun k => k = w.heap.size + 1 + 1 + 1 ∨ k = w.heap.size + 1 + 1 + 1 + 1) w2 W ∧ Blk W (w.heap.size + 1 + 1 + 1) [.int .i64 (begF xs j + off)] 3 ∧ Blk W (w.heap.size + 1 + 1 + 1 + 1) [.int .i64 0] 25)
    ((ownFrom_fr (Nat.le_refl _)).and (ownFrom_pure _))
    (fun c => (ownFrom_pure _).and (ownFrom_ex (fun j => (ownFrom_pure _).and ((ownFrom_fr (Nat.le_refl _)).and ((ownFrom_blk (by omega) (fun _ => [.int .i64 (begF xs j + off)]) _).and (ownFrom_blk (by omega) (fun _ => [.int .i64 0]) _))))))
    ⟨Fr.refl _ _, by simp⟩ ?a1 ?assign ?body ?done ?stop
  case assign =>
    intro l x W K hK
    gi_wp2
    exact hK
  case body =>
    rintro l pre x W ⟨hF, hP⟩ hlt
    obtain ⟨ad, rfl, _, hlb, _, q⟩ := Rd.elt Rng.cells_len (by omega) ((HRd.out.fr HF2.out (fun _ _ h => h.elim)).fr hF (fun _ _ h => h.elim)) x.isLt
    have q2 := q 1 (by omega)
    have HH := Lib.hid (show hitF xs i off x = (decide ((x.val : Int) = i) && decide (0 ≤ off) && decide (off ≤ xs[x.val].n)) from rfl)
    have HBG := Lib.hid (show ∃ b, begF xs x.val = b ∧ -1000000 ≤ b ∧ b ≤ 1000000 from ⟨_, rfl, by
      have h1 := dF_bound xs HOK.out x.val (Nat.le_of_lt x.isLt)
      have h2 := HOK.out xs[x.val] (List.getElem_mem _)
      have h3 := x.isLt
      unfold okR at h2
      simp only [begF, List.getElem?_eq_getElem x.isLt, Option.getD_some]
      omega⟩)
    clear q
    have hxl := x.isLt
    have hrn : xs[x.val].n ≤ 65536 := by
      have h2 := HOK.out xs[x.val] (List.getElem_mem _)
      unfold okR at h2
      omega
    generalize xs[x.val] = r at q2 HH hrn
    simp only [Rng.cells, List.getElem?_cons_zero, List.getElem?_cons_succ, Nat.reduceAdd] at q2
    have d0 := (E0.out.fr hF (fun h => h)).cell 0
    have d1 := (E1.out.fr hF (fun h => h)).cell 0
    have d2 := (E2.out.fr hF (fun h => h)).cell 0
    have l0 := (E0.out.fr hF (fun h => h)).lt
    have l1 := (E1.out.fr hF (fun h => h)).lt
    have l2 := (E2.out.fr hF (fun h => h)).lt
    simp only [List.getElem?_cons_zero] at d0 d1 d2
    have HFW := Lib.hid hF
    have HP := Lib.hid hP
    obtain ⟨b, hb, hb1, hb2⟩ := HBG.out
    have HB := Lib.hid hb
    rw [hb]
    clear hF hP hb
    obtain ⟨k, hk⟩ : ∃ k : Nat, x.val = k := ⟨_, rfl⟩
    have HK := Lib.hid hk
    rw [hk] at q2 HH hxl ⊢
    clear hk
    have hki : ((k : Int) < (xs.length : Int)) := by omega
    gi_wp2
    obtain ⟨z1, hz1⟩ : ∃ z, ((k : Int) == i) = z := ⟨_, rfl⟩
    have HZ1 := Lib.hid hz1
    cases z1
    · have HHF := Lib.hid (show hitF xs i off x = false by
        rw [HH.out]
        have := HZ1.out
        rw [beq_eq_false_iff_ne] at this
        simp [this])
      refine region_round_still (by kernel_rfl) (by kernel_rfl) (by kernel_rfl) ?hQ ?_
      case hQ => repeat (first | refine notOut_then ?_ | refine notOut_block ?_ | exact notOut_own)
      refine .step (fun K hK => ?_)
      go_simp
      refine hK _ ?_
      clear hK K
      refine .step (fun K hK => ?_)
      go_simp
      refine hK _ ?_
      clear hK K
      refine .step (fun K hK => ?_)
      go_simp
      refine hK _ ?_
      clear hK K
      refine .step (fun K hK => ?_)
      go_simp
      refine hK _ ?_
      clear hK K
      refine .skip (by kernel_rfl) ?_
      simp only [Act.put, List.setIfInBounds_toArray, List.set_cons_zero, List.set_cons_succ]
      refine .skip (by kernel_rfl) ?_
      simp only [Act.put, List.setIfInBounds_toArray, List.set_cons_zero, List.set_cons_succ]
      refine .pick false (.bool false) rfl (by kernel_rfl) rfl rfl ?_
      simp only [Act.put, List.setIfInBounds_toArray, List.set_cons_zero, List.set_cons_succ]
      refine .move (.bool false) rfl (by kernel_rfl) rfl ?_
      simp only [Act.put, List.setIfInBounds_toArray, List.set_cons_zero, List.set_cons_succ]
      refine .skip (by kernel_rfl) ?_
      simp only [Act.put, List.setIfInBounds_toArray, List.set_cons_zero, List.set_cons_succ]
      refine .skip (by kernel_rfl) ?_
      simp only [Act.put, List.setIfInBounds_toArray, List.set_cons_zero, List.set_cons_succ]
      refine .skip (by kernel_rfl) ?_
      simp only [Act.put, List.setIfInBounds_toArray, List.set_cons_zero, List.set_cons_succ]
      refine .skip (by kernel_rfl) ?_
      simp only [Act.put, List.setIfInBounds_toArray, List.set_cons_zero, List.set_cons_succ]
      refine .skip (by kernel_rfl) ?_
      simp only [Act.put, List.setIfInBounds_toArray, List.set_cons_zero, List.set_cons_succ]
      refine .skip (by kernel_rfl) ?_
      simp only [Act.put, List.setIfInBounds_toArray, List.set_cons_zero, List.set_cons_succ]
      refine .skip (by kernel_rfl) ?_
      simp only [Act.put, List.setIfInBounds_toArray, List.set_cons_zero, List.set_cons_succ]
      refine .pick false (.bool false) rfl (by kernel_rfl) rfl rfl ?_
      simp only [Act.put, List.setIfInBounds_toArray, List.set_cons_zero, List.set_cons_succ]
      refine .nil ?_
      gi_wp2
      exact ⟨KeepsOthers.drew _, KpR.drew _ _, HFW.out.drew, fun j hj => (List.mem_append.1 hj).elim (HP.out j) (fun h => by rw [List.mem_singleton.1 h]; exact HHF.out)⟩
    · by_cases h2 : 0 ≤ off
      · by_cases h3 : off ≤ r.n
        · have HHF := Lib.hid (show hitF xs i off x = true by
            rw [HH.out]
            have := HZ1.out
            rw [beq_iff_eq] at this
            simp [this, h2, h3])
          refine region_round_still (by kernel_rfl) (by kernel_rfl) (by kernel_rfl) ?hQ ?_
          case hQ => repeat (first | refine notOut_then ?_ | refine notOut_block ?_ | exact notOut_own)
          refine .step (fun K hK => ?_)
          go_simp
          refine hK _ ?_
          clear hK K
          refine .step (fun K hK => ?_)
          go_simp
          refine hK _ ?_
          clear hK K
          refine .step (fun K hK => ?_)
          go_simp
          refine hK _ ?_
          clear hK K
          refine .step (fun K hK => ?_)
          go_simp
          refine hK _ ?_
          clear hK K
          refine .want (by kernel_rfl) (fun K hK => ?_)
          go_simp
          refine hK _ ?_
          clear hK K
          refine .want (by kernel_rfl) (fun K hK => ?_)
          go_simp
          refine hK _ ?_
          clear hK K
          refine .pick true (.bool true) rfl (by kernel_rfl) rfl rfl ?_
          simp only [Act.put, List.setIfInBounds_toArray, List.set_cons_zero, List.set_cons_succ]
          refine .move (.bool true) rfl (by kernel_rfl) rfl ?_
          simp only [Act.put, List.setIfInBounds_toArray, List.set_cons_zero, List.set_cons_succ]
          refine .want (by kernel_rfl) (fun K hK => ?_)
          go_simp
          refine hK _ ?_
          clear hK K
          refine .want (by kernel_rfl) (fun K hK => ?_)
          go_simp
          refine hK _ ?_
          clear hK K
          refine .want (by kernel_rfl) (fun K hK => ?_)
          go_simp
          refine hK _ ?_
          clear hK K
          refine .want (by kernel_rfl) (fun K hK => ?_)
          go_simp
          refine hK _ ?_
          clear hK K
          refine .want (by kernel_rfl) (fun K hK => ?_)
          go_simp
          refine hK _ ?_
          clear hK K
          refine .want (by kernel_rfl) (fun K hK => ?_)
          go_simp
          refine hK _ ?_
          clear hK K
          refine .want (by kernel_rfl) (fun K hK => ?_)
          go_simp
          refine hK _ ?_
          clear hK K
          refine .pick true (.bool true) rfl (by kernel_rfl) rfl rfl ?_
          simp only [Act.put, List.setIfInBounds_toArray, List.set_cons_zero, List.set_cons_succ]
          refine .nil ?_
          have d3 := (E3.out.fr HFW.out (fun h => h)).cell 0
          have d4 := (E4.out.fr HFW.out (fun h => h)).cell 0
          have f3 := (E3.out.fr HFW.out (fun h => h)).frozen 0
          have f4 := (E4.out.fr HFW.out (fun h => h)).frozen 0
          have l3 := (E3.out.fr HFW.out (fun h => h)).lt
          have l4 := (E4.out.fr HFW.out (fun h => h)).lt
          simp only [List.getElem?_cons_zero] at d3 d4
          gi_wp2
          have hB3 := E3.out.fr HFW.out (fun h => h)
          have hB4 := E4.out.fr HFW.out (fun h => h)
          refine ⟨((KeepsOthers.setCell _ _ _).trans (KeepsOthers.setCell _ _ _)).trans (KeepsOthers.drew _), rfl, x, HHF.out, ?_, ?_, ?_⟩
          · exact ((HFW.out.any.setCell (p := ⟨w.heap.size + 1 + 1 + 1, 0, none⟩) (.inl (.inl rfl)) _).setCell (p := ⟨w.heap.size + 1 + 1 + 1 + 1, 0, none⟩) (.inl (.inr rfl)) _).drew
          · rw [HB.out]
            exact ((hB3.set 0 (.int .i64 (b + off))).far (p := ⟨w.heap.size + 1 + 1 + 1 + 1, 0, none⟩) (by simp) _).drew
          · exact ((hB4.far (p := ⟨w.heap.size + 1 + 1 + 1, 0, none⟩) (by simp) (.int .i64 (b + off))).set 0 (.int .i64 0)).drew
        · have HHF := Lib.hid (show hitF xs i off x = false by rw [HH.out]; simp [h3])
          refine region_round_still (by kernel_rfl) (by kernel_rfl) (by kernel_rfl) ?hQ ?_
          case hQ => repeat (first | refine notOut_then ?_ | refine notOut_block ?_ | exact notOut_own)
          refine .step (fun K hK => ?_)
          go_simp
          refine hK _ ?_
          clear hK K
          refine .step (fun K hK => ?_)
          go_simp
          refine hK _ ?_
          clear hK K
          refine .step (fun K hK => ?_)
          go_simp
          refine hK _ ?_
          clear hK K
          refine .step (fun K hK => ?_)
          go_simp
          refine hK _ ?_
          clear hK K
          refine .want (by kernel_rfl) (fun K hK => ?_)
          go_simp
          refine hK _ ?_
          clear hK K
          refine .want (by kernel_rfl) (fun K hK => ?_)
          go_simp
          refine hK _ ?_
          clear hK K
          refine .pick true (.bool true) rfl (by kernel_rfl) rfl rfl ?_
          simp only [Act.put, List.setIfInBounds_toArray, List.set_cons_zero, List.set_cons_succ]
          refine .move (.bool true) rfl (by kernel_rfl) rfl ?_
          simp only [Act.put, List.setIfInBounds_toArray, List.set_cons_zero, List.set_cons_succ]
          refine .want (by kernel_rfl) (fun K hK => ?_)
          go_simp
          refine hK _ ?_
          clear hK K
          refine .want (by kernel_rfl) (fun K hK => ?_)
          go_simp
          refine hK _ ?_
          clear hK K
          refine .want (by kernel_rfl) (fun K hK => ?_)
          go_simp
          refine hK _ ?_
          clear hK K
          refine .want (by kernel_rfl) (fun K hK => ?_)
          go_simp
          refine hK _ ?_
          clear hK K
          refine .want (by kernel_rfl) (fun K hK => ?_)
          go_simp
          refine hK _ ?_
          clear hK K
          refine .want (by kernel_rfl) (fun K hK => ?_)
          go_simp
          refine hK _ ?_
          clear hK K
          refine .want (by kernel_rfl) (fun K hK => ?_)
          go_simp
          refine hK _ ?_
          clear hK K
          refine .pick true (.bool false) rfl (by kernel_rfl) rfl rfl ?_
          simp only [Act.put, List.setIfInBounds_toArray, List.set_cons_zero, List.set_cons_succ]
          refine .nil ?_
          gi_wp2
          exact ⟨KeepsOthers.drew _, KpR.drew _ _, HFW.out.drew, fun j hj => (List.mem_append.1 hj).elim (HP.out j) (fun h => by rw [List.mem_singleton.1 h]; exact HHF.out)⟩
      · have HHF := Lib.hid (show hitF xs i off x = false by rw [HH.out]; simp [h2])
        refine region_round_still (by kernel_rfl) (by kernel_rfl) (by kernel_rfl) ?hQ ?_
        case hQ => repeat (first | refine notOut_then ?_ | refine notOut_block ?_ | exact notOut_own)
        refine .step (fun K hK => ?_)
        go_simp
        refine hK _ ?_
        clear hK K
        refine .step (fun K hK => ?_)
        go_simp
        refine hK _ ?_
        clear hK K
        refine .step (fun K hK => ?_)
        go_simp
        refine hK _ ?_
        clear hK K
        refine .step (fun K hK => ?_)
        go_simp
        refine hK _ ?_
        clear hK K
        refine .want (by kernel_rfl) (fun K hK => ?_)
        go_simp
        refine hK _ ?_
        clear hK K
        refine .want (by kernel_rfl) (fun K hK => ?_)
        go_simp
        refine hK _ ?_
        clear hK K
        refine .pick true (.bool false) rfl (by kernel_rfl) rfl rfl ?_
        simp only [Act.put, List.setIfInBounds_toArray, List.set_cons_zero, List.set_cons_succ]
        refine .move (.bool false) rfl (by kernel_rfl) rfl ?_
        simp only [Act.put, List.setIfInBounds_toArray, List.set_cons_zero, List.set_cons_succ]
        refine .skip (by kernel_rfl) ?_
        simp only [Act.put, List.setIfInBounds_toArray, List.set_cons_zero, List.set_cons_succ]
        refine .skip (by kernel_rfl) ?_
        simp only [Act.put, List.setIfInBounds_toArray, List.set_cons_zero, List.set_cons_succ]
        refine .skip (by kernel_rfl) ?_
        simp only [Act.put, List.setIfInBounds_toArray, List.set_cons_zero, List.set_cons_succ]
        refine .skip (by kernel_rfl) ?_
        simp only [Act.put, List.setIfInBounds_toArray, List.set_cons_zero, List.set_cons_succ]
        refine .skip (by kernel_rfl) ?_
        simp only [Act.put, List.setIfInBounds_toArray, List.set_cons_zero, List.set_cons_succ]
        refine .skip (by kernel_rfl) ?_
        simp only [Act.put, List.setIfInBounds_toArray, List.set_cons_zero, List.set_cons_succ]
        refine .skip (by kernel_rfl) ?_
        simp only [Act.put, List.setIfInBounds_toArray, List.set_cons_zero, List.set_cons_succ]
        refine .pick false (.bool false) rfl (by kernel_rfl) rfl rfl ?_
        simp only [Act.put, List.setIfInBounds_toArray, List.set_cons_zero, List.set_cons_succ]
        refine .nil ?_
        gi_wp2
        exact ⟨KeepsOthers.drew _, KpR.drew _ _, HFW.out.drew, fun j hj => (List.mem_append.1 hj).elim (HP.out j) (fun h => by rw [List.mem_singleton.1 h]; exact HHF.out)⟩
  case done =>
    rintro D ys W hD hU ⟨hF, hP⟩ hK
    have d3 := (E3.out.fr hF (fun h => h)).cell 0
    have d4 := (E4.out.fr hF (fun h => h)).cell 0
    have f3 := (E3.out.fr hF (fun h => h)).frozen 0
    have f4 := (E4.out.fr hF (fun h => h)).frozen 0
    have l3 := (E3.out.fr hF (fun h => h)).lt
    have l4 := (E4.out.fr hF (fun h => h)).lt
    simp only [List.getElem?_cons_zero] at d3 d4
    have HFW := Lib.hid hF
    have HP := Lib.hid hP
    have HKD := Lib.hid hK
    have HU := Lib.hid hU
    clear hF hP hK hU
    gi_wp2
    have hB3 := E3.out.fr HFW.out (fun h => h)
    have hB4 := E4.out.fr HFW.out (fun h => h)
    refine ⟨by simp, .inl ⟨_, _, rfl, run_takeDeferred (((KeepsOthers.setCell _ _ _).trans (KeepsOthers.setCell _ _ _)).same D _ HKD.out rfl), ?_⟩⟩
    have HFE := Lib.hid (fr_putObj (M := fun k => k = w.heap.size + 1 + 1 + 1 ∨ k = w.heap.size + 1 + 1 + 1 + 1) (.deferred none) ((HFW.out.any.setCell (p := ⟨w.heap.size + 1 + 1 + 1, 0, none⟩) (.inl (.inl rfl)) (.int .i64 0)).setCell (p := ⟨w.heap.size + 1 + 1 + 1 + 1, 0, none⟩) (.inl (.inr rfl)) (.int .i64 1)) hD)
    have p3 := (blk_putObj (D := D) (.deferred none) ((hB3.set 0 (.int .i64 0)).far (p := ⟨w.heap.size + 1 + 1 + 1 + 1, 0, none⟩) (by simp) (.int .i64 1)) (by omega)).cell 0
    have p4 := (blk_putObj (D := D) (.deferred none) ((hB4.far (p := ⟨w.heap.size + 1 + 1 + 1, 0, none⟩) (by simp) (.int .i64 0)).set 0 (.int .i64 1)) (by omega)).cell 0
    simp only [List.set_cons_zero, List.getElem?_cons_zero] at p3 p4
    generalize ((W.setCell ⟨w.heap.size + 1 + 1 + 1, 0, none⟩ (.int .i64 0)).setCell ⟨w.heap.size + 1 + 1 + 1 + 1, 0, none⟩ (.int .i64 1)).putObj D (.deferred none) = WE at HFE p3 p4 ⊢
    refine ⟨.tuple #[.int .i64 0, .int .i64 1], by simp [results, go_sem, p3, p4], ?_⟩
    rw [recF_none (fun j => HP.out j (HU.out.all j))]
    exact ⟨rfl, HF2.out.trans HFE.out (fun k hk h => by rcases h with rfl | rfl <;> omega)⟩
  case stop =>
    rintro D c pre W hD ⟨k, hk, hU⟩ ⟨rfl, j, hj, hF, hb3, hb4⟩ hK
    gi_wp2
    refine ⟨by simp, .inl ⟨_, _, rfl, run_takeDeferred hK, ?_⟩⟩
    have HFE := Lib.hid (fr_putObj (.deferred none) hF hD)
    have p3 := (blk_putObj (D := D) (.deferred none) hb3 (by omega)).cell 0
    have p4 := (blk_putObj (D := D) (.deferred none) hb4 (by omega)).cell 0
    simp only [List.getElem?_cons_zero] at p3 p4
    generalize W.putObj D (.deferred none) = WE at HFE p3 p4 ⊢
    refine ⟨.tuple #[.int .i64 (begF xs j + off), .int .i64 0], by simp [results, go_sem, p3, p4], ?_⟩
    rw [recF_some hj]
    exact ⟨rfl, HF2.out.trans HFE.out (fun k hk h => by rcases h with rfl | rfl <;> omega)⟩
end Go.Proofs.YtldcffonfidbcaaGreatDoor

/- Chapter 8: what undoes a map: the plain law. -/
namespace Go.Proofs.YtldcffonfidbcaaGreatDoor
open Go.RowKit Go.Shelf
theorem infoRng : (Tryz.prog.info? 205).map (fun i => (i.zero, i.size, i.bytes)) = some (some (.agg #[.int .i64 0, .int .i64 0, .int .i64 0]), 3, 24) := by kernel_rfl
end Go.Proofs.YtldcffonfidbcaaGreatDoor

/- Chapter 8: a place through a map. -/
namespace Go.Proofs.YtldcffonfidbcaaGreatDoor
open Go.RowKit Go.Shelf
attribute [local go_sem] Oper.semAt_some
structure Spot where
  a : Int
  g : Bool
  i : Int
  o : Int
def Spot.cells (s : Spot) : List Value := spotC s.a s.g s.i s.o
/-- Where a place comes to lie that stands in a range. -/
def spotF (b p side : Int) (j : Nat) (r : Rng) : Spot :=
  if side < 0 ∧ p ≠ r.a ∨ 0 ≤ side ∧ p ≠ r.a + r.o then ⟨if withinL r p side = true then b else b + r.n, withinG r p, j, p - r.a⟩ else ⟨if withinL r p side = true then b else b + r.n, withinG r p, -1, 0⟩
def mapGo (xs : List Rng) (p side : Int) : Nat → List Rng → Spot
  | k, [] => ⟨p + dF xs k, false, -1, 0⟩
  | k, r :: rest => if p < r.a then ⟨p + dF xs k, false, -1, 0⟩ else if p ≤ r.a + r.o then spotF (begF xs k) p side k r else mapGo xs p side (k + 1) rest
/-- 'Map', of a map that may be: the spot; its error. -/
def posmapF (xs : List Rng) (p side : Int) : Spot × Int := if p < 0 ∨ 65536 < p then (⟨0, false, 0, 0⟩, 1) else (mapGo xs p side 0 xs, 0)
/-- A range that lies ahead of the place. -/
def passF (xs : List Rng) (p : Int) (j : Fin xs.length) : Prop := xs[j.val].a + xs[j.val].o < p ∧ xs[j.val].a ≤ p
/-- What has come of the place behind some. -/
def atP {n : Nat} (xs : List Rng) (p : Int) (pre : List (Fin n)) : Int := match pre.getLast? with | none => p | some j => p + dF xs (j.val + 1)
theorem atP_snoc {n : Nat} (xs : List Rng) (p : Int) (pre : List (Fin n)) (j : Fin n) : atP xs p (pre ++ [j]) = p + dF xs (j.val + 1) := by simp [atP]
theorem atP_upto {n : Nat} (xs : List Rng) (p : Int) {pre : List (Fin n)} {k : Nat} (h : Upto pre k) : atP xs p pre = p + dF xs k := by
  rcases List.eq_nil_or_concat pre with rfl | ⟨ini, j, rfl⟩
  · have := h.len; simp at this; subst this; simp [atP, dF]
  · rw [List.concat_eq_append, atP_snoc]
    have hl := h.len
    simp at hl
    have h2 : ((ini.concat j).map Fin.val)[ini.length]? = (List.range k)[ini.length]? := by rw [h]
    rw [List.concat_eq_append, List.map_append, List.getElem?_append_right (by simp), List.getElem?_range (by omega)] at h2
    simp at h2
    rw [h2, hl]
theorem mapGo_pass (xs : List Rng) (p side : Int) : ∀ (k : Nat), k ≤ xs.length → (∀ j : Fin xs.length, j.val < k → passF xs p j) → mapGo xs p side 0 xs = mapGo xs p side k (xs.drop k)
  | 0, _, _ => rfl
  | k + 1, hk, h => by
    rw [mapGo_pass xs p side k (by omega) (fun j hj => h j (by omega)), List.drop_eq_getElem_cons (show k < xs.length by omega), mapGo]
    have hp : xs[k].a + xs[k].o < p ∧ xs[k].a ≤ p := h ⟨k, by omega⟩ (by simp)
    rw [if_neg (by omega), if_neg (by omega)]
theorem Upto.pre {n : Nat} {ini : List (Fin n)} {j : Fin n} {k : Nat} (h : Upto (ini ++ [j]) k) : k = j.val + 1 ∧ Upto ini j.val := by
  have hl := h.len
  simp at hl
  have h2 : ((ini ++ [j]).map Fin.val)[ini.length]? = (List.range k)[ini.length]? := by rw [h]
  rw [List.map_append, List.getElem?_append_right (by simp), List.getElem?_range (by omega)] at h2
  simp at h2
  refine ⟨by omega, ?_⟩
  unfold Upto at h ⊢
  rw [List.map_append, ← hl, List.range_succ] at h
  have := List.append_inj_left' h (by simp)
  rw [this, h2]
theorem Upto.below {n : Nat} {pre : List (Fin n)} {k : Nat} (h : Upto pre k) (j : Fin n) (hj : j.val < k) : j ∈ pre := by
  have h1 : j.val ∈ pre.map Fin.val := by rw [h, List.mem_range]; exact hj
  obtain ⟨y, hy, e⟩ := List.mem_map.1 h1
  rwa [← Fin.ext e]
theorem mapGo_done {xs : List Rng} {p : Int} (side : Int) (h : ∀ j, passF xs p j) : mapGo xs p side 0 xs = ⟨p + dF xs xs.length, false, -1, 0⟩ := by
  rw [mapGo_pass xs p side xs.length (Nat.le_refl _) (fun j _ => h j), List.drop_length, mapGo]
theorem mapGo_break {xs : List Rng} {p : Int} (side : Int) (j : Fin xs.length) (h : ∀ i : Fin xs.length, i.val < j.val → passF xs p i) (hb : p < xs[j.val].a) : mapGo xs p side 0 xs = ⟨p + dF xs j.val, false, -1, 0⟩ := by
  rw [mapGo_pass xs p side j.val (Nat.le_of_lt j.isLt) h, List.drop_eq_getElem_cons j.isLt, mapGo, if_pos hb]
theorem mapGo_hit {xs : List Rng} {p : Int} (side : Int) (j : Fin xs.length) (h : ∀ i : Fin xs.length, i.val < j.val → passF xs p i) (hb : ¬ p < xs[j.val].a) (hc : p ≤ xs[j.val].a + xs[j.val].o) : mapGo xs p side 0 xs = spotF (begF xs j.val) p side j.val xs[j.val] := by
  rw [mapGo_pass xs p side j.val (Nat.le_of_lt j.isLt) h, List.drop_eq_getElem_cons j.isLt, mapGo, if_neg hb, if_pos hc]
end Go.Proofs.YtldcffonfidbcaaGreatDoor
