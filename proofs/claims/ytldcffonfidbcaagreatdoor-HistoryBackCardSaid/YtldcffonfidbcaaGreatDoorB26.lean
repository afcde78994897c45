/- A part of the proof for chapter 10: HistDo, HistPush, HistOwn, OrdersG; no conditions. -/
import Derived.Test.YtldcffonfidbcaaGreatDoorB25
import Derived.Deep.RegionLawGrows
import Derived.Test.YtldcffonfidbcaaGreatDoorB23
import Derived.Test.YtldcffonfidbcaaGreatDoorB20
/- History.do: a step done at the document; what undoes it. -/
namespace Go.Proofs.YtldcffonfidbcaaGreatDoor
open Go.RowKit
/-- What 'do' answers. -/
def DoPost (N : Nat → Prop) (w : World) (q p : Nat) (rs : List RuleM) (g : List Grp) (x : HX) (s : StepM) (e : Ending) (w' : World) : Prop :=
  (doE rs g s x.l = 0 → ∃ B' b' A' c', e = .returned (.tuple #[.agg ((invS s x.l).cells (.slice B' (invS s x.l).l.length b')).toArray, .int .i64 0]) ∧ HM N w' q p rs g { x with A := A', c := c', l := doF s x.l } ∧ Rd N w' B' (tokC (invS s x.l).l) ∧ (invS s x.l).l.length ≤ b') ∧
  (doE rs g s x.l ≠ 0 → e = .returned (.tuple #[.agg #[.int .i64 0, .int .i64 0, .int .i64 0, .int .i64 0, .int .i64 0, .int .i64 0, .slice none 0 0, .int .i64 0], .int .i64 (doE rs g s x.l)]) ∧ HM N w' q p rs g x) ∧ Fr (One q) w w'
set_option maxRecDepth 100000 in
set_option maxHeartbeats 4000000 in
theorem hdo_any (N : Nat → Prop) (q p : Nat) (rs : List RuleM) (g : List Grp) (hok : SchOk rs g) (x : HX) (s : StepM) (B : Option Addr) (b : Nat) (w : World) (h : HM N w q p rs g x) (hx : Rd N w B (tokC s.l)) (hb : s.l.length ≤ b) (hn : x.l.length ≤ 100000) (hN : ∀ k, N k → k < w.heap.size) :
    Calls Tryz.prog 28 #[.pointer (some ⟨q, 0, none⟩), .agg (s.cells (.slice B s.l.length b)).toArray] w fun e w' => DoPost N w q p rs g x s e w' := by
  have HH := Lib.hid h
  have HNN := Lib.hid hN
  have HQ := Lib.hid h.blk.lt
  have HDO := Lib.hid (fun (W : World) (hF : Fr Nob w W) => Do_any N Nob Nob p rs g hok s x.A B x.l x.c b W (h.sch.fr0 hF) ((h.doc.mono (M' := Nob) (fun _ h => h.elim)).fr hF (fun _ _ h => h)) ((hx.mono (M' := Nob) (fun _ h => h.elim)).fr hF (fun _ _ h => h)) h.cap hb (by omega))
  have HIN := Lib.hid (fun (W : World) (hF : Fr Nob w W) (h0 : doE rs g s x.l = 0) => stepinv_any Nob Nob s x.A B x.l x.c b W ((h.doc.mono (M' := Nob) (fun _ h => h.elim)).fr hF (fun _ _ h => h)) ((hx.mono (M' := Nob) (fun _ h => h.elim)).fr hF (fun _ _ h => h)) h.cap hb (doE_zero h0).1)
  have HP := Lib.hid (show ∀ (e : Ending) (w' : World), ((doE rs g s x.l = 0 → ∃ B' b' A' c', e = .returned (.tuple #[.agg ((invS s x.l).cells (.slice B' (invS s x.l).l.length b')).toArray, .int .i64 0]) ∧ HM N w' q p rs g { x with A := A', c := c', l := doF s x.l } ∧ Rd N w' B' (tokC (invS s x.l).l) ∧ (invS s x.l).l.length ≤ b') ∧
    (doE rs g s x.l ≠ 0 → e = .returned (.tuple #[.agg #[.int .i64 0, .int .i64 0, .int .i64 0, .int .i64 0, .int .i64 0, .int .i64 0, .slice none 0 0, .int .i64 0], .int .i64 (doE rs g s x.l)]) ∧ HM N w' q p rs g x) ∧ Fr (One q) w w') → DoPost N w q p rs g x s e w' from fun e w' h => h)
  clear h hx hb hn hok hN
  obtain ⟨E, hE⟩ : ∃ E, doE rs g s x.l = E := ⟨_, rfl⟩
  obtain ⟨D, hD⟩ : ∃ D, doF s x.l = D := ⟨_, rfl⟩
  obtain ⟨Y, hY⟩ : ∃ Y, invS s x.l = Y := ⟨_, rfl⟩
  simp only [hE, hD, hY] at HDO HIN HP
  obtain ⟨PO, hPO⟩ : ∃ P, DoPost N w q p rs g x s = P := ⟨_, rfl⟩
  rw [hPO] at HP ⊢
  clear hE hD hY hPO
  obtain ⟨yk, yf, yt, ygf, ygt, yins, ym, yl⟩ := Y
  obtain ⟨yn, hyn⟩ : ∃ n, yl.length = n := ⟨_, rfl⟩
  have HYN := Lib.hid hyn
  clear hyn
  obtain ⟨A, c, l, UA, uc, U, RA, rc, R, lost⟩ := x
  simp only at HH HDO HIN HP
  obtain ⟨q0, q1, _, _, _, _, _, _, _, hql⟩ := HH.out.f5
  obtain ⟨k, f, t, gf, gt, ins, m, x⟩ := s
  simp only [StepM.cells] at *
  obtain ⟨ln, hln⟩ : ∃ ln, l.length = ln := ⟨_, rfl⟩
  obtain ⟨xn, hxn⟩ : ∃ xn, x.length = xn := ⟨_, rfl⟩
  simp only [hln, hxn] at HDO HIN q1 ⊢
  have HLN := Lib.hid hln
  clear hln hxn
  go_enter Tryz.func28, Tryz.ntmps28
  go_upto_region 1 with (fail)
  obtain ⟨W, hW⟩ : ∃ W, (w.alloc (.cells #[.int .i64 k, .int .i64 f, .int .i64 t, .int .i64 gf, .int .i64 gt, .int .i64 ins, .slice B xn b, .int .i64 m] 32)).alloc (.cells #[.int .i64 0, .int .i64 0, .int .i64 0, .int .i64 0, .int .i64 0, .int .i64 0, .slice none 0 0, .int .i64 0] 32) = W := ⟨_, rfl⟩
  have HF := Lib.hid (show Fr Nob w W by rw [← hW]; exact ((Fr.refl _ _).alloc _).alloc _)
  have HS := Lib.hid (show Blk W w.heap.size [.int .i64 k, .int .i64 f, .int .i64 t, .int .i64 gf, .int .i64 gt, .int .i64 ins, .slice B xn b, .int .i64 m] 32 by rw [← hW]; exact (Blk.new _ _ _).alloc _)
  have HZ := Lib.hid (show Blk W (w.heap.size + 1) [.int .i64 0, .int .i64 0, .int .i64 0, .int .i64 0, .int .i64 0, .int .i64 0, .slice none 0 0, .int .i64 0] 32 by rw [← hW]; exact Blk.new_at (w.alloc _) _ _ (w.heap.size + 1) (by simp))
  rw [hW]
  clear hW
  have KS := Lib.hid (show ∀ W' : World, Fr Nob W W' → (fun W' : World => W'.cell? ⟨q, 0, none⟩ = some (.pointer (some ⟨p, 0, none⟩)) ∧ W'.cell? ⟨q, 1, none⟩ = some (.slice A ln c) ∧ W'.cell? ⟨w.heap.size, 0, none⟩ = some (.int .i64 k) ∧ W'.cell? ⟨w.heap.size, 1, none⟩ = some (.int .i64 f) ∧ W'.cell? ⟨w.heap.size, 2, none⟩ = some (.int .i64 t) ∧ W'.cell? ⟨w.heap.size, 3, none⟩ = some (.int .i64 gf) ∧ W'.cell? ⟨w.heap.size, 4, none⟩ = some (.int .i64 gt) ∧ W'.cell? ⟨w.heap.size, 5, none⟩ = some (.int .i64 ins) ∧ W'.cell? ⟨w.heap.size, 6, none⟩ = some (.slice B xn b) ∧ W'.cell? ⟨w.heap.size, 7, none⟩ = some (.int .i64 m)) W' from fun W' hF' => by
    have h := HS.out.fr hF' (fun h => h)
    have hq := (HH.out.fr0 (HF.out.same hF')).f5
    simp only [HLN.out] at hq
    exact ⟨hq.1, hq.2.1, h.cell 0, h.cell 1, h.cell 2, h.cell 3, h.cell 4, h.cell 5, h.cell 6, h.cell 7⟩)
  clear q0 q1 hql
  refine wp_region_held_drew (S := fun W' : World => W'.cell? ⟨q, 0, none⟩ = some (.pointer (some ⟨p, 0, none⟩)) ∧ W'.cell? ⟨q, 1, none⟩ = some (.slice A ln c) ∧ W'.cell? ⟨w.heap.size, 0, none⟩ = some (.int .i64 k) ∧ W'.cell? ⟨w.heap.size, 1, none⟩ = some (.int .i64 f) ∧ W'.cell? ⟨w.heap.size, 2, none⟩ = some (.int .i64 t) ∧ W'.cell? ⟨w.heap.size, 3, none⟩ = some (.int .i64 gf) ∧ W'.cell? ⟨w.heap.size, 4, none⟩ = some (.int .i64 gt) ∧ W'.cell? ⟨w.heap.size, 5, none⟩ = some (.int .i64 ins) ∧ W'.cell? ⟨w.heap.size, 6, none⟩ = some (.slice B xn b) ∧ W'.cell? ⟨w.heap.size, 7, none⟩ = some (.int .i64 m)) (by kernel_rfl) (KS.out _ (Fr.refl _ _).drew) (fun _ => ?_)
  have HFD := Lib.hid ((Fr.refl Nob W).drew)
  generalize W.drew = wd at HFD ⊢
  have HSD := Lib.hid (KS.out wd HFD.out)
  refine take_by (i := 0) (v := .pointer (some ⟨q, 0, none⟩)) rfl HSD.out ?_
  refine take_by (i := 1) (v := .pointer (some ⟨q, 0, none⟩)) rfl HSD.out ?_
  refine take_by (i := 2) (v := .pointer (some ⟨q, 0, none⟩)) rfl HSD.out ?_
  refine take_by (i := 3) (v := .pointer (some ⟨p, 0, none⟩)) rfl HSD.out ?_
  refine take_by (i := 4) (v := .pointer (some ⟨q, 0, none⟩)) rfl HSD.out ?_
  refine take_by (i := 5) (v := .pointer (some ⟨q, 0, none⟩)) rfl HSD.out ?_
  refine take_by (i := 6) (v := .pointer (some ⟨q, 1, none⟩)) rfl HSD.out ?_
  refine take_by (i := 7) (v := .slice A ln c) rfl HSD.out ?_
  refine take_by (i := 8) (v := .agg #[.int .i64 k, .int .i64 f, .int .i64 t, .int .i64 gf, .int .i64 gt, .int .i64 ins, .slice B xn b, .int .i64 m]) rfl HSD.out ?_
  try simp only [List.getElem_toArray, List.getElem_cons_succ, List.getElem_cons_zero, Act.put, List.setIfInBounds_toArray, List.set_cons_zero, List.set_cons_succ]
  refine wpAnyH_ready (rs := [9]) (by kernel_rfl) (by simp) (AllReadyH.cons (o := _) rfl (fun K hK => ?_) AllReadyH.nil)
  go_simp
  refine (HDO.out wd (HF.out.same HFD.out)).mono ?_
  rintro e w2 ⟨v, rfl, hv, hz, hF2⟩
  have HF2 := Lib.hid (HFD.out.same hF2)
  have HV := Lib.hid hv
  have HSZ := Lib.hid HFD.out.size
  clear hF2 hv hz
  go_wp2_with fail
  refine hK.out _ _ (KS.out _ HF2.out) (fun _ => ?_)
  clear hK K
  refine take_by (i := 10) (v := .tuple #[v, .int .i64 E]) rfl (KS.out _ HF2.out) ?_
  refine take_by (i := 11) (v := v) rfl (KS.out _ HF2.out) ?_
  refine take_by (i := 12) (v := .int .i64 E) rfl (KS.out _ HF2.out) ?_
  refine take_by (i := 13) (v := v) rfl (KS.out _ HF2.out) ?_
  refine take_by (i := 14) (v := .int .i64 E) rfl (KS.out _ HF2.out) ?_
  try simp only [List.getElem_toArray, List.getElem_cons_succ, List.getElem_cons_zero, Act.put, List.setIfInBounds_toArray, List.set_cons_zero, List.set_cons_succ]
  refine wpAnyH_done (by kernel_rfl) ?_ _
  have HFW := Lib.hid (HF.out.same HF2.out)
  by_cases h0 : E = 0
  · subst h0
    go_upto_region 4 with (fail)
    obtain ⟨dg, rfl, hdg, hbd⟩ := HV.out rfl
    have HDL := Lib.hid (show W.heap.size ≤ dg from Nat.le_trans HFD.out.size hdg)
    have HDG := Lib.hid (fun (W' : World) (h : Fr Nob w2.drew W') => Blk.fr (show Blk w2.drew dg (tokC D) 40 from hbd) h (fun h => h))
    clear hdg hbd
    obtain ⟨dn, hdn⟩ : ∃ n, D.length = n := ⟨_, rfl⟩
    have HDN := Lib.hid hdn
    rw [hdn]
    clear hdn
    refine wp_region_held_drew (S := fun W' : World => W'.cell? ⟨q, 0, none⟩ = some (.pointer (some ⟨p, 0, none⟩)) ∧ W'.cell? ⟨q, 1, none⟩ = some (.slice A ln c) ∧ W'.cell? ⟨w.heap.size, 0, none⟩ = some (.int .i64 k) ∧ W'.cell? ⟨w.heap.size, 1, none⟩ = some (.int .i64 f) ∧ W'.cell? ⟨w.heap.size, 2, none⟩ = some (.int .i64 t) ∧ W'.cell? ⟨w.heap.size, 3, none⟩ = some (.int .i64 gf) ∧ W'.cell? ⟨w.heap.size, 4, none⟩ = some (.int .i64 gt) ∧ W'.cell? ⟨w.heap.size, 5, none⟩ = some (.int .i64 ins) ∧ W'.cell? ⟨w.heap.size, 6, none⟩ = some (.slice B xn b) ∧ W'.cell? ⟨w.heap.size, 7, none⟩ = some (.int .i64 m)) (by kernel_rfl) (KS.out _ HF2.out.drew) (fun _ => ?_)
    have HFP := Lib.hid (HF2.out.drew)
    generalize w2.drew = we at HFP HDG ⊢
    have HSE := Lib.hid (KS.out we HFP.out)
    refine take_by (i := 0) (v := .pointer (some ⟨q, 0, none⟩)) rfl HSE.out ?_
    refine take_by (i := 1) (v := .pointer (some ⟨q, 0, none⟩)) rfl HSE.out ?_
    refine take_by (i := 2) (v := .pointer (some ⟨q, 1, none⟩)) rfl HSE.out ?_
    refine take_by (i := 3) (v := .slice A ln c) rfl HSE.out ?_
    refine take_by (i := 4) (v := .agg #[.int .i64 k, .int .i64 f, .int .i64 t, .int .i64 gf, .int .i64 gt, .int .i64 ins, .slice B xn b, .int .i64 m]) rfl HSE.out ?_
    try simp only [List.getElem_toArray, List.getElem_cons_succ, List.getElem_cons_zero, Act.put, List.setIfInBounds_toArray, List.set_cons_zero, List.set_cons_succ]
    refine wpAnyH_ready (rs := [5, 9]) (by kernel_rfl) (by simp) (AllReadyH.cons (o := _) rfl (fun K hK => ?_) (AllReadyH.cons (o := _) rfl (fun K hK => ?_) AllReadyH.nil))
    · go_simp
      refine (HIN.out we (HF.out.same HFP.out) rfl).mono ?_
      rintro e w3 ⟨IB, ib, rfl, hIB, hib, hF3⟩
      have HIB := Lib.hid hIB
      have HYB := Lib.hid hib
      have HF23 := Lib.hid hF3
      have HF3 := Lib.hid (HFP.out.same hF3)
      clear hIB hib hF3
      simp only [StepM.cells, HYN.out] at HYB ⊢
      go_wp2_with fail
      refine hK.out _ _ (KS.out _ HF3.out) (fun _ => ?_)
      clear hK K
      try simp only [List.getElem_toArray, List.getElem_cons_succ, List.getElem_cons_zero, Act.put, List.setIfInBounds_toArray, List.set_cons_zero, List.set_cons_succ]
      refine take_by (i := 6) (v := .tuple #[.agg #[.int .i64 yk, .int .i64 yf, .int .i64 yt, .int .i64 ygf, .int .i64 ygt, .int .i64 yins, .slice IB yn ib, .int .i64 ym], .int .i64 0]) rfl (KS.out _ HF3.out) ?_
      refine take_by (i := 7) (v := .agg #[.int .i64 yk, .int .i64 yf, .int .i64 yt, .int .i64 ygf, .int .i64 ygt, .int .i64 yins, .slice IB yn ib, .int .i64 ym]) rfl (KS.out _ HF3.out) ?_
      refine take_by (i := 8) (v := .int .i64 0) rfl (KS.out _ HF3.out) ?_
      try simp only [List.getElem_toArray, List.getElem_cons_succ, List.getElem_cons_zero, Act.put, List.setIfInBounds_toArray, List.set_cons_zero, List.set_cons_succ]
      refine wpAnyH_ready (rs := [9]) (by kernel_rfl) (by simp) (AllReadyH.cons (o := _) rfl (fun K hK => ?_) AllReadyH.nil)
      go_simp
      obtain ⟨r, hr⟩ : ∃ r, w3.heap.size = r := ⟨_, rfl⟩
      obtain ⟨w4, hW4⟩ : ∃ W, w3.alloc (.cells #[.int .i64 0, .int .i64 0, .int .i64 0, .int .i64 0, .int .i64 0, .int .i64 0, .slice none 0 0, .int .i64 0] 32) = W := ⟨_, rfl⟩
      have HFA := Lib.hid (show Fr Nob W w4 by rw [← hW4]; exact HF3.out.alloc _)
      have HBN := Lib.hid (show Blk w4 r [.int .i64 0, .int .i64 0, .int .i64 0, .int .i64 0, .int .i64 0, .int .i64 0, .slice none 0 0, .int .i64 0] 32 by rw [← hW4, ← hr]; exact Blk.new _ _ _)
      have HRW := Lib.hid (show W.heap.size ≤ r by rw [← hr]; exact HF3.out.size)
      have HAA := Lib.hid (show Fr Nob w3 w4 by rw [← hW4]; exact (Fr.refl _ _).alloc _)
      have HRR := Lib.hid hr
      rw [hW4, hr]
      clear hW4 hr
      refine hK.out _ _ (KS.out _ HFA.out) (fun _ => ?_)
      clear hK K
      try simp only [List.getElem_toArray, List.getElem_cons_succ, List.getElem_cons_zero, Act.put, List.setIfInBounds_toArray, List.set_cons_zero, List.set_cons_succ]
      have HF4 := HFA
      have HB4 := HBN
      have HG4 := Lib.hid (HF23.out.same HAA.out)
      have HRE := Lib.hid (show we.heap.size ≤ r by have h1 := HRR.out; have h2 := HF23.out.size; omega)
      have HIB4 := Lib.hid ((HIB.out.bound.fr HAA.out (fun _ _ h => h.elim)).mono (M' := fun k => k < W.heap.size ∨ k = r) (fun k h => by have h1 := HRR.out; have h2 := HFP.out.size; rcases h with h | h; exact .inl (by omega); exact .inr (by omega)))
      try simp only [List.getElem_toArray, List.getElem_cons_succ, List.getElem_cons_zero, Act.put, List.setIfInBounds_toArray, List.set_cons_zero, List.set_cons_succ]
      refine wpAnyH_ready (rs := [10]) (by kernel_rfl) (by simp) (AllReadyH.cons (o := _) rfl (fun K hK => ?_) AllReadyH.nil)
      obtain ⟨z0, z1, z2, z3, z4, z5, z6, z7⟩ := HB4.out.z8
      obtain ⟨b0, b1, b2, b3, b4, b5, b6, b7, zl⟩ := HB4.out.c8
      go_simp
      obtain ⟨hb5, hf5⟩ := store8 HB4.out (.int .i64 yk) (.int .i64 yf) (.int .i64 yt) (.int .i64 ygf) (.int .i64 ygt) (.int .i64 yins) (.slice IB yn ib) (.int .i64 ym)
      obtain ⟨w5, hw5⟩ : ∃ W, ((((((((w4.setCell ⟨r, 0, none⟩ (.int .i64 yk)).setCell ⟨r, 1, none⟩ (.int .i64 yf)).setCell ⟨r, 2, none⟩ (.int .i64 yt)).setCell ⟨r, 3, none⟩ (.int .i64 ygf)).setCell ⟨r, 4, none⟩ (.int .i64 ygt)).setCell ⟨r, 5, none⟩ (.int .i64 yins)).setCell ⟨r, 6, none⟩ (.slice IB yn ib)).setCell ⟨r, 7, none⟩ (.int .i64 ym)) = W := ⟨_, rfl⟩
      simp only [hw5] at hb5 hf5 ⊢
      have HF5 := Lib.hid (HF4.out.trans hf5 (fun k hk e => by have e' : k = r := e; have := HRW.out; omega))
      have HE5 := Lib.hid (HG4.out.trans hf5 (fun k hk e => by have e' : k = r := e; have := HRE.out; omega))
      have HB5 := Lib.hid hb5
      have HIB5 := Lib.hid (HIB4.out.fr hf5 (fun k hk e => .inr e))
      clear hw5 hb5 hf5 z0 z1 z2 z3 z4 z5 z6 z7 b0 b1 b2 b3 b4 b5 b6 b7 zl
      refine hK.out _ _ (KS.out _ HF5.out) (fun _ => ?_)
      clear hK K
      try simp only [List.getElem_toArray, List.getElem_cons_succ, List.getElem_cons_zero, Act.put, List.setIfInBounds_toArray, List.set_cons_zero, List.set_cons_succ]
      refine take_by (i := 11) (v := .int .i64 0) rfl (KS.out _ HF5.out) ?_
      try simp only [List.getElem_toArray, List.getElem_cons_succ, List.getElem_cons_zero, Act.put, List.setIfInBounds_toArray, List.set_cons_zero, List.set_cons_succ]
      refine wpAnyH_done (by kernel_rfl) ?_ _
      have hq9 := (HH.out.fr0 (HF.out.same HF5.out)).f5
      simp only [HLN.out] at hq9
      obtain ⟨q0, q1, _, _, _, u1, _, _, _, hql⟩ := hq9
      have HD5 := Lib.hid (HDG.out _ HE5.out)
      go_upto_region 6 with (fail)
      obtain ⟨W6, hW6⟩ : ∃ W, w5.setCell ⟨q, 1, none⟩ (.slice (some ⟨dg, 0, none⟩) dn dn) = W := ⟨_, rfl⟩
      have HF56 := Lib.hid (show Fr (One q) w5 W6 by rw [← hW6]; exact (Fr.refl (One q) w5).setCell (p := ⟨q, 1, none⟩) (.inl rfl) _)
      have HQ6 := Lib.hid (show Blk W6 q _ _ from by rw [← hW6]; exact (HH.out.fr0 (HF.out.same HF5.out)).blk.set 1 (.slice (some ⟨dg, 0, none⟩) dn dn))
      have HB6 := Lib.hid (HB5.out.fr HF56.out (fun e => by have e' : r = q := e; have h1 := HRW.out; have h2 := HQ.out; have h3 := HF.out.size; omega))
      have HZ6 := Lib.hid ((HZ.out.fr HF5.out (fun h => h)).fr HF56.out (fun e => by have e' : w.heap.size + 1 = q := e; have h1 := HQ.out; omega))
      rw [hW6]
      clear hW6 q0 q1 u1 hql
      obtain ⟨d0, d1, d2, d3, d4, d5, d6, d7, dl⟩ := HB6.out.c8
      obtain ⟨b0, b1, b2, b3, b4, b5, b6, b7, bl⟩ := HZ6.out.c8
      obtain ⟨z0, z1, z2, z3, z4, z5, z6, z7⟩ := HZ6.out.z8
      go_wp2_with fail
      refine ret8m (v := .tuple #[.agg #[.int .i64 yk, .int .i64 yf, .int .i64 yt, .int .i64 ygf, .int .i64 ygt, .int .i64 yins, .slice IB yn ib, .int .i64 ym], .int .i64 0]) HZ6.out rfl (fun WE z0 z1 z2 z3 z4 z5 z6 z7 => by simp [results, go_sem, z0, z1, z2, z3, z4, z5, z6, z7]) (fun WE hFE => ?_)
      have hw := HF.out.size
      have hW2 := HZ.out.lt
      have hq := HQ.out
      have hdg := HDL.out
      have hfin : Fr (One q) w WE := ((HF.out.same HF5.out).any.same HF56.out).trans hFE (fun k hk e => by have e' : k = w.heap.size + 1 := e; omega)
      have hd9 := (HD5.out.fr HF56.out (fun e => by have e' : dg = q := e; omega)).fr hFE (fun e => by have e' : dg = w.heap.size + 1 := e; omega)
      refine HP.out _ _ ⟨fun _ => ⟨IB, ib, some ⟨dg, 0, none⟩, dn, by simp only [HYN.out], ⟨?_, HH.out.mem, HH.out.sch.fr hfin (HH.out.one _), ?_, ?_, HH.out.und.fr hfin (HH.out.one _), HH.out.red.fr hfin (HH.out.one _)⟩, ?_, by rw [HYN.out]; exact HYB.out⟩, fun h => absurd rfl h, hfin⟩
      · have h1 := HQ6.out.fr hFE (fun e => by have e' : q = w.heap.size + 1 := e; omega)
        simpa [HX.cells, HDN.out] using h1
      · exact fun _ => ⟨_, rfl, fun e => by have e' : dg < w.heap.size := HNN.out _ e; omega, fun j u hu => by rw [add_lit]; exact (hd9.cell j).trans hu⟩
      · show D.length ≤ dn; rw [HDN.out]; exact Nat.le_refl _
      · exact ((HIB5.out.fr HF56.out (fun k hk e => by have e' : k = q := e; exact .inl (by omega))).fr hFE (fun k hk e => by have e' : k = w.heap.size + 1 := e; exact .inl (by omega))).mono (fun k e => by have e' := HNN.out _ e; exact .inl (by omega))
    · go_simp
      obtain ⟨r, hr⟩ : ∃ r, we.heap.size = r := ⟨_, rfl⟩
      obtain ⟨wa, hW4⟩ : ∃ W, we.alloc (.cells #[.int .i64 0, .int .i64 0, .int .i64 0, .int .i64 0, .int .i64 0, .int .i64 0, .slice none 0 0, .int .i64 0] 32) = W := ⟨_, rfl⟩
      have HFA := Lib.hid (show Fr Nob W wa by rw [← hW4]; exact HFP.out.alloc _)
      have HBN := Lib.hid (show Blk wa r [.int .i64 0, .int .i64 0, .int .i64 0, .int .i64 0, .int .i64 0, .int .i64 0, .slice none 0 0, .int .i64 0] 32 by rw [← hW4, ← hr]; exact Blk.new _ _ _)
      have HRW := Lib.hid (show W.heap.size ≤ r by rw [← hr]; exact HFP.out.size)
      have HAA := Lib.hid (show Fr Nob we wa by rw [← hW4]; exact (Fr.refl _ _).alloc _)
      have HRR := Lib.hid hr
      rw [hW4, hr]
      clear hW4 hr
      refine hK.out _ _ (KS.out _ HFA.out) (fun _ => ?_)
      clear hK K
      try simp only [List.getElem_toArray, List.getElem_cons_succ, List.getElem_cons_zero, Act.put, List.setIfInBounds_toArray, List.set_cons_zero, List.set_cons_succ]
      try simp only [List.getElem_toArray, List.getElem_cons_succ, List.getElem_cons_zero, Act.put, List.setIfInBounds_toArray, List.set_cons_zero, List.set_cons_succ]
      refine wpAnyH_ready (rs := [5]) (by kernel_rfl) (by simp) (AllReadyH.cons (o := _) rfl (fun K hK => ?_) AllReadyH.nil)
      go_simp
      refine (HIN.out wa (HF.out.same HFA.out) rfl).mono ?_
      rintro e w3 ⟨IB, ib, rfl, hIB, hib, hF3⟩
      have HIB := Lib.hid hIB
      have HYB := Lib.hid hib
      have HF23 := Lib.hid hF3
      have HF3 := Lib.hid (HFA.out.same hF3)
      clear hIB hib hF3
      simp only [StepM.cells, HYN.out] at HYB ⊢
      go_wp2_with fail
      refine hK.out _ _ (KS.out _ HF3.out) (fun _ => ?_)
      clear hK K
      try simp only [List.getElem_toArray, List.getElem_cons_succ, List.getElem_cons_zero, Act.put, List.setIfInBounds_toArray, List.set_cons_zero, List.set_cons_succ]
      refine take_by (i := 6) (v := .tuple #[.agg #[.int .i64 yk, .int .i64 yf, .int .i64 yt, .int .i64 ygf, .int .i64 ygt, .int .i64 yins, .slice IB yn ib, .int .i64 ym], .int .i64 0]) rfl (KS.out _ HF3.out) ?_
      refine take_by (i := 7) (v := .agg #[.int .i64 yk, .int .i64 yf, .int .i64 yt, .int .i64 ygf, .int .i64 ygt, .int .i64 yins, .slice IB yn ib, .int .i64 ym]) rfl (KS.out _ HF3.out) ?_
      refine take_by (i := 8) (v := .int .i64 0) rfl (KS.out _ HF3.out) ?_
      have HF4 := HF3
      have HG4 := Lib.hid (HAA.out.same HF23.out)
      have HRE := Lib.hid (Nat.le_of_eq HRR.out)
      have HB4 := Lib.hid (HBN.out.fr HF23.out (fun h => h))
      have HIB4 := Lib.hid (HIB.out.mono (M' := fun k => k < W.heap.size ∨ k = r) (fun k h => by have h1 := HBN.out.lt; have h2 := HFA.out.size; rcases h with h | h <;> (show k < _; omega)))
      try simp only [List.getElem_toArray, List.getElem_cons_succ, List.getElem_cons_zero, Act.put, List.setIfInBounds_toArray, List.set_cons_zero, List.set_cons_succ]
      refine wpAnyH_ready (rs := [10]) (by kernel_rfl) (by simp) (AllReadyH.cons (o := _) rfl (fun K hK => ?_) AllReadyH.nil)
      obtain ⟨z0, z1, z2, z3, z4, z5, z6, z7⟩ := HB4.out.z8
      obtain ⟨b0, b1, b2, b3, b4, b5, b6, b7, zl⟩ := HB4.out.c8
      go_simp
      obtain ⟨hb5, hf5⟩ := store8 HB4.out (.int .i64 yk) (.int .i64 yf) (.int .i64 yt) (.int .i64 ygf) (.int .i64 ygt) (.int .i64 yins) (.slice IB yn ib) (.int .i64 ym)
      obtain ⟨w5, hw5⟩ : ∃ W, ((((((((w3.setCell ⟨r, 0, none⟩ (.int .i64 yk)).setCell ⟨r, 1, none⟩ (.int .i64 yf)).setCell ⟨r, 2, none⟩ (.int .i64 yt)).setCell ⟨r, 3, none⟩ (.int .i64 ygf)).setCell ⟨r, 4, none⟩ (.int .i64 ygt)).setCell ⟨r, 5, none⟩ (.int .i64 yins)).setCell ⟨r, 6, none⟩ (.slice IB yn ib)).setCell ⟨r, 7, none⟩ (.int .i64 ym)) = W := ⟨_, rfl⟩
      simp only [hw5] at hb5 hf5 ⊢
      have HF5 := Lib.hid (HF4.out.trans hf5 (fun k hk e => by have e' : k = r := e; have := HRW.out; omega))
      have HE5 := Lib.hid (HG4.out.trans hf5 (fun k hk e => by have e' : k = r := e; have := HRE.out; omega))
      have HB5 := Lib.hid hb5
      have HIB5 := Lib.hid (HIB4.out.fr hf5 (fun k hk e => .inr e))
      clear hw5 hb5 hf5 z0 z1 z2 z3 z4 z5 z6 z7 b0 b1 b2 b3 b4 b5 b6 b7 zl
      refine hK.out _ _ (KS.out _ HF5.out) (fun _ => ?_)
      clear hK K
      try simp only [List.getElem_toArray, List.getElem_cons_succ, List.getElem_cons_zero, Act.put, List.setIfInBounds_toArray, List.set_cons_zero, List.set_cons_succ]
      refine take_by (i := 11) (v := .int .i64 0) rfl (KS.out _ HF5.out) ?_
      try simp only [List.getElem_toArray, List.getElem_cons_succ, List.getElem_cons_zero, Act.put, List.setIfInBounds_toArray, List.set_cons_zero, List.set_cons_succ]
      refine wpAnyH_done (by kernel_rfl) ?_ _
      have hq9 := (HH.out.fr0 (HF.out.same HF5.out)).f5
      simp only [HLN.out] at hq9
      obtain ⟨q0, q1, _, _, _, u1, _, _, _, hql⟩ := hq9
      have HD5 := Lib.hid (HDG.out _ HE5.out)
      go_upto_region 6 with (fail)
      obtain ⟨W6, hW6⟩ : ∃ W, w5.setCell ⟨q, 1, none⟩ (.slice (some ⟨dg, 0, none⟩) dn dn) = W := ⟨_, rfl⟩
      have HF56 := Lib.hid (show Fr (One q) w5 W6 by rw [← hW6]; exact (Fr.refl (One q) w5).setCell (p := ⟨q, 1, none⟩) (.inl rfl) _)
      have HQ6 := Lib.hid (show Blk W6 q _ _ from by rw [← hW6]; exact (HH.out.fr0 (HF.out.same HF5.out)).blk.set 1 (.slice (some ⟨dg, 0, none⟩) dn dn))
      have HB6 := Lib.hid (HB5.out.fr HF56.out (fun e => by have e' : r = q := e; have h1 := HRW.out; have h2 := HQ.out; have h3 := HF.out.size; omega))
      have HZ6 := Lib.hid ((HZ.out.fr HF5.out (fun h => h)).fr HF56.out (fun e => by have e' : w.heap.size + 1 = q := e; have h1 := HQ.out; omega))
      rw [hW6]
      clear hW6 q0 q1 u1 hql
      obtain ⟨d0, d1, d2, d3, d4, d5, d6, d7, dl⟩ := HB6.out.c8
      obtain ⟨b0, b1, b2, b3, b4, b5, b6, b7, bl⟩ := HZ6.out.c8
      obtain ⟨z0, z1, z2, z3, z4, z5, z6, z7⟩ := HZ6.out.z8
      go_wp2_with fail
      refine ret8m (v := .tuple #[.agg #[.int .i64 yk, .int .i64 yf, .int .i64 yt, .int .i64 ygf, .int .i64 ygt, .int .i64 yins, .slice IB yn ib, .int .i64 ym], .int .i64 0]) HZ6.out rfl (fun WE z0 z1 z2 z3 z4 z5 z6 z7 => by simp [results, go_sem, z0, z1, z2, z3, z4, z5, z6, z7]) (fun WE hFE => ?_)
      have hw := HF.out.size
      have hW2 := HZ.out.lt
      have hq := HQ.out
      have hdg := HDL.out
      have hfin : Fr (One q) w WE := ((HF.out.same HF5.out).any.same HF56.out).trans hFE (fun k hk e => by have e' : k = w.heap.size + 1 := e; omega)
      have hd9 := (HD5.out.fr HF56.out (fun e => by have e' : dg = q := e; omega)).fr hFE (fun e => by have e' : dg = w.heap.size + 1 := e; omega)
      refine HP.out _ _ ⟨fun _ => ⟨IB, ib, some ⟨dg, 0, none⟩, dn, by simp only [HYN.out], ⟨?_, HH.out.mem, HH.out.sch.fr hfin (HH.out.one _), ?_, ?_, HH.out.und.fr hfin (HH.out.one _), HH.out.red.fr hfin (HH.out.one _)⟩, ?_, by rw [HYN.out]; exact HYB.out⟩, fun h => absurd rfl h, hfin⟩
      · have h1 := HQ6.out.fr hFE (fun e => by have e' : q = w.heap.size + 1 := e; omega)
        simpa [HX.cells, HDN.out] using h1
      · exact fun _ => ⟨_, rfl, fun e => by have e' : dg < w.heap.size := HNN.out _ e; omega, fun j u hu => by rw [add_lit]; exact (hd9.cell j).trans hu⟩
      · show D.length ≤ dn; rw [HDN.out]; exact Nat.le_refl _
      · exact ((HIB5.out.fr HF56.out (fun k hk e => by have e' : k = q := e; exact .inl (by omega))).fr hFE (fun k hk e => by have e' : k = w.heap.size + 1 := e; exact .inl (by omega))).mono (fun k e => by have e' := HNN.out _ e; exact .inl (by omega))
  · have h0' : (E == 0) = false := by simpa using h0
    have hz8 := HZ.out.fr HF2.out (fun h => h)
    obtain ⟨d0, d1, d2, d3, d4, d5, d6, d7, dl⟩ := hz8.c8
    obtain ⟨z0, z1, z2, z3, z4, z5, z6, z7⟩ := hz8.z8
    have HZ8 := Lib.hid hz8
    clear hz8
    go_wp2_with fail
    refine ret8m (v := .tuple #[.agg #[.int .i64 0, .int .i64 0, .int .i64 0, .int .i64 0, .int .i64 0, .int .i64 0, .slice none 0 0, .int .i64 0], .int .i64 E]) HZ8.out rfl (fun WE z0 z1 z2 z3 z4 z5 z6 z7 => by simp [results, go_sem, z0, z1, z2, z3, z4, z5, z6, z7]) (fun WE hF => ?_)
    have hFE := HFW.out.trans hF (fun k hk e => by have e' : k = w.heap.size + 1 := e; omega)
    exact HP.out _ _ ⟨fun h => absurd h h0, fun _ => ⟨rfl, HH.out.fr0 hFE⟩, hFE.any⟩
end Go.Proofs.YtldcffonfidbcaaGreatDoor

/- stack.push: one more step on a stack. -/
namespace Go.Proofs.YtldcffonfidbcaaGreatDoor
open Go.RowKit
theorem infoStep : (Tryz.prog.info? 32).map (fun i => (i.zero, i.size, i.bytes)) = some (some (.agg #[.int .i64 0, .int .i64 0, .int .i64 0, .int .i64 0, .int .i64 0, .int .i64 0, .slice none 0 0, .int .i64 0]), 8, 80) := by kernel_rfl
theorem elemStk : Tryz.prog.elem 57 = 32 := by kernel_rfl
theorem sizeStep (w : World) : (sizeOf 32).run Tryz.prog w = .ok 8 w := by
  obtain ⟨i0, hi, hz0, hz1, hz2⟩ := info_parts infoStep
  simp [sizeOf, typeInfo, hi, hz1]
theorem add_zero' (a : Addr) : a.add 0 = a := by unfold Addr.add; rw [if_pos rfl]
theorem cut_stack (A : Option Addr) (n c m : Nat) (h : m ≤ c) (w : World) :
    (Instr.slice 57 (.slice A n c) none (some (.int .i64 (m : Int))) (some (.int .i64 (m : Int)))).run Tryz.prog w = .ok (.slice A m m) w := by
  rw [run_slice_hm (P := Tryz.prog) (w := w) (t := 57) (a := A) (len := n) (cap := c) (ht := by rw [elemStk]; exact Tryz.underlying57) .i64 .i64 m m (by omega) (by omega) (by omega), elemStk, sizeStep]
  have e : A.map (fun x => x.add 0) = A := by cases A <;> simp [add_zero']
  simp [Result.andThen, sliced, e]
theorem stepC_len (L : List StepA) : (stepC L).length = L.length * 8 := flat_len StepA.cells_len L
attribute [local go_sem high] cut_stack
set_option maxRecDepth 100000 in
set_option maxHeartbeats 4000000 in
theorem push_any (N : Nat → Prop) (A : Option Addr) (c : Nat) (L : List StepA) (x : StepA) (most : Nat) (w : World) (hk : Stk N w A c L) (hx : Rd N w x.B (tokC x.s.l)) (hb : x.s.l.length ≤ x.b) (hm : most = 0 ∨ L.length + 1 ≤ most) (hm2 : most ≤ 1000) (hn : L.length ≤ 1000) (hq : ∀ k, N k → k < w.heap.size) :
    Calls Tryz.prog 29 #[.slice A L.length c, .agg x.cells.toArray, .int .i64 most] w fun e w' => ∃ A' c', e = .returned (.slice A' (L.length + 1) c') ∧ Stk N w' A' c' (L ++ [x]) ∧ Fr Nob w w' := by
  obtain ⟨i0, hi, hz0, hz1, hz2⟩ := info_parts infoStep
  have HK := Lib.hid hk
  have HX := Lib.hid hx
  have HB := Lib.hid hb
  have HQ := Lib.hid hq
  have hcap := hk.cap
  have hnil := hk.nil
  have HSL := Lib.hid (stepC_len L)
  have HXS : Hid (∀ (w' : World) (A' : Option Addr) (c' : Nat), Fr Nob w w' → Rd N w' A' (stepC L ++ x.cells) → L.length + 1 ≤ c' → A' ≠ none → Stk N w' A' c' (L ++ [x])) := Lib.hid fun w' A' c' hf hr hc ha => by
    refine ⟨⟨by simpa [stepC] using hr, fun y hy => ?_, fun y hy => ?_⟩, by simpa using hc, fun h => absurd h ha⟩
    · rcases List.mem_append.1 hy with h | h
      · exact (hk.rows.each y h).fr hf (fun _ _ h => h.elim)
      · rw [List.mem_singleton] at h
        rw [h]
        exact hx.fr hf (fun _ _ h => h.elim)
    · rcases List.mem_append.1 hy with h | h
      · exact hk.rows.cap y h
      · rw [List.mem_singleton] at h
        rw [h]
        exact hb
  clear hk hx hb
  obtain ⟨⟨k, f, t, gf, gt, ins, m, x⟩, B, b⟩ := x
  simp only [StepA.cells, StepM.cells] at *
  obtain ⟨xn, hxn⟩ : ∃ xn, x.length = xn := ⟨_, rfl⟩
  rw [hxn] at HXS ⊢
  clear hxn HX HB
  obtain ⟨ln, hln⟩ : ∃ ln, L.length = ln := ⟨_, rfl⟩
  have HLN := Lib.hid hln
  rw [hln] at hm hn hcap HSL HXS ⊢
  clear hln
  go_enter Tryz.func29, Tryz.ntmps29
  go_upto_region 1 with (fail)
  obtain ⟨W, hW⟩ : ∃ W, w.alloc (.cells #[.int .i64 k, .int .i64 f, .int .i64 t, .int .i64 gf, .int .i64 gt, .int .i64 ins, .slice B xn b, .int .i64 m] 32) = W := ⟨_, rfl⟩
  have HF := Lib.hid (show Fr Nob w W by rw [← hW]; exact (Fr.refl _ _).alloc _)
  have HS := Lib.hid (show Blk W w.heap.size [.int .i64 k, .int .i64 f, .int .i64 t, .int .i64 gf, .int .i64 gt, .int .i64 ins, .slice B xn b, .int .i64 m] 32 by rw [← hW]; exact Blk.new _ _ _)
  rw [hW]
  clear hW
  have KS := Lib.hid (show ∀ W' : World, Fr Nob W W' → (fun W' : World => W'.cell? ⟨w.heap.size, 0, none⟩ = some (.int .i64 k) ∧ W'.cell? ⟨w.heap.size, 1, none⟩ = some (.int .i64 f) ∧ W'.cell? ⟨w.heap.size, 2, none⟩ = some (.int .i64 t) ∧ W'.cell? ⟨w.heap.size, 3, none⟩ = some (.int .i64 gf) ∧ W'.cell? ⟨w.heap.size, 4, none⟩ = some (.int .i64 gt) ∧ W'.cell? ⟨w.heap.size, 5, none⟩ = some (.int .i64 ins) ∧ W'.cell? ⟨w.heap.size, 6, none⟩ = some (.slice B xn b) ∧ W'.cell? ⟨w.heap.size, 7, none⟩ = some (.int .i64 m)) W' from fun W' hF' => by
    have h := HS.out.fr hF' (fun h => h)
    exact ⟨h.cell 0, h.cell 1, h.cell 2, h.cell 3, h.cell 4, h.cell 5, h.cell 6, h.cell 7⟩)
  refine wp_region_held_drew (S := fun W' : World => W'.cell? ⟨w.heap.size, 0, none⟩ = some (.int .i64 k) ∧ W'.cell? ⟨w.heap.size, 1, none⟩ = some (.int .i64 f) ∧ W'.cell? ⟨w.heap.size, 2, none⟩ = some (.int .i64 t) ∧ W'.cell? ⟨w.heap.size, 3, none⟩ = some (.int .i64 gf) ∧ W'.cell? ⟨w.heap.size, 4, none⟩ = some (.int .i64 gt) ∧ W'.cell? ⟨w.heap.size, 5, none⟩ = some (.int .i64 ins) ∧ W'.cell? ⟨w.heap.size, 6, none⟩ = some (.slice B xn b) ∧ W'.cell? ⟨w.heap.size, 7, none⟩ = some (.int .i64 m)) (by kernel_rfl) (KS.out _ (Fr.refl _ _).drew) (fun _ => ?_)
  have HFD := Lib.hid ((Fr.refl Nob W).drew)
  generalize W.drew = wd at HFD ⊢
  have HSD := Lib.hid (KS.out wd HFD.out)
  refine take_by (i := 0) (v := .slice A ln c) rfl HSD.out ?_
  refine take_by (i := 1) (v := .slice A ln c) rfl HSD.out ?_
  refine take_by (i := 2) (v := .int .i64 ln) rfl HSD.out ?_
  refine take_by (i := 3) (v := .slice A ln c) rfl HSD.out ?_
  refine take_by (i := 4) (v := .int .i64 ln) rfl HSD.out ?_
  refine take_by (i := 5) (v := .slice A ln ln) rfl HSD.out ?_
  refine take_by (i := 6) (v := .agg #[.int .i64 k, .int .i64 f, .int .i64 t, .int .i64 gf, .int .i64 gt, .int .i64 ins, .slice B xn b, .int .i64 m]) rfl HSD.out ?_
  try simp only [List.getElem_toArray, List.getElem_cons_succ, List.getElem_cons_zero, Act.put, List.setIfInBounds_toArray, List.set_cons_zero, List.set_cons_succ]
  refine wpAnyH_ready (rs := [7]) (by kernel_rfl) (by simp) (AllReadyH.cons (o := _) rfl (fun K hK => ?_) AllReadyH.nil)
  go_simp
  have HFD2 := Lib.hid (show Fr Nob W (wd.alloc (.cells #[.int .i64 k, .int .i64 f, .int .i64 t, .int .i64 gf, .int .i64 gt, .int .i64 ins, .slice B xn b, .int .i64 m] 32)) from HFD.out.alloc _)
  have HN2 := Lib.hid (show Blk (wd.alloc (.cells #[.int .i64 k, .int .i64 f, .int .i64 t, .int .i64 gf, .int .i64 gt, .int .i64 ins, .slice B xn b, .int .i64 m] 32)) wd.heap.size [.int .i64 k, .int .i64 f, .int .i64 t, .int .i64 gf, .int .i64 gt, .int .i64 ins, .slice B xn b, .int .i64 m] 32 from Blk.new _ _ _)
  refine hK.out _ _ (KS.out _ HFD2.out) (fun _ => ?_)
  clear hK K
  generalize hW2 : wd.alloc (.cells #[.int .i64 k, .int .i64 f, .int .i64 t, .int .i64 gf, .int .i64 gt, .int .i64 ins, .slice B xn b, .int .i64 m] 32) = W2 at HFD2 HN2 ⊢
  clear hW2
  try simp only [List.getElem_toArray, List.getElem_cons_succ, List.getElem_cons_zero, Act.put, List.setIfInBounds_toArray, List.set_cons_zero, List.set_cons_succ]
  have HR2 := Lib.hid (HK.out.rows.row.fr (HF.out.same HFD2.out) (fun _ _ h => h.elim))
  have hoc : ∀ u ∈ ([.int .i64 k, .int .i64 f, .int .i64 t, .int .i64 gf, .int .i64 gt, .int .i64 ins, .slice B xn b, .int .i64 m] : List Value), u.oneCell' = true := fun u hu => by
    simp only [List.mem_cons, List.not_mem_nil, or_false] at hu
    rcases hu with rfl | rfl | rfl | rfl | rfl | rfl | rfl | rfl <;> rfl
  have HOC := Lib.hid hoc
  have HOLD := Lib.hid (show ∀ b', A = some b' → ∀ j u, (stepC L)[j]? = some u → W2.cell? (b'.add j) = some u from fun b' hb' j u hu => by
    obtain ⟨ad, e, _, hc⟩ := HR2.out (by intro e; rw [e] at hu; simp at hu)
    rw [hb'] at e
    injection e with e
    rw [e]
    exact hc j u hu)
  have HNIL := Lib.hid (show A = none → ln = 0 ∧ ln = 0 from fun h => by have h1 := hnil h; omega)
  clear hoc hnil
  refine wpAnyH_ready (rs := [8]) (by kernel_rfl) (by simp) (AllReadyH.cons (o := _) rfl (fun K hK => ?_) AllReadyH.nil)
  refine step_append_grows rfl _ _ 57 rfl 32 i0 _ 8 80 Tryz.underlying57 hi hz0 hz1 hz2 rfl (by decide) A ln ln (stepC L) rfl HNIL.out HSL.out HOLD.out ⟨wd.heap.size, 0, none⟩ 1 1 [.int .i64 k, .int .i64 f, .int .i64 t, .int .i64 gf, .int .i64 gt, .int .i64 ins, .slice B xn b, .int .i64 m] rfl rfl (fun j u hu => by rw [add_lit]; exact (HN2.out.cell j).trans hu) HOC.out (by omega) (by simp only [maxLen]; omega) (by omega) ?_
  intro v' w3 hown hg3
  obtain ⟨g, cap, rfl, hg1, hg2⟩ := hown.form (by omega)
  have hf3 : Fr Nob W2 w3 := (Fr.of_grown hg3).mono (fun k _ e => by cases e)
  obtain ⟨A', c', e', hc', hr'⟩ := Rd.of_own (M := N) hown (fun k e h => by have h1 := (own_base hown k e).1; have h3 := HQ.out k h; have h4 := HF.out.size; have h5 := HFD2.out.size; omega)
  injection e' with e1 e2 e3
  subst e1 e3
  have HF3 := Lib.hid ((HF.out.same HFD2.out).same hf3)
  have HFW3 := Lib.hid (HFD2.out.same hf3)
  have HR3 := Lib.hid hr'
  have HC3 := Lib.hid hc'
  clear hown hg3 hf3 hr' hg1 hg2
  refine hK.out _ _ (KS.out _ HFW3.out) (fun _ => ?_)
  clear hK K
  refine take_by (i := 9) (v := .slice (some ⟨g, 0, none⟩) (ln + 1) cap) rfl (KS.out _ HFW3.out) ?_
  try simp only [List.getElem_toArray, List.getElem_cons_succ, List.getElem_cons_zero, Act.put, List.setIfInBounds_toArray, List.set_cons_zero, List.set_cons_succ]
  refine wpAnyH_done (by kernel_rfl) ?_ _
  clear hc'
  rcases hm with rfl | hm
  · go_wp2_with fail
    go_ret
    exact ⟨some ⟨g, 0, none⟩, cap, rfl, HXS.out w3 _ _ HF3.out HR3.out HC3.out (by simp), HF3.out⟩
  · go_wp2_with fail
    go_ret
    exact ⟨some ⟨g, 0, none⟩, cap, rfl, HXS.out w3 _ _ HF3.out HR3.out HC3.out (by simp), HF3.out⟩
end Go.Proofs.YtldcffonfidbcaaGreatDoor

/- history.own: a step with its own letters; stack.push. -/
namespace Go.Proofs.YtldcffonfidbcaaGreatDoor
open Go.RowKit
set_option maxRecDepth 100000 in
set_option maxHeartbeats 4000000 in
theorem hown_any (M : Nat → Prop) (s : StepM) (B : Option Addr) (b : Nat) (w : World) (hx : Rd M w B (tokC s.l)) (hn : s.l.length ≤ 100000) :
    Calls Tryz.prog 48 #[.agg (s.cells (.slice B s.l.length b)).toArray] w fun e w' => ∃ B' b', e = .returned (.agg (s.cells (.slice B' s.l.length b')).toArray) ∧ Rd (fun k => k < w.heap.size) w' B' (tokC s.l) ∧ s.l.length ≤ b' ∧ Fr Nob w w' := by
  have HX := Lib.hid (hx.mono (M' := Nob) (fun _ h => h.elim))
  clear hx
  obtain ⟨i0, hi, hz0, hz1, hz2⟩ := info_parts infoTok
  obtain ⟨k, f, t, gf, gt, ins, m, x⟩ := s
  simp only [StepM.cells] at *
  have hTL := Lib.hid (tokC_length x)
  go_enter Tryz.func48, Tryz.ntmps48
  go_upto_region 1 with (fail)
  obtain ⟨W, hW⟩ : ∃ W, (w.alloc (.cells #[.int .i64 k, .int .i64 f, .int .i64 t, .int .i64 gf, .int .i64 gt, .int .i64 ins, .slice B x.length b, .int .i64 m] 32)).alloc (.cells #[.int .i64 0, .int .i64 0, .int .i64 0, .int .i64 0, .int .i64 0, .int .i64 0, .slice none 0 0, .int .i64 0] 32) = W := ⟨_, rfl⟩
  have HF := Lib.hid (show Fr Nob w W by rw [← hW]; exact ((Fr.refl _ _).alloc _).alloc _)
  have HS := Lib.hid (show Blk W w.heap.size [.int .i64 k, .int .i64 f, .int .i64 t, .int .i64 gf, .int .i64 gt, .int .i64 ins, .slice B x.length b, .int .i64 m] 32 by rw [← hW]; exact (Blk.new _ _ _).alloc _)
  have HZ := Lib.hid (show Blk W (w.heap.size + 1) [.int .i64 0, .int .i64 0, .int .i64 0, .int .i64 0, .int .i64 0, .int .i64 0, .slice none 0 0, .int .i64 0] 32 by rw [← hW]; exact Blk.new_at (w.alloc _) _ _ (w.heap.size + 1) (by simp))
  rw [hW]
  clear hW
  have HWL := Lib.hid HZ.out.lt
  have HXW := Lib.hid (HX.out.fr HF.out (fun _ _ h => h))
  obtain ⟨d0, d1, d2, d3, d4, d5, d6, d7, dl⟩ := HS.out.c8
  obtain ⟨z0, z1, z2, z3, z4, z5, z6, z7⟩ := HS.out.z8
  go_upto_region 2 with (at_builtin; refine wpList_append_many _ Nob rfl _ _ 22 rfl W.heap.size 40 i0 _ 4 32 Tryz.underlying22 hi hz0 hz1 hz2 rfl (by decide) (.slice none 0 0) 0 [] rfl (World.ownsRow_nil _ _ _ _) B x.length b (tokC x) rfl (by rw [hTL.out]; omega) HXW.out (tokC_one x) (by simp only [maxLen]; omega) (by omega) (Nat.le_refl _) ?_; intro v w9 hown9 hf9; obtain ⟨VA, vc, rfl, hvc, hvr⟩ := doc_of_own hown9; have HVC := Lib.hid hvc; have HVR := Lib.hid hvr; clear hvc hvr; have hf9' := hf9.mono (M' := Nob) (fun k _ e => by cases e); have HS9 := Lib.hid (HS.out.fr hf9' (fun h => h)); have HZ9 := Lib.hid (HZ.out.fr hf9' (fun h => h)); have HF9 := Lib.hid (HF.out.same hf9'); clear hown9 hf9 hf9' d0 d1 d2 d3 d4 d5 d6 d7 dl z0 z1 z2 z3 z4 z5 z6 z7; obtain ⟨d0, d1, d2, d3, d4, d5, d6, d7, dl⟩ := HS9.out.c8; obtain ⟨z0, z1, z2, z3, z4, z5, z6, z7⟩ := HS9.out.z8; clear HF HS HZ HXW)
  obtain ⟨W5, hW5⟩ : ∃ W, w9.setCell ⟨w.heap.size, 6, none⟩ (.slice VA x.length vc) = W := ⟨_, rfl⟩
  have hF95 : Fr (One w.heap.size) w9 W5 := by rw [← hW5]; exact ((Fr.refl (One w.heap.size) w9).setCell (p := ⟨w.heap.size, 6, none⟩) (.inl rfl) _)
  have HS5 := Lib.hid (show Blk W5 w.heap.size [.int .i64 k, .int .i64 f, .int .i64 t, .int .i64 gf, .int .i64 gt, .int .i64 ins, .slice VA x.length vc, .int .i64 m] 32 by rw [← hW5]; exact HS9.out.set 6 _)
  have HZ5 := Lib.hid (HZ9.out.fr hF95 (fun e => by have e' : w.heap.size + 1 = w.heap.size := e; omega))
  have HF5 := Lib.hid (HF9.out.trans hF95 (fun k hk e => by have e' : k = w.heap.size := e; omega))
  have HV5 := Lib.hid (HVR.out.fr hF95 (fun k hk e => by have e' : k = w.heap.size := e; have h2 := HWL.out; show k < _; omega))
  rw [hW5]
  clear hW5 hF95 HS9 HZ9 HF9 HVR d0 d1 d2 d3 d4 d5 d6 d7 dl z0 z1 z2 z3 z4 z5 z6 z7
  obtain ⟨d0, d1, d2, d3, d4, d5, d6, d7, dl⟩ := HS5.out.c8
  obtain ⟨b0, b1, b2, b3, b4, b5, b6, b7, bl⟩ := HZ5.out.c8
  obtain ⟨z0, z1, z2, z3, z4, z5, z6, z7⟩ := HZ5.out.z8
  go_wp2_with fail
  refine ret8m (v := .agg #[.int .i64 k, .int .i64 f, .int .i64 t, .int .i64 gf, .int .i64 gt, .int .i64 ins, .slice VA x.length vc, .int .i64 m]) HZ5.out rfl (fun WE z0 z1 z2 z3 z4 z5 z6 z7 => by simp [results, go_sem, z0, z1, z2, z3, z4, z5, z6, z7]) (fun WE hF => ?_)
  exact ⟨VA, vc, rfl, (HV5.out.fr hF (fun k hk e => by have e' : k = w.heap.size + 1 := e; have h2 := HWL.out; show k < _; omega)).mono (fun k hk => by have h2 := HWL.out; show k < _; omega), HVC.out, HF5.out.trans hF (fun k hk e => by have e' : k = w.heap.size + 1 := e; omega)⟩
end Go.Proofs.YtldcffonfidbcaaGreatDoor

/- A region that draws its order: what holds until one operation (a store) is done, which waits for whatever leans on it. -/
namespace Go.Proofs.YtldcffonfidbcaaGreatDoor
open Go.RowKit
section
variable {P : Program} {ops : Array Oper} {Q : Exit → Act → World → Prop} {md : Region.Mode} {z : Nat} {S : World → Prop}
/-- Whatever order is picked; S holds until z is done. -/
def wpAnyG (P : Program) (md : Region.Mode) (ops : Array Oper) (Q : Exit → Act → World → Prop) (z : Nat) (S : World → Prop) : Nat → Array Bool → Act → World → Prop
  | 0, listed, a, w => Region.ready md ops listed = [] ∧ Q .normal a w
  | fuel + 1, listed, a, w =>
    (Region.ready md ops listed = [] → Q .normal a w) ∧
    ∀ i ∈ Region.ready md ops listed, wpOp P ops Q i (fun a' w' => ((listed.setIfInBounds i true).getD z true = false → S w') ∧ wpAnyG P md ops Q z S fuel (listed.setIfInBounds i true) a' w') a w
theorem wpAny_of_G : ∀ (fuel : Nat) (listed : Array Bool) (a : Act) (w : World), wpAnyG P md ops Q z S fuel listed a w → wpAny P md ops Q fuel listed a w
  | 0, _, _, _, h => h
  | fuel + 1, _, _, _, h => ⟨h.1, fun i hi => wpOp_mono (fun a' w' h' => wpAny_of_G fuel _ a' w' h'.2) (h.2 i hi)⟩
theorem unlisted {listed : Array Bool} (hc : Closed md ops listed) {n i : Nat} (hw : upB md ops n z i = true) (hi : listed.getD i true = false) : listed.getD z true = false := by
  cases hz : listed.getD z true with
  | false => rfl
  | true =>
    cases n with
    | zero => cases hw
    | succ n =>
      have hw' := hw
      unfold upB at hw
      cases ho : ops[z]? with
      | none => rw [ho] at hw; cases hw
      | some o =>
        have := up_listed hc (n + 1) z o ho (fun e he hb => hc z o ho hz e he hb) hw'
        rw [hi] at this
        cases this
theorem wpAnyG_first {i n : Nat} {oi : Oper} {v : Value} (hi : ops[i]? = some oi) (hw : upB md ops n z i = true) (hsel : ∀ (j : Nat) (o : Oper) cs b, ops[j]? = some o → o.op ≠ .select cs b)
    (hQ : ∀ c a w, Q (.panic c) (a.put oi.dst v) w → Q (.panic c) a w) :
    ∀ (fuel : Nat) (listed : Array Bool) (a : Act) (w : World), Closed md ops listed →
      (∀ j oj, ops[j]? = some oj → j ≠ i → listed.getD j true = false → (∀ e ∈ oj.after, Region.binds md e = true → e.on ≠ i) → oi.apart ops oj = true) →
      i ∈ Region.ready md ops listed → YieldsIf P ops S oi v a → S w →
      wpAnyG P md ops Q z S fuel (listed.setIfInBounds i true) (a.put oi.dst v) w → wpAnyG P md ops Q z S (fuel + 1) listed a w
  | fuel, listed, a, w, hcl, hfree, hr, hy, hS, H => by
    refine ⟨fun h => absurd hr (by rw [h]; exact List.not_mem_nil), fun j hj => ?_⟩
    by_cases hji : j = i
    · subst hji
      exact hy.wpOp hi hS ⟨fun _ => hS, H⟩
    · match fuel, H with
      | 0, H =>
        have h0 := ready_mono hj hji
        rw [H.1] at h0
        exact absurd h0 List.not_mem_nil
      | fuel + 1, H =>
        obtain ⟨hun, oj, hoj, hall⟩ := mem_ready.1 hj
        have hno : ∀ e ∈ oj.after, Region.binds md e = true → e.on ≠ i := fun e he hb heq => by
          have h1 := hall e he hb
          have h2 := (mem_ready.1 hr).1
          rw [heq] at h1
          by_cases hlt : i < listed.size
          · simp [hlt] at h1 h2
            rw [h2] at h1
            cases h1
          · simp [Array.getElem?_eq_none (Nat.not_lt.1 hlt)] at h1
        have hzl : (listed.setIfInBounds j true).getD z true = false := unlisted (hcl.step hj) hw (by rw [getD_set_ne true hji]; exact (mem_ready.1 hr).1)
        have hp := wpOp_putIf hoj (hfree j oj hoj hji hun hno) (fun cs b => hsel i oi cs b hi) (fun cs b => hsel j oj cs b hoj) hQ hy (H.2 j (ready_mono hj hji))
        refine wpOp_mono (fun a' w' h => ?_) hp
        obtain ⟨hy', hS', hH⟩ := h
        have hjz : z ≠ i := fun e => by
          subst e
          have h1 := up_listed hcl n z oi hi (fun e he hb => by
            obtain ⟨_, o', ho', hall'⟩ := mem_ready.1 hr
            rw [hi] at ho'
            cases ho'
            exact getD_ft (hall' e he hb)) hw
          rw [(mem_ready.1 hr).1] at h1
          cases h1
        have hSw : S w' := hS' (by rw [Array.setIfInBounds_comm _ _ (Ne.symm hji), getD_set_ne true (Ne.symm hjz)]; exact hzl)
        refine ⟨fun _ => hSw, wpAnyG_first hi hw hsel hQ fuel (listed.setIfInBounds j true) a' w' (hcl.step hj) (fun k ok hk hki hu hn => ?_) (ready_mono hr (Ne.symm hji)) hy' hSw ?_⟩
        · refine hfree k ok hk hki ?_ hn
          by_cases hjk : j = k
          · subst hjk; exact hun
          · rw [getD_set_ne true hjk] at hu; exact hu
        · rw [Array.setIfInBounds_comm _ _ hji]
          exact hH
theorem wpAnyG_take {i : Nat} {oi : Oper} {v : Value} {fuel : Nat} {listed : Array Bool} {a : Act} {w : World} (hi : ops[i]? = some oi)
    (hs : Region.noSelect ops = true) (hf : (Region.free md ops listed i && upB md ops 9 z i && closedB md ops listed) = true) (hr : (Region.ready md ops listed).contains i = true)
    (hQ : ∀ c a w, Q (.panic c) (a.put oi.dst v) w → Q (.panic c) a w) (hy : YieldsIf P ops S oi v a) (hS : S w)
    (h : wpAnyG P md ops Q z S fuel (listed.setIfInBounds i true) (a.put oi.dst v) w) : wpAnyG P md ops Q z S (fuel + 1) listed a w := by
  rw [Bool.and_eq_true, Bool.and_eq_true] at hf
  exact wpAnyG_first hi hf.1.2 (Region.noSelect_spec hs) hQ fuel listed a w (closedB_spec hf.2) (Region.free_spec hi hf.1.1) (by simpa using hr) hy hS h
def AllReadyG (P : Program) (md : Region.Mode) (ops : Array Oper) (Q : Exit → Act → World → Prop) (z : Nat) (S : World → Prop) (fuel : Nat) (listed : Array Bool) (a : Act) (w : World) (rs : List Nat) : Prop :=
  ∀ i ∈ rs, wpOp P ops Q i (fun a' w' => ((listed.setIfInBounds i true).getD z true = false → S w') ∧ wpAnyG P md ops Q z S fuel (listed.setIfInBounds i true) a' w') a w
theorem AllReadyG.nil {fuel : Nat} {listed : Array Bool} {a : Act} {w : World} : AllReadyG P md ops Q z S fuel listed a w [] := fun _ h => by cases h
theorem AllReadyG.cons {fuel : Nat} {listed : Array Bool} {a : Act} {w : World} {i : Nat} {o : Oper} {rs : List Nat} (ho : ops[i]? = some o)
    (h : ∀ K' : Act → World → Prop, Shut (∀ a w, ((listed.setIfInBounds i true).getD z true = false → S w) → wpAnyG P md ops Q z S fuel (listed.setIfInBounds i true) a w → K' a w) → if Region.wanted o (yielded ops a.tmps) = true then Oper.wp P o a w K' Q else K' (a.put o.dst undef) w)
    (hs : AllReadyG P md ops Q z S fuel listed a w rs) : AllReadyG P md ops Q z S fuel listed a w (i :: rs) := fun j hj => by
  rcases List.mem_cons.1 hj with rfl | hj
  · exact wpOp_step ho (fun K' hK => h K' (fun a w hS hW => hK a w ⟨hS, hW⟩))
  · exact hs j hj
theorem wpAnyG_ready {rs : List Nat} {fuel : Nat} {listed : Array Bool} {a : Act} {w : World} (hr : Region.ready md ops listed = rs) (hne : rs ≠ [])
    (h : AllReadyG P md ops Q z S fuel listed a w rs) : wpAnyG P md ops Q z S (fuel + 1) listed a w :=
  ⟨fun h0 => absurd (hr ▸ h0) hne, hr ▸ h⟩
/-- .. one that z need not wait for, and that yields v in every world. -/
theorem wpAnyG_firstP {i : Nat} {oi : Oper} {v : Value} (hi : ops[i]? = some oi) (hsel : ∀ (j : Nat) (o : Oper) cs b, ops[j]? = some o → o.op ≠ .select cs b)
    (hQ : ∀ c a w, Q (.panic c) (a.put oi.dst v) w → Q (.panic c) a w) (hiz : i ≠ z) :
    ∀ (fuel : Nat) (listed : Array Bool) (a : Act) (w : World),
      (∀ j oj, ops[j]? = some oj → j ≠ i → listed.getD j true = false → (∀ e ∈ oj.after, Region.binds md e = true → e.on ≠ i) → oi.apart ops oj = true) →
      i ∈ Region.ready md ops listed → YieldsIf P ops (fun _ => True) oi v a → (listed.getD z true = false → S w) →
      wpAnyG P md ops Q z S fuel (listed.setIfInBounds i true) (a.put oi.dst v) w → wpAnyG P md ops Q z S (fuel + 1) listed a w
  | fuel, listed, a, w, hfree, hr, hy, hS, H => by
    refine ⟨fun h => absurd hr (by rw [h]; exact List.not_mem_nil), fun j hj => ?_⟩
    by_cases hji : j = i
    · subst hji
      exact hy.wpOp hi trivial ⟨fun h => hS (by rw [getD_set_ne true hiz] at h; exact h), H⟩
    · match fuel, H with
      | 0, H =>
        have h0 := ready_mono hj hji
        rw [H.1] at h0
        exact absurd h0 List.not_mem_nil
      | fuel + 1, H =>
        obtain ⟨hun, oj, hoj, hall⟩ := mem_ready.1 hj
        have hno : ∀ e ∈ oj.after, Region.binds md e = true → e.on ≠ i := fun e he hb heq => by
          have h1 := hall e he hb
          have h2 := (mem_ready.1 hr).1
          rw [heq] at h1
          by_cases hlt : i < listed.size
          · simp [hlt] at h1 h2
            rw [h2] at h1
            cases h1
          · simp [Array.getElem?_eq_none (Nat.not_lt.1 hlt)] at h1
        have hp := wpOp_putIf hoj (hfree j oj hoj hji hun hno) (fun cs b => hsel i oi cs b hi) (fun cs b => hsel j oj cs b hoj) hQ hy (wpOp_mono (fun a' w' h => (⟨trivial, h⟩ : True ∧ _)) (H.2 j (ready_mono hj hji)))
        refine wpOp_mono (fun a' w' h => ?_) hp
        obtain ⟨hy', _, hS', hH⟩ := h
        have hSw : (listed.setIfInBounds j true).getD z true = false → S w' := fun h => hS' (by rw [Array.setIfInBounds_comm _ _ (Ne.symm hji), getD_set_ne true hiz]; exact h)
        refine ⟨hSw, wpAnyG_firstP hi hsel hQ hiz fuel (listed.setIfInBounds j true) a' w' (fun k ok hk hki hu hn => ?_) (ready_mono hr (Ne.symm hji)) hy' hSw ?_⟩
        · refine hfree k ok hk hki ?_ hn
          by_cases hjk : j = k
          · subst hjk; exact hun
          · rw [getD_set_ne true hjk] at hu; exact hu
        · rw [Array.setIfInBounds_comm _ _ hji]
          exact hH
theorem take_p {i : Nat} {oi : Oper} {v : Value} {fuel : Nat} {listed : Array Bool} {a : Act} {w : World} (hi : ops[i]? = some oi) (hS : listed.getD z true = false → S w)
    (h : wpAnyG P md ops Q z S fuel (listed.setIfInBounds i true) (a.put oi.dst v) w) (hiz : (i == z) = false := by kernel_rfl)
    (hs : Region.noSelect ops = true := by kernel_rfl) (hf : Region.free md ops listed i = true := by kernel_rfl) (hr : (Region.ready md ops listed).contains i = true := by kernel_rfl)
    (hQ : ∀ c a w, Q (.panic c) (a.put oi.dst v) w → Q (.panic c) a w := by exact fun _ _ _ h => h)
    (hy : YieldsIf P ops (fun _ => True) oi v a := by exact Or.inl ⟨by rfl, fun w hSw => by go_simp⟩) : wpAnyG P md ops Q z S (fuel + 1) listed a w :=
  wpAnyG_firstP hi (Region.noSelect_spec hs) hQ (by simpa using hiz) fuel listed a w (Region.free_spec hi hf) (by simpa using hr) hy hS h
theorem wpAnyG_done {listed : Array Bool} {a : Act} {w : World} (hr : Region.ready md ops listed = []) (h : Q .normal a w) : ∀ fuel, wpAnyG P md ops Q z S fuel listed a w
  | 0 => ⟨hr, h⟩
  | fuel + 1 => ⟨fun _ => h, fun i hi => by rw [hr] at hi; cases hi⟩
theorem wp_region_G (z : Nat) {S : World → Prop} {id : Nat} {a : Act} {w : World} (hm : P.follows .mixedOrders = true)
    (h : wpAnyG P .any ops Q z S ops.size (Array.replicate ops.size false) a w.drew) : (Code.region id ops true).wp P Q a w :=
  wp_region_any hm (wpAny_of_G _ _ _ _ h)
theorem late {b : Bool} {S : Prop} (hb : b = true) : b = false → S := fun h => by rw [hb] at h; cases h
/-- A step of a drawn region that yields v in every world of S. -/
theorem take_g {i : Nat} {oi : Oper} {v : Value} {fuel : Nat} {listed : Array Bool} {a : Act} {w : World} (hi : ops[i]? = some oi) (hS : S w)
    (h : wpAnyG P md ops Q z S fuel (listed.setIfInBounds i true) (a.put oi.dst v) w)
    (hs : Region.noSelect ops = true := by kernel_rfl) (hf : (Region.free md ops listed i && upB md ops 9 z i && closedB md ops listed) = true := by kernel_rfl) (hr : (Region.ready md ops listed).contains i = true := by kernel_rfl)
    (hQ : ∀ c a w, Q (.panic c) (a.put oi.dst v) w → Q (.panic c) a w := by exact fun _ _ _ h => h)
    (hy : YieldsIf P ops S oi v a := by exact Or.inl ⟨by rfl, fun w hSw => by (try dsimp only at hSw); go_simp⟩) : wpAnyG P md ops Q z S (fuel + 1) listed a w :=
  wpAnyG_take hi hs hf hr hQ hy hS h
end
end Go.Proofs.YtldcffonfidbcaaGreatDoor
