/- A part of the proof for chapter 10: StepMap, Rdo, ErrIs, Number, Run, Open10, OpenS, Round; no conditions. -/
import Derived.Test.YtanbfplcldloeaaGreatDoorS18
import Derived.Test.YtanbfplcldloeaaGreatDoorS11
import Derived.Test.YtanbfplcldloeaaGreatDoorS06
import Derived.Lib.IfaceEq
import Derived.Test.YtanbfplcldloeaaGreatDoorS07
import Derived.Test.YtanbfplcldloeaaGreatDoorRows
import Derived.Deep.Slices
import Derived.Deep.Fields
import Derived.ChangeSame
import Derived.RangeFuncBox
import Derived.RangeFuncNested
import Derived.RangeFuncLeaves
import Derived.Shelf.Abstract
import Derived.OwnWalkIn
import Derived.TacticsInMore
import Derived.LoopNIn
import Derived.LoopIn
import Derived.OrdersIn
import Derived.OrdersHeld
import Derived.StillTail
/- Chapter 9: a step's map. -/
namespace Go.Proofs.YtanbfplcldloeaaGreatDoor
open Go.RowKit
/-- A map, as memory holds it. -/
def Rngs (M : Nat → Prop) (w : World) (v : Value) (l : List Rng) : Prop := ∃ A c, v = .slice A l.length c ∧ Rd M w A (rngC l)
theorem Rngs.fr {M M' : Nat → Prop} {w w' : World} {v : Value} {l : List Rng} (h : Rngs M w v l) (hf : Fr M' w w') (hM : ∀ k, k < w.heap.size → M' k → M k) : Rngs M w' v l := by
  obtain ⟨A, c, rfl, hr⟩ := h
  exact ⟨A, c, rfl, hr.fr hf hM⟩
theorem Rngs.fr0 {M : Nat → Prop} {w w' : World} {v : Value} {l : List Rng} (h : Rngs M w v l) (hf : Fr Nob w w') : Rngs M w' v l := h.fr hf (fun _ _ h => h.elim)
theorem Rngs.mono {M M' : Nat → Prop} {w : World} {v : Value} {l : List Rng} (h : Rngs M w v l) (hM : ∀ k, M' k → M k) : Rngs M' w v l := by
  obtain ⟨A, c, rfl, hr⟩ := h
  exact ⟨A, c, rfl, hr.mono hM⟩
theorem Rngs.nil (M : Nat → Prop) (w : World) : Rngs M w (.slice none 0 0) [] := ⟨none, 0, rfl, Rd.nil _ _ _⟩
/-- A map in a new block. -/
theorem Rngs.new {w0 w : World} (l : List Rng) (T : TypeId) (hs : w0.heap.size ≤ w.heap.size) : Rngs (fun k => k < w0.heap.size) (w.alloc (.cells (rngC l).toArray T)) (.slice (some ⟨w.heap.size, 0, none⟩) l.length l.length) l :=
  ⟨_, _, rfl, fun _ => ⟨_, rfl, Nat.not_lt.2 hs, fun j u hu => by rw [add_lit]; exact ((Blk.new w (rngC l) T).cell j).trans hu⟩⟩
def stepmapF (s : StepM) : List Rng :=
  if s.k = 0 then [⟨s.f, s.t - s.f, s.l.length⟩]
  else if s.k = 1 then [⟨s.f, s.gf - s.f, s.ins⟩, ⟨s.gt, s.t - s.gt, s.l.length - s.ins⟩]
  else []
set_option maxRecDepth 100000 in
set_option maxHeartbeats 4000000 in
theorem stepmap_any (M : Nat → Prop) (s : StepM) (B : Option Addr) (b : Nat) (w : World) (hx : Rd M w B (tokC s.l)) :
    Calls Tryz.prog 36 #[.agg (s.cells (.slice B s.l.length b)).toArray] w fun e w' => ∃ v, e = .returned (.tuple #[v, .int .i64 (stepF s)]) ∧ Rngs (fun k => k < w.heap.size) w' v (if stepF s = 0 then stepmapF s else []) ∧ Fr Nob w w' := by
  obtain ⟨R, hR⟩ : ∃ R, (if stepF s = 0 then stepmapF s else []) = R := ⟨_, rfl⟩
  rw [hR]
  have HR := Lib.hid hR
  obtain ⟨xn, hxn⟩ : ∃ xn, s.l.length = xn := ⟨_, rfl⟩
  have HXN := Lib.hid hxn
  have HX := Lib.hid hx
  rw [hxn]
  clear hx hxn hR
  obtain ⟨E, hE⟩ : ∃ E, stepF s = E := ⟨_, rfl⟩
  rw [hE]
  have HE := Lib.hid hE
  clear hE
  obtain ⟨k, f, t, gf, gt, ins, m, x⟩ := s
  simp only [StepM.cells] at *
  go_enter Tryz.func36, Tryz.ntmps36
  go_upto_region 1 with (fail)
  obtain ⟨W, hW⟩ : ∃ W, w.alloc (.cells #[.int .i64 k, .int .i64 f, .int .i64 t, .int .i64 gf, .int .i64 gt, .int .i64 ins, .slice B xn b, .int .i64 m] 24) = W := ⟨_, rfl⟩
  have HF := Lib.hid (show Fr Nob w W by rw [← hW]; exact (Fr.refl _ _).alloc _)
  have HB := Lib.hid (show Blk W w.heap.size [.int .i64 k, .int .i64 f, .int .i64 t, .int .i64 gf, .int .i64 gt, .int .i64 ins, .slice B xn b, .int .i64 m] 24 by rw [← hW]; exact Blk.new _ _ _)
  rw [hW]
  clear hW
  have b0 := HB.out.cell 0
  have b1 := HB.out.cell 1
  have b2 := HB.out.cell 2
  have b3 := HB.out.cell 3
  have b4 := HB.out.cell 4
  have b5 := HB.out.cell 5
  have b6 := HB.out.cell 6
  have b7 := HB.out.cell 7
  have hlb := HB.out.lt
  simp only [List.getElem?_cons_zero, List.getElem?_cons_succ] at b0 b1 b2 b3 b4 b5 b6 b7
  go_wp2_with fail
  have hck := stepcheck_any M ⟨k, f, t, gf, gt, ins, m, x⟩ B b W (HX.out.fr HF.out (fun _ _ h => h.elim))
  simp only [StepM.cells, HXN.out] at hck
  refine hck.mono ?_
  clear hck
  rintro e w2 ⟨rfl, hF2⟩
  have HF2 := Lib.hid (HF.out.same hF2)
  have HB2 := Lib.hid (HB.out.fr hF2 (fun h => h))
  clear hF2 b0 b1 b2 b3 b4 b5 b6 b7 hlb
  rw [HE.out]
  by_cases hz : E = 0
  · subst hz
    have b0 := HB2.out.cell 0
    have b1 := HB2.out.cell 1
    have b2 := HB2.out.cell 2
    have b3 := HB2.out.cell 3
    have b4 := HB2.out.cell 4
    have b5 := HB2.out.cell 5
    have b6 := HB2.out.cell 6
    have hlb := HB2.out.lt
    simp only [List.getElem?_cons_zero, List.getElem?_cons_succ] at b0 b1 b2 b3 b4 b5 b6
    have HR2 := Lib.hid (show stepmapF ⟨k, f, t, gf, gt, ins, m, x⟩ = R by rw [← HR.out, HE.out, if_pos rfl])
    obtain ⟨hxl, hk, _⟩ := stepF_zero HE.out
    have h0 := (ok0S_iff _ _).1 (kindOk_0 hk)
    have haro := fun h1 => (aroS_iff _ _ _ _ _ _).1 (kindOk_1 hk h1)
    simp only at hxl h0 haro
    rw [HXN.out] at hxl haro
    clear hk
    by_cases h1 : k = 0
    · subst h1
      have HM := Lib.hid (show [⟨f, t - f, xn⟩] = R by rw [← HR2.out]; simp [stepmapF, HXN.out])
      clear haro
      go_wp2_with fail
      refine bodyPost_ret (v := .tuple #[.slice (some ⟨w2.heap.size, 0, none⟩) 1 1, .int .i64 0]) (by simp [results, go_sem]) rfl ?_
      exact ⟨_, rfl, by rw [← HM.out]; exact Rngs.new [⟨f, t - f, xn⟩] _ HF2.out.size, HF2.out.alloc _⟩
    · have h1' : (k == 0) = false := by simpa using h1
      by_cases h2 : k = 1
      · subst h2
        have ha := haro rfl
        have HM := Lib.hid (show [⟨f, gf - f, ins⟩, ⟨gt, t - gt, xn - ins⟩] = R by rw [← HR2.out]; simp [stepmapF, HXN.out])
        clear haro
        go_wp2_with fail
        refine bodyPost_ret (v := .tuple #[.slice (some ⟨w2.heap.size, 0, none⟩) 2 2, .int .i64 0]) (by simp [results, go_sem]) rfl ?_
        exact ⟨_, rfl, by rw [← HM.out]; exact Rngs.new [⟨f, gf - f, ins⟩, ⟨gt, t - gt, xn - ins⟩] _ HF2.out.size, HF2.out.alloc _⟩
      · have h2' : (k == 1) = false := by simpa using h2
        have HM := Lib.hid (show [] = R by rw [← HR2.out]; simp [stepmapF, h1, h2])
        clear haro
        go_wp2_with fail
        refine bodyPost_ret (v := .tuple #[.slice none 0 0, .int .i64 0]) (by simp [results, go_sem]) rfl ?_
        exact ⟨_, rfl, by rw [← HM.out]; exact Rngs.nil _ _, HF2.out⟩
  · have hse2 : (E != 0) = true := by simpa using hz
    have HM := Lib.hid (show [] = R by rw [← HR.out, HE.out, if_neg hz])
    go_wp2_with fail
    refine bodyPost_ret (v := .tuple #[.slice none 0 0, .int .i64 E]) (by simp [results, go_sem]) rfl ?_
    exact ⟨_, rfl, by rw [← HM.out]; exact Rngs.nil _ _, HF2.out⟩
end Go.Proofs.YtanbfplcldloeaaGreatDoor

/- Chapter 10: a step at a document, if it stays valid. -/
namespace Go.Proofs.YtanbfplcldloeaaGreatDoor
open Go.RowKit
/-- The error of a step at a document, or 0. -/
def doE (rs : List RuleM) (g : List Grp) (s : StepM) (l : List Tok) : Int := if applyE s l ≠ 0 then applyE s l else (checkF rs g (doF s l)).2
/-- A refusal, as memory holds it. -/
def refV (e : Int) : Value := if e = 0 then .nilIface else .iface 146 (.agg #[.int .i64 e])
theorem applyE_zero {s : StepM} {l : List Tok} (h : applyE s l = 0) : (flatCheck l).2 = 0 ∧ stepF s = 0 ∧ s.t ≤ l.length ∧ (flatCheck (doF s l)).2 = 0 := by
  unfold applyE at h
  split at h
  · rename_i h1; exact absurd h h1
  · rename_i h1
    split at h
    · rename_i h2; exact absurd h h2
    · rename_i h2
      split at h
      · omega
      · split at h
        · omega
        · exact ⟨by omega, by omega, by omega, h⟩
set_option maxRecDepth 100000 in
set_option maxHeartbeats 4000000 in
theorem remdo_any (M M1 M2 : Nat → Prop) (p : Nat) (rs : List RuleM) (g : List Grp) (hok : SchOk rs g) (s : StepM) (A B : Option Addr) (l : List Tok) (c b : Nat) (w : World) (hs : Sch M w p rs g) (hl : Rd M1 w A (tokC l)) (hx : Rd M2 w B (tokC s.l)) (hc : l.length ≤ c) (hb : s.l.length ≤ b) (hn : l.length ≤ 9223372036854775807) :
    Calls Tryz.prog 40 #[.pointer (some ⟨p, 0, none⟩), .slice A l.length c, .agg (s.cells (.slice B s.l.length b)).toArray] w fun e w' => ∃ v, e = .returned (.tuple #[v, refV (doE rs g s l)]) ∧ (doE rs g s l = 0 → NewDoc w w' v (doF s l)) ∧ (doE rs g s l ≠ 0 → v = .slice none 0 0) ∧ Fr Nob w w' := by
  obtain ⟨E, hE⟩ : ∃ E, doE rs g s l = E := ⟨_, rfl⟩
  rw [hE]
  have HE := Lib.hid hE
  have HS := Lib.hid hs
  have HOK := Lib.hid hok
  have HL := Lib.hid hl
  have HX := Lib.hid hx
  have HCB := Lib.hid (And.intro hc (And.intro hb hn))
  obtain ⟨ln, hln⟩ : ∃ ln, l.length = ln := ⟨_, rfl⟩
  obtain ⟨xn, hxn⟩ : ∃ xn, s.l.length = xn := ⟨_, rfl⟩
  have HLN := Lib.hid hln
  have HXN := Lib.hid hxn
  rw [hln, hxn]
  clear hs hl hx hc hb hn hln hxn hE hok
  obtain ⟨sr, hsr⟩ : ∃ r, r = s := ⟨_, rfl⟩
  have HSR := Lib.hid hsr
  rw [← hsr] at HE HX HCB HXN ⊢
  clear hsr
  obtain ⟨k, f, t, gf, gt, ins, m, x⟩ := sr
  simp only [StepM.cells] at *
  go_enter Tryz.func40, Tryz.ntmps40
  go_upto_region 1 with (fail)
  obtain ⟨W, hW⟩ : ∃ W, w.alloc (.cells #[.int .i64 k, .int .i64 f, .int .i64 t, .int .i64 gf, .int .i64 gt, .int .i64 ins, .slice B xn b, .int .i64 m] 24) = W := ⟨_, rfl⟩
  have HF := Lib.hid (show Fr Nob w W by rw [← hW]; exact (Fr.refl _ _).alloc _)
  have HB := Lib.hid (show Blk W w.heap.size [.int .i64 k, .int .i64 f, .int .i64 t, .int .i64 gf, .int .i64 gt, .int .i64 ins, .slice B xn b, .int .i64 m] 24 by rw [← hW]; exact Blk.new _ _ _)
  rw [hW]
  clear hW
  have b0 := HB.out.cell 0
  have b1 := HB.out.cell 1
  have b2 := HB.out.cell 2
  have b3 := HB.out.cell 3
  have b4 := HB.out.cell 4
  have b5 := HB.out.cell 5
  have b6 := HB.out.cell 6
  have b7 := HB.out.cell 7
  have hlb := HB.out.lt
  simp only [List.getElem?_cons_zero, List.getElem?_cons_succ] at b0 b1 b2 b3 b4 b5 b6 b7
  go_wp2_with fail
  have hap := apply_any (fun _ => False) ⟨k, f, t, gf, gt, ins, m, x⟩ A B l c b W ((HL.out.mono (fun _ h => h.elim)).fr HF.out (fun _ _ h => h.elim)) ((HX.out.mono (fun _ h => h.elim)).fr HF.out (fun _ _ h => h.elim)) HCB.out.1 HCB.out.2.1 HCB.out.2.2
  simp only [StepM.cells, HXN.out, HLN.out] at hap
  refine hap.mono ?_
  clear hap b0 b1 b2 b3 b4 b5 b6 b7 hlb
  obtain ⟨ae, hae⟩ : ∃ r, applyE ⟨k, f, t, gf, gt, ins, m, x⟩ l = r := ⟨_, rfl⟩
  have HAE := Lib.hid hae
  rw [hae]
  clear hae
  rintro e w1 ⟨v, rfl, hv, hz, hF1⟩
  have HF1 := Lib.hid (HF.out.same hF1)
  by_cases h0 : ae = 0
  · subst h0
    have HV := Lib.hid ((hv rfl).old HF.out.size)
    have HE1 := Lib.hid (show (checkF rs g (doF ⟨k, f, t, gf, gt, ins, m, x⟩ l)).2 = E by rw [← HE.out, doE, if_neg (by rw [HAE.out]; simp)])
    clear hv hz hF1
    go_wp2_with fail
    have hfl := flat_short (applyE_zero HAE.out).2.2.2
    refine (schcheck_any M _ p rs g HOK.out v _ w1 (HS.out.fr0 HF1.out) HV.out.doc (by omega)).mono ?_
    rintro e w2 ⟨rfl, hF2⟩
    have HF2 := Lib.hid (HF1.out.same hF2)
    have HV2 : Hid (NewDoc w w2 v (doF ⟨k, f, t, gf, gt, ins, m, x⟩ l)) := by
      obtain ⟨gg, rfl, hg, hb⟩ := HV.out
      exact ⟨gg, rfl, hg, hb.fr hF2 (fun h => h)⟩
    clear hF2 hfl
    obtain ⟨⟨ci, ce⟩, hce⟩ : ∃ r, checkF rs g (doF ⟨k, f, t, gf, gt, ins, m, x⟩ l) = r := ⟨_, rfl⟩
    rw [hce] at HE1 ⊢
    clear hce
    simp only at HE1 ⊢
    by_cases h1 : ce = 0
    · subst h1
      have HE2 := Lib.hid (show E = 0 from HE1.out.symm)
      go_wp2_with fail
      refine bodyPost_ret (v := .tuple #[v, .nilIface]) (by simp [results, go_sem]) rfl ?_
      exact ⟨v, by rw [HE2.out]; rfl, fun _ => HV2.out, fun h => absurd HE2.out h, HF2.out⟩
    · have h1' : (ce != 0) = true := by simpa using h1
      have HE2 := Lib.hid (show E = ce from HE1.out.symm)
      go_wp2_with fail
      refine bodyPost_ret (v := .tuple #[.slice none 0 0, .iface 146 (.agg #[.int .i64 ce])]) (by simp [results, go_sem]) rfl ?_
      exact ⟨_, by rw [HE2.out, refV, if_neg h1], by rw [HE2.out]; intro h; exact absurd h h1, fun _ => rfl, HF2.out⟩
  · have h0' : (ae == 0) = false := by simpa using h0
    have h0'' : (ae != 0) = true := by simpa using h0
    have HE1 := Lib.hid (show ae = E by rw [← HE.out, doE, if_pos (by rw [HAE.out]; exact h0), HAE.out])
    go_wp2_with fail
    refine bodyPost_ret (v := .tuple #[.slice none 0 0, .iface 146 (.agg #[.int .i64 ae])]) (by simp [results, go_sem]) rfl ?_
    exact ⟨_, by rw [← HE1.out, refV, if_neg h0], by rw [← HE1.out]; intro h; exact absurd h h0, fun _ => rfl, HF1.out⟩
end Go.Proofs.YtanbfplcldloeaaGreatDoor

/- errors.Is at a refusal and a number. -/
namespace Go.Proofs.YtanbfplcldloeaaGreatDoor
open Go.RowKit Go.Extern.Stop Go.Stop Go.Extern
theorem typeOfE (v : Value) (w : World) : (ReflectliteType.typeOf #[.iface 32 v]).run Tryz.prog w = .ok (.iface 219 (.agg #[.pointer (some ⟨1, 32, none⟩)])) w := by kernel_rfl
theorem methodComparable (h : Value) (w : World) : (Go.method 403 219 (.agg #[h]) "Comparable").run Tryz.prog w = .ok (192, .agg #[h]) w := by kernel_rfl
theorem methodUnwrap (h : Value) (w : World) : (Go.method 403 146 (.agg #[h]) "Unwrap").run Tryz.prog w = .ok (187, .agg #[h]) w := by kernel_rfl
set_option maxHeartbeats 1000000 in
theorem unwrap_any (E : Int) (w : World) : Calls Tryz.prog 187 #[.agg #[.int .i64 E]] w fun e w' => e = .returned (.iface 32 (.int .i64 E)) ∧ Fr Nob w w' := by
  go_enter Tryz.func187, Tryz.ntmps187
  go_wp2_with fail
  go_ret
  exact ⟨rfl, (Fr.refl _ _).alloc _⟩
theorem eqRef (E e : Int) (w : World) : (binOp .eql 87 (.iface 146 (.agg #[.int .i64 E])) (.iface 32 (.int .i64 e))).run Tryz.prog w = .ok (.bool false) w := by kernel_rfl
theorem eqNum (E e : Int) (w : World) : (binOp .eql 87 (.iface 32 (.int .i64 E)) (.iface 32 (.int .i64 e))).run Tryz.prog w = .ok (.bool (E == e)) w := Lib.run_eql_iface_int w E e Tryz.underlying87 (by kernel_rfl) Tryz.underlying32
theorem eqNil (E : Int) (w : World) : (binOp .eql 87 (.iface 32 (.int .i64 E)) .nilIface).run Tryz.prog w = .ok (.bool false) w := by kernel_rfl
theorem taRefIs (E : Int) (w : World) : (Instr.typeAssert (.iface 146 (.agg #[.int .i64 E])) 87 221 true).run Tryz.prog w = .ok (.tuple #[.nilIface, .bool false]) w := run_typeAssert_lacksB Tryz.underlying221 (by kernel_rfl) (by kernel_rfl) _ _ w
theorem taRefUn (E : Int) (w : World) : (Instr.typeAssert (.iface 146 (.agg #[.int .i64 E])) 87 224 true).run Tryz.prog w = .ok (.tuple #[.iface 146 (.agg #[.int .i64 E]), .bool true]) w := by kernel_rfl
theorem taNumIs (E : Int) (w : World) : (Instr.typeAssert (.iface 32 (.int .i64 E)) 87 221 true).run Tryz.prog w = .ok (.tuple #[.nilIface, .bool false]) w := run_typeAssert_lacksB Tryz.underlying221 (by kernel_rfl) (by kernel_rfl) _ _ w
theorem taNumUn (E : Int) (w : World) : (Instr.typeAssert (.iface 32 (.int .i64 E)) 87 224 true).run Tryz.prog w = .ok (.tuple #[.nilIface, .bool false]) w := run_typeAssert_lacksB Tryz.underlying224 (by kernel_rfl) (by kernel_rfl) _ _ w
theorem taNumUl (E : Int) (w : World) : (Instr.typeAssert (.iface 32 (.int .i64 E)) 87 226 true).run Tryz.prog w = .ok (.tuple #[.nilIface, .bool false]) w := run_typeAssert_lacksB Tryz.underlying226 (by kernel_rfl) (by kernel_rfl) _ _ w
set_option maxRecDepth 100000 in
set_option maxHeartbeats 4000000 in
theorem is_any (E e : Int) (w : World) : Calls Tryz.prog 95 #[.iface 146 (.agg #[.int .i64 E]), .iface 32 (.int .i64 e), .bool true] w fun ev w' => ev = .returned (.bool (E == e)) ∧ Fr Nob w w' := by
  have mU := methodUnwrap
  have q1 := eqRef
  have q2 := eqNum
  have q3 := eqNil
  have a1 := taRefIs
  have a2 := taRefUn
  have a3 := taNumIs
  have a4 := taNumUn
  have a5 := taNumUl
  have HU := Lib.hid (unwrap_any E)
  go_enter Tryz.func95, Tryz.ntmps95
  go_wp2_with fail
  refine wp_loop_rounds 2 ?_
  rw [rounds_succ]
  go_wp2_with fail
  refine (HU.out w).mono ?_
  rintro ev w1 ⟨rfl, hF1⟩
  have HF1 := Lib.hid hF1
  clear hF1
  go_wp2_with fail
  rw [rounds_succ]
  obtain ⟨z, hz⟩ : ∃ z, (E == e) = z := ⟨_, rfl⟩
  have q4 := fun w => eqNum E e w
  simp only [hz] at q4
  have HZ := Lib.hid hz
  clear q2 hz
  cases z
  · go_wp2_with fail
    go_ret
    exact ⟨by rw [HZ.out]; rfl, HF1.out⟩
  · go_wp2_with fail
    go_ret
    exact ⟨by rw [HZ.out]; rfl, HF1.out⟩
end Go.Proofs.YtanbfplcldloeaaGreatDoor

/- errors.Is and remap.number at a refusal. -/
namespace Go.Proofs.YtanbfplcldloeaaGreatDoor
open Go.RowKit Go.Extern.Stop Go.Stop Go.Extern
theorem comparableE (w : World) : (ReflectliteType.method (fun t => do Rtype.noPackHeld "Comparable" t; pure (.bool (← typeInfo t).comparable)) #[.agg #[.pointer (some ⟨1, 32, none⟩)]]).run Tryz.prog w = .ok (.bool true) w := by kernel_rfl
theorem eqNilR (E : Int) (w : World) : (binOp .eql 87 (.iface 146 (.agg #[.int .i64 E])) .nilIface).run Tryz.prog w = .ok (.bool false) w := by kernel_rfl
set_option maxRecDepth 100000 in
set_option maxHeartbeats 4000000 in
theorem Is_any (E e : Int) (w : World) : Calls Tryz.prog 65 #[.iface 146 (.agg #[.int .i64 E]), .iface 32 (.int .i64 e)] w fun ev w' => ev = .returned (.bool (E == e)) ∧ Fr Nob w w' := by
  have h1 := @run_callFunc_extern Tryz.prog 94 _ ReflectliteType.typeOf Tryz.func94 (by kernel_rfl) (by kernel_rfl) (by kernel_rfl) (by kernel_rfl)
  have h2 := @run_callFunc_extern Tryz.prog 192 _ (ReflectliteType.method (fun t => do Rtype.noPackHeld "Comparable" t; pure (.bool (← typeInfo t).comparable))) Tryz.func192 (by kernel_rfl) (by kernel_rfl) (by kernel_rfl) (by kernel_rfl)
  have t1 := typeOfE
  have m1 := methodComparable
  have c1 := comparableE
  generalize ReflectliteType.method (fun t => do Rtype.noPackHeld "Comparable" t; pure (.bool (← typeInfo t).comparable)) = F at h2 c1
  have q3 := eqNil
  have q4 := eqNilR
  have HI := Lib.hid (is_any E e)
  go_enter Tryz.func65, Tryz.ntmps65
  go_wp2_with fail
  refine (HI.out w).mono ?_
  rintro ev w1 ⟨rfl, hF1⟩
  have HF1 := Lib.hid hF1
  clear hF1
  go_wp2_with fail
  go_ret
  exact ⟨rfl, HF1.out⟩
/-- An error's number, found among all numbers. -/
def numF (E : Int) : Int := if 1 ≤ E ∧ E ≤ 12 then E else 0
set_option maxRecDepth 100000 in
set_option maxHeartbeats 4000000 in
theorem number_any (E : Int) (w : World) : Calls Tryz.prog 38 #[.iface 146 (.agg #[.int .i64 E])] w fun ev w' => ev = .returned (.int .i64 (numF E)) ∧ Fr Nob w w' := by
  obtain ⟨R, hR⟩ : ∃ R, numF E = R := ⟨_, rfl⟩
  rw [hR]
  have HR := Lib.hid hR
  clear hR
  go_enter Tryz.func38, Tryz.ntmps38
  go_wp2_with fail
  go_loopg [3] (12) (fun n b wr => ∃ (k : Nat), n = 12 - k ∧ k ≤ 12 ∧ b = .int .i64 ((k : Int) + 1) ∧ Hid (Fr Nob w wr) ∧ Hid (∀ j : Int, 1 ≤ j → j ≤ k → E ≠ j))
  case atStart => exact ⟨0, rfl, Nat.zero_le _, rfl, Fr.refl _ _, fun j h1 h2 => by omega⟩
  case round =>
    obtain ⟨k, rfl, hk, rfl, HF, HE⟩ := hrel
    by_cases hlt : k < 12
    · have ht : ((k : Int) + 1 ≤ 12) := by omega
      have wk := wrp64 ((k : Int) + 1 + 1) (by omega) (by omega)
      go_wp2_with fail
      refine (Is_any E ((k : Int) + 1) wr).mono ?_
      rintro ev w1 ⟨rfl, hF1⟩
      have HF1 := Lib.hid (HF.out.same hF1)
      clear hF1
      by_cases h0 : E = (k : Int) + 1
      · have h0' : (E == (k : Int) + 1) = true := by simpa using h0
        have HV := Lib.hid (show (k : Int) + 1 = R by rw [← HR.out, numF, if_pos (by omega), h0])
        clear h0
        go_wp2_with fail
        go_ret
        exact ⟨by rw [HV.out]; rfl, HF1.out⟩
      · have h0' : (E == (k : Int) + 1) = false := by simpa using h0
        have HN := Lib.hid h0
        clear h0
        go_wp2_with fail
        go_roundg (12 - (k + 1))
        case measure => omega
        case rel => exact ⟨k + 1, rfl, by omega, by simp, HF1.out, fun j h1 h2 => by
          by_cases h : j ≤ k
          · exact HE.out j h1 h
          · intro h3; exact HN.out (by omega)⟩
    · have ht : ¬ ((k : Int) + 1 ≤ 12) := by omega
      go_wp2_with fail
      go_ret
      refine ⟨?_, HF.out⟩
      rw [← HR.out, numF, if_neg]
      · rfl
      · rintro ⟨h1, h2⟩; exact HE.out E h1 (by omega) rfl
end Go.Proofs.YtanbfplcldloeaaGreatDoor

/- Chapter 10: steps, one behind the other, each of which is told. -/
namespace Go.Proofs.YtanbfplcldloeaaGreatDoor
open Go.RowKit
/-- A step in memory: its letters lie in a row of their own. -/
structure StepA where
  s : StepM
  B : Option Addr
  b : Nat
def StepA.cells (x : StepA) : List Value := x.s.cells (.slice x.B x.s.l.length x.b)
theorem StepA.cells_len (x : StepA) : x.cells.length = 8 := rfl
def stepC (L : List StepA) : List Value := L.flatMap StepA.cells
/-- Steps in memory. -/
structure StepsM (M : Nat → Prop) (w : World) (A : Option Addr) (L : List StepA) : Prop where
  row : Rd M w A (stepC L)
  each : ∀ x ∈ L, Rd M w x.B (tokC x.s.l)
  cap : ∀ x ∈ L, x.s.l.length ≤ x.b
theorem StepsM.fr {M M' : Nat → Prop} {w w' : World} {A : Option Addr} {L : List StepA} (h : StepsM M w A L) (hf : Fr M' w w') (hM : ∀ k, k < w.heap.size → M' k → M k) : StepsM M w' A L :=
  ⟨h.row.fr hf hM, fun x hx => (h.each x hx).fr hf hM, h.cap⟩
theorem StepsM.fr0 {M : Nat → Prop} {w w' : World} {A : Option Addr} {L : List StepA} (h : StepsM M w A L) (hf : Fr Nob w w') : StepsM M w' A L := h.fr hf (fun _ _ h => h.elim)
theorem StepsM.mono {M M' : Nat → Prop} {w : World} {A : Option Addr} {L : List StepA} (h : StepsM M w A L) (hM : ∀ k, M' k → M k) : StepsM M' w A L :=
  ⟨h.row.mono hM, fun x hx => (h.each x hx).mono hM, h.cap⟩
theorem StepsM.bound {M : Nat → Prop} {w : World} {A : Option Addr} {L : List StepA} (h : StepsM M w A L) : StepsM (fun k => M k ∨ w.heap.size ≤ k) w A L :=
  ⟨h.row.bound, fun x hx => (h.each x hx).bound, h.cap⟩
/-- Steps at a document: what comes of it, or the first refusal. -/
def runF (rs : List RuleM) (g : List Grp) : List StepM → List Tok → List Tok × Int
  | [], l => (l, 0)
  | s :: r, l => if doE rs g s l = 0 then runF rs g r (doF s l) else ([], doE rs g s l)
theorem doE_zero {rs : List RuleM} {g : List Grp} {s : StepM} {l : List Tok} (h : doE rs g s l = 0) : applyE s l = 0 ∧ (checkF rs g (doF s l)).2 = 0 := by
  unfold doE at h
  split at h
  · rename_i h1; exact absurd h h1
  · rename_i h1; exact ⟨Decidable.not_not.1 h1, h⟩
/-- A function that is told each step: what it keeps (N: its own blocks) stays as it is while others work. -/
structure Told (gf : Nat) (caps : Array Value) (m : Nat) (J : List StepM → (Nat → Prop) → World → Prop) : Prop where
  enter : ∀ args w, (callFunc gf args).run Tryz.prog w = .ok (.enter gf args) w
  still : ∀ pre N w w', J pre N w → Fr Nob w w' → J pre N w'
  lt : ∀ pre N w, J pre N w → ∀ k, N k → k < w.heap.size
  call : ∀ pre s N w B b, J pre N w → pre.length < m → stepF s = 0 → Rd N w B (tokC s.l) →
    Calls Tryz.prog gf (#[.agg (s.cells (.slice B s.l.length b)).toArray] ++ caps) w fun e w' => e = .returned (.tuple #[]) ∧ ∃ N', J (pre ++ [s]) N' w' ∧ Fr N w w' ∧ ∀ k, N' k → N k ∨ w.heap.size ≤ k
/-- The own blocks of a function that is told, later. -/
def Later (N : Nat → Prop) (w : World) (N' : Nat → Prop) : Prop := ∀ k, N' k → N k ∨ w.heap.size ≤ k
theorem Later.refl (N : Nat → Prop) (w : World) : Later N w N := fun _ h => .inl h
theorem Later.trans {N N' N'' : Nat → Prop} {w w' : World} (h : Later N w N') (h' : Later N' w' N'') (hs : w.heap.size ≤ w'.heap.size) : Later N w N'' := fun k hk => by
  rcases h' k hk with h1 | h1
  · exact h k h1
  · exact .inr (by omega)
theorem StepsM.later {N N' : Nat → Prop} {w w' : World} {A : Option Addr} {L : List StepA} (h : StepsM N w A L) (hf : Fr N w w') (hl : Later N w N') : StepsM N' w' A L :=
  ((h.bound.fr hf (fun _ _ h => .inl h)).mono hl)
theorem Sch.later {N N' : Nat → Prop} {w w' : World} {p : Nat} {rs : List RuleM} {g : List Grp} (h : Sch N w p rs g) (hf : Fr N w w') (hl : Later N w N') : Sch N' w' p rs g :=
  ((h.bound.fr hf (fun _ _ h => .inl h)).mono hl)
theorem Doc.later {N N' : Nat → Prop} {w w' : World} {v : Value} {l : List Tok} (h : Doc N w v l) (hf : Fr N w w') (hl : Later N w N') : Doc N' w' v l :=
  ((h.bound.fr hf (fun _ _ h => .inl h)).mono hl)
theorem Doc.later0 {N N' M0 : Nat → Prop} {w w' : World} {v : Value} {l : List Tok} (h : Doc (fun k => N k ∨ M0 k) w v l) (hf : Fr N w w') (hl : Later N w N') : Doc (fun k => N' k ∨ M0 k) w' v l :=
  (h.bound.fr hf (fun _ _ h => .inl (.inl h))).mono (fun k hk => by
    rcases hk with hk | hk
    · rcases hl k hk with h1 | h1
      · exact .inl (.inl h1)
      · exact .inr h1
    · exact .inl (.inr hk))
theorem Rd.later {N N' : Nat → Prop} {w w' : World} {A : Option Addr} {xs : List Value} (h : Rd N w A xs) (hf : Fr N w w') (hl : Later N w N') : Rd N' w' A xs :=
  ((h.bound.fr hf (fun _ _ h => .inl h)).mono hl)
theorem Fr.later {N N' : Nat → Prop} {w w' w'' : World} (h : Fr N w w') (hl : Later N w N') (h' : Fr N' w' w'') : Fr N w w'' :=
  h.trans h' (fun k hk hn => by
    rcases hl k hn with h1 | h1
    · exact h1
    · omega)
set_option maxRecDepth 100000 in
set_option maxHeartbeats 4000000 in
theorem remrun_any (gf : Nat) (caps : Array Value) (m : Nat) (J : List StepM → (Nat → Prop) → World → Prop) (hT : Told gf caps m J)
    (N M0 : Nat → Prop) (p : Nat) (rs : List RuleM) (g : List Grp) (hok : SchOk rs g) (L : List StepA) (SA : Option Addr) (sc : Nat) (v : Value) (l : List Tok) (w : World) (hm : L.length ≤ m) (hm2 : m ≤ 1000) (hJ : J [] N w) (hs : Sch N w p rs g) (hS : StepsM N w SA L) (hM0 : ∀ k, M0 k → k < w.heap.size) (hd : Doc (fun k => N k ∨ M0 k) w v l) (hn : l.length ≤ 9223372036854775807) :
    Calls Tryz.prog 34 #[.pointer (some ⟨p, 0, none⟩), v, .slice SA L.length sc, .func (.func gf) #[] caps] w fun e w' => ∃ v', e = .returned (.tuple #[v', refV (runF rs g (L.map StepA.s) l).2]) ∧
      ((runF rs g (L.map StepA.s) l).2 = 0 → ∃ N', J (L.map StepA.s) N' w' ∧ Later N w N' ∧ Doc (fun k => N' k ∨ M0 k) w' v' (runF rs g (L.map StepA.s) l).1) ∧ Fr N w w' := by
  obtain ⟨R, hR⟩ : ∃ R, runF rs g (L.map StepA.s) l = R := ⟨_, rfl⟩
  rw [hR]
  have HR := Lib.hid hR
  have HT := Lib.hid hT
  have hent := hT.enter
  have HOK := Lib.hid hok
  have HJ := Lib.hid hJ
  have HS := Lib.hid hs
  have HL := Lib.hid hS
  have HD := Lib.hid hd
  have HN := Lib.hid hn
  have HM := Lib.hid (And.intro hm hm2)
  have HM0 := Lib.hid hM0
  have hlen : L.length ≤ 1000 := by omega
  clear hR hT hok hJ hs hS hd hn hm hm2 hM0
  go_enter Tryz.func34, Tryz.ntmps34
  go_wp2_with fail
  go_loopg [1, 16] (L.length) (fun n v i wr => ∃ (k : Nat) (Nk : Nat → Prop) (lk : List Tok), n = L.length - k ∧ k ≤ L.length ∧ i = .int .i64 k ∧ Hid (J ((L.map StepA.s).take k) Nk wr) ∧ Hid (Later N w Nk) ∧ Hid (Fr N w wr) ∧ Hid (Doc (fun k => Nk k ∨ M0 k) wr v lk) ∧ Hid (lk.length ≤ 9223372036854775807) ∧ Hid (runF rs g ((L.drop k).map StepA.s) lk = R))
  case atStart => exact ⟨0, N, l, rfl, Nat.zero_le _, rfl, HJ.out, Later.refl _ _, Fr.refl _ _, HD.out, HN.out, HR.out⟩
  case round =>
    obtain ⟨k, Nk, lk, rfl, hk, rfl, HJk, HLk, HFk, HDk, HNk, HRk⟩ := hrel
    by_cases hlt : k < L.length
    · have ht : (k : Int) < (L.length : Int) := by omega
      have HSL := Lib.hid (HL.out.later HFk.out HLk.out)
      obtain ⟨ad, rfl, hnb, hbl, h0, hj⟩ := Rd.elt StepA.cells_len (by omega) HSL.out.row hlt
      obtain ⟨⟨s, B, b⟩, hx⟩ : ∃ x, L[k] = x := ⟨_, rfl⟩
      have HX := Lib.hid hx
      rw [hx] at h0 hj
      have q1 := hj 0 (by omega)
      have q2 := hj 1 (by omega)
      have q3 := hj 2 (by omega)
      have q4 := hj 3 (by omega)
      have q5 := hj 4 (by omega)
      have q6 := hj 5 (by omega)
      have q7 := hj 6 (by omega)
      clear hj hx
      simp only [StepA.cells, StepM.cells, List.getElem?_cons_zero, List.getElem?_cons_succ] at h0 q1 q2 q3 q4 q5 q6 q7
      go_upto_region 4 with (fail)
      obtain ⟨W, hW⟩ : ∃ W, wr.alloc (.cells #[.int .i64 s.k, .int .i64 s.f, .int .i64 s.t, .int .i64 s.gf, .int .i64 s.gt, .int .i64 s.ins, .slice B s.l.length b, .int .i64 s.m] 24) = W := ⟨_, rfl⟩
      have HFW := Lib.hid (show Fr Nob wr W by rw [← hW]; exact (Fr.refl _ _).alloc _)
      have HB := Lib.hid (show Blk W wr.heap.size [.int .i64 s.k, .int .i64 s.f, .int .i64 s.t, .int .i64 s.gf, .int .i64 s.gt, .int .i64 s.ins, .slice B s.l.length b, .int .i64 s.m] 24 by rw [← hW]; exact Blk.new _ _ _)
      rw [hW]
      clear hW h0 q1 q2 q3 q4 q5 q6 q7
      obtain ⟨A, c, rfl, hc, hr⟩ := HDk.out
      have HR0 := Lib.hid hr
      have HXB := Lib.hid (show Rd Nk W B (tokC s.l) ∧ s.l.length ≤ b by
        have h1 := HSL.out.each L[k] (List.getElem_mem _)
        have h2 := HSL.out.cap L[k] (List.getElem_mem _)
        rw [HX.out] at h1 h2
        exact ⟨h1.fr HFW.out (fun _ _ h => h.elim), h2⟩)
      clear hr
      have b0 := HB.out.cell 0
      have b1 := HB.out.cell 1
      have b2 := HB.out.cell 2
      have b3 := HB.out.cell 3
      have b4 := HB.out.cell 4
      have b5 := HB.out.cell 5
      have b6 := HB.out.cell 6
      have b7 := HB.out.cell 7
      have hlb := HB.out.lt
      simp only [List.getElem?_cons_zero, List.getElem?_cons_succ] at b0 b1 b2 b3 b4 b5 b6 b7
      go_wp2_with fail
      have hap := remdo_any Nk _ Nk p rs g HOK.out s A B lk c b W (((HS.out.later HFk.out HLk.out)).fr0 HFW.out) (HR0.out.fr HFW.out (fun _ _ h => h.elim)) HXB.out.1 hc HXB.out.2 HNk.out
      simp only [StepM.cells] at hap
      refine hap.mono ?_
      clear hap b0 b1 b2 b3 b4 b5 b6 b7 hlb hc
      rintro e w1 ⟨v1, rfl, hv, hz, hF1⟩
      have HW1 := Lib.hid (HFW.out.same hF1)
      have HF1 := Lib.hid hF1
      have HRs := Lib.hid (show runF rs g (s :: (L.drop (k + 1)).map StepA.s) lk = R by rw [← HRk.out, List.drop_eq_getElem_cons hlt, List.map_cons, HX.out])
      by_cases hz0 : doE rs g s lk = 0
      · have HV := Lib.hid (hv hz0)
        have HB1 := Lib.hid (HB.out.fr hF1 (fun h => h))
        have HD0 := Lib.hid hz0
        rw [hz0]
        clear hv hz hF1 hz0
        simp only [refV, if_true]
        have b0 := HB1.out.cell 0
        have b1 := HB1.out.cell 1
        have b2 := HB1.out.cell 2
        have b3 := HB1.out.cell 3
        have b4 := HB1.out.cell 4
        have b5 := HB1.out.cell 5
        have b6 := HB1.out.cell 6
        have b7 := HB1.out.cell 7
        have hlb := HB1.out.lt
        simp only [List.getElem?_cons_zero, List.getElem?_cons_succ] at b0 b1 b2 b3 b4 b5 b6 b7
        go_wp2_with fail
        have hN1 := HNk.out
        have hfl := flat_short (applyE_zero (doE_zero HD0.out).1).2.2.2
        have HJ1 := Lib.hid (HT.out.still _ _ _ _ HJk.out HW1.out)
        refine (HT.out.call _ s Nk w1 B b HJ1.out (by rw [List.length_take, List.length_map]; have := HM.out.1; omega) (applyE_zero (doE_zero HD0.out).1).2.1 ((HXB.out.1.fr HF1.out (fun _ _ h => h.elim)))).mono ?_
        rintro e w2 ⟨rfl, N2, hJ2, hF2, hL2⟩
        have HJ2 := Lib.hid (show J ((L.map StepA.s).take (k + 1)) N2 w2 by rw [List.take_succ_eq_append_getElem (by rw [List.length_map]; exact hlt), List.getElem_map, HX.out]; exact hJ2)
        have HL2 := Lib.hid (HLk.out.trans (w' := w1) (N' := Nk) hL2 (Nat.le_trans HFk.out.size HW1.out.size))
        have HF2 := Lib.hid ((HFk.out.trans HW1.out (fun _ _ h => h.elim)).later HLk.out hF2)
        have HV2 := Lib.hid (show Doc (fun k => N2 k ∨ M0 k) w2 v1 (doF s lk) from (HV.out.doc.mono (M' := fun k => Nk k ∨ M0 k) (fun k hk => by
          have h1 := HFW.out.size
          have h2 := HFk.out.size
          rcases hk with hk | hk
          · exact Nat.lt_of_lt_of_le (HT.out.lt _ _ _ HJk.out k hk) h1
          · have := HM0.out k hk; omega)).later0 hF2 hL2)
        have HNn := Lib.hid (show (doF s lk).length ≤ 9223372036854775807 by omega)
        have HR2 := Lib.hid (show runF rs g ((L.drop (k + 1)).map StepA.s) (doF s lk) = R by rw [← HRs.out, runF, if_pos HD0.out])
        clear hJ2 hF2 hL2 hN1 hfl b0 b1 b2 b3 b4 b5 b6 b7 hlb
        have wk := wrp64 ((k : Int) + 1) (by omega) (by omega)
        go_wp2_with fail
        go_roundg (L.length - (k + 1))
        case measure => omega
        case rel => exact ⟨k + 1, N2, doF s lk, rfl, by omega, by simp, HJ2.out, HL2.out, HF2.out, HV2.out, HNn.out, HR2.out⟩
      · have HD0 := Lib.hid hz0
        rw [show refV (doE rs g s lk) = .iface 146 (.agg #[.int .i64 (doE rs g s lk)]) from if_neg hz0]
        have HE := Lib.hid (show R = ([], doE rs g s lk) by rw [← HRs.out, runF, if_neg hz0])
        clear hz0 hv hF1
        go_wp2_with fail
        refine bodyPost_ret (v := .tuple #[.slice none 0 0, .iface 146 (.agg #[.int .i64 (doE rs g s lk)])]) (by simp [results, go_sem]) rfl ?_
        rw [HE.out]
        exact ⟨_, by rw [refV, if_neg HD0.out], fun h => absurd h HD0.out, HFk.out.trans HW1.out (fun _ _ h => h.elim)⟩
    · have hk2 : k = L.length := by omega
      have HJL := Lib.hid (show J (L.map StepA.s) Nk wr by have := HJk.out; rwa [List.take_of_length_le (by rw [List.length_map]; omega)] at this)
      have HE := Lib.hid (show R = (lk, 0) by rw [← HRk.out, List.drop_eq_nil_of_le (by omega)]; rfl)
      have ht : ¬ (k : Int) < (L.length : Int) := by omega
      clear hk2
      go_wp2_with fail
      refine bodyPost_ret (v := .tuple #[u1, .nilIface]) (by simp [results, go_sem]) rfl ?_
      rw [HE.out]
      exact ⟨_, rfl, fun _ => ⟨Nk, HJL.out, HLk.out, HDk.out⟩, HFk.out⟩
end Go.Proofs.YtanbfplcldloeaaGreatDoor

/- Arguments of type []api.Token and []api.Step, opened. -/
namespace Go.Proofs.YtanbfplcldloeaaGreatDoor
open Go.Joins Go.ChangeShapes Go.WideShapes Go.ChangeAt Go.RowKit Go.Deep
variable {H : Type} {enc : TypeId × Value → H} {w : World} {base : Nat} {spare : Nat → Bool} {held : Bool}
theorem cellsOf_tok : Tryz.prog.cellsOf 65 = 4 := by kernel_rfl
theorem cellsOf_step : Tryz.prog.cellsOf 24 = 8 := by kernel_rfl
theorem cellsOf_int1 : Tryz.prog.cellsOf 3 = 1 := by kernel_rfl
theorem cellsOf_toks : Tryz.prog.cellsOf 22 = 1 := by kernel_rfl
/-- Some things, one behind the other, from the cells of each. -/
theorem row_of {α : Type} {f : α → List Value} {s : Nat} {Q : α → Prop} (hs : ∀ x, (f x).length = s) (a : Addr) : ∀ len, (∀ i, i < len → ∃ x, (∀ j u, (f x)[j]? = some u → w.cell? (a.add (i * s + j)) = some u) ∧ Q x) →
    ∃ l : List α, l.length = len ∧ (∀ j u, (l.flatMap f)[j]? = some u → w.cell? (a.add j) = some u) ∧ ∀ x ∈ l, Q x
  | 0, _ => ⟨[], rfl, fun j u h => by simp at h, fun x h => by cases h⟩
  | len + 1, h => by
    obtain ⟨l, h1, h2, h3⟩ := row_of hs a len (fun i hi => h i (by omega))
    obtain ⟨x, hx, hq⟩ := h len (by omega)
    have hl := flat_len hs l
    refine ⟨l ++ [x], by simp [h1], fun j u hu => ?_, fun y hy => ?_⟩
    · rw [List.flatMap_append, List.flatMap_cons, List.flatMap_nil, List.append_nil] at hu
      rcases Nat.lt_or_ge j (l.flatMap f).length with hj | hj
      · rw [List.getElem?_append_left hj] at hu
        exact h2 j u hu
      · rw [List.getElem?_append_right hj] at hu
        have h4 := hx _ u hu
        rw [hl, h1] at h4 hj
        rwa [show len * s + (j - len * s) = j by omega] at h4
    · rcases List.mem_append.1 hy with hy | hy
      · exact h3 y hy
      · obtain rfl := List.mem_singleton.1 hy
        exact hq
set_option maxRecDepth 100000 in
theorem open_tok {fuel : Nat} {cs : List Value} {x : DataW H × List MemPlace} (h : DataW.trod enc Tryz.prog w base spare held fuel 65 cs = some x) : ∃ t : Tok, cs = t.cells := by
  obtain ⟨xs, n, rfl, rfl, hcl, hxl, hf⟩ := DataW.trod_struct Tryz.underlying65 h
  rw [cellsOf_tok] at hcl
  have hx4 : xs.length = 4 := hxl
  match cs, hcl with
  | [c0, c1, c2, c3], _ =>
  match xs, hx4 with
  | [y0, y1, y2, y3], _ =>
  have k0 : DataW.trod enc Tryz.prog w base spare held n 3 (List.take (Tryz.prog.cellsOf 3) (List.drop 0 [c0, c1, c2, c3])) = some y0 := hf 0 _ rfl
  have k1 : DataW.trod enc Tryz.prog w base spare held n 3 (List.take (Tryz.prog.cellsOf 3) (List.drop 1 [c0, c1, c2, c3])) = some y1 := hf 1 _ rfl
  have k2 : DataW.trod enc Tryz.prog w base spare held n 3 (List.take (Tryz.prog.cellsOf 3) (List.drop 2 [c0, c1, c2, c3])) = some y2 := hf 2 _ rfl
  have k3 : DataW.trod enc Tryz.prog w base spare held n 3 (List.take (Tryz.prog.cellsOf 3) (List.drop 3 [c0, c1, c2, c3])) = some y3 := hf 3 _ rfl
  rw [cellsOf_int1] at k0
  replace k0 : DataW.trod enc Tryz.prog w base spare held n 3 [c0] = some y0 := k0
  obtain ⟨n0, e0, _, _⟩ := DataW.trod_int Tryz.underlying3 k0
  obtain rfl : c0 = .int .i64 n0 := by simpa using e0
  rw [cellsOf_int1] at k1
  replace k1 : DataW.trod enc Tryz.prog w base spare held n 3 [c1] = some y1 := k1
  obtain ⟨n1, e1, _, _⟩ := DataW.trod_int Tryz.underlying3 k1
  obtain rfl : c1 = .int .i64 n1 := by simpa using e1
  rw [cellsOf_int1] at k2
  replace k2 : DataW.trod enc Tryz.prog w base spare held n 3 [c2] = some y2 := k2
  obtain ⟨n2, e2, _, _⟩ := DataW.trod_int Tryz.underlying3 k2
  obtain rfl : c2 = .int .i64 n2 := by simpa using e2
  rw [cellsOf_int1] at k3
  replace k3 : DataW.trod enc Tryz.prog w base spare held n 3 [c3] = some y3 := k3
  obtain ⟨n3, e3, _, _⟩ := DataW.trod_int Tryz.underlying3 k3
  obtain rfl : c3 = .int .i64 n3 := by simpa using e3
  exact ⟨⟨n0, n1, n2, n3⟩, rfl⟩
set_option maxRecDepth 100000 in
/-- A slice of tokens. -/
theorem open_toks {fuel : Nat} {cs : List Value} {x : DataW H × List MemPlace} (h : DataW.trod enc Tryz.prog w base spare held fuel 22 cs = some x) : ∃ (A : Option Addr) (l : List Tok) (c : Nat), cs = [.slice A l.length c] ∧ Rd Nob w A (tokC l) ∧ l.length ≤ c ∧ c ≤ maxLen := by
  rcases open_slice Tryz.underlying22 h with ⟨rfl, _⟩ | ⟨a, len, cap, m, n, D, Pl, rfl, _, hlc, hcm, hm, _, hel⟩
  · exact ⟨none, [], 0, rfl, Rd.nil _ _ _, Nat.le_refl _, Nat.zero_le _⟩
  · have hlm : len ≤ m := by rw [hm]; split <;> omega
    obtain ⟨l, h1, h2, _⟩ := row_of (w := w) (Q := fun _ => True) Tok.cells_len a len (fun i hi => by
      obtain ⟨cs', hcs, ht⟩ := hel i (by omega)
      rw [cellsOf_tok] at hcs
      obtain ⟨t, rfl⟩ := open_tok ht
      obtain ⟨_, hl4, hcell⟩ := World.cells?_some hcs
      refine ⟨t, fun j u hu => ?_, trivial⟩
      have hj : j < 4 := by have := (List.getElem?_eq_some_iff.1 hu).1; rwa [Tok.cells_len] at this
      have := hcell j hj
      rw [add_of_add] at this
      rw [this, hu])
    subst h1
    exact ⟨some a, l, cap, rfl, fun _ => ⟨a, rfl, fun h => h, h2⟩, hlc, hcm⟩
set_option maxRecDepth 100000 in
theorem open_step1 {fuel : Nat} {cs : List Value} {x : DataW H × List MemPlace} (h : DataW.trod enc Tryz.prog w base spare held fuel 24 cs = some x) : ∃ s : StepA, cs = s.cells ∧ Rd Nob w s.B (tokC s.s.l) ∧ s.s.l.length ≤ s.b := by
  obtain ⟨xs, n, rfl, rfl, hcl, hxl, hf⟩ := DataW.trod_struct Tryz.underlying24 h
  rw [cellsOf_step] at hcl
  have hx8 : xs.length = 8 := hxl
  match cs, hcl with
  | [c0, c1, c2, c3, c4, c5, c6, c7], _ =>
  match xs, hx8 with
  | [y0, y1, y2, y3, y4, y5, y6, y7], _ =>
  have k0 : DataW.trod enc Tryz.prog w base spare held n 3 (List.take (Tryz.prog.cellsOf 3) (List.drop 0 [c0, c1, c2, c3, c4, c5, c6, c7])) = some y0 := hf 0 _ rfl
  have k1 : DataW.trod enc Tryz.prog w base spare held n 3 (List.take (Tryz.prog.cellsOf 3) (List.drop 1 [c0, c1, c2, c3, c4, c5, c6, c7])) = some y1 := hf 1 _ rfl
  have k2 : DataW.trod enc Tryz.prog w base spare held n 3 (List.take (Tryz.prog.cellsOf 3) (List.drop 2 [c0, c1, c2, c3, c4, c5, c6, c7])) = some y2 := hf 2 _ rfl
  have k3 : DataW.trod enc Tryz.prog w base spare held n 3 (List.take (Tryz.prog.cellsOf 3) (List.drop 3 [c0, c1, c2, c3, c4, c5, c6, c7])) = some y3 := hf 3 _ rfl
  have k4 : DataW.trod enc Tryz.prog w base spare held n 3 (List.take (Tryz.prog.cellsOf 3) (List.drop 4 [c0, c1, c2, c3, c4, c5, c6, c7])) = some y4 := hf 4 _ rfl
  have k5 : DataW.trod enc Tryz.prog w base spare held n 3 (List.take (Tryz.prog.cellsOf 3) (List.drop 5 [c0, c1, c2, c3, c4, c5, c6, c7])) = some y5 := hf 5 _ rfl
  have k6 : DataW.trod enc Tryz.prog w base spare held n 22 (List.take (Tryz.prog.cellsOf 22) (List.drop 6 [c0, c1, c2, c3, c4, c5, c6, c7])) = some y6 := hf 6 _ rfl
  have k7 : DataW.trod enc Tryz.prog w base spare held n 3 (List.take (Tryz.prog.cellsOf 3) (List.drop 7 [c0, c1, c2, c3, c4, c5, c6, c7])) = some y7 := hf 7 _ rfl
  rw [cellsOf_int1] at k0
  replace k0 : DataW.trod enc Tryz.prog w base spare held n 3 [c0] = some y0 := k0
  obtain ⟨n0, e0, _, _⟩ := DataW.trod_int Tryz.underlying3 k0
  obtain rfl : c0 = .int .i64 n0 := by simpa using e0
  rw [cellsOf_int1] at k1
  replace k1 : DataW.trod enc Tryz.prog w base spare held n 3 [c1] = some y1 := k1
  obtain ⟨n1, e1, _, _⟩ := DataW.trod_int Tryz.underlying3 k1
  obtain rfl : c1 = .int .i64 n1 := by simpa using e1
  rw [cellsOf_int1] at k2
  replace k2 : DataW.trod enc Tryz.prog w base spare held n 3 [c2] = some y2 := k2
  obtain ⟨n2, e2, _, _⟩ := DataW.trod_int Tryz.underlying3 k2
  obtain rfl : c2 = .int .i64 n2 := by simpa using e2
  rw [cellsOf_int1] at k3
  replace k3 : DataW.trod enc Tryz.prog w base spare held n 3 [c3] = some y3 := k3
  obtain ⟨n3, e3, _, _⟩ := DataW.trod_int Tryz.underlying3 k3
  obtain rfl : c3 = .int .i64 n3 := by simpa using e3
  rw [cellsOf_int1] at k4
  replace k4 : DataW.trod enc Tryz.prog w base spare held n 3 [c4] = some y4 := k4
  obtain ⟨n4, e4, _, _⟩ := DataW.trod_int Tryz.underlying3 k4
  obtain rfl : c4 = .int .i64 n4 := by simpa using e4
  rw [cellsOf_int1] at k5
  replace k5 : DataW.trod enc Tryz.prog w base spare held n 3 [c5] = some y5 := k5
  obtain ⟨n5, e5, _, _⟩ := DataW.trod_int Tryz.underlying3 k5
  obtain rfl : c5 = .int .i64 n5 := by simpa using e5
  rw [cellsOf_toks] at k6
  replace k6 : DataW.trod enc Tryz.prog w base spare held n 22 [c6] = some y6 := k6
  obtain ⟨B, l, b, e6, hr, hb, _⟩ := open_toks k6
  obtain rfl : c6 = .slice B l.length b := by simpa using e6
  rw [cellsOf_int1] at k7
  replace k7 : DataW.trod enc Tryz.prog w base spare held n 3 [c7] = some y7 := k7
  obtain ⟨n7, e7, _, _⟩ := DataW.trod_int Tryz.underlying3 k7
  obtain rfl : c7 = .int .i64 n7 := by simpa using e7
  exact ⟨⟨⟨n0, n1, n2, n3, n4, n5, n7, l⟩, B, b⟩, rfl, hr, hb⟩
end Go.Proofs.YtanbfplcldloeaaGreatDoor

/- Arguments of type api.Step and [][]api.Range, opened. -/
namespace Go.Proofs.YtanbfplcldloeaaGreatDoor
open Go.Joins Go.ChangeShapes Go.WideShapes Go.ChangeAt Go.RowKit Go.Deep
variable {H : Type} {enc : TypeId × Value → H} {w : World} {base : Nat} {spare : Nat → Bool} {held : Bool}
theorem cellsOf_rng : Tryz.prog.cellsOf 135 = 3 := by kernel_rfl
theorem cellsOf_rngs : Tryz.prog.cellsOf 34 = 1 := by kernel_rfl
set_option maxRecDepth 100000 in
/-- A step, by value. -/
theorem open_stepV {r : Reach} {b0 : Nat} {v : Value} {d : DataW H} {p : List MemPlace} (hv : Value.okWide Tryz.prog w r b0 24 v) (h : DataW.Trod enc Tryz.prog w base spare held 24 v d p) :
    ∃ s : StepA, v = .agg s.cells.toArray ∧ Rd Nob w s.B (tokC s.s.l) ∧ s.s.l.length ≤ s.b := by
  obtain ⟨cs, rfl, hsz⟩ := okWide_struct Tryz.underlying24 hv
  obtain ⟨l⟩ := cs
  obtain ⟨fuel, hf⟩ := h
  have hcl : (Value.agg ⟨l⟩).cells.toList = l := by simp [Value.cells]
  rw [hcl] at hf
  obtain ⟨s, rfl, h1, h2⟩ := open_step1 hf
  exact ⟨s, rfl, h1, h2⟩
set_option maxRecDepth 100000 in
theorem open_rng {fuel : Nat} {cs : List Value} {x : DataW H × List MemPlace} (h : DataW.trod enc Tryz.prog w base spare held fuel 135 cs = some x) : ∃ r : Rng, cs = r.cells := by
  obtain ⟨xs, n, rfl, rfl, hcl, hxl, hf⟩ := DataW.trod_struct Tryz.underlying135 h
  rw [cellsOf_rng] at hcl
  have hx3 : xs.length = 3 := hxl
  match cs, hcl with
  | [c0, c1, c2], _ =>
  match xs, hx3 with
  | [y0, y1, y2], _ =>
  have k0 : DataW.trod enc Tryz.prog w base spare held n 3 (List.take (Tryz.prog.cellsOf 3) (List.drop 0 [c0, c1, c2])) = some y0 := hf 0 _ rfl
  have k1 : DataW.trod enc Tryz.prog w base spare held n 3 (List.take (Tryz.prog.cellsOf 3) (List.drop 1 [c0, c1, c2])) = some y1 := hf 1 _ rfl
  have k2 : DataW.trod enc Tryz.prog w base spare held n 3 (List.take (Tryz.prog.cellsOf 3) (List.drop 2 [c0, c1, c2])) = some y2 := hf 2 _ rfl
  rw [cellsOf_int1] at k0 k1 k2
  replace k0 : DataW.trod enc Tryz.prog w base spare held n 3 [c0] = some y0 := k0
  replace k1 : DataW.trod enc Tryz.prog w base spare held n 3 [c1] = some y1 := k1
  replace k2 : DataW.trod enc Tryz.prog w base spare held n 3 [c2] = some y2 := k2
  obtain ⟨n0, e0, _, _⟩ := DataW.trod_int Tryz.underlying3 k0
  obtain rfl : c0 = .int .i64 n0 := by simpa using e0
  obtain ⟨n1, e1, _, _⟩ := DataW.trod_int Tryz.underlying3 k1
  obtain rfl : c1 = .int .i64 n1 := by simpa using e1
  obtain ⟨n2, e2, _, _⟩ := DataW.trod_int Tryz.underlying3 k2
  obtain rfl : c2 = .int .i64 n2 := by simpa using e2
  exact ⟨⟨n0, n1, n2⟩, rfl⟩
set_option maxRecDepth 100000 in
theorem open_rngs {fuel : Nat} {cs : List Value} {x : DataW H × List MemPlace} (h : DataW.trod enc Tryz.prog w base spare held fuel 34 cs = some x) : ∃ (A : Option Addr) (l : List Rng) (c : Nat), cs = [.slice A l.length c] ∧ Rd Nob w A (rngC l) ∧ l.length ≤ c ∧ c ≤ maxLen := by
  rcases open_slice Tryz.underlying34 h with ⟨rfl, _⟩ | ⟨a, len, cap, m, n, D, Pl, rfl, _, hlc, hcm, hm, _, hel⟩
  · exact ⟨none, [], 0, rfl, Rd.nil _ _ _, Nat.le_refl _, Nat.zero_le _⟩
  · have hlm : len ≤ m := by rw [hm]; split <;> omega
    obtain ⟨l, h1, h2, _⟩ := row_of (w := w) (Q := fun _ => True) Rng.cells_len a len (fun i hi => by
      obtain ⟨cs', hcs, ht⟩ := hel i (by omega)
      rw [cellsOf_rng] at hcs
      obtain ⟨t, rfl⟩ := open_rng ht
      obtain ⟨_, hl4, hcell⟩ := World.cells?_some hcs
      refine ⟨t, fun j u hu => ?_, trivial⟩
      have hj : j < 3 := by have := (List.getElem?_eq_some_iff.1 hu).1; rwa [Rng.cells_len] at this
      have := hcell j hj
      rw [add_of_add] at this
      rw [this, hu])
    subst h1
    exact ⟨some a, l, cap, rfl, fun _ => ⟨a, rfl, fun h => h, h2⟩, hlc, hcm⟩
/-- A map, as a slice holds it. -/
structure RowA where
  l : List Rng
  A : Option Addr
  c : Nat
def RowA.cells (x : RowA) : List Value := [.slice x.A x.l.length x.c]
theorem RowA.cells_len (x : RowA) : x.cells.length = 1 := rfl
def rowC (L : List RowA) : List Value := L.flatMap RowA.cells
/-- Maps in memory. -/
structure RowsM (M : Nat → Prop) (w : World) (A : Option Addr) (L : List RowA) : Prop where
  head : Rd M w A (rowC L)
  rows : ∀ x ∈ L, Rd M w x.A (rngC x.l)
  small : ∀ x ∈ L, x.l.length ≤ 9223372036854775807
theorem RowsM.fr {M M' : Nat → Prop} {w w' : World} {A : Option Addr} {L : List RowA} (h : RowsM M w A L) (hf : Fr M' w w') (hM : ∀ k, k < w.heap.size → M' k → M k) : RowsM M w' A L :=
  ⟨h.head.fr hf hM, fun x hx => (h.rows x hx).fr hf hM, h.small⟩
set_option maxRecDepth 100000 in
theorem open_rowsV {r : Reach} {b0 : Nat} {v : Value} {d : DataW H} {p : List MemPlace} (hv : Value.okWide Tryz.prog w r b0 25 v) (h : DataW.Trod enc Tryz.prog w base spare held 25 v d p) :
    ∃ (A : Option Addr) (L : List RowA) (c : Nat), v = .slice A L.length c ∧ RowsM Nob w A L ∧ L.length ≤ c ∧ c ≤ maxLen := by
  obtain ⟨A0, n0, c0, rfl⟩ := okWide_slice Tryz.underlying25 hv
  obtain ⟨fuel, hf⟩ := h
  have hcl : (Value.slice A0 n0 c0).cells.toList = [.slice A0 n0 c0] := by simp [Value.cells]
  rw [hcl] at hf
  rcases open_slice Tryz.underlying25 hf with ⟨e, _⟩ | ⟨a, len, cap, m, n, D, Pl, e, _, hlc, hcm, hm, _, hel⟩
  · obtain ⟨rfl, rfl, rfl⟩ : A0 = none ∧ n0 = 0 ∧ c0 = 0 := by simpa using e
    exact ⟨none, [], 0, rfl, ⟨Rd.nil _ _ _, fun _ h => (by cases h), fun _ h => (by cases h)⟩, Nat.le_refl _, Nat.zero_le _⟩
  · obtain ⟨rfl, rfl, rfl⟩ : A0 = some a ∧ n0 = len ∧ c0 = cap := by simpa using e
    have hlm : n0 ≤ m := by rw [hm]; split <;> omega
    obtain ⟨L, h1, h2, h3⟩ := row_of (w := w) (Q := fun s : RowA => Rd Nob w s.A (rngC s.l) ∧ s.l.length ≤ 9223372036854775807) RowA.cells_len a n0 (fun i hi => by
      obtain ⟨cs', hcs, ht⟩ := hel i (by omega)
      rw [cellsOf_rngs] at hcs
      obtain ⟨B, l, b, rfl, hr, hb, hbm⟩ := open_rngs ht
      obtain ⟨_, hl8, hcell⟩ := World.cells?_some hcs
      refine ⟨⟨l, B, b⟩, fun j u hu => ?_, hr, (show l.length ≤ 9223372036854775807 by simp only [maxLen] at hbm; omega)⟩
      have hj : j < 1 := by have := (List.getElem?_eq_some_iff.1 hu).1; rwa [RowA.cells_len] at this
      have := hcell j hj
      rw [add_of_add] at this
      rw [this, show [Value.slice B l.length b][j]? = some u from hu])
    subst h1
    exact ⟨some a, L, c0, rfl, ⟨fun _ => ⟨a, rfl, fun h => h, h2⟩, fun x hx => (h3 x hx).1, fun x hx => (h3 x hx).2⟩, hlc, hcm⟩
end Go.Proofs.YtanbfplcldloeaaGreatDoor

/- A region that draws its order, within a round of a range over a function, out of what is shown of it anywhere: the wide fence alone. -/
namespace Go.Proofs.YtanbfplcldloeaaGreatDoor
open Go.RowKit
theorem op_round {P : Program} {o : Oper} {a : Act} {w : World} {K : Act → World → Prop} {Q : Exit → Act → World → Prop} (l n : Nat) (hd : ∀ c, o.op ≠ .defer c) (h : o.wp P a w K Q) : o.wpIn (Fence.wide.inRound l) n P a w K Q := by
  unfold Oper.wpIn
  refine ⟨fun f _ => trivial, ?_⟩
  rw [Fence.inRound_round, Oper.semAt_some l _ _ hd]
  unfold Oper.wp at h
  generalize (execOp a.eval o).run P w = r at h ⊢
  cases r with
  | ok x w' =>
    cases x <;> simp only [Oper.upon, Oper.uponIn] at h ⊢ <;> first | exact h | skip
    · exact ⟨fun h => by simp [Fence.wide] at h, (callsIn_wide.2 h).inRound l⟩
    · exact ⟨fun h => by simp [Fence.wide] at h, fun c cs _ => let ⟨v, w', hv, hs⟩ := h c cs; ⟨v, w', hv, stepsIn_wide.2 hs⟩⟩
  | halt x w' => cases x <;> simp only [Oper.upon, Oper.uponIn] at h ⊢ <;> exact h
def noDefer (o : Oper) : Bool := match o.op with | .defer _ => false | _ => true
theorem noDefer_ne {o : Oper} (h : noDefer o = true) : ∀ c, o.op ≠ .defer c := fun c e => by simp [noDefer, e] at h
theorem wpOp_round {P : Program} {ops : Array Oper} {Q : Exit → Act → World → Prop} (l n : Nat) (hd : ∀ o ∈ ops, noDefer o = true) (hQ : ¬ LetsOut Q) {i : Nat} {K : Act → World → Prop} {a : Act} {w : World} (h : wpOp P ops Q i K a w) : wpOpIn (Fence.wide.inRound l) n P ops Q i K a w := by
  unfold wpOp at h
  unfold wpOpIn
  cases ho : ops[i]? with
  | none => simpa [ho] using h
  | some o =>
    simp only [ho] at h ⊢
    split
    · rename_i hw
      rw [if_pos hw] at h
      exact op_round l n (noDefer_ne (hd o (Array.mem_of_getElem? ho))) (h.resolve_right (fun hh => hQ hh.2))
    · rename_i hw
      rw [if_neg hw] at h
      exact ⟨fun _ _ => trivial, h⟩
theorem wpAny_round {P : Program} {md : Region.Mode} {ops : Array Oper} {Q : Exit → Act → World → Prop} (l n : Nat) (hd : ∀ o ∈ ops, noDefer o = true) (hQ : ¬ LetsOut Q) : ∀ (fuel : Nat) (listed : Array Bool) (a : Act) (w : World), wpAny P md ops Q fuel listed a w → wpAnyIn (Fence.wide.inRound l) n P md ops Q fuel listed a w
  | 0, _, _, _, h => h
  | fuel + 1, _, _, _, h => ⟨h.1, fun i hi => wpOpIn_mono (fun a' w' h' => wpAny_round l n hd hQ fuel _ a' w' h') (wpOp_round l n hd hQ (h.2 i hi))⟩
/-- A region within a round: whatever order is drawn. -/
theorem region_round {P : Program} {id l n : Nat} {ops : Array Oper} {Q : Exit → Act → World → Prop} {a : Act} {w : World} (hm : P.follows .mixedOrders = true) (hd : ops.all noDefer = true) (hQ : ¬ LetsOut Q)
    (h : wpAny P .any ops Q ops.size (Array.replicate ops.size false) a w.drew) : (Code.region id ops true).wpIn (Fence.wide.inRound l) n P Q a w :=
  wpIn_region_any hm (wpAny_round l n (fun o ho => by rw [Array.all_eq_true] at hd; obtain ⟨i, hi, rfl⟩ := Array.mem_iff_getElem.1 ho; exact hd i hi) hQ _ _ _ _ h)
theorem region_round_held {P : Program} {id l n : Nat} {ops : Array Oper} {Q : Exit → Act → World → Prop} {S : World → Prop} {a : Act} {w : World} (hm : P.follows .mixedOrders = true) (hd : ops.all noDefer = true) (hQ : ¬ LetsOut Q)
    (h : wpAnyH P .any ops Q S ops.size (Array.replicate ops.size false) a w.drew) : (Code.region id ops true).wpIn (Fence.wide.inRound l) n P Q a w :=
  region_round hm hd hQ (wpAny_of_held _ _ _ _ h)
/-- 'wpStill', shut: else Lean reckons it through at every term that is typed against it. -/
structure StillW (P : Program) (ops : Array Oper) (w : World) (Q : Act → Prop) (l : List Oper) (a : Act) : Prop where
  out : wpStill P ops w Q l a
section
variable {P : Program} {ops : Array Oper} {w : World} {Q : Act → Prop} {o : Oper} {rest : List Oper} {a : Act}
theorem StillW.nil (h : Q a) : StillW P ops w Q [] a := ⟨h⟩
theorem StillW.step (h : ∀ K : Act → Prop, (∀ a, StillW P ops w Q rest a → K a) → if Region.wanted o (yielded ops a.tmps) then o.still P a w K else K (a.put o.dst undef)) : StillW P ops w Q (o :: rest) a :=
  ⟨wpStill_step (fun K hK => h K (fun a ha => hK a ha.out))⟩
/-- An operation whose guard says no. -/
theorem StillW.skip (h : Region.wanted o (yielded ops a.tmps) = false) (hr : StillW P ops w Q rest (a.put o.dst undef)) : StillW P ops w Q (o :: rest) a :=
  .step (fun K hK => by rw [if_neg (by rw [h]; simp)]; exact hK _ hr)
/-- One whose guard says yes. -/
theorem StillW.want (h : Region.wanted o (yielded ops a.tmps) = true) (hr : ∀ K : Act → Prop, (∀ a, StillW P ops w Q rest a → K a) → o.still P a w K) : StillW P ops w Q (o :: rest) a :=
  .step (fun K hK => by rw [if_pos h]; exact hr K hK)
/-- A choice. -/
theorem StillW.pick {c x y : Operand} (t : Bool) (v : Value) (hop : o.op = .pick c x y) (hg : Region.wanted o (yielded ops a.tmps) = true) (hc : a.eval c = .bool t) (hv : (if t = true then a.eval x else a.eval y) = v) (hr : StillW P ops w Q rest (a.put o.dst v)) : StillW P ops w Q (o :: rest) a := by
  refine .want hg (fun K hK => ?_)
  unfold Oper.still
  have : (execOp a.eval o).run P w = .ok (.value v) w := by simp [execOp, hop, hc, asBool, hv]
  rw [this]
  exact ⟨rfl, hK _ hr⟩
/-- A move. -/
theorem StillW.move {x : Operand} (v : Value) (hop : o.op = .move x) (hg : Region.wanted o (yielded ops a.tmps) = true) (hv : a.eval x = v) (hr : StillW P ops w Q rest (a.put o.dst v)) : StillW P ops w Q (o :: rest) a := by
  refine .want hg (fun K hK => ?_)
  unfold Oper.still
  have : (execOp a.eval o).run P w = .ok (.value v) w := by simp [execOp, hop, hv]
  rw [this]
  exact ⟨rfl, hK _ hr⟩
end
/-- .. that only reads. -/
theorem region_round_still {P : Program} {id r n : Nat} {l : List Oper} {Q : Exit → Act → World → Prop} {a : Act} {w : World} (hm : P.follows .mixedOrders = true) (hd : l.toArray.all noDefer = true) (hB : Region.lexB .any l.toArray = true) (hQ : ¬ LetsOut Q)
    (h' : StillW P l.toArray w.drew (fun a' => Q .normal a' w.drew) l a) : (Code.region id l.toArray true).wpIn (Fence.wide.inRound r) n P Q a w := by
  have h := h'.out
  simp only [Region.lexB, Bool.and_eq_true] at hB
  refine region_round hm hd hQ (wpAny_of_still (Q := fun a' => Q .normal a' w.drew) (fun _ h => h) _ _ _ ?_)
  have := wpAnyS_lex (md := .any) hB.1 l 0 (Array.replicate l.toArray.size false) a (by simp) (by simpa using hB.2) h
  simpa using this
theorem notOut_then {K : Act → World → Prop} {Q : Exit → Act → World → Prop} (h : ¬ LetsOut Q) : ¬ LetsOut (Exit.then K Q) := fun ⟨a, w, h'⟩ => h ⟨a, w, h'⟩
theorem notOut_block {id : Nat} {Q : Exit → Act → World → Prop} (h : ¬ LetsOut Q) : ¬ LetsOut (Exit.inBlock id Q) := fun ⟨a, w, h'⟩ => h ⟨a, w, h'⟩
theorem notOut_own {α : Type} {Kp : World → World → Prop} {I : List α → World → Prop} {Ix : Code → List α → World → Prop} {xs : List α} {W : World} : ¬ LetsOut (ownPostK Kp I Ix xs W) := fun ⟨_, _, h⟩ => h
/-- What speaks of old blocks alone abides what a loop's own blocks do. -/
theorem ownFrom_fr {β : Type} {M : Nat → Prop} {w2 : World} {B : Nat} (hB : w2.heap.size ≤ B) : OwnFrom B (fun (_ : β) W => Fr M w2 W) := fun _ W W' row hs hg hr =>
  hs.trans (Fr.of_grown hg) (fun k hk e => by have := (hr k e.symm).1; omega)
theorem ownFrom_blk {β : Type} {b B : Nat} (hb : b < B) (f : β → List Value) (T : TypeId) : OwnFrom B (fun (s : β) W => Blk W b (f s) T) := fun _ W W' row hs hg hr =>
  hs.fr (Fr.of_grown hg) (fun e => by have := (hr b e.symm).1; omega)
theorem ownFrom_pure {β : Type} {B : Nat} (p : β → Prop) : OwnFrom B (fun (s : β) (_ : World) => p s) := fun _ _ _ _ hs _ _ => hs
theorem ownFrom_ex {β ι : Type} {B : Nat} {I : ι → β → World → Prop} (h : ∀ i, OwnFrom B (I i)) : OwnFrom B (fun (s : β) W => ∃ i, I i s W) := fun s A W row ⟨i, hs⟩ hg hr => ⟨i, h i s A W row hs hg hr⟩
/-- The frame behind a loop: its book is closed. -/
theorem fr_putObj {M : Nat → Prop} {w2 W : World} {D : Nat} (o : Obj) (h : Fr M w2 W) (hD : w2.heap.size ≤ D) : Fr M w2 (W.putObj D o) :=
  h.trans (Fr.of_grown (grownBy_putObj' W D o)) (fun k hk e => by cases e; omega)
theorem blk_putObj {W : World} {g D : Nat} {cs : List Value} {t : TypeId} (o : Obj) (h : Blk W g cs t) (hne : g ≠ D) : Blk (W.putObj D o) g cs t := (World.putObj_heap_other hne).trans h
end Go.Proofs.YtanbfplcldloeaaGreatDoor
