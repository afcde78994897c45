/- A part of the proof for chapter 10: StepMap, Rdo, StepsM, Open10, Seen, Names, App2, Later, Clone, Orders; no conditions. -/
import Derived.Test.YtldcffonfidbcaaGreatDoorY19
import Derived.Test.YtldcffonfidbcaaGreatDoorY12
import Derived.Test.YtldcffonfidbcaaGreatDoorY08
import Derived.Test.YtldcffonfidbcaaGreatDoorRows
import Derived.Deep.Slices
import Derived.Deep.Fields
import Derived.ChangeSame
import Derived.Test.YtldcffonfidbcaaGreatDoorY11
import Derived.Deep.AppendLies
import Derived.Deep.DeepAppendRoom
import Derived.Deep.Onto
import Derived.ArgAppend
import Derived.Laws.OwnMore
import Derived.OrdersHeld
import Derived.Deep.RegionHeld
/- Chapter 9: a step's map. -/
namespace Go.Proofs.YtldcffonfidbcaaGreatDoor
open Go.RowKit
/-- A map, as memory holds it. -/
def Rngs (M : Nat → Prop) (w : World) (v : Value) (l : List Rng) : Prop := ∃ A c, v = .slice A l.length c ∧ Rd M w A (rngC l)
theorem Rngs.fr {M M' : Nat → Prop} {w w' : World} {v : Value} {l : List Rng} (h : Rngs M w v l) (hf : Fr M' w w') (hM : ∀ k, k < w.heap.size → M' k → M k) : Rngs M w' v l := by
  obtain ⟨A, c, rfl, hr⟩ := h
  exact ⟨A, c, rfl, hr.fr hf hM⟩
theorem Rngs.fr0 {M : Nat → Prop} {w w' : World} {v : Value} {l : List Rng} (h : Rngs M w v l) (hf : Fr Nob w w') : Rngs M w' v l := h.fr hf (fun _ _ h => h.elim)
theorem Rngs.mono {M M' : Nat → Prop} {w : World} {v : Value} {l : List Rng} (h : Rngs M w v l) (hM : ∀ k, M' k → M k) : Rngs M' w v l := by
  obtain ⟨A, c, rfl, hr⟩ := h
  exact ⟨A, c, rfl, hr.mono hM⟩
theorem Rngs.nil (M : Nat → Prop) (w : World) : Rngs M w (.slice none 0 0) [] := ⟨none, 0, rfl, Rd.nil _ _ _⟩
/-- A map in a new block. -/
theorem Rngs.new {w0 w : World} (l : List Rng) (T : TypeId) (hs : w0.heap.size ≤ w.heap.size) : Rngs (fun k => k < w0.heap.size) (w.alloc (.cells (rngC l).toArray T)) (.slice (some ⟨w.heap.size, 0, none⟩) l.length l.length) l :=
  ⟨_, _, rfl, fun _ => ⟨_, rfl, Nat.not_lt.2 hs, fun j u hu => by rw [add_lit]; exact ((Blk.new w (rngC l) T).cell j).trans hu⟩⟩
def stepmapF (s : StepM) : List Rng :=
  if s.k = 0 then [⟨s.f, s.t - s.f, s.l.length⟩]
  else if s.k = 1 then [⟨s.f, s.gf - s.f, s.ins⟩, ⟨s.gt, s.t - s.gt, s.l.length - s.ins⟩]
  else []
set_option maxRecDepth 100000 in
set_option maxHeartbeats 4000000 in
theorem stepmap_any (M : Nat → Prop) (s : StepM) (B : Option Addr) (b : Nat) (w : World) (hx : Rd M w B (tokC s.l)) :
    Calls Tryz.prog 78 #[.agg (s.cells (.slice B s.l.length b)).toArray] w fun e w' => ∃ v, e = .returned (.tuple #[v, .int .i64 (stepF s)]) ∧ Rngs (fun k => k < w.heap.size) w' v (if stepF s = 0 then stepmapF s else []) ∧ Fr Nob w w' := by
  obtain ⟨R, hR⟩ : ∃ R, (if stepF s = 0 then stepmapF s else []) = R := ⟨_, rfl⟩
  rw [hR]
  have HR := Lib.hid hR
  obtain ⟨xn, hxn⟩ : ∃ xn, s.l.length = xn := ⟨_, rfl⟩
  have HXN := Lib.hid hxn
  have HX := Lib.hid hx
  rw [hxn]
  clear hx hxn hR
  obtain ⟨E, hE⟩ : ∃ E, stepF s = E := ⟨_, rfl⟩
  rw [hE]
  have HE := Lib.hid hE
  clear hE
  obtain ⟨k, f, t, gf, gt, ins, m, x⟩ := s
  simp only [StepM.cells] at *
  go_enter Tryz.func78, Tryz.ntmps78
  go_upto_region 1 with (fail)
  obtain ⟨W, hW⟩ : ∃ W, w.alloc (.cells #[.int .i64 k, .int .i64 f, .int .i64 t, .int .i64 gf, .int .i64 gt, .int .i64 ins, .slice B xn b, .int .i64 m] 32) = W := ⟨_, rfl⟩
  have HF := Lib.hid (show Fr Nob w W by rw [← hW]; exact (Fr.refl _ _).alloc _)
  have HB := Lib.hid (show Blk W w.heap.size [.int .i64 k, .int .i64 f, .int .i64 t, .int .i64 gf, .int .i64 gt, .int .i64 ins, .slice B xn b, .int .i64 m] 32 by rw [← hW]; exact Blk.new _ _ _)
  rw [hW]
  clear hW
  have b0 := HB.out.cell 0
  have b1 := HB.out.cell 1
  have b2 := HB.out.cell 2
  have b3 := HB.out.cell 3
  have b4 := HB.out.cell 4
  have b5 := HB.out.cell 5
  have b6 := HB.out.cell 6
  have b7 := HB.out.cell 7
  have hlb := HB.out.lt
  simp only [List.getElem?_cons_zero, List.getElem?_cons_succ] at b0 b1 b2 b3 b4 b5 b6 b7
  go_wp2_with fail
  have hck := stepcheck_any M ⟨k, f, t, gf, gt, ins, m, x⟩ B b W (HX.out.fr HF.out (fun _ _ h => h.elim))
  simp only [StepM.cells, HXN.out] at hck
  refine hck.mono ?_
  clear hck
  rintro e w2 ⟨rfl, hF2⟩
  have HF2 := Lib.hid (HF.out.same hF2)
  have HB2 := Lib.hid (HB.out.fr hF2 (fun h => h))
  clear hF2 b0 b1 b2 b3 b4 b5 b6 b7 hlb
  rw [HE.out]
  by_cases hz : E = 0
  · subst hz
    have b0 := HB2.out.cell 0
    have b1 := HB2.out.cell 1
    have b2 := HB2.out.cell 2
    have b3 := HB2.out.cell 3
    have b4 := HB2.out.cell 4
    have b5 := HB2.out.cell 5
    have b6 := HB2.out.cell 6
    have hlb := HB2.out.lt
    simp only [List.getElem?_cons_zero, List.getElem?_cons_succ] at b0 b1 b2 b3 b4 b5 b6
    have HR2 := Lib.hid (show stepmapF ⟨k, f, t, gf, gt, ins, m, x⟩ = R by rw [← HR.out, HE.out, if_pos rfl])
    obtain ⟨hxl, hk, _⟩ := stepF_zero HE.out
    have h0 := (ok0S_iff _ _).1 (kindOk_0 hk)
    have haro := fun h1 => (aroS_iff _ _ _ _ _ _).1 (kindOk_1 hk h1)
    simp only at hxl h0 haro
    rw [HXN.out] at hxl haro
    clear hk
    by_cases h1 : k = 0
    · subst h1
      have HM := Lib.hid (show [⟨f, t - f, xn⟩] = R by rw [← HR2.out]; simp [stepmapF, HXN.out])
      clear haro
      go_wp2_with fail
      refine bodyPost_ret (v := .tuple #[.slice (some ⟨w2.heap.size, 0, none⟩) 1 1, .int .i64 0]) (by simp [results, go_sem]) rfl ?_
      exact ⟨_, rfl, by rw [← HM.out]; exact Rngs.new [⟨f, t - f, xn⟩] _ HF2.out.size, HF2.out.alloc _⟩
    · have h1' : (k == 0) = false := by simpa using h1
      by_cases h2 : k = 1
      · subst h2
        have ha := haro rfl
        have HM := Lib.hid (show [⟨f, gf - f, ins⟩, ⟨gt, t - gt, xn - ins⟩] = R by rw [← HR2.out]; simp [stepmapF, HXN.out])
        clear haro
        go_wp2_with fail
        refine bodyPost_ret (v := .tuple #[.slice (some ⟨w2.heap.size, 0, none⟩) 2 2, .int .i64 0]) (by simp [results, go_sem]) rfl ?_
        exact ⟨_, rfl, by rw [← HM.out]; exact Rngs.new [⟨f, gf - f, ins⟩, ⟨gt, t - gt, xn - ins⟩] _ HF2.out.size, HF2.out.alloc _⟩
      · have h2' : (k == 1) = false := by simpa using h2
        have HM := Lib.hid (show [] = R by rw [← HR2.out]; simp [stepmapF, h1, h2])
        clear haro
        go_wp2_with fail
        refine bodyPost_ret (v := .tuple #[.slice none 0 0, .int .i64 0]) (by simp [results, go_sem]) rfl ?_
        exact ⟨_, rfl, by rw [← HM.out]; exact Rngs.nil _ _, HF2.out⟩
  · have hse2 : (E != 0) = true := by simpa using hz
    have HM := Lib.hid (show [] = R by rw [← HR.out, HE.out, if_neg hz])
    go_wp2_with fail
    refine bodyPost_ret (v := .tuple #[.slice none 0 0, .int .i64 E]) (by simp [results, go_sem]) rfl ?_
    exact ⟨_, rfl, by rw [← HM.out]; exact Rngs.nil _ _, HF2.out⟩
end Go.Proofs.YtldcffonfidbcaaGreatDoor

/- Chapter 10: a step at a document, if it stays valid. -/
namespace Go.Proofs.YtldcffonfidbcaaGreatDoor
open Go.RowKit
/-- The error of a step at a document, or 0. -/
def doE (rs : List RuleM) (g : List Grp) (s : StepM) (l : List Tok) : Int := if applyE s l ≠ 0 then applyE s l else (checkF rs g (doF s l)).2
/-- A refusal, as memory holds it. -/
def refV (e : Int) : Value := if e = 0 then .nilIface else .iface 201 (.agg #[.int .i64 e])
theorem applyE_zero {s : StepM} {l : List Tok} (h : applyE s l = 0) : (flatCheck l).2 = 0 ∧ stepF s = 0 ∧ s.t ≤ l.length ∧ (flatCheck (doF s l)).2 = 0 := by
  unfold applyE at h
  split at h
  · rename_i h1; exact absurd h h1
  · rename_i h1
    split at h
    · rename_i h2; exact absurd h h2
    · rename_i h2
      split at h
      · omega
      · split at h
        · omega
        · exact ⟨by omega, by omega, by omega, h⟩
set_option maxRecDepth 100000 in
set_option maxHeartbeats 4000000 in
theorem remdo_any (M M1 M2 : Nat → Prop) (p : Nat) (rs : List RuleM) (g : List Grp) (hok : SchOk rs g) (s : StepM) (A B : Option Addr) (l : List Tok) (c b : Nat) (w : World) (hs : Sch M w p rs g) (hl : Rd M1 w A (tokC l)) (hx : Rd M2 w B (tokC s.l)) (hc : l.length ≤ c) (hb : s.l.length ≤ b) (hn : l.length ≤ 9223372036854775807) :
    Calls Tryz.prog 72 #[.pointer (some ⟨p, 0, none⟩), .slice A l.length c, .agg (s.cells (.slice B s.l.length b)).toArray] w fun e w' => ∃ v, e = .returned (.tuple #[v, refV (doE rs g s l)]) ∧ (doE rs g s l = 0 → NewDoc w w' v (doF s l)) ∧ (doE rs g s l ≠ 0 → v = .slice none 0 0) ∧ Fr Nob w w' := by
  obtain ⟨E, hE⟩ : ∃ E, doE rs g s l = E := ⟨_, rfl⟩
  rw [hE]
  have HE := Lib.hid hE
  have HS := Lib.hid hs
  have HOK := Lib.hid hok
  have HL := Lib.hid hl
  have HX := Lib.hid hx
  have HCB := Lib.hid (And.intro hc (And.intro hb hn))
  obtain ⟨ln, hln⟩ : ∃ ln, l.length = ln := ⟨_, rfl⟩
  obtain ⟨xn, hxn⟩ : ∃ xn, s.l.length = xn := ⟨_, rfl⟩
  have HLN := Lib.hid hln
  have HXN := Lib.hid hxn
  rw [hln, hxn]
  clear hs hl hx hc hb hn hln hxn hE hok
  obtain ⟨sr, hsr⟩ : ∃ r, r = s := ⟨_, rfl⟩
  have HSR := Lib.hid hsr
  rw [← hsr] at HE HX HCB HXN ⊢
  clear hsr
  obtain ⟨k, f, t, gf, gt, ins, m, x⟩ := sr
  simp only [StepM.cells] at *
  go_enter Tryz.func72, Tryz.ntmps72
  go_upto_region 1 with (fail)
  obtain ⟨W, hW⟩ : ∃ W, w.alloc (.cells #[.int .i64 k, .int .i64 f, .int .i64 t, .int .i64 gf, .int .i64 gt, .int .i64 ins, .slice B xn b, .int .i64 m] 32) = W := ⟨_, rfl⟩
  have HF := Lib.hid (show Fr Nob w W by rw [← hW]; exact (Fr.refl _ _).alloc _)
  have HB := Lib.hid (show Blk W w.heap.size [.int .i64 k, .int .i64 f, .int .i64 t, .int .i64 gf, .int .i64 gt, .int .i64 ins, .slice B xn b, .int .i64 m] 32 by rw [← hW]; exact Blk.new _ _ _)
  rw [hW]
  clear hW
  have b0 := HB.out.cell 0
  have b1 := HB.out.cell 1
  have b2 := HB.out.cell 2
  have b3 := HB.out.cell 3
  have b4 := HB.out.cell 4
  have b5 := HB.out.cell 5
  have b6 := HB.out.cell 6
  have b7 := HB.out.cell 7
  have hlb := HB.out.lt
  simp only [List.getElem?_cons_zero, List.getElem?_cons_succ] at b0 b1 b2 b3 b4 b5 b6 b7
  go_wp2_with fail
  have hap := apply_any (fun _ => False) ⟨k, f, t, gf, gt, ins, m, x⟩ A B l c b W ((HL.out.mono (fun _ h => h.elim)).fr HF.out (fun _ _ h => h.elim)) ((HX.out.mono (fun _ h => h.elim)).fr HF.out (fun _ _ h => h.elim)) HCB.out.1 HCB.out.2.1 HCB.out.2.2
  simp only [StepM.cells, HXN.out, HLN.out] at hap
  refine hap.mono ?_
  clear hap b0 b1 b2 b3 b4 b5 b6 b7 hlb
  obtain ⟨ae, hae⟩ : ∃ r, applyE ⟨k, f, t, gf, gt, ins, m, x⟩ l = r := ⟨_, rfl⟩
  have HAE := Lib.hid hae
  rw [hae]
  clear hae
  rintro e w1 ⟨v, rfl, hv, hz, hF1⟩
  have HF1 := Lib.hid (HF.out.same hF1)
  by_cases h0 : ae = 0
  · subst h0
    have HV := Lib.hid ((hv rfl).old HF.out.size)
    have HE1 := Lib.hid (show (checkF rs g (doF ⟨k, f, t, gf, gt, ins, m, x⟩ l)).2 = E by rw [← HE.out, doE, if_neg (by rw [HAE.out]; simp)])
    clear hv hz hF1
    go_wp2_with fail
    have hfl := flat_short (applyE_zero HAE.out).2.2.2
    refine (schcheck_any M _ p rs g HOK.out v _ w1 (HS.out.fr0 HF1.out) HV.out.doc (by omega)).mono ?_
    rintro e w2 ⟨rfl, hF2⟩
    have HF2 := Lib.hid (HF1.out.same hF2)
    have HV2 : Hid (NewDoc w w2 v (doF ⟨k, f, t, gf, gt, ins, m, x⟩ l)) := by
      obtain ⟨gg, rfl, hg, hb⟩ := HV.out
      exact ⟨gg, rfl, hg, hb.fr hF2 (fun h => h)⟩
    clear hF2 hfl
    obtain ⟨⟨ci, ce⟩, hce⟩ : ∃ r, checkF rs g (doF ⟨k, f, t, gf, gt, ins, m, x⟩ l) = r := ⟨_, rfl⟩
    rw [hce] at HE1 ⊢
    clear hce
    simp only at HE1 ⊢
    by_cases h1 : ce = 0
    · subst h1
      have HE2 := Lib.hid (show E = 0 from HE1.out.symm)
      go_wp2_with fail
      refine bodyPost_ret (v := .tuple #[v, .nilIface]) (by simp [results, go_sem]) rfl ?_
      exact ⟨v, by rw [HE2.out]; rfl, fun _ => HV2.out, fun h => absurd HE2.out h, HF2.out⟩
    · have h1' : (ce != 0) = true := by simpa using h1
      have HE2 := Lib.hid (show E = ce from HE1.out.symm)
      go_wp2_with fail
      refine bodyPost_ret (v := .tuple #[.slice none 0 0, .iface 201 (.agg #[.int .i64 ce])]) (by simp [results, go_sem]) rfl ?_
      exact ⟨_, by rw [HE2.out, refV, if_neg h1], by rw [HE2.out]; intro h; exact absurd h h1, fun _ => rfl, HF2.out⟩
  · have h0' : (ae == 0) = false := by simpa using h0
    have h0'' : (ae != 0) = true := by simpa using h0
    have HE1 := Lib.hid (show ae = E by rw [← HE.out, doE, if_pos (by rw [HAE.out]; exact h0), HAE.out])
    go_wp2_with fail
    refine bodyPost_ret (v := .tuple #[.slice none 0 0, .iface 201 (.agg #[.int .i64 ae])]) (by simp [results, go_sem]) rfl ?_
    exact ⟨_, by rw [← HE1.out, refV, if_neg h0], by rw [← HE1.out]; intro h; exact absurd h h0, fun _ => rfl, HF1.out⟩
end Go.Proofs.YtldcffonfidbcaaGreatDoor

/- Steps in memory; steps at a document, one behind the other. -/
namespace Go.Proofs.YtldcffonfidbcaaGreatDoor
open Go.RowKit
/-- A step in memory: its letters lie in a row of their own. -/
structure StepA where
  s : StepM
  B : Option Addr
  b : Nat
def StepA.cells (x : StepA) : List Value := x.s.cells (.slice x.B x.s.l.length x.b)
theorem StepA.cells_len (x : StepA) : x.cells.length = 8 := rfl
def stepC (L : List StepA) : List Value := L.flatMap StepA.cells
/-- Steps in memory. -/
structure StepsM (M : Nat → Prop) (w : World) (A : Option Addr) (L : List StepA) : Prop where
  row : Rd M w A (stepC L)
  each : ∀ x ∈ L, Rd M w x.B (tokC x.s.l)
  cap : ∀ x ∈ L, x.s.l.length ≤ x.b
theorem StepsM.fr {M M' : Nat → Prop} {w w' : World} {A : Option Addr} {L : List StepA} (h : StepsM M w A L) (hf : Fr M' w w') (hM : ∀ k, k < w.heap.size → M' k → M k) : StepsM M w' A L :=
  ⟨h.row.fr hf hM, fun x hx => (h.each x hx).fr hf hM, h.cap⟩
theorem StepsM.fr0 {M : Nat → Prop} {w w' : World} {A : Option Addr} {L : List StepA} (h : StepsM M w A L) (hf : Fr Nob w w') : StepsM M w' A L := h.fr hf (fun _ _ h => h.elim)
theorem StepsM.mono {M M' : Nat → Prop} {w : World} {A : Option Addr} {L : List StepA} (h : StepsM M w A L) (hM : ∀ k, M' k → M k) : StepsM M' w A L :=
  ⟨h.row.mono hM, fun x hx => (h.each x hx).mono hM, h.cap⟩
theorem StepsM.bound {M : Nat → Prop} {w : World} {A : Option Addr} {L : List StepA} (h : StepsM M w A L) : StepsM (fun k => M k ∨ w.heap.size ≤ k) w A L :=
  ⟨h.row.bound, fun x hx => (h.each x hx).bound, h.cap⟩
theorem doE_zero {rs : List RuleM} {g : List Grp} {s : StepM} {l : List Tok} (h : doE rs g s l = 0) : applyE s l = 0 ∧ (checkF rs g (doF s l)).2 = 0 := by
  unfold doE at h
  split at h
  · rename_i h1; exact absurd h h1
  · rename_i h1; exact ⟨Decidable.not_not.1 h1, h⟩
end Go.Proofs.YtldcffonfidbcaaGreatDoor

/- Arguments of type []api.Token and []api.Step, opened. -/
namespace Go.Proofs.YtldcffonfidbcaaGreatDoor
open Go.Joins Go.ChangeShapes Go.WideShapes Go.ChangeAt Go.RowKit Go.Deep
variable {H : Type} {enc : TypeId × Value → H} {w : World} {base : Nat} {spare : Nat → Bool} {held : Bool}
end Go.Proofs.YtldcffonfidbcaaGreatDoor

/- Chapter 7: a set of strings, as a map to true. -/
namespace Go.Proofs.YtldcffonfidbcaaGreatDoor
open Go.RowKit
/-- A map that says true of some strings, in the order in which they came. -/
def SetM (w : World) (b : Nat) (l : List ByteArray) : Prop := ∃ es clock, w.heap[b]? = some (.map es clock) ∧ es.toList.map (fun e => (e.key, e.val)) = l.map (fun s => (Value.string s, Value.bool true))
theorem SetM.fr {M : Nat → Prop} {w w' : World} {b : Nat} {l : List ByteArray} (h : SetM w b l) (hf : Fr M w w') (hM : ¬ M b) : SetM w' b l := by
  obtain ⟨es, c, hb, he⟩ := h
  exact ⟨es, c, by rw [hf.block b (lt_of_blk hb) hM]; exact hb, he⟩
theorem SetM.lt {w : World} {b : Nat} {l : List ByteArray} (h : SetM w b l) : b < w.heap.size := by
  obtain ⟨es, c, hb, he⟩ := h
  exact lt_of_blk hb
theorem SetM.keys {es : Array MapEntry} {l : List ByteArray} (he : es.toList.map (fun e => (e.key, e.val)) = l.map (fun s => (Value.string s, Value.bool true))) :
    (∀ x ∈ es.toList, MapKept.IsKey .string x.key ∧ x.val = .bool true ∧ ∃ s ∈ l, x.key = .string s) ∧ ∀ s ∈ l, ∃ x ∈ es.toList, x.key = .string s := by
  refine ⟨fun x hx => ?_, fun s hs => ?_⟩
  · have h1 : (x.key, x.val) ∈ l.map (fun s => (Value.string s, Value.bool true)) := by rw [← he]; exact List.mem_map.2 ⟨x, hx, rfl⟩
    obtain ⟨s, hs, e⟩ := List.mem_map.1 h1
    injection e with e1 e2
    rw [← e1, ← e2]
    exact ⟨trivial, rfl, s, hs, rfl⟩
  · have h1 : (Value.string s, Value.bool true) ∈ es.toList.map (fun e => (e.key, e.val)) := by rw [he]; exact List.mem_map.2 ⟨s, hs, rfl⟩
    obtain ⟨x, hx, e⟩ := List.mem_map.1 h1
    injection e with e1 e2
    exact ⟨x, hx, e1⟩
section
variable {P : Program} {w : World} {b : Nat} {l : List ByteArray} {t k e : TypeId}
theorem run_seen (ht : P.underlying t = some (.map k e)) (hk : P.underlying k = some .string) (hz : (zeroValue e).run P w = .ok (.bool false) w) (h : SetM w b l) (s : ByteArray) (hs : s ∉ l) :
    (Instr.lookup t (.map (some b)) (.string s) false).run P w = .ok (.bool false) w := by
  obtain ⟨es, c, hb, he⟩ := h
  obtain ⟨h1, h2⟩ := SetM.keys he
  have h3 : (Instr.checkKey es.isEmpty 10000 k (.string s)).run P w = .ok () w := MapKept.run_checkKey hk (k := .string s) (by simp [MapKept.IsKey]) es.isEmpty 9999
  rcases MapKept.findNow_spec (d := .string) (k := .string s) trivial es.toList 0 (fun x hx => (h1 x hx).1) with ⟨h4, _⟩ | ⟨j, x, _, hj, hx⟩
  · have h5 := MapKept.run_findKey (P := P) (w := w) hk h4
    simp only [Instr.lookup, Sem.run_bind, Sem.run_pure, run_underlying ht, Result.andThen, MapKept.run_getObj_map hb, h3, h5, hz]
    rfl
  · obtain ⟨_, _, s', hs', e'⟩ := h1 x (List.mem_of_getElem? hj)
    rw [hx] at e'
    injection e' with e'
    exact absurd (e' ▸ hs') hs
theorem run_see (ht : P.underlying t = some (.map k e)) (hk : P.underlying k = some .string) (h : SetM w b l) (s : ByteArray) (hs : s ∉ l) :
    ∃ W, (Instr.mapUpdate t (.map (some b)) (.string s) (.bool true)).run P w = .ok () W ∧ SetM W b (l ++ [s]) ∧ Fr (One b) w W := by
  obtain ⟨es, c, hb, he⟩ := h
  obtain ⟨h1, h2⟩ := SetM.keys he
  have h3 : (Instr.checkKey false 10000 k (.string s)).run P w = .ok () w := MapKept.run_checkKey hk (k := .string s) (by simp [MapKept.IsKey]) false 9999
  rcases MapKept.findNow_spec (d := .string) (k := .string s) trivial es.toList 0 (fun x hx => (h1 x hx).1) with ⟨h4, _⟩ | ⟨j, x, _, hj, hx⟩
  · have h5 := MapKept.run_findKey (P := P) (w := w) hk h4
    refine ⟨put w b (.map (es.push ⟨.string s, .bool true, c⟩) (c + 1)), ?_, ⟨_, _, put_at hb, ?_⟩, fr_put (Fr.refl (One b) w) (.inl (show One b b from rfl)) _⟩
    · simp only [Instr.mapUpdate, Sem.run_bind, run_underlying ht, Result.andThen, MapKept.run_getObj_map hb, h3, h5]
      rw [MapKept.run_setObj_map _ hb]
      rfl
    · rw [Array.toList_push, List.map_append, he, List.map_append]
      rfl
  · obtain ⟨_, _, s', hs', e'⟩ := h1 x (List.mem_of_getElem? hj)
    rw [hx] at e'
    injection e' with e'
    exact absurd (e' ▸ hs') hs
theorem SetM.new (w : World) : SetM (w.alloc (.map #[] 0)) w.heap.size [] := ⟨#[], 0, (MapKept.heap_alloc w _).1, rfl⟩
end
end Go.Proofs.YtldcffonfidbcaaGreatDoor

/- Chapter 7: what a type is: may it be? Its names, each once. -/
namespace Go.Proofs.YtldcffonfidbcaaGreatDoor
open Go.RowKit
/-- A type, as it is told. -/
structure SpecR where
  name : ByteArray
  expr : ByteArray
  leaf : Bool
  marks : Int
  least : Int
  most : Int
  lines : Bool
def SpecR.cells (s : SpecR) : List Value := [.string s.name, .string s.expr, .bool s.leaf, .int .i64 s.marks, .int .i64 s.least, .int .i64 s.most, .bool s.lines]
theorem SpecR.cells_len (s : SpecR) : s.cells.length = 7 := rfl
def specC (l : List SpecR) : List Value := l.flatMap SpecR.cells
/-- A type that may be. -/
structure FitS (s : SpecR) : Prop where
  m0 : 0 ≤ s.marks
  m1 : s.marks < 8
  l0 : 0 ≤ s.least
  l1 : s.least ≤ s.most
  l2 : s.most < 16
  e : s.leaf = true → s.expr = ⟨#[]⟩
set_option maxRecDepth 100000 in
theorem fits_any (s : SpecR) (h : FitS s) (w : World) :
    Calls Tryz.prog 53 #[.agg s.cells.toArray] w fun e w' => e = .returned (.bool true) ∧ Fr Nob w w' := by
  obtain ⟨sn, se, sl, sm, sa, sb, sk⟩ := s
  obtain ⟨m0, m1, l0, l1, l2, he⟩ := h
  simp only [SpecR.cells] at m0 m1 l0 l1 l2 he ⊢
  cases sl
  · clear he
    go_enter Tryz.func53, Tryz.ntmps53
    go_wp2_with fail
    go_ret
    exact ⟨rfl, (Fr.refl _ _).alloc _⟩
  · obtain rfl := he rfl
    clear he
    go_enter Tryz.func53, Tryz.ntmps53
    go_wp2_with fail
    go_ret
    exact ⟨rfl, (Fr.refl _ _).alloc _⟩
set_option maxRecDepth 100000 in
theorem unfit_any (s : SpecR) (h : FitS s) (w : World) :
    Calls Tryz.prog 52 #[.agg s.cells.toArray] w fun e w' => e = .returned (.bool false) ∧ Fr Nob w w' := by
  have HC := fits_any s h
  obtain ⟨sn, se, sl, sm, sa, sb, sk⟩ := s
  have H := Lib.hid h
  have HCC := Lib.hid HC
  clear h HC
  simp only [SpecR.cells] at HCC ⊢
  go_enter Tryz.func52, Tryz.ntmps52
  go_wp2_with fail
  have hf : Fr Nob w (w.alloc (.cells #[.string sn, .string se, .bool sl, .int .i64 sm, .int .i64 sa, .int .i64 sb, .bool sk] 69)) := (Fr.refl _ _).alloc _
  generalize w.alloc (.cells #[.string sn, .string se, .bool sl, .int .i64 sm, .int .i64 sa, .int .i64 sb, .bool sk] 69) = w1 at hf ⊢
  refine (HCC.out w1).mono ?_
  rintro e w2 ⟨rfl, hF2⟩
  go_wp2_with fail
  go_ret
  exact ⟨rfl, hf.same hF2⟩
set_option maxRecDepth 100000 in
theorem indexfit_any (M : Nat → Prop) (l : List SpecR) (hl : ∀ s ∈ l, FitS s) (A : Option Addr) (c : Nat) (w : World) (hn : l.length ≤ 4611686018427387904) (hR : Rd M w A (specC l)) :
    Calls Tryz.prog 84 #[.slice A l.length c, .func (.func 52) #[] #[]] w fun e w' => e = .returned (.int .i64 (-1)) ∧ Fr Nob w w' := by
  have HL := Lib.hid hl
  have HR := Lib.hid hR
  clear hl hR
  go_enter Tryz.func84, Tryz.ntmps84
  go_wp2_with fail
  go_loopg [8] (l.length) (fun n b wr => ∃ (k : Nat), n = l.length - k ∧ k ≤ l.length ∧ b = .int .i64 k ∧ Hid (Fr Nob w wr))
  case atStart => exact ⟨0, rfl, Nat.zero_le _, rfl, Fr.refl _ _⟩
  case round =>
    obtain ⟨k, rfl, hk, rfl, HF⟩ := hrel
    by_cases hlt : k < l.length
    · have ht : ((k : Int) < (l.length : Int)) := by omega
      obtain ⟨ad, rfl, hnb, hbl, h0, hj⟩ := Rd.elt SpecR.cells_len (by omega) (HR.out.fr HF.out (fun _ _ h => h.elim)) hlt
      have q1 := hj 0 (by omega)
      have q2 := hj 1 (by omega)
      have q3 := hj 2 (by omega)
      have q4 := hj 3 (by omega)
      have q5 := hj 4 (by omega)
      have q6 := hj 5 (by omega)
      have HX := Lib.hid (unfit_any l[k] (HL.out _ (List.getElem_mem hlt)))
      generalize l[k] = x at h0 q1 q2 q3 q4 q5 q6 HX
      clear hj hnb
      simp only [SpecR.cells, List.getElem?_cons_zero, List.getElem?_cons_succ] at h0 q1 q2 q3 q4 q5 q6 HX
      go_wp2_with fail
      refine (HX.out wr).mono ?_
      rintro e w2 ⟨rfl, hF2⟩
      have HF2 := Lib.hid (HF.out.same hF2)
      clear hF2 h0 q1 q2 q3 q4 q5 q6 HX HF
      go_wp2_with fail
      go_roundg (l.length - (k + 1))
      case measure => omega
      case rel => exact ⟨k + 1, rfl, by omega, by first | rfl | go_num, HF2.out⟩
    · have ht : ¬ ((k : Int) < (l.length : Int)) := by omega
      go_wp2_with fail
      go_ret
      exact ⟨rfl, HF.out⟩
set_option maxRecDepth 100000 in
theorem anyunfit_any (M : Nat → Prop) (l : List SpecR) (hl : ∀ s ∈ l, FitS s) (A : Option Addr) (c : Nat) (w : World) (hn : l.length ≤ 4611686018427387904) (hR : Rd M w A (specC l)) :
    Calls Tryz.prog 51 #[.slice A l.length c, .func (.func 52) #[] #[]] w fun e w' => e = .returned (.bool false) ∧ Fr Nob w w' := by
  have H := Lib.hid (indexfit_any M l hl A c w hn hR)
  clear hl hR
  go_enter Tryz.func51, Tryz.ntmps51
  go_wp2_with fail
  refine H.out.mono ?_
  rintro e w2 ⟨rfl, hF⟩
  go_wp2_with fail
  go_ret
  exact ⟨rfl, hF⟩
theorem zeroB (w : World) : (zeroValue 4).run Tryz.prog w = .ok (.bool false) w := by kernel_rfl
set_option maxRecDepth 100000 in
theorem fresh_any (s : ByteArray) (hs : s.size ≤ 4611686018427387904) (hn : nameB s.data.toList = true) (l : List ByteArray) (hl : s ∉ l) (b X : Nat) (w : World) (h : SetM w b l) (hX : Blk w X [.map (some b)] 155) :
    Calls Tryz.prog 82 #[.string s, .pointer (some ⟨X, 0, none⟩)] w fun e w' => e = .returned (.bool true) ∧ SetM w' b (l ++ [s]) ∧ Fr (One b) w w' := by
  have HN := Lib.hid (name_any s hs w)
  rw [hn] at HN
  have HS := Lib.hid h
  have HX := Lib.hid hX
  have HL := Lib.hid hl
  clear h hX hl hn hs
  go_enter Tryz.func82, Tryz.ntmps82
  go_wp2_with fail
  refine HN.out.mono ?_
  rintro e w2 ⟨rfl, hF2⟩
  have HF2 := Lib.hid hF2
  clear hF2 HN
  have HS2 := Lib.hid (HS.out.fr HF2.out (fun h => h))
  have x0 := (HX.out.fr HF2.out (fun h => h)).cell 0
  have xl := (HX.out.fr HF2.out (fun h => h)).lt
  simp only [List.getElem?_cons_zero] at x0
  have hlk := run_seen (P := Tryz.prog) Tryz.underlying155 Tryz.underlying9 (zeroB w2) HS2.out s HL.out
  obtain ⟨W, hW, hset, hFW⟩ := run_see (P := Tryz.prog) Tryz.underlying155 Tryz.underlying9 HS2.out s HL.out
  have HSET := Lib.hid hset
  have HFW := Lib.hid hFW
  clear hset hFW
  go_wp2_with fail
  go_ret
  exact ⟨rfl, HSET.out, HF2.out.any.trans HFW.out (fun _ _ h => h)⟩
def textS : ByteArray := ⟨#[116, 101, 120, 116]⟩
/-- Names that may be, each once. -/
structure NamesOk (l : List SpecR) (g : List Grp) : Prop where
  each : ∀ s ∈ l.map SpecR.name ++ g.map Grp.name, s.size ≤ 4611686018427387904 ∧ nameB s.data.toList = true
  once : (textS :: (l.map SpecR.name ++ g.map Grp.name)).Nodup
theorem NamesOk.at_ {l : List SpecR} {g : List Grp} (h : NamesOk l g) {k : Nat} (hk : k < (l.map SpecR.name ++ g.map Grp.name).length) :
    (l.map SpecR.name ++ g.map Grp.name)[k] ∉ textS :: (l.map SpecR.name ++ g.map Grp.name).take k := by
  have ho := h.once
  clear h
  generalize l.map SpecR.name ++ g.map Grp.name = L at ho hk
  obtain ⟨h1, h2⟩ := List.nodup_cons.1 ho
  intro hm
  rcases List.mem_cons.1 hm with e | hm
  · exact h1 (e ▸ List.getElem_mem hk)
  · obtain ⟨j, hj, e⟩ := List.getElem_of_mem hm
    rw [List.length_take] at hj
    rw [List.getElem_take] at e
    exact (List.pairwise_iff_getElem.1 h2) j k (by omega) hk (by omega) e
set_option maxRecDepth 100000 in
set_option maxHeartbeats 1000000 in
theorem names_any (M : Nat → Prop) (l : List SpecR) (g : List Grp) (hok : NamesOk l g) (A : Option Addr) (c : Nat) (v : Value) (w : World) (hln : l.length ≤ 4611686018427387904) (hgn : g.length ≤ 4611686018427387904) (hR : Rd M w A (specC l)) (hg : Grps M w v g) :
    Calls Tryz.prog 50 #[.slice A l.length c, v] w fun e w' => e = .returned (.bool true) ∧ Fr Nob w w' := by
  obtain ⟨GA, gc, css, rfl, hgc, hgr, hge⟩ := hg
  have HOK := Lib.hid hok
  have HR := Lib.hid hR
  have HGR := Lib.hid hgr
  have HGE := Lib.hid hge
  clear hok hR hgr hge hgc
  have hmm := @run_makeMap Tryz.prog
  obtain ⟨W1, hW1, hset, hF1⟩ := run_see (P := Tryz.prog) Tryz.underlying155 Tryz.underlying9 (SetM.new w) textS (by simp)
  unfold textS at hW1
  have HSET := Lib.hid hset
  have HF1 := Lib.hid (show Fr Nob w W1 from ((Fr.refl Nob w).alloc _).trans hF1 (fun k hk e => by have h1 : k = w.heap.size := e; omega))
  clear hset hF1
  go_enter Tryz.func50, Tryz.ntmps50
  go_upto_region 3 with (fail)
  obtain ⟨X, hX⟩ : ∃ X, W1.heap.size = X := ⟨_, rfl⟩
  obtain ⟨b, hb⟩ : ∃ b, w.heap.size = b := ⟨_, rfl⟩
  obtain ⟨W2, hW2⟩ : ∃ W2, W1.alloc (.cells #[.map (some b)] 155) = W2 := ⟨_, rfl⟩
  have HS2 := Lib.hid (show SetM W2 b [textS] by rw [← hW2, ← hb]; exact HSET.out.fr ((Fr.refl Nob _).alloc _) (fun h => h))
  have HX2 := Lib.hid (show Blk W2 X [.map (some b)] 155 by rw [← hW2, ← hX]; exact Blk.new _ _ _)
  have HF2 := Lib.hid (show Fr Nob w W2 by rw [← hW2]; exact HF1.out.alloc _)
  have hbX : b < X := by rw [← hX]; have := HSET.out.lt; omega
  have HBX := Lib.hid (And.intro hbX (Nat.le_of_eq hb))
  rw [hb, hX, hW2]
  clear hb hX hW2 hmm hW1 HSET HF1 hbX
  go_wp2_with fail
  go_loopg [16] (l.length) (fun n s16 wr => ∃ (k : Nat), n = l.length - k ∧ k ≤ l.length ∧ s16 = .int .i64 k ∧ Hid (Fr Nob w wr) ∧ Hid (Blk wr X [.map (some b)] 155) ∧ Hid (SetM wr b (textS :: (l.map SpecR.name ++ g.map Grp.name).take k)))
  case atStart => exact ⟨0, rfl, Nat.zero_le _, rfl, HF2.out, HX2.out, HS2.out⟩
  case round =>
    obtain ⟨k, rfl, hk, rfl, HF, HX, HS⟩ := hrel
    by_cases hlt : k < l.length
    · have ht : ((k : Int) < (l.length : Int)) := by omega
      obtain ⟨ad, rfl, hnb, hbl, h0, hj⟩ := Rd.elt SpecR.cells_len (by omega) (HR.out.fr HF.out (fun _ _ h => h.elim)) hlt
      have q1 := hj 0 (by omega)
      have q2 := hj 1 (by omega)
      have q3 := hj 2 (by omega)
      have q4 := hj 3 (by omega)
      have q5 := hj 4 (by omega)
      have q6 := hj 5 (by omega)
      have hkn : k < (l.map SpecR.name ++ g.map Grp.name).length := by simp; omega
      have HNM := Lib.hid (HOK.out.at_ hkn)
      have hnm : (l.map SpecR.name ++ g.map Grp.name)[k] = l[k].name := by rw [List.getElem_append_left (by simpa using hlt), List.getElem_map]
      have HEA := Lib.hid (HOK.out.each _ (List.getElem_mem hkn))
      have HTK := Lib.hid (List.take_succ_eq_append_getElem hkn)
      rw [hnm] at HNM HEA HTK
      generalize l[k] = x at h0 q1 q2 q3 q4 q5 q6 HNM HEA HTK
      clear hj hnb hnm hkn
      obtain ⟨sn, se, sl, sm, sa, sb, sk⟩ := x
      simp only [SpecR.cells, List.getElem?_cons_zero, List.getElem?_cons_succ] at h0 q1 q2 q3 q4 q5 q6 HNM HEA HTK
      have x0 := HX.out.cell 0
      have xl := HX.out.lt
      simp only [List.getElem?_cons_zero] at x0
      go_wp2_with fail
      have hf : Fr Nob wr (wr.alloc (.cells #[.string sn, .string se, .bool sl, .int .i64 sm, .int .i64 sa, .int .i64 sb, .bool sk] 69)) := (Fr.refl _ _).alloc _
      generalize wr.alloc (.cells #[.string sn, .string se, .bool sl, .int .i64 sm, .int .i64 sa, .int .i64 sb, .bool sk] 69) = w1 at hf ⊢
      refine (fresh_any sn HEA.out.1 HEA.out.2 _ HNM.out b X w1 (HS.out.fr hf (fun h => h)) (HX.out.fr hf (fun h => h))).mono ?_
      rintro e w2 ⟨rfl, hS2, hF2⟩
      have HS2' := Lib.hid (show SetM w2 b (textS :: (l.map SpecR.name ++ g.map Grp.name).take (k + 1)) by rw [HTK.out]; exact hS2)
      have HX2' := Lib.hid ((HX.out.fr hf (fun h => h)).fr hF2 (fun e => by have h1 : X = b := e; have := HBX.out.1; omega))
      have HF2' := Lib.hid ((HF.out.same hf).trans hF2 (fun j hj e => by have h1 : j = b := e; have := HBX.out.2; omega))
      clear hS2 hF2 hf h0 q1 q2 q3 q4 q5 q6 HNM HEA HTK HS HX HF x0 xl
      go_wp2_with fail
      go_roundg (l.length - (k + 1))
      case measure => omega
      case rel => exact ⟨k + 1, rfl, by omega, by first | rfl | go_num, HF2'.out, HX2'.out, HS2'.out⟩
    · have ht : ¬ ((k : Int) < (l.length : Int)) := by omega
      have hke : k = l.length := by omega
      have HS3 := Lib.hid (show SetM wr b (textS :: (l.map SpecR.name ++ g.map Grp.name).take (l.length + 0)) by rw [Nat.add_zero, ← hke]; exact HS.out)
      have HF3 := Lib.hid HF.out
      have HX3 := Lib.hid HX.out
      clear HS HF HX hke HF2 HX2 HS2
      go_wp2_with fail
      go_loopg [28] (g.length) (fun n s28 wr => ∃ (k : Nat), n = g.length - k ∧ k ≤ g.length ∧ s28 = .int .i64 k ∧ Hid (Fr Nob w wr) ∧ Hid (Blk wr X [.map (some b)] 155) ∧ Hid (SetM wr b (textS :: (l.map SpecR.name ++ g.map Grp.name).take (l.length + k))))
      case atStart => exact ⟨0, rfl, Nat.zero_le _, rfl, HF3.out, HX3.out, HS3.out⟩
      case round =>
        clear ht hlt
        obtain ⟨k, rfl, hk, rfl, HF, HX, HS⟩ := hrel
        by_cases hlt : k < g.length
        · have ht : ((k : Int) < (g.length : Int)) := by omega
          obtain ⟨ad, A2, c2, rfl, h0, q1, _, _⟩ := grp_elt (HGR.out.fr HF.out (fun _ _ h => h.elim)) (GReps.fr HF.out (fun _ _ h => h.elim) _ _ HGE.out) hlt
          have hkn : l.length + k < (l.map SpecR.name ++ g.map Grp.name).length := by simp; omega
          have HNM := Lib.hid (HOK.out.at_ hkn)
          have hnm : (l.map SpecR.name ++ g.map Grp.name)[l.length + k] = g[k].name := by rw [List.getElem_append_right (by simp)]; simp
          have HEA := Lib.hid (HOK.out.each _ (List.getElem_mem hkn))
          have HTK := Lib.hid (List.take_succ_eq_append_getElem hkn)
          rw [hnm] at HNM HEA HTK
          obtain ⟨gn, hgn'⟩ : ∃ n, g[k].types.length = n := ⟨_, rfl⟩
          rw [hgn'] at q1
          clear hgn'
          generalize g[k] = x at h0 q1 HNM HEA HTK
          clear hnm hkn
          obtain ⟨sn, st⟩ := x
          simp only at h0 HNM HEA HTK
          have x0 := HX.out.cell 0
          have xl := HX.out.lt
          simp only [List.getElem?_cons_zero] at x0
          go_wp2_with fail
          have hf : Fr Nob wr (wr.alloc (.cells #[.string sn, .slice A2 gn c2] 77)) := (Fr.refl _ _).alloc _
          generalize wr.alloc (.cells #[.string sn, .slice A2 gn c2] 77) = w1 at hf ⊢
          refine (fresh_any sn HEA.out.1 HEA.out.2 _ HNM.out b X w1 (HS.out.fr hf (fun h => h)) (HX.out.fr hf (fun h => h))).mono ?_
          rintro e w2 ⟨rfl, hS2, hF2⟩
          have HS2' := Lib.hid (show SetM w2 b (textS :: (l.map SpecR.name ++ g.map Grp.name).take (l.length + (k + 1))) by rw [← Nat.add_assoc, HTK.out]; exact hS2)
          have HX2' := Lib.hid ((HX.out.fr hf (fun h => h)).fr hF2 (fun e => by have h1 : X = b := e; have := HBX.out.1; omega))
          have HF2' := Lib.hid ((HF.out.same hf).trans hF2 (fun j hj e => by have h1 : j = b := e; have := HBX.out.2; omega))
          clear hS2 hF2 hf h0 q1 HNM HEA HTK HS HX HF x0 xl
          go_wp2_with fail
          go_roundg (g.length - (k + 1))
          case measure => omega
          case rel => exact ⟨k + 1, rfl, by omega, by first | rfl | go_num, HF2'.out, HX2'.out, HS2'.out⟩
        · have ht : ¬ ((k : Int) < (g.length : Int)) := by omega
          go_wp2_with fail
          go_ret
          exact ⟨rfl, HF.out⟩
end Go.Proofs.YtldcffonfidbcaaGreatDoor

/- append onto a row of one's own: where the new row lies, and what else has turned: nothing, where it grows. -/
namespace Go.Proofs.YtldcffonfidbcaaGreatDoor
open Go.RowKit
theorem run_append_two {P : Program} (w : World) (t ty : TypeId) (base : Nat) (e : TypeId) (i : TypeInfo) (z : Value) (size bytes : Nat) (ht : P.underlying t = some (.slice e)) (hi : P.info? e = some i) (hz : i.zero = some z)
    (hsize : i.size = size) (hby : i.bytes = bytes) (hzs : z.cells.size = size) (hsz : 0 < size)
    (v : Value) (n : Nat) (xs : List Value) (hown : w.ownsRow base e size v n xs)
    (ad : Addr) (m c : Nat) (news : List Value) (hl : news.length = m * size) (hnews : ∀ j u, news[j]? = some u → w.cell? (ad.add j) = some u) (h1 : ∀ u ∈ news, u.oneCell' = true)
    (hm : 0 < m) (h63 : n + m ≤ maxLen) (hbytes : (n + m) * bytes ≤ 140737488355328) (hbase : base ≤ w.heap.size) :
    ∃ g cap w', (Builtin.append_ #[t, t] ty #[v, .slice (some ad) m c]).run P w = .ok (.slice (some ⟨g, 0, none⟩) (n + m) cap) w' ∧
      w'.ownsRow base e size (.slice (some ⟨g, 0, none⟩) (n + m) cap) (n + m) (xs ++ news) ∧
      ((w.grownBy w' none ∧ w.heap.size ≤ g) ∨ (∃ cap0, v = .slice (some ⟨g, 0, none⟩) n cap0 ∧ n + m ≤ cap0 ∧ w.grownBy w' (some g))) := by
  rcases hown.2 with ⟨rfl, rfl⟩ | ⟨g, cap, cur, rfl, hb, hg, hnc, hcm, hcs, htake⟩
  · obtain ⟨g, cap, w', hr, h2, h3, h4, h5⟩ := run_append_lies (P := P) w t ty w.heap.size e i z size bytes ht hi hz hsize hby hzs hsz (.slice none 0 0) 0 [] (World.ownsRow_nil w _ e size) ad m c news hl hnews h1 hm h63 hbytes (Nat.le_refl _) w.heap.size rfl
    have hxs : xs = [] := by have := hown.1; simpa using this
    subst hxs
    have hgl : w.heap.size ≤ g := (World.ownsRow.lt h2 g rfl).1
    exact ⟨g, cap, w', hr, h2.mono hbase, .inl ⟨h3, hgl⟩⟩
  · by_cases hroom : n + m ≤ cap
    · obtain ⟨w', hr, h2, h3⟩ := run_append_own_spare (P := P) w base t ty e i size ht hi hsize g n cap xs hown ad m c news hl hnews h1 hroom
      exact ⟨g, cap, w', hr, h2, .inr ⟨cap, rfl, hroom, h3⟩⟩
    · obtain ⟨v', w', hr, h2, h3⟩ := run_append_arg_grows (P := P) w t ty e i z size bytes ht hi hz hsize hby hzs hsz ⟨g, 0, none⟩ n cap xs hown.1 (fun j u hj => hown.cells (g := g) rfl j u hj) ad m c news hl hnews (by omega) h63 hbytes
      obtain ⟨g', cap', rfl, hg1, hg2⟩ := h2.form (by omega)
      exact ⟨g', cap', w', hr, h2.mono hbase, .inl ⟨h3, hg1⟩⟩
theorem wp_append_two {P : Program} (w : World) {o : Oper} {a : Act} {K : Act → World → Prop} {Q : Exit → Act → World → Prop} (s x : Operand) (t : TypeId)
    (ho : o.op = .call { callee := .builtin .append, args := #[s, x], argTypes := #[t, t] })
    (base : Nat) (e : TypeId) (i : TypeInfo) (z : Value) (size bytes : Nat) (ht : P.underlying t = some (.slice e)) (hi : P.info? e = some i) (hz : i.zero = some z)
    (hsize : i.size = size) (hby : i.bytes = bytes) (hzs : z.cells.size = size) (hsz : 0 < size)
    (v : Value) (n : Nat) (xs : List Value) (hs : a.eval s = v) (hown : w.ownsRow base e size v n xs)
    (ad : Addr) (m c : Nat) (news : List Value) (hx : a.eval x = .slice (some ad) m c) (hl : news.length = m * size) (hnews : ∀ j u, news[j]? = some u → w.cell? (ad.add j) = some u) (h1 : ∀ u ∈ news, u.oneCell' = true)
    (hm : 0 < m) (h63 : n + m ≤ maxLen) (hbytes : (n + m) * bytes ≤ 140737488355328) (hbase : base ≤ w.heap.size)
    (h : ∀ g cap w', w'.ownsRow base e size (.slice (some ⟨g, 0, none⟩) (n + m) cap) (n + m) (xs ++ news) → ((w.grownBy w' none ∧ w.heap.size ≤ g) ∨ (∃ cap0, v = .slice (some ⟨g, 0, none⟩) n cap0 ∧ n + m ≤ cap0 ∧ w.grownBy w' (some g))) → K (a.put o.dst (.slice (some ⟨g, 0, none⟩) (n + m) cap)) w') : o.wp P a w K Q := by
  obtain ⟨g, cap, w', hr, h2, h3⟩ := run_append_two (P := P) w t o.type base e i z size bytes ht hi hz hsize hby hzs hsz v n xs hown ad m c news hl hnews h1 hm h63 hbytes hbase
  unfold Oper.wp execOp
  simp only [ho, resolve, invoke, builtin, Sem.run_bind, Sem.run_pure, Result.andThen_ok, List.map_toArray, List.map_cons, List.map_nil, hs, hx, hr]
  exact h g cap w' h2 h3
theorem step_append_two {P : Program} (w : World) {ops : Array Oper} {E : Prop} {o : Oper} {a : Act} {K : Act → World → Prop} {Q : Exit → Act → World → Prop} (hgd : o.guard = none) (s x : Operand) (t : TypeId)
    (ho : o.op = .call { callee := .builtin .append, args := #[s, x], argTypes := #[t, t] })
    (base : Nat) (e : TypeId) (i : TypeInfo) (z : Value) (size bytes : Nat) (ht : P.underlying t = some (.slice e)) (hi : P.info? e = some i) (hz : i.zero = some z)
    (hsize : i.size = size) (hby : i.bytes = bytes) (hzs : z.cells.size = size) (hsz : 0 < size)
    (v : Value) (n : Nat) (xs : List Value) (hs : a.eval s = v) (hown : w.ownsRow base e size v n xs)
    (ad : Addr) (m c : Nat) (news : List Value) (hx : a.eval x = .slice (some ad) m c) (hl : news.length = m * size) (hnews : ∀ j u, news[j]? = some u → w.cell? (ad.add j) = some u) (h1 : ∀ u ∈ news, u.oneCell' = true)
    (hm : 0 < m) (h63 : n + m ≤ maxLen) (hbytes : (n + m) * bytes ≤ 140737488355328) (hbase : base ≤ w.heap.size)
    (h : ∀ g cap w', w'.ownsRow base e size (.slice (some ⟨g, 0, none⟩) (n + m) cap) (n + m) (xs ++ news) → ((w.grownBy w' none ∧ w.heap.size ≤ g) ∨ (∃ cap0, v = .slice (some ⟨g, 0, none⟩) n cap0 ∧ n + m ≤ cap0 ∧ w.grownBy w' (some g))) → K (a.put o.dst (.slice (some ⟨g, 0, none⟩) (n + m) cap)) w') : if Region.wanted o (yielded ops a.tmps) = true then Oper.wp P o a w K Q else E := by
  rw [if_pos (by simp [Region.wanted, hgd])]
  exact wp_append_two w s x t ho base e i z size bytes ht hi hz hsize hby hzs hsz v n xs hs hown ad m c news hx hl hnews h1 hm h63 hbytes hbase h
end Go.Proofs.YtldcffonfidbcaaGreatDoor

/- What is turned by and by: the blocks that are one's own, and those that come later. -/
namespace Go.Proofs.YtldcffonfidbcaaGreatDoor
open Go.RowKit
/-- The own blocks of a function that is told, later. -/
def Later (N : Nat → Prop) (w : World) (N' : Nat → Prop) : Prop := ∀ k, N' k → N k ∨ w.heap.size ≤ k
theorem Later.refl (N : Nat → Prop) (w : World) : Later N w N := fun _ h => .inl h
theorem Later.trans {N N' N'' : Nat → Prop} {w w' : World} (h : Later N w N') (h' : Later N' w' N'') (hs : w.heap.size ≤ w'.heap.size) : Later N w N'' := fun k hk => by
  rcases h' k hk with h1 | h1
  · exact h k h1
  · exact .inr (by omega)
theorem Sch.later {N N' : Nat → Prop} {w w' : World} {p : Nat} {rs : List RuleM} {g : List Grp} (h : Sch N w p rs g) (hf : Fr N w w') (hl : Later N w N') : Sch N' w' p rs g :=
  ((h.bound.fr hf (fun _ _ h => .inl h)).mono hl)
theorem Doc.later {N N' : Nat → Prop} {w w' : World} {v : Value} {l : List Tok} (h : Doc N w v l) (hf : Fr N w w') (hl : Later N w N') : Doc N' w' v l :=
  ((h.bound.fr hf (fun _ _ h => .inl h)).mono hl)
theorem Rd.later {N N' : Nat → Prop} {w w' : World} {A : Option Addr} {xs : List Value} (h : Rd N w A xs) (hf : Fr N w w') (hl : Later N w N') : Rd N' w' A xs :=
  ((h.bound.fr hf (fun _ _ h => .inl h)).mono hl)
theorem Fr.later {N N' : Nat → Prop} {w w' w'' : World} (h : Fr N w w') (hl : Later N w N') (h' : Fr N' w' w'') : Fr N w w'' :=
  h.trans h' (fun k hk hn => by
    rcases hl k hn with h1 | h1
    · exact h1
    · omega)
end Go.Proofs.YtldcffonfidbcaaGreatDoor

/- Chapter 7: a copy of some numbers; the groups of a schema that is made. -/
namespace Go.Proofs.YtldcffonfidbcaaGreatDoor
open Go.RowKit
theorem intC_len (l : List Int) : (intC l).length = l.length := by simp [intC]
theorem intC_one (l : List Int) : ∀ u ∈ intC l, u.oneCell' = true := fun u hu => by
  obtain ⟨i, _, rfl⟩ := List.mem_map.1 hu
  rfl
theorem infoInt : (Tryz.prog.info? 3).map (fun i => (i.zero, i.size, i.bytes)) = some (some (.int .i64 0), 1, 8) := by kernel_rfl
theorem infoGrp : (Tryz.prog.info? 77).map (fun i => (i.zero, i.size, i.bytes)) = some (some (.agg #[.string ⟨#[]⟩, .slice none 0 0]), 2, 40) := by kernel_rfl
set_option maxRecDepth 100000 in
theorem clone_any (M : Nat → Prop) (l : List Int) (ad : Addr) (c : Nat) (w : World) (h0 : 0 < l.length) (hn : l.length ≤ 1000) (hR : Rd M w (some ad) (intC l)) :
    Calls Tryz.prog 54 #[.slice (some ad) l.length c] w fun e w' => (∃ A' c', e = .returned (.slice A' l.length c') ∧ l.length ≤ c' ∧ Rd (fun k => k < w.heap.size) w' A' (intC l)) ∧ Fr Nob w w' := by
  obtain ⟨i0, hi, hz0, hz1, hz2⟩ := info_parts infoInt
  have hq := Lib.run_eql_slice_nil (P := Tryz.prog) w 75 3 (some ad) l.length c 0 0 Tryz.underlying75
  obtain ⟨ad', hA, _, hc⟩ := hR (by intro e; have := intC_len l; rw [e] at this; simp at this; omega)
  cases hA
  obtain ⟨cs, hcs⟩ : ∃ cs, intC l = cs := ⟨_, rfl⟩
  have HL := Lib.hid (show cs.length = l.length * 1 by rw [← hcs, intC_len, Nat.mul_one])
  have HO := Lib.hid (show ∀ u ∈ cs, u.oneCell' = true by rw [← hcs]; exact intC_one l)
  rw [hcs] at hc
  have HC := Lib.hid (show ∀ j u, cs[j]? = some u → (w.alloc (.cells #[] 3)).cell? (ad.add j) = some u from fun j u hu => ((Fr.refl Nob w).alloc _).cell0 (hc j u hu))
  have HOW := Lib.hid (World.ownsRow_lit (e := 3) (size := 1) (base := w.heap.size) w #[] 0 (Nat.le_refl _) (by decide) rfl)
  have HM := Lib.hid (show 0 + l.length ≤ maxLen ∧ (0 + l.length) * 8 ≤ 140737488355328 ∧ w.heap.size ≤ (w.alloc (.cells #[] 3)).heap.size from ⟨by simp only [maxLen]; omega, by omega, by simp⟩)
  have HCS := Lib.hid hcs
  rw [hcs]
  clear hR hc hcs
  obtain ⟨n, hnn⟩ : ∃ n, l.length = n := ⟨_, rfl⟩
  rw [hnn] at HL HM h0 hn hq ⊢
  clear hnn
  go_enter Tryz.func54, Tryz.ntmps54
  go_wp2_with (at_builtin; refine wpList_append_lies _ rfl _ _ 75 rfl w.heap.size 3 i0 _ 1 8 Tryz.underlying75 hi hz0 hz1 hz2 rfl (by decide) (.slice (some ⟨w.heap.size, 0, none⟩) 0 0) 0 [] rfl HOW.out ad n c cs rfl HL.out HC.out HO.out (by omega) HM.out.1 HM.out.2.1 HM.out.2.2 _ rfl ?_; intro g cap w3 hown3 hg3 hga hgl)
  have HF3 : Fr Nob w w3 := ((Fr.refl Nob w).alloc _).trans (Fr.of_grown hg3) (fun k hk e => by
    have h1 : w.heap.size = k := by injection e with e; exact e.symm
    omega)

  obtain ⟨A', c', e', hc', hr'⟩ := Rd.of_own (M := fun k => k < w.heap.size) hown3 (fun k hk h => by
    have := (World.ownsRow.lt hown3 k hk).1
    omega)
  cases e'
  go_ret
  exact ⟨⟨_, _, rfl, by omega, by simpa using hr'⟩, HF3⟩
/-- A schema that is made: its rules' slice, its groups. N: the blocks that are its own. -/
structure NewG (base C : Nat) (N : Nat → Prop) (w : World) (lv gv : Value) (gl : List Grp) (css : List Value) : Prop where
  blk : Blk w C [lv, gv] 87
  gn : gv.ownBlock ≠ some C
  own : w.ownsRow base 77 2 gv gl.length css
  rep : GReps N w gl css
  mine : ∀ k, (k = C ∨ gv.ownBlock = some k) → N k
  lt : ∀ k, N k → k < w.heap.size
  lo : ∀ k, k < base → N k
theorem GReps.append {M : Nat → Prop} {w : World} : ∀ (l l' : List Grp) (cs cs' : List Value), GReps M w l cs → GReps M w l' cs' → GReps M w (l ++ l') (cs ++ cs')
  | [], l', cs, cs', h, h' => by
    simp only [GReps] at h
    subst h
    exact h'
  | x :: xs, l', cs, cs', h, h' => by
    simp only [GReps] at h
    obtain ⟨A, c, rest, rfl, hl, hr, hs⟩ := h
    exact ⟨A, c, rest ++ cs', rfl, hl, hr, GReps.append xs l' rest cs' hs h'⟩
theorem NewG.fr0 {base C : Nat} {N : Nat → Prop} {w w' : World} {lv gv : Value} {gl : List Grp} {css : List Value} (h : NewG base C N w lv gv gl css) (hf : Fr Nob w w') : NewG base C N w' lv gv gl css :=
  ⟨h.blk.fr hf (fun h => h), h.gn, own_fr h.own hf (fun _ _ h => h), GReps.fr hf (fun _ _ h => h.elim) _ _ h.rep, h.mine, fun k hk => Nat.lt_of_lt_of_le (h.lt k hk) hf.size, h.lo⟩
/-- One more group: w' is what the append leaves, WE what the store leaves. -/
theorem NewG.app {base C : Nat} {N : Nat → Prop} {w w' WE : World} {lv gv : Value} {gl : List Grp} {css : List Value} (h : NewG base C N w lv gv gl css) {nm : ByteArray} {ts : List Int} {A : Option Addr} {c g cap : Nat} (hc : ts.length ≤ c)
    (hts : Rd N w A (intC ts))
    (hown : w'.ownsRow base 77 2 (.slice (some ⟨g, 0, none⟩) (gl.length + 1) cap) (gl.length + 1) (css ++ [.string nm, .slice A ts.length c]))
    (htwo : (w.grownBy w' none ∧ w.heap.size ≤ g) ∨ (∃ cap0, gv = .slice (some ⟨g, 0, none⟩) gl.length cap0 ∧ gl.length + 1 ≤ cap0 ∧ w.grownBy w' (some g)))
    (hWE : w'.setCell ⟨C, 1, none⟩ (.slice (some ⟨g, 0, none⟩) (gl.length + 1) cap) = WE) :
    NewG base C (fun k => N k ∨ k = g) WE lv (.slice (some ⟨g, 0, none⟩) (gl.length + 1) cap) (gl ++ [⟨nm, ts⟩]) (css ++ [.string nm, .slice A ts.length c]) ∧ Fr (fun k => k = C ∨ gv.ownBlock = some k) w WE := by
  subst hWE
  have hf : Fr (fun k => gv.ownBlock = some k) w w' := by
    rcases htwo with ⟨h1, _⟩ | ⟨_, rfl, _, h1⟩
    · exact (Fr.of_grown h1).mono (fun k _ e => by cases e)
    · exact (Fr.of_grown h1).mono (fun k _ e => by cases e; rfl)
  have hg : gv.ownBlock = some g ∨ w.heap.size ≤ g := by
    rcases htwo with ⟨_, h1⟩ | ⟨_, rfl, _, _⟩
    · exact .inr h1
    · exact .inl rfl
  have hgC : g ≠ C := by
    rcases hg with h1 | h1
    · exact fun e => h.gn (e ▸ h1)
    · have := h.blk.lt; omega
  have hb' := h.blk.fr hf (fun e => h.gn e)
  have hfE : Fr (One C) w' (w'.setCell ⟨C, 1, none⟩ (.slice (some ⟨g, 0, none⟩) (gl.length + 1) cap)) := (Fr.refl (One C) w').setCell (p := ⟨C, 1, none⟩) (.inl rfl) _
  have hfa : Fr (fun k => k = C ∨ gv.ownBlock = some k) w (w'.setCell ⟨C, 1, none⟩ (.slice (some ⟨g, 0, none⟩) (gl.length + 1) cap)) :=
    (hf.mono (fun k _ e => .inr e)).trans hfE (fun k _ e => .inl e)
  have hnew : ∀ k, (N k ∨ k = g) → N k ∨ w.heap.size ≤ k := by
    rintro k (h1 | rfl)
    · exact .inl h1
    · rcases hg with h1 | h1
      · exact .inl (h.mine _ (.inr h1))
      · exact .inr h1
  have hrd : Rd (fun k => N k ∨ k = g) (w'.setCell ⟨C, 1, none⟩ (.slice (some ⟨g, 0, none⟩) (gl.length + 1) cap)) A (intC ts) := (hts.bound.fr hfa (fun k _ e => .inl (h.mine k e))).mono hnew
  refine ⟨⟨hb'.set 1 _, ?_, ?_, ?_, ?_, ?_, fun k hk => .inl (h.lo k hk)⟩, hfa⟩
  · intro e
    injection e with e
    exact hgC e
  · rw [List.length_append]
    exact own_fr hown hfE (fun k e e2 => by
      have h1 : g = k := by cases e; rfl
      have h2 : k = C := e2
      exact hgC (h1.trans h2))
  · refine GReps.append _ _ _ _ (GReps.mono hnew _ _ (GReps.fr hfa (fun k _ e => .inl (h.mine k e)) _ _ (GReps.bound _ _ h.rep))) ?_
    exact ⟨A, c, [], rfl, hc, hrd, rfl⟩
  · rintro k (rfl | e)
    · exact .inl (h.mine _ (.inl rfl))
    · have h1 : g = k := by cases e; rfl
      exact .inr h1.symm
  · rintro k (h1 | rfl)
    · exact Nat.lt_of_lt_of_le (h.lt k h1) hfa.size
    · exact Nat.lt_of_lt_of_le (World.ownsRow.lt hown _ rfl).2 hfE.size
/-- A schema that is made: its groups are there, its rules come. -/
structure NewR (base C : Nat) (N0 N : Nat → Prop) (W9 w : World) (lv gv : Value) (rs : List RuleM) (g : List Grp) : Prop where
  blk : Blk w C [lv, gv] 87
  ln : lv.ownBlock ≠ some C
  own : w.ownsRow base 84 10 lv rs.length (rs.flatMap RuleM.cells)
  exprs : ∀ r ∈ rs, ERep N w r.e r.ec
  grps : Grps N w gv g
  mine : ∀ k, (k = C ∨ lv.ownBlock = some k) → N k
  lt : ∀ k, N k → k < w.heap.size
  lo : ∀ k, k < base → N k
  fw : Fr N0 W9 w
  lat : Later N0 W9 N
theorem NewR.fr0 {base C : Nat} {N0 N : Nat → Prop} {W9 w w' : World} {lv gv : Value} {rs : List RuleM} {g : List Grp} (h : NewR base C N0 N W9 w lv gv rs g) (hf : Fr Nob w w') : NewR base C N0 N W9 w' lv gv rs g :=
  ⟨h.blk.fr hf (fun h => h), h.ln, own_fr h.own hf (fun _ _ h => h), fun r hr => ERep.fr hf (fun _ _ h => h.elim) _ _ (h.exprs r hr), h.grps.fr0 hf, h.mine, fun k hk => Nat.lt_of_lt_of_le (h.lt k hk) hf.size, h.lo, h.fw.trans hf (fun _ _ h => h.elim), h.lat⟩
theorem NewR.app {base C : Nat} {N0 N : Nat → Prop} {W9 w w' WE : World} {lv gv : Value} {rs : List RuleM} {g : List Grp} (h : NewR base C N0 N W9 w lv gv rs g) {r : RuleM} {b cap : Nat} (hx : ERep N w r.e r.ec)
    (hown : w'.ownsRow base 84 10 (.slice (some ⟨b, 0, none⟩) (rs.length + 1) cap) (rs.length + 1) (rs.flatMap RuleM.cells ++ r.cells))
    (htwo : (w.grownBy w' none ∧ w.heap.size ≤ b) ∨ (∃ cap0, lv = .slice (some ⟨b, 0, none⟩) rs.length cap0 ∧ rs.length + 1 ≤ cap0 ∧ w.grownBy w' (some b)))
    (hWE : w'.setCell ⟨C, 0, none⟩ (.slice (some ⟨b, 0, none⟩) (rs.length + 1) cap) = WE) :
    NewR base C N0 (fun k => N k ∨ k = b) W9 WE (.slice (some ⟨b, 0, none⟩) (rs.length + 1) cap) gv (rs ++ [r]) g ∧ Fr (fun k => k = C ∨ lv.ownBlock = some k) w WE := by
  subst hWE
  have hf : Fr (fun k => lv.ownBlock = some k) w w' := by
    rcases htwo with ⟨h1, _⟩ | ⟨_, rfl, _, h1⟩
    · exact (Fr.of_grown h1).mono (fun k _ e => by cases e)
    · exact (Fr.of_grown h1).mono (fun k _ e => by cases e; rfl)
  have hg : lv.ownBlock = some b ∨ w.heap.size ≤ b := by
    rcases htwo with ⟨_, h1⟩ | ⟨_, rfl, _, _⟩
    · exact .inr h1
    · exact .inl rfl
  have hgC : b ≠ C := by
    rcases hg with h1 | h1
    · exact fun e => h.ln (e ▸ h1)
    · have := h.blk.lt; omega
  have hb' := h.blk.fr hf (fun e => h.ln e)
  have hfE : Fr (One C) w' (w'.setCell ⟨C, 0, none⟩ (.slice (some ⟨b, 0, none⟩) (rs.length + 1) cap)) := (Fr.refl (One C) w').setCell (p := ⟨C, 0, none⟩) (.inl rfl) _
  have hfa : Fr (fun k => k = C ∨ lv.ownBlock = some k) w (w'.setCell ⟨C, 0, none⟩ (.slice (some ⟨b, 0, none⟩) (rs.length + 1) cap)) :=
    (hf.mono (fun k _ e => .inr e)).trans hfE (fun k _ e => .inl e)
  have hnew : ∀ k, (N k ∨ k = b) → N k ∨ w.heap.size ≤ k := by
    rintro k (h1 | rfl)
    · exact .inl h1
    · rcases hg with h1 | h1
      · exact .inl (h.mine _ (.inr h1))
      · exact .inr h1
  have hE : ∀ {x : Tree} {cs : List Value}, ERep N w x cs → ERep (fun k => N k ∨ k = b) (w'.setCell ⟨C, 0, none⟩ (.slice (some ⟨b, 0, none⟩) (rs.length + 1) cap)) x cs :=
    fun he => ERep.mono hnew _ _ (ERep.fr hfa (fun k _ e => .inl (h.mine k e)) _ _ (ERep.bound _ _ he))
  refine ⟨⟨hb'.set 0 _, ?_, ?_, ?_, ?_, ?_, ?_, fun k hk => .inl (h.lo k hk), ?_, ?_⟩, hfa⟩
  · intro e
    injection e with e
    exact hgC e
  · rw [List.length_append, List.flatMap_append, List.flatMap_cons, List.flatMap_nil, List.append_nil]
    exact own_fr hown hfE (fun k e e2 => by
      have h1 : b = k := by cases e; rfl
      have h2 : k = C := e2
      exact hgC (h1.trans h2))
  · intro r' hr'
    rcases List.mem_append.1 hr' with hr' | hr'
    · exact hE (h.exprs r' hr')
    · obtain rfl := List.mem_singleton.1 hr'
      exact hE hx
  · exact (h.grps.bound.fr hfa (fun k _ e => .inl (h.mine k e))).mono hnew
  · rintro k (rfl | e)
    · exact .inl (h.mine _ (.inl rfl))
    · have h1 : b = k := by cases e; rfl
      exact .inr h1.symm
  · rintro k (h1 | rfl)
    · exact Nat.lt_of_lt_of_le (h.lt k h1) hfa.size
    · exact Nat.lt_of_lt_of_le (World.ownsRow.lt hown _ rfl).2 hfE.size
  · exact h.fw.later h.lat (hfa.mono (fun k _ e => h.mine k e))
  · refine h.lat.trans (fun k hk => ?_) h.fw.size
    exact hnew k hk
end Go.Proofs.YtldcffonfidbcaaGreatDoor

/- A region that draws its order: what holds behind every operation but the last. -/
namespace Go.Proofs.YtldcffonfidbcaaGreatDoor
open Go.RowKit
section
variable {P : Program} {ops : Array Oper} {Q : Exit → Act → World → Prop} {md : Region.Mode} {z : Nat} {S : World → Prop}
/-- Whatever order is picked; S holds behind each operation but z. -/
def wpAnyF (P : Program) (md : Region.Mode) (ops : Array Oper) (Q : Exit → Act → World → Prop) (z : Nat) (S : World → Prop) : Nat → Array Bool → Act → World → Prop
  | 0, listed, a, w => Region.ready md ops listed = [] ∧ Q .normal a w
  | fuel + 1, listed, a, w =>
    (Region.ready md ops listed = [] → Q .normal a w) ∧
    ∀ i ∈ Region.ready md ops listed, wpOp P ops Q i (fun a' w' => (i ≠ z → S w') ∧ wpAnyF P md ops Q z S fuel (listed.setIfInBounds i true) a' w') a w
theorem wpAny_of_F : ∀ (fuel : Nat) (listed : Array Bool) (a : Act) (w : World), wpAnyF P md ops Q z S fuel listed a w → wpAny P md ops Q fuel listed a w
  | 0, _, _, _, h => h
  | fuel + 1, _, _, _, h => ⟨h.1, fun i hi => wpOp_mono (fun a' w' h' => wpAny_of_F fuel _ a' w' h'.2) (h.2 i hi)⟩
/-- z waits for i, by way of at most n others. -/
def upB (md : Region.Mode) (ops : Array Oper) : Nat → Nat → Nat → Bool
  | 0, _, _ => false
  | n + 1, z, i => (ops[z]?.map fun o => o.after.any fun e => Region.binds md e && (e.on == i || upB md ops n e.on i)).getD false
/-- Whatever is done has all done that it waits for. -/
def Closed (md : Region.Mode) (ops : Array Oper) (listed : Array Bool) : Prop := ∀ (j : Nat) (o : Oper), ops[j]? = some o → listed.getD j true = true → ∀ e ∈ o.after, Region.binds md e = true → listed.getD e.on true = true
def closedB (md : Region.Mode) (ops : Array Oper) (listed : Array Bool) : Bool := (List.range ops.size).all fun j => !(listed.getD j true) || (ops[j]?.map fun o => o.after.all fun e => !Region.binds md e || listed.getD e.on true).getD true
theorem closedB_spec {listed : Array Bool} (h : closedB md ops listed = true) : Closed md ops listed := fun j o hj hl e he hb => by
  unfold closedB at h
  rw [List.all_eq_true] at h
  have hlt : j < ops.size := (Array.getElem?_eq_some_iff.1 hj).1
  have h1 := h j (List.mem_range.2 hlt)
  rw [hl, hj] at h1
  simp only [Bool.not_true, Bool.false_or, Option.map_some, Option.getD_some, Array.all_eq_true] at h1
  obtain ⟨k, hk, rfl⟩ := Array.getElem_of_mem he
  have h2 := h1 k hk
  rw [hb] at h2
  simpa using h2
theorem getD_set_true {listed : Array Bool} {k : Nat} (j : Nat) (h : listed.getD k true = true) : (listed.setIfInBounds j true).getD k true = true := by
  by_cases hjk : j = k
  · subst hjk
    by_cases hlt : j < listed.size
    · simp [hlt]
    · simp [Nat.not_lt.1 hlt]
  · rw [getD_set_ne true hjk]; exact h
theorem getD_ft {listed : Array Bool} {k : Nat} (h : listed.getD k false = true) : listed.getD k true = true := by
  by_cases hlt : k < listed.size
  · simpa [hlt] using h
  · simp [Nat.not_lt.1 hlt]
theorem Closed.step {listed : Array Bool} (h : Closed md ops listed) {j : Nat} (hj : j ∈ Region.ready md ops listed) : Closed md ops (listed.setIfInBounds j true) := fun k o hk hl e he hb => by
  obtain ⟨hun, oj, hoj, hall⟩ := mem_ready.1 hj
  by_cases hjk : j = k
  · subst hjk
    rw [hoj] at hk
    cases hk
    exact getD_set_true j (getD_ft (hall e he hb))
  · rw [getD_set_ne true hjk] at hl
    exact getD_set_true j (h k o hk hl e he hb)
theorem up_listed {listed : Array Bool} (hc : Closed md ops listed) {i : Nat} : ∀ (n z : Nat) (o : Oper), ops[z]? = some o → (∀ e ∈ o.after, Region.binds md e = true → listed.getD e.on true = true) → upB md ops n z i = true → listed.getD i true = true
  | 0, _, _, _, _, h => by cases h
  | n + 1, z, o, ho, ha, h => by
    unfold upB at h
    rw [ho] at h
    simp only [Option.map_some, Option.getD_some, Array.any_eq_true, Bool.and_eq_true, Bool.or_eq_true, beq_iff_eq] at h
    obtain ⟨k, hk, hb, h1⟩ := h
    have hl := ha _ (Array.getElem_mem hk) hb
    rcases h1 with h1 | h1
    · rw [← h1]; exact hl
    · cases n with
      | zero => cases h1
      | succ n =>
        have h2 := h1
        unfold upB at h2
        cases ho2 : ops[o.after[k].on]? with
        | none => rw [ho2] at h2; cases h2
        | some o2 => exact up_listed hc (n + 1) _ o2 ho2 (fun e he hbe => hc _ o2 ho2 hl e he hbe) h1
theorem wpAnyF_first {i n : Nat} {oi : Oper} {v : Value} (hi : ops[i]? = some oi) (hw : upB md ops n z i = true) (hsel : ∀ (j : Nat) (o : Oper) cs b, ops[j]? = some o → o.op ≠ .select cs b)
    (hQ : ∀ c a w, Q (.panic c) (a.put oi.dst v) w → Q (.panic c) a w) :
    ∀ (fuel : Nat) (listed : Array Bool) (a : Act) (w : World), Closed md ops listed →
      (∀ j oj, ops[j]? = some oj → j ≠ i → listed.getD j true = false → (∀ e ∈ oj.after, Region.binds md e = true → e.on ≠ i) → oi.apart ops oj = true) →
      i ∈ Region.ready md ops listed → YieldsIf P ops S oi v a → S w →
      wpAnyF P md ops Q z S fuel (listed.setIfInBounds i true) (a.put oi.dst v) w → wpAnyF P md ops Q z S (fuel + 1) listed a w
  | fuel, listed, a, w, hcl, hfree, hr, hy, hS, H => by
    refine ⟨fun h => absurd hr (by rw [h]; exact List.not_mem_nil), fun j hj => ?_⟩
    by_cases hji : j = i
    · subst hji
      exact hy.wpOp hi hS ⟨fun _ => hS, H⟩
    · match fuel, H with
      | 0, H =>
        have h0 := ready_mono hj hji
        rw [H.1] at h0
        exact absurd h0 List.not_mem_nil
      | fuel + 1, H =>
        obtain ⟨hun, oj, hoj, hall⟩ := mem_ready.1 hj
        have hno : ∀ e ∈ oj.after, Region.binds md e = true → e.on ≠ i := fun e he hb heq => by
          have h1 := hall e he hb
          have h2 := (mem_ready.1 hr).1
          rw [heq] at h1
          by_cases hlt : i < listed.size
          · simp [hlt] at h1 h2
            rw [h2] at h1
            cases h1
          · simp [Array.getElem?_eq_none (Nat.not_lt.1 hlt)] at h1
        have hjz : j ≠ z := fun e => by
          subst e
          have h1 := up_listed hcl n j oj hoj (fun e he hb => getD_ft (hall e he hb)) hw
          rw [(mem_ready.1 hr).1] at h1
          cases h1
        have hp := wpOp_putIf hoj (hfree j oj hoj hji hun hno) (fun cs b => hsel i oi cs b hi) (fun cs b => hsel j oj cs b hoj) hQ hy (H.2 j (ready_mono hj hji))
        refine wpOp_mono (fun a' w' h => ?_) hp
        obtain ⟨hy', hS', hH⟩ := h
        refine ⟨hS', wpAnyF_first hi hw hsel hQ fuel (listed.setIfInBounds j true) a' w' (hcl.step hj) (fun k ok hk hki hu hn => ?_) (ready_mono hr (Ne.symm hji)) hy' (hS' hjz) ?_⟩
        · refine hfree k ok hk hki ?_ hn
          by_cases hjk : j = k
          · subst hjk; exact hun
          · rw [getD_set_ne true hjk] at hu; exact hu
        · rw [Array.setIfInBounds_comm _ _ hji]
          exact hH
theorem wpAnyF_take {i : Nat} {oi : Oper} {v : Value} {fuel : Nat} {listed : Array Bool} {a : Act} {w : World} (hi : ops[i]? = some oi)
    (hs : Region.noSelect ops = true) (hf : (Region.free md ops listed i && upB md ops 9 z i && closedB md ops listed) = true) (hr : (Region.ready md ops listed).contains i = true)
    (hQ : ∀ c a w, Q (.panic c) (a.put oi.dst v) w → Q (.panic c) a w) (hy : YieldsIf P ops S oi v a) (hS : S w)
    (h : wpAnyF P md ops Q z S fuel (listed.setIfInBounds i true) (a.put oi.dst v) w) : wpAnyF P md ops Q z S (fuel + 1) listed a w := by
  rw [Bool.and_eq_true, Bool.and_eq_true] at hf
  exact wpAnyF_first hi hf.1.2 (Region.noSelect_spec hs) hQ fuel listed a w (closedB_spec hf.2) (Region.free_spec hi hf.1.1) (by simpa using hr) hy hS h
def AllReadyF (P : Program) (md : Region.Mode) (ops : Array Oper) (Q : Exit → Act → World → Prop) (z : Nat) (S : World → Prop) (fuel : Nat) (listed : Array Bool) (a : Act) (w : World) (rs : List Nat) : Prop :=
  ∀ i ∈ rs, wpOp P ops Q i (fun a' w' => (i ≠ z → S w') ∧ wpAnyF P md ops Q z S fuel (listed.setIfInBounds i true) a' w') a w
theorem AllReadyF.nil {fuel : Nat} {listed : Array Bool} {a : Act} {w : World} : AllReadyF P md ops Q z S fuel listed a w [] := fun _ h => by cases h
theorem AllReadyF.cons {fuel : Nat} {listed : Array Bool} {a : Act} {w : World} {i : Nat} {o : Oper} {rs : List Nat} (ho : ops[i]? = some o)
    (h : ∀ K' : Act → World → Prop, Shut (∀ a w, (i ≠ z → S w) → wpAnyF P md ops Q z S fuel (listed.setIfInBounds i true) a w → K' a w) → if Region.wanted o (yielded ops a.tmps) = true then Oper.wp P o a w K' Q else K' (a.put o.dst undef) w)
    (hs : AllReadyF P md ops Q z S fuel listed a w rs) : AllReadyF P md ops Q z S fuel listed a w (i :: rs) := fun j hj => by
  rcases List.mem_cons.1 hj with rfl | hj
  · exact wpOp_step ho (fun K' hK => h K' (fun a w hS hW => hK a w ⟨hS, hW⟩))
  · exact hs j hj
theorem wpAnyF_ready {rs : List Nat} {fuel : Nat} {listed : Array Bool} {a : Act} {w : World} (hr : Region.ready md ops listed = rs) (hne : rs ≠ [])
    (h : AllReadyF P md ops Q z S fuel listed a w rs) : wpAnyF P md ops Q z S (fuel + 1) listed a w :=
  ⟨fun h0 => absurd (hr ▸ h0) hne, hr ▸ h⟩
theorem wpAnyF_done {listed : Array Bool} {a : Act} {w : World} (hr : Region.ready md ops listed = []) (h : Q .normal a w) : ∀ fuel, wpAnyF P md ops Q z S fuel listed a w
  | 0 => ⟨hr, h⟩
  | fuel + 1 => ⟨fun _ => h, fun i hi => by rw [hr] at hi; cases hi⟩
theorem wp_region_F (z : Nat) {S : World → Prop} {id : Nat} {a : Act} {w : World} (hm : P.follows .mixedOrders = true)
    (h : wpAnyF P .any ops Q z S ops.size (Array.replicate ops.size false) a w.drew) : (Code.region id ops true).wp P Q a w :=
  wp_region_any hm (wpAny_of_F _ _ _ _ h)
end
end Go.Proofs.YtldcffonfidbcaaGreatDoor
