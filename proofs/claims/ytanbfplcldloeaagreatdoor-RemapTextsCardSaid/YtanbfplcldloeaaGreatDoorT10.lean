/- A part of the proof for chapter 10: Rdo, ErrIs, Number, Run, Clone, Orders; no conditions. -/
import Derived.Test.YtanbfplcldloeaaGreatDoorT09
import Derived.Test.YtanbfplcldloeaaGreatDoorT04
import Derived.Lib.IfaceEq
import Derived.Test.YtanbfplcldloeaaGreatDoorT07
import Derived.Laws.OwnMore
import Derived.OrdersHeld
import Derived.Deep.RegionHeld
/- Chapter 10: a step at a document, if it stays valid. -/
namespace Go.Proofs.YtanbfplcldloeaaGreatDoor
open Go.RowKit
/-- The error of a step at a document, or 0. -/
def doE (rs : List RuleM) (g : List Grp) (s : StepM) (l : List Tok) : Int := if applyE s l ≠ 0 then applyE s l else (checkF rs g (doF s l)).2
/-- A refusal, as memory holds it. -/
def refV (e : Int) : Value := if e = 0 then .nilIface else .iface 146 (.agg #[.int .i64 e])
theorem applyE_zero {s : StepM} {l : List Tok} (h : applyE s l = 0) : (flatCheck l).2 = 0 ∧ stepF s = 0 ∧ s.t ≤ l.length ∧ (flatCheck (doF s l)).2 = 0 := by
  unfold applyE at h
  split at h
  · rename_i h1; exact absurd h h1
  · rename_i h1
    split at h
    · rename_i h2; exact absurd h h2
    · rename_i h2
      split at h
      · omega
      · split at h
        · omega
        · exact ⟨by omega, by omega, by omega, h⟩
set_option maxRecDepth 100000 in
set_option maxHeartbeats 4000000 in
theorem remdo_any (M M1 M2 : Nat → Prop) (p : Nat) (rs : List RuleM) (g : List Grp) (hok : SchOk rs g) (s : StepM) (A B : Option Addr) (l : List Tok) (c b : Nat) (w : World) (hs : Sch M w p rs g) (hl : Rd M1 w A (tokC l)) (hx : Rd M2 w B (tokC s.l)) (hc : l.length ≤ c) (hb : s.l.length ≤ b) (hn : l.length ≤ 9223372036854775807) :
    Calls Tryz.prog 40 #[.pointer (some ⟨p, 0, none⟩), .slice A l.length c, .agg (s.cells (.slice B s.l.length b)).toArray] w fun e w' => ∃ v, e = .returned (.tuple #[v, refV (doE rs g s l)]) ∧ (doE rs g s l = 0 → NewDoc w w' v (doF s l)) ∧ (doE rs g s l ≠ 0 → v = .slice none 0 0) ∧ Fr Nob w w' := by
  obtain ⟨E, hE⟩ : ∃ E, doE rs g s l = E := ⟨_, rfl⟩
  rw [hE]
  have HE := Lib.hid hE
  have HS := Lib.hid hs
  have HOK := Lib.hid hok
  have HL := Lib.hid hl
  have HX := Lib.hid hx
  have HCB := Lib.hid (And.intro hc (And.intro hb hn))
  obtain ⟨ln, hln⟩ : ∃ ln, l.length = ln := ⟨_, rfl⟩
  obtain ⟨xn, hxn⟩ : ∃ xn, s.l.length = xn := ⟨_, rfl⟩
  have HLN := Lib.hid hln
  have HXN := Lib.hid hxn
  rw [hln, hxn]
  clear hs hl hx hc hb hn hln hxn hE hok
  obtain ⟨sr, hsr⟩ : ∃ r, r = s := ⟨_, rfl⟩
  have HSR := Lib.hid hsr
  rw [← hsr] at HE HX HCB HXN ⊢
  clear hsr
  obtain ⟨k, f, t, gf, gt, ins, m, x⟩ := sr
  simp only [StepM.cells] at *
  go_enter Tryz.func40, Tryz.ntmps40
  go_upto_region 1 with (fail)
  obtain ⟨W, hW⟩ : ∃ W, w.alloc (.cells #[.int .i64 k, .int .i64 f, .int .i64 t, .int .i64 gf, .int .i64 gt, .int .i64 ins, .slice B xn b, .int .i64 m] 24) = W := ⟨_, rfl⟩
  have HF := Lib.hid (show Fr Nob w W by rw [← hW]; exact (Fr.refl _ _).alloc _)
  have HB := Lib.hid (show Blk W w.heap.size [.int .i64 k, .int .i64 f, .int .i64 t, .int .i64 gf, .int .i64 gt, .int .i64 ins, .slice B xn b, .int .i64 m] 24 by rw [← hW]; exact Blk.new _ _ _)
  rw [hW]
  clear hW
  have b0 := HB.out.cell 0
  have b1 := HB.out.cell 1
  have b2 := HB.out.cell 2
  have b3 := HB.out.cell 3
  have b4 := HB.out.cell 4
  have b5 := HB.out.cell 5
  have b6 := HB.out.cell 6
  have b7 := HB.out.cell 7
  have hlb := HB.out.lt
  simp only [List.getElem?_cons_zero, List.getElem?_cons_succ] at b0 b1 b2 b3 b4 b5 b6 b7
  go_wp2_with fail
  have hap := apply_any (fun _ => False) ⟨k, f, t, gf, gt, ins, m, x⟩ A B l c b W ((HL.out.mono (fun _ h => h.elim)).fr HF.out (fun _ _ h => h.elim)) ((HX.out.mono (fun _ h => h.elim)).fr HF.out (fun _ _ h => h.elim)) HCB.out.1 HCB.out.2.1 HCB.out.2.2
  simp only [StepM.cells, HXN.out, HLN.out] at hap
  refine hap.mono ?_
  clear hap b0 b1 b2 b3 b4 b5 b6 b7 hlb
  obtain ⟨ae, hae⟩ : ∃ r, applyE ⟨k, f, t, gf, gt, ins, m, x⟩ l = r := ⟨_, rfl⟩
  have HAE := Lib.hid hae
  rw [hae]
  clear hae
  rintro e w1 ⟨v, rfl, hv, hz, hF1⟩
  have HF1 := Lib.hid (HF.out.same hF1)
  by_cases h0 : ae = 0
  · subst h0
    have HV := Lib.hid ((hv rfl).old HF.out.size)
    have HE1 := Lib.hid (show (checkF rs g (doF ⟨k, f, t, gf, gt, ins, m, x⟩ l)).2 = E by rw [← HE.out, doE, if_neg (by rw [HAE.out]; simp)])
    clear hv hz hF1
    go_wp2_with fail
    have hfl := flat_short (applyE_zero HAE.out).2.2.2
    refine (schcheck_any M _ p rs g HOK.out v _ w1 (HS.out.fr0 HF1.out) HV.out.doc (by omega)).mono ?_
    rintro e w2 ⟨rfl, hF2⟩
    have HF2 := Lib.hid (HF1.out.same hF2)
    have HV2 : Hid (NewDoc w w2 v (doF ⟨k, f, t, gf, gt, ins, m, x⟩ l)) := by
      obtain ⟨gg, rfl, hg, hb⟩ := HV.out
      exact ⟨gg, rfl, hg, hb.fr hF2 (fun h => h)⟩
    clear hF2 hfl
    obtain ⟨⟨ci, ce⟩, hce⟩ : ∃ r, checkF rs g (doF ⟨k, f, t, gf, gt, ins, m, x⟩ l) = r := ⟨_, rfl⟩
    rw [hce] at HE1 ⊢
    clear hce
    simp only at HE1 ⊢
    by_cases h1 : ce = 0
    · subst h1
      have HE2 := Lib.hid (show E = 0 from HE1.out.symm)
      go_wp2_with fail
      refine bodyPost_ret (v := .tuple #[v, .nilIface]) (by simp [results, go_sem]) rfl ?_
      exact ⟨v, by rw [HE2.out]; rfl, fun _ => HV2.out, fun h => absurd HE2.out h, HF2.out⟩
    · have h1' : (ce != 0) = true := by simpa using h1
      have HE2 := Lib.hid (show E = ce from HE1.out.symm)
      go_wp2_with fail
      refine bodyPost_ret (v := .tuple #[.slice none 0 0, .iface 146 (.agg #[.int .i64 ce])]) (by simp [results, go_sem]) rfl ?_
      exact ⟨_, by rw [HE2.out, refV, if_neg h1], by rw [HE2.out]; intro h; exact absurd h h1, fun _ => rfl, HF2.out⟩
  · have h0' : (ae == 0) = false := by simpa using h0
    have h0'' : (ae != 0) = true := by simpa using h0
    have HE1 := Lib.hid (show ae = E by rw [← HE.out, doE, if_pos (by rw [HAE.out]; exact h0), HAE.out])
    go_wp2_with fail
    refine bodyPost_ret (v := .tuple #[.slice none 0 0, .iface 146 (.agg #[.int .i64 ae])]) (by simp [results, go_sem]) rfl ?_
    exact ⟨_, by rw [← HE1.out, refV, if_neg h0], by rw [← HE1.out]; intro h; exact absurd h h0, fun _ => rfl, HF1.out⟩
end Go.Proofs.YtanbfplcldloeaaGreatDoor

/- errors.Is at a refusal and a number. -/
namespace Go.Proofs.YtanbfplcldloeaaGreatDoor
open Go.RowKit Go.Extern.Stop Go.Stop Go.Extern
theorem typeOfE (v : Value) (w : World) : (ReflectliteType.typeOf #[.iface 32 v]).run Tryz.prog w = .ok (.iface 219 (.agg #[.pointer (some ⟨1, 32, none⟩)])) w := by kernel_rfl
theorem methodComparable (h : Value) (w : World) : (Go.method 403 219 (.agg #[h]) "Comparable").run Tryz.prog w = .ok (192, .agg #[h]) w := by kernel_rfl
theorem methodUnwrap (h : Value) (w : World) : (Go.method 403 146 (.agg #[h]) "Unwrap").run Tryz.prog w = .ok (187, .agg #[h]) w := by kernel_rfl
set_option maxHeartbeats 1000000 in
theorem unwrap_any (E : Int) (w : World) : Calls Tryz.prog 187 #[.agg #[.int .i64 E]] w fun e w' => e = .returned (.iface 32 (.int .i64 E)) ∧ Fr Nob w w' := by
  go_enter Tryz.func187, Tryz.ntmps187
  go_wp2_with fail
  go_ret
  exact ⟨rfl, (Fr.refl _ _).alloc _⟩
theorem eqRef (E e : Int) (w : World) : (binOp .eql 87 (.iface 146 (.agg #[.int .i64 E])) (.iface 32 (.int .i64 e))).run Tryz.prog w = .ok (.bool false) w := by kernel_rfl
theorem eqNum (E e : Int) (w : World) : (binOp .eql 87 (.iface 32 (.int .i64 E)) (.iface 32 (.int .i64 e))).run Tryz.prog w = .ok (.bool (E == e)) w := Lib.run_eql_iface_int w E e Tryz.underlying87 (by kernel_rfl) Tryz.underlying32
theorem eqNil (E : Int) (w : World) : (binOp .eql 87 (.iface 32 (.int .i64 E)) .nilIface).run Tryz.prog w = .ok (.bool false) w := by kernel_rfl
theorem taRefIs (E : Int) (w : World) : (Instr.typeAssert (.iface 146 (.agg #[.int .i64 E])) 87 221 true).run Tryz.prog w = .ok (.tuple #[.nilIface, .bool false]) w := run_typeAssert_lacksB Tryz.underlying221 (by kernel_rfl) (by kernel_rfl) _ _ w
theorem taRefUn (E : Int) (w : World) : (Instr.typeAssert (.iface 146 (.agg #[.int .i64 E])) 87 224 true).run Tryz.prog w = .ok (.tuple #[.iface 146 (.agg #[.int .i64 E]), .bool true]) w := by kernel_rfl
theorem taNumIs (E : Int) (w : World) : (Instr.typeAssert (.iface 32 (.int .i64 E)) 87 221 true).run Tryz.prog w = .ok (.tuple #[.nilIface, .bool false]) w := run_typeAssert_lacksB Tryz.underlying221 (by kernel_rfl) (by kernel_rfl) _ _ w
theorem taNumUn (E : Int) (w : World) : (Instr.typeAssert (.iface 32 (.int .i64 E)) 87 224 true).run Tryz.prog w = .ok (.tuple #[.nilIface, .bool false]) w := run_typeAssert_lacksB Tryz.underlying224 (by kernel_rfl) (by kernel_rfl) _ _ w
theorem taNumUl (E : Int) (w : World) : (Instr.typeAssert (.iface 32 (.int .i64 E)) 87 226 true).run Tryz.prog w = .ok (.tuple #[.nilIface, .bool false]) w := run_typeAssert_lacksB Tryz.underlying226 (by kernel_rfl) (by kernel_rfl) _ _ w
set_option maxRecDepth 100000 in
set_option maxHeartbeats 4000000 in
theorem is_any (E e : Int) (w : World) : Calls Tryz.prog 95 #[.iface 146 (.agg #[.int .i64 E]), .iface 32 (.int .i64 e), .bool true] w fun ev w' => ev = .returned (.bool (E == e)) ∧ Fr Nob w w' := by
  have mU := methodUnwrap
  have q1 := eqRef
  have q2 := eqNum
  have q3 := eqNil
  have a1 := taRefIs
  have a2 := taRefUn
  have a3 := taNumIs
  have a4 := taNumUn
  have a5 := taNumUl
  have HU := Lib.hid (unwrap_any E)
  go_enter Tryz.func95, Tryz.ntmps95
  go_wp2_with fail
  refine wp_loop_rounds 2 ?_
  rw [rounds_succ]
  go_wp2_with fail
  refine (HU.out w).mono ?_
  rintro ev w1 ⟨rfl, hF1⟩
  have HF1 := Lib.hid hF1
  clear hF1
  go_wp2_with fail
  rw [rounds_succ]
  obtain ⟨z, hz⟩ : ∃ z, (E == e) = z := ⟨_, rfl⟩
  have q4 := fun w => eqNum E e w
  simp only [hz] at q4
  have HZ := Lib.hid hz
  clear q2 hz
  cases z
  · go_wp2_with fail
    go_ret
    exact ⟨by rw [HZ.out]; rfl, HF1.out⟩
  · go_wp2_with fail
    go_ret
    exact ⟨by rw [HZ.out]; rfl, HF1.out⟩
end Go.Proofs.YtanbfplcldloeaaGreatDoor

/- errors.Is and remap.number at a refusal. -/
namespace Go.Proofs.YtanbfplcldloeaaGreatDoor
open Go.RowKit Go.Extern.Stop Go.Stop Go.Extern
theorem comparableE (w : World) : (ReflectliteType.method (fun t => do Rtype.noPackHeld "Comparable" t; pure (.bool (← typeInfo t).comparable)) #[.agg #[.pointer (some ⟨1, 32, none⟩)]]).run Tryz.prog w = .ok (.bool true) w := by kernel_rfl
theorem eqNilR (E : Int) (w : World) : (binOp .eql 87 (.iface 146 (.agg #[.int .i64 E])) .nilIface).run Tryz.prog w = .ok (.bool false) w := by kernel_rfl
set_option maxRecDepth 100000 in
set_option maxHeartbeats 4000000 in
theorem Is_any (E e : Int) (w : World) : Calls Tryz.prog 65 #[.iface 146 (.agg #[.int .i64 E]), .iface 32 (.int .i64 e)] w fun ev w' => ev = .returned (.bool (E == e)) ∧ Fr Nob w w' := by
  have h1 := @run_callFunc_extern Tryz.prog 94 _ ReflectliteType.typeOf Tryz.func94 (by kernel_rfl) (by kernel_rfl) (by kernel_rfl) (by kernel_rfl)
  have h2 := @run_callFunc_extern Tryz.prog 192 _ (ReflectliteType.method (fun t => do Rtype.noPackHeld "Comparable" t; pure (.bool (← typeInfo t).comparable))) Tryz.func192 (by kernel_rfl) (by kernel_rfl) (by kernel_rfl) (by kernel_rfl)
  have t1 := typeOfE
  have m1 := methodComparable
  have c1 := comparableE
  generalize ReflectliteType.method (fun t => do Rtype.noPackHeld "Comparable" t; pure (.bool (← typeInfo t).comparable)) = F at h2 c1
  have q3 := eqNil
  have q4 := eqNilR
  have HI := Lib.hid (is_any E e)
  go_enter Tryz.func65, Tryz.ntmps65
  go_wp2_with fail
  refine (HI.out w).mono ?_
  rintro ev w1 ⟨rfl, hF1⟩
  have HF1 := Lib.hid hF1
  clear hF1
  go_wp2_with fail
  go_ret
  exact ⟨rfl, HF1.out⟩
/-- An error's number, found among all numbers. -/
def numF (E : Int) : Int := if 1 ≤ E ∧ E ≤ 12 then E else 0
set_option maxRecDepth 100000 in
set_option maxHeartbeats 4000000 in
theorem number_any (E : Int) (w : World) : Calls Tryz.prog 38 #[.iface 146 (.agg #[.int .i64 E])] w fun ev w' => ev = .returned (.int .i64 (numF E)) ∧ Fr Nob w w' := by
  obtain ⟨R, hR⟩ : ∃ R, numF E = R := ⟨_, rfl⟩
  rw [hR]
  have HR := Lib.hid hR
  clear hR
  go_enter Tryz.func38, Tryz.ntmps38
  go_wp2_with fail
  go_loopg [3] (12) (fun n b wr => ∃ (k : Nat), n = 12 - k ∧ k ≤ 12 ∧ b = .int .i64 ((k : Int) + 1) ∧ Hid (Fr Nob w wr) ∧ Hid (∀ j : Int, 1 ≤ j → j ≤ k → E ≠ j))
  case atStart => exact ⟨0, rfl, Nat.zero_le _, rfl, Fr.refl _ _, fun j h1 h2 => by omega⟩
  case round =>
    obtain ⟨k, rfl, hk, rfl, HF, HE⟩ := hrel
    by_cases hlt : k < 12
    · have ht : ((k : Int) + 1 ≤ 12) := by omega
      have wk := wrp64 ((k : Int) + 1 + 1) (by omega) (by omega)
      go_wp2_with fail
      refine (Is_any E ((k : Int) + 1) wr).mono ?_
      rintro ev w1 ⟨rfl, hF1⟩
      have HF1 := Lib.hid (HF.out.same hF1)
      clear hF1
      by_cases h0 : E = (k : Int) + 1
      · have h0' : (E == (k : Int) + 1) = true := by simpa using h0
        have HV := Lib.hid (show (k : Int) + 1 = R by rw [← HR.out, numF, if_pos (by omega), h0])
        clear h0
        go_wp2_with fail
        go_ret
        exact ⟨by rw [HV.out]; rfl, HF1.out⟩
      · have h0' : (E == (k : Int) + 1) = false := by simpa using h0
        have HN := Lib.hid h0
        clear h0
        go_wp2_with fail
        go_roundg (12 - (k + 1))
        case measure => omega
        case rel => exact ⟨k + 1, rfl, by omega, by simp, HF1.out, fun j h1 h2 => by
          by_cases h : j ≤ k
          · exact HE.out j h1 h
          · intro h3; exact HN.out (by omega)⟩
    · have ht : ¬ ((k : Int) + 1 ≤ 12) := by omega
      go_wp2_with fail
      go_ret
      refine ⟨?_, HF.out⟩
      rw [← HR.out, numF, if_neg]
      · rfl
      · rintro ⟨h1, h2⟩; exact HE.out E h1 (by omega) rfl
end Go.Proofs.YtanbfplcldloeaaGreatDoor

/- Chapter 10: steps, one behind the other, each of which is told. -/
namespace Go.Proofs.YtanbfplcldloeaaGreatDoor
open Go.RowKit
/-- A step in memory: its letters lie in a row of their own. -/
structure StepA where
  s : StepM
  B : Option Addr
  b : Nat
def StepA.cells (x : StepA) : List Value := x.s.cells (.slice x.B x.s.l.length x.b)
theorem StepA.cells_len (x : StepA) : x.cells.length = 8 := rfl
def stepC (L : List StepA) : List Value := L.flatMap StepA.cells
/-- Steps in memory. -/
structure StepsM (M : Nat → Prop) (w : World) (A : Option Addr) (L : List StepA) : Prop where
  row : Rd M w A (stepC L)
  each : ∀ x ∈ L, Rd M w x.B (tokC x.s.l)
  cap : ∀ x ∈ L, x.s.l.length ≤ x.b
theorem StepsM.fr {M M' : Nat → Prop} {w w' : World} {A : Option Addr} {L : List StepA} (h : StepsM M w A L) (hf : Fr M' w w') (hM : ∀ k, k < w.heap.size → M' k → M k) : StepsM M w' A L :=
  ⟨h.row.fr hf hM, fun x hx => (h.each x hx).fr hf hM, h.cap⟩
theorem StepsM.fr0 {M : Nat → Prop} {w w' : World} {A : Option Addr} {L : List StepA} (h : StepsM M w A L) (hf : Fr Nob w w') : StepsM M w' A L := h.fr hf (fun _ _ h => h.elim)
theorem StepsM.mono {M M' : Nat → Prop} {w : World} {A : Option Addr} {L : List StepA} (h : StepsM M w A L) (hM : ∀ k, M' k → M k) : StepsM M' w A L :=
  ⟨h.row.mono hM, fun x hx => (h.each x hx).mono hM, h.cap⟩
theorem StepsM.bound {M : Nat → Prop} {w : World} {A : Option Addr} {L : List StepA} (h : StepsM M w A L) : StepsM (fun k => M k ∨ w.heap.size ≤ k) w A L :=
  ⟨h.row.bound, fun x hx => (h.each x hx).bound, h.cap⟩
/-- Steps at a document: what comes of it, or the first refusal. -/
def runF (rs : List RuleM) (g : List Grp) : List StepM → List Tok → List Tok × Int
  | [], l => (l, 0)
  | s :: r, l => if doE rs g s l = 0 then runF rs g r (doF s l) else ([], doE rs g s l)
theorem doE_zero {rs : List RuleM} {g : List Grp} {s : StepM} {l : List Tok} (h : doE rs g s l = 0) : applyE s l = 0 ∧ (checkF rs g (doF s l)).2 = 0 := by
  unfold doE at h
  split at h
  · rename_i h1; exact absurd h h1
  · rename_i h1; exact ⟨Decidable.not_not.1 h1, h⟩
/-- A function that is told each step: what it keeps (N: its own blocks) stays as it is while others work. -/
structure Told (gf : Nat) (caps : Array Value) (m : Nat) (J : List StepM → (Nat → Prop) → World → Prop) : Prop where
  enter : ∀ args w, (callFunc gf args).run Tryz.prog w = .ok (.enter gf args) w
  still : ∀ pre N w w', J pre N w → Fr Nob w w' → J pre N w'
  lt : ∀ pre N w, J pre N w → ∀ k, N k → k < w.heap.size
  call : ∀ pre s N w B b, J pre N w → pre.length < m → stepF s = 0 → Rd N w B (tokC s.l) →
    Calls Tryz.prog gf (#[.agg (s.cells (.slice B s.l.length b)).toArray] ++ caps) w fun e w' => e = .returned (.tuple #[]) ∧ ∃ N', J (pre ++ [s]) N' w' ∧ Fr N w w' ∧ ∀ k, N' k → N k ∨ w.heap.size ≤ k
/-- The own blocks of a function that is told, later. -/
def Later (N : Nat → Prop) (w : World) (N' : Nat → Prop) : Prop := ∀ k, N' k → N k ∨ w.heap.size ≤ k
theorem Later.refl (N : Nat → Prop) (w : World) : Later N w N := fun _ h => .inl h
theorem Later.trans {N N' N'' : Nat → Prop} {w w' : World} (h : Later N w N') (h' : Later N' w' N'') (hs : w.heap.size ≤ w'.heap.size) : Later N w N'' := fun k hk => by
  rcases h' k hk with h1 | h1
  · exact h k h1
  · exact .inr (by omega)
theorem Later.trans0 {N N'' : Nat → Prop} {w w' : World} (h' : Later N w' N'') (hs : w.heap.size ≤ w'.heap.size) : Later N w N'' := (Later.refl N w).trans h' hs
theorem StepsM.later {N N' : Nat → Prop} {w w' : World} {A : Option Addr} {L : List StepA} (h : StepsM N w A L) (hf : Fr N w w') (hl : Later N w N') : StepsM N' w' A L :=
  ((h.bound.fr hf (fun _ _ h => .inl h)).mono hl)
theorem Sch.later {N N' : Nat → Prop} {w w' : World} {p : Nat} {rs : List RuleM} {g : List Grp} (h : Sch N w p rs g) (hf : Fr N w w') (hl : Later N w N') : Sch N' w' p rs g :=
  ((h.bound.fr hf (fun _ _ h => .inl h)).mono hl)
theorem Doc.later {N N' : Nat → Prop} {w w' : World} {v : Value} {l : List Tok} (h : Doc N w v l) (hf : Fr N w w') (hl : Later N w N') : Doc N' w' v l :=
  ((h.bound.fr hf (fun _ _ h => .inl h)).mono hl)
theorem Doc.later0 {N N' M0 : Nat → Prop} {w w' : World} {v : Value} {l : List Tok} (h : Doc (fun k => N k ∨ M0 k) w v l) (hf : Fr N w w') (hl : Later N w N') : Doc (fun k => N' k ∨ M0 k) w' v l :=
  (h.bound.fr hf (fun _ _ h => .inl (.inl h))).mono (fun k hk => by
    rcases hk with hk | hk
    · rcases hl k hk with h1 | h1
      · exact .inl (.inl h1)
      · exact .inr h1
    · exact .inl (.inr hk))
theorem Rd.later {N N' : Nat → Prop} {w w' : World} {A : Option Addr} {xs : List Value} (h : Rd N w A xs) (hf : Fr N w w') (hl : Later N w N') : Rd N' w' A xs :=
  ((h.bound.fr hf (fun _ _ h => .inl h)).mono hl)
theorem Fr.later {N N' : Nat → Prop} {w w' w'' : World} (h : Fr N w w') (hl : Later N w N') (h' : Fr N' w' w'') : Fr N w w'' :=
  h.trans h' (fun k hk hn => by
    rcases hl k hn with h1 | h1
    · exact h1
    · omega)
set_option maxRecDepth 100000 in
set_option maxHeartbeats 4000000 in
theorem remrun_any (gf : Nat) (caps : Array Value) (m : Nat) (J : List StepM → (Nat → Prop) → World → Prop) (hT : Told gf caps m J)
    (N M0 : Nat → Prop) (p : Nat) (rs : List RuleM) (g : List Grp) (hok : SchOk rs g) (L : List StepA) (SA : Option Addr) (sc : Nat) (v : Value) (l : List Tok) (w : World) (hm : L.length ≤ m) (hm2 : m ≤ 1000) (hJ : J [] N w) (hs : Sch N w p rs g) (hS : StepsM N w SA L) (hM0 : ∀ k, M0 k → k < w.heap.size) (hd : Doc (fun k => N k ∨ M0 k) w v l) (hn : l.length ≤ 9223372036854775807) :
    Calls Tryz.prog 34 #[.pointer (some ⟨p, 0, none⟩), v, .slice SA L.length sc, .func (.func gf) #[] caps] w fun e w' => ∃ v', e = .returned (.tuple #[v', refV (runF rs g (L.map StepA.s) l).2]) ∧
      ((runF rs g (L.map StepA.s) l).2 = 0 → ∃ N', J (L.map StepA.s) N' w' ∧ Later N w N' ∧ Doc (fun k => N' k ∨ M0 k) w' v' (runF rs g (L.map StepA.s) l).1) ∧ Fr N w w' := by
  obtain ⟨R, hR⟩ : ∃ R, runF rs g (L.map StepA.s) l = R := ⟨_, rfl⟩
  rw [hR]
  have HR := Lib.hid hR
  have HT := Lib.hid hT
  have hent := hT.enter
  have HOK := Lib.hid hok
  have HJ := Lib.hid hJ
  have HS := Lib.hid hs
  have HL := Lib.hid hS
  have HD := Lib.hid hd
  have HN := Lib.hid hn
  have HM := Lib.hid (And.intro hm hm2)
  have HM0 := Lib.hid hM0
  have hlen : L.length ≤ 1000 := by omega
  clear hR hT hok hJ hs hS hd hn hm hm2 hM0
  go_enter Tryz.func34, Tryz.ntmps34
  go_wp2_with fail
  go_loopg [1, 16] (L.length) (fun n v i wr => ∃ (k : Nat) (Nk : Nat → Prop) (lk : List Tok), n = L.length - k ∧ k ≤ L.length ∧ i = .int .i64 k ∧ Hid (J ((L.map StepA.s).take k) Nk wr) ∧ Hid (Later N w Nk) ∧ Hid (Fr N w wr) ∧ Hid (Doc (fun k => Nk k ∨ M0 k) wr v lk) ∧ Hid (lk.length ≤ 9223372036854775807) ∧ Hid (runF rs g ((L.drop k).map StepA.s) lk = R))
  case atStart => exact ⟨0, N, l, rfl, Nat.zero_le _, rfl, HJ.out, Later.refl _ _, Fr.refl _ _, HD.out, HN.out, HR.out⟩
  case round =>
    obtain ⟨k, Nk, lk, rfl, hk, rfl, HJk, HLk, HFk, HDk, HNk, HRk⟩ := hrel
    by_cases hlt : k < L.length
    · have ht : (k : Int) < (L.length : Int) := by omega
      have HSL := Lib.hid (HL.out.later HFk.out HLk.out)
      obtain ⟨ad, rfl, hnb, hbl, h0, hj⟩ := Rd.elt StepA.cells_len (by omega) HSL.out.row hlt
      obtain ⟨⟨s, B, b⟩, hx⟩ : ∃ x, L[k] = x := ⟨_, rfl⟩
      have HX := Lib.hid hx
      rw [hx] at h0 hj
      have q1 := hj 0 (by omega)
      have q2 := hj 1 (by omega)
      have q3 := hj 2 (by omega)
      have q4 := hj 3 (by omega)
      have q5 := hj 4 (by omega)
      have q6 := hj 5 (by omega)
      have q7 := hj 6 (by omega)
      clear hj hx
      simp only [StepA.cells, StepM.cells, List.getElem?_cons_zero, List.getElem?_cons_succ] at h0 q1 q2 q3 q4 q5 q6 q7
      go_upto_region 4 with (fail)
      obtain ⟨W, hW⟩ : ∃ W, wr.alloc (.cells #[.int .i64 s.k, .int .i64 s.f, .int .i64 s.t, .int .i64 s.gf, .int .i64 s.gt, .int .i64 s.ins, .slice B s.l.length b, .int .i64 s.m] 24) = W := ⟨_, rfl⟩
      have HFW := Lib.hid (show Fr Nob wr W by rw [← hW]; exact (Fr.refl _ _).alloc _)
      have HB := Lib.hid (show Blk W wr.heap.size [.int .i64 s.k, .int .i64 s.f, .int .i64 s.t, .int .i64 s.gf, .int .i64 s.gt, .int .i64 s.ins, .slice B s.l.length b, .int .i64 s.m] 24 by rw [← hW]; exact Blk.new _ _ _)
      rw [hW]
      clear hW h0 q1 q2 q3 q4 q5 q6 q7
      obtain ⟨A, c, rfl, hc, hr⟩ := HDk.out
      have HR0 := Lib.hid hr
      have HXB := Lib.hid (show Rd Nk W B (tokC s.l) ∧ s.l.length ≤ b by
        have h1 := HSL.out.each L[k] (List.getElem_mem _)
        have h2 := HSL.out.cap L[k] (List.getElem_mem _)
        rw [HX.out] at h1 h2
        exact ⟨h1.fr HFW.out (fun _ _ h => h.elim), h2⟩)
      clear hr
      have b0 := HB.out.cell 0
      have b1 := HB.out.cell 1
      have b2 := HB.out.cell 2
      have b3 := HB.out.cell 3
      have b4 := HB.out.cell 4
      have b5 := HB.out.cell 5
      have b6 := HB.out.cell 6
      have b7 := HB.out.cell 7
      have hlb := HB.out.lt
      simp only [List.getElem?_cons_zero, List.getElem?_cons_succ] at b0 b1 b2 b3 b4 b5 b6 b7
      go_wp2_with fail
      have hap := remdo_any Nk _ Nk p rs g HOK.out s A B lk c b W (((HS.out.later HFk.out HLk.out)).fr0 HFW.out) (HR0.out.fr HFW.out (fun _ _ h => h.elim)) HXB.out.1 hc HXB.out.2 HNk.out
      simp only [StepM.cells] at hap
      refine hap.mono ?_
      clear hap b0 b1 b2 b3 b4 b5 b6 b7 hlb hc
      rintro e w1 ⟨v1, rfl, hv, hz, hF1⟩
      have HW1 := Lib.hid (HFW.out.same hF1)
      have HF1 := Lib.hid hF1
      have HRs := Lib.hid (show runF rs g (s :: (L.drop (k + 1)).map StepA.s) lk = R by rw [← HRk.out, List.drop_eq_getElem_cons hlt, List.map_cons, HX.out])
      by_cases hz0 : doE rs g s lk = 0
      · have HV := Lib.hid (hv hz0)
        have HB1 := Lib.hid (HB.out.fr hF1 (fun h => h))
        have HD0 := Lib.hid hz0
        rw [hz0]
        clear hv hz hF1 hz0
        simp only [refV, if_true]
        have b0 := HB1.out.cell 0
        have b1 := HB1.out.cell 1
        have b2 := HB1.out.cell 2
        have b3 := HB1.out.cell 3
        have b4 := HB1.out.cell 4
        have b5 := HB1.out.cell 5
        have b6 := HB1.out.cell 6
        have b7 := HB1.out.cell 7
        have hlb := HB1.out.lt
        simp only [List.getElem?_cons_zero, List.getElem?_cons_succ] at b0 b1 b2 b3 b4 b5 b6 b7
        go_wp2_with fail
        have hN1 := HNk.out
        have hfl := flat_short (applyE_zero (doE_zero HD0.out).1).2.2.2
        have HJ1 := Lib.hid (HT.out.still _ _ _ _ HJk.out HW1.out)
        refine (HT.out.call _ s Nk w1 B b HJ1.out (by rw [List.length_take, List.length_map]; have := HM.out.1; omega) (applyE_zero (doE_zero HD0.out).1).2.1 ((HXB.out.1.fr HF1.out (fun _ _ h => h.elim)))).mono ?_
        rintro e w2 ⟨rfl, N2, hJ2, hF2, hL2⟩
        have HJ2 := Lib.hid (show J ((L.map StepA.s).take (k + 1)) N2 w2 by rw [List.take_succ_eq_append_getElem (by rw [List.length_map]; exact hlt), List.getElem_map, HX.out]; exact hJ2)
        have HL2 := Lib.hid (HLk.out.trans (w' := w1) (N' := Nk) hL2 (Nat.le_trans HFk.out.size HW1.out.size))
        have HF2 := Lib.hid ((HFk.out.trans HW1.out (fun _ _ h => h.elim)).later HLk.out hF2)
        have HV2 := Lib.hid (show Doc (fun k => N2 k ∨ M0 k) w2 v1 (doF s lk) from (HV.out.doc.mono (M' := fun k => Nk k ∨ M0 k) (fun k hk => by
          have h1 := HFW.out.size
          have h2 := HFk.out.size
          rcases hk with hk | hk
          · exact Nat.lt_of_lt_of_le (HT.out.lt _ _ _ HJk.out k hk) h1
          · have := HM0.out k hk; omega)).later0 hF2 hL2)
        have HNn := Lib.hid (show (doF s lk).length ≤ 9223372036854775807 by omega)
        have HR2 := Lib.hid (show runF rs g ((L.drop (k + 1)).map StepA.s) (doF s lk) = R by rw [← HRs.out, runF, if_pos HD0.out])
        clear hJ2 hF2 hL2 hN1 hfl b0 b1 b2 b3 b4 b5 b6 b7 hlb
        have wk := wrp64 ((k : Int) + 1) (by omega) (by omega)
        go_wp2_with fail
        go_roundg (L.length - (k + 1))
        case measure => omega
        case rel => exact ⟨k + 1, N2, doF s lk, rfl, by omega, by simp, HJ2.out, HL2.out, HF2.out, HV2.out, HNn.out, HR2.out⟩
      · have HD0 := Lib.hid hz0
        rw [show refV (doE rs g s lk) = .iface 146 (.agg #[.int .i64 (doE rs g s lk)]) from if_neg hz0]
        have HE := Lib.hid (show R = ([], doE rs g s lk) by rw [← HRs.out, runF, if_neg hz0])
        clear hz0 hv hF1
        go_wp2_with fail
        refine bodyPost_ret (v := .tuple #[.slice none 0 0, .iface 146 (.agg #[.int .i64 (doE rs g s lk)])]) (by simp [results, go_sem]) rfl ?_
        rw [HE.out]
        exact ⟨_, by rw [refV, if_neg HD0.out], fun h => absurd h HD0.out, HFk.out.trans HW1.out (fun _ _ h => h.elim)⟩
    · have hk2 : k = L.length := by omega
      have HJL := Lib.hid (show J (L.map StepA.s) Nk wr by have := HJk.out; rwa [List.take_of_length_le (by rw [List.length_map]; omega)] at this)
      have HE := Lib.hid (show R = (lk, 0) by rw [← HRk.out, List.drop_eq_nil_of_le (by omega)]; rfl)
      have ht : ¬ (k : Int) < (L.length : Int) := by omega
      clear hk2
      go_wp2_with fail
      refine bodyPost_ret (v := .tuple #[u1, .nilIface]) (by simp [results, go_sem]) rfl ?_
      rw [HE.out]
      exact ⟨_, rfl, fun _ => ⟨Nk, HJL.out, HLk.out, HDk.out⟩, HFk.out⟩
end Go.Proofs.YtanbfplcldloeaaGreatDoor

/- Chapter 7: a copy of some numbers; the groups of a schema that is made. -/
namespace Go.Proofs.YtanbfplcldloeaaGreatDoor
open Go.RowKit
theorem intC_len (l : List Int) : (intC l).length = l.length := by simp [intC]
theorem intC_one (l : List Int) : ∀ u ∈ intC l, u.oneCell' = true := fun u hu => by
  obtain ⟨i, _, rfl⟩ := List.mem_map.1 hu
  rfl
theorem infoInt : (Tryz.prog.info? 3).map (fun i => (i.zero, i.size, i.bytes)) = some (some (.int .i64 0), 1, 8) := by kernel_rfl
theorem infoGrp : (Tryz.prog.info? 106).map (fun i => (i.zero, i.size, i.bytes)) = some (some (.agg #[.string ⟨#[]⟩, .slice none 0 0]), 2, 40) := by kernel_rfl
set_option maxRecDepth 100000 in
theorem clone_any (M : Nat → Prop) (l : List Int) (ad : Addr) (c : Nat) (w : World) (h0 : 0 < l.length) (hn : l.length ≤ 1000) (hR : Rd M w (some ad) (intC l)) :
    Calls Tryz.prog 70 #[.slice (some ad) l.length c] w fun e w' => (∃ A' c', e = .returned (.slice A' l.length c') ∧ l.length ≤ c' ∧ Rd (fun k => k < w.heap.size) w' A' (intC l)) ∧ Fr Nob w w' := by
  obtain ⟨i0, hi, hz0, hz1, hz2⟩ := info_parts infoInt
  have hq := Lib.run_eql_slice_nil (P := Tryz.prog) w 44 3 (some ad) l.length c 0 0 Tryz.underlying44
  obtain ⟨ad', hA, _, hc⟩ := hR (by intro e; have := intC_len l; rw [e] at this; simp at this; omega)
  cases hA
  obtain ⟨cs, hcs⟩ : ∃ cs, intC l = cs := ⟨_, rfl⟩
  have HL := Lib.hid (show cs.length = l.length * 1 by rw [← hcs, intC_len, Nat.mul_one])
  have HO := Lib.hid (show ∀ u ∈ cs, u.oneCell' = true by rw [← hcs]; exact intC_one l)
  rw [hcs] at hc
  have HC := Lib.hid (show ∀ j u, cs[j]? = some u → (w.alloc (.cells #[] 3)).cell? (ad.add j) = some u from fun j u hu => ((Fr.refl Nob w).alloc _).cell0 (hc j u hu))
  have HOW := Lib.hid (World.ownsRow_lit (e := 3) (size := 1) (base := w.heap.size) w #[] 0 (Nat.le_refl _) (by decide) rfl)
  have HM := Lib.hid (show 0 + l.length ≤ maxLen ∧ (0 + l.length) * 8 ≤ 140737488355328 ∧ w.heap.size ≤ (w.alloc (.cells #[] 3)).heap.size from ⟨by simp only [maxLen]; omega, by omega, by simp⟩)
  have HCS := Lib.hid hcs
  rw [hcs]
  clear hR hc hcs
  obtain ⟨n, hnn⟩ : ∃ n, l.length = n := ⟨_, rfl⟩
  rw [hnn] at HL HM h0 hn hq ⊢
  clear hnn
  go_enter Tryz.func70, Tryz.ntmps70
  go_wp2_with (at_builtin; refine wpList_append_lies _ rfl _ _ 44 rfl w.heap.size 3 i0 _ 1 8 Tryz.underlying44 hi hz0 hz1 hz2 rfl (by decide) (.slice (some ⟨w.heap.size, 0, none⟩) 0 0) 0 [] rfl HOW.out ad n c cs rfl HL.out HC.out HO.out (by omega) HM.out.1 HM.out.2.1 HM.out.2.2 _ rfl ?_; intro g cap w3 hown3 hg3 hga hgl)
  have HF3 : Fr Nob w w3 := ((Fr.refl Nob w).alloc _).trans (Fr.of_grown hg3) (fun k hk e => by
    have h1 : w.heap.size = k := by injection e with e; exact e.symm
    omega)

  obtain ⟨A', c', e', hc', hr'⟩ := Rd.of_own (M := fun k => k < w.heap.size) hown3 (fun k hk h => by
    have := (World.ownsRow.lt hown3 k hk).1
    omega)
  cases e'
  go_ret
  exact ⟨⟨_, _, rfl, by omega, by simpa using hr'⟩, HF3⟩
/-- A schema that is made: its rules' slice, its groups. N: the blocks that are its own. -/
structure NewG (base C : Nat) (N : Nat → Prop) (w : World) (lv gv : Value) (gl : List Grp) (css : List Value) : Prop where
  blk : Blk w C [lv, gv] 127
  gn : gv.ownBlock ≠ some C
  own : w.ownsRow base 106 2 gv gl.length css
  rep : GReps N w gl css
  mine : ∀ k, (k = C ∨ gv.ownBlock = some k) → N k
  lt : ∀ k, N k → k < w.heap.size
  lo : ∀ k, k < base → N k
theorem GReps.append {M : Nat → Prop} {w : World} : ∀ (l l' : List Grp) (cs cs' : List Value), GReps M w l cs → GReps M w l' cs' → GReps M w (l ++ l') (cs ++ cs')
  | [], l', cs, cs', h, h' => by
    simp only [GReps] at h
    subst h
    exact h'
  | x :: xs, l', cs, cs', h, h' => by
    simp only [GReps] at h
    obtain ⟨A, c, rest, rfl, hl, hr, hs⟩ := h
    exact ⟨A, c, rest ++ cs', rfl, hl, hr, GReps.append xs l' rest cs' hs h'⟩
theorem NewG.fr0 {base C : Nat} {N : Nat → Prop} {w w' : World} {lv gv : Value} {gl : List Grp} {css : List Value} (h : NewG base C N w lv gv gl css) (hf : Fr Nob w w') : NewG base C N w' lv gv gl css :=
  ⟨h.blk.fr hf (fun h => h), h.gn, own_fr h.own hf (fun _ _ h => h), GReps.fr hf (fun _ _ h => h.elim) _ _ h.rep, h.mine, fun k hk => Nat.lt_of_lt_of_le (h.lt k hk) hf.size, h.lo⟩
/-- One more group: w' is what the append leaves, WE what the store leaves. -/
theorem NewG.app {base C : Nat} {N : Nat → Prop} {w w' WE : World} {lv gv : Value} {gl : List Grp} {css : List Value} (h : NewG base C N w lv gv gl css) {nm : ByteArray} {ts : List Int} {A : Option Addr} {c g cap : Nat} (hc : ts.length ≤ c)
    (hts : Rd N w A (intC ts))
    (hown : w'.ownsRow base 106 2 (.slice (some ⟨g, 0, none⟩) (gl.length + 1) cap) (gl.length + 1) (css ++ [.string nm, .slice A ts.length c]))
    (htwo : (w.grownBy w' none ∧ w.heap.size ≤ g) ∨ (∃ cap0, gv = .slice (some ⟨g, 0, none⟩) gl.length cap0 ∧ gl.length + 1 ≤ cap0 ∧ w.grownBy w' (some g)))
    (hWE : w'.setCell ⟨C, 1, none⟩ (.slice (some ⟨g, 0, none⟩) (gl.length + 1) cap) = WE) :
    NewG base C (fun k => N k ∨ k = g) WE lv (.slice (some ⟨g, 0, none⟩) (gl.length + 1) cap) (gl ++ [⟨nm, ts⟩]) (css ++ [.string nm, .slice A ts.length c]) ∧ Fr (fun k => k = C ∨ gv.ownBlock = some k) w WE := by
  subst hWE
  have hf : Fr (fun k => gv.ownBlock = some k) w w' := by
    rcases htwo with ⟨h1, _⟩ | ⟨_, rfl, _, h1⟩
    · exact (Fr.of_grown h1).mono (fun k _ e => by cases e)
    · exact (Fr.of_grown h1).mono (fun k _ e => by cases e; rfl)
  have hg : gv.ownBlock = some g ∨ w.heap.size ≤ g := by
    rcases htwo with ⟨_, h1⟩ | ⟨_, rfl, _, _⟩
    · exact .inr h1
    · exact .inl rfl
  have hgC : g ≠ C := by
    rcases hg with h1 | h1
    · exact fun e => h.gn (e ▸ h1)
    · have := h.blk.lt; omega
  have hb' := h.blk.fr hf (fun e => h.gn e)
  have hfE : Fr (One C) w' (w'.setCell ⟨C, 1, none⟩ (.slice (some ⟨g, 0, none⟩) (gl.length + 1) cap)) := (Fr.refl (One C) w').setCell (p := ⟨C, 1, none⟩) (.inl rfl) _
  have hfa : Fr (fun k => k = C ∨ gv.ownBlock = some k) w (w'.setCell ⟨C, 1, none⟩ (.slice (some ⟨g, 0, none⟩) (gl.length + 1) cap)) :=
    (hf.mono (fun k _ e => .inr e)).trans hfE (fun k _ e => .inl e)
  have hnew : ∀ k, (N k ∨ k = g) → N k ∨ w.heap.size ≤ k := by
    rintro k (h1 | rfl)
    · exact .inl h1
    · rcases hg with h1 | h1
      · exact .inl (h.mine _ (.inr h1))
      · exact .inr h1
  have hrd : Rd (fun k => N k ∨ k = g) (w'.setCell ⟨C, 1, none⟩ (.slice (some ⟨g, 0, none⟩) (gl.length + 1) cap)) A (intC ts) := (hts.bound.fr hfa (fun k _ e => .inl (h.mine k e))).mono hnew
  refine ⟨⟨hb'.set 1 _, ?_, ?_, ?_, ?_, ?_, fun k hk => .inl (h.lo k hk)⟩, hfa⟩
  · intro e
    injection e with e
    exact hgC e
  · rw [List.length_append]
    exact own_fr hown hfE (fun k e e2 => by
      have h1 : g = k := by cases e; rfl
      have h2 : k = C := e2
      exact hgC (h1.trans h2))
  · refine GReps.append _ _ _ _ (GReps.mono hnew _ _ (GReps.fr hfa (fun k _ e => .inl (h.mine k e)) _ _ (GReps.bound _ _ h.rep))) ?_
    exact ⟨A, c, [], rfl, hc, hrd, rfl⟩
  · rintro k (rfl | e)
    · exact .inl (h.mine _ (.inl rfl))
    · have h1 : g = k := by cases e; rfl
      exact .inr h1.symm
  · rintro k (h1 | rfl)
    · exact Nat.lt_of_lt_of_le (h.lt k h1) hfa.size
    · exact Nat.lt_of_lt_of_le (World.ownsRow.lt hown _ rfl).2 hfE.size
/-- A schema that is made: its groups are there, its rules come. -/
structure NewR (base C : Nat) (N0 N : Nat → Prop) (W9 w : World) (lv gv : Value) (rs : List RuleM) (g : List Grp) : Prop where
  blk : Blk w C [lv, gv] 127
  ln : lv.ownBlock ≠ some C
  own : w.ownsRow base 124 10 lv rs.length (rs.flatMap RuleM.cells)
  exprs : ∀ r ∈ rs, ERep N w r.e r.ec
  grps : Grps N w gv g
  mine : ∀ k, (k = C ∨ lv.ownBlock = some k) → N k
  lt : ∀ k, N k → k < w.heap.size
  lo : ∀ k, k < base → N k
  fw : Fr N0 W9 w
  lat : Later N0 W9 N
theorem NewR.fr0 {base C : Nat} {N0 N : Nat → Prop} {W9 w w' : World} {lv gv : Value} {rs : List RuleM} {g : List Grp} (h : NewR base C N0 N W9 w lv gv rs g) (hf : Fr Nob w w') : NewR base C N0 N W9 w' lv gv rs g :=
  ⟨h.blk.fr hf (fun h => h), h.ln, own_fr h.own hf (fun _ _ h => h), fun r hr => ERep.fr hf (fun _ _ h => h.elim) _ _ (h.exprs r hr), h.grps.fr0 hf, h.mine, fun k hk => Nat.lt_of_lt_of_le (h.lt k hk) hf.size, h.lo, h.fw.trans hf (fun _ _ h => h.elim), h.lat⟩
theorem NewR.app {base C : Nat} {N0 N : Nat → Prop} {W9 w w' WE : World} {lv gv : Value} {rs : List RuleM} {g : List Grp} (h : NewR base C N0 N W9 w lv gv rs g) {r : RuleM} {b cap : Nat} (hx : ERep N w r.e r.ec)
    (hown : w'.ownsRow base 124 10 (.slice (some ⟨b, 0, none⟩) (rs.length + 1) cap) (rs.length + 1) (rs.flatMap RuleM.cells ++ r.cells))
    (htwo : (w.grownBy w' none ∧ w.heap.size ≤ b) ∨ (∃ cap0, lv = .slice (some ⟨b, 0, none⟩) rs.length cap0 ∧ rs.length + 1 ≤ cap0 ∧ w.grownBy w' (some b)))
    (hWE : w'.setCell ⟨C, 0, none⟩ (.slice (some ⟨b, 0, none⟩) (rs.length + 1) cap) = WE) :
    NewR base C N0 (fun k => N k ∨ k = b) W9 WE (.slice (some ⟨b, 0, none⟩) (rs.length + 1) cap) gv (rs ++ [r]) g ∧ Fr (fun k => k = C ∨ lv.ownBlock = some k) w WE := by
  subst hWE
  have hf : Fr (fun k => lv.ownBlock = some k) w w' := by
    rcases htwo with ⟨h1, _⟩ | ⟨_, rfl, _, h1⟩
    · exact (Fr.of_grown h1).mono (fun k _ e => by cases e)
    · exact (Fr.of_grown h1).mono (fun k _ e => by cases e; rfl)
  have hg : lv.ownBlock = some b ∨ w.heap.size ≤ b := by
    rcases htwo with ⟨_, h1⟩ | ⟨_, rfl, _, _⟩
    · exact .inr h1
    · exact .inl rfl
  have hgC : b ≠ C := by
    rcases hg with h1 | h1
    · exact fun e => h.ln (e ▸ h1)
    · have := h.blk.lt; omega
  have hb' := h.blk.fr hf (fun e => h.ln e)
  have hfE : Fr (One C) w' (w'.setCell ⟨C, 0, none⟩ (.slice (some ⟨b, 0, none⟩) (rs.length + 1) cap)) := (Fr.refl (One C) w').setCell (p := ⟨C, 0, none⟩) (.inl rfl) _
  have hfa : Fr (fun k => k = C ∨ lv.ownBlock = some k) w (w'.setCell ⟨C, 0, none⟩ (.slice (some ⟨b, 0, none⟩) (rs.length + 1) cap)) :=
    (hf.mono (fun k _ e => .inr e)).trans hfE (fun k _ e => .inl e)
  have hnew : ∀ k, (N k ∨ k = b) → N k ∨ w.heap.size ≤ k := by
    rintro k (h1 | rfl)
    · exact .inl h1
    · rcases hg with h1 | h1
      · exact .inl (h.mine _ (.inr h1))
      · exact .inr h1
  have hE : ∀ {x : Tree} {cs : List Value}, ERep N w x cs → ERep (fun k => N k ∨ k = b) (w'.setCell ⟨C, 0, none⟩ (.slice (some ⟨b, 0, none⟩) (rs.length + 1) cap)) x cs :=
    fun he => ERep.mono hnew _ _ (ERep.fr hfa (fun k _ e => .inl (h.mine k e)) _ _ (ERep.bound _ _ he))
  refine ⟨⟨hb'.set 0 _, ?_, ?_, ?_, ?_, ?_, ?_, fun k hk => .inl (h.lo k hk), ?_, ?_⟩, hfa⟩
  · intro e
    injection e with e
    exact hgC e
  · rw [List.length_append, List.flatMap_append, List.flatMap_cons, List.flatMap_nil, List.append_nil]
    exact own_fr hown hfE (fun k e e2 => by
      have h1 : b = k := by cases e; rfl
      have h2 : k = C := e2
      exact hgC (h1.trans h2))
  · intro r' hr'
    rcases List.mem_append.1 hr' with hr' | hr'
    · exact hE (h.exprs r' hr')
    · obtain rfl := List.mem_singleton.1 hr'
      exact hE hx
  · exact (h.grps.bound.fr hfa (fun k _ e => .inl (h.mine k e))).mono hnew
  · rintro k (rfl | e)
    · exact .inl (h.mine _ (.inl rfl))
    · have h1 : b = k := by cases e; rfl
      exact .inr h1.symm
  · rintro k (h1 | rfl)
    · exact Nat.lt_of_lt_of_le (h.lt k h1) hfa.size
    · exact Nat.lt_of_lt_of_le (World.ownsRow.lt hown _ rfl).2 hfE.size
  · exact h.fw.later h.lat (hfa.mono (fun k _ e => h.mine k e))
  · refine h.lat.trans (fun k hk => ?_) h.fw.size
    exact hnew k hk
end Go.Proofs.YtanbfplcldloeaaGreatDoor

/- A region that draws its order: what holds behind every operation but the last. -/
namespace Go.Proofs.YtanbfplcldloeaaGreatDoor
open Go.RowKit
section
variable {P : Program} {ops : Array Oper} {Q : Exit → Act → World → Prop} {md : Region.Mode} {z : Nat} {S : World → Prop}
/-- Whatever order is picked; S holds behind each operation but z. -/
def wpAnyF (P : Program) (md : Region.Mode) (ops : Array Oper) (Q : Exit → Act → World → Prop) (z : Nat) (S : World → Prop) : Nat → Array Bool → Act → World → Prop
  | 0, listed, a, w => Region.ready md ops listed = [] ∧ Q .normal a w
  | fuel + 1, listed, a, w =>
    (Region.ready md ops listed = [] → Q .normal a w) ∧
    ∀ i ∈ Region.ready md ops listed, wpOp P ops Q i (fun a' w' => (i ≠ z → S w') ∧ wpAnyF P md ops Q z S fuel (listed.setIfInBounds i true) a' w') a w
theorem wpAny_of_F : ∀ (fuel : Nat) (listed : Array Bool) (a : Act) (w : World), wpAnyF P md ops Q z S fuel listed a w → wpAny P md ops Q fuel listed a w
  | 0, _, _, _, h => h
  | fuel + 1, _, _, _, h => ⟨h.1, fun i hi => wpOp_mono (fun a' w' h' => wpAny_of_F fuel _ a' w' h'.2) (h.2 i hi)⟩
/-- z waits for i, by way of at most n others. -/
def upB (md : Region.Mode) (ops : Array Oper) : Nat → Nat → Nat → Bool
  | 0, _, _ => false
  | n + 1, z, i => (ops[z]?.map fun o => o.after.any fun e => Region.binds md e && (e.on == i || upB md ops n e.on i)).getD false
/-- Whatever is done has all done that it waits for. -/
def Closed (md : Region.Mode) (ops : Array Oper) (listed : Array Bool) : Prop := ∀ (j : Nat) (o : Oper), ops[j]? = some o → listed.getD j true = true → ∀ e ∈ o.after, Region.binds md e = true → listed.getD e.on true = true
def closedB (md : Region.Mode) (ops : Array Oper) (listed : Array Bool) : Bool := (List.range ops.size).all fun j => !(listed.getD j true) || (ops[j]?.map fun o => o.after.all fun e => !Region.binds md e || listed.getD e.on true).getD true
theorem closedB_spec {listed : Array Bool} (h : closedB md ops listed = true) : Closed md ops listed := fun j o hj hl e he hb => by
  unfold closedB at h
  rw [List.all_eq_true] at h
  have hlt : j < ops.size := (Array.getElem?_eq_some_iff.1 hj).1
  have h1 := h j (List.mem_range.2 hlt)
  rw [hl, hj] at h1
  simp only [Bool.not_true, Bool.false_or, Option.map_some, Option.getD_some, Array.all_eq_true] at h1
  obtain ⟨k, hk, rfl⟩ := Array.getElem_of_mem he
  have h2 := h1 k hk
  rw [hb] at h2
  simpa using h2
theorem getD_set_true {listed : Array Bool} {k : Nat} (j : Nat) (h : listed.getD k true = true) : (listed.setIfInBounds j true).getD k true = true := by
  by_cases hjk : j = k
  · subst hjk
    by_cases hlt : j < listed.size
    · simp [hlt]
    · simp [Nat.not_lt.1 hlt]
  · rw [getD_set_ne true hjk]; exact h
theorem getD_ft {listed : Array Bool} {k : Nat} (h : listed.getD k false = true) : listed.getD k true = true := by
  by_cases hlt : k < listed.size
  · simpa [hlt] using h
  · simp [Nat.not_lt.1 hlt]
theorem Closed.step {listed : Array Bool} (h : Closed md ops listed) {j : Nat} (hj : j ∈ Region.ready md ops listed) : Closed md ops (listed.setIfInBounds j true) := fun k o hk hl e he hb => by
  obtain ⟨hun, oj, hoj, hall⟩ := mem_ready.1 hj
  by_cases hjk : j = k
  · subst hjk
    rw [hoj] at hk
    cases hk
    exact getD_set_true j (getD_ft (hall e he hb))
  · rw [getD_set_ne true hjk] at hl
    exact getD_set_true j (h k o hk hl e he hb)
theorem up_listed {listed : Array Bool} (hc : Closed md ops listed) {i : Nat} : ∀ (n z : Nat) (o : Oper), ops[z]? = some o → (∀ e ∈ o.after, Region.binds md e = true → listed.getD e.on true = true) → upB md ops n z i = true → listed.getD i true = true
  | 0, _, _, _, _, h => by cases h
  | n + 1, z, o, ho, ha, h => by
    unfold upB at h
    rw [ho] at h
    simp only [Option.map_some, Option.getD_some, Array.any_eq_true, Bool.and_eq_true, Bool.or_eq_true, beq_iff_eq] at h
    obtain ⟨k, hk, hb, h1⟩ := h
    have hl := ha _ (Array.getElem_mem hk) hb
    rcases h1 with h1 | h1
    · rw [← h1]; exact hl
    · cases n with
      | zero => cases h1
      | succ n =>
        have h2 := h1
        unfold upB at h2
        cases ho2 : ops[o.after[k].on]? with
        | none => rw [ho2] at h2; cases h2
        | some o2 => exact up_listed hc (n + 1) _ o2 ho2 (fun e he hbe => hc _ o2 ho2 hl e he hbe) h1
theorem wpAnyF_first {i n : Nat} {oi : Oper} {v : Value} (hi : ops[i]? = some oi) (hw : upB md ops n z i = true) (hsel : ∀ (j : Nat) (o : Oper) cs b, ops[j]? = some o → o.op ≠ .select cs b)
    (hQ : ∀ c a w, Q (.panic c) (a.put oi.dst v) w → Q (.panic c) a w) :
    ∀ (fuel : Nat) (listed : Array Bool) (a : Act) (w : World), Closed md ops listed →
      (∀ j oj, ops[j]? = some oj → j ≠ i → listed.getD j true = false → (∀ e ∈ oj.after, Region.binds md e = true → e.on ≠ i) → oi.apart ops oj = true) →
      i ∈ Region.ready md ops listed → YieldsIf P ops S oi v a → S w →
      wpAnyF P md ops Q z S fuel (listed.setIfInBounds i true) (a.put oi.dst v) w → wpAnyF P md ops Q z S (fuel + 1) listed a w
  | fuel, listed, a, w, hcl, hfree, hr, hy, hS, H => by
    refine ⟨fun h => absurd hr (by rw [h]; exact List.not_mem_nil), fun j hj => ?_⟩
    by_cases hji : j = i
    · subst hji
      exact hy.wpOp hi hS ⟨fun _ => hS, H⟩
    · match fuel, H with
      | 0, H =>
        have h0 := ready_mono hj hji
        rw [H.1] at h0
        exact absurd h0 List.not_mem_nil
      | fuel + 1, H =>
        obtain ⟨hun, oj, hoj, hall⟩ := mem_ready.1 hj
        have hno : ∀ e ∈ oj.after, Region.binds md e = true → e.on ≠ i := fun e he hb heq => by
          have h1 := hall e he hb
          have h2 := (mem_ready.1 hr).1
          rw [heq] at h1
          by_cases hlt : i < listed.size
          · simp [hlt] at h1 h2
            rw [h2] at h1
            cases h1
          · simp [Array.getElem?_eq_none (Nat.not_lt.1 hlt)] at h1
        have hjz : j ≠ z := fun e => by
          subst e
          have h1 := up_listed hcl n j oj hoj (fun e he hb => getD_ft (hall e he hb)) hw
          rw [(mem_ready.1 hr).1] at h1
          cases h1
        have hp := wpOp_putIf hoj (hfree j oj hoj hji hun hno) (fun cs b => hsel i oi cs b hi) (fun cs b => hsel j oj cs b hoj) hQ hy (H.2 j (ready_mono hj hji))
        refine wpOp_mono (fun a' w' h => ?_) hp
        obtain ⟨hy', hS', hH⟩ := h
        refine ⟨hS', wpAnyF_first hi hw hsel hQ fuel (listed.setIfInBounds j true) a' w' (hcl.step hj) (fun k ok hk hki hu hn => ?_) (ready_mono hr (Ne.symm hji)) hy' (hS' hjz) ?_⟩
        · refine hfree k ok hk hki ?_ hn
          by_cases hjk : j = k
          · subst hjk; exact hun
          · rw [getD_set_ne true hjk] at hu; exact hu
        · rw [Array.setIfInBounds_comm _ _ hji]
          exact hH
theorem wpAnyF_take {i : Nat} {oi : Oper} {v : Value} {fuel : Nat} {listed : Array Bool} {a : Act} {w : World} (hi : ops[i]? = some oi)
    (hs : Region.noSelect ops = true) (hf : (Region.free md ops listed i && upB md ops 9 z i && closedB md ops listed) = true) (hr : (Region.ready md ops listed).contains i = true)
    (hQ : ∀ c a w, Q (.panic c) (a.put oi.dst v) w → Q (.panic c) a w) (hy : YieldsIf P ops S oi v a) (hS : S w)
    (h : wpAnyF P md ops Q z S fuel (listed.setIfInBounds i true) (a.put oi.dst v) w) : wpAnyF P md ops Q z S (fuel + 1) listed a w := by
  rw [Bool.and_eq_true, Bool.and_eq_true] at hf
  exact wpAnyF_first hi hf.1.2 (Region.noSelect_spec hs) hQ fuel listed a w (closedB_spec hf.2) (Region.free_spec hi hf.1.1) (by simpa using hr) hy hS h
def AllReadyF (P : Program) (md : Region.Mode) (ops : Array Oper) (Q : Exit → Act → World → Prop) (z : Nat) (S : World → Prop) (fuel : Nat) (listed : Array Bool) (a : Act) (w : World) (rs : List Nat) : Prop :=
  ∀ i ∈ rs, wpOp P ops Q i (fun a' w' => (i ≠ z → S w') ∧ wpAnyF P md ops Q z S fuel (listed.setIfInBounds i true) a' w') a w
theorem AllReadyF.nil {fuel : Nat} {listed : Array Bool} {a : Act} {w : World} : AllReadyF P md ops Q z S fuel listed a w [] := fun _ h => by cases h
theorem AllReadyF.cons {fuel : Nat} {listed : Array Bool} {a : Act} {w : World} {i : Nat} {o : Oper} {rs : List Nat} (ho : ops[i]? = some o)
    (h : ∀ K' : Act → World → Prop, Shut (∀ a w, (i ≠ z → S w) → wpAnyF P md ops Q z S fuel (listed.setIfInBounds i true) a w → K' a w) → if Region.wanted o (yielded ops a.tmps) = true then Oper.wp P o a w K' Q else K' (a.put o.dst undef) w)
    (hs : AllReadyF P md ops Q z S fuel listed a w rs) : AllReadyF P md ops Q z S fuel listed a w (i :: rs) := fun j hj => by
  rcases List.mem_cons.1 hj with rfl | hj
  · exact wpOp_step ho (fun K' hK => h K' (fun a w hS hW => hK a w ⟨hS, hW⟩))
  · exact hs j hj
theorem wpAnyF_ready {rs : List Nat} {fuel : Nat} {listed : Array Bool} {a : Act} {w : World} (hr : Region.ready md ops listed = rs) (hne : rs ≠ [])
    (h : AllReadyF P md ops Q z S fuel listed a w rs) : wpAnyF P md ops Q z S (fuel + 1) listed a w :=
  ⟨fun h0 => absurd (hr ▸ h0) hne, hr ▸ h⟩
theorem wpAnyF_done {listed : Array Bool} {a : Act} {w : World} (hr : Region.ready md ops listed = []) (h : Q .normal a w) : ∀ fuel, wpAnyF P md ops Q z S fuel listed a w
  | 0 => ⟨hr, h⟩
  | fuel + 1 => ⟨fun _ => h, fun i hi => by rw [hr] at hi; cases hi⟩
theorem wp_region_F (z : Nat) {S : World → Prop} {id : Nat} {a : Act} {w : World} (hm : P.follows .mixedOrders = true)
    (h : wpAnyF P .any ops Q z S ops.size (Array.replicate ops.size false) a w.drew) : (Code.region id ops true).wp P Q a w :=
  wp_region_any hm (wpAny_of_F _ _ _ _ h)
end
end Go.Proofs.YtanbfplcldloeaaGreatDoor
