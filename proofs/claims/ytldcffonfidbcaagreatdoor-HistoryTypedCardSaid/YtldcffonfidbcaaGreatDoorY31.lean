/- A part of the proof for chapter 10: RightMap, HistSent, HistPush, HistSendP, OrdersG, Docs; no conditions. -/
import Derived.Test.YtldcffonfidbcaaGreatDoorY20
import Derived.Test.YtldcffonfidbcaaGreatDoorY30
import Derived.Test.YtldcffonfidbcaaGreatDoorY27
import Derived.Test.YtldcffonfidbcaaGreatDoorY23
import Derived.Test.YtldcffonfidbcaaGreatDoorY08
import Derived.Test.YtldcffonfidbcaaGreatDoorY24
import Derived.Deep.RegionLawGrows
import Derived.Test.YtldcffonfidbcaaGreatDoorY11
/- A step's map is a right one. -/
namespace Go.Proofs.YtldcffonfidbcaaGreatDoor
open Go.RowKit
theorem right1 (a o n : Int) (ha : 0 ≤ a) (ho : 0 ≤ o) (hn : 0 ≤ n) (h : a + o ≤ 65536) (h2 : n ≤ 65536) : rightP [⟨a, o, n⟩] = true := by
  unfold rightP rightF rightF badR
  simp
  omega
theorem right2 (a o n b p q : Int) (ha : 0 ≤ a) (ho : 0 ≤ o) (hn : 0 ≤ n) (h2 : n ≤ 65536) (hb : a + o ≤ b) (hp : 0 ≤ p) (hq : 0 ≤ q) (h : b + p ≤ 65536) (h3 : q ≤ 65536) : rightP [⟨a, o, n⟩, ⟨b, p, q⟩] = true := by
  unfold rightP rightF rightF rightF badR
  simp
  omega
theorem right_map {s : StepM} (h : stepF s = 0) : rightP (stepmapF s) = true := by
  unfold stepF at h
  split at h
  · simp at h
  · rename_i hlen
    split at h
    · rename_i hk
      rw [Bool.and_eq_true] at hk
      have hk := hk.1
      unfold kindOk at hk
      unfold stepmapF
      split at hk
      · rename_i h0
        rw [if_pos h0]
        simp only [okRep, ok0S, Bool.and_eq_true, decide_eq_true_eq] at hk
        exact right1 _ _ _ (by omega) (by omega) (by omega) (by omega) (by omega)
      · rename_i h0
        rw [if_neg h0]
        split at hk
        · rename_i h1
          rw [if_pos h1]
          simp only [okAro, aroS, ok0S, Bool.and_eq_true, decide_eq_true_eq] at hk
          exact right2 _ _ _ _ _ _ (by omega) (by omega) (by omega) (by omega) (by omega) (by omega) (by omega) (by omega) (by omega)
        · rename_i h1
          rw [if_neg h1]
          rfl
    · simp at h
theorem Rngs.bound {M : Nat → Prop} {w : World} {v : Value} {l : List Rng} (h : Rngs M w v l) : Rngs (fun k => M k ∨ w.heap.size ≤ k) w v l := by
  obtain ⟨A, c, rfl, hr⟩ := h
  exact ⟨A, c, rfl, hr.bound⟩
end Go.Proofs.YtldcffonfidbcaaGreatDoor

/- history.sent: a step through another one's map. -/
namespace Go.Proofs.YtldcffonfidbcaaGreatDoor
open Go.RowKit
def byMap (y : StepM) : OneM := ⟨if stepF y = 0 then stepmapF y else [], -1, none, 0⟩
def sentF (s y : StepM) : Option StepM := stepThru [byMap y] 0 s
def sentV (o : Option StepM) (v : Value) : Value := o.elim (.agg #[.int .i64 0, .int .i64 0, .int .i64 0, .int .i64 0, .int .i64 0, .int .i64 0, .slice none 0 0, .int .i64 0]) (fun x => .agg (x.cells v).toArray)
theorem byMap_right (y : StepM) : rightP (byMap y).l = true := by
  unfold byMap
  simp only
  split
  · rename_i h; exact right_map h
  · rfl
theorem stepThru_one (x : List Rng) (A : Option Addr) (c : Nat) (s : StepM) : stepThru [⟨x, -1, A, c⟩] 0 s = stepThru [⟨x, -1, none, 0⟩] 0 s := rfl
set_option maxRecDepth 100000 in
set_option maxHeartbeats 4000000 in
theorem sent_any (M M2 : Nat → Prop) (s y : StepM) (B C : Option Addr) (b c : Nat) (w : World) (hx : Rd M w B (tokC s.l)) (hy : Rd M2 w C (tokC y.l)) :
    Calls Tryz.prog 49 #[.agg (s.cells (.slice B s.l.length b)).toArray, .agg (y.cells (.slice C y.l.length c)).toArray] w fun e w' => e = .returned (.tuple #[sentV (sentF s y) (.slice B s.l.length b), .bool (sentF s y).isSome]) ∧ Fr Nob w w' := by
  have HRS := Lib.hid (hx.mono (M' := Nob) (fun _ h => h.elim))
  have HRY := Lib.hid (hy.mono (M' := Nob) (fun _ h => h.elim))
  obtain ⟨X, hX⟩ : ∃ X, (byMap y).l = X := ⟨_, rfl⟩
  have HSM := Lib.hid (fun (W : World) (h : Fr Nob w W) => stepmap_any Nob y C c W (HRY.out.fr h (fun _ _ h => h)))
  have HXR := Lib.hid (show rightP X = true by rw [← hX]; exact byMap_right y)
  have hX' : (if stepF y = 0 then stepmapF y else []) = X := hX
  have HST := Lib.hid (fun (N : Nat → Prop) (base m : Nat) (v : Value) (A : Option Addr) (c2 : Nat) (W : World) (hm : Mp N base W m v [⟨X, -1, A, c2⟩]) (h : Fr Nob w W) => remstep_any N Nob base m v [⟨X, -1, A, c2⟩] s B b 0 W hm (by show 1 ≤ 4096; omega) (HRS.out.fr h (fun _ _ h => h)))
  have HSF := Lib.hid (show ∀ A c2, stepThru [⟨X, -1, A, c2⟩] 0 s = sentF s y from fun A c2 => by rw [stepThru_one, sentF, byMap, hX'])
  simp only [hX'] at HSM
  clear hX hX' hx hy
  obtain ⟨sn, hsn⟩ : ∃ n, s.l.length = n := ⟨_, rfl⟩
  obtain ⟨yn, hyn⟩ : ∃ n, y.l.length = n := ⟨_, rfl⟩
  obtain ⟨E, hE⟩ : ∃ E, stepF y = E := ⟨_, rfl⟩
  simp only [hsn, hyn, hE] at HSM HST ⊢
  simp only [HSF.out] at HST
  obtain ⟨O, hO⟩ : ∃ O, sentF s y = O := ⟨_, rfl⟩
  simp only [hO] at HST ⊢
  clear HSF hO hE hsn hyn HRS HRY
  obtain ⟨k, f, t, gf, gt, ins, m, x⟩ := s
  obtain ⟨yk, yf, yt, ygf, ygt, yins, ym, yl⟩ := y
  simp only [StepM.cells] at HSM HST ⊢
  clear x yl
  go_enter Tryz.func49, Tryz.ntmps49
  go_upto_region 1 with (fail)
  obtain ⟨z, hz⟩ : ∃ z, w.heap.size + 1 + 1 = z := ⟨_, rfl⟩
  obtain ⟨W0, hW0⟩ : ∃ W, ((w.alloc (.cells #[.int .i64 k, .int .i64 f, .int .i64 t, .int .i64 gf, .int .i64 gt, .int .i64 ins, .slice B sn b, .int .i64 m] 32)).alloc (.cells #[.int .i64 yk, .int .i64 yf, .int .i64 yt, .int .i64 ygf, .int .i64 ygt, .int .i64 yins, .slice C yn c, .int .i64 ym] 32)).alloc (.cells #[.int .i64 0, .int .i64 0, .int .i64 0, .int .i64 0, .int .i64 0, .int .i64 0, .slice none 0 0, .int .i64 0] 32) = W := ⟨_, rfl⟩
  have HF0 := Lib.hid (show Fr Nob w W0 by rw [← hW0]; exact (((Fr.refl _ _).alloc _).alloc _).alloc _)
  have HS0 := Lib.hid (show Blk W0 w.heap.size [.int .i64 k, .int .i64 f, .int .i64 t, .int .i64 gf, .int .i64 gt, .int .i64 ins, .slice B sn b, .int .i64 m] 32 by rw [← hW0]; exact ((Blk.new _ _ _).alloc _).alloc _)
  have HY0 := Lib.hid (show Blk W0 (w.heap.size + 1) [.int .i64 yk, .int .i64 yf, .int .i64 yt, .int .i64 ygf, .int .i64 ygt, .int .i64 yins, .slice C yn c, .int .i64 ym] 32 by rw [← hW0]; exact (Blk.new_at (w.alloc _) _ _ (w.heap.size + 1) (by simp)).alloc _)
  have HZ0 := Lib.hid (show Blk W0 z [.int .i64 0, .int .i64 0, .int .i64 0, .int .i64 0, .int .i64 0, .int .i64 0, .slice none 0 0, .int .i64 0] 32 by rw [← hW0, ← hz]; exact Blk.new_at ((w.alloc _).alloc _) _ _ (w.heap.size + 1 + 1) (by simp))
  have HZL := Lib.hid (show w.heap.size ≤ z by omega)
  rw [hW0, hz]
  clear hW0 hz
  obtain ⟨d0, d1, d2, d3, d4, d5, d6, d7, dl⟩ := HY0.out.c8
  go_wp2_with fail
  refine (HSM.out W0 HF0.out).mono ?_
  clear d0 d1 d2 d3 d4 d5 d6 d7 dl
  rintro e w1 ⟨v, rfl, ⟨A1, c1, rfl, hr⟩, hF1⟩
  have HF1 := Lib.hid (HF0.out.same hF1)
  have HF01 := Lib.hid hF1
  have HR1 := Lib.hid (hr.mono (M' := Nob) (fun _ h => h.elim))
  clear hF1 hr
  go_wp2_with fail
  refine (posnew_any w1).mono ?_
  rintro e w2 ⟨rfl, hw2⟩
  obtain ⟨m0, hm0⟩ : ∃ n, w1.heap.size = n := ⟨_, rfl⟩
  have HF12 := Lib.hid (show Fr Nob w1 w2 by rw [hw2]; exact (Fr.refl _ _).alloc _)
  have HMP := Lib.hid (show Mp (One m0) m0 w2 m0 (.slice none 0 0) [] from ⟨by rw [hw2, ← hm0]; exact Blk.new _ _ _, Nat.le_refl _, World.ownsRow_nil _ _ _ _, fun e => (by cases e), fun k hk => (by rcases hk with h | h; exact h; cases h), fun _ h => (by cases h), fun _ h => (by cases h), fun _ h => (by cases h)⟩)
  have HM0 := Lib.hid (show w.heap.size ≤ m0 by rw [← hm0]; exact HF1.out.size)
  have HMZ := Lib.hid (show w.heap.size + 1 + 1 ≤ z + 0 ∨ True from .inr trivial)
  have HZM := Lib.hid (show z < m0 by rw [← hm0]; exact (HZ0.out.fr HF01.out (fun h => h)).lt)
  have HSM0 := Lib.hid (show w.heap.size < m0 by rw [← hm0]; exact (HS0.out.fr HF01.out (fun h => h)).lt)
  rw [hm0]
  clear hw2 hm0
  go_wp2_with fail
  refine (posadd_any (One m0) Nob m0 m0 (.slice none 0 0) [] X A1 c1 w2 HMP.out (HR1.out.fr HF12.out (fun _ _ h => h.elim)) HXR.out (by show 0 < 4096; omega)).mono ?_
  rintro e w3 ⟨rfl, v3, A3, c3, hm3, hF3, _⟩
  have HF23 := Lib.hid (show Fr (One m0) w2 w3 from hF3.mono (fun k _ h => by rcases h with h | h; exact h; cases h))
  have HM3 := Lib.hid hm3
  have HF3 := Lib.hid (show Fr Nob w w3 from (HF1.out.same HF12.out).trans HF23.out (fun k hk e => by have e' : k = m0 := e; have := HM0.out; omega))
  have HSA := Lib.hid ((((HS0.out.fr HF01.out (fun h => h)).fr HF12.out (fun h => h)).fr HF23.out (fun e => by have e' : w.heap.size = m0 := e; have := HSM0.out; omega)))
  have HZA := Lib.hid ((((HZ0.out.fr HF01.out (fun h => h)).fr HF12.out (fun h => h)).fr HF23.out (fun e => by have e' : z = m0 := e; have := HZM.out; omega)))
  clear hm3 hF3
  obtain ⟨d0, d1, d2, d3, d4, d5, d6, d7, dl⟩ := HSA.out.c8
  go_wp2_with fail
  refine (HST.out _ m0 m0 v3 A3 c3 w3 HM3.out HF3.out).mono ?_
  clear d0 d1 d2 d3 d4 d5 d6 d7 dl HST HSM
  rintro e w4 ⟨rfl, hF4⟩
  have HF4 := Lib.hid (HF3.out.same hF4)
  have HZ4 := Lib.hid (HZA.out.fr hF4 (fun h => h))
  clear hF4
  obtain ⟨rk, rf, rt, rgf, rgt, rins, RA, rn, rc, rm, hr1, hr2⟩ : ∃ rk rf rt rgf rgt rins RA rn rc rm, (O.elim (.agg (zeroStep.cells (.slice none 0 0)).toArray) (fun x => .agg (x.cells (.slice B sn b)).toArray) : Value) = .agg #[.int .i64 rk, .int .i64 rf, .int .i64 rt, .int .i64 rgf, .int .i64 rgt, .int .i64 rins, .slice RA rn rc, .int .i64 rm] ∧ sentV O (.slice B sn b) = .agg #[.int .i64 rk, .int .i64 rf, .int .i64 rt, .int .i64 rgf, .int .i64 rgt, .int .i64 rins, .slice RA rn rc, .int .i64 rm] := by
    cases O with
    | none => exact ⟨0, 0, 0, 0, 0, 0, none, 0, 0, 0, rfl, rfl⟩
    | some x => exact ⟨_, _, _, _, _, _, _, _, _, _, rfl, rfl⟩
  obtain ⟨bo, hbo⟩ : ∃ b, O.isSome = b := ⟨_, rfl⟩
  simp only [StepM.cells] at hr1
  rw [hr1, hbo]
  have HR2 := Lib.hid hr2
  have HBO := Lib.hid hbo
  clear hr1 hr2 hbo
  obtain ⟨b0, b1, b2, b3, b4, b5, b6, b7, bl⟩ := HZ4.out.c8
  obtain ⟨z0, z1, z2, z3, z4, z5, z6, z7⟩ := HZ4.out.z8
  go_wp2_with fail
  refine ret8 (v := .tuple #[.agg #[.int .i64 rk, .int .i64 rf, .int .i64 rt, .int .i64 rgf, .int .i64 rgt, .int .i64 rins, .slice RA rn rc, .int .i64 rm], .bool bo]) HZ4.out HF4.out HZL.out rfl (fun WE z0 z1 z2 z3 z4 z5 z6 z7 => by simp [results, go_sem, z0, z1, z2, z3, z4, z5, z6, z7]) (fun WE hFE => ?_)
  exact ⟨by rw [HR2.out, HBO.out], hFE⟩
end Go.Proofs.YtldcffonfidbcaaGreatDoor

/- stack.push: one more step on a stack. -/
namespace Go.Proofs.YtldcffonfidbcaaGreatDoor
open Go.RowKit
theorem infoStep : (Tryz.prog.info? 32).map (fun i => (i.zero, i.size, i.bytes)) = some (some (.agg #[.int .i64 0, .int .i64 0, .int .i64 0, .int .i64 0, .int .i64 0, .int .i64 0, .slice none 0 0, .int .i64 0]), 8, 80) := by kernel_rfl
theorem elemStk : Tryz.prog.elem 57 = 32 := by kernel_rfl
theorem sizeStep (w : World) : (sizeOf 32).run Tryz.prog w = .ok 8 w := by
  obtain ⟨i0, hi, hz0, hz1, hz2⟩ := info_parts infoStep
  simp [sizeOf, typeInfo, hi, hz1]
theorem add_zero' (a : Addr) : a.add 0 = a := by unfold Addr.add; rw [if_pos rfl]
theorem cut_stack (A : Option Addr) (n c m : Nat) (h : m ≤ c) (w : World) :
    (Instr.slice 57 (.slice A n c) none (some (.int .i64 (m : Int))) (some (.int .i64 (m : Int)))).run Tryz.prog w = .ok (.slice A m m) w := by
  rw [run_slice_hm (P := Tryz.prog) (w := w) (t := 57) (a := A) (len := n) (cap := c) (ht := by rw [elemStk]; exact Tryz.underlying57) .i64 .i64 m m (by omega) (by omega) (by omega), elemStk, sizeStep]
  have e : A.map (fun x => x.add 0) = A := by cases A <;> simp [add_zero']
  simp [Result.andThen, sliced, e]
theorem stepC_len (L : List StepA) : (stepC L).length = L.length * 8 := flat_len StepA.cells_len L
attribute [local go_sem high] cut_stack
set_option maxRecDepth 100000 in
set_option maxHeartbeats 4000000 in
theorem push_any (N : Nat → Prop) (A : Option Addr) (c : Nat) (L : List StepA) (x : StepA) (most : Nat) (w : World) (hk : Stk N w A c L) (hx : Rd N w x.B (tokC x.s.l)) (hb : x.s.l.length ≤ x.b) (hm : most = 0 ∨ L.length + 1 ≤ most) (hm2 : most ≤ 1000) (hn : L.length ≤ 1000) (hq : ∀ k, N k → k < w.heap.size) :
    Calls Tryz.prog 29 #[.slice A L.length c, .agg x.cells.toArray, .int .i64 most] w fun e w' => ∃ A' c', e = .returned (.slice A' (L.length + 1) c') ∧ Stk N w' A' c' (L ++ [x]) ∧ Fr Nob w w' := by
  obtain ⟨i0, hi, hz0, hz1, hz2⟩ := info_parts infoStep
  have HK := Lib.hid hk
  have HX := Lib.hid hx
  have HB := Lib.hid hb
  have HQ := Lib.hid hq
  have hcap := hk.cap
  have hnil := hk.nil
  have HSL := Lib.hid (stepC_len L)
  have HXS : Hid (∀ (w' : World) (A' : Option Addr) (c' : Nat), Fr Nob w w' → Rd N w' A' (stepC L ++ x.cells) → L.length + 1 ≤ c' → A' ≠ none → Stk N w' A' c' (L ++ [x])) := Lib.hid fun w' A' c' hf hr hc ha => by
    refine ⟨⟨by simpa [stepC] using hr, fun y hy => ?_, fun y hy => ?_⟩, by simpa using hc, fun h => absurd h ha⟩
    · rcases List.mem_append.1 hy with h | h
      · exact (hk.rows.each y h).fr hf (fun _ _ h => h.elim)
      · rw [List.mem_singleton] at h
        rw [h]
        exact hx.fr hf (fun _ _ h => h.elim)
    · rcases List.mem_append.1 hy with h | h
      · exact hk.rows.cap y h
      · rw [List.mem_singleton] at h
        rw [h]
        exact hb
  clear hk hx hb
  obtain ⟨⟨k, f, t, gf, gt, ins, m, x⟩, B, b⟩ := x
  simp only [StepA.cells, StepM.cells] at *
  obtain ⟨xn, hxn⟩ : ∃ xn, x.length = xn := ⟨_, rfl⟩
  rw [hxn] at HXS ⊢
  clear hxn HX HB
  obtain ⟨ln, hln⟩ : ∃ ln, L.length = ln := ⟨_, rfl⟩
  have HLN := Lib.hid hln
  rw [hln] at hm hn hcap HSL HXS ⊢
  clear hln
  go_enter Tryz.func29, Tryz.ntmps29
  go_upto_region 1 with (fail)
  obtain ⟨W, hW⟩ : ∃ W, w.alloc (.cells #[.int .i64 k, .int .i64 f, .int .i64 t, .int .i64 gf, .int .i64 gt, .int .i64 ins, .slice B xn b, .int .i64 m] 32) = W := ⟨_, rfl⟩
  have HF := Lib.hid (show Fr Nob w W by rw [← hW]; exact (Fr.refl _ _).alloc _)
  have HS := Lib.hid (show Blk W w.heap.size [.int .i64 k, .int .i64 f, .int .i64 t, .int .i64 gf, .int .i64 gt, .int .i64 ins, .slice B xn b, .int .i64 m] 32 by rw [← hW]; exact Blk.new _ _ _)
  rw [hW]
  clear hW
  have KS := Lib.hid (show ∀ W' : World, Fr Nob W W' → (fun W' : World => W'.cell? ⟨w.heap.size, 0, none⟩ = some (.int .i64 k) ∧ W'.cell? ⟨w.heap.size, 1, none⟩ = some (.int .i64 f) ∧ W'.cell? ⟨w.heap.size, 2, none⟩ = some (.int .i64 t) ∧ W'.cell? ⟨w.heap.size, 3, none⟩ = some (.int .i64 gf) ∧ W'.cell? ⟨w.heap.size, 4, none⟩ = some (.int .i64 gt) ∧ W'.cell? ⟨w.heap.size, 5, none⟩ = some (.int .i64 ins) ∧ W'.cell? ⟨w.heap.size, 6, none⟩ = some (.slice B xn b) ∧ W'.cell? ⟨w.heap.size, 7, none⟩ = some (.int .i64 m)) W' from fun W' hF' => by
    have h := HS.out.fr hF' (fun h => h)
    exact ⟨h.cell 0, h.cell 1, h.cell 2, h.cell 3, h.cell 4, h.cell 5, h.cell 6, h.cell 7⟩)
  refine wp_region_held_drew (S := fun W' : World => W'.cell? ⟨w.heap.size, 0, none⟩ = some (.int .i64 k) ∧ W'.cell? ⟨w.heap.size, 1, none⟩ = some (.int .i64 f) ∧ W'.cell? ⟨w.heap.size, 2, none⟩ = some (.int .i64 t) ∧ W'.cell? ⟨w.heap.size, 3, none⟩ = some (.int .i64 gf) ∧ W'.cell? ⟨w.heap.size, 4, none⟩ = some (.int .i64 gt) ∧ W'.cell? ⟨w.heap.size, 5, none⟩ = some (.int .i64 ins) ∧ W'.cell? ⟨w.heap.size, 6, none⟩ = some (.slice B xn b) ∧ W'.cell? ⟨w.heap.size, 7, none⟩ = some (.int .i64 m)) (by kernel_rfl) (KS.out _ (Fr.refl _ _).drew) (fun _ => ?_)
  have HFD := Lib.hid ((Fr.refl Nob W).drew)
  generalize W.drew = wd at HFD ⊢
  have HSD := Lib.hid (KS.out wd HFD.out)
  refine take_by (i := 0) (v := .slice A ln c) rfl HSD.out ?_
  refine take_by (i := 1) (v := .slice A ln c) rfl HSD.out ?_
  refine take_by (i := 2) (v := .int .i64 ln) rfl HSD.out ?_
  refine take_by (i := 3) (v := .slice A ln c) rfl HSD.out ?_
  refine take_by (i := 4) (v := .int .i64 ln) rfl HSD.out ?_
  refine take_by (i := 5) (v := .slice A ln ln) rfl HSD.out ?_
  refine take_by (i := 6) (v := .agg #[.int .i64 k, .int .i64 f, .int .i64 t, .int .i64 gf, .int .i64 gt, .int .i64 ins, .slice B xn b, .int .i64 m]) rfl HSD.out ?_
  refine ready1 7 rfl (fun K hK => ?_)
  go_simp
  have HFD2 := Lib.hid (show Fr Nob W (wd.alloc (.cells #[.int .i64 k, .int .i64 f, .int .i64 t, .int .i64 gf, .int .i64 gt, .int .i64 ins, .slice B xn b, .int .i64 m] 32)) from HFD.out.alloc _)
  have HN2 := Lib.hid (show Blk (wd.alloc (.cells #[.int .i64 k, .int .i64 f, .int .i64 t, .int .i64 gf, .int .i64 gt, .int .i64 ins, .slice B xn b, .int .i64 m] 32)) wd.heap.size [.int .i64 k, .int .i64 f, .int .i64 t, .int .i64 gf, .int .i64 gt, .int .i64 ins, .slice B xn b, .int .i64 m] 32 from Blk.new _ _ _)
  refine hK.out _ _ (KS.out _ HFD2.out) (fun _ => ?_)
  clear hK K
  generalize hW2 : wd.alloc (.cells #[.int .i64 k, .int .i64 f, .int .i64 t, .int .i64 gf, .int .i64 gt, .int .i64 ins, .slice B xn b, .int .i64 m] 32) = W2 at HFD2 HN2 ⊢
  clear hW2
  try simp only [List.getElem_toArray, List.getElem_cons_succ, List.getElem_cons_zero, Act.put, List.setIfInBounds_toArray, List.set_cons_zero, List.set_cons_succ]
  have HR2 := Lib.hid (HK.out.rows.row.fr (HF.out.same HFD2.out) (fun _ _ h => h.elim))
  have hoc : ∀ u ∈ ([.int .i64 k, .int .i64 f, .int .i64 t, .int .i64 gf, .int .i64 gt, .int .i64 ins, .slice B xn b, .int .i64 m] : List Value), u.oneCell' = true := fun u hu => by
    simp only [List.mem_cons, List.not_mem_nil, or_false] at hu
    rcases hu with rfl | rfl | rfl | rfl | rfl | rfl | rfl | rfl <;> rfl
  have HOC := Lib.hid hoc
  have HOLD := Lib.hid (show ∀ b', A = some b' → ∀ j u, (stepC L)[j]? = some u → W2.cell? (b'.add j) = some u from fun b' hb' j u hu => by
    obtain ⟨ad, e, _, hc⟩ := HR2.out (by intro e; rw [e] at hu; simp at hu)
    rw [hb'] at e
    injection e with e
    rw [e]
    exact hc j u hu)
  have HNIL := Lib.hid (show A = none → ln = 0 ∧ ln = 0 from fun h => by have h1 := hnil h; omega)
  clear hoc hnil
  refine ready1 8 rfl (fun K hK => ?_)
  refine step_append_grows rfl _ _ 57 rfl 32 i0 _ 8 80 Tryz.underlying57 hi hz0 hz1 hz2 rfl (by decide) A ln ln (stepC L) rfl HNIL.out HSL.out HOLD.out ⟨wd.heap.size, 0, none⟩ 1 1 [.int .i64 k, .int .i64 f, .int .i64 t, .int .i64 gf, .int .i64 gt, .int .i64 ins, .slice B xn b, .int .i64 m] rfl rfl (fun j u hu => by rw [add_lit]; exact (HN2.out.cell j).trans hu) HOC.out (by omega) (by simp only [maxLen]; omega) (by omega) ?_
  intro v' w3 hown hg3
  obtain ⟨g, cap, rfl, hg1, hg2⟩ := hown.form (by omega)
  have hf3 : Fr Nob W2 w3 := (Fr.of_grown hg3).mono (fun k _ e => by cases e)
  obtain ⟨A', c', e', hc', hr'⟩ := Rd.of_own (M := N) hown (fun k e h => by have h1 := (own_base hown k e).1; have h3 := HQ.out k h; have h4 := HF.out.size; have h5 := HFD2.out.size; omega)
  injection e' with e1 e2 e3
  subst e1 e3
  have HF3 := Lib.hid ((HF.out.same HFD2.out).same hf3)
  have HFW3 := Lib.hid (HFD2.out.same hf3)
  have HR3 := Lib.hid hr'
  have HC3 := Lib.hid hc'
  clear hown hg3 hf3 hr' hg1 hg2
  refine hK.out _ _ (KS.out _ HFW3.out) (fun _ => ?_)
  clear hK K
  refine take_by (i := 9) (v := .slice (some ⟨g, 0, none⟩) (ln + 1) cap) rfl (KS.out _ HFW3.out) ?_
  refine done_by ?_
  clear hc'
  rcases hm with rfl | hm
  · go_wp2_with fail
    go_ret
    exact ⟨some ⟨g, 0, none⟩, cap, rfl, HXS.out w3 _ _ HF3.out HR3.out HC3.out (by simp), HF3.out⟩
  · go_wp2_with fail
    go_ret
    exact ⟨some ⟨g, 0, none⟩, cap, rfl, HXS.out w3 _ _ HF3.out HR3.out HC3.out (by simp), HF3.out⟩
end Go.Proofs.YtldcffonfidbcaaGreatDoor

/- A stack that is sent through a step: in plain words. -/
namespace Go.Proofs.YtldcffonfidbcaaGreatDoor
open Go.RowKit
/-- Steps, the top first, through a step; how many are lost. -/
def sendGo : List StepA → StepM → List StepA × Nat
  | [], _ => ([], 0)
  | x :: r, y =>
    match sentF x.s y with
    | none => ((sendGo r y).1, (sendGo r y).2 + 1)
    | some s' =>
      match sentF y x.s with
      | some y' => (⟨s', x.B, x.b⟩ :: (sendGo r y').1, (sendGo r y').2)
      | none => (⟨s', x.B, x.b⟩ :: r, 0)
theorem thru_l {ms : List OneM} {fr : Int} {s x : StepM} (h : stepThru ms fr s = some x) : x.l = s.l := by
  unfold stepThru at h
  split at h
  · cases h
  · simp only at h
    split at h <;> (split at h <;> first | (cases h; done) | (injection h with h; rw [← h]) | (split at h <;> first | (cases h; done) | (injection h with h; rw [← h])))
theorem sendGo_len : ∀ (r : List StepA) (y : StepM), (sendGo r y).1.length + (sendGo r y).2 = r.length
  | [], _ => rfl
  | x :: r, y => by
    unfold sendGo
    split
    · simp only [List.length_cons]; have := sendGo_len r y; omega
    · split
      · rename_i y' _; simp only [List.length_cons]; have := sendGo_len r y'; omega
      · rfl
theorem cut_stackh (A : Option Addr) (n c m : Nat) (h : m ≤ c) (w : World) :
    (Instr.slice 57 (.slice A n c) none (some (.int .i64 (m : Int))) none).run Tryz.prog w = .ok (.slice A m c) w := by
  rw [run_slice_h (P := Tryz.prog) (w := w) (t := 57) (a := A) (len := n) (cap := c) (ht := by rw [elemStk]; exact Tryz.underlying57) .i64 m (by omega) (by omega), elemStk, sizeStep]
  have e : A.map (fun x => x.add 0) = A := by cases A <;> simp [add_zero']
  simp [Result.andThen, sliced, e]
theorem stepC_oneC (L : List StepA) : ∀ u ∈ stepC L, u.oneCell' = true := fun u hu => by
  obtain ⟨x, _, hx⟩ := List.mem_flatMap.1 hu
  simp only [StepA.cells, StepM.cells, List.mem_cons, List.not_mem_nil, or_false] at hx
  rcases hx with rfl | rfl | rfl | rfl | rfl | rfl | rfl | rfl <;> rfl
end Go.Proofs.YtldcffonfidbcaaGreatDoor

/- A region that draws its order: what holds until one operation (a store) is done, which waits for whatever leans on it. -/
namespace Go.Proofs.YtldcffonfidbcaaGreatDoor
open Go.RowKit
section
variable {P : Program} {ops : Array Oper} {Q : Exit → Act → World → Prop} {md : Region.Mode} {z : Nat} {S : World → Prop}
/-- Whatever order is picked; S holds until z is done. -/
def wpAnyG (P : Program) (md : Region.Mode) (ops : Array Oper) (Q : Exit → Act → World → Prop) (z : Nat) (S : World → Prop) : Nat → Array Bool → Act → World → Prop
  | 0, listed, a, w => Region.ready md ops listed = [] ∧ Q .normal a w
  | fuel + 1, listed, a, w =>
    (Region.ready md ops listed = [] → Q .normal a w) ∧
    ∀ i ∈ Region.ready md ops listed, wpOp P ops Q i (fun a' w' => ((listed.setIfInBounds i true).getD z true = false → S w') ∧ wpAnyG P md ops Q z S fuel (listed.setIfInBounds i true) a' w') a w
theorem wpAny_of_G : ∀ (fuel : Nat) (listed : Array Bool) (a : Act) (w : World), wpAnyG P md ops Q z S fuel listed a w → wpAny P md ops Q fuel listed a w
  | 0, _, _, _, h => h
  | fuel + 1, _, _, _, h => ⟨h.1, fun i hi => wpOp_mono (fun a' w' h' => wpAny_of_G fuel _ a' w' h'.2) (h.2 i hi)⟩
theorem unlisted {listed : Array Bool} (hc : Closed md ops listed) {n i : Nat} (hw : upB md ops n z i = true) (hi : listed.getD i true = false) : listed.getD z true = false := by
  cases hz : listed.getD z true with
  | false => rfl
  | true =>
    cases n with
    | zero => cases hw
    | succ n =>
      have hw' := hw
      unfold upB at hw
      cases ho : ops[z]? with
      | none => rw [ho] at hw; cases hw
      | some o =>
        have := up_listed hc (n + 1) z o ho (fun e he hb => hc z o ho hz e he hb) hw'
        rw [hi] at this
        cases this
theorem wpAnyG_first {i n : Nat} {oi : Oper} {v : Value} (hi : ops[i]? = some oi) (hw : upB md ops n z i = true) (hsel : ∀ (j : Nat) (o : Oper) cs b, ops[j]? = some o → o.op ≠ .select cs b)
    (hQ : ∀ c a w, Q (.panic c) (a.put oi.dst v) w → Q (.panic c) a w) :
    ∀ (fuel : Nat) (listed : Array Bool) (a : Act) (w : World), Closed md ops listed →
      (∀ j oj, ops[j]? = some oj → j ≠ i → listed.getD j true = false → (∀ e ∈ oj.after, Region.binds md e = true → e.on ≠ i) → oi.apart ops oj = true) →
      i ∈ Region.ready md ops listed → YieldsIf P ops S oi v a → S w →
      wpAnyG P md ops Q z S fuel (listed.setIfInBounds i true) (a.put oi.dst v) w → wpAnyG P md ops Q z S (fuel + 1) listed a w
  | fuel, listed, a, w, hcl, hfree, hr, hy, hS, H => by
    refine ⟨fun h => absurd hr (by rw [h]; exact List.not_mem_nil), fun j hj => ?_⟩
    by_cases hji : j = i
    · subst hji
      exact hy.wpOp hi hS ⟨fun _ => hS, H⟩
    · match fuel, H with
      | 0, H =>
        have h0 := ready_mono hj hji
        rw [H.1] at h0
        exact absurd h0 List.not_mem_nil
      | fuel + 1, H =>
        obtain ⟨hun, oj, hoj, hall⟩ := mem_ready.1 hj
        have hno : ∀ e ∈ oj.after, Region.binds md e = true → e.on ≠ i := fun e he hb heq => by
          have h1 := hall e he hb
          have h2 := (mem_ready.1 hr).1
          rw [heq] at h1
          by_cases hlt : i < listed.size
          · simp [hlt] at h1 h2
            rw [h2] at h1
            cases h1
          · simp [Array.getElem?_eq_none (Nat.not_lt.1 hlt)] at h1
        have hzl : (listed.setIfInBounds j true).getD z true = false := unlisted (hcl.step hj) hw (by rw [getD_set_ne true hji]; exact (mem_ready.1 hr).1)
        have hp := wpOp_putIf hoj (hfree j oj hoj hji hun hno) (fun cs b => hsel i oi cs b hi) (fun cs b => hsel j oj cs b hoj) hQ hy (H.2 j (ready_mono hj hji))
        refine wpOp_mono (fun a' w' h => ?_) hp
        obtain ⟨hy', hS', hH⟩ := h
        have hjz : z ≠ i := fun e => by
          subst e
          have h1 := up_listed hcl n z oi hi (fun e he hb => by
            obtain ⟨_, o', ho', hall'⟩ := mem_ready.1 hr
            rw [hi] at ho'
            cases ho'
            exact getD_ft (hall' e he hb)) hw
          rw [(mem_ready.1 hr).1] at h1
          cases h1
        have hSw : S w' := hS' (by rw [Array.setIfInBounds_comm _ _ (Ne.symm hji), getD_set_ne true (Ne.symm hjz)]; exact hzl)
        refine ⟨fun _ => hSw, wpAnyG_first hi hw hsel hQ fuel (listed.setIfInBounds j true) a' w' (hcl.step hj) (fun k ok hk hki hu hn => ?_) (ready_mono hr (Ne.symm hji)) hy' hSw ?_⟩
        · refine hfree k ok hk hki ?_ hn
          by_cases hjk : j = k
          · subst hjk; exact hun
          · rw [getD_set_ne true hjk] at hu; exact hu
        · rw [Array.setIfInBounds_comm _ _ hji]
          exact hH
theorem wpAnyG_take {i : Nat} {oi : Oper} {v : Value} {fuel : Nat} {listed : Array Bool} {a : Act} {w : World} (hi : ops[i]? = some oi)
    (hs : Region.noSelect ops = true) (hf : (Region.free md ops listed i && upB md ops 9 z i && closedB md ops listed) = true) (hr : (Region.ready md ops listed).contains i = true)
    (hQ : ∀ c a w, Q (.panic c) (a.put oi.dst v) w → Q (.panic c) a w) (hy : YieldsIf P ops S oi v a) (hS : S w)
    (h : wpAnyG P md ops Q z S fuel (listed.setIfInBounds i true) (a.put oi.dst v) w) : wpAnyG P md ops Q z S (fuel + 1) listed a w := by
  rw [Bool.and_eq_true, Bool.and_eq_true] at hf
  exact wpAnyG_first hi hf.1.2 (Region.noSelect_spec hs) hQ fuel listed a w (closedB_spec hf.2) (Region.free_spec hi hf.1.1) (by simpa using hr) hy hS h
def AllReadyG (P : Program) (md : Region.Mode) (ops : Array Oper) (Q : Exit → Act → World → Prop) (z : Nat) (S : World → Prop) (fuel : Nat) (listed : Array Bool) (a : Act) (w : World) (rs : List Nat) : Prop :=
  ∀ i ∈ rs, wpOp P ops Q i (fun a' w' => ((listed.setIfInBounds i true).getD z true = false → S w') ∧ wpAnyG P md ops Q z S fuel (listed.setIfInBounds i true) a' w') a w
theorem AllReadyG.nil {fuel : Nat} {listed : Array Bool} {a : Act} {w : World} : AllReadyG P md ops Q z S fuel listed a w [] := fun _ h => by cases h
theorem AllReadyG.cons {fuel : Nat} {listed : Array Bool} {a : Act} {w : World} {i : Nat} {o : Oper} {rs : List Nat} (ho : ops[i]? = some o)
    (h : ∀ K' : Act → World → Prop, Shut (∀ a w, ((listed.setIfInBounds i true).getD z true = false → S w) → wpAnyG P md ops Q z S fuel (listed.setIfInBounds i true) a w → K' a w) → if Region.wanted o (yielded ops a.tmps) = true then Oper.wp P o a w K' Q else K' (a.put o.dst undef) w)
    (hs : AllReadyG P md ops Q z S fuel listed a w rs) : AllReadyG P md ops Q z S fuel listed a w (i :: rs) := fun j hj => by
  rcases List.mem_cons.1 hj with rfl | hj
  · exact wpOp_step ho (fun K' hK => h K' (fun a w hS hW => hK a w ⟨hS, hW⟩))
  · exact hs j hj
theorem wpAnyG_ready {rs : List Nat} {fuel : Nat} {listed : Array Bool} {a : Act} {w : World} (hr : Region.ready md ops listed = rs) (hne : rs ≠ [])
    (h : AllReadyG P md ops Q z S fuel listed a w rs) : wpAnyG P md ops Q z S (fuel + 1) listed a w :=
  ⟨fun h0 => absurd (hr ▸ h0) hne, hr ▸ h⟩
/-- .. one that z need not wait for, and that yields v in every world. -/
theorem wpAnyG_firstP {i : Nat} {oi : Oper} {v : Value} (hi : ops[i]? = some oi) (hsel : ∀ (j : Nat) (o : Oper) cs b, ops[j]? = some o → o.op ≠ .select cs b)
    (hQ : ∀ c a w, Q (.panic c) (a.put oi.dst v) w → Q (.panic c) a w) (hiz : i ≠ z) :
    ∀ (fuel : Nat) (listed : Array Bool) (a : Act) (w : World),
      (∀ j oj, ops[j]? = some oj → j ≠ i → listed.getD j true = false → (∀ e ∈ oj.after, Region.binds md e = true → e.on ≠ i) → oi.apart ops oj = true) →
      i ∈ Region.ready md ops listed → YieldsIf P ops (fun _ => True) oi v a → (listed.getD z true = false → S w) →
      wpAnyG P md ops Q z S fuel (listed.setIfInBounds i true) (a.put oi.dst v) w → wpAnyG P md ops Q z S (fuel + 1) listed a w
  | fuel, listed, a, w, hfree, hr, hy, hS, H => by
    refine ⟨fun h => absurd hr (by rw [h]; exact List.not_mem_nil), fun j hj => ?_⟩
    by_cases hji : j = i
    · subst hji
      exact hy.wpOp hi trivial ⟨fun h => hS (by rw [getD_set_ne true hiz] at h; exact h), H⟩
    · match fuel, H with
      | 0, H =>
        have h0 := ready_mono hj hji
        rw [H.1] at h0
        exact absurd h0 List.not_mem_nil
      | fuel + 1, H =>
        obtain ⟨hun, oj, hoj, hall⟩ := mem_ready.1 hj
        have hno : ∀ e ∈ oj.after, Region.binds md e = true → e.on ≠ i := fun e he hb heq => by
          have h1 := hall e he hb
          have h2 := (mem_ready.1 hr).1
          rw [heq] at h1
          by_cases hlt : i < listed.size
          · simp [hlt] at h1 h2
            rw [h2] at h1
            cases h1
          · simp [Array.getElem?_eq_none (Nat.not_lt.1 hlt)] at h1
        have hp := wpOp_putIf hoj (hfree j oj hoj hji hun hno) (fun cs b => hsel i oi cs b hi) (fun cs b => hsel j oj cs b hoj) hQ hy (wpOp_mono (fun a' w' h => (⟨trivial, h⟩ : True ∧ _)) (H.2 j (ready_mono hj hji)))
        refine wpOp_mono (fun a' w' h => ?_) hp
        obtain ⟨hy', _, hS', hH⟩ := h
        have hSw : (listed.setIfInBounds j true).getD z true = false → S w' := fun h => hS' (by rw [Array.setIfInBounds_comm _ _ (Ne.symm hji), getD_set_ne true hiz]; exact h)
        refine ⟨hSw, wpAnyG_firstP hi hsel hQ hiz fuel (listed.setIfInBounds j true) a' w' (fun k ok hk hki hu hn => ?_) (ready_mono hr (Ne.symm hji)) hy' hSw ?_⟩
        · refine hfree k ok hk hki ?_ hn
          by_cases hjk : j = k
          · subst hjk; exact hun
          · rw [getD_set_ne true hjk] at hu; exact hu
        · rw [Array.setIfInBounds_comm _ _ hji]
          exact hH
theorem take_p {i : Nat} {oi : Oper} {v : Value} {fuel : Nat} {listed : Array Bool} {a : Act} {w : World} (hi : ops[i]? = some oi) (hS : listed.getD z true = false → S w)
    (h : wpAnyG P md ops Q z S fuel (listed.setIfInBounds i true) (a.put oi.dst v) w) (hiz : (i == z) = false := by kernel_rfl)
    (hs : Region.noSelect ops = true := by kernel_rfl) (hf : Region.free md ops listed i = true := by kernel_rfl) (hr : (Region.ready md ops listed).contains i = true := by kernel_rfl)
    (hQ : ∀ c a w, Q (.panic c) (a.put oi.dst v) w → Q (.panic c) a w := by exact fun _ _ _ h => h)
    (hy : YieldsIf P ops (fun _ => True) oi v a := by exact Or.inl ⟨by rfl, fun w hSw => by go_simp⟩) : wpAnyG P md ops Q z S (fuel + 1) listed a w :=
  wpAnyG_firstP hi (Region.noSelect_spec hs) hQ (by simpa using hiz) fuel listed a w (Region.free_spec hi hf) (by simpa using hr) hy hS h
theorem wpAnyG_done {listed : Array Bool} {a : Act} {w : World} (hr : Region.ready md ops listed = []) (h : Q .normal a w) : ∀ fuel, wpAnyG P md ops Q z S fuel listed a w
  | 0 => ⟨hr, h⟩
  | fuel + 1 => ⟨fun _ => h, fun i hi => by rw [hr] at hi; cases hi⟩
theorem wp_region_G (z : Nat) {S : World → Prop} {id : Nat} {a : Act} {w : World} (hm : P.follows .mixedOrders = true)
    (h : wpAnyG P .any ops Q z S ops.size (Array.replicate ops.size false) a w.drew) : (Code.region id ops true).wp P Q a w :=
  wp_region_any hm (wpAny_of_G _ _ _ _ h)
theorem late {b : Bool} {S : Prop} (hb : b = true) : b = false → S := fun h => by rw [hb] at h; cases h
/-- A step of a drawn region that yields v in every world of S. -/
theorem take_g {i : Nat} {oi : Oper} {v : Value} {fuel : Nat} {listed : Array Bool} {a : Act} {w : World} (hi : ops[i]? = some oi) (hS : S w)
    (h : wpAnyG P md ops Q z S fuel (listed.setIfInBounds i true) (a.put oi.dst v) w)
    (hs : Region.noSelect ops = true := by kernel_rfl) (hf : (Region.free md ops listed i && upB md ops 9 z i && closedB md ops listed) = true := by kernel_rfl) (hr : (Region.ready md ops listed).contains i = true := by kernel_rfl)
    (hQ : ∀ c a w, Q (.panic c) (a.put oi.dst v) w → Q (.panic c) a w := by exact fun _ _ _ h => h)
    (hy : YieldsIf P ops S oi v a := by exact Or.inl ⟨by rfl, fun w hSw => by (try dsimp only at hSw); go_simp⟩) : wpAnyG P md ops Q z S (fuel + 1) listed a w :=
  wpAnyG_take hi hs hf hr hQ hy hS h
section
variable {fuel : Nat} {listed : Array Bool} {a a' : Act} {w : World}
theorem readyG1 (i : Nat) {o : Oper} (hi : ops[i]? = some o)
    (gi : ∀ K : Act → World → Prop, Shut (∀ a w, ((listed.setIfInBounds i true).getD z true = false → S w) → wpAnyG P md ops Q z S fuel (listed.setIfInBounds i true) a w → K a w) → if Region.wanted o (yielded ops a'.tmps) = true then Oper.wp P o a' w K Q else K (a'.put o.dst undef) w)
    (hr : Region.ready md ops listed = [i] := by kernel_rfl)
    (ha : a = a' := by (try simp only [List.getElem_toArray, List.getElem_cons_succ, List.getElem_cons_zero, Act.put, List.setIfInBounds_toArray, List.set_cons_zero, List.set_cons_succ]); rfl) : wpAnyG P md ops Q z S (fuel + 1) listed a w := by
  subst ha
  exact wpAnyG_ready hr (by simp) (AllReadyG.cons hi gi AllReadyG.nil)
theorem doneG_by (h : Q .normal a' w) (hr : Region.ready md ops listed = [] := by kernel_rfl) (ha : a = a' := by (try simp only [List.getElem_toArray, List.getElem_cons_succ, List.getElem_cons_zero, Act.put, List.setIfInBounds_toArray, List.set_cons_zero, List.set_cons_succ]); rfl) : wpAnyG P md ops Q z S fuel listed a w := by
  subst ha
  exact wpAnyG_done hr h _
end
end
end Go.Proofs.YtldcffonfidbcaaGreatDoor

/- A row of documents, of one's own; append onto a row of one's own, where the new one lies. -/
namespace Go.Proofs.YtldcffonfidbcaaGreatDoor
open Go.RowKit
theorem wpList_append_row {P : Program} (w : World) {ops : Array Oper} {rest : List Oper} {o : Oper} {a : Act} {Q : Exit → Act → World → Prop} (hgd : o.guard = none) (s x : Operand) (t : TypeId)
    (ho : o.op = .call { callee := .builtin .append, args := #[s, x], argTypes := #[t, t] })
    (base : Nat) (e : TypeId) (i : TypeInfo) (z : Value) (size bytes : Nat) (ht : P.underlying t = some (.slice e)) (hi : P.info? e = some i) (hz : i.zero = some z)
    (hsize : i.size = size) (hby : i.bytes = bytes) (hzs : z.cells.size = size) (hsz : 0 < size)
    (v : Value) (n : Nat) (xs : List Value) (hs : a.eval s = v) (hown : w.ownsRow base e size v n xs)
    (ad : Addr) (m c : Nat) (news : List Value) (hx : a.eval x = .slice (some ad) m c) (hl : news.length = m * size) (hnews : ∀ j u, news[j]? = some u → w.cell? (ad.add j) = some u) (h1 : ∀ u ∈ news, u.oneCell' = true)
    (hm : 0 < m) (h63 : n + m ≤ maxLen) (hbytes : (n + m) * bytes ≤ 140737488355328) (hbase : base ≤ w.heap.size)
    (h : ∀ g cap w', w'.ownsRow base e size (.slice (some ⟨g, 0, none⟩) (n + m) cap) (n + m) (xs ++ news) → Fr (fun k => v.ownBlock = some k) w w' → (v.ownBlock = some g ∨ w.heap.size ≤ g) → wpList P ops Q rest (a.put o.dst (.slice (some ⟨g, 0, none⟩) (n + m) cap)) w') : wpList P ops Q (o :: rest) a w :=
  wpList_plain hgd fun _ hK => wp_append_two w s x t ho base e i z size bytes ht hi hz hsize hby hzs hsz v n xs hs hown ad m c news hx hl hnews h1 hm h63 hbytes hbase fun g cap w' h2 h3 => hK _ _ (h g cap w' h2 (two_row h3).1 (two_row h3).2)
structure DocA where
  A : Option Addr
  c : Nat
  l : List Tok
def DocA.v (d : DocA) : Value := .slice d.A d.l.length d.c
def docC (ds : List DocA) : List Value := ds.map DocA.v
/-- Documents, in a row of one's own; all lies outside of the blocks of N, but for the row's own. -/
structure DocsM (N : Nat → Prop) (base : Nat) (w : World) (v : Value) (ds : List DocA) : Prop where
  own : w.ownsRow base 22 1 v ds.length (docC ds)
  mine : ∀ k, v.ownBlock = some k → N k
  each : ∀ d ∈ ds, Rd N w d.A (tokC d.l)
theorem DocsM.fr {N M : Nat → Prop} {base : Nat} {w w' : World} {v : Value} {ds : List DocA} (h : DocsM N base w v ds) (hf : Fr M w w') (hM : ∀ k, k < w.heap.size → M k → N k) (hv : ∀ k, v.ownBlock = some k → ¬ M k) : DocsM N base w' v ds :=
  ⟨own_fr h.own hf hv, h.mine, fun d hd => (h.each d hd).fr hf hM⟩
theorem DocsM.fr0 {N : Nat → Prop} {base : Nat} {w w' : World} {v : Value} {ds : List DocA} (h : DocsM N base w v ds) (hf : Fr Nob w w') : DocsM N base w' v ds := h.fr hf (fun _ _ h => h.elim) (fun _ _ h => h)
theorem DocsM.mono {N N' : Nat → Prop} {base : Nat} {w : World} {v : Value} {ds : List DocA} (h : DocsM N base w v ds) (hN : ∀ k, N' k → N k) (hm : ∀ k, v.ownBlock = some k → N' k) : DocsM N' base w v ds :=
  ⟨h.own, hm, fun d hd => (h.each d hd).mono hN⟩
theorem DocsM.bound {N : Nat → Prop} {base : Nat} {w : World} {v : Value} {ds : List DocA} (h : DocsM N base w v ds) : DocsM (fun k => N k ∨ w.heap.size ≤ k) base w v ds :=
  ⟨h.own, fun k hk => .inl (h.mine k hk), fun d hd => (h.each d hd).bound⟩
end Go.Proofs.YtldcffonfidbcaaGreatDoor
