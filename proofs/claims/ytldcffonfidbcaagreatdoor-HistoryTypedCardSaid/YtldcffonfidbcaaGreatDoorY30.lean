/- A part of the proof for chapter 10: RemStep; no conditions. -/
import Derived.Test.YtldcffonfidbcaaGreatDoorY08
import Derived.Test.YtldcffonfidbcaaGreatDoorY29
import Derived.Laws.EntriesVeiled
import Derived.Deep.CutBlock
/- Chapter 10: a step through maps. -/
namespace Go.Proofs.YtldcffonfidbcaaGreatDoor
open Go.RowKit
/-- A step through maps, from the 'fr'-th on. -/
def stepThru (ms : List OneM) (fr : Int) (s : StepM) : Option StepM :=
  if stepF s ≠ 0 then none
  else
    let a := mapsF ms fr s.f 1
    let b := mapsF ms fr s.t (-1)
    let fine := ((true && a.2 == 0) && b.2 == 0) && !(a.1.g && b.1.g)
    let r : StepM × Bool :=
      if s.k = 0 then ({ s with f := a.1.a, t := max a.1.a b.1.a }, fine)
      else if s.k = 1 then
        let c := mapsF ms fr s.gf (-1)
        let d := mapsF ms fr s.gt 1
        ({ s with f := a.1.a, t := b.1.a, gf := c.1.a, gt := d.1.a }, (fine && c.2 == 0) && d.2 == 0)
      else ({ s with f := a.1.a, t := b.1.a }, fine && decide (a.1.a < b.1.a))
    if r.2 = true ∧ stepF r.1 = 0 then some r.1 else none
/-- A place's spot in a cell of its own. -/
def SpotAt (X : Nat) (W : World) (g : Nat) (cs : List Value) : Prop := Blk W g cs 214 ∧ X + 1 < g
/-- The variables of a step's way through maps. -/
structure RS (m : Nat) (cs : List Value) (X : Nat) (fr : Int) (fine : Bool) (w W : World) : Prop where
  fw : Fr Nob w W
  s : Blk W w.heap.size cs 32
  y : Blk W (w.heap.size + 1) [.int .i64 fr] 3
  o : Blk W (w.heap.size + 1 + 1) [.int .i64 0, .int .i64 0, .int .i64 0, .int .i64 0, .int .i64 0, .int .i64 0, .slice none 0 0, .int .i64 0] 32
  x : Blk W X [.func (.func 116) #[.pointer (some ⟨m, 0, none⟩)] #[]] 212
  z : Blk W (X + 1) [.bool fine] 4
  lo : w.heap.size + 1 + 1 < X
theorem RS.frm {m : Nat} {cs : List Value} {X : Nat} {fr : Int} {fine fine' : Bool} {w W W' : World} (h : RS m cs X fr fine w W) (hF : Fr (fun k => X + 1 ≤ k) W W') (hz : Blk W' (X + 1) [.bool fine'] 4) : RS m cs X fr fine' w W' :=
  have hl := h.lo
  ⟨h.fw.trans hF (fun k hk h2 => by have : X + 1 ≤ k := h2; omega), h.s.fr hF (fun h2 => by have : X + 1 ≤ w.heap.size := h2; omega), h.y.fr hF (fun h2 => by have : X + 1 ≤ w.heap.size + 1 := h2; omega), h.o.fr hF (fun h2 => by have : X + 1 ≤ w.heap.size + 1 + 1 := h2; omega), h.x.fr hF (fun h2 => by have : X + 1 ≤ X := h2; omega), hz, hl⟩
theorem RS.alloc {m : Nat} {cs : List Value} {X : Nat} {fr : Int} {fine : Bool} {w W : World} (h : RS m cs X fr fine w W) (o : Obj) : RS m cs X fr fine w (W.alloc o) :=
  h.frm ((Fr.refl _ _).alloc o) (h.z.alloc o)
theorem RS.call {m : Nat} {cs : List Value} {X : Nat} {fr : Int} {fine fine' : Bool} {w W W' : World} (h : RS m cs X fr fine w W) (hF : Fr (One (X + 1)) W W') (hz : Blk W' (X + 1) [.bool fine'] 4) : RS m cs X fr fine' w W' :=
  h.frm (hF.mono (fun k _ h => by have : k = X + 1 := h; show X + 1 ≤ k; omega)) hz
theorem RS.put {m : Nat} {cs : List Value} {X : Nat} {fr : Int} {fine : Bool} {w W : World} {g : Nat} (h : RS m cs X fr fine w W) (hg : X + 1 < g) (a b c d : Value) : RS m cs X fr fine w ((((W.setCell ⟨g, 0, none⟩ a).setCell ⟨g, 1, none⟩ b).setCell ⟨g, 2, none⟩ c).setCell ⟨g, 3, none⟩ d) :=
  have hM : X + 1 ≤ g := by omega
  have hne : X + 1 ≠ g := by omega
  h.frm (Fr.setCell (M := fun k => X + 1 ≤ k) (p := ⟨g, 3, none⟩) (Fr.setCell (p := ⟨g, 2, none⟩) (Fr.setCell (p := ⟨g, 1, none⟩) (Fr.setCell (p := ⟨g, 0, none⟩) (Fr.refl _ _) (.inl hM) a) (.inl hM) b) (.inl hM) c) (.inl hM) d) ((((h.z.far hne a).far hne b).far hne c).far hne d)
theorem RS.put1 {m : Nat} {cs : List Value} {X : Nat} {fr : Int} {fine : Bool} {w W : World} (h : RS m cs X fr fine w W) (b : Bool) : RS m cs X fr b w (W.setCell ⟨X + 1, 0, none⟩ (.bool b)) :=
  h.frm (Fr.setCell (M := fun k => X + 1 ≤ k) (p := ⟨X + 1, 0, none⟩) (Fr.refl _ _) (.inl (Nat.le_refl _)) _) (h.z.set 0 _)
theorem SpotAt.farz {X : Nat} {W : World} {g : Nat} {cs : List Value} (h : SpotAt X W g cs) (v : Value) : SpotAt X (W.setCell ⟨X + 1, 0, none⟩ v) g cs :=
  ⟨h.1.far (show g ≠ X + 1 by have := h.2; omega) v, h.2⟩
theorem RS.sets {m : Nat} {cs : List Value} {X : Nat} {fr : Int} {fine : Bool} {w W : World} (h : RS m cs X fr fine w W) (i : Nat) (v : Value) : RS m (cs.set i v) X fr fine w (W.setCell ⟨w.heap.size, i, none⟩ v) :=
  have hl := h.lo
  ⟨h.fw.setCell (p := ⟨w.heap.size, i, none⟩) (.inr (Nat.le_refl _)) v, h.s.set i v, h.y.far (show w.heap.size + 1 ≠ w.heap.size by omega) v, h.o.far (show w.heap.size + 1 + 1 ≠ w.heap.size by omega) v, h.x.far (show X ≠ w.heap.size by omega) v, h.z.far (show X + 1 ≠ w.heap.size by omega) v, hl⟩
theorem RS.S {m : Nat} {cs : List Value} {X : Nat} {fr : Int} {fine : Bool} {w W : World} (h : RS m cs X fr fine w W) : W.cell? ⟨w.heap.size, 1, none⟩ = cs[1]? ∧ W.cell? ⟨w.heap.size, 2, none⟩ = cs[2]? := ⟨h.s.cell 1, h.s.cell 2⟩
theorem RS.spot {m : Nat} {cs : List Value} {X : Nat} {fr : Int} {fine : Bool} {w W : World} (h : RS m cs X fr fine w W) : SpotAt X (W.alloc (.cells #[.int .i64 0, .bool false, .int .i64 0, .int .i64 0] 214)) W.heap.size [.int .i64 0, .bool false, .int .i64 0, .int .i64 0] := ⟨Blk.new _ _ _, h.z.lt⟩
theorem SpotAt.alloc {X : Nat} {W : World} {g : Nat} {cs : List Value} (h : SpotAt X W g cs) (o : Obj) : SpotAt X (W.alloc o) g cs := ⟨h.1.alloc o, h.2⟩
theorem SpotAt.call {X : Nat} {W W' : World} {g : Nat} {cs : List Value} (h : SpotAt X W g cs) (hF : Fr (One (X + 1)) W W') : SpotAt X W' g cs := ⟨h.1.fr hF (fun e => by have : g = X + 1 := e; have := h.2; omega), h.2⟩
theorem SpotAt.far {X : Nat} {W : World} {g g' : Nat} {cs : List Value} (h : SpotAt X W g cs) (hne : g ≠ g') (a b c d : Value) : SpotAt X ((((W.setCell ⟨g', 0, none⟩ a).setCell ⟨g', 1, none⟩ b).setCell ⟨g', 2, none⟩ c).setCell ⟨g', 3, none⟩ d) g cs :=
  ⟨(((h.1.far hne a).far hne b).far hne c).far hne d, h.2⟩
theorem SpotAt.set {X : Nat} {W : World} {g : Nat} {x0 x1 x2 x3 : Value} (h : SpotAt X W g [x0, x1, x2, x3]) (a b c d : Value) : SpotAt X ((((W.setCell ⟨g, 0, none⟩ a).setCell ⟨g, 1, none⟩ b).setCell ⟨g, 2, none⟩ c).setCell ⟨g, 3, none⟩ d) g [a, b, c, d] :=
  ⟨(((h.1.set 0 a).set 1 b).set 2 c).set 3 d, h.2⟩
theorem SpotAt.facts {X : Nat} {W : World} {g : Nat} {x0 x1 x2 x3 : Value} (h : SpotAt X W g [x0, x1, x2, x3]) : W.cell? ⟨g, 0, none⟩ = some x0 ∧ W.cell? ⟨g, 1, none⟩ = some x1 ∧ W.cell? ⟨g, 2, none⟩ = some x2 ∧ W.cell? ⟨g, 3, none⟩ = some x3 ∧ W.frozen? ⟨g, 0, none⟩ = false ∧ W.frozen? ⟨g, 1, none⟩ = false ∧ W.frozen? ⟨g, 2, none⟩ = false ∧ W.frozen? ⟨g, 3, none⟩ = false ∧ g < W.heap.size :=
  ⟨h.1.cell 0, h.1.cell 1, h.1.cell 2, h.1.cell 3, h.1.frozen 0, h.1.frozen 1, h.1.frozen 2, h.1.frozen 3, h.1.lt⟩
theorem al4E (W : World) : ∃ W', W.alloc (.cells #[.int .i64 0, .bool false, .int .i64 0, .int .i64 0] 214) = W' := ⟨_, rfl⟩
theorem put4E (W : World) (g : Nat) (a b c d : Value) : ∃ W', (((W.setCell ⟨g, 0, none⟩ a).setCell ⟨g, 1, none⟩ b).setCell ⟨g, 2, none⟩ c).setCell ⟨g, 3, none⟩ d = W' := ⟨_, rfl⟩
theorem RS.allocE {m : Nat} {cs : List Value} {X : Nat} {fr : Int} {fine : Bool} {w W W' : World} {o : Obj} (h : RS m cs X fr fine w W) (e : W.alloc o = W') : RS m cs X fr fine w W' := e ▸ h.alloc o
theorem RS.spotE {m : Nat} {cs : List Value} {X : Nat} {fr : Int} {fine : Bool} {w W W' : World} (h : RS m cs X fr fine w W) (e : W.alloc (.cells #[.int .i64 0, .bool false, .int .i64 0, .int .i64 0] 214) = W') : SpotAt X W' W.heap.size [.int .i64 0, .bool false, .int .i64 0, .int .i64 0] := e ▸ h.spot
theorem SpotAt.allocE {X : Nat} {W W' : World} {g : Nat} {cs : List Value} {o : Obj} (h : SpotAt X W g cs) (e : W.alloc o = W') : SpotAt X W' g cs := e ▸ h.alloc o
theorem RS.putE {m : Nat} {cs : List Value} {X : Nat} {fr : Int} {fine : Bool} {w W W' : World} {g : Nat} {a b c d : Value} (h : RS m cs X fr fine w W) (hg : X + 1 < g) (e : (((W.setCell ⟨g, 0, none⟩ a).setCell ⟨g, 1, none⟩ b).setCell ⟨g, 2, none⟩ c).setCell ⟨g, 3, none⟩ d = W') : RS m cs X fr fine w W' := e ▸ h.put hg a b c d
theorem SpotAt.farE {X : Nat} {W W' : World} {g g' : Nat} {cs : List Value} {a b c d : Value} (h : SpotAt X W g cs) (hne : g ≠ g') (e : (((W.setCell ⟨g', 0, none⟩ a).setCell ⟨g', 1, none⟩ b).setCell ⟨g', 2, none⟩ c).setCell ⟨g', 3, none⟩ d = W') : SpotAt X W' g cs := e ▸ h.far hne a b c d
theorem SpotAt.setE {X : Nat} {W W' : World} {g : Nat} {x0 x1 x2 x3 a b c d : Value} (h : SpotAt X W g [x0, x1, x2, x3]) (e : (((W.setCell ⟨g, 0, none⟩ a).setCell ⟨g, 1, none⟩ b).setCell ⟨g, 2, none⟩ c).setCell ⟨g, 3, none⟩ d = W') : SpotAt X W' g [a, b, c, d] := e ▸ h.set a b c d
def zeroStep : StepM := ⟨0, 0, 0, 0, 0, 0, 0, []⟩
theorem store8 {w : World} {B : Nat} {c0 c1 c2 c3 c4 c5 c6 c7 : Value} {t : TypeId} (h : Blk w B [c0, c1, c2, c3, c4, c5, c6, c7] t) (v0 v1 v2 v3 v4 v5 v6 v7 : Value) :
    (∀ W, ((((((((w.setCell ⟨B, 0, none⟩ v0).setCell ⟨B, 1, none⟩ v1).setCell ⟨B, 2, none⟩ v2).setCell ⟨B, 3, none⟩ v3).setCell ⟨B, 4, none⟩ v4).setCell ⟨B, 5, none⟩ v5).setCell ⟨B, 6, none⟩ v6).setCell ⟨B, 7, none⟩ v7) = W → Blk W B [v0, v1, v2, v3, v4, v5, v6, v7] t) ∧
    (∀ W, ((((((((w.setCell ⟨B, 0, none⟩ v0).setCell ⟨B, 1, none⟩ v1).setCell ⟨B, 2, none⟩ v2).setCell ⟨B, 3, none⟩ v3).setCell ⟨B, 4, none⟩ v4).setCell ⟨B, 5, none⟩ v5).setCell ⟨B, 6, none⟩ v6).setCell ⟨B, 7, none⟩ v7) = W → Fr (One B) w W) :=
  ⟨fun W e => e ▸ ((((((((h.set 0 _).set 1 _).set 2 _).set 3 _).set 4 _).set 5 _).set 6 _).set 7 _), fun W e => e ▸ (((((((((Fr.refl (One B) w).setCell (p := ⟨B, 0, none⟩) (.inl rfl) _).setCell (p := ⟨B, 1, none⟩) (.inl rfl) _).setCell (p := ⟨B, 2, none⟩) (.inl rfl) _).setCell (p := ⟨B, 3, none⟩) (.inl rfl) _).setCell (p := ⟨B, 4, none⟩) (.inl rfl) _).setCell (p := ⟨B, 5, none⟩) (.inl rfl) _).setCell (p := ⟨B, 6, none⟩) (.inl rfl) _).setCell (p := ⟨B, 7, none⟩) (.inl rfl) _)⟩
theorem fieldSpot (a c d : Int) (b : Bool) (w : World) : (Instr.field 214 (.agg #[.int .i64 a, .bool b, .int .i64 c, .int .i64 d]) 0).run Tryz.prog w = .ok (.int .i64 a) w := by kernel_rfl
set_option maxRecDepth 100000 in
set_option maxHeartbeats 4000000 in
theorem remstep_any (N M : Nat → Prop) (base m : Nat) (v : Value) (ms : List OneM) (s : StepM) (B : Option Addr) (b : Nat) (fr : Int) (w : World) (hm : Mp N base w m v ms) (hn : ms.length ≤ 4096) (hx : Rd M w B (tokC s.l)) :
    Calls Tryz.prog 81 #[.agg (s.cells (.slice B s.l.length b)).toArray, .pointer (some ⟨m, 0, none⟩), .int .i64 fr] w fun e w' => e = .returned (.tuple #[((stepThru ms fr s).elim (.agg (zeroStep.cells (.slice none 0 0)).toArray) (fun x => .agg (x.cells (.slice B s.l.length b)).toArray)), .bool (stepThru ms fr s).isSome]) ∧ Fr Nob w w' := by
  obtain ⟨R, hR⟩ : ∃ R, stepThru ms fr s = R := ⟨_, rfl⟩
  have HR := Lib.hid hR
  rw [hR]
  clear hR
  obtain ⟨xn, hxn⟩ : ∃ xn, s.l.length = xn := ⟨_, rfl⟩
  have HXN := Lib.hid hxn
  rw [hxn]
  clear hxn
  have HM := Lib.hid hm
  have HX := Lib.hid hx
  clear hm hx
  obtain ⟨k, f, t, gf, gt, ins, mk, x⟩ := s
  simp only [StepM.cells] at *
  go_enter Tryz.func81, Tryz.ntmps81
  go_upto_region 1 with (fail)
  obtain ⟨W, hW⟩ : ∃ W, (((w.alloc (.cells #[.int .i64 k, .int .i64 f, .int .i64 t, .int .i64 gf, .int .i64 gt, .int .i64 ins, .slice B xn b, .int .i64 mk] 32)).alloc (.cells #[.int .i64 fr] 3)).alloc (.cells #[.int .i64 0, .int .i64 0, .int .i64 0, .int .i64 0, .int .i64 0, .int .i64 0, .slice none 0 0, .int .i64 0] 32)) = W := ⟨_, rfl⟩
  have HF := Lib.hid (show Fr Nob w W by rw [← hW]; exact (((Fr.refl _ _).alloc _).alloc _).alloc _)
  have HS := Lib.hid (show Blk W w.heap.size [.int .i64 k, .int .i64 f, .int .i64 t, .int .i64 gf, .int .i64 gt, .int .i64 ins, .slice B xn b, .int .i64 mk] 32 by rw [← hW]; exact ((Blk.new _ _ _).alloc _).alloc _)
  have HY := Lib.hid (show Blk W (w.heap.size + 1) [.int .i64 fr] 3 by rw [← hW]; exact (Blk.new_at _ _ _ _ (by simp)).alloc _)
  have HO := Lib.hid (show Blk W (w.heap.size + 1 + 1) [.int .i64 0, .int .i64 0, .int .i64 0, .int .i64 0, .int .i64 0, .int .i64 0, .slice none 0 0, .int .i64 0] 32 by rw [← hW]; exact Blk.new_at _ _ _ _ (by simp))
  rw [hW]
  clear hW
  have b0 := HS.out.cell 0
  have b1 := HS.out.cell 1
  have b2 := HS.out.cell 2
  have b3 := HS.out.cell 3
  have b4 := HS.out.cell 4
  have b5 := HS.out.cell 5
  have b6 := HS.out.cell 6
  have b7 := HS.out.cell 7
  have hlb := HS.out.lt
  simp only [List.getElem?_cons_zero, List.getElem?_cons_succ] at b0 b1 b2 b3 b4 b5 b6 b7
  go_wp2_with fail
  have hck := stepcheck_any M ⟨k, f, t, gf, gt, ins, mk, x⟩ B b W (HX.out.fr HF.out (fun _ _ h => h.elim))
  simp only [StepM.cells, HXN.out] at hck
  refine hck.mono ?_
  clear hck b0 b1 b2 b3 b4 b5 b6 b7 hlb
  obtain ⟨E, hE⟩ : ∃ E, stepF ⟨k, f, t, gf, gt, ins, mk, x⟩ = E := ⟨_, rfl⟩
  have HE := Lib.hid hE
  rw [hE]
  clear hE
  rintro e w1 ⟨rfl, hF1⟩
  have HF1 := Lib.hid (HF.out.same hF1)
  have HS1 := Lib.hid (HS.out.fr hF1 (fun h => h))
  have HY1 := Lib.hid (HY.out.fr hF1 (fun h => h))
  have HO1 := Lib.hid (HO.out.fr hF1 (fun h => h))
  have HSZ := Lib.hid (HO1.out.lt)
  clear hF1
  by_cases h0 : E = 0
  · have h0' : (E != 0) = false := by simp [h0]
    have HE0 := Lib.hid h0
    clear h0
    go_upto_region 6 with (fail)
    obtain ⟨⟨⟨aa, ag, ai, ao⟩, ae⟩, ha⟩ : ∃ r, mapsF ms fr f 1 = r := ⟨_, rfl⟩
    have HA := Lib.hid ha
    obtain ⟨⟨⟨ba, bg, bi, bo⟩, be⟩, hb⟩ : ∃ r, mapsF ms fr t (-1) = r := ⟨_, rfl⟩
    have HB := Lib.hid hb
    clear ha hb
    obtain ⟨X, hX⟩ : ∃ X, w1.heap.size = X := ⟨_, rfl⟩
    obtain ⟨W2, hW⟩ : ∃ W2, (w1.alloc (.cells #[.func (.func 116) #[.pointer (some ⟨m, 0, none⟩)] #[]] 212)).alloc (.cells #[.bool true] 4) = W2 := ⟨_, rfl⟩
    have HR2 := Lib.hid (show RS m [.int .i64 k, .int .i64 f, .int .i64 t, .int .i64 gf, .int .i64 gt, .int .i64 ins, .slice B xn b, .int .i64 mk] X fr true w W2 by
      have hlo := HSZ.out
      rw [← hW, ← hX]
      exact ⟨(HF1.out.alloc _).alloc _, (HS1.out.alloc _).alloc _, (HY1.out.alloc _).alloc _, (HO1.out.alloc _).alloc _, (Blk.new _ _ _).alloc _, Blk.new_at _ _ _ _ (by simp), hlo⟩)
    rw [hW, hX]
    clear hW hX
    go_cut [11, 12] from 20 to 27 (fun a1 a2 wx => ∃ g8 g9, a1 = .pointer (some ⟨g8, 0, none⟩) ∧ a2 = .pointer (some ⟨g9, 0, none⟩) ∧ Hid (RS m [.int .i64 k, .int .i64 f, .int .i64 t, .int .i64 gf, .int .i64 gt, .int .i64 ins, .slice B xn b, .int .i64 mk] X fr ((true && ae == 0) && be == 0) w wx) ∧ Hid (SpotAt X wx g8 [.int .i64 aa, .bool ag, .int .i64 ai, .int .i64 ao]) ∧ Hid (SpotAt X wx g9 [.int .i64 ba, .bool bg, .int .i64 bi, .int .i64 bo]))
    case first =>
      refine wp_region_held_drew (S := fun W => W.cell? ⟨w.heap.size, 1, none⟩ = some (.int .i64 f) ∧ W.cell? ⟨w.heap.size, 2, none⟩ = some (.int .i64 t)) (by kernel_rfl) (HR2.out.frm (Fr.refl _ _).drew HR2.out.z.drew).S (fun _ => ?_)
      have HR0 := Lib.hid (HR2.out.frm (Fr.refl _ _).drew HR2.out.z.drew)
      clear HR2 HF1 HS1 HY1 HO1 HSZ HF HS HY HO
      generalize W2.drew = W0 at HR0 ⊢
      refine wpAnyH_take (i := 0) (v := .func (.func 117) #[] #[.pointer (some ⟨X, 0, none⟩), .pointer (some ⟨w.heap.size + 1, 0, none⟩), .pointer (some ⟨X + 1, 0, none⟩)]) rfl (by kernel_rfl) (by kernel_rfl) (by kernel_rfl) (fun _ _ _ h => h) (Or.inl ⟨by rfl, fun w hSw => by (try dsimp only at hSw); obtain ⟨s1, s2⟩ := hSw; go_simp⟩) HR0.out.S ?_
      refine wpAnyH_take (i := 1) (v := .pointer (some ⟨w.heap.size, 1, none⟩)) rfl (by kernel_rfl) (by kernel_rfl) (by kernel_rfl) (fun _ _ _ h => h) (Or.inl ⟨by rfl, fun w hSw => by (try dsimp only at hSw); obtain ⟨s1, s2⟩ := hSw; go_simp⟩) HR0.out.S ?_
      refine wpAnyH_take (i := 2) (v := .int .i64 f) rfl (by kernel_rfl) (by kernel_rfl) (by kernel_rfl) (fun _ _ _ h => h) (Or.inl ⟨by rfl, fun w hSw => by (try dsimp only at hSw); obtain ⟨s1, s2⟩ := hSw; go_simp⟩) HR0.out.S ?_
      refine wpAnyH_take (i := 4) (v := .func (.func 117) #[] #[.pointer (some ⟨X, 0, none⟩), .pointer (some ⟨w.heap.size + 1, 0, none⟩), .pointer (some ⟨X + 1, 0, none⟩)]) rfl (by kernel_rfl) (by kernel_rfl) (by kernel_rfl) (fun _ _ _ h => h) (Or.inl ⟨by rfl, fun w hSw => by (try dsimp only at hSw); obtain ⟨s1, s2⟩ := hSw; go_simp⟩) HR0.out.S ?_
      refine wpAnyH_take (i := 5) (v := .pointer (some ⟨w.heap.size, 2, none⟩)) rfl (by kernel_rfl) (by kernel_rfl) (by kernel_rfl) (fun _ _ _ h => h) (Or.inl ⟨by rfl, fun w hSw => by (try dsimp only at hSw); obtain ⟨s1, s2⟩ := hSw; go_simp⟩) HR0.out.S ?_
      refine wpAnyH_take (i := 6) (v := .int .i64 t) rfl (by kernel_rfl) (by kernel_rfl) (by kernel_rfl) (fun _ _ _ h => h) (Or.inl ⟨by rfl, fun w hSw => by (try dsimp only at hSw); obtain ⟨s1, s2⟩ := hSw; go_simp⟩) HR0.out.S ?_
      refine ready3 3 8 9 rfl rfl rfl (fun K hK => ?_) (fun K hK => ?_) (fun K hK => ?_)
      · go_simp
        have hto := to_any N base m v ms X (w.heap.size + 1) (X + 1) fr f 1 true W0 (HM.out.fr0 HR0.out.fw) hn HR0.out.x HR0.out.y HR0.out.z
        rw [HA.out] at hto
        simp only [Spot.cells, spotC] at hto
        refine hto.mono ?_
        clear hto
        rintro e W101 ⟨rfl, hZ, hFF⟩
        have HR1 := Lib.hid (HR0.out.call hFF hZ)
        clear hFF hZ
        go_wp2_with fail
        refine hK.out _ _ HR1.out.S (fun _ => ?_)
        clear hK K
        refine ready3 7 8 9 rfl rfl rfl (fun K hK => ?_) (fun K hK => ?_) (fun K hK => ?_)
        · go_simp
          have hto := to_any N base m v ms X (w.heap.size + 1) (X + 1) fr t (-1) (true && ae == 0) W101 (HM.out.fr0 HR1.out.fw) hn HR1.out.x HR1.out.y HR1.out.z
          rw [HB.out] at hto
          simp only [Spot.cells, spotC] at hto
          refine hto.mono ?_
          clear hto
          rintro e W102 ⟨rfl, hZ, hFF⟩
          have HR2 := Lib.hid (HR1.out.call hFF hZ)
          clear hFF hZ
          go_wp2_with fail
          refine hK.out _ _ HR2.out.S (fun _ => ?_)
          clear hK K
          refine ready2 8 9 rfl rfl (fun K hK => ?_) (fun K hK => ?_)
          · go_simp
            obtain ⟨W103, hW⟩ := al4E W102
            have HR3 := Lib.hid (HR2.out.allocE hW)
            have HP8_3 := Lib.hid (HR2.out.spotE hW)
            rw [hW]
            clear hW
            refine hK.out _ _ HR3.out.S (fun _ => ?_)
            clear hK K
            refine ready1 9 rfl (fun K hK => ?_)
            go_simp
            obtain ⟨W104, hW⟩ := al4E W103
            have HR4 := Lib.hid (HR3.out.allocE hW)
            have HP8_4 := Lib.hid (HP8_3.out.allocE hW)
            have HP9_4 := Lib.hid (HR3.out.spotE hW)
            have HNE4 := Lib.hid (show W102.heap.size ≠ W103.heap.size from Nat.ne_of_lt HP8_3.out.1.lt)
            rw [hW]
            clear hW
            refine hK.out _ _ HR4.out.S (fun _ => ?_)
            clear hK K
            refine ready1 10 rfl (fun K hK => ?_)
            obtain ⟨p0, p1, p2, p3, pf0, pf1, pf2, pf3, pl⟩ := HP8_4.out.facts
            go_simp
            clear p0 p1 p2 p3 pf0 pf1 pf2 pf3 pl
            obtain ⟨W105, hW⟩ := put4E W104 W102.heap.size (.int .i64 aa) (.bool ag) (.int .i64 ai) (.int .i64 ao)
            have HR5 := Lib.hid (HR4.out.putE HP8_4.out.2 hW)
            have hne : W103.heap.size ≠ W102.heap.size := HNE4.out.symm
            have HP9_5 := Lib.hid (HP9_4.out.farE hne hW)
            have HP8_5 := Lib.hid (HP8_4.out.setE hW)
            rw [hW]
            clear hW hne
            refine hK.out _ _ HR5.out.S (fun _ => ?_)
            clear hK K
            refine ready1 11 rfl (fun K hK => ?_)
            obtain ⟨p0, p1, p2, p3, pf0, pf1, pf2, pf3, pl⟩ := HP9_5.out.facts
            go_simp
            clear p0 p1 p2 p3 pf0 pf1 pf2 pf3 pl
            obtain ⟨W106, hW⟩ := put4E W105 W103.heap.size (.int .i64 ba) (.bool bg) (.int .i64 bi) (.int .i64 bo)
            have HR6 := Lib.hid (HR5.out.putE HP9_5.out.2 hW)
            have hne : W102.heap.size ≠ W103.heap.size := HNE4.out
            have HP8_6 := Lib.hid (HP8_5.out.farE hne hW)
            have HP9_6 := Lib.hid (HP9_5.out.setE hW)
            rw [hW]
            clear hW hne
            refine hK.out _ _ HR6.out.S (fun _ => ?_)
            clear hK K
            refine done_by ?_
            go_wp2_with fail
            go_meet
            exact ⟨W102.heap.size, W103.heap.size, rfl, rfl, HR6.out, HP8_6.out, HP9_6.out⟩
          · go_simp
            obtain ⟨W107, hW⟩ := al4E W102
            have HR7 := Lib.hid (HR2.out.allocE hW)
            have HP9_7 := Lib.hid (HR2.out.spotE hW)
            rw [hW]
            clear hW
            refine hK.out _ _ HR7.out.S (fun _ => ?_)
            clear hK K
            refine ready1 8 rfl (fun K hK => ?_)
            go_simp
            obtain ⟨W108, hW⟩ := al4E W107
            have HR8 := Lib.hid (HR7.out.allocE hW)
            have HP9_8 := Lib.hid (HP9_7.out.allocE hW)
            have HP8_8 := Lib.hid (HR7.out.spotE hW)
            have HNE8 := Lib.hid (show W107.heap.size ≠ W102.heap.size from (Nat.ne_of_lt HP9_7.out.1.lt).symm)
            rw [hW]
            clear hW
            refine hK.out _ _ HR8.out.S (fun _ => ?_)
            clear hK K
            refine ready1 10 rfl (fun K hK => ?_)
            obtain ⟨p0, p1, p2, p3, pf0, pf1, pf2, pf3, pl⟩ := HP8_8.out.facts
            go_simp
            clear p0 p1 p2 p3 pf0 pf1 pf2 pf3 pl
            obtain ⟨W109, hW⟩ := put4E W108 W107.heap.size (.int .i64 aa) (.bool ag) (.int .i64 ai) (.int .i64 ao)
            have HR9 := Lib.hid (HR8.out.putE HP8_8.out.2 hW)
            have hne : W102.heap.size ≠ W107.heap.size := HNE8.out.symm
            have HP9_9 := Lib.hid (HP9_8.out.farE hne hW)
            have HP8_9 := Lib.hid (HP8_8.out.setE hW)
            rw [hW]
            clear hW hne
            refine hK.out _ _ HR9.out.S (fun _ => ?_)
            clear hK K
            refine ready1 11 rfl (fun K hK => ?_)
            obtain ⟨p0, p1, p2, p3, pf0, pf1, pf2, pf3, pl⟩ := HP9_9.out.facts
            go_simp
            clear p0 p1 p2 p3 pf0 pf1 pf2 pf3 pl
            obtain ⟨W110, hW⟩ := put4E W109 W102.heap.size (.int .i64 ba) (.bool bg) (.int .i64 bi) (.int .i64 bo)
            have HR10 := Lib.hid (HR9.out.putE HP9_9.out.2 hW)
            have hne : W107.heap.size ≠ W102.heap.size := HNE8.out
            have HP8_10 := Lib.hid (HP8_9.out.farE hne hW)
            have HP9_10 := Lib.hid (HP9_9.out.setE hW)
            rw [hW]
            clear hW hne
            refine hK.out _ _ HR10.out.S (fun _ => ?_)
            clear hK K
            refine done_by ?_
            go_wp2_with fail
            go_meet
            exact ⟨W107.heap.size, W102.heap.size, rfl, rfl, HR10.out, HP8_10.out, HP9_10.out⟩
        · go_simp
          obtain ⟨W111, hW⟩ := al4E W101
          have HR11 := Lib.hid (HR1.out.allocE hW)
          have HP8_11 := Lib.hid (HR1.out.spotE hW)
          rw [hW]
          clear hW
          refine hK.out _ _ HR11.out.S (fun _ => ?_)
          clear hK K
          refine ready2 7 9 rfl rfl (fun K hK => ?_) (fun K hK => ?_)
          · go_simp
            have hto := to_any N base m v ms X (w.heap.size + 1) (X + 1) fr t (-1) (true && ae == 0) W111 (HM.out.fr0 HR11.out.fw) hn HR11.out.x HR11.out.y HR11.out.z
            rw [HB.out] at hto
            simp only [Spot.cells, spotC] at hto
            refine hto.mono ?_
            clear hto
            rintro e W112 ⟨rfl, hZ, hFF⟩
            have HR12 := Lib.hid (HR11.out.call hFF hZ)
            have HP8_12 := Lib.hid (HP8_11.out.call hFF)
            clear hFF hZ
            go_wp2_with fail
            refine hK.out _ _ HR12.out.S (fun _ => ?_)
            clear hK K
            refine ready1 9 rfl (fun K hK => ?_)
            go_simp
            obtain ⟨W113, hW⟩ := al4E W112
            have HR13 := Lib.hid (HR12.out.allocE hW)
            have HP8_13 := Lib.hid (HP8_12.out.allocE hW)
            have HP9_13 := Lib.hid (HR12.out.spotE hW)
            have HNE13 := Lib.hid (show W101.heap.size ≠ W112.heap.size from Nat.ne_of_lt HP8_12.out.1.lt)
            rw [hW]
            clear hW
            refine hK.out _ _ HR13.out.S (fun _ => ?_)
            clear hK K
            refine ready1 10 rfl (fun K hK => ?_)
            obtain ⟨p0, p1, p2, p3, pf0, pf1, pf2, pf3, pl⟩ := HP8_13.out.facts
            go_simp
            clear p0 p1 p2 p3 pf0 pf1 pf2 pf3 pl
            obtain ⟨W114, hW⟩ := put4E W113 W101.heap.size (.int .i64 aa) (.bool ag) (.int .i64 ai) (.int .i64 ao)
            have HR14 := Lib.hid (HR13.out.putE HP8_13.out.2 hW)
            have hne : W112.heap.size ≠ W101.heap.size := HNE13.out.symm
            have HP9_14 := Lib.hid (HP9_13.out.farE hne hW)
            have HP8_14 := Lib.hid (HP8_13.out.setE hW)
            rw [hW]
            clear hW hne
            refine hK.out _ _ HR14.out.S (fun _ => ?_)
            clear hK K
            refine ready1 11 rfl (fun K hK => ?_)
            obtain ⟨p0, p1, p2, p3, pf0, pf1, pf2, pf3, pl⟩ := HP9_14.out.facts
            go_simp
            clear p0 p1 p2 p3 pf0 pf1 pf2 pf3 pl
            obtain ⟨W115, hW⟩ := put4E W114 W112.heap.size (.int .i64 ba) (.bool bg) (.int .i64 bi) (.int .i64 bo)
            have HR15 := Lib.hid (HR14.out.putE HP9_14.out.2 hW)
            have hne : W101.heap.size ≠ W112.heap.size := HNE13.out
            have HP8_15 := Lib.hid (HP8_14.out.farE hne hW)
            have HP9_15 := Lib.hid (HP9_14.out.setE hW)
            rw [hW]
            clear hW hne
            refine hK.out _ _ HR15.out.S (fun _ => ?_)
            clear hK K
            refine done_by ?_
            go_wp2_with fail
            go_meet
            exact ⟨W101.heap.size, W112.heap.size, rfl, rfl, HR15.out, HP8_15.out, HP9_15.out⟩
          · go_simp
            obtain ⟨W116, hW⟩ := al4E W111
            have HR16 := Lib.hid (HR11.out.allocE hW)
            have HP8_16 := Lib.hid (HP8_11.out.allocE hW)
            have HP9_16 := Lib.hid (HR11.out.spotE hW)
            have HNE16 := Lib.hid (show W101.heap.size ≠ W111.heap.size from Nat.ne_of_lt HP8_11.out.1.lt)
            rw [hW]
            clear hW
            refine hK.out _ _ HR16.out.S (fun _ => ?_)
            clear hK K
            refine ready1 7 rfl (fun K hK => ?_)
            go_simp
            have hto := to_any N base m v ms X (w.heap.size + 1) (X + 1) fr t (-1) (true && ae == 0) W116 (HM.out.fr0 HR16.out.fw) hn HR16.out.x HR16.out.y HR16.out.z
            rw [HB.out] at hto
            simp only [Spot.cells, spotC] at hto
            refine hto.mono ?_
            clear hto
            rintro e W117 ⟨rfl, hZ, hFF⟩
            have HR17 := Lib.hid (HR16.out.call hFF hZ)
            have HP8_17 := Lib.hid (HP8_16.out.call hFF)
            have HP9_17 := Lib.hid (HP9_16.out.call hFF)
            clear hFF hZ
            go_wp2_with fail
            refine hK.out _ _ HR17.out.S (fun _ => ?_)
            clear hK K
            refine ready1 10 rfl (fun K hK => ?_)
            obtain ⟨p0, p1, p2, p3, pf0, pf1, pf2, pf3, pl⟩ := HP8_17.out.facts
            go_simp
            clear p0 p1 p2 p3 pf0 pf1 pf2 pf3 pl
            obtain ⟨W118, hW⟩ := put4E W117 W101.heap.size (.int .i64 aa) (.bool ag) (.int .i64 ai) (.int .i64 ao)
            have HR18 := Lib.hid (HR17.out.putE HP8_17.out.2 hW)
            have hne : W111.heap.size ≠ W101.heap.size := HNE16.out.symm
            have HP9_18 := Lib.hid (HP9_17.out.farE hne hW)
            have HP8_18 := Lib.hid (HP8_17.out.setE hW)
            rw [hW]
            clear hW hne
            refine hK.out _ _ HR18.out.S (fun _ => ?_)
            clear hK K
            refine ready1 11 rfl (fun K hK => ?_)
            obtain ⟨p0, p1, p2, p3, pf0, pf1, pf2, pf3, pl⟩ := HP9_18.out.facts
            go_simp
            clear p0 p1 p2 p3 pf0 pf1 pf2 pf3 pl
            obtain ⟨W119, hW⟩ := put4E W118 W111.heap.size (.int .i64 ba) (.bool bg) (.int .i64 bi) (.int .i64 bo)
            have HR19 := Lib.hid (HR18.out.putE HP9_18.out.2 hW)
            have hne : W101.heap.size ≠ W111.heap.size := HNE16.out
            have HP8_19 := Lib.hid (HP8_18.out.farE hne hW)
            have HP9_19 := Lib.hid (HP9_18.out.setE hW)
            rw [hW]
            clear hW hne
            refine hK.out _ _ HR19.out.S (fun _ => ?_)
            clear hK K
            refine done_by ?_
            go_wp2_with fail
            go_meet
            exact ⟨W101.heap.size, W111.heap.size, rfl, rfl, HR19.out, HP8_19.out, HP9_19.out⟩
        · go_simp
          obtain ⟨W120, hW⟩ := al4E W101
          have HR20 := Lib.hid (HR1.out.allocE hW)
          have HP9_20 := Lib.hid (HR1.out.spotE hW)
          rw [hW]
          clear hW
          refine hK.out _ _ HR20.out.S (fun _ => ?_)
          clear hK K
          refine ready2 7 8 rfl rfl (fun K hK => ?_) (fun K hK => ?_)
          · go_simp
            have hto := to_any N base m v ms X (w.heap.size + 1) (X + 1) fr t (-1) (true && ae == 0) W120 (HM.out.fr0 HR20.out.fw) hn HR20.out.x HR20.out.y HR20.out.z
            rw [HB.out] at hto
            simp only [Spot.cells, spotC] at hto
            refine hto.mono ?_
            clear hto
            rintro e W121 ⟨rfl, hZ, hFF⟩
            have HR21 := Lib.hid (HR20.out.call hFF hZ)
            have HP9_21 := Lib.hid (HP9_20.out.call hFF)
            clear hFF hZ
            go_wp2_with fail
            refine hK.out _ _ HR21.out.S (fun _ => ?_)
            clear hK K
            refine ready1 8 rfl (fun K hK => ?_)
            go_simp
            obtain ⟨W122, hW⟩ := al4E W121
            have HR22 := Lib.hid (HR21.out.allocE hW)
            have HP9_22 := Lib.hid (HP9_21.out.allocE hW)
            have HP8_22 := Lib.hid (HR21.out.spotE hW)
            have HNE22 := Lib.hid (show W121.heap.size ≠ W101.heap.size from (Nat.ne_of_lt HP9_21.out.1.lt).symm)
            rw [hW]
            clear hW
            refine hK.out _ _ HR22.out.S (fun _ => ?_)
            clear hK K
            refine ready1 10 rfl (fun K hK => ?_)
            obtain ⟨p0, p1, p2, p3, pf0, pf1, pf2, pf3, pl⟩ := HP8_22.out.facts
            go_simp
            clear p0 p1 p2 p3 pf0 pf1 pf2 pf3 pl
            obtain ⟨W123, hW⟩ := put4E W122 W121.heap.size (.int .i64 aa) (.bool ag) (.int .i64 ai) (.int .i64 ao)
            have HR23 := Lib.hid (HR22.out.putE HP8_22.out.2 hW)
            have hne : W101.heap.size ≠ W121.heap.size := HNE22.out.symm
            have HP9_23 := Lib.hid (HP9_22.out.farE hne hW)
            have HP8_23 := Lib.hid (HP8_22.out.setE hW)
            rw [hW]
            clear hW hne
            refine hK.out _ _ HR23.out.S (fun _ => ?_)
            clear hK K
            refine ready1 11 rfl (fun K hK => ?_)
            obtain ⟨p0, p1, p2, p3, pf0, pf1, pf2, pf3, pl⟩ := HP9_23.out.facts
            go_simp
            clear p0 p1 p2 p3 pf0 pf1 pf2 pf3 pl
            obtain ⟨W124, hW⟩ := put4E W123 W101.heap.size (.int .i64 ba) (.bool bg) (.int .i64 bi) (.int .i64 bo)
            have HR24 := Lib.hid (HR23.out.putE HP9_23.out.2 hW)
            have hne : W121.heap.size ≠ W101.heap.size := HNE22.out
            have HP8_24 := Lib.hid (HP8_23.out.farE hne hW)
            have HP9_24 := Lib.hid (HP9_23.out.setE hW)
            rw [hW]
            clear hW hne
            refine hK.out _ _ HR24.out.S (fun _ => ?_)
            clear hK K
            refine done_by ?_
            go_wp2_with fail
            go_meet
            exact ⟨W121.heap.size, W101.heap.size, rfl, rfl, HR24.out, HP8_24.out, HP9_24.out⟩
          · go_simp
            obtain ⟨W125, hW⟩ := al4E W120
            have HR25 := Lib.hid (HR20.out.allocE hW)
            have HP9_25 := Lib.hid (HP9_20.out.allocE hW)
            have HP8_25 := Lib.hid (HR20.out.spotE hW)
            have HNE25 := Lib.hid (show W120.heap.size ≠ W101.heap.size from (Nat.ne_of_lt HP9_20.out.1.lt).symm)
            rw [hW]
            clear hW
            refine hK.out _ _ HR25.out.S (fun _ => ?_)
            clear hK K
            refine ready1 7 rfl (fun K hK => ?_)
            go_simp
            have hto := to_any N base m v ms X (w.heap.size + 1) (X + 1) fr t (-1) (true && ae == 0) W125 (HM.out.fr0 HR25.out.fw) hn HR25.out.x HR25.out.y HR25.out.z
            rw [HB.out] at hto
            simp only [Spot.cells, spotC] at hto
            refine hto.mono ?_
            clear hto
            rintro e W126 ⟨rfl, hZ, hFF⟩
            have HR26 := Lib.hid (HR25.out.call hFF hZ)
            have HP9_26 := Lib.hid (HP9_25.out.call hFF)
            have HP8_26 := Lib.hid (HP8_25.out.call hFF)
            clear hFF hZ
            go_wp2_with fail
            refine hK.out _ _ HR26.out.S (fun _ => ?_)
            clear hK K
            refine ready1 10 rfl (fun K hK => ?_)
            obtain ⟨p0, p1, p2, p3, pf0, pf1, pf2, pf3, pl⟩ := HP8_26.out.facts
            go_simp
            clear p0 p1 p2 p3 pf0 pf1 pf2 pf3 pl
            obtain ⟨W127, hW⟩ := put4E W126 W120.heap.size (.int .i64 aa) (.bool ag) (.int .i64 ai) (.int .i64 ao)
            have HR27 := Lib.hid (HR26.out.putE HP8_26.out.2 hW)
            have hne : W101.heap.size ≠ W120.heap.size := HNE25.out.symm
            have HP9_27 := Lib.hid (HP9_26.out.farE hne hW)
            have HP8_27 := Lib.hid (HP8_26.out.setE hW)
            rw [hW]
            clear hW hne
            refine hK.out _ _ HR27.out.S (fun _ => ?_)
            clear hK K
            refine ready1 11 rfl (fun K hK => ?_)
            obtain ⟨p0, p1, p2, p3, pf0, pf1, pf2, pf3, pl⟩ := HP9_27.out.facts
            go_simp
            clear p0 p1 p2 p3 pf0 pf1 pf2 pf3 pl
            obtain ⟨W128, hW⟩ := put4E W127 W101.heap.size (.int .i64 ba) (.bool bg) (.int .i64 bi) (.int .i64 bo)
            have HR28 := Lib.hid (HR27.out.putE HP9_27.out.2 hW)
            have hne : W120.heap.size ≠ W101.heap.size := HNE25.out
            have HP8_28 := Lib.hid (HP8_27.out.farE hne hW)
            have HP9_28 := Lib.hid (HP9_27.out.setE hW)
            rw [hW]
            clear hW hne
            refine hK.out _ _ HR28.out.S (fun _ => ?_)
            clear hK K
            refine done_by ?_
            go_wp2_with fail
            go_meet
            exact ⟨W120.heap.size, W101.heap.size, rfl, rfl, HR28.out, HP8_28.out, HP9_28.out⟩
      · go_simp
        obtain ⟨W129, hW⟩ := al4E W0
        have HR29 := Lib.hid (HR0.out.allocE hW)
        have HP8_29 := Lib.hid (HR0.out.spotE hW)
        rw [hW]
        clear hW
        refine hK.out _ _ HR29.out.S (fun _ => ?_)
        clear hK K
        refine ready2 3 9 rfl rfl (fun K hK => ?_) (fun K hK => ?_)
        · go_simp
          have hto := to_any N base m v ms X (w.heap.size + 1) (X + 1) fr f 1 true W129 (HM.out.fr0 HR29.out.fw) hn HR29.out.x HR29.out.y HR29.out.z
          rw [HA.out] at hto
          simp only [Spot.cells, spotC] at hto
          refine hto.mono ?_
          clear hto
          rintro e W130 ⟨rfl, hZ, hFF⟩
          have HR30 := Lib.hid (HR29.out.call hFF hZ)
          have HP8_30 := Lib.hid (HP8_29.out.call hFF)
          clear hFF hZ
          go_wp2_with fail
          refine hK.out _ _ HR30.out.S (fun _ => ?_)
          clear hK K
          refine ready2 7 9 rfl rfl (fun K hK => ?_) (fun K hK => ?_)
          · go_simp
            have hto := to_any N base m v ms X (w.heap.size + 1) (X + 1) fr t (-1) (true && ae == 0) W130 (HM.out.fr0 HR30.out.fw) hn HR30.out.x HR30.out.y HR30.out.z
            rw [HB.out] at hto
            simp only [Spot.cells, spotC] at hto
            refine hto.mono ?_
            clear hto
            rintro e W131 ⟨rfl, hZ, hFF⟩
            have HR31 := Lib.hid (HR30.out.call hFF hZ)
            have HP8_31 := Lib.hid (HP8_30.out.call hFF)
            clear hFF hZ
            go_wp2_with fail
            refine hK.out _ _ HR31.out.S (fun _ => ?_)
            clear hK K
            refine ready1 9 rfl (fun K hK => ?_)
            go_simp
            obtain ⟨W132, hW⟩ := al4E W131
            have HR32 := Lib.hid (HR31.out.allocE hW)
            have HP8_32 := Lib.hid (HP8_31.out.allocE hW)
            have HP9_32 := Lib.hid (HR31.out.spotE hW)
            have HNE32 := Lib.hid (show W0.heap.size ≠ W131.heap.size from Nat.ne_of_lt HP8_31.out.1.lt)
            rw [hW]
            clear hW
            refine hK.out _ _ HR32.out.S (fun _ => ?_)
            clear hK K
            refine ready1 10 rfl (fun K hK => ?_)
            obtain ⟨p0, p1, p2, p3, pf0, pf1, pf2, pf3, pl⟩ := HP8_32.out.facts
            go_simp
            clear p0 p1 p2 p3 pf0 pf1 pf2 pf3 pl
            obtain ⟨W133, hW⟩ := put4E W132 W0.heap.size (.int .i64 aa) (.bool ag) (.int .i64 ai) (.int .i64 ao)
            have HR33 := Lib.hid (HR32.out.putE HP8_32.out.2 hW)
            have hne : W131.heap.size ≠ W0.heap.size := HNE32.out.symm
            have HP9_33 := Lib.hid (HP9_32.out.farE hne hW)
            have HP8_33 := Lib.hid (HP8_32.out.setE hW)
            rw [hW]
            clear hW hne
            refine hK.out _ _ HR33.out.S (fun _ => ?_)
            clear hK K
            refine ready1 11 rfl (fun K hK => ?_)
            obtain ⟨p0, p1, p2, p3, pf0, pf1, pf2, pf3, pl⟩ := HP9_33.out.facts
            go_simp
            clear p0 p1 p2 p3 pf0 pf1 pf2 pf3 pl
            obtain ⟨W134, hW⟩ := put4E W133 W131.heap.size (.int .i64 ba) (.bool bg) (.int .i64 bi) (.int .i64 bo)
            have HR34 := Lib.hid (HR33.out.putE HP9_33.out.2 hW)
            have hne : W0.heap.size ≠ W131.heap.size := HNE32.out
            have HP8_34 := Lib.hid (HP8_33.out.farE hne hW)
            have HP9_34 := Lib.hid (HP9_33.out.setE hW)
            rw [hW]
            clear hW hne
            refine hK.out _ _ HR34.out.S (fun _ => ?_)
            clear hK K
            refine done_by ?_
            go_wp2_with fail
            go_meet
            exact ⟨W0.heap.size, W131.heap.size, rfl, rfl, HR34.out, HP8_34.out, HP9_34.out⟩
          · go_simp
            obtain ⟨W135, hW⟩ := al4E W130
            have HR35 := Lib.hid (HR30.out.allocE hW)
            have HP8_35 := Lib.hid (HP8_30.out.allocE hW)
            have HP9_35 := Lib.hid (HR30.out.spotE hW)
            have HNE35 := Lib.hid (show W0.heap.size ≠ W130.heap.size from Nat.ne_of_lt HP8_30.out.1.lt)
            rw [hW]
            clear hW
            refine hK.out _ _ HR35.out.S (fun _ => ?_)
            clear hK K
            refine ready1 7 rfl (fun K hK => ?_)
            go_simp
            have hto := to_any N base m v ms X (w.heap.size + 1) (X + 1) fr t (-1) (true && ae == 0) W135 (HM.out.fr0 HR35.out.fw) hn HR35.out.x HR35.out.y HR35.out.z
            rw [HB.out] at hto
            simp only [Spot.cells, spotC] at hto
            refine hto.mono ?_
            clear hto
            rintro e W136 ⟨rfl, hZ, hFF⟩
            have HR36 := Lib.hid (HR35.out.call hFF hZ)
            have HP8_36 := Lib.hid (HP8_35.out.call hFF)
            have HP9_36 := Lib.hid (HP9_35.out.call hFF)
            clear hFF hZ
            go_wp2_with fail
            refine hK.out _ _ HR36.out.S (fun _ => ?_)
            clear hK K
            refine ready1 10 rfl (fun K hK => ?_)
            obtain ⟨p0, p1, p2, p3, pf0, pf1, pf2, pf3, pl⟩ := HP8_36.out.facts
            go_simp
            clear p0 p1 p2 p3 pf0 pf1 pf2 pf3 pl
            obtain ⟨W137, hW⟩ := put4E W136 W0.heap.size (.int .i64 aa) (.bool ag) (.int .i64 ai) (.int .i64 ao)
            have HR37 := Lib.hid (HR36.out.putE HP8_36.out.2 hW)
            have hne : W130.heap.size ≠ W0.heap.size := HNE35.out.symm
            have HP9_37 := Lib.hid (HP9_36.out.farE hne hW)
            have HP8_37 := Lib.hid (HP8_36.out.setE hW)
            rw [hW]
            clear hW hne
            refine hK.out _ _ HR37.out.S (fun _ => ?_)
            clear hK K
            refine ready1 11 rfl (fun K hK => ?_)
            obtain ⟨p0, p1, p2, p3, pf0, pf1, pf2, pf3, pl⟩ := HP9_37.out.facts
            go_simp
            clear p0 p1 p2 p3 pf0 pf1 pf2 pf3 pl
            obtain ⟨W138, hW⟩ := put4E W137 W130.heap.size (.int .i64 ba) (.bool bg) (.int .i64 bi) (.int .i64 bo)
            have HR38 := Lib.hid (HR37.out.putE HP9_37.out.2 hW)
            have hne : W0.heap.size ≠ W130.heap.size := HNE35.out
            have HP8_38 := Lib.hid (HP8_37.out.farE hne hW)
            have HP9_38 := Lib.hid (HP9_37.out.setE hW)
            rw [hW]
            clear hW hne
            refine hK.out _ _ HR38.out.S (fun _ => ?_)
            clear hK K
            refine done_by ?_
            go_wp2_with fail
            go_meet
            exact ⟨W0.heap.size, W130.heap.size, rfl, rfl, HR38.out, HP8_38.out, HP9_38.out⟩
        · go_simp
          obtain ⟨W139, hW⟩ := al4E W129
          have HR39 := Lib.hid (HR29.out.allocE hW)
          have HP8_39 := Lib.hid (HP8_29.out.allocE hW)
          have HP9_39 := Lib.hid (HR29.out.spotE hW)
          have HNE39 := Lib.hid (show W0.heap.size ≠ W129.heap.size from Nat.ne_of_lt HP8_29.out.1.lt)
          rw [hW]
          clear hW
          refine hK.out _ _ HR39.out.S (fun _ => ?_)
          clear hK K
          refine ready1 3 rfl (fun K hK => ?_)
          go_simp
          have hto := to_any N base m v ms X (w.heap.size + 1) (X + 1) fr f 1 true W139 (HM.out.fr0 HR39.out.fw) hn HR39.out.x HR39.out.y HR39.out.z
          rw [HA.out] at hto
          simp only [Spot.cells, spotC] at hto
          refine hto.mono ?_
          clear hto
          rintro e W140 ⟨rfl, hZ, hFF⟩
          have HR40 := Lib.hid (HR39.out.call hFF hZ)
          have HP8_40 := Lib.hid (HP8_39.out.call hFF)
          have HP9_40 := Lib.hid (HP9_39.out.call hFF)
          clear hFF hZ
          go_wp2_with fail
          refine hK.out _ _ HR40.out.S (fun _ => ?_)
          clear hK K
          refine ready1 7 rfl (fun K hK => ?_)
          go_simp
          have hto := to_any N base m v ms X (w.heap.size + 1) (X + 1) fr t (-1) (true && ae == 0) W140 (HM.out.fr0 HR40.out.fw) hn HR40.out.x HR40.out.y HR40.out.z
          rw [HB.out] at hto
          simp only [Spot.cells, spotC] at hto
          refine hto.mono ?_
          clear hto
          rintro e W141 ⟨rfl, hZ, hFF⟩
          have HR41 := Lib.hid (HR40.out.call hFF hZ)
          have HP8_41 := Lib.hid (HP8_40.out.call hFF)
          have HP9_41 := Lib.hid (HP9_40.out.call hFF)
          clear hFF hZ
          go_wp2_with fail
          refine hK.out _ _ HR41.out.S (fun _ => ?_)
          clear hK K
          refine ready1 10 rfl (fun K hK => ?_)
          obtain ⟨p0, p1, p2, p3, pf0, pf1, pf2, pf3, pl⟩ := HP8_41.out.facts
          go_simp
          clear p0 p1 p2 p3 pf0 pf1 pf2 pf3 pl
          obtain ⟨W142, hW⟩ := put4E W141 W0.heap.size (.int .i64 aa) (.bool ag) (.int .i64 ai) (.int .i64 ao)
          have HR42 := Lib.hid (HR41.out.putE HP8_41.out.2 hW)
          have hne : W129.heap.size ≠ W0.heap.size := HNE39.out.symm
          have HP9_42 := Lib.hid (HP9_41.out.farE hne hW)
          have HP8_42 := Lib.hid (HP8_41.out.setE hW)
          rw [hW]
          clear hW hne
          refine hK.out _ _ HR42.out.S (fun _ => ?_)
          clear hK K
          refine ready1 11 rfl (fun K hK => ?_)
          obtain ⟨p0, p1, p2, p3, pf0, pf1, pf2, pf3, pl⟩ := HP9_42.out.facts
          go_simp
          clear p0 p1 p2 p3 pf0 pf1 pf2 pf3 pl
          obtain ⟨W143, hW⟩ := put4E W142 W129.heap.size (.int .i64 ba) (.bool bg) (.int .i64 bi) (.int .i64 bo)
          have HR43 := Lib.hid (HR42.out.putE HP9_42.out.2 hW)
          have hne : W0.heap.size ≠ W129.heap.size := HNE39.out
          have HP8_43 := Lib.hid (HP8_42.out.farE hne hW)
          have HP9_43 := Lib.hid (HP9_42.out.setE hW)
          rw [hW]
          clear hW hne
          refine hK.out _ _ HR43.out.S (fun _ => ?_)
          clear hK K
          refine done_by ?_
          go_wp2_with fail
          go_meet
          exact ⟨W0.heap.size, W129.heap.size, rfl, rfl, HR43.out, HP8_43.out, HP9_43.out⟩
      · go_simp
        obtain ⟨W144, hW⟩ := al4E W0
        have HR44 := Lib.hid (HR0.out.allocE hW)
        have HP9_44 := Lib.hid (HR0.out.spotE hW)
        rw [hW]
        clear hW
        refine hK.out _ _ HR44.out.S (fun _ => ?_)
        clear hK K
        refine ready2 3 8 rfl rfl (fun K hK => ?_) (fun K hK => ?_)
        · go_simp
          have hto := to_any N base m v ms X (w.heap.size + 1) (X + 1) fr f 1 true W144 (HM.out.fr0 HR44.out.fw) hn HR44.out.x HR44.out.y HR44.out.z
          rw [HA.out] at hto
          simp only [Spot.cells, spotC] at hto
          refine hto.mono ?_
          clear hto
          rintro e W145 ⟨rfl, hZ, hFF⟩
          have HR45 := Lib.hid (HR44.out.call hFF hZ)
          have HP9_45 := Lib.hid (HP9_44.out.call hFF)
          clear hFF hZ
          go_wp2_with fail
          refine hK.out _ _ HR45.out.S (fun _ => ?_)
          clear hK K
          refine ready2 7 8 rfl rfl (fun K hK => ?_) (fun K hK => ?_)
          · go_simp
            have hto := to_any N base m v ms X (w.heap.size + 1) (X + 1) fr t (-1) (true && ae == 0) W145 (HM.out.fr0 HR45.out.fw) hn HR45.out.x HR45.out.y HR45.out.z
            rw [HB.out] at hto
            simp only [Spot.cells, spotC] at hto
            refine hto.mono ?_
            clear hto
            rintro e W146 ⟨rfl, hZ, hFF⟩
            have HR46 := Lib.hid (HR45.out.call hFF hZ)
            have HP9_46 := Lib.hid (HP9_45.out.call hFF)
            clear hFF hZ
            go_wp2_with fail
            refine hK.out _ _ HR46.out.S (fun _ => ?_)
            clear hK K
            refine ready1 8 rfl (fun K hK => ?_)
            go_simp
            obtain ⟨W147, hW⟩ := al4E W146
            have HR47 := Lib.hid (HR46.out.allocE hW)
            have HP9_47 := Lib.hid (HP9_46.out.allocE hW)
            have HP8_47 := Lib.hid (HR46.out.spotE hW)
            have HNE47 := Lib.hid (show W146.heap.size ≠ W0.heap.size from (Nat.ne_of_lt HP9_46.out.1.lt).symm)
            rw [hW]
            clear hW
            refine hK.out _ _ HR47.out.S (fun _ => ?_)
            clear hK K
            refine ready1 10 rfl (fun K hK => ?_)
            obtain ⟨p0, p1, p2, p3, pf0, pf1, pf2, pf3, pl⟩ := HP8_47.out.facts
            go_simp
            clear p0 p1 p2 p3 pf0 pf1 pf2 pf3 pl
            obtain ⟨W148, hW⟩ := put4E W147 W146.heap.size (.int .i64 aa) (.bool ag) (.int .i64 ai) (.int .i64 ao)
            have HR48 := Lib.hid (HR47.out.putE HP8_47.out.2 hW)
            have hne : W0.heap.size ≠ W146.heap.size := HNE47.out.symm
            have HP9_48 := Lib.hid (HP9_47.out.farE hne hW)
            have HP8_48 := Lib.hid (HP8_47.out.setE hW)
            rw [hW]
            clear hW hne
            refine hK.out _ _ HR48.out.S (fun _ => ?_)
            clear hK K
            refine ready1 11 rfl (fun K hK => ?_)
            obtain ⟨p0, p1, p2, p3, pf0, pf1, pf2, pf3, pl⟩ := HP9_48.out.facts
            go_simp
            clear p0 p1 p2 p3 pf0 pf1 pf2 pf3 pl
            obtain ⟨W149, hW⟩ := put4E W148 W0.heap.size (.int .i64 ba) (.bool bg) (.int .i64 bi) (.int .i64 bo)
            have HR49 := Lib.hid (HR48.out.putE HP9_48.out.2 hW)
            have hne : W146.heap.size ≠ W0.heap.size := HNE47.out
            have HP8_49 := Lib.hid (HP8_48.out.farE hne hW)
            have HP9_49 := Lib.hid (HP9_48.out.setE hW)
            rw [hW]
            clear hW hne
            refine hK.out _ _ HR49.out.S (fun _ => ?_)
            clear hK K
            refine done_by ?_
            go_wp2_with fail
            go_meet
            exact ⟨W146.heap.size, W0.heap.size, rfl, rfl, HR49.out, HP8_49.out, HP9_49.out⟩
          · go_simp
            obtain ⟨W150, hW⟩ := al4E W145
            have HR50 := Lib.hid (HR45.out.allocE hW)
            have HP9_50 := Lib.hid (HP9_45.out.allocE hW)
            have HP8_50 := Lib.hid (HR45.out.spotE hW)
            have HNE50 := Lib.hid (show W145.heap.size ≠ W0.heap.size from (Nat.ne_of_lt HP9_45.out.1.lt).symm)
            rw [hW]
            clear hW
            refine hK.out _ _ HR50.out.S (fun _ => ?_)
            clear hK K
            refine ready1 7 rfl (fun K hK => ?_)
            go_simp
            have hto := to_any N base m v ms X (w.heap.size + 1) (X + 1) fr t (-1) (true && ae == 0) W150 (HM.out.fr0 HR50.out.fw) hn HR50.out.x HR50.out.y HR50.out.z
            rw [HB.out] at hto
            simp only [Spot.cells, spotC] at hto
            refine hto.mono ?_
            clear hto
            rintro e W151 ⟨rfl, hZ, hFF⟩
            have HR51 := Lib.hid (HR50.out.call hFF hZ)
            have HP9_51 := Lib.hid (HP9_50.out.call hFF)
            have HP8_51 := Lib.hid (HP8_50.out.call hFF)
            clear hFF hZ
            go_wp2_with fail
            refine hK.out _ _ HR51.out.S (fun _ => ?_)
            clear hK K
            refine ready1 10 rfl (fun K hK => ?_)
            obtain ⟨p0, p1, p2, p3, pf0, pf1, pf2, pf3, pl⟩ := HP8_51.out.facts
            go_simp
            clear p0 p1 p2 p3 pf0 pf1 pf2 pf3 pl
            obtain ⟨W152, hW⟩ := put4E W151 W145.heap.size (.int .i64 aa) (.bool ag) (.int .i64 ai) (.int .i64 ao)
            have HR52 := Lib.hid (HR51.out.putE HP8_51.out.2 hW)
            have hne : W0.heap.size ≠ W145.heap.size := HNE50.out.symm
            have HP9_52 := Lib.hid (HP9_51.out.farE hne hW)
            have HP8_52 := Lib.hid (HP8_51.out.setE hW)
            rw [hW]
            clear hW hne
            refine hK.out _ _ HR52.out.S (fun _ => ?_)
            clear hK K
            refine ready1 11 rfl (fun K hK => ?_)
            obtain ⟨p0, p1, p2, p3, pf0, pf1, pf2, pf3, pl⟩ := HP9_52.out.facts
            go_simp
            clear p0 p1 p2 p3 pf0 pf1 pf2 pf3 pl
            obtain ⟨W153, hW⟩ := put4E W152 W0.heap.size (.int .i64 ba) (.bool bg) (.int .i64 bi) (.int .i64 bo)
            have HR53 := Lib.hid (HR52.out.putE HP9_52.out.2 hW)
            have hne : W145.heap.size ≠ W0.heap.size := HNE50.out
            have HP8_53 := Lib.hid (HP8_52.out.farE hne hW)
            have HP9_53 := Lib.hid (HP9_52.out.setE hW)
            rw [hW]
            clear hW hne
            refine hK.out _ _ HR53.out.S (fun _ => ?_)
            clear hK K
            refine done_by ?_
            go_wp2_with fail
            go_meet
            exact ⟨W145.heap.size, W0.heap.size, rfl, rfl, HR53.out, HP8_53.out, HP9_53.out⟩
        · go_simp
          obtain ⟨W154, hW⟩ := al4E W144
          have HR54 := Lib.hid (HR44.out.allocE hW)
          have HP9_54 := Lib.hid (HP9_44.out.allocE hW)
          have HP8_54 := Lib.hid (HR44.out.spotE hW)
          have HNE54 := Lib.hid (show W144.heap.size ≠ W0.heap.size from (Nat.ne_of_lt HP9_44.out.1.lt).symm)
          rw [hW]
          clear hW
          refine hK.out _ _ HR54.out.S (fun _ => ?_)
          clear hK K
          refine ready1 3 rfl (fun K hK => ?_)
          go_simp
          have hto := to_any N base m v ms X (w.heap.size + 1) (X + 1) fr f 1 true W154 (HM.out.fr0 HR54.out.fw) hn HR54.out.x HR54.out.y HR54.out.z
          rw [HA.out] at hto
          simp only [Spot.cells, spotC] at hto
          refine hto.mono ?_
          clear hto
          rintro e W155 ⟨rfl, hZ, hFF⟩
          have HR55 := Lib.hid (HR54.out.call hFF hZ)
          have HP9_55 := Lib.hid (HP9_54.out.call hFF)
          have HP8_55 := Lib.hid (HP8_54.out.call hFF)
          clear hFF hZ
          go_wp2_with fail
          refine hK.out _ _ HR55.out.S (fun _ => ?_)
          clear hK K
          refine ready1 7 rfl (fun K hK => ?_)
          go_simp
          have hto := to_any N base m v ms X (w.heap.size + 1) (X + 1) fr t (-1) (true && ae == 0) W155 (HM.out.fr0 HR55.out.fw) hn HR55.out.x HR55.out.y HR55.out.z
          rw [HB.out] at hto
          simp only [Spot.cells, spotC] at hto
          refine hto.mono ?_
          clear hto
          rintro e W156 ⟨rfl, hZ, hFF⟩
          have HR56 := Lib.hid (HR55.out.call hFF hZ)
          have HP9_56 := Lib.hid (HP9_55.out.call hFF)
          have HP8_56 := Lib.hid (HP8_55.out.call hFF)
          clear hFF hZ
          go_wp2_with fail
          refine hK.out _ _ HR56.out.S (fun _ => ?_)
          clear hK K
          refine ready1 10 rfl (fun K hK => ?_)
          obtain ⟨p0, p1, p2, p3, pf0, pf1, pf2, pf3, pl⟩ := HP8_56.out.facts
          go_simp
          clear p0 p1 p2 p3 pf0 pf1 pf2 pf3 pl
          obtain ⟨W157, hW⟩ := put4E W156 W144.heap.size (.int .i64 aa) (.bool ag) (.int .i64 ai) (.int .i64 ao)
          have HR57 := Lib.hid (HR56.out.putE HP8_56.out.2 hW)
          have hne : W0.heap.size ≠ W144.heap.size := HNE54.out.symm
          have HP9_57 := Lib.hid (HP9_56.out.farE hne hW)
          have HP8_57 := Lib.hid (HP8_56.out.setE hW)
          rw [hW]
          clear hW hne
          refine hK.out _ _ HR57.out.S (fun _ => ?_)
          clear hK K
          refine ready1 11 rfl (fun K hK => ?_)
          obtain ⟨p0, p1, p2, p3, pf0, pf1, pf2, pf3, pl⟩ := HP9_57.out.facts
          go_simp
          clear p0 p1 p2 p3 pf0 pf1 pf2 pf3 pl
          obtain ⟨W158, hW⟩ := put4E W157 W0.heap.size (.int .i64 ba) (.bool bg) (.int .i64 bi) (.int .i64 bo)
          have HR58 := Lib.hid (HR57.out.putE HP9_57.out.2 hW)
          have hne : W144.heap.size ≠ W0.heap.size := HNE54.out
          have HP8_58 := Lib.hid (HP8_57.out.farE hne hW)
          have HP9_58 := Lib.hid (HP9_57.out.setE hW)
          rw [hW]
          clear hW hne
          refine hK.out _ _ HR58.out.S (fun _ => ?_)
          clear hK K
          refine done_by ?_
          go_wp2_with fail
          go_meet
          exact ⟨W144.heap.size, W0.heap.size, rfl, rfl, HR58.out, HP8_58.out, HP9_58.out⟩
    case rest =>
      obtain ⟨g8, g9, rfl, rfl, HRc, HP8, HP9⟩ := hcut
      clear HR2 HF1 HS1 HY1 HO1 HSZ HF HS HY HO
      obtain ⟨F1, hF1⟩ : ∃ F1, ((true && ae == 0) && be == 0) = F1 := ⟨_, rfl⟩
      have HF1 := Lib.hid hF1
      rw [hF1] at HRc
      clear hF1
      go_upto_region 7 with (fail)
      go_cut [] from 28 to 37 (fun wx => Hid (RS m [.int .i64 k, .int .i64 f, .int .i64 t, .int .i64 gf, .int .i64 gt, .int .i64 ins, .slice B xn b, .int .i64 mk] X fr (F1 && !(ag && bg)) w wx) ∧ Hid (SpotAt X wx g8 [.int .i64 aa, .bool ag, .int .i64 ai, .int .i64 ao]) ∧ Hid (SpotAt X wx g9 [.int .i64 ba, .bool bg, .int .i64 bi, .int .i64 bo]))
      case first =>
        have z0 := HRc.out.z.cell 0
        have zf := HRc.out.z.frozen 0
        have zl := HRc.out.z.lt
        obtain ⟨p0, p1, p2, p3, pf0, pf1, pf2, pf3, pl⟩ := HP8.out.facts
        obtain ⟨q0, q1, q2, q3, qf0, qf1, qf2, qf3, ql⟩ := HP9.out.facts
        simp only [List.getElem?_cons_zero] at z0
        clear p0 p2 p3 q0 q2 q3 pf0 pf1 pf2 pf3 qf0 qf1 qf2 qf3
        cases F1 <;> cases ag <;> cases bg
        all_goals
          go_wp2_with fail
          go_meet
          exact ⟨HRc.out.put1 _, HP8.out.farz _, HP9.out.farz _⟩
      case rest =>
        obtain ⟨HR7, HP8, HP9⟩ := hcut
        obtain ⟨F2, hF2⟩ : ∃ F2, (F1 && !(ag && bg)) = F2 := ⟨_, rfl⟩
        have HF2 := Lib.hid hF2
        rw [hF2] at HR7
        clear hF2 HRc
        go_upto_region 8 with (fail)
        go_cut [] from 38 to 43 (fun wx => Hid (RS m [.int .i64 k, .int .i64 aa, .int .i64 ba, .int .i64 gf, .int .i64 gt, .int .i64 ins, .slice B xn b, .int .i64 mk] X fr F2 w wx))
        case first =>
          refine wp_region_held_drew (S := fun W => W.cell? ⟨g8, 0, none⟩ = some (.int .i64 aa) ∧ W.cell? ⟨g9, 0, none⟩ = some (.int .i64 ba)) (by kernel_rfl) ⟨HP8.out.facts.1, HP9.out.facts.1⟩ (fun _ => ?_)
          have HR0 := Lib.hid (HR7.out.frm (Fr.refl _ _).drew HR7.out.z.drew)
          have HP80 : Hid (SpotAt X wc.drew g8 [.int .i64 aa, .bool ag, .int .i64 ai, .int .i64 ao]) := HP8.out
          have HP90 : Hid (SpotAt X wc.drew g9 [.int .i64 ba, .bool bg, .int .i64 bi, .int .i64 bo]) := HP9.out
          have hlo := HR7.out.lo
          have h8 := HP8.out.2
          have h9 := HP9.out.2
          have n8 : ∀ (i : Nat) (v : Value) (W : World), (W.cell? ⟨g8, 0, none⟩ = some (.int .i64 aa) ∧ W.cell? ⟨g9, 0, none⟩ = some (.int .i64 ba)) → (World.cell? (W.setCell ⟨w.heap.size, i, none⟩ v) ⟨g8, 0, none⟩ = some (.int .i64 aa) ∧ World.cell? (W.setCell ⟨w.heap.size, i, none⟩ v) ⟨g9, 0, none⟩ = some (.int .i64 ba)) := fun i v W h => by
            rw [World.cell?_setCell_far _ ⟨w.heap.size, i, none⟩ ⟨g8, 0, none⟩ _ (show w.heap.size ≠ g8 by omega), World.cell?_setCell_far _ ⟨w.heap.size, i, none⟩ ⟨g9, 0, none⟩ _ (show w.heap.size ≠ g9 by omega)]; exact h
          have HN8 := Lib.hid n8
          clear HR7 HP8 HP9 h8 h9 hlo n8
          generalize wc.drew = W0 at HR0 HP80 HP90 ⊢
          have hS0 : W0.cell? ⟨g8, 0, none⟩ = some (.int .i64 aa) ∧ W0.cell? ⟨g9, 0, none⟩ = some (.int .i64 ba) := ⟨HP80.out.facts.1, HP90.out.facts.1⟩
          have HS0 := Lib.hid hS0
          clear hS0
          refine wpAnyH_take (i := 0) (v := .pointer (some ⟨g8, 0, none⟩)) rfl (by kernel_rfl) (by kernel_rfl) (by kernel_rfl) (fun _ _ _ h => h) (Or.inl ⟨by rfl, fun w hSw => by (try dsimp only at hSw); obtain ⟨s1, s2⟩ := hSw; go_simp⟩) HS0.out ?_
          refine wpAnyH_take (i := 1) (v := .int .i64 aa) rfl (by kernel_rfl) (by kernel_rfl) (by kernel_rfl) (fun _ _ _ h => h) (Or.inl ⟨by rfl, fun w hSw => by (try dsimp only at hSw); obtain ⟨s1, s2⟩ := hSw; go_simp⟩) HS0.out ?_
          refine wpAnyH_take (i := 2) (v := .pointer (some ⟨g9, 0, none⟩)) rfl (by kernel_rfl) (by kernel_rfl) (by kernel_rfl) (fun _ _ _ h => h) (Or.inl ⟨by rfl, fun w hSw => by (try dsimp only at hSw); obtain ⟨s1, s2⟩ := hSw; go_simp⟩) HS0.out ?_
          refine wpAnyH_take (i := 3) (v := .int .i64 ba) rfl (by kernel_rfl) (by kernel_rfl) (by kernel_rfl) (fun _ _ _ h => h) (Or.inl ⟨by rfl, fun w hSw => by (try dsimp only at hSw); obtain ⟨s1, s2⟩ := hSw; go_simp⟩) HS0.out ?_
          refine wpAnyH_take (i := 4) (v := .pointer (some ⟨w.heap.size, 1, none⟩)) rfl (by kernel_rfl) (by kernel_rfl) (by kernel_rfl) (fun _ _ _ h => h) (Or.inl ⟨by rfl, fun w hSw => by (try dsimp only at hSw); obtain ⟨s1, s2⟩ := hSw; go_simp⟩) HS0.out ?_
          refine ready1 5 rfl (fun K hK => ?_)
          have bf := HR0.out.s.frozen 1
          have bl := HR0.out.s.lt
          have bc := HR0.out.s.cell 1
          simp only [List.getElem?_cons_zero, List.getElem?_cons_succ] at bc
          go_simp
          clear bf bl bc
          obtain ⟨W1, hW⟩ : ∃ W9, W0.setCell ⟨w.heap.size, 1, none⟩ (.int .i64 aa) = W9 := ⟨_, rfl⟩
          have HR1 := Lib.hid (show RS m [.int .i64 k, .int .i64 aa, .int .i64 t, .int .i64 gf, .int .i64 gt, .int .i64 ins, .slice B xn b, .int .i64 mk] X fr F2 w W1 by rw [← hW]; exact HR0.out.sets 1 _)
          have HS1 := Lib.hid (show W1.cell? ⟨g8, 0, none⟩ = some (.int .i64 aa) ∧ W1.cell? ⟨g9, 0, none⟩ = some (.int .i64 ba) by rw [← hW]; exact HN8.out _ _ _ HS0.out)
          rw [hW]
          clear hW
          refine hK.out _ _ HS1.out (fun _ => ?_)
          clear hK K
          try simp only [List.getElem_toArray, List.getElem_cons_succ, List.getElem_cons_zero, Act.put, List.setIfInBounds_toArray, List.set_cons_zero, List.set_cons_succ]
          refine wpAnyH_take (i := 6) (v := .pointer (some ⟨w.heap.size, 2, none⟩)) rfl (by kernel_rfl) (by kernel_rfl) (by kernel_rfl) (fun _ _ _ h => h) (Or.inl ⟨by rfl, fun w hSw => by (try dsimp only at hSw); obtain ⟨s1, s2⟩ := hSw; go_simp⟩) HS1.out ?_
          refine ready1 7 rfl (fun K hK => ?_)
          have bf := HR1.out.s.frozen 2
          have bl := HR1.out.s.lt
          have bc := HR1.out.s.cell 2
          simp only [List.getElem?_cons_zero, List.getElem?_cons_succ] at bc
          go_simp
          clear bf bl bc
          obtain ⟨W2, hW⟩ : ∃ W9, W1.setCell ⟨w.heap.size, 2, none⟩ (.int .i64 ba) = W9 := ⟨_, rfl⟩
          have HR2 := Lib.hid (show RS m [.int .i64 k, .int .i64 aa, .int .i64 ba, .int .i64 gf, .int .i64 gt, .int .i64 ins, .slice B xn b, .int .i64 mk] X fr F2 w W2 by rw [← hW]; exact HR1.out.sets 2 _)
          have HS2 := Lib.hid (show W2.cell? ⟨g8, 0, none⟩ = some (.int .i64 aa) ∧ W2.cell? ⟨g9, 0, none⟩ = some (.int .i64 ba) by rw [← hW]; exact HN8.out _ _ _ HS1.out)
          rw [hW]
          clear hW
          refine hK.out _ _ HS2.out (fun _ => ?_)
          clear hK K
          refine done_by ?_
          go_wp2_with fail
          go_meet
          exact HR2
        case rest =>
          have HR9 := hcut
          have b0 := HR9.out.s.cell 0
          have bl := HR9.out.s.lt
          simp only [List.getElem?_cons_zero] at b0
          have HTH := Lib.hid (show ∀ s' : StepM, ∀ F' : Bool, (s', F') = (if k = 0 then (⟨k, aa, max aa ba, gf, gt, ins, mk, x⟩, F2) else if k = 1 then (⟨k, aa, ba, (mapsF ms fr gf (-1)).1.a, (mapsF ms fr gt 1).1.a, ins, mk, x⟩, (F2 && (mapsF ms fr gf (-1)).2 == 0) && (mapsF ms fr gt 1).2 == 0) else (⟨k, aa, ba, gf, gt, ins, mk, x⟩, F2 && decide (aa < ba))) → R = if F' = true ∧ stepF s' = 0 then some s' else none from fun s' F' h => by
            rw [← HR.out, stepThru, if_neg (by rw [HE.out, HE0.out]; simp)]
            simp only [HA.out, HB.out, HF1.out, HF2.out]
            rw [← h])
          go_upto_block 0 with (fail)
          clear b0 bl
          go_cut [] from 46 to 75 (fun wx => ∃ (s' : StepM) (F' : Bool), s'.l = x ∧ Hid (R = if F' = true ∧ stepF s' = 0 then some s' else none) ∧ Hid (RS m [.int .i64 s'.k, .int .i64 s'.f, .int .i64 s'.t, .int .i64 s'.gf, .int .i64 s'.gt, .int .i64 s'.ins, .slice B xn b, .int .i64 s'.m] X fr F' w wx))
          case first =>
            have b1 := HR9.out.s.cell 1
            have b2 := HR9.out.s.cell 2
            have bl := HR9.out.s.lt
            have bf := HR9.out.s.frozen 2
            have z0 := HR9.out.z.cell 0
            have zf := HR9.out.z.frozen 0
            have zl := HR9.out.z.lt
            simp only [List.getElem?_cons_zero, List.getElem?_cons_succ] at b1 b2 z0
            by_cases hk0 : k = 0
            · have HT1 := Lib.hid (HTH.out _ _ (if_pos hk0).symm)
              have hk0' : (k == 0) = true := by simpa using hk0
              clear z0 zf zl hk0
              go_wp2_with fail
              all_goals first
                | (have hmx : ba ≤ aa := by assumption
                   rw [Int.max_eq_left hmx] at HT1
                   go_meet
                   exact ⟨_, _, rfl, HT1, HR9.out.sets 2 _⟩)
                | (have hmx : aa ≤ ba := by first | assumption | exact Int.le_of_lt (by assumption) | omega
                   rw [Int.max_eq_right hmx] at HT1
                   go_meet
                   exact ⟨_, _, rfl, HT1, HR9.out.sets 2 _⟩)
            · have hk0' : (k == 0) = false := by simpa using hk0
              by_cases hk1 : k = 1
              · have HT1 := Lib.hid (HTH.out _ _ ((if_neg hk0).trans (if_pos hk1)).symm)
                have hk1' : (k == 1) = true := by simpa using hk1
                clear b1 b2 z0 zf zl bf bl hk1
                go_upto_region 14 with (fail)
                obtain ⟨⟨⟨ca, cg, ci, co⟩, ce⟩, hc⟩ : ∃ r, mapsF ms fr gf (-1) = r := ⟨_, rfl⟩
                have HC := Lib.hid hc
                obtain ⟨⟨⟨da, dg, di, d3⟩, de⟩, hd⟩ : ∃ r, mapsF ms fr gt 1 = r := ⟨_, rfl⟩
                have HD := Lib.hid hd
                rw [hc, hd] at HT1
                have hfs := fieldSpot
                clear hc hd HTH
                refine wp_region_held_drew (S := fun _ : World => True) (by kernel_rfl) trivial (fun _ => ?_)
                have HR0 := Lib.hid (HR9.out.frm (Fr.refl _ _).drew HR9.out.z.drew)
                generalize wc.drew = W0 at HR0 ⊢
                refine take_by (i := 0) (v := .func (.func 117) #[] #[.pointer (some ⟨X, 0, none⟩), .pointer (some ⟨w.heap.size + 1, 0, none⟩), .pointer (some ⟨X + 1, 0, none⟩)]) rfl trivial ?_
                refine take_by (i := 1) (v := .pointer (some ⟨w.heap.size, 3, none⟩)) rfl trivial ?_
                refine take_by (i := 5) (v := .func (.func 117) #[] #[.pointer (some ⟨X, 0, none⟩), .pointer (some ⟨w.heap.size + 1, 0, none⟩), .pointer (some ⟨X + 1, 0, none⟩)]) rfl trivial ?_
                refine take_by (i := 6) (v := .pointer (some ⟨w.heap.size, 4, none⟩)) rfl trivial ?_
                refine ready2 2 7 rfl rfl (fun K hK => ?_) (fun K hK => ?_)
                · have bc := HR0.out.s.cell 3
                  simp only [List.getElem?_cons_zero, List.getElem?_cons_succ] at bc
                  go_simp
                  clear bc
                  refine hK.out _ _ trivial (fun _ => ?_)
                  clear hK K
                  refine ready2 3 7 rfl rfl (fun K hK => ?_) (fun K hK => ?_)
                  · go_simp
                    have hto := to_any N base m v ms X (w.heap.size + 1) (X + 1) fr gf (-1) (F2) W0 (HM.out.fr0 HR0.out.fw) hn HR0.out.x HR0.out.y HR0.out.z
                    rw [HC.out] at hto
                    simp only [Spot.cells, spotC] at hto
                    refine hto.mono ?_
                    clear hto
                    rintro e V2 ⟨rfl, hZ, hFF⟩
                    have HV2 := Lib.hid (HR0.out.call hFF hZ)
                    clear hFF hZ
                    go_wp2_with fail
                    refine hK.out _ _ trivial (fun _ => ?_)
                    clear hK K
                    try simp only [List.getElem_toArray, List.getElem_cons_succ, List.getElem_cons_zero, Act.put, List.setIfInBounds_toArray, List.set_cons_zero, List.set_cons_succ]
                    refine take_by (i := 4) (v := .int .i64 ca) rfl trivial ?_
                    refine ready1 7 rfl (fun K hK => ?_)
                    have bc := HV2.out.s.cell 4
                    simp only [List.getElem?_cons_zero, List.getElem?_cons_succ] at bc
                    go_simp
                    clear bc
                    refine hK.out _ _ trivial (fun _ => ?_)
                    clear hK K
                    try simp only [List.getElem_toArray, List.getElem_cons_succ, List.getElem_cons_zero, Act.put, List.setIfInBounds_toArray, List.set_cons_zero, List.set_cons_succ]
                    refine take_by (i := 10) (v := .pointer (some ⟨w.heap.size, 3, none⟩)) rfl trivial ?_
                    refine ready1 8 rfl (fun K hK => ?_)
                    go_simp
                    have hto := to_any N base m v ms X (w.heap.size + 1) (X + 1) fr gt 1 (F2 && ce == 0) V2 (HM.out.fr0 HV2.out.fw) hn HV2.out.x HV2.out.y HV2.out.z
                    rw [HD.out] at hto
                    simp only [Spot.cells, spotC] at hto
                    refine hto.mono ?_
                    clear hto
                    rintro e V4 ⟨rfl, hZ, hFF⟩
                    have HV4 := Lib.hid (HV2.out.call hFF hZ)
                    clear hFF hZ
                    go_wp2_with fail
                    refine hK.out _ _ trivial (fun _ => ?_)
                    clear hK K
                    try simp only [List.getElem_toArray, List.getElem_cons_succ, List.getElem_cons_zero, Act.put, List.setIfInBounds_toArray, List.set_cons_zero, List.set_cons_succ]
                    refine take_by (i := 9) (v := .int .i64 da) rfl trivial ?_
                    refine ready1 11 rfl (fun K hK => ?_)
                    have bf := HV4.out.s.frozen 3
                    have bl := HV4.out.s.lt
                    have bc := HV4.out.s.cell 3
                    simp only [List.getElem?_cons_zero, List.getElem?_cons_succ] at bc
                    go_simp
                    clear bf bl bc
                    obtain ⟨W8, hW⟩ : ∃ W9, V4.setCell ⟨w.heap.size, 3, none⟩ (.int .i64 ca) = W9 := ⟨_, rfl⟩
                    have HR8 := Lib.hid (show RS m [.int .i64 k, .int .i64 aa, .int .i64 ba, .int .i64 ca, .int .i64 gt, .int .i64 ins, .slice B xn b, .int .i64 mk] X fr ((F2 && ce == 0) && de == 0) w W8 by rw [← hW]; exact HV4.out.sets 3 _)
                    rw [hW]
                    clear hW
                    refine hK.out _ _ trivial (fun _ => ?_)
                    clear hK K
                    try simp only [List.getElem_toArray, List.getElem_cons_succ, List.getElem_cons_zero, Act.put, List.setIfInBounds_toArray, List.set_cons_zero, List.set_cons_succ]
                    refine take_by (i := 12) (v := .pointer (some ⟨w.heap.size, 4, none⟩)) rfl trivial ?_
                    refine ready1 13 rfl (fun K hK => ?_)
                    have bf := HR8.out.s.frozen 4
                    have bl := HR8.out.s.lt
                    have bc := HR8.out.s.cell 4
                    simp only [List.getElem?_cons_zero, List.getElem?_cons_succ] at bc
                    go_simp
                    clear bf bl bc
                    obtain ⟨W9, hW⟩ : ∃ W9, W8.setCell ⟨w.heap.size, 4, none⟩ (.int .i64 da) = W9 := ⟨_, rfl⟩
                    have HR9b := Lib.hid (show RS m [.int .i64 k, .int .i64 aa, .int .i64 ba, .int .i64 ca, .int .i64 da, .int .i64 ins, .slice B xn b, .int .i64 mk] X fr ((F2 && ce == 0) && de == 0) w W9 by rw [← hW]; exact HR8.out.sets 4 _)
                    rw [hW]
                    clear hW
                    refine hK.out _ _ trivial (fun _ => ?_)
                    clear hK K
                    refine done_by ?_
                    go_wp2_with fail
                    go_meet
                    exact ⟨_, _, rfl, HT1, HR9b⟩
                  · have bc := HR0.out.s.cell 4
                    simp only [List.getElem?_cons_zero, List.getElem?_cons_succ] at bc
                    go_simp
                    clear bc
                    refine hK.out _ _ trivial (fun _ => ?_)
                    clear hK K
                    refine ready1 3 rfl (fun K hK => ?_)
                    go_simp
                    have hto := to_any N base m v ms X (w.heap.size + 1) (X + 1) fr gf (-1) (F2) W0 (HM.out.fr0 HR0.out.fw) hn HR0.out.x HR0.out.y HR0.out.z
                    rw [HC.out] at hto
                    simp only [Spot.cells, spotC] at hto
                    refine hto.mono ?_
                    clear hto
                    rintro e V6 ⟨rfl, hZ, hFF⟩
                    have HV6 := Lib.hid (HR0.out.call hFF hZ)
                    clear hFF hZ
                    go_wp2_with fail
                    refine hK.out _ _ trivial (fun _ => ?_)
                    clear hK K
                    try simp only [List.getElem_toArray, List.getElem_cons_succ, List.getElem_cons_zero, Act.put, List.setIfInBounds_toArray, List.set_cons_zero, List.set_cons_succ]
                    refine take_by (i := 4) (v := .int .i64 ca) rfl trivial ?_
                    refine take_by (i := 10) (v := .pointer (some ⟨w.heap.size, 3, none⟩)) rfl trivial ?_
                    refine ready1 8 rfl (fun K hK => ?_)
                    go_simp
                    have hto := to_any N base m v ms X (w.heap.size + 1) (X + 1) fr gt 1 (F2 && ce == 0) V6 (HM.out.fr0 HV6.out.fw) hn HV6.out.x HV6.out.y HV6.out.z
                    rw [HD.out] at hto
                    simp only [Spot.cells, spotC] at hto
                    refine hto.mono ?_
                    clear hto
                    rintro e V7 ⟨rfl, hZ, hFF⟩
                    have HV7 := Lib.hid (HV6.out.call hFF hZ)
                    clear hFF hZ
                    go_wp2_with fail
                    refine hK.out _ _ trivial (fun _ => ?_)
                    clear hK K
                    try simp only [List.getElem_toArray, List.getElem_cons_succ, List.getElem_cons_zero, Act.put, List.setIfInBounds_toArray, List.set_cons_zero, List.set_cons_succ]
                    refine take_by (i := 9) (v := .int .i64 da) rfl trivial ?_
                    refine ready1 11 rfl (fun K hK => ?_)
                    have bf := HV7.out.s.frozen 3
                    have bl := HV7.out.s.lt
                    have bc := HV7.out.s.cell 3
                    simp only [List.getElem?_cons_zero, List.getElem?_cons_succ] at bc
                    go_simp
                    clear bf bl bc
                    obtain ⟨W8, hW⟩ : ∃ W9, V7.setCell ⟨w.heap.size, 3, none⟩ (.int .i64 ca) = W9 := ⟨_, rfl⟩
                    have HR8 := Lib.hid (show RS m [.int .i64 k, .int .i64 aa, .int .i64 ba, .int .i64 ca, .int .i64 gt, .int .i64 ins, .slice B xn b, .int .i64 mk] X fr ((F2 && ce == 0) && de == 0) w W8 by rw [← hW]; exact HV7.out.sets 3 _)
                    rw [hW]
                    clear hW
                    refine hK.out _ _ trivial (fun _ => ?_)
                    clear hK K
                    try simp only [List.getElem_toArray, List.getElem_cons_succ, List.getElem_cons_zero, Act.put, List.setIfInBounds_toArray, List.set_cons_zero, List.set_cons_succ]
                    refine take_by (i := 12) (v := .pointer (some ⟨w.heap.size, 4, none⟩)) rfl trivial ?_
                    refine ready1 13 rfl (fun K hK => ?_)
                    have bf := HR8.out.s.frozen 4
                    have bl := HR8.out.s.lt
                    have bc := HR8.out.s.cell 4
                    simp only [List.getElem?_cons_zero, List.getElem?_cons_succ] at bc
                    go_simp
                    clear bf bl bc
                    obtain ⟨W9, hW⟩ : ∃ W9, W8.setCell ⟨w.heap.size, 4, none⟩ (.int .i64 da) = W9 := ⟨_, rfl⟩
                    have HR9b := Lib.hid (show RS m [.int .i64 k, .int .i64 aa, .int .i64 ba, .int .i64 ca, .int .i64 da, .int .i64 ins, .slice B xn b, .int .i64 mk] X fr ((F2 && ce == 0) && de == 0) w W9 by rw [← hW]; exact HR8.out.sets 4 _)
                    rw [hW]
                    clear hW
                    refine hK.out _ _ trivial (fun _ => ?_)
                    clear hK K
                    refine done_by ?_
                    go_wp2_with fail
                    go_meet
                    exact ⟨_, _, rfl, HT1, HR9b⟩
                · have bc := HR0.out.s.cell 4
                  simp only [List.getElem?_cons_zero, List.getElem?_cons_succ] at bc
                  go_simp
                  clear bc
                  refine hK.out _ _ trivial (fun _ => ?_)
                  clear hK K
                  refine ready1 2 rfl (fun K hK => ?_)
                  have bc := HR0.out.s.cell 3
                  simp only [List.getElem?_cons_zero, List.getElem?_cons_succ] at bc
                  go_simp
                  clear bc
                  refine hK.out _ _ trivial (fun _ => ?_)
                  clear hK K
                  refine ready1 3 rfl (fun K hK => ?_)
                  go_simp
                  have hto := to_any N base m v ms X (w.heap.size + 1) (X + 1) fr gf (-1) (F2) W0 (HM.out.fr0 HR0.out.fw) hn HR0.out.x HR0.out.y HR0.out.z
                  rw [HC.out] at hto
                  simp only [Spot.cells, spotC] at hto
                  refine hto.mono ?_
                  clear hto
                  rintro e V10 ⟨rfl, hZ, hFF⟩
                  have HV10 := Lib.hid (HR0.out.call hFF hZ)
                  clear hFF hZ
                  go_wp2_with fail
                  refine hK.out _ _ trivial (fun _ => ?_)
                  clear hK K
                  try simp only [List.getElem_toArray, List.getElem_cons_succ, List.getElem_cons_zero, Act.put, List.setIfInBounds_toArray, List.set_cons_zero, List.set_cons_succ]
                  refine take_by (i := 4) (v := .int .i64 ca) rfl trivial ?_
                  refine take_by (i := 10) (v := .pointer (some ⟨w.heap.size, 3, none⟩)) rfl trivial ?_
                  refine ready1 8 rfl (fun K hK => ?_)
                  go_simp
                  have hto := to_any N base m v ms X (w.heap.size + 1) (X + 1) fr gt 1 (F2 && ce == 0) V10 (HM.out.fr0 HV10.out.fw) hn HV10.out.x HV10.out.y HV10.out.z
                  rw [HD.out] at hto
                  simp only [Spot.cells, spotC] at hto
                  refine hto.mono ?_
                  clear hto
                  rintro e V11 ⟨rfl, hZ, hFF⟩
                  have HV11 := Lib.hid (HV10.out.call hFF hZ)
                  clear hFF hZ
                  go_wp2_with fail
                  refine hK.out _ _ trivial (fun _ => ?_)
                  clear hK K
                  try simp only [List.getElem_toArray, List.getElem_cons_succ, List.getElem_cons_zero, Act.put, List.setIfInBounds_toArray, List.set_cons_zero, List.set_cons_succ]
                  refine take_by (i := 9) (v := .int .i64 da) rfl trivial ?_
                  refine ready1 11 rfl (fun K hK => ?_)
                  have bf := HV11.out.s.frozen 3
                  have bl := HV11.out.s.lt
                  have bc := HV11.out.s.cell 3
                  simp only [List.getElem?_cons_zero, List.getElem?_cons_succ] at bc
                  go_simp
                  clear bf bl bc
                  obtain ⟨W8, hW⟩ : ∃ W9, V11.setCell ⟨w.heap.size, 3, none⟩ (.int .i64 ca) = W9 := ⟨_, rfl⟩
                  have HR8 := Lib.hid (show RS m [.int .i64 k, .int .i64 aa, .int .i64 ba, .int .i64 ca, .int .i64 gt, .int .i64 ins, .slice B xn b, .int .i64 mk] X fr ((F2 && ce == 0) && de == 0) w W8 by rw [← hW]; exact HV11.out.sets 3 _)
                  rw [hW]
                  clear hW
                  refine hK.out _ _ trivial (fun _ => ?_)
                  clear hK K
                  try simp only [List.getElem_toArray, List.getElem_cons_succ, List.getElem_cons_zero, Act.put, List.setIfInBounds_toArray, List.set_cons_zero, List.set_cons_succ]
                  refine take_by (i := 12) (v := .pointer (some ⟨w.heap.size, 4, none⟩)) rfl trivial ?_
                  refine ready1 13 rfl (fun K hK => ?_)
                  have bf := HR8.out.s.frozen 4
                  have bl := HR8.out.s.lt
                  have bc := HR8.out.s.cell 4
                  simp only [List.getElem?_cons_zero, List.getElem?_cons_succ] at bc
                  go_simp
                  clear bf bl bc
                  obtain ⟨W9, hW⟩ : ∃ W9, W8.setCell ⟨w.heap.size, 4, none⟩ (.int .i64 da) = W9 := ⟨_, rfl⟩
                  have HR9b := Lib.hid (show RS m [.int .i64 k, .int .i64 aa, .int .i64 ba, .int .i64 ca, .int .i64 da, .int .i64 ins, .slice B xn b, .int .i64 mk] X fr ((F2 && ce == 0) && de == 0) w W9 by rw [← hW]; exact HR8.out.sets 4 _)
                  rw [hW]
                  clear hW
                  refine hK.out _ _ trivial (fun _ => ?_)
                  clear hK K
                  refine done_by ?_
                  go_wp2_with fail
                  go_meet
                  exact ⟨_, _, rfl, HT1, HR9b⟩
              · have HT1 := Lib.hid (HTH.out _ _ ((if_neg hk0).trans (if_neg hk1)).symm)
                have hk1' : (k == 1) = false := by simpa using hk1
                obtain ⟨q, hq⟩ : ∃ q, decide (aa < ba) = q := ⟨_, rfl⟩
                rw [hq] at HT1
                cases F2 <;> cases q
                all_goals
                  go_wp2_with fail
                  go_meet
                  exact ⟨_, _, rfl, HT1, HR9.out.put1 _⟩
          case rest =>
            obtain ⟨s', F', hl, HRR, HRE⟩ := hcut
            have HLL := Lib.hid hl
            clear hl
            have z0 := HRE.out.z.cell 0
            simp only [List.getElem?_cons_zero] at z0
            have o0 := HRE.out.o.cell 0
            have o1 := HRE.out.o.cell 1
            have o2 := HRE.out.o.cell 2
            have o3 := HRE.out.o.cell 3
            have o4 := HRE.out.o.cell 4
            have o5 := HRE.out.o.cell 5
            have o6 := HRE.out.o.cell 6
            have o7 := HRE.out.o.cell 7
            have f0 := HRE.out.o.frozen 0
            have f1 := HRE.out.o.frozen 1
            have f2 := HRE.out.o.frozen 2
            have f3 := HRE.out.o.frozen 3
            have f4 := HRE.out.o.frozen 4
            have f5 := HRE.out.o.frozen 5
            have f6 := HRE.out.o.frozen 6
            have f7 := HRE.out.o.frozen 7
            have ol := HRE.out.o.lt
            simp only [List.getElem?_cons_zero, List.getElem?_cons_succ] at o0 o1 o2 o3 o4 o5 o6 o7
            have HSLT := Lib.hid HRE.out.s.lt
            cases F'
            · have HRN := Lib.hid (show R = none by rw [HRR.out]; simp)
              go_wp2_with fail
              obtain ⟨hb9, hf9⟩ := store8 HRE.out.o (.int .i64 0) (.int .i64 0) (.int .i64 0) (.int .i64 0) (.int .i64 0) (.int .i64 0) (.slice none 0 0) (.int .i64 0)
              have hF9 : Fr Nob w ((((((((wc.setCell ⟨w.heap.size + 1 + 1, 0, none⟩ (.int .i64 0)).setCell ⟨w.heap.size + 1 + 1, 1, none⟩ (.int .i64 0)).setCell ⟨w.heap.size + 1 + 1, 2, none⟩ (.int .i64 0)).setCell ⟨w.heap.size + 1 + 1, 3, none⟩ (.int .i64 0)).setCell ⟨w.heap.size + 1 + 1, 4, none⟩ (.int .i64 0)).setCell ⟨w.heap.size + 1 + 1, 5, none⟩ (.int .i64 0)).setCell ⟨w.heap.size + 1 + 1, 6, none⟩ (.slice none 0 0)).setCell ⟨w.heap.size + 1 + 1, 7, none⟩ (.int .i64 0)) := Fr.trans HRE.out.fw (hf9 _ rfl) (fun j hj h => by have : j = w.heap.size + 1 + 1 := h; omega)
              have hB9 := hb9 _ rfl
              clear hb9 hf9 o0 o1 o2 o3 o4 o5 o6 o7 f0 f1 f2 f3 f4 f5 f6 f7 ol
              generalize ((((((((wc.setCell ⟨w.heap.size + 1 + 1, 0, none⟩ (.int .i64 0)).setCell ⟨w.heap.size + 1 + 1, 1, none⟩ (.int .i64 0)).setCell ⟨w.heap.size + 1 + 1, 2, none⟩ (.int .i64 0)).setCell ⟨w.heap.size + 1 + 1, 3, none⟩ (.int .i64 0)).setCell ⟨w.heap.size + 1 + 1, 4, none⟩ (.int .i64 0)).setCell ⟨w.heap.size + 1 + 1, 5, none⟩ (.int .i64 0)).setCell ⟨w.heap.size + 1 + 1, 6, none⟩ (.slice none 0 0)).setCell ⟨w.heap.size + 1 + 1, 7, none⟩ (.int .i64 0)) = W9 at hF9 hB9 ⊢
              have d0 := hB9.cell 0
              have d1 := hB9.cell 1
              have d2 := hB9.cell 2
              have d3 := hB9.cell 3
              have d4 := hB9.cell 4
              have d5 := hB9.cell 5
              have d6 := hB9.cell 6
              have d7 := hB9.cell 7
              simp only [List.getElem?_cons_zero, List.getElem?_cons_succ] at d0 d1 d2 d3 d4 d5 d6 d7
              refine bodyPost_ret (v := .tuple #[.agg #[.int .i64 0, .int .i64 0, .int .i64 0, .int .i64 0, .int .i64 0, .int .i64 0, .slice none 0 0, .int .i64 0], .bool false]) (by simp [results, go_sem, d0, d1, d2, d3, d4, d5, d6, d7]) rfl ?_
              rw [HRN.out]; exact ⟨by trivial, hF9⟩
            · have s0 := HRE.out.s.cell 0
              have s1 := HRE.out.s.cell 1
              have s2 := HRE.out.s.cell 2
              have s3 := HRE.out.s.cell 3
              have s4 := HRE.out.s.cell 4
              have s5 := HRE.out.s.cell 5
              have s6 := HRE.out.s.cell 6
              have s7 := HRE.out.s.cell 7
              have sl := HRE.out.s.lt
              simp only [List.getElem?_cons_zero, List.getElem?_cons_succ] at s0 s1 s2 s3 s4 s5 s6 s7
              go_wp2_with fail
              have hck := stepcheck_any M s' B b wc (by rw [HLL.out]; exact HX.out.fr HRE.out.fw (fun _ _ h => h.elim))
              rw [HLL.out] at hck
              simp only [StepM.cells, HXN.out] at hck
              refine hck.mono ?_
              clear hck s0 s1 s2 s3 s4 s5 s6 s7 sl z0 o0 o1 o2 o3 o4 o5 o6 o7 f0 f1 f2 f3 f4 f5 f6 f7 ol
              obtain ⟨E2, hE2⟩ : ∃ E2, stepF s' = E2 := ⟨_, rfl⟩
              have HE2 := Lib.hid hE2
              rw [hE2]
              clear hE2
              rintro e w3 ⟨rfl, hF3⟩
              have HRE3 := Lib.hid (HRE.out.frm (hF3.any) (HRE.out.z.fr hF3 (fun h => h)))
              clear hF3
              have o0 := HRE3.out.o.cell 0
              have o1 := HRE3.out.o.cell 1
              have o2 := HRE3.out.o.cell 2
              have o3 := HRE3.out.o.cell 3
              have o4 := HRE3.out.o.cell 4
              have o5 := HRE3.out.o.cell 5
              have o6 := HRE3.out.o.cell 6
              have o7 := HRE3.out.o.cell 7
              have f0 := HRE3.out.o.frozen 0
              have f1 := HRE3.out.o.frozen 1
              have f2 := HRE3.out.o.frozen 2
              have f3 := HRE3.out.o.frozen 3
              have f4 := HRE3.out.o.frozen 4
              have f5 := HRE3.out.o.frozen 5
              have f6 := HRE3.out.o.frozen 6
              have f7 := HRE3.out.o.frozen 7
              have ol := HRE3.out.o.lt
              simp only [List.getElem?_cons_zero, List.getElem?_cons_succ] at o0 o1 o2 o3 o4 o5 o6 o7
              by_cases h2 : E2 = 0
              · have h2' : (E2 != 0) = false := by simp [h2]
                have HRN := Lib.hid (show R = some s' by rw [HRR.out, if_pos ⟨by trivial, by rw [HE2.out]; exact h2⟩])
                clear h2
                have s0 := HRE3.out.s.cell 0
                have s1 := HRE3.out.s.cell 1
                have s2 := HRE3.out.s.cell 2
                have s3 := HRE3.out.s.cell 3
                have s4 := HRE3.out.s.cell 4
                have s5 := HRE3.out.s.cell 5
                have s6 := HRE3.out.s.cell 6
                have s7 := HRE3.out.s.cell 7
                have sl := HRE3.out.s.lt
                simp only [List.getElem?_cons_zero, List.getElem?_cons_succ] at s0 s1 s2 s3 s4 s5 s6 s7
                go_wp2_with fail
                clear s0 s1 s2 s3 s4 s5 s6 s7 sl
                obtain ⟨hb9, hf9⟩ := store8 HRE3.out.o (.int .i64 s'.k) (.int .i64 s'.f) (.int .i64 s'.t) (.int .i64 s'.gf) (.int .i64 s'.gt) (.int .i64 s'.ins) (.slice B xn b) (.int .i64 s'.m)
                have hF9 : Fr Nob w ((((((((w3.setCell ⟨w.heap.size + 1 + 1, 0, none⟩ (.int .i64 s'.k)).setCell ⟨w.heap.size + 1 + 1, 1, none⟩ (.int .i64 s'.f)).setCell ⟨w.heap.size + 1 + 1, 2, none⟩ (.int .i64 s'.t)).setCell ⟨w.heap.size + 1 + 1, 3, none⟩ (.int .i64 s'.gf)).setCell ⟨w.heap.size + 1 + 1, 4, none⟩ (.int .i64 s'.gt)).setCell ⟨w.heap.size + 1 + 1, 5, none⟩ (.int .i64 s'.ins)).setCell ⟨w.heap.size + 1 + 1, 6, none⟩ (.slice B xn b)).setCell ⟨w.heap.size + 1 + 1, 7, none⟩ (.int .i64 s'.m)) := Fr.trans HRE3.out.fw (hf9 _ rfl) (fun j hj h => by have : j = w.heap.size + 1 + 1 := h; omega)
                have hB9 := hb9 _ rfl
                clear hb9 hf9 o0 o1 o2 o3 o4 o5 o6 o7 f0 f1 f2 f3 f4 f5 f6 f7 ol
                generalize ((((((((w3.setCell ⟨w.heap.size + 1 + 1, 0, none⟩ (.int .i64 s'.k)).setCell ⟨w.heap.size + 1 + 1, 1, none⟩ (.int .i64 s'.f)).setCell ⟨w.heap.size + 1 + 1, 2, none⟩ (.int .i64 s'.t)).setCell ⟨w.heap.size + 1 + 1, 3, none⟩ (.int .i64 s'.gf)).setCell ⟨w.heap.size + 1 + 1, 4, none⟩ (.int .i64 s'.gt)).setCell ⟨w.heap.size + 1 + 1, 5, none⟩ (.int .i64 s'.ins)).setCell ⟨w.heap.size + 1 + 1, 6, none⟩ (.slice B xn b)).setCell ⟨w.heap.size + 1 + 1, 7, none⟩ (.int .i64 s'.m)) = W9 at hF9 hB9 ⊢
                have d0 := hB9.cell 0
                have d1 := hB9.cell 1
                have d2 := hB9.cell 2
                have d3 := hB9.cell 3
                have d4 := hB9.cell 4
                have d5 := hB9.cell 5
                have d6 := hB9.cell 6
                have d7 := hB9.cell 7
                simp only [List.getElem?_cons_zero, List.getElem?_cons_succ] at d0 d1 d2 d3 d4 d5 d6 d7
                refine bodyPost_ret (v := .tuple #[.agg #[.int .i64 s'.k, .int .i64 s'.f, .int .i64 s'.t, .int .i64 s'.gf, .int .i64 s'.gt, .int .i64 s'.ins, .slice B xn b, .int .i64 s'.m], .bool true]) (by simp [results, go_sem, d0, d1, d2, d3, d4, d5, d6, d7]) rfl ?_
                rw [HRN.out]; exact ⟨by trivial, hF9⟩
              · have h2' : (E2 != 0) = true := by simp [h2]
                have HRN := Lib.hid (show R = none by rw [HRR.out, if_neg (by rintro ⟨_, h⟩; rw [HE2.out] at h; exact h2 h)])
                clear h2
                go_wp2_with fail
                obtain ⟨hb9, hf9⟩ := store8 HRE3.out.o (.int .i64 0) (.int .i64 0) (.int .i64 0) (.int .i64 0) (.int .i64 0) (.int .i64 0) (.slice none 0 0) (.int .i64 0)
                have hF9 : Fr Nob w ((((((((w3.setCell ⟨w.heap.size + 1 + 1, 0, none⟩ (.int .i64 0)).setCell ⟨w.heap.size + 1 + 1, 1, none⟩ (.int .i64 0)).setCell ⟨w.heap.size + 1 + 1, 2, none⟩ (.int .i64 0)).setCell ⟨w.heap.size + 1 + 1, 3, none⟩ (.int .i64 0)).setCell ⟨w.heap.size + 1 + 1, 4, none⟩ (.int .i64 0)).setCell ⟨w.heap.size + 1 + 1, 5, none⟩ (.int .i64 0)).setCell ⟨w.heap.size + 1 + 1, 6, none⟩ (.slice none 0 0)).setCell ⟨w.heap.size + 1 + 1, 7, none⟩ (.int .i64 0)) := Fr.trans HRE3.out.fw (hf9 _ rfl) (fun j hj h => by have : j = w.heap.size + 1 + 1 := h; omega)
                have hB9 := hb9 _ rfl
                clear hb9 hf9 o0 o1 o2 o3 o4 o5 o6 o7 f0 f1 f2 f3 f4 f5 f6 f7 ol
                generalize ((((((((w3.setCell ⟨w.heap.size + 1 + 1, 0, none⟩ (.int .i64 0)).setCell ⟨w.heap.size + 1 + 1, 1, none⟩ (.int .i64 0)).setCell ⟨w.heap.size + 1 + 1, 2, none⟩ (.int .i64 0)).setCell ⟨w.heap.size + 1 + 1, 3, none⟩ (.int .i64 0)).setCell ⟨w.heap.size + 1 + 1, 4, none⟩ (.int .i64 0)).setCell ⟨w.heap.size + 1 + 1, 5, none⟩ (.int .i64 0)).setCell ⟨w.heap.size + 1 + 1, 6, none⟩ (.slice none 0 0)).setCell ⟨w.heap.size + 1 + 1, 7, none⟩ (.int .i64 0)) = W9 at hF9 hB9 ⊢
                have d0 := hB9.cell 0
                have d1 := hB9.cell 1
                have d2 := hB9.cell 2
                have d3 := hB9.cell 3
                have d4 := hB9.cell 4
                have d5 := hB9.cell 5
                have d6 := hB9.cell 6
                have d7 := hB9.cell 7
                simp only [List.getElem?_cons_zero, List.getElem?_cons_succ] at d0 d1 d2 d3 d4 d5 d6 d7
                refine bodyPost_ret (v := .tuple #[.agg #[.int .i64 0, .int .i64 0, .int .i64 0, .int .i64 0, .int .i64 0, .int .i64 0, .slice none 0 0, .int .i64 0], .bool false]) (by simp [results, go_sem, d0, d1, d2, d3, d4, d5, d6, d7]) rfl ?_
                rw [HRN.out]; exact ⟨by trivial, hF9⟩
  · have h0' : (E != 0) = true := by simp [h0]
    have HE0 := Lib.hid h0
    clear h0
    have o0 := HO1.out.cell 0
    have o1 := HO1.out.cell 1
    have o2 := HO1.out.cell 2
    have o3 := HO1.out.cell 3
    have o4 := HO1.out.cell 4
    have o5 := HO1.out.cell 5
    have o6 := HO1.out.cell 6
    have o7 := HO1.out.cell 7
    have f0 := HO1.out.frozen 0
    have f1 := HO1.out.frozen 1
    have f2 := HO1.out.frozen 2
    have f3 := HO1.out.frozen 3
    have f4 := HO1.out.frozen 4
    have f5 := HO1.out.frozen 5
    have f6 := HO1.out.frozen 6
    have f7 := HO1.out.frozen 7
    have ol := HO1.out.lt
    simp only [List.getElem?_cons_zero, List.getElem?_cons_succ] at o0 o1 o2 o3 o4 o5 o6 o7
    go_wp2_with fail
    have HRN := Lib.hid (show R = none by rw [← HR.out, stepThru, if_pos (by rw [HE.out]; exact HE0.out)])
    obtain ⟨hb9, hf9⟩ := store8 HO1.out (.int .i64 0) (.int .i64 0) (.int .i64 0) (.int .i64 0) (.int .i64 0) (.int .i64 0) (.slice none 0 0) (.int .i64 0)
    have hF9 : Fr Nob w ((((((((w1.setCell ⟨w.heap.size + 1 + 1, 0, none⟩ (.int .i64 0)).setCell ⟨w.heap.size + 1 + 1, 1, none⟩ (.int .i64 0)).setCell ⟨w.heap.size + 1 + 1, 2, none⟩ (.int .i64 0)).setCell ⟨w.heap.size + 1 + 1, 3, none⟩ (.int .i64 0)).setCell ⟨w.heap.size + 1 + 1, 4, none⟩ (.int .i64 0)).setCell ⟨w.heap.size + 1 + 1, 5, none⟩ (.int .i64 0)).setCell ⟨w.heap.size + 1 + 1, 6, none⟩ (.slice none 0 0)).setCell ⟨w.heap.size + 1 + 1, 7, none⟩ (.int .i64 0)) := Fr.trans HF1.out (hf9 _ rfl) (fun j hj h => by have : j = w.heap.size + 1 + 1 := h; omega)
    have hB9 := hb9 _ rfl
    clear hb9 hf9 o0 o1 o2 o3 o4 o5 o6 o7 f0 f1 f2 f3 f4 f5 f6 f7 ol
    generalize ((((((((w1.setCell ⟨w.heap.size + 1 + 1, 0, none⟩ (.int .i64 0)).setCell ⟨w.heap.size + 1 + 1, 1, none⟩ (.int .i64 0)).setCell ⟨w.heap.size + 1 + 1, 2, none⟩ (.int .i64 0)).setCell ⟨w.heap.size + 1 + 1, 3, none⟩ (.int .i64 0)).setCell ⟨w.heap.size + 1 + 1, 4, none⟩ (.int .i64 0)).setCell ⟨w.heap.size + 1 + 1, 5, none⟩ (.int .i64 0)).setCell ⟨w.heap.size + 1 + 1, 6, none⟩ (.slice none 0 0)).setCell ⟨w.heap.size + 1 + 1, 7, none⟩ (.int .i64 0)) = W9 at hF9 hB9 ⊢
    have d0 := hB9.cell 0
    have d1 := hB9.cell 1
    have d2 := hB9.cell 2
    have d3 := hB9.cell 3
    have d4 := hB9.cell 4
    have d5 := hB9.cell 5
    have d6 := hB9.cell 6
    have d7 := hB9.cell 7
    simp only [List.getElem?_cons_zero, List.getElem?_cons_succ] at d0 d1 d2 d3 d4 d5 d6 d7
    refine bodyPost_ret (v := .tuple #[.agg #[.int .i64 0, .int .i64 0, .int .i64 0, .int .i64 0, .int .i64 0, .int .i64 0, .slice none 0 0, .int .i64 0], .bool false]) (by simp [results, go_sem, d0, d1, d2, d3, d4, d5, d6, d7]) rfl ?_
    rw [HRN.out]; exact ⟨by trivial, hF9⟩
end Go.Proofs.YtldcffonfidbcaaGreatDoor
