/- A part of the proof for chapter 10: PosMapW; no conditions. -/
import Derived.Test.YtldcffonfidbcaaGreatDoorY08
import Derived.Test.YtldcffonfidbcaaGreatDoorY25
/- Chapter 8: a place through a map: the walk. -/
namespace Go.Proofs.YtldcffonfidbcaaGreatDoor
open Go.RowKit Go.Shelf
attribute [local go_sem] Oper.semAt_some
/-- Between two rounds. -/
def MapAt (xs : List Rng) (p : Int) (w2 : World) (b : Nat) (pre : List (Fin xs.length)) (W : World) : Prop :=
  (Fr (fun k => k = b) w2 W ∧ Blk W b [.int .i64 (atP xs p pre)] 3) ∧ ∀ j ∈ pre, passF xs p j
theorem ownFrom_map (xs : List Rng) (p : Int) (w2 : World) (b : Nat) (hb : b < w2.heap.size) : OwnFrom w2.heap.size (MapAt xs p w2 b) :=
  ((ownFrom_fr (Nat.le_refl _)).and (ownFrom_blk hb (fun pre => [.int .i64 (atP xs p pre)]) _)).and (ownFrom_pure _)
/-- A round that leaves. -/
def MapOut (xs : List Rng) (p side : Int) (w2 : World) (b b3 b4 : Nat) (id : Nat) (c : Code) (pre : List (Fin xs.length)) (W : World) : Prop :=
  ∃ (ini : List (Fin xs.length)) (j : Fin xs.length), (pre = ini ++ [j] ∧ ∀ i ∈ ini, passF xs p i) ∧
    ((c = .exit id ∧ p < xs[j.val].a) ∧ (Fr (fun k => k = b) w2 W ∧ Blk W b [.int .i64 (atP xs p ini)] 3) ∨
     (c = .ret ∧ ¬ p < xs[j.val].a ∧ p ≤ xs[j.val].a + xs[j.val].o) ∧ (Fr (fun k => k = b ∨ k = b3 ∨ k = b4) w2 W ∧ Blk W b3 (spotF (begF xs j.val) p side j.val xs[j.val]).cells 214 ∧ Blk W b4 [.int .i64 0] 25))
theorem ownFrom_or {β : Type} {B : Nat} {I I' : β → World → Prop} (h : OwnFrom B I) (h' : OwnFrom B I') : OwnFrom B (fun s W => I s W ∨ I' s W) := fun s A W row hs hg hr => hs.imp (fun x => h s A W row x hg hr) (fun x => h' s A W row x hg hr)
theorem ownFrom_out (xs : List Rng) (p side : Int) (w2 : World) (b b3 b4 : Nat) (id : Nat) (c : Code) (hb : b < w2.heap.size) (h3 : b3 < w2.heap.size) (h4 : b4 < w2.heap.size) : OwnFrom w2.heap.size (MapOut xs p side w2 b b3 b4 id c) :=
  ownFrom_ex fun ini => ownFrom_ex fun j => (ownFrom_pure _).and (ownFrom_or ((ownFrom_pure _).and ((ownFrom_fr (Nat.le_refl _)).and (ownFrom_blk hb (fun _ => _) _))) ((ownFrom_pure _).and ((ownFrom_fr (Nat.le_refl _)).and ((ownFrom_blk h3 (fun _ => _) _).and (ownFrom_blk h4 (fun _ => _) _)))))
/-- A spot and an error, stored. -/
theorem store5 {W : World} {g h : Nat} {t t' : TypeId} {x0 x1 x2 x3 y : Value} (hne : g ≠ h) (hg : Blk W g [x0, x1, x2, x3] t) (hh : Blk W h [y] t') (a b c d e : Value) :
    ∀ WE, ((((W.setCell ⟨g, 0, none⟩ a).setCell ⟨g, 1, none⟩ b).setCell ⟨g, 2, none⟩ c).setCell ⟨g, 3, none⟩ d).setCell ⟨h, 0, none⟩ e = WE →
      Blk WE g [a, b, c, d] t ∧ Blk WE h [e] t' ∧ KeepsOthers W WE ∧ ∀ (M : Nat → Prop) (w0 : World), Fr M w0 W → (M g ∨ w0.heap.size ≤ g) → (M h ∨ w0.heap.size ≤ h) → Fr M w0 WE := by
  rintro WE rfl
  refine ⟨((((hg.set 0 a).set 1 b).set 2 c).set 3 d).far (p := ⟨h, 0, none⟩) hne e, ((((hh.far (p := ⟨g, 0, none⟩) hne.symm a).far (p := ⟨g, 1, none⟩) hne.symm b).far (p := ⟨g, 2, none⟩) hne.symm c).far (p := ⟨g, 3, none⟩) hne.symm d).set 0 e, ((((KeepsOthers.setCell _ _ _).trans (KeepsOthers.setCell _ _ _)).trans (KeepsOthers.setCell _ _ _)).trans (KeepsOthers.setCell _ _ _)).trans (KeepsOthers.setCell _ _ _), fun M w0 hF h1 h2 => ?_⟩
  exact ((((hF.setCell (p := ⟨g, 0, none⟩) h1 a).setCell (p := ⟨g, 1, none⟩) h1 b).setCell (p := ⟨g, 2, none⟩) h1 c).setCell (p := ⟨g, 3, none⟩) h1 d).setCell (p := ⟨h, 0, none⟩) h2 e
set_option maxRecDepth 100000 in
set_option maxHeartbeats 4000000 in
theorem posmap_any (M : Nat → Prop) (xs : List Rng) (A : Option Addr) (c : Nat) (p side : Int) (w : World) (hr : Rd M w A (rngC xs)) (hx : rightP xs = true) :
    Calls Tryz.prog 152 #[.slice A xs.length c, .int .i64 p, .int .i64 side] w fun e w' => e = .returned (.tuple #[.agg (posmapF xs p side).1.cells.toArray, .int .i64 (posmapF xs p side).2]) ∧ Fr Nob w w' := by
  refine callsIn_wide.1 (?_ : CallsIn Fence.wide 3 _ _ _ _ _)
  refine callsIn_of_wp_marks Tryz.func152 rfl trivial ?_ rfl
  simp only [Tryz.ntmps152, List.size_toArray, List.length_cons, List.length_nil, Nat.reduceAdd, Nat.reduceSub, Array.replicate_succ, Array.replicate_zero, List.push_toArray, List.append_toArray, List.nil_append, List.cons_append]
  obtain ⟨R, hR⟩ : ∃ R, posmapF xs p side = R := ⟨_, rfl⟩
  have HR := Lib.hid hR
  rw [hR]
  clear hR
  obtain ⟨h4, hok⟩ := rightP_ok hx
  have HRd := Lib.hid hr
  have HOK := Lib.hid hok
  have HX := Lib.hid hx
  clear hr hok hx
  gi_wp2
  obtain ⟨W, hW⟩ : ∃ W, (((((w.alloc (.cells #[.slice A xs.length c] 148)).alloc (.cells #[.int .i64 p] 3)).alloc (.cells #[.int .i64 side] 3)).alloc (.cells #[.int .i64 0, .bool false, .int .i64 0, .int .i64 0] 214)).alloc (.cells #[.int .i64 0] 25)) = W := ⟨_, rfl⟩
  have HF := Lib.hid (show Fr Nob w W by rw [← hW]; exact ((((((Fr.refl _ _).alloc _).alloc _).alloc _).alloc _).alloc _))
  have h0 : Blk W w.heap.size [.slice A xs.length c] 148 := by rw [← hW]; exact ((((Blk.new w _ _).alloc _).alloc _).alloc _).alloc _
  have h1 : Blk W (w.heap.size + 1) [.int .i64 p] 3 := by rw [← hW]; exact (((Blk.new_at _ _ _ (w.heap.size + 1) (by simp)).alloc _).alloc _).alloc _
  have h2 : Blk W (w.heap.size + 1 + 1) [.int .i64 side] 3 := by rw [← hW]; exact ((Blk.new_at _ _ _ (w.heap.size + 1 + 1) (by simp)).alloc _).alloc _
  have h3 : Blk W (w.heap.size + 1 + 1 + 1) [.int .i64 0, .bool false, .int .i64 0, .int .i64 0] 214 := by rw [← hW]; exact (Blk.new_at _ _ _ (w.heap.size + 1 + 1 + 1) (by simp)).alloc _
  have h5 : Blk W (w.heap.size + 1 + 1 + 1 + 1) [.int .i64 0] 25 := by rw [← hW]; exact Blk.new_at _ _ _ (w.heap.size + 1 + 1 + 1 + 1) (by simp)
  rw [hW]
  clear hW
  refine ⟨trivial, callsIn_wide.2 ((posright_any M xs A c W (HRd.out.fr HF.out (fun _ _ h => h.elim)) (by omega)).mono ?_)⟩
  rintro e w1 ⟨rfl, hF1⟩
  rw [HX.out]
  have HF1 := Lib.hid (HF.out.same hF1)
  have g0 := h0.fr hF1 (fun h => h)
  have g1 := h1.fr hF1 (fun h => h)
  have g2 := h2.fr hF1 (fun h => h)
  have g3 := h3.fr hF1 (fun h => h)
  have g4 := h5.fr hF1 (fun h => h)
  clear h0 h1 h2 h3 h5 hF1
  have c0 := g0.cell 0
  have c1 := g1.cell 0
  have l4 := g4.lt
  have l0 := g0.lt
  simp only [List.getElem?_cons_zero] at c0 c1
  have G0 := Lib.hid g0
  have G1 := Lib.hid g1
  have G2 := Lib.hid g2
  have G3 := Lib.hid g3
  have G4 := Lib.hid g4
  clear g0 g1 g2 g3 g4
  by_cases hp : p < 0 ∨ 65536 < p
  · have HRR := Lib.hid (show (⟨0, false, 0, 0⟩, 1) = R by rw [← HR.out, posmapF, if_pos hp])
    have a0 := G3.out.cell 0
    have a1 := G3.out.cell 1
    have a2 := G3.out.cell 2
    have a3 := G3.out.cell 3
    have a4 := G4.out.cell 0
    have f0 := G3.out.frozen 0
    have f1 := G3.out.frozen 1
    have f2 := G3.out.frozen 2
    have f3 := G3.out.frozen 3
    have f4 := G4.out.frozen 0
    simp only [List.getElem?_cons_zero, List.getElem?_cons_succ] at a0 a1 a2 a3 a4
    by_cases hp0 : p < 0
    · gi_wp2
      obtain ⟨hw3, hw4, _, hfr⟩ := store5 (by simp) G3.out G4.out (.int .i64 0) (.bool false) (.int .i64 0) (.int .i64 0) (.int .i64 1) _ rfl
      have HFE := Lib.hid (hfr _ _ HF1.out (.inr (by omega)) (.inr (by omega)))
      have p0 := hw3.cell 0
      have p1 := hw3.cell 1
      have p2 := hw3.cell 2
      have p3 := hw3.cell 3
      have p4 := hw4.cell 0
      simp only [List.getElem?_cons_zero, List.getElem?_cons_succ] at p0 p1 p2 p3 p4
      clear hw3 hw4 hfr
      generalize ((((w1.setCell ⟨w.heap.size + 1 + 1 + 1, 0, none⟩ (.int .i64 0)).setCell ⟨w.heap.size + 1 + 1 + 1, 1, none⟩ (.bool false)).setCell ⟨w.heap.size + 1 + 1 + 1, 2, none⟩ (.int .i64 0)).setCell ⟨w.heap.size + 1 + 1 + 1, 3, none⟩ (.int .i64 0)).setCell ⟨w.heap.size + 1 + 1 + 1 + 1, 0, none⟩ (.int .i64 1) = WE at HFE p0 p1 p2 p3 p4 ⊢
      refine ⟨.tuple #[.agg #[.int .i64 0, .bool false, .int .i64 0, .int .i64 0], .int .i64 1], by simp [results, go_sem, p0, p1, p2, p3, p4], ?_⟩
      rw [← HRR.out]
      exact ⟨rfl, HFE.out⟩
    · have hp1 : 65536 < p := by omega
      gi_wp2
      obtain ⟨hw3, hw4, _, hfr⟩ := store5 (by simp) G3.out G4.out (.int .i64 0) (.bool false) (.int .i64 0) (.int .i64 0) (.int .i64 1) _ rfl
      have HFE := Lib.hid (hfr _ _ HF1.out (.inr (by omega)) (.inr (by omega)))
      have p0 := hw3.cell 0
      have p1 := hw3.cell 1
      have p2 := hw3.cell 2
      have p3 := hw3.cell 3
      have p4 := hw4.cell 0
      simp only [List.getElem?_cons_zero, List.getElem?_cons_succ] at p0 p1 p2 p3 p4
      clear hw3 hw4 hfr
      generalize ((((w1.setCell ⟨w.heap.size + 1 + 1 + 1, 0, none⟩ (.int .i64 0)).setCell ⟨w.heap.size + 1 + 1 + 1, 1, none⟩ (.bool false)).setCell ⟨w.heap.size + 1 + 1 + 1, 2, none⟩ (.int .i64 0)).setCell ⟨w.heap.size + 1 + 1 + 1, 3, none⟩ (.int .i64 0)).setCell ⟨w.heap.size + 1 + 1 + 1 + 1, 0, none⟩ (.int .i64 1) = WE at HFE p0 p1 p2 p3 p4 ⊢
      refine ⟨.tuple #[.agg #[.int .i64 0, .bool false, .int .i64 0, .int .i64 0], .int .i64 1], by simp [results, go_sem, p0, p1, p2, p3, p4], ?_⟩
      rw [← HRR.out]
      exact ⟨rfl, HFE.out⟩
  · have hp0 : ¬ p < 0 := by omega
    have hp1 : ¬ 65536 < p := by omega
    have HRR := Lib.hid (show (mapGo xs p side 0 xs, 0) = R by rw [← HR.out, posmapF, if_neg hp])
    gi_wp2
    obtain ⟨W1, hW1⟩ : ∃ W1, w1.alloc (.cells #[.int .i64 p] 3) = W1 := ⟨_, rfl⟩
    rw [hW1]
    refine ⟨trivial, callsIn_wide.2 ((poseach_any A xs.length c W1).mono ?_)⟩
    rintro e w2 ⟨rfl, hw2⟩
    have HF2 := Lib.hid (show Fr Nob w w2 by rw [hw2, ← hW1]; exact (HF1.out.alloc _).alloc _)
    have HC := Lib.hid (show Blk w2 W1.heap.size [.slice A xs.length c] 148 by rw [hw2]; exact Blk.new _ _ _)
    have E0 := Lib.hid (show Blk w2 w.heap.size [.slice A xs.length c] 148 by rw [hw2, ← hW1]; exact (G0.out.alloc _).alloc _)
    have E1 := Lib.hid (show Blk w2 (w.heap.size + 1) [.int .i64 p] 3 by rw [hw2, ← hW1]; exact (G1.out.alloc _).alloc _)
    have E2 := Lib.hid (show Blk w2 (w.heap.size + 1 + 1) [.int .i64 side] 3 by rw [hw2, ← hW1]; exact (G2.out.alloc _).alloc _)
    have E3 := Lib.hid (show Blk w2 (w.heap.size + 1 + 1 + 1) [.int .i64 0, .bool false, .int .i64 0, .int .i64 0] 214 by rw [hw2, ← hW1]; exact (G3.out.alloc _).alloc _)
    have E4 := Lib.hid (show Blk w2 (w.heap.size + 1 + 1 + 1 + 1) [.int .i64 0] 25 by rw [hw2, ← hW1]; exact (G4.out.alloc _).alloc _)
    have e8 : Blk w2 w1.heap.size [.int .i64 p] 3 := by rw [hw2, ← hW1]; exact (Blk.new w1 _ _).alloc _
    have hlt8 := e8.lt
    have E8 := Lib.hid e8
    clear hw2 hW1 e8 c0 c1 l0
    gi_wp2
    refine wpIn_rangeFunc_ownF rfl (by omega : 1 ≤ 3) (gf := 179) (lb := #[.pointer (some ⟨W1.heap.size, 0, none⟩)]) rfl trivial (enters_of Tryz.func179 (by kernel_rfl) rfl)
      (each_stops Fence.wide 2 trivial rfl (by omega) W1.heap.size w.heap.size A c xs HOK.out h4 w2 HC.out.lt HF2.out.size (HC.out.cell 0) ((HRd.out.bound.mono (fun _ h => .inr h)).fr HF2.out (fun _ _ h => h.elim))) KpR.trans (KpR.putObj HF2.out.size) (Below.refl _ _) (fun _ => rfl)
      (MapAt xs p w2 w1.heap.size)
      (MapOut xs p side w2 w1.heap.size (w.heap.size + 1 + 1 + 1) (w.heap.size + 1 + 1 + 1 + 1) 4)
      (ownFrom_map xs p w2 w1.heap.size hlt8)
      (fun c => ownFrom_out xs p side w2 w1.heap.size _ _ 4 c hlt8 (by omega) (by omega))
      ⟨⟨Fr.refl _ _, E8.out⟩, by simp⟩ ?a1 ?assign ?body ?done ?stop
    case assign =>
      intro l x W K hK
      gi_wp2
      exact hK
    case body =>
      rintro l pre x W ⟨⟨hF, hB⟩, hP⟩ hlt
      have hne8 : ∀ k, k < w1.heap.size → k ≠ w1.heap.size := fun k h => Nat.ne_of_lt h
      obtain ⟨ad, rfl, _, hlb, q0, q⟩ := Rd.elt Rng.cells_len (by omega) (((HRd.out.bound.mono (M' := fun k => w.heap.size ≤ k) (fun _ h => .inr h)).fr HF2.out (fun _ _ h => h.elim)).fr hF (fun k hk e => by subst e; omega)) x.isLt
      have q1 := q 0 (by omega)
      have q2 := q 1 (by omega)
      clear q
      have hxl := x.isLt
      have hor := HOK.out xs[x.val] (List.getElem_mem _)
      have hbg : begF xs x.val = xs[x.val].a + dF xs x.val := by simp [begF]
      have hds := dF_succ xs x.val hxl
      have hd1 := dF_bound xs HOK.out x.val (Nat.le_of_lt hxl)
      have HPS := Lib.hid (show passF xs p x ↔ (xs[x.val].a + xs[x.val].o < p ∧ xs[x.val].a ≤ p) from Iff.rfl)
      obtain ⟨r, hrr⟩ : ∃ r, xs[x.val] = r := ⟨_, rfl⟩
      have HRX := Lib.hid hrr
      rw [hrr] at q0 q1 q2 hor hbg hds HPS
      clear hrr
      simp only [Rng.cells, List.getElem?_cons_zero, List.getElem?_cons_succ, Nat.reduceAdd] at q0 q1 q2
      unfold okR at hor
      have d0 := (E0.out.fr hF (hne8 _ (by omega))).cell 0
      have d1 := (E1.out.fr hF (hne8 _ (by omega))).cell 0
      have d2 := (E2.out.fr hF (hne8 _ (by omega))).cell 0
      have l0 := (E0.out.fr hF (hne8 _ (by omega))).lt
      have l1 := (E1.out.fr hF (hne8 _ (by omega))).lt
      have l2 := (E2.out.fr hF (hne8 _ (by omega))).lt
      have d8 := hB.cell 0
      have f8 := hB.frozen 0
      have l8 := hB.lt
      simp only [List.getElem?_cons_zero] at d0 d1 d2 d8
      have HFW := Lib.hid hF
      have HBW := Lib.hid hB
      have HP := Lib.hid hP
      obtain ⟨b, hb⟩ : ∃ b, begF xs x.val = b := ⟨_, rfl⟩
      have HB := Lib.hid hb
      have HDS := Lib.hid hds
      rw [hb] at hbg ⊢
      obtain ⟨d, hd⟩ : ∃ d, dF xs x.val = d := ⟨_, rfl⟩
      have HD := Lib.hid hd
      rw [hd] at hbg hd1
      subst hbg
      clear hF hB hP hb hds hd
      obtain ⟨at0, hat⟩ : ∃ a, atP xs p pre = a := ⟨_, rfl⟩
      have HAT := Lib.hid hat
      rw [hat] at d8
      clear hat hne8
      obtain ⟨k, hk⟩ : ∃ k : Nat, x.val = k := ⟨_, rfl⟩
      have HK := Lib.hid hk
      rw [hk] at q0 q1 q2 hxl hd1 ⊢
      clear hk
      have hki : ((k : Int) < (xs.length : Int)) := by omega
      by_cases hb1 : p < r.a
      · gi_wp2
        exact ⟨KeepsOthers.alloc _ _, pre, x, ⟨rfl, HP.out⟩, .inl ⟨⟨rfl, by rw [HRX.out]; omega⟩, HFW.out.alloc _, HBW.out.alloc _⟩⟩
      · by_cases hb2 : p ≤ r.a + r.o
        · have HRES := Lib.hid (show spotF (begF xs x.val) p side x.val xs[x.val] = spotF (r.a + d) p side k r by rw [HB.out, HRX.out, HK.out])
          gi_wp2
          obtain ⟨W3, hW3⟩ : ∃ W3, W.alloc (.cells #[.int .i64 r.a, .int .i64 r.o, .int .i64 r.n] 205) = W3 := ⟨_, rfl⟩
          have HF3 := Lib.hid (show Fr (fun k => k = w1.heap.size) w2 W3 by rw [← hW3]; exact HFW.out.alloc _)
          have HR3 := Lib.hid (show Blk W3 W.heap.size [.int .i64 r.a, .int .i64 r.o, .int .i64 r.n] 205 by rw [← hW3]; exact Blk.new _ _ _)
          have HKO3 := Lib.hid (show KeepsOthers W W3 by rw [← hW3]; exact KeepsOthers.alloc _ _)
          rw [hW3]
          clear hW3 d0 d1 d2 l0 l1 l2 d8 f8 l8 q0 q1 q2
          have hwi := within_any r (r.a + d) p side W3 ⟨hor.1, hor.2.1⟩ ⟨hor.2.2.1, hor.2.2.2.1⟩ ⟨hor.2.2.2.2.1, hor.2.2.2.2.2⟩ (by omega)
          refine ⟨trivial, CallsIn.inRound l (callsIn_wide.2 (hwi.mono ?_))⟩
          clear hwi
          rintro e w4 ⟨rfl, hF4⟩
          obtain ⟨P, hP⟩ : ∃ P, (if withinL r p side = true then r.a + d else r.a + d + r.n) = P := ⟨_, rfl⟩
          obtain ⟨G, hG⟩ : ∃ G, withinG r p = G := ⟨_, rfl⟩
          have HPG := Lib.hid (And.intro hP hG)
          rw [hP, hG]
          clear hP hG
          have HF4 := Lib.hid (HF3.out.none hF4)
          have HR4 := Lib.hid (HR3.out.fr hF4 (fun h => h))
          have HKO4 := Lib.hid (show KeepsOthers W w4 from HKO3.out.trans (KeepsOthers.of_grownBy (row := none) ⟨hF4.os, hF4.tape, hF4.output, hF4.size, fun k hk _ => hF4.block k hk (fun h => h)⟩ (fun j o e => by cases e)))
          clear hF4
          have hne8 : ∀ k, k < w1.heap.size → k ≠ w1.heap.size := fun k h => Nat.ne_of_lt h
          have d1 := (E1.out.fr HF4.out (hne8 _ (by omega))).cell 0
          have d2 := (E2.out.fr HF4.out (hne8 _ (by omega))).cell 0
          have l1 := (E1.out.fr HF4.out (hne8 _ (by omega))).lt
          have l2 := (E2.out.fr HF4.out (hne8 _ (by omega))).lt
          have HB3 := Lib.hid (E3.out.fr HF4.out (hne8 _ (by omega)))
          have HB4 := Lib.hid (E4.out.fr HF4.out (hne8 _ (by omega)))
          have r0 := HR4.out.cell 0
          have r1 := HR4.out.cell 1
          have lr := HR4.out.lt
          simp only [List.getElem?_cons_zero, List.getElem?_cons_succ] at d1 d2 r0 r1
          clear hne8
          have a0 := HB3.out.cell 0
          have a1 := HB3.out.cell 1
          have a2 := HB3.out.cell 2
          have a3 := HB3.out.cell 3
          have a4 := HB4.out.cell 0
          have f0 := HB3.out.frozen 0
          have f1 := HB3.out.frozen 1
          have f2 := HB3.out.frozen 2
          have f3 := HB3.out.frozen 3
          have f4 := HB4.out.frozen 0
          have l3 := HB3.out.lt
          have l5 := HB4.out.lt
          simp only [List.getElem?_cons_zero, List.getElem?_cons_succ] at a0 a1 a2 a3 a4
          simp only [spotC]
          by_cases hs : side < 0
          · obtain ⟨z, hz⟩ : ∃ z, (p != r.a) = z := ⟨_, rfl⟩
            have HZ := Lib.hid hz
            cases z
            · have HC := Lib.hid (show ¬ (side < 0 ∧ p ≠ r.a ∨ 0 ≤ side ∧ p ≠ r.a + r.o) by
                have h := HZ.out
                simp only [bne_eq_false_iff_eq] at h
                omega)
              gi_wp2
              obtain ⟨hw3, hw4, hko, hfr⟩ := store5 (by simp) HB3.out HB4.out (.int .i64 P) (.bool G) (.int .i64 (-1)) (.int .i64 0) (.int .i64 0) _ rfl
              refine ⟨(HKO4.out.trans hko).trans (KeepsOthers.alloc _ _), pre, x, ⟨rfl, HP.out⟩, .inr ⟨⟨rfl, by rw [HRX.out]; omega, by rw [HRX.out]; omega⟩, (hfr _ _ (HF4.out.mono (fun _ _ h => .inl h)) (.inl (.inr (.inl rfl))) (.inl (.inr (.inr rfl)))).alloc _, ?_, hw4.alloc _⟩⟩
              rw [HRES.out, spotF, if_neg HC.out, HPG.out.1, HPG.out.2]
              exact hw3.alloc _
            · have HC := Lib.hid (show (side < 0 ∧ p ≠ r.a ∨ 0 ≤ side ∧ p ≠ r.a + r.o) by
                have h := HZ.out
                simp only [bne_iff_ne] at h
                exact .inl ⟨hs, h⟩)
              gi_wp2
              obtain ⟨W5, hW5⟩ : ∃ W5, w4.alloc (.cells #[.int .i64 P, .bool G, .int .i64 (-1), .int .i64 0] 214) = W5 := ⟨_, rfl⟩
              rw [hW5]
              have HF5 := Lib.hid (show Fr (fun k => k = w1.heap.size) w2 W5 by rw [← hW5]; exact HF4.out.alloc _)
              have HKO5 := Lib.hid (show KeepsOthers W W5 by rw [← hW5]; exact HKO4.out.trans (KeepsOthers.alloc _ _))
              have HS5 := Lib.hid (show Blk W5 w4.heap.size [.int .i64 P, .bool G, .int .i64 (-1), .int .i64 0] 214 by rw [← hW5]; exact Blk.new _ _ _)
              have HR5 := Lib.hid (show Blk W5 W.heap.size [.int .i64 r.a, .int .i64 r.o, .int .i64 r.n] 205 by rw [← hW5]; exact HR4.out.alloc _)
              have HB15 := Lib.hid (show Blk W5 (w.heap.size + 1) [.int .i64 p] 3 from E1.out.fr HF5.out (Nat.ne_of_lt (by omega)))
              have HB35 := Lib.hid (show Blk W5 (w.heap.size + 1 + 1 + 1) [.int .i64 0, .bool false, .int .i64 0, .int .i64 0] 214 by rw [← hW5]; exact HB3.out.alloc _)
              have HB45 := Lib.hid (show Blk W5 (w.heap.size + 1 + 1 + 1 + 1) [.int .i64 0] 25 by rw [← hW5]; exact HB4.out.alloc _)
              have HW4 := Lib.hid (show w2.heap.size ≤ w4.heap.size from HF4.out.size)
              have HNE := Lib.hid (show w4.heap.size ≠ w.heap.size + 1 ∧ w4.heap.size ≠ W.heap.size ∧ w4.heap.size ≠ w.heap.size + 1 + 1 + 1 ∧ w4.heap.size ≠ w.heap.size + 1 + 1 + 1 + 1 by omega)
              clear hW5 d1 d2 l1 l2 r0 r1 lr a0 a1 a2 a3 a4 f0 f1 f2 f3 f4 l3 l5
              refine region_round_held (S := fun W' : World => W'.cell? ⟨w.heap.size + 1, 0, none⟩ = some (.int .i64 p) ∧ W'.cell? ⟨W.heap.size, 0, none⟩ = some (.int .i64 r.a)) (by kernel_rfl) (by kernel_rfl) ?hQ ?_
              case hQ => repeat (first | refine notOut_then ?_ | refine notOut_block ?_ | exact notOut_own)
              have HF6 : Hid (Fr (fun k => k = w1.heap.size) w2 W5.drew) := HF5.out.drew
              have HKO6 := Lib.hid (HKO5.out.trans (KeepsOthers.drew W5))
              have HS6 : Hid (Blk W5.drew w4.heap.size [.int .i64 P, .bool G, .int .i64 (-1), .int .i64 0] 214) := HS5.out.drew
              have HR6 : Hid (Blk W5.drew W.heap.size [.int .i64 r.a, .int .i64 r.o, .int .i64 r.n] 205) := HR5.out.drew
              have HB16 : Hid (Blk W5.drew (w.heap.size + 1) [.int .i64 p] 3) := HB15.out.drew
              have HB36 : Hid (Blk W5.drew (w.heap.size + 1 + 1 + 1) [.int .i64 0, .bool false, .int .i64 0, .int .i64 0] 214) := HB35.out.drew
              have HB46 : Hid (Blk W5.drew (w.heap.size + 1 + 1 + 1 + 1) [.int .i64 0] 25) := HB45.out.drew
              generalize W5.drew = w6 at HF6 HKO6 HS6 HR6 HB16 HB36 HB46 ⊢
              clear HF5 HKO5 HS5 HR5 HB15 HB35 HB45
              have HSD := Lib.hid (show w6.cell? ⟨w.heap.size + 1, 0, none⟩ = some (.int .i64 p) ∧ w6.cell? ⟨W.heap.size, 0, none⟩ = some (.int .i64 r.a) from ⟨HB16.out.cell 0, HR6.out.cell 0⟩)
              have HSD2 := Lib.hid (fun u => (show (w6.setCell ⟨w4.heap.size, 2, none⟩ u).cell? ⟨w.heap.size + 1, 0, none⟩ = some (.int .i64 p) ∧ (w6.setCell ⟨w4.heap.size, 2, none⟩ u).cell? ⟨W.heap.size, 0, none⟩ = some (.int .i64 r.a) from ⟨(HB16.out.far (p := ⟨w4.heap.size, 2, none⟩) HNE.out.1.symm u).cell 0, (HR6.out.far (p := ⟨w4.heap.size, 2, none⟩) HNE.out.2.1.symm u).cell 0⟩))
              have HSD3 := Lib.hid (fun u v => (show ((w6.setCell ⟨w4.heap.size, 2, none⟩ u).setCell ⟨w4.heap.size, 3, none⟩ v).cell? ⟨w.heap.size + 1, 0, none⟩ = some (.int .i64 p) ∧ ((w6.setCell ⟨w4.heap.size, 2, none⟩ u).setCell ⟨w4.heap.size, 3, none⟩ v).cell? ⟨W.heap.size, 0, none⟩ = some (.int .i64 r.a) from ⟨((HB16.out.far (p := ⟨w4.heap.size, 2, none⟩) HNE.out.1.symm u).far (p := ⟨w4.heap.size, 3, none⟩) HNE.out.1.symm v).cell 0, ((HR6.out.far (p := ⟨w4.heap.size, 2, none⟩) HNE.out.2.1.symm u).far (p := ⟨w4.heap.size, 3, none⟩) HNE.out.2.1.symm v).cell 0⟩))
              refine take_by (i := 0) (v := .int .i64 k) rfl HSD.out ?_
              refine take_by (i := 1) (v := .int .i64 p) rfl HSD.out ?_
              refine take_by (i := 2) (v := .pointer (some ⟨W.heap.size, 0, none⟩)) rfl HSD.out ?_
              refine take_by (i := 3) (v := .int .i64 r.a) rfl HSD.out ?_
              refine wpAnyH_take (i := 4) (v := .int .i64 (p - r.a)) rfl (by kernel_rfl) (by kernel_rfl) (by kernel_rfl) (fun _ _ _ h => h) (Or.inl ⟨by rfl, fun w hSw => by (try dsimp only at hSw); go_simp; rw [IntKind.wrap_i64]; omega⟩) HSD.out ?_
              refine take_by (i := 5) (v := .pointer (some ⟨w4.heap.size, 2, none⟩)) rfl HSD.out ?_
              try simp only [List.getElem_toArray, List.getElem_cons_succ, List.getElem_cons_zero, Act.put, List.setIfInBounds_toArray, List.set_cons_zero, List.set_cons_succ]
              have s2 := HS6.out.cell 2
              have fs2 := HS6.out.frozen 2
              have ls := HS6.out.lt
              simp only [List.getElem?_cons_zero, List.getElem?_cons_succ] at s2
              refine ready1 6 rfl (fun K hK => ?_)
              go_simp
              refine hK.out _ _ (HSD2.out _) (fun _ => ?_)
              clear hK K s2 fs2 ls
              try simp only [List.getElem_toArray, List.getElem_cons_succ, List.getElem_cons_zero, Act.put, List.setIfInBounds_toArray, List.set_cons_zero, List.set_cons_succ]
              refine take_by (i := 7) (v := .pointer (some ⟨w4.heap.size, 3, none⟩)) rfl (HSD2.out _) ?_
              try simp only [List.getElem_toArray, List.getElem_cons_succ, List.getElem_cons_zero, Act.put, List.setIfInBounds_toArray, List.set_cons_zero, List.set_cons_succ]
              have hs7 := HS6.out.set 2 (.int .i64 (k : Int))
              simp only [List.set_cons_succ, List.set_cons_zero] at hs7
              have s3 := hs7.cell 3
              have fs3 := hs7.frozen 3
              have ls := hs7.lt
              simp only [List.getElem?_cons_zero, List.getElem?_cons_succ] at s3
              refine ready1 8 rfl (fun K hK => ?_)
              go_simp
              refine hK.out _ _ (HSD3.out _ _) (fun _ => ?_)
              clear hK K s3 fs3 ls
              try simp only [List.getElem_toArray, List.getElem_cons_succ, List.getElem_cons_zero, Act.put, List.setIfInBounds_toArray, List.set_cons_zero, List.set_cons_succ]
              have HS7 := Lib.hid (hs7.set 3 (.int .i64 (p - r.a)))
              have HB37 := Lib.hid ((HB36.out.far (p := ⟨w4.heap.size, 2, none⟩) HNE.out.2.2.1.symm (.int .i64 (k : Int))).far (p := ⟨w4.heap.size, 3, none⟩) HNE.out.2.2.1.symm (.int .i64 (p - r.a)))
              have HB47 := Lib.hid ((HB46.out.far (p := ⟨w4.heap.size, 2, none⟩) HNE.out.2.2.2.symm (.int .i64 (k : Int))).far (p := ⟨w4.heap.size, 3, none⟩) HNE.out.2.2.2.symm (.int .i64 (p - r.a)))
              have HKO7 := Lib.hid ((HKO6.out.trans (KeepsOthers.setCell w6 ⟨w4.heap.size, 2, none⟩ (.int .i64 (k : Int)))).trans (KeepsOthers.setCell _ ⟨w4.heap.size, 3, none⟩ (.int .i64 (p - r.a))))
              have HF7 := Lib.hid ((HF6.out.setCell (p := ⟨w4.heap.size, 2, none⟩) (.inr HW4.out) (.int .i64 (k : Int))).setCell (p := ⟨w4.heap.size, 3, none⟩) (.inr HW4.out) (.int .i64 (p - r.a)))
              refine done_by ?_
              clear hs7
              generalize (w6.setCell ⟨w4.heap.size, 2, none⟩ (.int .i64 (k : Int))).setCell ⟨w4.heap.size, 3, none⟩ (.int .i64 (p - r.a)) = w7 at HS7 HB37 HB47 HKO7 HF7 ⊢
              have s0 := HS7.out.cell 0
              have s1 := HS7.out.cell 1
              have s2 := HS7.out.cell 2
              have s3 := HS7.out.cell 3
              have a0 := HB37.out.cell 0
              have a1 := HB37.out.cell 1
              have a2 := HB37.out.cell 2
              have a3 := HB37.out.cell 3
              have a4 := HB47.out.cell 0
              have f0 := HB37.out.frozen 0
              have f1 := HB37.out.frozen 1
              have f2 := HB37.out.frozen 2
              have f3 := HB37.out.frozen 3
              have f4 := HB47.out.frozen 0
              have ls := HS7.out.lt
              have l3 := HB37.out.lt
              have l5 := HB47.out.lt
              simp only [List.set_cons_succ, List.set_cons_zero, List.getElem?_cons_zero, List.getElem?_cons_succ] at s0 s1 s2 s3 a0 a1 a2 a3 a4
              gi_wp2
              obtain ⟨hw3, hw4, hko, hfr⟩ := store5 (by simp) HB37.out HB47.out (.int .i64 P) (.bool G) (.int .i64 (k : Int)) (.int .i64 (p - r.a)) (.int .i64 0) _ rfl
              refine ⟨HKO7.out.trans hko, pre, x, ⟨rfl, HP.out⟩, .inr ⟨⟨rfl, by rw [HRX.out]; omega, by rw [HRX.out]; omega⟩, hfr _ _ (HF7.out.mono (fun _ _ h => .inl h)) (.inl (.inr (.inl rfl))) (.inl (.inr (.inr rfl))), ?_, hw4⟩⟩
              rw [HRES.out, spotF, if_pos HC.out, HPG.out.1, HPG.out.2]
              exact hw3
          · have hs0 : 0 ≤ side := by omega
            obtain ⟨z, hz⟩ : ∃ z, (p != r.a + r.o) = z := ⟨_, rfl⟩
            have HZ := Lib.hid hz
            cases z
            · have HC := Lib.hid (show ¬ (side < 0 ∧ p ≠ r.a ∨ 0 ≤ side ∧ p ≠ r.a + r.o) by
                have h := HZ.out
                simp only [bne_eq_false_iff_eq] at h
                omega)
              gi_wp2
              obtain ⟨hw3, hw4, hko, hfr⟩ := store5 (by simp) HB3.out HB4.out (.int .i64 P) (.bool G) (.int .i64 (-1)) (.int .i64 0) (.int .i64 0) _ rfl
              refine ⟨(HKO4.out.trans hko).trans (KeepsOthers.alloc _ _), pre, x, ⟨rfl, HP.out⟩, .inr ⟨⟨rfl, by rw [HRX.out]; omega, by rw [HRX.out]; omega⟩, (hfr _ _ (HF4.out.mono (fun _ _ h => .inl h)) (.inl (.inr (.inl rfl))) (.inl (.inr (.inr rfl)))).alloc _, ?_, hw4.alloc _⟩⟩
              rw [HRES.out, spotF, if_neg HC.out, HPG.out.1, HPG.out.2]
              exact hw3.alloc _
            · have HC := Lib.hid (show (side < 0 ∧ p ≠ r.a ∨ 0 ≤ side ∧ p ≠ r.a + r.o) by
                have h := HZ.out
                simp only [bne_iff_ne] at h
                exact .inr ⟨hs0, h⟩)
              gi_wp2
              obtain ⟨W5, hW5⟩ : ∃ W5, w4.alloc (.cells #[.int .i64 P, .bool G, .int .i64 (-1), .int .i64 0] 214) = W5 := ⟨_, rfl⟩
              rw [hW5]
              have HF5 := Lib.hid (show Fr (fun k => k = w1.heap.size) w2 W5 by rw [← hW5]; exact HF4.out.alloc _)
              have HKO5 := Lib.hid (show KeepsOthers W W5 by rw [← hW5]; exact HKO4.out.trans (KeepsOthers.alloc _ _))
              have HS5 := Lib.hid (show Blk W5 w4.heap.size [.int .i64 P, .bool G, .int .i64 (-1), .int .i64 0] 214 by rw [← hW5]; exact Blk.new _ _ _)
              have HR5 := Lib.hid (show Blk W5 W.heap.size [.int .i64 r.a, .int .i64 r.o, .int .i64 r.n] 205 by rw [← hW5]; exact HR4.out.alloc _)
              have HB15 := Lib.hid (show Blk W5 (w.heap.size + 1) [.int .i64 p] 3 from E1.out.fr HF5.out (Nat.ne_of_lt (by omega)))
              have HB35 := Lib.hid (show Blk W5 (w.heap.size + 1 + 1 + 1) [.int .i64 0, .bool false, .int .i64 0, .int .i64 0] 214 by rw [← hW5]; exact HB3.out.alloc _)
              have HB45 := Lib.hid (show Blk W5 (w.heap.size + 1 + 1 + 1 + 1) [.int .i64 0] 25 by rw [← hW5]; exact HB4.out.alloc _)
              have HW4 := Lib.hid (show w2.heap.size ≤ w4.heap.size from HF4.out.size)
              have HNE := Lib.hid (show w4.heap.size ≠ w.heap.size + 1 ∧ w4.heap.size ≠ W.heap.size ∧ w4.heap.size ≠ w.heap.size + 1 + 1 + 1 ∧ w4.heap.size ≠ w.heap.size + 1 + 1 + 1 + 1 by omega)
              clear hW5 d1 d2 l1 l2 r0 r1 lr a0 a1 a2 a3 a4 f0 f1 f2 f3 f4 l3 l5
              refine region_round_held (S := fun W' : World => W'.cell? ⟨w.heap.size + 1, 0, none⟩ = some (.int .i64 p) ∧ W'.cell? ⟨W.heap.size, 0, none⟩ = some (.int .i64 r.a)) (by kernel_rfl) (by kernel_rfl) ?hQ ?_
              case hQ => repeat (first | refine notOut_then ?_ | refine notOut_block ?_ | exact notOut_own)
              have HF6 : Hid (Fr (fun k => k = w1.heap.size) w2 W5.drew) := HF5.out.drew
              have HKO6 := Lib.hid (HKO5.out.trans (KeepsOthers.drew W5))
              have HS6 : Hid (Blk W5.drew w4.heap.size [.int .i64 P, .bool G, .int .i64 (-1), .int .i64 0] 214) := HS5.out.drew
              have HR6 : Hid (Blk W5.drew W.heap.size [.int .i64 r.a, .int .i64 r.o, .int .i64 r.n] 205) := HR5.out.drew
              have HB16 : Hid (Blk W5.drew (w.heap.size + 1) [.int .i64 p] 3) := HB15.out.drew
              have HB36 : Hid (Blk W5.drew (w.heap.size + 1 + 1 + 1) [.int .i64 0, .bool false, .int .i64 0, .int .i64 0] 214) := HB35.out.drew
              have HB46 : Hid (Blk W5.drew (w.heap.size + 1 + 1 + 1 + 1) [.int .i64 0] 25) := HB45.out.drew
              generalize W5.drew = w6 at HF6 HKO6 HS6 HR6 HB16 HB36 HB46 ⊢
              clear HF5 HKO5 HS5 HR5 HB15 HB35 HB45
              have HSD := Lib.hid (show w6.cell? ⟨w.heap.size + 1, 0, none⟩ = some (.int .i64 p) ∧ w6.cell? ⟨W.heap.size, 0, none⟩ = some (.int .i64 r.a) from ⟨HB16.out.cell 0, HR6.out.cell 0⟩)
              have HSD2 := Lib.hid (fun u => (show (w6.setCell ⟨w4.heap.size, 2, none⟩ u).cell? ⟨w.heap.size + 1, 0, none⟩ = some (.int .i64 p) ∧ (w6.setCell ⟨w4.heap.size, 2, none⟩ u).cell? ⟨W.heap.size, 0, none⟩ = some (.int .i64 r.a) from ⟨(HB16.out.far (p := ⟨w4.heap.size, 2, none⟩) HNE.out.1.symm u).cell 0, (HR6.out.far (p := ⟨w4.heap.size, 2, none⟩) HNE.out.2.1.symm u).cell 0⟩))
              have HSD3 := Lib.hid (fun u v => (show ((w6.setCell ⟨w4.heap.size, 2, none⟩ u).setCell ⟨w4.heap.size, 3, none⟩ v).cell? ⟨w.heap.size + 1, 0, none⟩ = some (.int .i64 p) ∧ ((w6.setCell ⟨w4.heap.size, 2, none⟩ u).setCell ⟨w4.heap.size, 3, none⟩ v).cell? ⟨W.heap.size, 0, none⟩ = some (.int .i64 r.a) from ⟨((HB16.out.far (p := ⟨w4.heap.size, 2, none⟩) HNE.out.1.symm u).far (p := ⟨w4.heap.size, 3, none⟩) HNE.out.1.symm v).cell 0, ((HR6.out.far (p := ⟨w4.heap.size, 2, none⟩) HNE.out.2.1.symm u).far (p := ⟨w4.heap.size, 3, none⟩) HNE.out.2.1.symm v).cell 0⟩))
              refine take_by (i := 0) (v := .int .i64 k) rfl HSD.out ?_
              refine take_by (i := 1) (v := .int .i64 p) rfl HSD.out ?_
              refine take_by (i := 2) (v := .pointer (some ⟨W.heap.size, 0, none⟩)) rfl HSD.out ?_
              refine take_by (i := 3) (v := .int .i64 r.a) rfl HSD.out ?_
              refine wpAnyH_take (i := 4) (v := .int .i64 (p - r.a)) rfl (by kernel_rfl) (by kernel_rfl) (by kernel_rfl) (fun _ _ _ h => h) (Or.inl ⟨by rfl, fun w hSw => by (try dsimp only at hSw); go_simp; rw [IntKind.wrap_i64]; omega⟩) HSD.out ?_
              refine take_by (i := 5) (v := .pointer (some ⟨w4.heap.size, 2, none⟩)) rfl HSD.out ?_
              try simp only [List.getElem_toArray, List.getElem_cons_succ, List.getElem_cons_zero, Act.put, List.setIfInBounds_toArray, List.set_cons_zero, List.set_cons_succ]
              have s2 := HS6.out.cell 2
              have fs2 := HS6.out.frozen 2
              have ls := HS6.out.lt
              simp only [List.getElem?_cons_zero, List.getElem?_cons_succ] at s2
              refine ready1 6 rfl (fun K hK => ?_)
              go_simp
              refine hK.out _ _ (HSD2.out _) (fun _ => ?_)
              clear hK K s2 fs2 ls
              try simp only [List.getElem_toArray, List.getElem_cons_succ, List.getElem_cons_zero, Act.put, List.setIfInBounds_toArray, List.set_cons_zero, List.set_cons_succ]
              refine take_by (i := 7) (v := .pointer (some ⟨w4.heap.size, 3, none⟩)) rfl (HSD2.out _) ?_
              try simp only [List.getElem_toArray, List.getElem_cons_succ, List.getElem_cons_zero, Act.put, List.setIfInBounds_toArray, List.set_cons_zero, List.set_cons_succ]
              have hs7 := HS6.out.set 2 (.int .i64 (k : Int))
              simp only [List.set_cons_succ, List.set_cons_zero] at hs7
              have s3 := hs7.cell 3
              have fs3 := hs7.frozen 3
              have ls := hs7.lt
              simp only [List.getElem?_cons_zero, List.getElem?_cons_succ] at s3
              refine ready1 8 rfl (fun K hK => ?_)
              go_simp
              refine hK.out _ _ (HSD3.out _ _) (fun _ => ?_)
              clear hK K s3 fs3 ls
              try simp only [List.getElem_toArray, List.getElem_cons_succ, List.getElem_cons_zero, Act.put, List.setIfInBounds_toArray, List.set_cons_zero, List.set_cons_succ]
              have HS7 := Lib.hid (hs7.set 3 (.int .i64 (p - r.a)))
              have HB37 := Lib.hid ((HB36.out.far (p := ⟨w4.heap.size, 2, none⟩) HNE.out.2.2.1.symm (.int .i64 (k : Int))).far (p := ⟨w4.heap.size, 3, none⟩) HNE.out.2.2.1.symm (.int .i64 (p - r.a)))
              have HB47 := Lib.hid ((HB46.out.far (p := ⟨w4.heap.size, 2, none⟩) HNE.out.2.2.2.symm (.int .i64 (k : Int))).far (p := ⟨w4.heap.size, 3, none⟩) HNE.out.2.2.2.symm (.int .i64 (p - r.a)))
              have HKO7 := Lib.hid ((HKO6.out.trans (KeepsOthers.setCell w6 ⟨w4.heap.size, 2, none⟩ (.int .i64 (k : Int)))).trans (KeepsOthers.setCell _ ⟨w4.heap.size, 3, none⟩ (.int .i64 (p - r.a))))
              have HF7 := Lib.hid ((HF6.out.setCell (p := ⟨w4.heap.size, 2, none⟩) (.inr HW4.out) (.int .i64 (k : Int))).setCell (p := ⟨w4.heap.size, 3, none⟩) (.inr HW4.out) (.int .i64 (p - r.a)))
              refine done_by ?_
              clear hs7
              generalize (w6.setCell ⟨w4.heap.size, 2, none⟩ (.int .i64 (k : Int))).setCell ⟨w4.heap.size, 3, none⟩ (.int .i64 (p - r.a)) = w7 at HS7 HB37 HB47 HKO7 HF7 ⊢
              have s0 := HS7.out.cell 0
              have s1 := HS7.out.cell 1
              have s2 := HS7.out.cell 2
              have s3 := HS7.out.cell 3
              have a0 := HB37.out.cell 0
              have a1 := HB37.out.cell 1
              have a2 := HB37.out.cell 2
              have a3 := HB37.out.cell 3
              have a4 := HB47.out.cell 0
              have f0 := HB37.out.frozen 0
              have f1 := HB37.out.frozen 1
              have f2 := HB37.out.frozen 2
              have f3 := HB37.out.frozen 3
              have f4 := HB47.out.frozen 0
              have ls := HS7.out.lt
              have l3 := HB37.out.lt
              have l5 := HB47.out.lt
              simp only [List.set_cons_succ, List.set_cons_zero, List.getElem?_cons_zero, List.getElem?_cons_succ] at s0 s1 s2 s3 a0 a1 a2 a3 a4
              gi_wp2
              obtain ⟨hw3, hw4, hko, hfr⟩ := store5 (by simp) HB37.out HB47.out (.int .i64 P) (.bool G) (.int .i64 (k : Int)) (.int .i64 (p - r.a)) (.int .i64 0) _ rfl
              refine ⟨HKO7.out.trans hko, pre, x, ⟨rfl, HP.out⟩, .inr ⟨⟨rfl, by rw [HRX.out]; omega, by rw [HRX.out]; omega⟩, hfr _ _ (HF7.out.mono (fun _ _ h => .inl h)) (.inl (.inr (.inl rfl))) (.inl (.inr (.inr rfl))), ?_, hw4⟩⟩
              rw [HRES.out, spotF, if_pos HC.out, HPG.out.1, HPG.out.2]
              exact hw3
        · gi_wp2
          refine ⟨(KeepsOthers.setCell _ _ _).trans (KeepsOthers.alloc _ _), (KpR.setCell HBW.out (by omega) (by decide) _).trans (KpR.alloc (by simp [World.setCell]; omega) _), ⟨(HFW.out.setCell (p := ⟨w1.heap.size, 0, none⟩) (.inl rfl) _).alloc _, ?_⟩, fun j hj => (List.mem_append.1 hj).elim (HP.out j) (fun h => ?_)⟩
          · have hv : p + (r.a + d) - r.a + r.n - r.o = atP xs p (pre ++ [x]) := by
              rw [atP_snoc, HDS.out, HD.out]; omega
            rw [hv]
            exact (HBW.out.set 0 _).alloc _
          · rw [List.mem_singleton.1 h]
            exact HPS.out.2 ⟨by omega, by omega⟩
    case done =>
      rintro D ys W hD hU ⟨⟨hF, hB⟩, hP⟩ hK
      have HG := Lib.hid (show mapGo xs p side 0 xs = ⟨atP xs p ys, false, -1, 0⟩ by rw [mapGo_done side (fun j => hP j (hU.all j)), atP_upto xs p hU])
      clear hU hP
      have hne8 : ∀ k, k < w1.heap.size → k ≠ w1.heap.size := fun k h => Nat.ne_of_lt h
      have HB3 := Lib.hid (E3.out.fr hF (hne8 _ (by omega)))
      have HB4 := Lib.hid (E4.out.fr hF (hne8 _ (by omega)))
      have HFW := Lib.hid hF
      have HKD := Lib.hid hK
      obtain ⟨at0, hat⟩ : ∃ a, atP xs p ys = a := ⟨_, rfl⟩
      rw [hat] at hB
      have HAT := Lib.hid hat
      have d8 := hB.cell 0
      have l8 := hB.lt
      have a0 := HB3.out.cell 0
      have a1 := HB3.out.cell 1
      have a2 := HB3.out.cell 2
      have a3 := HB3.out.cell 3
      have a4 := HB4.out.cell 0
      have f0 := HB3.out.frozen 0
      have f1 := HB3.out.frozen 1
      have f2 := HB3.out.frozen 2
      have f3 := HB3.out.frozen 3
      have f4 := HB4.out.frozen 0
      have l3 := HB3.out.lt
      have l5 := HB4.out.lt
      simp only [List.getElem?_cons_zero, List.getElem?_cons_succ] at d8 a0 a1 a2 a3 a4
      clear hF hB hK hat hne8
      gi_wp2
      obtain ⟨hw3, hw4, hko, hfr⟩ := store5 (by simp) HB3.out HB4.out (.int .i64 at0) (.bool false) (.int .i64 (-1)) (.int .i64 0) (.int .i64 0) _ rfl
      refine ⟨by simp, .inl ⟨_, _, rfl, run_takeDeferred (hko.same D _ HKD.out rfl), ?_⟩⟩
      have HFE := Lib.hid (fr_putObj (.deferred none) (hfr (fun k => k = w1.heap.size ∨ k = w.heap.size + 1 + 1 + 1 ∨ k = w.heap.size + 1 + 1 + 1 + 1) w2 (HFW.out.mono (fun _ _ h => .inl h)) (.inl (.inr (.inl rfl))) (.inl (.inr (.inr rfl)))) hD)
      have hv3 := blk_putObj (D := D) (.deferred none) hw3 (by omega)
      have p0 := hv3.cell 0
      have p1 := hv3.cell 1
      have p2 := hv3.cell 2
      have p3 := hv3.cell 3
      have p4 := (blk_putObj (D := D) (.deferred none) hw4 (by omega)).cell 0
      simp only [List.getElem?_cons_zero, List.getElem?_cons_succ] at p0 p1 p2 p3 p4
      clear hw3 hw4 hko hfr hv3
      generalize (((((W.setCell ⟨w.heap.size + 1 + 1 + 1, 0, none⟩ (.int .i64 at0)).setCell ⟨w.heap.size + 1 + 1 + 1, 1, none⟩ (.bool false)).setCell ⟨w.heap.size + 1 + 1 + 1, 2, none⟩ (.int .i64 (-1))).setCell ⟨w.heap.size + 1 + 1 + 1, 3, none⟩ (.int .i64 0)).setCell ⟨w.heap.size + 1 + 1 + 1 + 1, 0, none⟩ (.int .i64 0)).putObj D (.deferred none) = WE at HFE p0 p1 p2 p3 p4 ⊢
      refine ⟨.tuple #[.agg #[.int .i64 at0, .bool false, .int .i64 (-1), .int .i64 0], .int .i64 0], by simp [results, go_sem, p0, p1, p2, p3, p4], ?_⟩
      rw [← HRR.out, HG.out, ← HAT.out]
      exact ⟨rfl, HF2.out.trans HFE.out (fun k hk h => by rcases h with rfl | rfl | rfl <;> omega)⟩
    case stop =>
      rintro D c pre W hD ⟨k, hk, hU⟩ ⟨ini, j, ⟨rfl, hpass⟩, (⟨⟨rfl, hb⟩, hF, hB⟩ | ⟨⟨rfl, h1, h2⟩, hF, hb3, hb4⟩)⟩ hK
      · obtain ⟨_, hU2⟩ := hU.pre
        have HG := Lib.hid (show mapGo xs p side 0 xs = ⟨atP xs p ini, false, -1, 0⟩ by rw [mapGo_break side j (fun i hi => hpass i (hU2.below i hi)) hb, atP_upto xs p hU2])
        clear hU hU2 hpass hb
        have hne8 : ∀ k, k < w1.heap.size → k ≠ w1.heap.size := fun k h => Nat.ne_of_lt h
        have HB3 := Lib.hid (E3.out.fr hF (hne8 _ (by omega)))
        have HB4 := Lib.hid (E4.out.fr hF (hne8 _ (by omega)))
        have HFW := Lib.hid hF
        have HKD := Lib.hid hK
        obtain ⟨at0, hat⟩ : ∃ a, atP xs p ini = a := ⟨_, rfl⟩
        rw [hat] at hB
        have HAT := Lib.hid hat
        have d8 := hB.cell 0
        have l8 := hB.lt
        have a0 := HB3.out.cell 0
        have a1 := HB3.out.cell 1
        have a2 := HB3.out.cell 2
        have a3 := HB3.out.cell 3
        have a4 := HB4.out.cell 0
        have f0 := HB3.out.frozen 0
        have f1 := HB3.out.frozen 1
        have f2 := HB3.out.frozen 2
        have f3 := HB3.out.frozen 3
        have f4 := HB4.out.frozen 0
        have l3 := HB3.out.lt
        have l5 := HB4.out.lt
        simp only [List.getElem?_cons_zero, List.getElem?_cons_succ] at d8 a0 a1 a2 a3 a4
        clear hF hB hK hat hne8
        gi_wp2
        obtain ⟨hw3, hw4, hko, hfr⟩ := store5 (by simp) HB3.out HB4.out (.int .i64 at0) (.bool false) (.int .i64 (-1)) (.int .i64 0) (.int .i64 0) _ rfl
        refine ⟨by simp, .inl ⟨_, _, rfl, run_takeDeferred (hko.same D _ HKD.out rfl), ?_⟩⟩
        have HFE := Lib.hid (fr_putObj (.deferred none) (hfr (fun k => k = w1.heap.size ∨ k = w.heap.size + 1 + 1 + 1 ∨ k = w.heap.size + 1 + 1 + 1 + 1) w2 (HFW.out.mono (fun _ _ h => .inl h)) (.inl (.inr (.inl rfl))) (.inl (.inr (.inr rfl)))) hD)
        have hv3 := blk_putObj (D := D) (.deferred none) hw3 (by omega)
        have p0 := hv3.cell 0
        have p1 := hv3.cell 1
        have p2 := hv3.cell 2
        have p3 := hv3.cell 3
        have p4 := (blk_putObj (D := D) (.deferred none) hw4 (by omega)).cell 0
        simp only [List.getElem?_cons_zero, List.getElem?_cons_succ] at p0 p1 p2 p3 p4
        clear hw3 hw4 hko hfr hv3
        generalize (((((W.setCell ⟨w.heap.size + 1 + 1 + 1, 0, none⟩ (.int .i64 at0)).setCell ⟨w.heap.size + 1 + 1 + 1, 1, none⟩ (.bool false)).setCell ⟨w.heap.size + 1 + 1 + 1, 2, none⟩ (.int .i64 (-1))).setCell ⟨w.heap.size + 1 + 1 + 1, 3, none⟩ (.int .i64 0)).setCell ⟨w.heap.size + 1 + 1 + 1 + 1, 0, none⟩ (.int .i64 0)).putObj D (.deferred none) = WE at HFE p0 p1 p2 p3 p4 ⊢
        refine ⟨.tuple #[.agg #[.int .i64 at0, .bool false, .int .i64 (-1), .int .i64 0], .int .i64 0], by simp [results, go_sem, p0, p1, p2, p3, p4], ?_⟩
        rw [← HRR.out, HG.out, ← HAT.out]
        exact ⟨rfl, HF2.out.trans HFE.out (fun k hk h => by rcases h with rfl | rfl | rfl <;> omega)⟩
      · obtain ⟨_, hU2⟩ := hU.pre
        have HG := Lib.hid (mapGo_hit side j (fun i hi => hpass i (hU2.below i hi)) h1 h2)
        generalize spotF (begF xs j.val) p side j.val xs[j.val] = sp at HG hb3
        obtain ⟨sa, sg, si, so⟩ := sp
        simp only [Spot.cells, spotC] at hb3
        clear hU hU2 hpass h1 h2
        gi_wp2
        refine ⟨by simp, .inl ⟨_, _, rfl, run_takeDeferred hK, ?_⟩⟩
        have HFE := Lib.hid (fr_putObj (.deferred none) hF hD)
        have hv3 := blk_putObj (D := D) (.deferred none) hb3 (by omega)
        have p0 := hv3.cell 0
        have p1 := hv3.cell 1
        have p2 := hv3.cell 2
        have p3 := hv3.cell 3
        have p4 := (blk_putObj (D := D) (.deferred none) hb4 (by omega)).cell 0
        simp only [List.getElem?_cons_zero, List.getElem?_cons_succ] at p0 p1 p2 p3 p4
        clear hv3
        generalize W.putObj D (.deferred none) = WE at HFE p0 p1 p2 p3 p4 ⊢
        refine ⟨.tuple #[.agg #[.int .i64 sa, .bool sg, .int .i64 si, .int .i64 so], .int .i64 0], by simp [results, go_sem, p0, p1, p2, p3, p4], ?_⟩
        rw [← HRR.out, HG.out]
        exact ⟨rfl, HF2.out.trans HFE.out (fun k hk h => by rcases h with rfl | rfl | rfl <;> omega)⟩
end Go.Proofs.YtldcffonfidbcaaGreatDoor
