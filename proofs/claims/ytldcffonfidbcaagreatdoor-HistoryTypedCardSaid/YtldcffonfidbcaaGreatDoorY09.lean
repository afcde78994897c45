/- A part of the proof for chapter 10: Made; no conditions. -/
import Derived.Test.YtldcffonfidbcaaGreatDoorY08
import Derived.Deep.AppendLies
import Derived.Outline
import Derived.Deep.DeepCutAuto
/- Chapter 6: 'build' and 'made', of 'x*' and 'x+'. -/
namespace Go.Proofs.YtldcffonfidbcaaGreatDoor
open Go.RowKit
theorem infoS : (Tryz.prog.info? 75).map (fun i => (i.zero, i.size, i.bytes)) = some (some (.slice none 0 0), 1, 24) := by kernel_rfl
theorem ownNil (w : World) (B : Nat) (E : TypeId) : w.ownsRow B E 1 (.slice none 0 0) 0 [] := ⟨rfl, .inl ⟨rfl, rfl⟩⟩
theorem new_cells (w : World) (v : Value) (t : TypeId) : ∀ j u, [v][j]? = some u → (w.alloc (.cells #[v] t)).cell? ((⟨w.heap.size, 0, none⟩ : Addr).add j) = some u := fun j u hj => by
  rw [add_lit]
  exact ((Blk.new_at w [v] t w.heap.size rfl).cell j).trans hj
/-- A block, and all from one on. -/
def Mb (m N : Nat) : Nat → Prop := fun k => k = m ∨ N ≤ k
theorem new_row0 (w : World) (v : Value) (Z : Array Value) (t : TypeId) (n : Nat) (h : n = w.heap.size) : (w.alloc (.cells (#[v] ++ Z) t)).drew.cell? ⟨n, 0, none⟩ = some v ∧ (w.alloc (.cells (#[v] ++ Z) t)).drew.frozen? ⟨n, 0, none⟩ = false := by
  subst h
  have hb : (w.alloc (.cells (#[v] ++ Z) t)).drew.heap[w.heap.size]? = some (.cells (#[v] ++ Z) t (0, 0)) := heap_alloc_new w _
  refine ⟨?_, ?_⟩
  · rw [cell_of_row _ w.heap.size 0 (#[v] ++ Z) t (0, 0) hb, Array.getElem?_append_left (by simp)]; rfl
  · unfold World.frozen?; rw [hb]; rfl
set_option maxRecDepth 100000 in
set_option maxHeartbeats 1000000 in
theorem buildname_any (g : List Grp) (hgl : g.length ≤ 1000000) (nm : ByteArray) (m : Nat) (LA : Option Addr) (lc : Nat) (v : Value) (N : Nat) (w : World) (hN : N ≤ w.heap.size) (hg : Grps (Mb m N) w v g) (hT : (typesF g nm).length ≤ 1000000)
    (hm : Blk w m [.slice none 0 0, .slice none 0 0, .bool false, .slice none 0 0, .slice none 0 0] 176) :
    Calls Tryz.prog 90 #[.pointer (some ⟨m, 0, none⟩), .agg #[.int .i64 1, .string nm, .slice LA 0 lc], v] w fun e w' => (∃ (TA : Option Addr) (tc tb fb nb c1 c2 : Nat),
      e = .returned (.agg #[.bool false, .slice (some ⟨nb, 0, none⟩) 1 1, .slice (some ⟨nb, 0, none⟩) 1 1]) ∧
      Blk w' m [.slice (some ⟨tb, 0, none⟩) 1 c1, .slice (some ⟨fb, 0, none⟩) 1 c2, .bool false, .slice none 0 0, .slice none 0 0] 176 ∧
      w.heap.size ≤ fb ∧ w.heap.size ≤ tb ∧ fb ≠ tb ∧ fb ≠ nb ∧ w.heap.size ≤ nb ∧ w'.cell? ⟨tb, 0, none⟩ = some (.slice TA (typesF g nm).length tc) ∧ Rd (Mb m N) w' TA (intC (typesF g nm)) ∧ (w'.cell? ⟨fb, 0, none⟩ = some (.slice none 0 0) ∧ w'.frozen? ⟨fb, 0, none⟩ = false) ∧ w'.cell? ⟨nb, 0, none⟩ = some (.int .i64 0)) ∧ Fr (One m) w w' := by
  obtain ⟨GA, gc, gcss, rfl, _, _⟩ := id hg
  obtain ⟨T, hTT⟩ : ∃ T, typesF g nm = T := ⟨_, rfl⟩
  have hty := fun W h => types_any (Mb m N) g (.slice GA g.length gc) nm W h hgl
  rw [hTT] at hty hT ⊢
  obtain ⟨i0, hi, hz0, hz1, hz2⟩ := info_parts infoS
  obtain ⟨w0, hw0⟩ : ∃ w0, (w.alloc (.cells #[.int .i64 1, .string nm, .slice LA 0 lc] 82)).alloc (.cells #[.bool false, .slice none 0 0, .slice none 0 0] 174) = w0 := ⟨_, rfl⟩
  have hf0 : Fr Nob w w0 := hw0 ▸ ((Fr.refl _ _).alloc _).alloc _
  have hbx : Blk w0 w.heap.size [.int .i64 1, .string nm, .slice LA 0 lc] 82 := hw0 ▸ (Blk.new _ _ _).alloc _
  have hbp : Blk w0 (w.heap.size + 1) [.bool false, .slice none 0 0, .slice none 0 0] 174 := hw0 ▸ Blk.new_at _ _ _ _ (by simp)
  have hsz : w0.heap.size = w.heap.size + 1 + 1 := by rw [← hw0]; simp
  have HW0 := Lib.hid hw0
  have HF0 := Lib.hid hf0
  have HBX := Lib.hid hbx
  have HBP := Lib.hid hbp
  have HM0 := Lib.hid (hm.fr hf0 (fun h => h))
  have HM := Lib.hid hm
  have HG := Lib.hid hg
  have HTY := Lib.hid hty
  have hlm := hm.lt
  clear hw0 hf0 hbx hbp hm hg hty hTT
  go_enter Tryz.func90, Tryz.ntmps90
  go_upto_region 5 with (fail)
  rw [HW0.out]
  clear HW0
  have K0 : ∀ W, Fr Nob w0 W → W.cell? ⟨m, 0, none⟩ = some (.slice none 0 0) ∧ W.frozen? ⟨m, 0, none⟩ = false ∧ W.cell? ⟨w.heap.size, 1, none⟩ = some (.string nm) ∧ Hid (Fr Nob w0 W) := fun W hF =>
    ⟨(HM0.out.fr hF (fun h => h)).cell 0, (HM0.out.fr hF (fun h => h)).frozen 0, (HBX.out.fr hF (fun h => h)).cell 1, hF⟩
  have K1 : ∀ W, Hid (Fr Nob w0 W) → Calls Tryz.prog 127 #[.slice GA g.length gc, .string nm] W fun e w' => ∃ A c, e = .returned (.slice A T.length c) ∧ Hid (Rd (Mb m N) w' A (intC T)) ∧ Hid (Fr Nob w0 w') := fun W hF =>
    (HTY.out W (HG.out.fr0 (HF0.out.same hF.out))).mono fun e w' h => by
      obtain ⟨⟨A, c, h1, _, h3⟩, h4⟩ := h
      exact ⟨A, c, h1, h3, hF.out.same h4⟩
  have HK0 := Lib.hid K0
  have HK1 := Lib.hid K1
  have hlm0 : m < w0.heap.size := HM0.out.lt
  clear K0 K1
  go_cut [32] (fun s32 wx => ∃ (TA : Option Addr) (tc tb c1 : Nat), s32 = .slice TA T.length tc ∧ Hid (Fr (One m) w0 wx) ∧ Hid (Blk wx m [.slice (some ⟨tb, 0, none⟩) 1 c1, .slice none 0 0, .bool false, .slice none 0 0, .slice none 0 0] 176) ∧ Hid (w0.heap.size ≤ tb ∧ tb < wx.heap.size ∧ wx.cell? ⟨tb, 0, none⟩ = some (.slice TA T.length tc)) ∧ Hid (Rd (Mb m N) wx TA (intC T)))
  case first =>
    have HFd : Hid (Fr Nob w0 w0.drew) := (Fr.refl Nob w0).drew
    obtain ⟨k1, k2, k3, _⟩ := HK0.out _ HFd.out
    have hFn : Hid (Fr Nob w0 w0) := Fr.refl Nob w0
    obtain ⟨q1, q2, q3, _⟩ := HK0.out _ hFn.out
    go_region_with (go_at_call 127; refine (HK1.out _ (by assumption)).mono ?_; rintro e w' ⟨A2, c2, rfl, hR2, hFF⟩; have hS := HK0.out _ hFF.out; obtain ⟨k4, k5, k6, _⟩ := hS; have k7 := cell_lt k4)
    all_goals
      go_wp2_with fail
      go_meet
      refine ⟨A2, c2, w'.heap.size + 1, (Question.appendCap 1 0 75).cut (w'.tape w'.drawn (Question.appendCap 1 0 75)), rfl, ?_, ?_, ?_, ?_⟩
      · exact (((((hFF.out.any (M := One m)).setCell (p := ⟨m, 0, none⟩) (.inl (show One m m from rfl)) _).alloc _).alloc _).drew)
      · exact ((((HM0.out.fr hFF.out (fun h => h)).set 0 _).alloc _).alloc _).drew
      · have h3 := hFF.out.size
        refine ⟨by omega, by simp, ?_⟩
        exact (new_row0 _ _ _ _ _ (by simp)).1
      · exact hR2.out.fr (M' := One m) ((((((Fr.refl (One m) w').setCell (p := ⟨m, 0, none⟩) (.inl (show One m m from rfl)) _).alloc _).alloc _).drew)) (fun k hk h => .inl h)
  case rest =>
    obtain ⟨TA, tc, tb, c1, rfl, HF1, HM1, HTB, HRT⟩ := hcut
    have d0 := HM1.out.cell 0
    have d1 := HM1.out.cell 1
    have e1 := HM1.out.frozen 1
    have hlm1 := HM1.out.lt
    go_upto_region 6 with (fail)
    go_cut [43] (fun s43 wx => ∃ (fb c2 : Nat), s43 = .slice (some ⟨fb, 0, none⟩) 1 c2 ∧ Hid (Fr (One m) wc wx) ∧ Hid (Blk wx m [.slice (some ⟨tb, 0, none⟩) 1 c1, .slice (some ⟨fb, 0, none⟩) 1 c2, .bool false, .slice none 0 0, .slice none 0 0] 176) ∧ Hid (wc.heap.size ≤ fb ∧ fb < wx.heap.size ∧ wx.cell? ⟨fb, 0, none⟩ = some (.slice none 0 0) ∧ wx.frozen? ⟨fb, 0, none⟩ = false))
    case first =>
      go_wp2_with fail
      all_goals
        go_meet
        refine ⟨wc.heap.size + 1, (Question.appendCap 1 0 75).cut (wc.tape wc.drawn (Question.appendCap 1 0 75)), rfl, ?_, ?_, ?_⟩
        · exact (((((Fr.refl (One m) wc).setCell (p := ⟨m, 1, none⟩) (.inl (show One m m from rfl)) _).alloc _).alloc _).drew)
        · exact (((HM1.out.set 1 _).alloc _).alloc _).drew
        · exact ⟨by omega, by simp, (new_row0 _ _ _ _ _ (by simp)).1, (new_row0 _ _ _ _ _ (by simp)).2⟩
    case rest =>
      obtain ⟨fb, c2, rfl, HF2, HM2, HFB⟩ := hcut
      have hbp1 := HBP.out.fr (HF1.out.same HF2.out) (fun h => by have : w.heap.size + 1 = m := h; omega)
      have p0 := hbp1.cell 0
      have p1 := hbp1.cell 1
      have p2 := hbp1.cell 2
      have o0 := hbp1.frozen 0
      have o1 := hbp1.frozen 1
      have o2 := hbp1.frozen 2
      have hlp := hbp1.lt
      have HBP1 := Lib.hid hbp1
      have d0 := HM2.out.cell 0
      have hlm2 := HM2.out.lt
      simp only [List.getElem?_cons_zero, List.getElem?_cons_succ] at p0 p1 p2 d0
      clear hbp1 d1 e1
      go_wp2_with fail
      have hf9 : Fr (One (w.heap.size + 1)) wc ((((wc.setCell ⟨w.heap.size + 1, 0, none⟩ (.bool false)).setCell ⟨w.heap.size + 1, 1, none⟩ (.slice (some ⟨wc.heap.size, 0, none⟩) 1 1)).setCell ⟨w.heap.size + 1, 2, none⟩ (.slice (some ⟨wc.heap.size, 0, none⟩) 1 1)).alloc (.cells #[.int .i64 0] 3)) := (fr_store3 wc (w.heap.size + 1) _ _ _).alloc _
      have hne : ∀ k, k ≠ w.heap.size + 1 → ¬ One (w.heap.size + 1) k := fun k hk h => hk h
      have hnm : ∀ k, k ≠ m → ¬ One m k := fun k hk h => hk h
      have h1 := HTB.out
      have h2 := HFB.out
      have h3 := HF1.out.size
      have h4 := HF2.out.size
      have hbp9 : Blk ((((wc.setCell ⟨w.heap.size + 1, 0, none⟩ (.bool false)).setCell ⟨w.heap.size + 1, 1, none⟩ (.slice (some ⟨wc.heap.size, 0, none⟩) 1 1)).setCell ⟨w.heap.size + 1, 2, none⟩ (.slice (some ⟨wc.heap.size, 0, none⟩) 1 1)).alloc (.cells #[.int .i64 0] 3)) (w.heap.size + 1) [.bool false, .slice (some ⟨wc.heap.size, 0, none⟩) 1 1, .slice (some ⟨wc.heap.size, 0, none⟩) 1 1] 174 := (((HBP1.out.set 0 _).set 1 _).set 2 _).alloc _
      have hnb9 : ((((wc.setCell ⟨w.heap.size + 1, 0, none⟩ (.bool false)).setCell ⟨w.heap.size + 1, 1, none⟩ (.slice (some ⟨wc.heap.size, 0, none⟩) 1 1)).setCell ⟨w.heap.size + 1, 2, none⟩ (.slice (some ⟨wc.heap.size, 0, none⟩) 1 1)).alloc (.cells #[.int .i64 0] 3)).cell? ⟨wc.heap.size, 0, none⟩ = some (.int .i64 0) := (Blk.new_at _ [.int .i64 0] 3 wc.heap.size (by simp)).cell 0
      clear p0 p1 p2 o0 o1 o2 d0
      generalize (((wc.setCell ⟨w.heap.size + 1, 0, none⟩ (.bool false)).setCell ⟨w.heap.size + 1, 1, none⟩ (.slice (some ⟨wc.heap.size, 0, none⟩) 1 1)).setCell ⟨w.heap.size + 1, 2, none⟩ (.slice (some ⟨wc.heap.size, 0, none⟩) 1 1)).alloc (.cells #[.int .i64 0] 3) = W9 at hf9 hbp9 hnb9 ⊢
      have p0 := hbp9.cell 0
      have p1 := hbp9.cell 1
      have p2 := hbp9.cell 2
      simp only [List.getElem?_cons_zero, List.getElem?_cons_succ] at p0 p1 p2
      refine bodyPost_ret (v := .agg #[.bool false, .slice (some ⟨wc.heap.size, 0, none⟩) 1 1, .slice (some ⟨wc.heap.size, 0, none⟩) 1 1]) (by simp [results, go_sem, p0, p1, p2]) rfl
        ⟨⟨TA, tc, tb, fb, wc.heap.size, c1, c2, rfl, HM2.out.fr hf9 (hne _ (by omega)), by omega, by omega, by omega, by omega, by omega, ?_, ?_, ⟨?_, ?_⟩, ?_⟩, ?_⟩
      · exact hf9.cellM (HF2.out.cellM h1.2.2 (hnm _ (by show tb ≠ m; omega))) (hne _ (by show tb ≠ _; omega))
      · exact (HRT.out.fr HF2.out (fun k _ h => .inl h)).fr hf9 (fun k _ h => .inr (by have : k = w.heap.size + 1 := h; omega))
      · exact hf9.cellM h2.2.2.1 (hne _ (by show fb ≠ _; omega))
      · rw [hf9.frozen (p := ⟨fb, 0, none⟩) h2.2.1 (hne _ (by show fb ≠ _; omega))]; exact h2.2.2.2
      · exact hnb9
      · exact ((HF0.out.any.same HF1.out).same HF2.out).trans hf9 (fun k hk h => by have : k = w.heap.size + 1 := h; omega)
end Go.Proofs.YtldcffonfidbcaaGreatDoor
