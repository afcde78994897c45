/- A part of the proof for chapter 10: Names, StepC; no conditions. -/
import Derived.Test.YtanbfplcldloeaaGreatDoorT05
import Derived.Test.YtanbfplcldloeaaGreatDoorT06
import Derived.Deep.RegionLaw
import Derived.Deep.DeepCutAuto
/- Chapter 7: what a type is: may it be? Its names, each once. -/
namespace Go.Proofs.YtanbfplcldloeaaGreatDoor
open Go.RowKit
/-- A type, as it is told. -/
structure SpecR where
  name : ByteArray
  expr : ByteArray
  leaf : Bool
  marks : Int
  least : Int
  most : Int
  lines : Bool
def SpecR.cells (s : SpecR) : List Value := [.string s.name, .string s.expr, .bool s.leaf, .int .i64 s.marks, .int .i64 s.least, .int .i64 s.most, .bool s.lines]
theorem SpecR.cells_len (s : SpecR) : s.cells.length = 7 := rfl
def specC (l : List SpecR) : List Value := l.flatMap SpecR.cells
/-- A type that may be. -/
structure FitS (s : SpecR) : Prop where
  m0 : 0 ≤ s.marks
  m1 : s.marks < 8
  l0 : 0 ≤ s.least
  l1 : s.least ≤ s.most
  l2 : s.most < 16
  e : s.leaf = true → s.expr = ⟨#[]⟩
set_option maxRecDepth 100000 in
theorem fits_any (s : SpecR) (h : FitS s) (w : World) :
    Calls Tryz.prog 69 #[.agg s.cells.toArray] w fun e w' => e = .returned (.bool true) ∧ Fr Nob w w' := by
  obtain ⟨sn, se, sl, sm, sa, sb, sk⟩ := s
  obtain ⟨m0, m1, l0, l1, l2, he⟩ := h
  simp only [SpecR.cells] at m0 m1 l0 l1 l2 he ⊢
  cases sl
  · clear he
    go_enter Tryz.func69, Tryz.ntmps69
    go_wp2_with fail
    go_ret
    exact ⟨rfl, (Fr.refl _ _).alloc _⟩
  · obtain rfl := he rfl
    clear he
    go_enter Tryz.func69, Tryz.ntmps69
    go_wp2_with fail
    go_ret
    exact ⟨rfl, (Fr.refl _ _).alloc _⟩
set_option maxRecDepth 100000 in
theorem unfit_any (s : SpecR) (h : FitS s) (w : World) :
    Calls Tryz.prog 68 #[.agg s.cells.toArray] w fun e w' => e = .returned (.bool false) ∧ Fr Nob w w' := by
  have HC := fits_any s h
  obtain ⟨sn, se, sl, sm, sa, sb, sk⟩ := s
  have H := Lib.hid h
  have HCC := Lib.hid HC
  clear h HC
  simp only [SpecR.cells] at HCC ⊢
  go_enter Tryz.func68, Tryz.ntmps68
  go_wp2_with fail
  have hf : Fr Nob w (w.alloc (.cells #[.string sn, .string se, .bool sl, .int .i64 sm, .int .i64 sa, .int .i64 sb, .bool sk] 99)) := (Fr.refl _ _).alloc _
  generalize w.alloc (.cells #[.string sn, .string se, .bool sl, .int .i64 sm, .int .i64 sa, .int .i64 sb, .bool sk] 99) = w1 at hf ⊢
  refine (HCC.out w1).mono ?_
  rintro e w2 ⟨rfl, hF2⟩
  go_wp2_with fail
  go_ret
  exact ⟨rfl, hf.same hF2⟩
set_option maxRecDepth 100000 in
theorem indexfit_any (M : Nat → Prop) (l : List SpecR) (hl : ∀ s ∈ l, FitS s) (A : Option Addr) (c : Nat) (w : World) (hn : l.length ≤ 4611686018427387904) (hR : Rd M w A (specC l)) :
    Calls Tryz.prog 98 #[.slice A l.length c, .func (.func 68) #[] #[]] w fun e w' => e = .returned (.int .i64 (-1)) ∧ Fr Nob w w' := by
  have HL := Lib.hid hl
  have HR := Lib.hid hR
  clear hl hR
  go_enter Tryz.func98, Tryz.ntmps98
  go_wp2_with fail
  go_loopg [8] (l.length) (fun n b wr => ∃ (k : Nat), n = l.length - k ∧ k ≤ l.length ∧ b = .int .i64 k ∧ Hid (Fr Nob w wr))
  case atStart => exact ⟨0, rfl, Nat.zero_le _, rfl, Fr.refl _ _⟩
  case round =>
    obtain ⟨k, rfl, hk, rfl, HF⟩ := hrel
    by_cases hlt : k < l.length
    · have ht : ((k : Int) < (l.length : Int)) := by omega
      obtain ⟨ad, rfl, hnb, hbl, h0, hj⟩ := Rd.elt SpecR.cells_len (by omega) (HR.out.fr HF.out (fun _ _ h => h.elim)) hlt
      have q1 := hj 0 (by omega)
      have q2 := hj 1 (by omega)
      have q3 := hj 2 (by omega)
      have q4 := hj 3 (by omega)
      have q5 := hj 4 (by omega)
      have q6 := hj 5 (by omega)
      have HX := Lib.hid (unfit_any l[k] (HL.out _ (List.getElem_mem hlt)))
      generalize l[k] = x at h0 q1 q2 q3 q4 q5 q6 HX
      clear hj hnb
      simp only [SpecR.cells, List.getElem?_cons_zero, List.getElem?_cons_succ] at h0 q1 q2 q3 q4 q5 q6 HX
      go_wp2_with fail
      refine (HX.out wr).mono ?_
      rintro e w2 ⟨rfl, hF2⟩
      have HF2 := Lib.hid (HF.out.same hF2)
      clear hF2 h0 q1 q2 q3 q4 q5 q6 HX HF
      go_wp2_with fail
      go_roundg (l.length - (k + 1))
      case measure => omega
      case rel => exact ⟨k + 1, rfl, by omega, by first | rfl | go_num, HF2.out⟩
    · have ht : ¬ ((k : Int) < (l.length : Int)) := by omega
      go_wp2_with fail
      go_ret
      exact ⟨rfl, HF.out⟩
set_option maxRecDepth 100000 in
theorem anyunfit_any (M : Nat → Prop) (l : List SpecR) (hl : ∀ s ∈ l, FitS s) (A : Option Addr) (c : Nat) (w : World) (hn : l.length ≤ 4611686018427387904) (hR : Rd M w A (specC l)) :
    Calls Tryz.prog 67 #[.slice A l.length c, .func (.func 68) #[] #[]] w fun e w' => e = .returned (.bool false) ∧ Fr Nob w w' := by
  have H := Lib.hid (indexfit_any M l hl A c w hn hR)
  clear hl hR
  go_enter Tryz.func67, Tryz.ntmps67
  go_wp2_with fail
  refine H.out.mono ?_
  rintro e w2 ⟨rfl, hF⟩
  go_wp2_with fail
  go_ret
  exact ⟨rfl, hF⟩
theorem zeroB (w : World) : (zeroValue 4).run Tryz.prog w = .ok (.bool false) w := by kernel_rfl
set_option maxRecDepth 100000 in
theorem fresh_any (s : ByteArray) (hs : s.size ≤ 4611686018427387904) (hn : nameB s.data.toList = true) (l : List ByteArray) (hl : s ∉ l) (b X : Nat) (w : World) (h : SetM w b l) (hX : Blk w X [.map (some b)] 182) :
    Calls Tryz.prog 96 #[.string s, .pointer (some ⟨X, 0, none⟩)] w fun e w' => e = .returned (.bool true) ∧ SetM w' b (l ++ [s]) ∧ Fr (One b) w w' := by
  have HN := Lib.hid (name_any s hs w)
  rw [hn] at HN
  have HS := Lib.hid h
  have HX := Lib.hid hX
  have HL := Lib.hid hl
  clear h hX hl hn hs
  go_enter Tryz.func96, Tryz.ntmps96
  go_wp2_with fail
  refine HN.out.mono ?_
  rintro e w2 ⟨rfl, hF2⟩
  have HF2 := Lib.hid hF2
  clear hF2 HN
  have HS2 := Lib.hid (HS.out.fr HF2.out (fun h => h))
  have x0 := (HX.out.fr HF2.out (fun h => h)).cell 0
  have xl := (HX.out.fr HF2.out (fun h => h)).lt
  simp only [List.getElem?_cons_zero] at x0
  have hlk := run_seen (P := Tryz.prog) Tryz.underlying182 Tryz.underlying9 (zeroB w2) HS2.out s HL.out
  obtain ⟨W, hW, hset, hFW⟩ := run_see (P := Tryz.prog) Tryz.underlying182 Tryz.underlying9 HS2.out s HL.out
  have HSET := Lib.hid hset
  have HFW := Lib.hid hFW
  clear hset hFW
  go_wp2_with fail
  go_ret
  exact ⟨rfl, HSET.out, HF2.out.any.trans HFW.out (fun _ _ h => h)⟩
def textS : ByteArray := ⟨#[116, 101, 120, 116]⟩
/-- Names that may be, each once. -/
structure NamesOk (l : List SpecR) (g : List Grp) : Prop where
  each : ∀ s ∈ l.map SpecR.name ++ g.map Grp.name, s.size ≤ 4611686018427387904 ∧ nameB s.data.toList = true
  once : (textS :: (l.map SpecR.name ++ g.map Grp.name)).Nodup
theorem NamesOk.at_ {l : List SpecR} {g : List Grp} (h : NamesOk l g) {k : Nat} (hk : k < (l.map SpecR.name ++ g.map Grp.name).length) :
    (l.map SpecR.name ++ g.map Grp.name)[k] ∉ textS :: (l.map SpecR.name ++ g.map Grp.name).take k := by
  have ho := h.once
  clear h
  generalize l.map SpecR.name ++ g.map Grp.name = L at ho hk
  obtain ⟨h1, h2⟩ := List.nodup_cons.1 ho
  intro hm
  rcases List.mem_cons.1 hm with e | hm
  · exact h1 (e ▸ List.getElem_mem hk)
  · obtain ⟨j, hj, e⟩ := List.getElem_of_mem hm
    rw [List.length_take] at hj
    rw [List.getElem_take] at e
    exact (List.pairwise_iff_getElem.1 h2) j k (by omega) hk (by omega) e
set_option maxRecDepth 100000 in
set_option maxHeartbeats 1000000 in
theorem names_any (M : Nat → Prop) (l : List SpecR) (g : List Grp) (hok : NamesOk l g) (A : Option Addr) (c : Nat) (v : Value) (w : World) (hln : l.length ≤ 4611686018427387904) (hgn : g.length ≤ 4611686018427387904) (hR : Rd M w A (specC l)) (hg : Grps M w v g) :
    Calls Tryz.prog 66 #[.slice A l.length c, v] w fun e w' => e = .returned (.bool true) ∧ Fr Nob w w' := by
  obtain ⟨GA, gc, css, rfl, hgc, hgr, hge⟩ := hg
  have HOK := Lib.hid hok
  have HR := Lib.hid hR
  have HGR := Lib.hid hgr
  have HGE := Lib.hid hge
  clear hok hR hgr hge hgc
  have hmm := @run_makeMap Tryz.prog
  obtain ⟨W1, hW1, hset, hF1⟩ := run_see (P := Tryz.prog) Tryz.underlying182 Tryz.underlying9 (SetM.new w) textS (by simp)
  unfold textS at hW1
  have HSET := Lib.hid hset
  have HF1 := Lib.hid (show Fr Nob w W1 from ((Fr.refl Nob w).alloc _).trans hF1 (fun k hk e => by have h1 : k = w.heap.size := e; omega))
  clear hset hF1
  go_enter Tryz.func66, Tryz.ntmps66
  go_upto_region 3 with (fail)
  obtain ⟨X, hX⟩ : ∃ X, W1.heap.size = X := ⟨_, rfl⟩
  obtain ⟨b, hb⟩ : ∃ b, w.heap.size = b := ⟨_, rfl⟩
  obtain ⟨W2, hW2⟩ : ∃ W2, W1.alloc (.cells #[.map (some b)] 182) = W2 := ⟨_, rfl⟩
  have HS2 := Lib.hid (show SetM W2 b [textS] by rw [← hW2, ← hb]; exact HSET.out.fr ((Fr.refl Nob _).alloc _) (fun h => h))
  have HX2 := Lib.hid (show Blk W2 X [.map (some b)] 182 by rw [← hW2, ← hX]; exact Blk.new _ _ _)
  have HF2 := Lib.hid (show Fr Nob w W2 by rw [← hW2]; exact HF1.out.alloc _)
  have hbX : b < X := by rw [← hX]; have := HSET.out.lt; omega
  have HBX := Lib.hid (And.intro hbX (Nat.le_of_eq hb))
  rw [hb, hX, hW2]
  clear hb hX hW2 hmm hW1 HSET HF1 hbX
  go_wp2_with fail
  go_loopg [16] (l.length) (fun n s16 wr => ∃ (k : Nat), n = l.length - k ∧ k ≤ l.length ∧ s16 = .int .i64 k ∧ Hid (Fr Nob w wr) ∧ Hid (Blk wr X [.map (some b)] 182) ∧ Hid (SetM wr b (textS :: (l.map SpecR.name ++ g.map Grp.name).take k)))
  case atStart => exact ⟨0, rfl, Nat.zero_le _, rfl, HF2.out, HX2.out, HS2.out⟩
  case round =>
    obtain ⟨k, rfl, hk, rfl, HF, HX, HS⟩ := hrel
    by_cases hlt : k < l.length
    · have ht : ((k : Int) < (l.length : Int)) := by omega
      obtain ⟨ad, rfl, hnb, hbl, h0, hj⟩ := Rd.elt SpecR.cells_len (by omega) (HR.out.fr HF.out (fun _ _ h => h.elim)) hlt
      have q1 := hj 0 (by omega)
      have q2 := hj 1 (by omega)
      have q3 := hj 2 (by omega)
      have q4 := hj 3 (by omega)
      have q5 := hj 4 (by omega)
      have q6 := hj 5 (by omega)
      have hkn : k < (l.map SpecR.name ++ g.map Grp.name).length := by simp; omega
      have HNM := Lib.hid (HOK.out.at_ hkn)
      have hnm : (l.map SpecR.name ++ g.map Grp.name)[k] = l[k].name := by rw [List.getElem_append_left (by simpa using hlt), List.getElem_map]
      have HEA := Lib.hid (HOK.out.each _ (List.getElem_mem hkn))
      have HTK := Lib.hid (List.take_succ_eq_append_getElem hkn)
      rw [hnm] at HNM HEA HTK
      generalize l[k] = x at h0 q1 q2 q3 q4 q5 q6 HNM HEA HTK
      clear hj hnb hnm hkn
      obtain ⟨sn, se, sl, sm, sa, sb, sk⟩ := x
      simp only [SpecR.cells, List.getElem?_cons_zero, List.getElem?_cons_succ] at h0 q1 q2 q3 q4 q5 q6 HNM HEA HTK
      have x0 := HX.out.cell 0
      have xl := HX.out.lt
      simp only [List.getElem?_cons_zero] at x0
      go_wp2_with fail
      have hf : Fr Nob wr (wr.alloc (.cells #[.string sn, .string se, .bool sl, .int .i64 sm, .int .i64 sa, .int .i64 sb, .bool sk] 99)) := (Fr.refl _ _).alloc _
      generalize wr.alloc (.cells #[.string sn, .string se, .bool sl, .int .i64 sm, .int .i64 sa, .int .i64 sb, .bool sk] 99) = w1 at hf ⊢
      refine (fresh_any sn HEA.out.1 HEA.out.2 _ HNM.out b X w1 (HS.out.fr hf (fun h => h)) (HX.out.fr hf (fun h => h))).mono ?_
      rintro e w2 ⟨rfl, hS2, hF2⟩
      have HS2' := Lib.hid (show SetM w2 b (textS :: (l.map SpecR.name ++ g.map Grp.name).take (k + 1)) by rw [HTK.out]; exact hS2)
      have HX2' := Lib.hid ((HX.out.fr hf (fun h => h)).fr hF2 (fun e => by have h1 : X = b := e; have := HBX.out.1; omega))
      have HF2' := Lib.hid ((HF.out.same hf).trans hF2 (fun j hj e => by have h1 : j = b := e; have := HBX.out.2; omega))
      clear hS2 hF2 hf h0 q1 q2 q3 q4 q5 q6 HNM HEA HTK HS HX HF x0 xl
      go_wp2_with fail
      go_roundg (l.length - (k + 1))
      case measure => omega
      case rel => exact ⟨k + 1, rfl, by omega, by first | rfl | go_num, HF2'.out, HX2'.out, HS2'.out⟩
    · have ht : ¬ ((k : Int) < (l.length : Int)) := by omega
      have hke : k = l.length := by omega
      have HS3 := Lib.hid (show SetM wr b (textS :: (l.map SpecR.name ++ g.map Grp.name).take (l.length + 0)) by rw [Nat.add_zero, ← hke]; exact HS.out)
      have HF3 := Lib.hid HF.out
      have HX3 := Lib.hid HX.out
      clear HS HF HX hke HF2 HX2 HS2
      go_wp2_with fail
      go_loopg [28] (g.length) (fun n s28 wr => ∃ (k : Nat), n = g.length - k ∧ k ≤ g.length ∧ s28 = .int .i64 k ∧ Hid (Fr Nob w wr) ∧ Hid (Blk wr X [.map (some b)] 182) ∧ Hid (SetM wr b (textS :: (l.map SpecR.name ++ g.map Grp.name).take (l.length + k))))
      case atStart => exact ⟨0, rfl, Nat.zero_le _, rfl, HF3.out, HX3.out, HS3.out⟩
      case round =>
        clear ht hlt
        obtain ⟨k, rfl, hk, rfl, HF, HX, HS⟩ := hrel
        by_cases hlt : k < g.length
        · have ht : ((k : Int) < (g.length : Int)) := by omega
          obtain ⟨ad, A2, c2, rfl, h0, q1, _, _⟩ := grp_elt (HGR.out.fr HF.out (fun _ _ h => h.elim)) (GReps.fr HF.out (fun _ _ h => h.elim) _ _ HGE.out) hlt
          have hkn : l.length + k < (l.map SpecR.name ++ g.map Grp.name).length := by simp; omega
          have HNM := Lib.hid (HOK.out.at_ hkn)
          have hnm : (l.map SpecR.name ++ g.map Grp.name)[l.length + k] = g[k].name := by rw [List.getElem_append_right (by simp)]; simp
          have HEA := Lib.hid (HOK.out.each _ (List.getElem_mem hkn))
          have HTK := Lib.hid (List.take_succ_eq_append_getElem hkn)
          rw [hnm] at HNM HEA HTK
          obtain ⟨gn, hgn'⟩ : ∃ n, g[k].types.length = n := ⟨_, rfl⟩
          rw [hgn'] at q1
          clear hgn'
          generalize g[k] = x at h0 q1 HNM HEA HTK
          clear hnm hkn
          obtain ⟨sn, st⟩ := x
          simp only at h0 HNM HEA HTK
          have x0 := HX.out.cell 0
          have xl := HX.out.lt
          simp only [List.getElem?_cons_zero] at x0
          go_wp2_with fail
          have hf : Fr Nob wr (wr.alloc (.cells #[.string sn, .slice A2 gn c2] 106)) := (Fr.refl _ _).alloc _
          generalize wr.alloc (.cells #[.string sn, .slice A2 gn c2] 106) = w1 at hf ⊢
          refine (fresh_any sn HEA.out.1 HEA.out.2 _ HNM.out b X w1 (HS.out.fr hf (fun h => h)) (HX.out.fr hf (fun h => h))).mono ?_
          rintro e w2 ⟨rfl, hS2, hF2⟩
          have HS2' := Lib.hid (show SetM w2 b (textS :: (l.map SpecR.name ++ g.map Grp.name).take (l.length + (k + 1))) by rw [← Nat.add_assoc, HTK.out]; exact hS2)
          have HX2' := Lib.hid ((HX.out.fr hf (fun h => h)).fr hF2 (fun e => by have h1 : X = b := e; have := HBX.out.1; omega))
          have HF2' := Lib.hid ((HF.out.same hf).trans hF2 (fun j hj e => by have h1 : j = b := e; have := HBX.out.2; omega))
          clear hS2 hF2 hf h0 q1 HNM HEA HTK HS HX HF x0 xl
          go_wp2_with fail
          go_roundg (g.length - (k + 1))
          case measure => omega
          case rel => exact ⟨k + 1, rfl, by omega, by first | rfl | go_num, HF2'.out, HX2'.out, HS2'.out⟩
        · have ht : ¬ ((k : Int) < (g.length : Int)) := by omega
          go_wp2_with fail
          go_ret
          exact ⟨rfl, HF.out⟩
end Go.Proofs.YtanbfplcldloeaaGreatDoor

/- Chapter 9: steps; may a step be. -/
namespace Go.Proofs.YtanbfplcldloeaaGreatDoor
open Go.RowKit
structure StepM where
  k : Int
  f : Int
  t : Int
  gf : Int
  gt : Int
  ins : Int
  m : Int
  l : List Tok
def StepM.cells (s : StepM) (v : Value) : List Value := [.int .i64 s.k, .int .i64 s.f, .int .i64 s.t, .int .i64 s.gf, .int .i64 s.gt, .int .i64 s.ins, v, .int .i64 s.m]
/-- What is asked of all kinds. -/
def ok0S (f t : Int) : Bool := decide (0 ≤ f ∧ f ≤ t ∧ t ≤ 2048)
theorem ok0S_iff (f t : Int) : ok0S f t = true ↔ (0 ≤ f ∧ f ≤ t ∧ t ≤ 2048) := by unfold ok0S; exact decide_eq_true_iff
/-- A replacement asks for no more than that. -/
def okRep (f t gf gt ins mk : Int) : Bool := ok0S f t && (mk == 0) && (gf == 0) && (gt == 0) && (ins == 0)
set_option maxRecDepth 100000 in
set_option maxHeartbeats 4000000 in
theorem stepcheck_rep (M : Nat → Prop) (f t gf gt ins mk : Int) (A : Option Addr) (l : List Tok) (c : Nat) (w : World) (r : Int) (hr : Rd M w A (tokC l)) (hn : l.length ≤ 2048) (hrr : (if (okRep f t gf gt ins mk && l.all okT) = true then (0 : Int) else 1) = r) :
    Calls Tryz.prog 29 #[.agg #[.int .i64 0, .int .i64 f, .int .i64 t, .int .i64 gf, .int .i64 gt, .int .i64 ins, .slice A l.length c, .int .i64 mk]] w fun e w' => e = .returned (.int .i64 r) ∧ Fr Nob w w' := by
  obtain ⟨q, hq⟩ : ∃ q, ok0S f t = q := ⟨_, rfl⟩
  obtain ⟨q2, hq2⟩ : ∃ q2, okRep f t gf gt ins mk = q2 := ⟨_, rfl⟩
  obtain ⟨R, hR⟩ : ∃ R, (q2 && l.all okT) = R := ⟨_, rfl⟩
  rw [hq2, hR] at hrr
  unfold okRep at hq2
  rw [hq] at hq2
  have HQ := Lib.hid hq
  have HQ2 := Lib.hid hq2
  have HRR := Lib.hid hrr
  have HR := Lib.hid hR
  have HRd := Lib.hid hr
  have HOK := Lib.hid (fun x w => okT_any x w)
  clear hq hq2 hrr hR hr
  have hn' : ¬ (2048 < (l.length : Int)) := by omega
  go_enter Tryz.func29, Tryz.ntmps29
  go_upto_region 5 with (fail)
  go_cut [4] (fun s4 wx => s4 = .bool q ∧ Hid (Fr Nob w wx) ∧ Hid (Blk wx (w.heap.size + 1) [.int .i64 0, .int .i64 0, .int .i64 0, .int .i64 gf, .int .i64 gt, .int .i64 ins, .slice none 0 0, .int .i64 mk] 24) ∧ Hid (Blk wx w.heap.size [.int .i64 0, .int .i64 f, .int .i64 t, .int .i64 gf, .int .i64 gt, .int .i64 ins, .slice A l.length c, .int .i64 mk] 24))
  case first =>
    go_wp2_with fail
    all_goals
      go_meet
      refine ⟨?_, ((Fr.refl Nob w).alloc _).alloc _, Blk.new_at (w.alloc _) _ _ (w.heap.size + 1) (by simp), (Blk.new w _ _).alloc _⟩
      have := HQ.out
      rw [← HQ.out]
      first
        | (rw [show ok0S f t = true from (ok0S_iff f t).2 (by omega)]; done)
        | (rw [show ok0S f t = false from by rw [← Bool.not_eq_true, ok0S_iff]; omega]; done)
        | (congr 1; rw [Bool.eq_iff_iff, ok0S_iff, decide_eq_true_iff]; omega)
  case rest =>
    obtain ⟨rfl, HF, HB, HA⟩ := hcut
    have p3 := HB.out.cell 3
    have p4 := HB.out.cell 4
    have p5 := HB.out.cell 5
    have p7 := HB.out.cell 7
    have a0 := HA.out.cell 0
    have a6 := HA.out.cell 6
    have hlA := HA.out.lt
    have hlB := HB.out.lt
    simp only [List.getElem?_cons_zero, List.getElem?_cons_succ] at p3 p4 p5 p7 a0 a6
    obtain ⟨q1, hq1⟩ : ∃ q1, (q && (mk == 0)) = q1 := ⟨_, rfl⟩
    have HQ3 := Lib.hid (show (q1 && (gf == 0) && (gt == 0) && (ins == 0)) = q2 by rw [← hq1]; exact HQ2.out)
    have HQ1 := Lib.hid hq1
    clear hq1
    go_upto_region 13 with (fail)
    go_cut [4] (fun s4 wx => s4 = .bool q1 ∧ Hid (Fr Nob w wx) ∧ Hid (Blk wx (w.heap.size + 1) [.int .i64 0, .int .i64 0, .int .i64 0, .int .i64 gf, .int .i64 gt, .int .i64 ins, .slice none 0 0, .int .i64 mk] 24) ∧ Hid (Blk wx w.heap.size [.int .i64 0, .int .i64 f, .int .i64 t, .int .i64 gf, .int .i64 gt, .int .i64 ins, .slice A l.length c, .int .i64 mk] 24))
    case first =>
      obtain ⟨z, hz⟩ : ∃ z, (mk == 0) = z := ⟨_, rfl⟩
      have HZ := Lib.hid hz
      cases z
      all_goals
        cases q
        all_goals
          go_wp2_with fail
          go_meet
          exact ⟨by rw [← HQ1.out, HZ.out]; rfl, HF.out, HB.out, HA.out⟩
    case rest =>
      obtain ⟨rfl, HF, HB, HA⟩ := hcut
      have p3 := HB.out.cell 3
      have p4 := HB.out.cell 4
      have p5 := HB.out.cell 5
      have p7 := HB.out.cell 7
      have a0 := HA.out.cell 0
      have a6 := HA.out.cell 6
      have hlA := HA.out.lt
      have hlB := HB.out.lt
      simp only [List.getElem?_cons_zero, List.getElem?_cons_succ] at p3 p4 p5 p7 a0 a6
      go_upto_region 16 with (fail)
      go_cut [4] (fun s4 wx => s4 = .bool q2 ∧ Hid (Fr Nob w wx) ∧ Hid (Blk wx (w.heap.size + 1) [.int .i64 0, .int .i64 0, .int .i64 0, .int .i64 gf, .int .i64 gt, .int .i64 ins, .slice none 0 0, .int .i64 mk] 24) ∧ Hid (Blk wx w.heap.size [.int .i64 0, .int .i64 f, .int .i64 t, .int .i64 gf, .int .i64 gt, .int .i64 ins, .slice A l.length c, .int .i64 mk] 24))
      case first =>
        obtain ⟨z3, h3⟩ : ∃ z, (gf == 0) = z := ⟨_, rfl⟩
        obtain ⟨z4, h4⟩ : ∃ z, (gt == 0) = z := ⟨_, rfl⟩
        obtain ⟨z5, h5⟩ : ∃ z, (ins == 0) = z := ⟨_, rfl⟩
        have HZ3 := Lib.hid h3
        have HZ4 := Lib.hid h4
        have HZ5 := Lib.hid h5
        cases z3 <;> cases z4 <;> cases z5 <;> cases q1
        all_goals
          go_wp2_with fail
          go_meet
          exact ⟨by rw [← HQ3.out, HZ3.out, HZ4.out, HZ5.out]; rfl, HF.out, HB.out, HA.out⟩
      case rest =>
        obtain ⟨rfl, HF, HB, HA⟩ := hcut
        have p3 := HB.out.cell 3
        have p4 := HB.out.cell 4
        have p5 := HB.out.cell 5
        have p7 := HB.out.cell 7
        have a0 := HA.out.cell 0
        have a6 := HA.out.cell 6
        have hlA := HA.out.lt
        have hlB := HB.out.lt
        simp only [List.getElem?_cons_zero, List.getElem?_cons_succ] at p3 p4 p5 p7 a0 a6
        clear p3 p4 p5 p7 a0
        go_wp2_with fail
        go_loopg [4, 123] (l.length) (fun n s4 i wr => ∃ (k : Nat) (b : Bool), n = l.length - k ∧ k ≤ l.length ∧ s4 = .bool b ∧ i = .int .i64 k ∧ Hid (Fr Nob w wr) ∧ Hid ((b && (l.drop k).all okT) = R))
        case atStart => exact ⟨0, q2, rfl, Nat.zero_le _, rfl, rfl, HF.out, HR.out⟩
        case round =>
          obtain ⟨k, b, rfl, hk, rfl, rfl, HF2, HC⟩ := hrel
          by_cases hlt : k < l.length
          · have ht : ((k : Int) < (l.length : Int)) := by omega
            obtain ⟨ad, rfl, _, hlb, q0', q⟩ := Rd.elt Tok.cells_len (by omega) (HRd.out.fr HF2.out (fun _ _ h => h.elim)) hlt
            have hdr : l.drop k = l[k] :: l.drop (k + 1) := List.drop_eq_getElem_cons hlt
            generalize l[k] = x at q0' q hdr
            have d1 := q 0 (by omega)
            have d2 := q 1 (by omega)
            have d3 := q 2 (by omega)
            simp only [Tok.cells, List.getElem?_cons_zero, List.getElem?_cons_succ, Nat.reduceAdd] at q0' d1 d2 d3
            have hcc := HC.out
            rw [hdr, List.all_cons] at hcc
            have HCC := Lib.hid hcc
            clear q hdr HC hcc
            cases b
            · have HE := Lib.hid (show (false && (l.drop (k + 1)).all okT) = R by rw [← HCC.out]; simp)
              go_wp2_with fail
              go_roundg (l.length - (k + 1))
              case measure => omega
              case rel => exact ⟨k + 1, false, rfl, by omega, rfl, by first | rfl | go_num, HF2.out.alloc _, HE.out⟩
            · go_wp2_with fail
              refine (HOK.out x _).mono ?_
              rintro e w3 ⟨rfl, hF3⟩
              have HF3 := Lib.hid ((HF2.out.alloc (.cells #[.int .i64 x.k, .int .i64 x.t, .int .i64 x.n, .int .i64 x.m] 65)).same hF3)
              have HE := Lib.hid (show (okT x && (l.drop (k + 1)).all okT) = R by rw [← HCC.out]; simp)
              clear hF3 HCC
              generalize okT x = bx at HE
              go_wp2_with fail
              go_roundg (l.length - (k + 1))
              case measure => omega
              case rel => exact ⟨k + 1, bx, rfl, by omega, rfl, by first | rfl | go_num, HF3.out, HE.out⟩
          · have ht : ¬ ((k : Int) < (l.length : Int)) := by omega
            have hcc := HC.out
            rw [List.drop_eq_nil_of_le (by omega), List.all_nil, Bool.and_true] at hcc
            have HE := Lib.hid (show (if b = true then (0 : Int) else 1) = r by rw [← HRR.out, ← hcc])
            clear hcc HC
            cases b
            · go_wp2_with fail
              go_ret
              exact ⟨by rw [← HE.out]; rfl, HF2.out⟩
            · go_wp2_with fail
              go_ret
              exact ⟨by rw [← HE.out]; rfl, HF2.out⟩
end Go.Proofs.YtanbfplcldloeaaGreatDoor
