/- A part of the proof for chapter 10: New; no conditions. -/
import Derived.Test.YtldcffonfidbcaaGreatDoorY20
import Derived.Test.YtldcffonfidbcaaGreatDoorY08
/- Chapter 7: a schema is made. -/
namespace Go.Proofs.YtldcffonfidbcaaGreatDoor
open Go.RowKit
theorem infoRule : (Tryz.prog.info? 84).map (fun i => (i.zero, i.size, i.bytes)) = some (some (.agg #[.string ⟨#[]⟩, .string ⟨#[]⟩, .bool false, .int .i64 0, .int .i64 0, .int .i64 0, .bool false, .int .i64 0, .string ⟨#[]⟩, .slice none 0 0]), 10, 120) := by kernel_rfl
theorem infoSpec : (Tryz.prog.info? 69).map (fun i => (i.zero, i.size, i.bytes)) = some (some (.agg #[.string ⟨#[]⟩, .string ⟨#[]⟩, .bool false, .int .i64 0, .int .i64 0, .int .i64 0, .bool false]), 7, 72) := by kernel_rfl
/-- The groups of types: one of each. -/
def grpsL : Nat → List SpecR → List Grp
  | _, [] => []
  | i, s :: r => ⟨s.name, [(i : Int) + 1]⟩ :: grpsL (i + 1) r
theorem grpsL_len : ∀ (i : Nat) (l : List SpecR), (grpsL i l).length = l.length
  | _, [] => rfl
  | i, s :: r => by rw [grpsL, List.length_cons, grpsL_len, List.length_cons]
def groupsF (l : List SpecR) (g : List Grp) : List Grp := ⟨textS, [0]⟩ :: (grpsL 0 l ++ g)
def wholeS (whole : ByteArray) : SpecR := ⟨⟨#[]⟩, whole, false, 0, 0, 0, false⟩
def coreR (r : RuleM) : SpecR × Tree := (⟨r.name, r.expr, r.leaf, r.marks, r.least, r.most, r.lines⟩, r.e)
def coreS (s : SpecR) : SpecR × Tree := (s, (parseF s.expr).1)
theorem newg0 {base : Nat} (w2 : World) (hb : base ≤ w2.heap.size) : ∀ W3, (((w2.alloc (.cells #[.int .i64 0] 3)).alloc (.cells #[.string ⟨#[116, 101, 120, 116]⟩, .slice (some ⟨w2.heap.size, 0, none⟩) 1 1] 77)).alloc (.cells #[.slice none 0 0, .slice (some ⟨w2.heap.size + 1, 0, none⟩) 1 1] 87)) = W3 →
    NewG base (w2.heap.size + 1 + 1) (fun k => k < base ∨ k = w2.heap.size + 1 + 1 ∨ k = w2.heap.size + 1) W3 (.slice none 0 0) (.slice (some ⟨w2.heap.size + 1, 0, none⟩) 1 1) [⟨textS, [0]⟩] [.string textS, .slice (some ⟨w2.heap.size, 0, none⟩) 1 1] ∧ Fr Nob w2 W3 := by
  rintro W3 rfl
  have hz1 : (w2.alloc (.cells #[.int .i64 0] 3)).heap.size = w2.heap.size + 1 := by simp
  have hz2 : ((w2.alloc (.cells #[.int .i64 0] 3)).alloc (.cells #[.string ⟨#[116, 101, 120, 116]⟩, .slice (some ⟨w2.heap.size, 0, none⟩) 1 1] 77)).heap.size = w2.heap.size + 1 + 1 := by simp
  have hf1 : Fr Nob w2 (w2.alloc (.cells #[.int .i64 0] 3)) := (Fr.refl _ _).alloc _
  have hb0 := Blk.new w2 [.int .i64 0] 3
  refine ⟨⟨Blk.new_at _ _ _ _ hz2.symm, ?_, ?_, ?_, ?_, ?_, fun k hk => .inl hk⟩, (((Fr.refl _ _).alloc _).alloc _).alloc _⟩
  · intro e
    injection e with e
    simp only at e
    omega
  · have h1 := World.ownsRow_lit (e := 77) (size := 2) (base := base) (w2.alloc (.cells #[.int .i64 0] 3)) #[.string ⟨#[116, 101, 120, 116]⟩, .slice (some ⟨w2.heap.size, 0, none⟩) 1 1] 1 (by rw [hz1]; omega) (by decide) rfl
    rw [hz1] at h1
    exact h1.alloc _
  · refine ⟨_, _, [], rfl, Nat.le_refl _, ?_, rfl⟩
    refine Rd.fr (M := fun k => k < base ∨ k = w2.heap.size + 1 + 1 ∨ k = w2.heap.size + 1) (w := w2.alloc (.cells #[.int .i64 0] 3)) ?_ (((Fr.refl Nob _).alloc _).alloc _) (fun _ _ h => h.elim)
    exact fun _ => ⟨_, rfl, fun h => by simp only at h; omega, fun j u hu => by rw [add_lit]; exact (hb0.cell j).trans hu⟩
  · rintro k (rfl | e)
    · exact .inr (.inl rfl)
    · have h1 : w2.heap.size + 1 = k := by cases e; rfl
      exact .inr (.inr h1.symm)
  · intro k hk
    simp
    omega
theorem specC_one (l : List SpecR) : ∀ u ∈ specC l, u.oneCell' = true := fun u hu => by
  obtain ⟨s, _, hu⟩ := List.mem_flatMap.1 hu
  simp only [SpecR.cells, List.mem_cons, List.not_mem_nil, or_false] at hu
  rcases hu with rfl | rfl | rfl | rfl | rfl | rfl | rfl <;> rfl
theorem newr0 {base C : Nat} {N : Nat → Prop} {w w9 : World} {gv : Value} {gl : List Grp} {css : List Value} (h : NewG base C N w (.slice none 0 0) gv gl css) (hf : Fr Nob w w9) (hC : base ≤ C) :
    NewR base C (fun k => k = C ∨ k < base) (fun k => k = C ∨ k < base) w9 w9 (.slice none 0 0) gv [] gl := by
  obtain ⟨A, c, rfl, hc, hr⟩ := Rd.of_own (M := fun k => k = C ∨ k < base) h.own (fun k e hk => by
    have h1 := (World.ownsRow.lt h.own k e).1
    rcases hk with hk | hk
    · exact h.gn (hk ▸ e)
    · omega)
  have hlo : ∀ k, (k = C ∨ k < base) → N k := fun k hk => by
    rcases hk with hk | hk
    · exact h.mine k (.inl hk)
    · exact h.lo k hk
  have hbl := h.blk.lt
  have hs := hf.size
  refine ⟨h.blk.fr hf (fun h => h), by simp [Value.ownBlock], World.ownsRow_nil _ _ _ _, fun _ h => (by cases h), ⟨A, c, _, rfl, hc, hr.fr hf (fun _ _ h => h.elim), GReps.fr hf (fun _ _ h => h.elim) _ _ (GReps.mono hlo _ _ h.rep)⟩, ?_, ?_, fun k hk => .inr hk, Fr.refl _ _, Later.refl _ _⟩
  · rintro k (h1 | h1)
    · exact .inl h1
    · cases h1
  · rintro k (rfl | hk)
    · omega
    · omega
/-- The schema, when it is made. -/
theorem NewR.sch {base C : Nat} {N0 N : Nat → Prop} {W9 w : World} {lv gv : Value} {rs : List RuleM} {g : List Grp} (h : NewR base C N0 N W9 w lv gv rs g) (hC : base ≤ C) (hn : 0 < rs.length ∧ rs.length ≤ 100) : Sch (fun k => k < base) w C rs g := by
  have hlv := h.own
  obtain ⟨A, c, rfl, hc, hr⟩ := Rd.of_own (M := fun k => k < base) hlv (fun k e hk => by
    have h1 := (World.ownsRow.lt hlv k e).1
    omega)
  have hr0 := hr
  obtain ⟨ad, rfl, _, _⟩ := hr (by
    intro e
    have h1 := flat_len RuleM.cells_len rs
    rw [e] at h1
    simp at h1
    omega)
  refine ⟨⟨ad, c, h.blk.cell 0, hc, hr0⟩, fun r hr => ERep.mono h.lo _ _ (h.exprs r hr), ⟨gv, h.blk.cell 1, h.grps.mono h.lo⟩, by omega, hn⟩
/-- What may be made. -/
structure NewOk (whole : ByteArray) (l : List SpecR) (g : List Grp) : Prop where
  few : l.length < 16 ∧ 0 < l.length
  fewg : g.length ≤ 8
  names : NamesOk l g
  fit : ∀ s ∈ l, FitS s
  typ : ∀ x ∈ g, 0 < x.types.length ∧ x.types.length ≤ 1000
  gok : GOk (groupsF l g)
  parse : ∀ s ∈ wholeS whole :: l, (parseF s.expr).2.2 = 0 ∧ checkR (groupsF l g) (parseF s.expr).1 = 0 ∧ (parseF s.expr).1.count ≤ 4611686018427387904 ∧ (parseF s.expr).1.bytes ≤ 4611686018427387904
set_option maxRecDepth 100000 in
set_option maxHeartbeats 800000 in
theorem new_any (whole : ByteArray) (l : List SpecR) (g : List Grp) (hok : NewOk whole l g) (ad : Addr) (c : Nat) (gv0 : Value) (w : World) (hG : HG w) (hR : Rd Nob w (some ad) (specC l)) (hg : Grps Nob w gv0 g) :
    Calls Tryz.prog 33 #[.string whole, .slice (some ad) l.length c, gv0] w fun e w' => (∃ p rs, e = .returned (.tuple #[.pointer (some ⟨p, 0, none⟩), .int .i64 0]) ∧ Sch (fun k => k < w.heap.size) w' p rs (groupsF l g) ∧ rs.map coreR = (wholeS whole :: l).map coreS) ∧ Fr Nob w w' := by
  have HOK := Lib.hid hok
  have HHG := Lib.hid hG
  have HR := Lib.hid hR
  obtain ⟨GA, gc, gcs, rfl, hgc, hgr, hge⟩ := hg
  have HGR := Lib.hid hgr
  have HGE := Lib.hid hge
  obtain ⟨ln, hln⟩ : ∃ ln, l.length = ln := ⟨_, rfl⟩
  obtain ⟨gn, hgn⟩ : ∃ gn, g.length = gn := ⟨_, rfl⟩
  have hfew := hok.few
  have hfewg := hok.fewg
  rw [hln] at hfew
  rw [hgn] at hfewg
  have HNA := Lib.hid (names_any Nob l g hok.names (some ad) c (.slice GA g.length gc) w (by omega) (by omega) hR ⟨GA, gc, gcs, rfl, hgc, hgr, hge⟩)
  rw [hln, hgn] at HNA
  rw [hln, hgn]
  have HLN := Lib.hid hln
  have HGN := Lib.hid hgn
  clear hok hG hR hgr hge hgc hln hgn
  obtain ⟨iG, hiG, hzG0, hzG1, hzG2⟩ := info_parts infoGrp
  obtain ⟨iR, hiR, hzR0, hzR1, hzR2⟩ := info_parts infoRule
  obtain ⟨iS, hiS, hzS0, hzS1, hzS2⟩ := info_parts infoSpec
  have h16 : ¬ ((16 : Int) ≤ (ln : Int)) := by omega
  have hg16 : ¬ ((16 : Int) < (gn : Int)) := by omega
  go_enter Tryz.func33, Tryz.ntmps33
  go_wp2_with fail
  refine HNA.out.mono ?_
  rintro e w1 ⟨rfl, hF1⟩
  have HF1 := Lib.hid hF1
  clear hF1 HNA
  go_wp2_with fail
  have hun := anyunfit_any Nob l HOK.out.fit (some ad) c w1 (by rw [HLN.out]; omega) (HR.out.fr HF1.out (fun _ _ h => h.elim))
  rw [HLN.out] at hun
  refine hun.mono ?_
  clear hun
  rintro e w2 ⟨rfl, hF2⟩
  have HF2 := Lib.hid (HF1.out.same hF2)
  clear hF2 HF1
  go_upto_region 4 with (fail)
  obtain ⟨W3, hW3⟩ : ∃ W3, (((w2.alloc (.cells #[.int .i64 0] 3)).alloc (.cells #[.string ⟨#[116, 101, 120, 116]⟩, .slice (some ⟨w2.heap.size, 0, none⟩) 1 1] 77)).alloc (.cells #[.slice none 0 0, .slice (some ⟨w2.heap.size + 1, 0, none⟩) 1 1] 87)) = W3 := ⟨_, rfl⟩
  have hN0 := newg0 w2 HF2.out.size W3 hW3
  obtain ⟨C, hC⟩ : ∃ C, w2.heap.size + 1 + 1 = C := ⟨_, rfl⟩
  rw [hC] at hN0 ⊢
  have HN0 := Lib.hid hN0.1
  have HF3 := Lib.hid (HF2.out.same hN0.2)
  have HCl := Lib.hid (show w.heap.size ≤ C by rw [← hC]; have := HF2.out.size; omega)
  rw [hW3]
  clear hW3 hN0 hC HF2
  go_wp2_with fail
  go_loopg [43] (ln) (fun n s43 wr => ∃ (k : Nat) (N : Nat → Prop) (gv : Value) (gl : List Grp) (css : List Value), n = ln - k ∧ k ≤ ln ∧ s43 = .int .i64 k ∧ Hid (NewG w.heap.size C N wr (.slice none 0 0) gv gl css) ∧ Hid (gl ++ grpsL k (l.drop k) = ⟨textS, [0]⟩ :: grpsL 0 l) ∧ Hid (Fr Nob w wr))
  case atStart => exact ⟨0, _, _, _, _, rfl, Nat.zero_le _, rfl, HN0.out, rfl, HF3.out⟩
  case round =>
    clear HN0 HF3
    obtain ⟨k, N, gv, gl, css, rfl, hk, rfl, HN, HE, HF⟩ := hrel
    have HGL := Lib.hid (show gl.length = k + 1 by
      have h1 := congrArg List.length HE.out
      rw [List.length_append, grpsL_len, List.length_drop, List.length_cons, grpsL_len, HLN.out] at h1
      omega)
    by_cases hlt : k < ln
    · have ht : ((k : Int) < (ln : Int)) := by omega
      have hlt' : k < l.length := by rw [HLN.out]; exact hlt
      obtain ⟨ad', had, hnb, hbl, h0, hj⟩ := Rd.elt SpecR.cells_len (by omega) (HR.out.fr HF.out (fun _ _ h => h.elim)) hlt'
      injection had with had
      subst had
      have HE2 := Lib.hid (show gl ++ ⟨l[k].name, [(k : Int) + 1]⟩ :: grpsL (k + 1) (l.drop (k + 1)) = ⟨textS, [0]⟩ :: grpsL 0 l by
        have h1 := HE.out
        rwa [List.drop_eq_getElem_cons hlt', grpsL] at h1)
      have q1 := hj 0 (by omega)
      have q2 := hj 1 (by omega)
      have q3 := hj 2 (by omega)
      have q4 := hj 3 (by omega)
      have q5 := hj 4 (by omega)
      have q6 := hj 5 (by omega)
      generalize l[k] = s at h0 q1 q2 q3 q4 q5 q6 HE2
      obtain ⟨sn, se, sl, sm, sa, sb, sk⟩ := s
      clear hj hnb
      simp only [SpecR.cells, List.getElem?_cons_zero, List.getElem?_cons_succ] at h0 q1 q2 q3 q4 q5 q6 HE2
      go_upto_region 7 with (fail)
      clear h0 q1 q2 q3 q4 q5 q6 hbl HE
      obtain ⟨Bs, hBs⟩ : ∃ Bs, wr.heap.size = Bs := ⟨_, rfl⟩
      obtain ⟨wb, hwb⟩ : ∃ wb, wr.alloc (.cells #[.string sn, .string se, .bool sl, .int .i64 sm, .int .i64 sa, .int .i64 sb, .bool sk] 69) = wb := ⟨_, rfl⟩
      have hff : Fr Nob wr wb := by rw [← hwb]; exact (Fr.refl _ _).alloc _
      have HBS := Lib.hid (show Blk wb Bs [.string sn, .string se, .bool sl, .int .i64 sm, .int .i64 sa, .int .i64 sb, .bool sk] 69 by rw [← hwb, ← hBs]; exact Blk.new _ _ _)
      have HNG := Lib.hid (HN.out.fr0 hff)
      have HFB := Lib.hid (HF.out.same hff)
      have HBS3 := Lib.hid (show ∀ j, N j → j < Bs from fun j hj => by rw [← hBs]; exact HN.out.lt j hj)
      have wk : IntKind.i64.wrap ((k : Int) + 1) = (k : Int) + 1 := by rw [IntKind.wrap_i64]; omega
      rw [hwb, hBs]
      clear hwb hBs hff HN HF hlt'
      refine wp_region_F 15 (S := fun W => W.cell? ⟨C, 1, none⟩ = some gv ∧ W.cell? ⟨Bs, 0, none⟩ = some (.string sn)) (by kernel_rfl) ?_
      have HNd := Lib.hid (HNG.out.fr0 ((Fr.refl Nob wb).drew))
      have HBd := Lib.hid (HBS.out.fr ((Fr.refl Nob wb).drew) (fun h => h))
      have HFd := Lib.hid (HFB.out.drew)
      skip
      generalize wb.drew = wd at HNd HBd HFd ⊢
      refine wpAnyF_take (i := 0) (v := .pointer (some ⟨C, 0, none⟩)) rfl (by kernel_rfl) (by kernel_rfl) (by kernel_rfl) (fun _ _ _ h => h) (Or.inl ⟨by rfl, fun w hSw => by (try dsimp only at hSw); obtain ⟨s1, s2⟩ := hSw; go_simp⟩) ⟨HNd.out.blk.cell 1, HBd.out.cell 0⟩ ?_
      try simp only [List.getElem_toArray, List.getElem_cons_succ, List.getElem_cons_zero, Act.put, List.setIfInBounds_toArray, List.set_cons_zero, List.set_cons_succ]
      refine wpAnyF_take (i := 1) (v := .pointer (some ⟨C, 0, none⟩)) rfl (by kernel_rfl) (by kernel_rfl) (by kernel_rfl) (fun _ _ _ h => h) (Or.inl ⟨by rfl, fun w hSw => by (try dsimp only at hSw); obtain ⟨s1, s2⟩ := hSw; go_simp⟩) ⟨HNd.out.blk.cell 1, HBd.out.cell 0⟩ ?_
      try simp only [List.getElem_toArray, List.getElem_cons_succ, List.getElem_cons_zero, Act.put, List.setIfInBounds_toArray, List.set_cons_zero, List.set_cons_succ]
      refine wpAnyF_take (i := 2) (v := .pointer (some ⟨C, 0, none⟩)) rfl (by kernel_rfl) (by kernel_rfl) (by kernel_rfl) (fun _ _ _ h => h) (Or.inl ⟨by rfl, fun w hSw => by (try dsimp only at hSw); obtain ⟨s1, s2⟩ := hSw; go_simp⟩) ⟨HNd.out.blk.cell 1, HBd.out.cell 0⟩ ?_
      try simp only [List.getElem_toArray, List.getElem_cons_succ, List.getElem_cons_zero, Act.put, List.setIfInBounds_toArray, List.set_cons_zero, List.set_cons_succ]
      refine wpAnyF_take (i := 3) (v := .pointer (some ⟨C, 1, none⟩)) rfl (by kernel_rfl) (by kernel_rfl) (by kernel_rfl) (fun _ _ _ h => h) (Or.inl ⟨by rfl, fun w hSw => by (try dsimp only at hSw); obtain ⟨s1, s2⟩ := hSw; go_simp⟩) ⟨HNd.out.blk.cell 1, HBd.out.cell 0⟩ ?_
      try simp only [List.getElem_toArray, List.getElem_cons_succ, List.getElem_cons_zero, Act.put, List.setIfInBounds_toArray, List.set_cons_zero, List.set_cons_succ]
      refine wpAnyF_take (i := 4) (v := gv) rfl (by kernel_rfl) (by kernel_rfl) (by kernel_rfl) (fun _ _ _ h => h) (Or.inl ⟨by rfl, fun w hSw => by (try dsimp only at hSw); obtain ⟨s1, s2⟩ := hSw; go_simp⟩) ⟨HNd.out.blk.cell 1, HBd.out.cell 0⟩ ?_
      try simp only [List.getElem_toArray, List.getElem_cons_succ, List.getElem_cons_zero, Act.put, List.setIfInBounds_toArray, List.set_cons_zero, List.set_cons_succ]
      refine wpAnyF_take (i := 5) (v := .pointer (some ⟨Bs, 0, none⟩)) rfl (by kernel_rfl) (by kernel_rfl) (by kernel_rfl) (fun _ _ _ h => h) (Or.inl ⟨by rfl, fun w hSw => by (try dsimp only at hSw); obtain ⟨s1, s2⟩ := hSw; go_simp⟩) ⟨HNd.out.blk.cell 1, HBd.out.cell 0⟩ ?_
      try simp only [List.getElem_toArray, List.getElem_cons_succ, List.getElem_cons_zero, Act.put, List.setIfInBounds_toArray, List.set_cons_zero, List.set_cons_succ]
      refine wpAnyF_take (i := 6) (v := .string sn) rfl (by kernel_rfl) (by kernel_rfl) (by kernel_rfl) (fun _ _ _ h => h) (Or.inl ⟨by rfl, fun w hSw => by (try dsimp only at hSw); obtain ⟨s1, s2⟩ := hSw; go_simp⟩) ⟨HNd.out.blk.cell 1, HBd.out.cell 0⟩ ?_
      try simp only [List.getElem_toArray, List.getElem_cons_succ, List.getElem_cons_zero, Act.put, List.setIfInBounds_toArray, List.set_cons_zero, List.set_cons_succ]
      refine wpAnyF_take (i := 7) (v := .int .i64 k) rfl (by kernel_rfl) (by kernel_rfl) (by kernel_rfl) (fun _ _ _ h => h) (Or.inl ⟨by rfl, fun w hSw => by (try dsimp only at hSw); obtain ⟨s1, s2⟩ := hSw; go_simp⟩) ⟨HNd.out.blk.cell 1, HBd.out.cell 0⟩ ?_
      try simp only [List.getElem_toArray, List.getElem_cons_succ, List.getElem_cons_zero, Act.put, List.setIfInBounds_toArray, List.set_cons_zero, List.set_cons_succ]
      refine wpAnyF_take (i := 8) (v := .int .i64 ((k : Int) + 1)) rfl (by kernel_rfl) (by kernel_rfl) (by kernel_rfl) (fun _ _ _ h => h) (Or.inl ⟨by rfl, fun w hSw => by (try dsimp only at hSw); obtain ⟨s1, s2⟩ := hSw; go_simp⟩) ⟨HNd.out.blk.cell 1, HBd.out.cell 0⟩ ?_
      try simp only [List.getElem_toArray, List.getElem_cons_succ, List.getElem_cons_zero, Act.put, List.setIfInBounds_toArray, List.set_cons_zero, List.set_cons_succ]
      clear wk
      refine wpAnyF_ready (rs := [9]) (by kernel_rfl) (by simp) (AllReadyF.cons (o := _) rfl (fun K hK => ?_) AllReadyF.nil)
      go_simp
      obtain ⟨b1, hb1⟩ : ∃ b1, wd.heap.size = b1 := ⟨_, rfl⟩
      obtain ⟨W1, hW1⟩ : ∃ W1, wd.alloc (.cells #[.int .i64 ((k : Int) + 1)] 3) = W1 := ⟨_, rfl⟩
      have HF1 := Lib.hid (show Fr Nob wd W1 by rw [← hW1]; exact (Fr.refl _ _).alloc _)
      have HT1 := Lib.hid (show Rd N W1 (some ⟨b1, 0, none⟩) (intC [(k : Int) + 1]) from fun _ => ⟨_, rfl, fun h => by have := HNd.out.lt _ h; simp only at this; omega, fun j u hu => by rw [add_lit, ← hW1, ← hb1]; exact ((Blk.new wd [.int .i64 ((k : Int) + 1)] 3).cell j).trans hu⟩)
      rw [hW1, hb1]
      clear hW1 hb1
      have HN1 := Lib.hid (HNd.out.fr0 HF1.out)
      have HB1 := Lib.hid (HBd.out.fr HF1.out (fun h => h))
      refine hK.out _ _ (fun _ => ⟨HN1.out.blk.cell 1, HB1.out.cell 0⟩) ?_
      clear hK K
      try simp only [List.getElem_toArray, List.getElem_cons_succ, List.getElem_cons_zero, Act.put, List.setIfInBounds_toArray, List.set_cons_zero, List.set_cons_succ]
      refine wpAnyF_take (i := 10) (v := .agg #[.string sn, .slice (some ⟨b1, 0, none⟩) 1 1]) rfl (by kernel_rfl) (by kernel_rfl) (by kernel_rfl) (fun _ _ _ h => h) (Or.inl ⟨by rfl, fun w hSw => by (try dsimp only at hSw); obtain ⟨s1, s2⟩ := hSw; go_simp⟩) ⟨HN1.out.blk.cell 1, HB1.out.cell 0⟩ ?_
      try simp only [List.getElem_toArray, List.getElem_cons_succ, List.getElem_cons_zero, Act.put, List.setIfInBounds_toArray, List.set_cons_zero, List.set_cons_succ]
      refine wpAnyF_ready (rs := [11]) (by kernel_rfl) (by simp) (AllReadyF.cons (o := _) rfl (fun K hK => ?_) AllReadyF.nil)
      go_simp
      obtain ⟨b2, hb2⟩ : ∃ b2, W1.heap.size = b2 := ⟨_, rfl⟩
      obtain ⟨W2, hW2⟩ : ∃ W2, W1.alloc (.cells #[.string sn, .slice (some ⟨b1, 0, none⟩) 1 1] 77) = W2 := ⟨_, rfl⟩
      have HF2 := Lib.hid (show Fr Nob W1 W2 by rw [← hW2]; exact (Fr.refl _ _).alloc _)
      have HG2 := Lib.hid (show Blk W2 b2 [.string sn, .slice (some ⟨b1, 0, none⟩) 1 1] 77 by rw [← hW2, ← hb2]; exact Blk.new _ _ _)
      rw [hW2, hb2]
      clear hW2 hb2
      have HN2 := Lib.hid (HN1.out.fr0 HF2.out)
      have HB2 := Lib.hid (HB1.out.fr HF2.out (fun h => h))
      have HT2 := Lib.hid (HT1.out.fr HF2.out (fun _ _ h => h.elim))
      refine hK.out _ _ (fun _ => ⟨HN2.out.blk.cell 1, HB2.out.cell 0⟩) ?_
      clear hK K
      try simp only [List.getElem_toArray, List.getElem_cons_succ, List.getElem_cons_zero, Act.put, List.setIfInBounds_toArray, List.set_cons_zero, List.set_cons_succ]
      refine wpAnyF_ready (rs := [12]) (by kernel_rfl) (by simp) (AllReadyF.cons (o := _) rfl (fun K hK => ?_) AllReadyF.nil)
      refine step_append_two _ rfl _ _ 78 rfl w.heap.size 77 iG _ 2 40 Tryz.underlying78 hiG hzG0 hzG1 hzG2 rfl (by decide) gv gl.length css rfl HN2.out.own ⟨b2, 0, none⟩ 1 1 [.string sn, .slice (some ⟨b1, 0, none⟩) 1 1] rfl rfl (fun j u hu => by rw [add_lit]; exact (HG2.out.cell j).trans hu) (fun u hu => by simp only [List.mem_cons, List.not_mem_nil, or_false] at hu; rcases hu with rfl | rfl <;> rfl) (by omega) (by simp only [maxLen]; have := HGL.out; omega) (by have := HGL.out; omega) (by have h1 := HFd.out.size; have h2 := HF1.out.size; have h3 := HF2.out.size; omega) ?_
      intro g3 cap3 W3 hown3 htwo3
      obtain ⟨WE, hWE⟩ : ∃ WE, W3.setCell ⟨C, 1, none⟩ (.slice (some ⟨g3, 0, none⟩) (gl.length + 1) cap3) = WE := ⟨_, rfl⟩
      have HAP := Lib.hid (HN2.out.app (nm := sn) (ts := [(k : Int) + 1]) (A := (some ⟨b1, 0, none⟩)) (c := 1) (Nat.le_refl 1) HT2.out hown3 htwo3 hWE)
      have HF3 := Lib.hid (show Fr (fun k => gv.ownBlock = some k) W2 W3 by
        rcases htwo3 with ⟨h1, _⟩ | ⟨_, rfl, _, h1⟩
        · exact (Fr.of_grown h1).mono (fun k _ e => by cases e)
        · exact (Fr.of_grown h1).mono (fun k _ e => by cases e; rfl))
      have HC3 := Lib.hid (HN2.out.blk.fr HF3.out (fun e => HN2.out.gn e))
      have HB3 := Lib.hid (HB2.out.fr HF3.out (fun e => by have h1 := HN1.out.lt _ (HN1.out.mine _ (.inr e)); have h2 := HBS3.out _ (HNd.out.mine _ (.inr e)); omega))
      clear hown3 htwo3
      refine hK.out _ _ (fun _ => ⟨HC3.out.cell 1, HB3.out.cell 0⟩) ?_
      clear hK K
      try simp only [List.getElem_toArray, List.getElem_cons_succ, List.getElem_cons_zero, Act.put, List.setIfInBounds_toArray, List.set_cons_zero, List.set_cons_succ]
      refine wpAnyF_take (i := 13) (v := .pointer (some ⟨C, 0, none⟩)) rfl (by kernel_rfl) (by kernel_rfl) (by kernel_rfl) (fun _ _ _ h => h) (Or.inl ⟨by rfl, fun w hSw => by (try dsimp only at hSw); obtain ⟨s1, s2⟩ := hSw; go_simp⟩) ⟨HC3.out.cell 1, HB3.out.cell 0⟩ ?_
      try simp only [List.getElem_toArray, List.getElem_cons_succ, List.getElem_cons_zero, Act.put, List.setIfInBounds_toArray, List.set_cons_zero, List.set_cons_succ]
      refine wpAnyF_take (i := 14) (v := .pointer (some ⟨C, 1, none⟩)) rfl (by kernel_rfl) (by kernel_rfl) (by kernel_rfl) (fun _ _ _ h => h) (Or.inl ⟨by rfl, fun w hSw => by (try dsimp only at hSw); obtain ⟨s1, s2⟩ := hSw; go_simp⟩) ⟨HC3.out.cell 1, HB3.out.cell 0⟩ ?_
      try simp only [List.getElem_toArray, List.getElem_cons_succ, List.getElem_cons_zero, Act.put, List.setIfInBounds_toArray, List.set_cons_zero, List.set_cons_succ]
      refine wpAnyF_ready (rs := [15]) (by kernel_rfl) (by simp) (AllReadyF.cons (o := _) rfl (fun K hK => ?_) AllReadyF.nil)
      have x0 := HC3.out.cell 1
      have f0 := HC3.out.frozen 1
      have xl := HC3.out.lt
      simp only [List.getElem?_cons_zero, List.getElem?_cons_succ] at x0
      go_simp
      clear x0 f0 xl hWE
      refine hK.out _ _ (fun h => absurd rfl h) ?_
      clear hK K
      try simp only [List.getElem_toArray, List.getElem_cons_succ, List.getElem_cons_zero, Act.put, List.setIfInBounds_toArray, List.set_cons_zero, List.set_cons_succ]
      refine wpAnyF_done (by kernel_rfl) ?_ _
      obtain ⟨HN4, hF4⟩ := HAP.out
      have HN4 := Lib.hid HN4
      have HF4 := Lib.hid (((HFd.out.same HF1.out).same HF2.out).trans hF4 (fun j hj e => by
        rcases e with e | e
        · have := HCl.out; omega
        · have := (World.ownsRow.lt HN2.out.own j e).1; omega))
      have HE4 := Lib.hid (show (gl ++ [⟨sn, [(k : Int) + 1]⟩]) ++ grpsL (k + 1) (l.drop (k + 1)) = ⟨textS, [0]⟩ :: grpsL 0 l by rw [← HE2.out]; simp)
      clear HAP hF4 HFd HF1 HF2 HF3 HN2 HN1 HNd HBd HB1 HB2 HB3 HC3 HG2 HT1 HT2 HE2 HBS HBS3 HNG HFB
      have wk2 := wrp64 ((k : Int) + 1) (by omega) (by omega)
      go_wp2_with fail
      go_roundg (ln - (k + 1))
      case measure => omega
      case rel => exact ⟨k + 1, _, _, _, _, rfl, by omega, by first | rfl | go_num, HN4.out, HE4.out, HF4.out⟩
    · have ht : ¬ ((k : Int) < (ln : Int)) := by omega
      have hke : k = ln := by omega
      have HG5 := Lib.hid (show gl = ⟨textS, [0]⟩ :: grpsL 0 l by
        have h1 := HE.out
        rwa [List.drop_eq_nil_of_le (by rw [HLN.out]; omega), grpsL, List.append_nil] at h1)
      have HN5 := Lib.hid HN.out
      have HF5 := Lib.hid HF.out
      clear HN HF HE hke HGL
      go_wp2_with fail
      go_loopg [66] (gn) (fun n s66 wr => ∃ (k : Nat) (N : Nat → Prop) (gv : Value) (gl : List Grp) (css : List Value), n = gn - k ∧ k ≤ gn ∧ s66 = .int .i64 k ∧ Hid (NewG w.heap.size C N wr (.slice none 0 0) gv gl css) ∧ Hid (gl ++ g.drop k = groupsF l g) ∧ Hid (Fr Nob w wr))
      case atStart => exact ⟨0, _, _, _, _, rfl, Nat.zero_le _, rfl, HN5.out, (by rw [HG5.out]; rfl), HF5.out⟩
      case round =>
        clear HN5 HF5 HG5 ht hlt hk
        obtain ⟨k, N, gv, gl, css, rfl, hk, rfl, HN, HE, HF⟩ := hrel
        have HGL := Lib.hid (show gl.length + (gn - k) = 1 + ln + gn by
          have h1 := congrArg List.length HE.out
          rw [List.length_append, List.length_drop, groupsF, List.length_cons, List.length_append, grpsL_len, HLN.out, HGN.out] at h1
          omega)
        by_cases hlt : k < gn
        · have ht : ((k : Int) < (gn : Int)) := by omega
          have hlt' : k < g.length := by rw [HGN.out]; exact hlt
          obtain ⟨ad4, A2, c2, rfl, q0, q1, hcc, hr2⟩ := grp_elt (HGR.out.fr HF.out (fun _ _ h => h.elim)) (GReps.fr HF.out (fun _ _ h => h.elim) _ _ HGE.out) hlt'
          have HE2 := Lib.hid (show gl ++ g[k] :: g.drop (k + 1) = groupsF l g by
            have h1 := HE.out
            rwa [List.drop_eq_getElem_cons hlt'] at h1)
          have htyp := HOK.out.typ _ (List.getElem_mem hlt')
          generalize g[k] = s at q0 q1 HE2 htyp hr2 hcc
          obtain ⟨sn, tl⟩ := s
          simp only at q0 q1 HE2 htyp hr2 hcc
          obtain ⟨ad2, rfl, _, _⟩ := hr2 (by intro e; have := intC_len tl; rw [e] at this; simp at this; omega)
          have HTS := Lib.hid (And.intro htyp.1 (And.intro htyp.2 hr2))
          obtain ⟨tn, htn⟩ : ∃ tn, tl.length = tn := ⟨_, rfl⟩
          have HTN := Lib.hid htn
          rw [htn] at q1
          clear htyp hr2 hcc htn
          go_upto_region 12 with (fail)
          clear q0 q1 HE
          obtain ⟨Bs, hBs⟩ : ∃ Bs, wr.heap.size = Bs := ⟨_, rfl⟩
          obtain ⟨wb, hwb⟩ : ∃ wb, wr.alloc (.cells #[.string sn, .slice (some ad2) tn c2] 77) = wb := ⟨_, rfl⟩
          have hff : Fr Nob wr wb := by rw [← hwb]; exact (Fr.refl _ _).alloc _
          have HBS := Lib.hid (show Blk wb Bs [.string sn, .slice (some ad2) tn c2] 77 by rw [← hwb, ← hBs]; exact Blk.new _ _ _)
          have HNG := Lib.hid (HN.out.fr0 hff)
          have HFB := Lib.hid (HF.out.same hff)
          have HTR := Lib.hid ((HTS.out.2.2.fr hff (fun _ _ h => h.elim)).fr ((Fr.refl Nob wb).drew) (fun _ _ h => h.elim))
          have HBS3 := Lib.hid (show ∀ j, N j → j < Bs from fun j hj => by rw [← hBs]; exact HN.out.lt j hj)
          rw [hwb, hBs]
          clear hwb hBs hff HN HF hlt'
          refine wp_region_F 15 (S := fun W => W.cell? ⟨C, 1, none⟩ = some gv ∧ W.cell? ⟨Bs, 0, none⟩ = some (.string sn) ∧ W.cell? ⟨Bs, 1, none⟩ = some (.slice (some ad2) tn c2)) (by kernel_rfl) ?_
          have HNd := Lib.hid (HNG.out.fr0 ((Fr.refl Nob wb).drew))
          have HBd := Lib.hid (HBS.out.fr ((Fr.refl Nob wb).drew) (fun h => h))
          have HFd := Lib.hid (HFB.out.drew)
          have HTW := Lib.hid HTR.out
          generalize wb.drew = wd at HNd HBd HFd HTW ⊢
          refine wpAnyF_take (i := 0) (v := .pointer (some ⟨C, 0, none⟩)) rfl (by kernel_rfl) (by kernel_rfl) (by kernel_rfl) (fun _ _ _ h => h) (Or.inl ⟨by rfl, fun w hSw => by (try dsimp only at hSw); obtain ⟨s1, s2, s3⟩ := hSw; go_simp⟩) ⟨HNd.out.blk.cell 1, HBd.out.cell 0, HBd.out.cell 1⟩ ?_
          try simp only [List.getElem_toArray, List.getElem_cons_succ, List.getElem_cons_zero, Act.put, List.setIfInBounds_toArray, List.set_cons_zero, List.set_cons_succ]
          refine wpAnyF_take (i := 1) (v := .pointer (some ⟨C, 0, none⟩)) rfl (by kernel_rfl) (by kernel_rfl) (by kernel_rfl) (fun _ _ _ h => h) (Or.inl ⟨by rfl, fun w hSw => by (try dsimp only at hSw); obtain ⟨s1, s2, s3⟩ := hSw; go_simp⟩) ⟨HNd.out.blk.cell 1, HBd.out.cell 0, HBd.out.cell 1⟩ ?_
          try simp only [List.getElem_toArray, List.getElem_cons_succ, List.getElem_cons_zero, Act.put, List.setIfInBounds_toArray, List.set_cons_zero, List.set_cons_succ]
          refine wpAnyF_take (i := 2) (v := .pointer (some ⟨C, 0, none⟩)) rfl (by kernel_rfl) (by kernel_rfl) (by kernel_rfl) (fun _ _ _ h => h) (Or.inl ⟨by rfl, fun w hSw => by (try dsimp only at hSw); obtain ⟨s1, s2, s3⟩ := hSw; go_simp⟩) ⟨HNd.out.blk.cell 1, HBd.out.cell 0, HBd.out.cell 1⟩ ?_
          try simp only [List.getElem_toArray, List.getElem_cons_succ, List.getElem_cons_zero, Act.put, List.setIfInBounds_toArray, List.set_cons_zero, List.set_cons_succ]
          refine wpAnyF_take (i := 3) (v := .pointer (some ⟨C, 1, none⟩)) rfl (by kernel_rfl) (by kernel_rfl) (by kernel_rfl) (fun _ _ _ h => h) (Or.inl ⟨by rfl, fun w hSw => by (try dsimp only at hSw); obtain ⟨s1, s2, s3⟩ := hSw; go_simp⟩) ⟨HNd.out.blk.cell 1, HBd.out.cell 0, HBd.out.cell 1⟩ ?_
          try simp only [List.getElem_toArray, List.getElem_cons_succ, List.getElem_cons_zero, Act.put, List.setIfInBounds_toArray, List.set_cons_zero, List.set_cons_succ]
          refine wpAnyF_take (i := 4) (v := gv) rfl (by kernel_rfl) (by kernel_rfl) (by kernel_rfl) (fun _ _ _ h => h) (Or.inl ⟨by rfl, fun w hSw => by (try dsimp only at hSw); obtain ⟨s1, s2, s3⟩ := hSw; go_simp⟩) ⟨HNd.out.blk.cell 1, HBd.out.cell 0, HBd.out.cell 1⟩ ?_
          try simp only [List.getElem_toArray, List.getElem_cons_succ, List.getElem_cons_zero, Act.put, List.setIfInBounds_toArray, List.set_cons_zero, List.set_cons_succ]
          refine wpAnyF_take (i := 5) (v := .pointer (some ⟨Bs, 0, none⟩)) rfl (by kernel_rfl) (by kernel_rfl) (by kernel_rfl) (fun _ _ _ h => h) (Or.inl ⟨by rfl, fun w hSw => by (try dsimp only at hSw); obtain ⟨s1, s2, s3⟩ := hSw; go_simp⟩) ⟨HNd.out.blk.cell 1, HBd.out.cell 0, HBd.out.cell 1⟩ ?_
          try simp only [List.getElem_toArray, List.getElem_cons_succ, List.getElem_cons_zero, Act.put, List.setIfInBounds_toArray, List.set_cons_zero, List.set_cons_succ]
          refine wpAnyF_take (i := 6) (v := .string sn) rfl (by kernel_rfl) (by kernel_rfl) (by kernel_rfl) (fun _ _ _ h => h) (Or.inl ⟨by rfl, fun w hSw => by (try dsimp only at hSw); obtain ⟨s1, s2, s3⟩ := hSw; go_simp⟩) ⟨HNd.out.blk.cell 1, HBd.out.cell 0, HBd.out.cell 1⟩ ?_
          try simp only [List.getElem_toArray, List.getElem_cons_succ, List.getElem_cons_zero, Act.put, List.setIfInBounds_toArray, List.set_cons_zero, List.set_cons_succ]
          refine wpAnyF_take (i := 7) (v := .pointer (some ⟨Bs, 1, none⟩)) rfl (by kernel_rfl) (by kernel_rfl) (by kernel_rfl) (fun _ _ _ h => h) (Or.inl ⟨by rfl, fun w hSw => by (try dsimp only at hSw); obtain ⟨s1, s2, s3⟩ := hSw; go_simp⟩) ⟨HNd.out.blk.cell 1, HBd.out.cell 0, HBd.out.cell 1⟩ ?_
          try simp only [List.getElem_toArray, List.getElem_cons_succ, List.getElem_cons_zero, Act.put, List.setIfInBounds_toArray, List.set_cons_zero, List.set_cons_succ]
          refine wpAnyF_take (i := 8) (v := .slice (some ad2) tn c2) rfl (by kernel_rfl) (by kernel_rfl) (by kernel_rfl) (fun _ _ _ h => h) (Or.inl ⟨by rfl, fun w hSw => by (try dsimp only at hSw); obtain ⟨s1, s2, s3⟩ := hSw; go_simp⟩) ⟨HNd.out.blk.cell 1, HBd.out.cell 0, HBd.out.cell 1⟩ ?_
          try simp only [List.getElem_toArray, List.getElem_cons_succ, List.getElem_cons_zero, Act.put, List.setIfInBounds_toArray, List.set_cons_zero, List.set_cons_succ]
          refine wpAnyF_ready (rs := [9]) (by kernel_rfl) (by simp) (AllReadyF.cons (o := _) rfl (fun K hK => ?_) AllReadyF.nil)
          go_simp
          have hcl := clone_any Nob tl ad2 c2 wd HTS.out.1 HTS.out.2.1 HTW.out
          rw [HTN.out] at hcl
          refine hcl.mono ?_
          clear hcl
          rintro e W1 ⟨⟨A1, c1, rfl, hc1, hr1⟩, hF1⟩
          have HF1 := Lib.hid hF1
          have HT1 := Lib.hid (show Rd N W1 A1 (intC tl) from hr1.mono (fun j hj => HNd.out.lt j hj))
          have HC1 := Lib.hid (show tl.length ≤ c1 by rw [HTN.out]; exact hc1)
          clear hr1 hF1 hc1
          have HN1 := Lib.hid (HNd.out.fr0 HF1.out)
          have HB1 := Lib.hid (HBd.out.fr HF1.out (fun h => h))
          go_wp2_with fail
          refine hK.out _ _ (fun _ => ⟨HN1.out.blk.cell 1, HB1.out.cell 0, HB1.out.cell 1⟩) ?_
          clear hK K
          try simp only [List.getElem_toArray, List.getElem_cons_succ, List.getElem_cons_zero, Act.put, List.setIfInBounds_toArray, List.set_cons_zero, List.set_cons_succ]
          refine wpAnyF_take (i := 10) (v := .agg #[.string sn, .slice A1 tn c1]) rfl (by kernel_rfl) (by kernel_rfl) (by kernel_rfl) (fun _ _ _ h => h) (Or.inl ⟨by rfl, fun w hSw => by (try dsimp only at hSw); obtain ⟨s1, s2, s3⟩ := hSw; go_simp⟩) ⟨HN1.out.blk.cell 1, HB1.out.cell 0, HB1.out.cell 1⟩ ?_
          try simp only [List.getElem_toArray, List.getElem_cons_succ, List.getElem_cons_zero, Act.put, List.setIfInBounds_toArray, List.set_cons_zero, List.set_cons_succ]
          refine wpAnyF_ready (rs := [11]) (by kernel_rfl) (by simp) (AllReadyF.cons (o := _) rfl (fun K hK => ?_) AllReadyF.nil)
          go_simp
          obtain ⟨b2, hb2⟩ : ∃ b2, W1.heap.size = b2 := ⟨_, rfl⟩
          obtain ⟨W2, hW2⟩ : ∃ W2, W1.alloc (.cells #[.string sn, .slice A1 tn c1] 77) = W2 := ⟨_, rfl⟩
          have HF2 := Lib.hid (show Fr Nob W1 W2 by rw [← hW2]; exact (Fr.refl _ _).alloc _)
          have HG2 := Lib.hid (show Blk W2 b2 [.string sn, .slice A1 tn c1] 77 by rw [← hW2, ← hb2]; exact Blk.new _ _ _)
          rw [hW2, hb2]
          clear hW2 hb2
          have HN2 := Lib.hid (HN1.out.fr0 HF2.out)
          have HB2 := Lib.hid (HB1.out.fr HF2.out (fun h => h))
          have HT2 := Lib.hid (HT1.out.fr HF2.out (fun _ _ h => h.elim))
          refine hK.out _ _ (fun _ => ⟨HN2.out.blk.cell 1, HB2.out.cell 0, HB2.out.cell 1⟩) ?_
          clear hK K
          try simp only [List.getElem_toArray, List.getElem_cons_succ, List.getElem_cons_zero, Act.put, List.setIfInBounds_toArray, List.set_cons_zero, List.set_cons_succ]
          refine wpAnyF_ready (rs := [12]) (by kernel_rfl) (by simp) (AllReadyF.cons (o := _) rfl (fun K hK => ?_) AllReadyF.nil)
          refine step_append_two _ rfl _ _ 78 rfl w.heap.size 77 iG _ 2 40 Tryz.underlying78 hiG hzG0 hzG1 hzG2 rfl (by decide) gv gl.length css rfl HN2.out.own ⟨b2, 0, none⟩ 1 1 [.string sn, .slice A1 tn c1] rfl rfl (fun j u hu => by rw [add_lit]; exact (HG2.out.cell j).trans hu) (fun u hu => by simp only [List.mem_cons, List.not_mem_nil, or_false] at hu; rcases hu with rfl | rfl <;> rfl) (by omega) (by simp only [maxLen]; have := HGL.out; omega) (by have := HGL.out; omega) (by have h1 := HFd.out.size; have h2 := HF1.out.size; have h3 := HF2.out.size; omega) ?_
          intro g3 cap3 W3 hown3 htwo3
          obtain ⟨WE, hWE⟩ : ∃ WE, W3.setCell ⟨C, 1, none⟩ (.slice (some ⟨g3, 0, none⟩) (gl.length + 1) cap3) = WE := ⟨_, rfl⟩
          have HAP := Lib.hid (HN2.out.app (nm := sn) (ts := tl) (A := A1) (c := c1) HC1.out HT2.out (by rw [HTN.out]; exact hown3) htwo3 hWE)
          have HF3 := Lib.hid (show Fr (fun k => gv.ownBlock = some k) W2 W3 by
            rcases htwo3 with ⟨h1, _⟩ | ⟨_, rfl, _, h1⟩
            · exact (Fr.of_grown h1).mono (fun k _ e => by cases e)
            · exact (Fr.of_grown h1).mono (fun k _ e => by cases e; rfl))
          have HC3 := Lib.hid (HN2.out.blk.fr HF3.out (fun e => HN2.out.gn e))
          have HB3 := Lib.hid (HB2.out.fr HF3.out (fun e => by have h1 := HN1.out.lt _ (HN1.out.mine _ (.inr e)); have h2 := HBS3.out _ (HNd.out.mine _ (.inr e)); omega))
          clear hown3 htwo3
          refine hK.out _ _ (fun _ => ⟨HC3.out.cell 1, HB3.out.cell 0, HB3.out.cell 1⟩) ?_
          clear hK K
          try simp only [List.getElem_toArray, List.getElem_cons_succ, List.getElem_cons_zero, Act.put, List.setIfInBounds_toArray, List.set_cons_zero, List.set_cons_succ]
          refine wpAnyF_take (i := 13) (v := .pointer (some ⟨C, 0, none⟩)) rfl (by kernel_rfl) (by kernel_rfl) (by kernel_rfl) (fun _ _ _ h => h) (Or.inl ⟨by rfl, fun w hSw => by (try dsimp only at hSw); obtain ⟨s1, s2, s3⟩ := hSw; go_simp⟩) ⟨HC3.out.cell 1, HB3.out.cell 0, HB3.out.cell 1⟩ ?_
          try simp only [List.getElem_toArray, List.getElem_cons_succ, List.getElem_cons_zero, Act.put, List.setIfInBounds_toArray, List.set_cons_zero, List.set_cons_succ]
          refine wpAnyF_take (i := 14) (v := .pointer (some ⟨C, 1, none⟩)) rfl (by kernel_rfl) (by kernel_rfl) (by kernel_rfl) (fun _ _ _ h => h) (Or.inl ⟨by rfl, fun w hSw => by (try dsimp only at hSw); obtain ⟨s1, s2, s3⟩ := hSw; go_simp⟩) ⟨HC3.out.cell 1, HB3.out.cell 0, HB3.out.cell 1⟩ ?_
          try simp only [List.getElem_toArray, List.getElem_cons_succ, List.getElem_cons_zero, Act.put, List.setIfInBounds_toArray, List.set_cons_zero, List.set_cons_succ]
          refine wpAnyF_ready (rs := [15]) (by kernel_rfl) (by simp) (AllReadyF.cons (o := _) rfl (fun K hK => ?_) AllReadyF.nil)
          have x0 := HC3.out.cell 1
          have f0 := HC3.out.frozen 1
          have xl := HC3.out.lt
          simp only [List.getElem?_cons_zero, List.getElem?_cons_succ] at x0
          go_simp
          clear x0 f0 xl hWE
          refine hK.out _ _ (fun h => absurd rfl h) ?_
          clear hK K
          try simp only [List.getElem_toArray, List.getElem_cons_succ, List.getElem_cons_zero, Act.put, List.setIfInBounds_toArray, List.set_cons_zero, List.set_cons_succ]
          refine wpAnyF_done (by kernel_rfl) ?_ _
          obtain ⟨HN4, hF4⟩ := HAP.out
          have HN4 := Lib.hid HN4
          have HF4 := Lib.hid (((HFd.out.same HF1.out).same HF2.out).trans hF4 (fun j hj e => by
            rcases e with e | e
            · have := HCl.out; omega
            · have := (World.ownsRow.lt HN2.out.own j e).1; omega))
          have HE4 := Lib.hid (show (gl ++ [⟨sn, tl⟩]) ++ g.drop (k + 1) = groupsF l g by rw [← HE2.out]; simp)
          clear HAP hF4 HFd HF1 HF2 HF3 HN2 HN1 HNd HBd HB1 HB2 HB3 HC3 HG2 HT1 HT2 HE2 HBS HBS3 HNG HFB
          have wk2 := wrp64 ((k : Int) + 1) (by omega) (by omega)
          go_wp2_with fail
          go_roundg (gn - (k + 1))
          case measure => omega
          case rel => exact ⟨k + 1, _, _, _, _, rfl, by omega, by first | rfl | go_num, HN4.out, HE4.out, HF4.out⟩
        · have ht : ¬ ((k : Int) < (gn : Int)) := by omega
          have HG6 := Lib.hid (show gl = groupsF l g by
            have h1 := HE.out
            rwa [List.drop_eq_nil_of_le (by rw [HGN.out]; omega), List.append_nil] at h1)
          have HN6 := Lib.hid HN.out
          have HF6 := Lib.hid HF.out
          clear HN HF HE HGL hk
          have HOW := Lib.hid (World.ownsRow_lit (e := 69) (size := 7) (base := wr.heap.size) wr #[.string ⟨#[]⟩, .string whole, .bool false, .int .i64 0, .int .i64 0, .int .i64 0, .bool false] 1 (Nat.le_refl _) (by decide) rfl)
          obtain ⟨ad9, had9, _, hc9⟩ := HR.out (by
            intro e
            have h1 := flat_len SpecR.cells_len l
            have h2 : (specC l).length = 0 := by rw [e]; rfl
            rw [specC] at h2
            rw [HLN.out] at h1
            omega)
          injection had9 with had9
          subst had9
          have HCC := Lib.hid (show ∀ j u, (specC l)[j]? = some u → (wr.alloc (.cells #[.string ⟨#[]⟩, .string whole, .bool false, .int .i64 0, .int .i64 0, .int .i64 0, .bool false] 69)).cell? (ad.add j) = some u from fun j u hu => (HF6.out.alloc _).cell0 (hc9 j u hu))
          have HLL := Lib.hid (show (specC l).length = ln * 7 by rw [specC, flat_len SpecR.cells_len, HLN.out])
          have HMM := Lib.hid (show 1 + ln ≤ maxLen ∧ (1 + ln) * 72 ≤ 140737488355328 ∧ wr.heap.size ≤ (wr.alloc (.cells #[.string ⟨#[]⟩, .string whole, .bool false, .int .i64 0, .int .i64 0, .int .i64 0, .bool false] 69)).heap.size from ⟨by simp only [maxLen]; omega, by omega, by simp⟩)
          have HO1 := Lib.hid (specC_one l)
          obtain ⟨news, hnews⟩ : ∃ news, specC l = news := ⟨_, rfl⟩
          have HNW := Lib.hid hnews
          rw [hnews] at HCC HLL HO1
          clear hc9 hnews
          go_wp2_with (at_builtin; refine wpList_append_lies _ rfl _ _ 74 rfl wr.heap.size 69 iS _ 7 72 Tryz.underlying74 hiS hzS0 hzS1 hzS2 rfl (by decide) (.slice (some ⟨wr.heap.size, 0, none⟩) 1 1) 1 [.string ⟨#[]⟩, .string whole, .bool false, .int .i64 0, .int .i64 0, .int .i64 0, .bool false] rfl HOW.out ad ln c news rfl HLL.out HCC.out HO1.out (by omega) HMM.out.1 HMM.out.2.1 HMM.out.2.2 _ rfl ?_; intro g9 cap9 w9 hown9 hg9 hga9 hgl9)
          clear ht hlt
          have HF9 := Lib.hid (show Fr Nob wr w9 from ((Fr.refl Nob wr).alloc _).trans (Fr.of_grown hg9) (fun j hj e => by
            have h1 : wr.heap.size = j := by injection e with e; exact e.symm
            omega))
          have HNR0 := Lib.hid (newr0 HN6.out HF9.out HCl.out)
          rw [HG6.out] at HNR0
          have HFw9 := Lib.hid (HF6.out.same HF9.out)
          obtain ⟨sl, hsl⟩ : ∃ sl, wholeS whole :: l = sl := ⟨_, rfl⟩
          have HSL := Lib.hid (show Rd (fun k => k = C ∨ k < w.heap.size) w9 (some ⟨g9, 0, none⟩) (specC sl) by
            obtain ⟨A, c', e, _, hr⟩ := Rd.of_own (M := fun k => k = C ∨ k < w.heap.size) hown9 (fun k e hk => by
              have h1 := (World.ownsRow.lt hown9 k e).1
              have h2 := HN6.out.blk.lt
              have h3 := HF6.out.size
              omega)
            cases e
            rw [← hsl, specC, List.flatMap_cons]
            rw [← HNW.out, specC] at hr
            exact hr)
          obtain ⟨sn, hsn⟩ : ∃ sn, 1 + ln = sn := ⟨_, rfl⟩
          have HSN := Lib.hid (show sl.length = sn by rw [← hsl, List.length_cons, HLN.out, ← hsn]; omega)
          have HPA := Lib.hid (show ∀ s ∈ sl, (parseF s.expr).2.2 = 0 ∧ checkR (groupsF l g) (parseF s.expr).1 = 0 ∧ (parseF s.expr).1.count ≤ 4611686018427387904 ∧ (parseF s.expr).1.bytes ≤ 4611686018427387904 by rw [← hsl]; exact HOK.out.parse)
          have HGO := Lib.hid HOK.out.gok
          obtain ⟨G, hGG⟩ : ∃ G, groupsF l g = G := ⟨_, rfl⟩
          have hs16 : sn ≤ 16 ∧ 0 < sn := by omega
          rw [hGG] at HNR0 HPA HGO
          have HSLE := Lib.hid hsl
          have HSN2 := Lib.hid hsn
          have HGGE := Lib.hid hGG
          try simp only [hsn]
          clear hown9 hg9 hga9 hgl9 HOW HCC HLL HMM HO1 HNW HF9 HN6 HF6 HG6 hsl hsn hGG hfew
          generalize (⟨g9, 0, none⟩ : Addr) = ag at HSL ⊢
          go_loopg [92] (sn) (fun n s92 wr => ∃ (k : Nat) (N : Nat → Prop) (lv gv : Value) (rs : List RuleM), n = sn - k ∧ k ≤ sn ∧ s92 = .int .i64 k ∧ Hid (NewR w.heap.size C (fun k => k = C ∨ k < w.heap.size) N w9 wr lv gv rs G) ∧ Hid (rs.map coreR ++ (sl.drop k).map coreS = sl.map coreS) ∧ Hid (Fr Nob w wr))
          case atStart => exact ⟨0, _, _, _, _, rfl, Nat.zero_le _, rfl, HNR0.out, rfl, HFw9.out⟩
          case round =>
            clear HNR0 HFw9
            obtain ⟨k, N, lv, gv, rs, rfl, hk, rfl, HN, HE, HF⟩ := hrel
            have HRL := Lib.hid (show rs.length = k by
              have h1 := congrArg List.length HE.out
              rw [List.length_append, List.length_map, List.length_map, List.length_map, List.length_drop, HSN.out] at h1
              omega)
            by_cases hlt : k < sn
            · have ht : ((k : Int) < (sn : Int)) := by omega
              have ht2 : ((k : Int) < 1 + (ln : Int)) := by have := HSN2.out; omega
              have hlt' : k < sl.length := by rw [HSN.out]; exact hlt
              obtain ⟨ad', had, hnb, hbl, h0, hj⟩ := Rd.elt SpecR.cells_len (by omega) (HSL.out.later HN.out.fw HN.out.lat) hlt'
              injection had with had
              subst had
              have HQ2 := Lib.hid (show rs.map coreR ++ coreS sl[k] :: (sl.drop (k + 1)).map coreS = sl.map coreS by
                have h1 := HE.out
                rwa [List.drop_eq_getElem_cons hlt', List.map_cons] at h1)
              have hpa := HPA.out _ (List.getElem_mem hlt')
              have q1 := hj 0 (by omega)
              have q2 := hj 1 (by omega)
              have q3 := hj 2 (by omega)
              have q4 := hj 3 (by omega)
              have q5 := hj 4 (by omega)
              have q6 := hj 5 (by omega)
              generalize sl[k] = s at h0 q1 q2 q3 q4 q5 q6 HQ2 hpa
              clear hj hnb
              simp only [SpecR.cells, List.getElem?_cons_zero, List.getElem?_cons_succ] at h0 q1 q2 q3 q4 q5 q6
              have HPP := Lib.hid hpa
              clear hpa
              go_upto_region 17 with (fail)
              clear h0 q1 q2 q3 q4 q5 q6 hbl HE
              obtain ⟨Bs, hBs⟩ : ∃ Bs, wr.heap.size = Bs := ⟨_, rfl⟩
              obtain ⟨wa, hwa⟩ : ∃ wa, wr.alloc (.cells #[.string s.name, .string s.expr, .bool s.leaf, .int .i64 s.marks, .int .i64 s.least, .int .i64 s.most, .bool s.lines] 69) = wa := ⟨_, rfl⟩
              have hff : Fr Nob wr wa := by rw [← hwa]; exact (Fr.refl _ _).alloc _
              have HBa := Lib.hid (show Blk wa Bs [.string s.name, .string s.expr, .bool s.leaf, .int .i64 s.marks, .int .i64 s.least, .int .i64 s.most, .bool s.lines] 69 by rw [← hwa, ← hBs]; exact Blk.new _ _ _)
              have HNA := Lib.hid (HN.out.fr0 hff)
              have HFA := Lib.hid (HF.out.same hff)
              have HBS3 := Lib.hid (show ∀ j, N j → j < Bs from fun j hj => by rw [← hBs]; exact HN.out.lt j hj)
              rw [hwa, hBs]
              clear hwa hBs hff HN HF hlt'
              have b1 := HBa.out.cell 1
              have bl := HBa.out.lt
              simp only [List.getElem?_cons_zero, List.getElem?_cons_succ] at b1
              go_wp2_with fail
              refine (parse_any s.expr wa (HHG.out.fr HFA.out (fun h => h))).mono ?_
              rintro e w4 ⟨⟨cs, rfl, hE4⟩, hF4⟩
              rw [HPP.out.1]
              obtain ⟨pn, hpn⟩ : ∃ pn, (parseF s.expr).2.1 = pn := ⟨_, rfl⟩
              rw [hpn]
              clear hpn
              have HPX := HPP
              obtain ⟨x, hx⟩ : ∃ x, (parseF s.expr).1 = x := ⟨_, rfl⟩
              rw [hx] at hE4 HPX
              have HXX := Lib.hid hx
              clear hx
              obtain ⟨A5, c5, css5, rfl, _, _, _⟩ := hE4.open_
              obtain ⟨xn, hxn⟩ : ∃ xn, x.l.length = xn := ⟨_, rfl⟩
              have HXN := Lib.hid hxn
              rw [hxn] at hE4 ⊢
              clear hxn
              have hsz := HNA.out.lt
              have HX4 := Lib.hid (ERep.mono (M' := N) (fun j hj => hsz j hj) _ _ hE4)
              have HN4 := Lib.hid (HNA.out.fr0 hF4)
              have HB4 := Lib.hid (HBa.out.fr hF4 (fun h => h))
              have HF4 := Lib.hid (HFA.out.same hF4)
              clear hE4 hF4 hsz b1 bl HNA HBa HFA
              go_upto_region 19 with (fail)
              obtain ⟨Be, hBe⟩ : ∃ Be, w4.heap.size = Be := ⟨_, rfl⟩
              obtain ⟨w5, hw5⟩ : ∃ w5, w4.alloc (.cells #[.int .i64 x.k, .string x.name, .slice A5 xn c5] 82) = w5 := ⟨_, rfl⟩
              have hff : Fr Nob w4 w5 := by rw [← hw5]; exact (Fr.refl _ _).alloc _
              have HBE5 := Lib.hid (show Blk w5 Be [.int .i64 x.k, .string x.name, .slice A5 xn c5] 82 by rw [← hw5, ← hBe]; exact Blk.new _ _ _)
              have HX5 := Lib.hid (ERep.fr hff (fun _ _ h => h.elim) _ _ HX4.out)
              have HN5 := Lib.hid (HN4.out.fr0 hff)
              have HB5 := Lib.hid (HB4.out.fr hff (fun h => h))
              have HF5 := Lib.hid (HF4.out.same hff)
              have hbb : Bs < Be := by rw [← hBe]; have := HB4.out.lt; omega
              rw [hw5, hBe]
              clear hw5 hBe hff HX4 HN4 HB4 HF4
              have e0 := HBE5.out.cell 0
              have e1 := HBE5.out.cell 1
              have e2 := HBE5.out.cell 2
              have el := HBE5.out.lt
              have x1 := HN5.out.blk.cell 1
              have xl := HN5.out.blk.lt
              simp only [List.getElem?_cons_zero, List.getElem?_cons_succ] at e0 e1 e2 x1
              go_still_tail 5, (by kernel_rfl)
              change wpList _ _ _ _ _ w5.drew
              have hfd : Fr Nob w5 w5.drew := (Fr.refl _ _).drew
              generalize w5.drew = wd at hfd ⊢
              have HBEd := Lib.hid (HBE5.out.fr hfd (fun h => h))
              have HXd := Lib.hid (ERep.fr hfd (fun _ _ h => h.elim) _ _ HX5.out)
              have HNd := Lib.hid (HN5.out.fr0 hfd)
              have HBd := Lib.hid (HB5.out.fr hfd (fun h => h))
              have HFd := Lib.hid (HF5.out.same hfd)
              clear hfd e0 e1 e2 el x1 xl HBE5 HX5 HN5 HB5 HF5
              go_wp2_with fail
              refine (checkR_any G HGO.out x _ gv wd (ERep.mono (fun _ h => h.elim) _ _ HXd.out) (HNd.out.grps.mono (fun _ h => h.elim)) HPX.out.2.2.1 HPX.out.2.2.2).mono ?_
              rintro e w6 ⟨rfl, hF6⟩
              rw [HPX.out.2.1]
              have HBE6 := Lib.hid (HBEd.out.fr hF6 (fun h => h))
              have HX6 := Lib.hid (ERep.fr hF6 (fun _ _ h => h.elim) _ _ HXd.out)
              have HN6 := Lib.hid (HNd.out.fr0 hF6)
              have HB6 := Lib.hid (HBd.out.fr hF6 (fun h => h))
              have HF6 := Lib.hid (HFd.out.same hF6)
              clear hF6 HBEd HXd HNd HBd HFd
              go_upto_region 22 with (fail)
              have HBE := HBE6
              have HXE := HX6
              have HNR := HN6
              have HBS := HB6
              have HFB := HF6
              clear HBE6 HX6 HN6 HB6 HF6
              generalize w6 = wb at HBE HXE HNR HBS HFB ⊢
              refine wp_region_F 12 (S := fun W => W.cell? ⟨C, 0, none⟩ = some lv ∧ W.cell? ⟨Bs, 0, none⟩ = some (.string s.name) ∧ W.cell? ⟨Bs, 1, none⟩ = some (.string s.expr) ∧ W.cell? ⟨Bs, 2, none⟩ = some (.bool s.leaf) ∧ W.cell? ⟨Bs, 3, none⟩ = some (.int .i64 s.marks) ∧ W.cell? ⟨Bs, 4, none⟩ = some (.int .i64 s.least) ∧ W.cell? ⟨Bs, 5, none⟩ = some (.int .i64 s.most) ∧ W.cell? ⟨Bs, 6, none⟩ = some (.bool s.lines) ∧ W.cell? ⟨Be, 0, none⟩ = some (.int .i64 x.k) ∧ W.cell? ⟨Be, 1, none⟩ = some (.string x.name) ∧ W.cell? ⟨Be, 2, none⟩ = some (.slice A5 xn c5)) (by kernel_rfl) ?_
              have HNd := Lib.hid (HNR.out.fr0 ((Fr.refl Nob wb).drew))
              have HBd := Lib.hid (HBS.out.fr ((Fr.refl Nob wb).drew) (fun h => h))
              have HEd := Lib.hid (HBE.out.fr ((Fr.refl Nob wb).drew) (fun h => h))
              have HXd := Lib.hid (ERep.fr ((Fr.refl Nob wb).drew) (fun _ _ h => h.elim) _ _ HXE.out)
              have HFd := Lib.hid (HFB.out.drew)
              generalize wb.drew = wd at HNd HBd HEd HXd HFd ⊢
              refine wpAnyF_take (i := 0) (v := .pointer (some ⟨C, 0, none⟩)) rfl (by kernel_rfl) (by kernel_rfl) (by kernel_rfl) (fun _ _ _ h => h) (Or.inl ⟨by rfl, fun w hSw => by (try dsimp only at hSw); obtain ⟨s1, s2, s3, s4, s5, s6, s7, s8, s9, s10, s11⟩ := hSw; go_simp⟩) ⟨HNd.out.blk.cell 0, HBd.out.cell 0, HBd.out.cell 1, HBd.out.cell 2, HBd.out.cell 3, HBd.out.cell 4, HBd.out.cell 5, HBd.out.cell 6, HEd.out.cell 0, HEd.out.cell 1, HEd.out.cell 2⟩ ?_
              try simp only [List.getElem_toArray, List.getElem_cons_succ, List.getElem_cons_zero, Act.put, List.setIfInBounds_toArray, List.set_cons_zero, List.set_cons_succ]
              refine wpAnyF_take (i := 1) (v := .pointer (some ⟨C, 0, none⟩)) rfl (by kernel_rfl) (by kernel_rfl) (by kernel_rfl) (fun _ _ _ h => h) (Or.inl ⟨by rfl, fun w hSw => by (try dsimp only at hSw); obtain ⟨s1, s2, s3, s4, s5, s6, s7, s8, s9, s10, s11⟩ := hSw; go_simp⟩) ⟨HNd.out.blk.cell 0, HBd.out.cell 0, HBd.out.cell 1, HBd.out.cell 2, HBd.out.cell 3, HBd.out.cell 4, HBd.out.cell 5, HBd.out.cell 6, HEd.out.cell 0, HEd.out.cell 1, HEd.out.cell 2⟩ ?_
              try simp only [List.getElem_toArray, List.getElem_cons_succ, List.getElem_cons_zero, Act.put, List.setIfInBounds_toArray, List.set_cons_zero, List.set_cons_succ]
              refine wpAnyF_take (i := 2) (v := .pointer (some ⟨C, 0, none⟩)) rfl (by kernel_rfl) (by kernel_rfl) (by kernel_rfl) (fun _ _ _ h => h) (Or.inl ⟨by rfl, fun w hSw => by (try dsimp only at hSw); obtain ⟨s1, s2, s3, s4, s5, s6, s7, s8, s9, s10, s11⟩ := hSw; go_simp⟩) ⟨HNd.out.blk.cell 0, HBd.out.cell 0, HBd.out.cell 1, HBd.out.cell 2, HBd.out.cell 3, HBd.out.cell 4, HBd.out.cell 5, HBd.out.cell 6, HEd.out.cell 0, HEd.out.cell 1, HEd.out.cell 2⟩ ?_
              try simp only [List.getElem_toArray, List.getElem_cons_succ, List.getElem_cons_zero, Act.put, List.setIfInBounds_toArray, List.set_cons_zero, List.set_cons_succ]
              refine wpAnyF_take (i := 3) (v := .pointer (some ⟨C, 0, none⟩)) rfl (by kernel_rfl) (by kernel_rfl) (by kernel_rfl) (fun _ _ _ h => h) (Or.inl ⟨by rfl, fun w hSw => by (try dsimp only at hSw); obtain ⟨s1, s2, s3, s4, s5, s6, s7, s8, s9, s10, s11⟩ := hSw; go_simp⟩) ⟨HNd.out.blk.cell 0, HBd.out.cell 0, HBd.out.cell 1, HBd.out.cell 2, HBd.out.cell 3, HBd.out.cell 4, HBd.out.cell 5, HBd.out.cell 6, HEd.out.cell 0, HEd.out.cell 1, HEd.out.cell 2⟩ ?_
              try simp only [List.getElem_toArray, List.getElem_cons_succ, List.getElem_cons_zero, Act.put, List.setIfInBounds_toArray, List.set_cons_zero, List.set_cons_succ]
              refine wpAnyF_take (i := 4) (v := lv) rfl (by kernel_rfl) (by kernel_rfl) (by kernel_rfl) (fun _ _ _ h => h) (Or.inl ⟨by rfl, fun w hSw => by (try dsimp only at hSw); obtain ⟨s1, s2, s3, s4, s5, s6, s7, s8, s9, s10, s11⟩ := hSw; go_simp⟩) ⟨HNd.out.blk.cell 0, HBd.out.cell 0, HBd.out.cell 1, HBd.out.cell 2, HBd.out.cell 3, HBd.out.cell 4, HBd.out.cell 5, HBd.out.cell 6, HEd.out.cell 0, HEd.out.cell 1, HEd.out.cell 2⟩ ?_
              try simp only [List.getElem_toArray, List.getElem_cons_succ, List.getElem_cons_zero, Act.put, List.setIfInBounds_toArray, List.set_cons_zero, List.set_cons_succ]
              refine wpAnyF_take (i := 5) (v := .agg #[.string s.name, .string s.expr, .bool s.leaf, .int .i64 s.marks, .int .i64 s.least, .int .i64 s.most, .bool s.lines]) rfl (by kernel_rfl) (by kernel_rfl) (by kernel_rfl) (fun _ _ _ h => h) (Or.inl ⟨by rfl, fun w hSw => by (try dsimp only at hSw); obtain ⟨s1, s2, s3, s4, s5, s6, s7, s8, s9, s10, s11⟩ := hSw; go_simp⟩) ⟨HNd.out.blk.cell 0, HBd.out.cell 0, HBd.out.cell 1, HBd.out.cell 2, HBd.out.cell 3, HBd.out.cell 4, HBd.out.cell 5, HBd.out.cell 6, HEd.out.cell 0, HEd.out.cell 1, HEd.out.cell 2⟩ ?_
              try simp only [List.getElem_toArray, List.getElem_cons_succ, List.getElem_cons_zero, Act.put, List.setIfInBounds_toArray, List.set_cons_zero, List.set_cons_succ]
              refine wpAnyF_take (i := 6) (v := .agg #[.int .i64 x.k, .string x.name, .slice A5 xn c5]) rfl (by kernel_rfl) (by kernel_rfl) (by kernel_rfl) (fun _ _ _ h => h) (Or.inl ⟨by rfl, fun w hSw => by (try dsimp only at hSw); obtain ⟨s1, s2, s3, s4, s5, s6, s7, s8, s9, s10, s11⟩ := hSw; go_simp⟩) ⟨HNd.out.blk.cell 0, HBd.out.cell 0, HBd.out.cell 1, HBd.out.cell 2, HBd.out.cell 3, HBd.out.cell 4, HBd.out.cell 5, HBd.out.cell 6, HEd.out.cell 0, HEd.out.cell 1, HEd.out.cell 2⟩ ?_
              try simp only [List.getElem_toArray, List.getElem_cons_succ, List.getElem_cons_zero, Act.put, List.setIfInBounds_toArray, List.set_cons_zero, List.set_cons_succ]
              refine wpAnyF_take (i := 7) (v := .agg #[.string s.name, .string s.expr, .bool s.leaf, .int .i64 s.marks, .int .i64 s.least, .int .i64 s.most, .bool s.lines, .int .i64 x.k, .string x.name, .slice A5 xn c5]) rfl (by kernel_rfl) (by kernel_rfl) (by kernel_rfl) (fun _ _ _ h => h) (Or.inl ⟨by rfl, fun w hSw => by (try dsimp only at hSw); obtain ⟨s1, s2, s3, s4, s5, s6, s7, s8, s9, s10, s11⟩ := hSw; go_simp⟩) ⟨HNd.out.blk.cell 0, HBd.out.cell 0, HBd.out.cell 1, HBd.out.cell 2, HBd.out.cell 3, HBd.out.cell 4, HBd.out.cell 5, HBd.out.cell 6, HEd.out.cell 0, HEd.out.cell 1, HEd.out.cell 2⟩ ?_
              try simp only [List.getElem_toArray, List.getElem_cons_succ, List.getElem_cons_zero, Act.put, List.setIfInBounds_toArray, List.set_cons_zero, List.set_cons_succ]
              refine wpAnyF_ready (rs := [8]) (by kernel_rfl) (by simp) (AllReadyF.cons (o := _) rfl (fun K hK => ?_) AllReadyF.nil)
              go_simp
              obtain ⟨b2, hb2⟩ : ∃ b2, wd.heap.size = b2 := ⟨_, rfl⟩
              obtain ⟨W2, hW2⟩ : ∃ W2, wd.alloc (.cells #[.string s.name, .string s.expr, .bool s.leaf, .int .i64 s.marks, .int .i64 s.least, .int .i64 s.most, .bool s.lines, .int .i64 x.k, .string x.name, .slice A5 xn c5] 84) = W2 := ⟨_, rfl⟩
              have HF2 := Lib.hid (show Fr Nob wd W2 by rw [← hW2]; exact (Fr.refl _ _).alloc _)
              have HG2 := Lib.hid (show Blk W2 b2 [.string s.name, .string s.expr, .bool s.leaf, .int .i64 s.marks, .int .i64 s.least, .int .i64 s.most, .bool s.lines, .int .i64 x.k, .string x.name, .slice A5 xn c5] 84 by rw [← hW2, ← hb2]; exact Blk.new _ _ _)
              rw [hW2, hb2]
              clear hW2 hb2
              have HN2 := Lib.hid (HNd.out.fr0 HF2.out)
              have HB2 := Lib.hid (HBd.out.fr HF2.out (fun h => h))
              have HE2 := Lib.hid (HEd.out.fr HF2.out (fun h => h))
              have HX2 := Lib.hid (ERep.fr HF2.out (fun _ _ h => h.elim) _ _ HXd.out)
              refine hK.out _ _ (fun _ => ⟨HN2.out.blk.cell 0, HB2.out.cell 0, HB2.out.cell 1, HB2.out.cell 2, HB2.out.cell 3, HB2.out.cell 4, HB2.out.cell 5, HB2.out.cell 6, HE2.out.cell 0, HE2.out.cell 1, HE2.out.cell 2⟩) ?_
              clear hK K
              try simp only [List.getElem_toArray, List.getElem_cons_succ, List.getElem_cons_zero, Act.put, List.setIfInBounds_toArray, List.set_cons_zero, List.set_cons_succ]
              refine wpAnyF_ready (rs := [9]) (by kernel_rfl) (by simp) (AllReadyF.cons (o := _) rfl (fun K hK => ?_) AllReadyF.nil)
              refine step_append_two _ rfl _ _ 85 rfl w.heap.size 84 iR _ 10 120 Tryz.underlying85 hiR hzR0 hzR1 hzR2 rfl (by decide) lv rs.length (rs.flatMap RuleM.cells) rfl HN2.out.own ⟨b2, 0, none⟩ 1 1 [.string s.name, .string s.expr, .bool s.leaf, .int .i64 s.marks, .int .i64 s.least, .int .i64 s.most, .bool s.lines, .int .i64 x.k, .string x.name, .slice A5 xn c5] rfl rfl (fun j u hu => by rw [add_lit]; exact (HG2.out.cell j).trans hu) (fun u hu => by simp only [List.mem_cons, List.not_mem_nil, or_false] at hu; rcases hu with rfl | rfl | rfl | rfl | rfl | rfl | rfl | rfl | rfl | rfl <;> rfl) (by omega) (by simp only [maxLen]; have := HRL.out; omega) (by have := HRL.out; omega) (by have h1 := HFd.out.size; have h2 := HF2.out.size; omega) ?_
              intro g3 cap3 W3 hown3 htwo3
              obtain ⟨WE, hWE⟩ : ∃ WE, W3.setCell ⟨C, 0, none⟩ (.slice (some ⟨g3, 0, none⟩) (rs.length + 1) cap3) = WE := ⟨_, rfl⟩
              have HAP := Lib.hid (HN2.out.app (r := ⟨s.name, s.expr, s.leaf, s.marks, s.least, s.most, s.lines, x, A5, c5⟩) (by rw [RuleM.ec, HXN.out]; exact HX2.out) (by rw [RuleM.cells, HXN.out]; exact hown3) htwo3 hWE)
              have HF3 := Lib.hid (show Fr (fun k => lv.ownBlock = some k) W2 W3 by
                rcases htwo3 with ⟨h1, _⟩ | ⟨_, rfl, _, h1⟩
                · exact (Fr.of_grown h1).mono (fun k _ e => by cases e)
                · exact (Fr.of_grown h1).mono (fun k _ e => by cases e; rfl))
              have HC3 := Lib.hid (HN2.out.blk.fr HF3.out (fun e => HN2.out.ln e))
              have HB3 := Lib.hid (HB2.out.fr HF3.out (fun e => by have h2 := HBS3.out _ (HNd.out.mine _ (.inr e)); omega))
              have HE3 := Lib.hid (HE2.out.fr HF3.out (fun e => by have h2 := HBS3.out _ (HNd.out.mine _ (.inr e)); omega))
              clear hown3 htwo3
              refine hK.out _ _ (fun _ => ⟨HC3.out.cell 0, HB3.out.cell 0, HB3.out.cell 1, HB3.out.cell 2, HB3.out.cell 3, HB3.out.cell 4, HB3.out.cell 5, HB3.out.cell 6, HE3.out.cell 0, HE3.out.cell 1, HE3.out.cell 2⟩) ?_
              clear hK K
              try simp only [List.getElem_toArray, List.getElem_cons_succ, List.getElem_cons_zero, Act.put, List.setIfInBounds_toArray, List.set_cons_zero, List.set_cons_succ]
              refine wpAnyF_take (i := 10) (v := .pointer (some ⟨C, 0, none⟩)) rfl (by kernel_rfl) (by kernel_rfl) (by kernel_rfl) (fun _ _ _ h => h) (Or.inl ⟨by rfl, fun w hSw => by (try dsimp only at hSw); obtain ⟨s1, s2, s3, s4, s5, s6, s7, s8, s9, s10, s11⟩ := hSw; go_simp⟩) ⟨HC3.out.cell 0, HB3.out.cell 0, HB3.out.cell 1, HB3.out.cell 2, HB3.out.cell 3, HB3.out.cell 4, HB3.out.cell 5, HB3.out.cell 6, HE3.out.cell 0, HE3.out.cell 1, HE3.out.cell 2⟩ ?_
              try simp only [List.getElem_toArray, List.getElem_cons_succ, List.getElem_cons_zero, Act.put, List.setIfInBounds_toArray, List.set_cons_zero, List.set_cons_succ]
              refine wpAnyF_take (i := 11) (v := .pointer (some ⟨C, 0, none⟩)) rfl (by kernel_rfl) (by kernel_rfl) (by kernel_rfl) (fun _ _ _ h => h) (Or.inl ⟨by rfl, fun w hSw => by (try dsimp only at hSw); obtain ⟨s1, s2, s3, s4, s5, s6, s7, s8, s9, s10, s11⟩ := hSw; go_simp⟩) ⟨HC3.out.cell 0, HB3.out.cell 0, HB3.out.cell 1, HB3.out.cell 2, HB3.out.cell 3, HB3.out.cell 4, HB3.out.cell 5, HB3.out.cell 6, HE3.out.cell 0, HE3.out.cell 1, HE3.out.cell 2⟩ ?_
              try simp only [List.getElem_toArray, List.getElem_cons_succ, List.getElem_cons_zero, Act.put, List.setIfInBounds_toArray, List.set_cons_zero, List.set_cons_succ]
              refine wpAnyF_ready (rs := [12]) (by kernel_rfl) (by simp) (AllReadyF.cons (o := _) rfl (fun K hK => ?_) AllReadyF.nil)
              have x0 := HC3.out.cell 0
              have f0 := HC3.out.frozen 0
              have xl := HC3.out.lt
              simp only [List.getElem?_cons_zero, List.getElem?_cons_succ] at x0
              go_simp
              clear x0 f0 xl hWE
              refine hK.out _ _ (fun h => absurd rfl h) ?_
              clear hK K
              try simp only [List.getElem_toArray, List.getElem_cons_succ, List.getElem_cons_zero, Act.put, List.setIfInBounds_toArray, List.set_cons_zero, List.set_cons_succ]
              refine wpAnyF_done (by kernel_rfl) ?_ _
              obtain ⟨HN7, hF7⟩ := HAP.out
              have HN7 := Lib.hid HN7
              have HF7 := Lib.hid ((HFd.out.same HF2.out).trans hF7 (fun j hj e => by
                rcases e with e | e
                · have := HCl.out; omega
                · have := (World.ownsRow.lt HN2.out.own j e).1; omega))
              have HE7 := Lib.hid (show (rs ++ [(⟨s.name, s.expr, s.leaf, s.marks, s.least, s.most, s.lines, x, A5, c5⟩ : RuleM)]).map coreR ++ (sl.drop (k + 1)).map coreS = sl.map coreS by
                rw [← HQ2.out, List.map_append, List.append_assoc, List.map_cons, List.map_nil, List.singleton_append]
                congr 2
                rw [coreR, coreS, HXX.out])
              clear HAP hF7 HFd HF2 HF3 HN2 HNd HBd HEd HXd HB2 HE2 HQ2 HX2 HB3 HE3 HC3 HG2 HBS HBS3 HNR HFB HBE HXE
              have wk2 := wrp64 ((k : Int) + 1) (by omega) (by omega)
              go_wp2_with fail
              go_roundg (sn - (k + 1))
              case measure => exact Nat.sub_lt_sub_left hlt (Nat.lt_succ_self k)
              case rel => exact ⟨k + 1, _, _, _, _, rfl, Nat.succ_le_of_lt hlt, by rw [wk2]; rfl, HN7.out, HE7.out, HF7.out⟩
            · have ht2 : ¬ ((k : Int) < 1 + (ln : Int)) := by have := HSN2.out; omega
              have ht : ¬ ((k : Int) < (sn : Int)) := by omega
              have hS := HN.out.sch HCl.out (by rw [HRL.out]; omega)
              go_wp2_with fail
              refine bodyPost_ret (v := .tuple #[.pointer (some ⟨C, 0, none⟩), .int .i64 0]) (by simp [results, go_sem]) rfl ?_
              refine ⟨⟨C, rfl, rs, by rw [HGGE.out]; exact hS, ?_⟩, HF.out⟩
              rw [← List.map_cons, HSLE.out, ← HE.out, List.drop_eq_nil_of_le (by rw [HSN.out]; omega), List.map_nil, List.append_nil]
end Go.Proofs.YtldcffonfidbcaaGreatDoor
