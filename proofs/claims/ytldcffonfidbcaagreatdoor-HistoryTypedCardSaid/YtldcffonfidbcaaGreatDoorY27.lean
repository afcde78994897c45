/- A part of the proof for chapter 10: Maps, Add, MirP; no conditions. -/
import Derived.Test.YtldcffonfidbcaaGreatDoorY25
import Derived.Test.YtldcffonfidbcaaGreatDoorY26
import Derived.Test.YtldcffonfidbcaaGreatDoorY08
/- Chapter 8: maps, one behind the other, as memory holds them. -/
namespace Go.Proofs.YtldcffonfidbcaaGreatDoor
open Go.RowKit
structure OneM where
  l : List Rng
  mir : Int
  A : Option Addr
  c : Nat
def OneM.cells (x : OneM) : List Value := [.slice x.A x.l.length x.c, .int .i64 x.mir]
theorem OneM.cells_len (x : OneM) : x.cells.length = 2 := rfl
def oneC (ms : List OneM) : List Value := ms.flatMap OneM.cells
/-- The blocks that are a mapping's own. -/
def MB (m : Nat) (v : Value) : Nat → Prop := fun k => k = m ∨ v.ownBlock = some k
/-- A mapping: its maps lie outside of the blocks of N. -/
structure Mp (N : Nat → Prop) (base : Nat) (w : World) (m : Nat) (v : Value) (ms : List OneM) : Prop where
  blk : Blk w m [v, .bool true] 208
  lo : base ≤ m
  own : w.ownsRow base 211 2 v ms.length (oneC ms)
  ne : v.ownBlock ≠ some m
  mine : ∀ k, MB m v k → N k
  rows : ∀ x ∈ ms, Rd N w x.A (rngC x.l)
  right : ∀ x ∈ ms, rightP x.l = true
  mirs : ∀ x ∈ ms, x.mir < ms.length
theorem Mp.fr {N M : Nat → Prop} {base m : Nat} {w w' : World} {v : Value} {ms : List OneM} (h : Mp N base w m v ms) (hf : Fr M w w') (hM : ∀ k, k < w.heap.size → M k → N k) (hm : ∀ k, MB m v k → ¬ M k) : Mp N base w' m v ms :=
  ⟨h.blk.fr hf (hm m (.inl rfl)), h.lo, own_fr h.own hf (fun k e => hm k (.inr e)), h.ne, h.mine, fun x hx => (h.rows x hx).fr hf hM, h.right, h.mirs⟩
theorem Mp.fr0 {N : Nat → Prop} {base m : Nat} {w w' : World} {v : Value} {ms : List OneM} (h : Mp N base w m v ms) (hf : Fr Nob w w') : Mp N base w' m v ms := h.fr hf (fun _ _ h => h.elim) (fun _ _ h => h)
/-- The blocks that lie beyond the heap's end may be counted among those of N. -/
theorem Mp.bound {N : Nat → Prop} {base m : Nat} {w : World} {v : Value} {ms : List OneM} (h : Mp N base w m v ms) : Mp (fun k => N k ∨ w.heap.size ≤ k) base w m v ms :=
  ⟨h.blk, h.lo, h.own, h.ne, fun k hk => .inl (h.mine k hk), fun x hx => (h.rows x hx).bound, h.right, h.mirs⟩
theorem infoOne : (Tryz.prog.info? 211).map (fun i => (i.zero, i.size, i.bytes)) = some (some (.agg #[.slice none 0 0, .int .i64 0]), 2, 32) := by kernel_rfl
/-- append(nil, xs...), xs without an element. -/
theorem step_append_empty {P : Program} (w : World) {ops : Array Oper} {E : Prop} {o : Oper} {a : Act} {K : Act → World → Prop} {Q : Exit → Act → World → Prop} (hgd : o.guard = none) (s x : Operand) (t : TypeId)
    (ho : o.op = .call { callee := .builtin .append, args := #[s, x], argTypes := #[t, t] }) (e : TypeId) (i : TypeInfo) (ht : P.underlying t = some (.slice e)) (hi : P.info? e = some i)
    (hs : a.eval s = .slice none 0 0) (A : Option Addr) (c : Nat) (hx : a.eval x = .slice A 0 c) (h : K (a.put o.dst (.slice none 0 0)) w) : if Region.wanted o (yielded ops a.tmps) = true then Oper.wp P o a w K Q else E := by
  rw [if_pos (by simp [Region.wanted, hgd])]
  have hl : ∀ (x : Addr), (loadCells x 0).run P w = .ok #[] w := fun x => by simpa using run_loadCells_list (P := P) w x [] (by simp)
  have hrun : (Builtin.append_ #[t, t] o.type #[.slice none 0 0, .slice A 0 c]).run P w = .ok (.slice none 0 0) w := by
    cases A <;> simp [Builtin.append_, run_underlying ht, sizeOf, typeInfo, hi, Builtin.lenOf, Builtin.firstCells, hl]
  unfold Oper.wp execOp
  simp only [ho, resolve, invoke, builtin, Sem.run_bind, Sem.run_pure, Result.andThen_ok, List.map_toArray, List.map_cons, List.map_nil, hs, hx, hrun]
  exact h
/-- append(nil, xs...): a row of one's own. -/
theorem step_append_rngs (w : World) {ops : Array Oper} {E : Prop} {o : Oper} {a : Act} {K : Act → World → Prop} {Q : Exit → Act → World → Prop} (M : Nat → Prop) (hgd : o.guard = none) (s x : Operand)
    (ho : o.op = .call { callee := .builtin .append, args := #[s, x], argTypes := #[148, 148] })
    (hs : a.eval s = .slice none 0 0) (A : Option Addr) (c : Nat) (xs : List Rng) (hx : a.eval x = .slice A xs.length c) (hr : Rd M w A (rngC xs)) (hl : xs.length ≤ 1000)
    (h : ∀ A6 c6 w6, Fr Nob w w6 → Rd (fun k => k < w.heap.size) w6 A6 (rngC xs) → K (a.put o.dst (.slice A6 xs.length c6)) w6) : if Region.wanted o (yielded ops a.tmps) = true then Oper.wp Tryz.prog o a w K Q else E := by
  obtain ⟨i0, hi, hz0, hz1, hz2⟩ := info_parts infoRng
  by_cases h0 : xs.length = 0
  · obtain rfl := List.eq_nil_of_length_eq_zero h0
    exact step_append_empty w hgd s x _ ho 205 i0 Tryz.underlying148 hi hs A c hx (h none 0 w (Fr.refl _ _) (Rd.nil _ _ _))
  · have hl3 : (rngC xs).length = xs.length * 3 := flat_len Rng.cells_len xs
    obtain ⟨ad, rfl, _, hc⟩ := hr (by intro e; rw [e] at hl3; simp at hl3; omega)
    refine step_append_two w hgd s x _ ho w.heap.size 205 i0 _ 3 24 Tryz.underlying148 hi hz0 hz1 hz2 rfl (by decide) (.slice none 0 0) 0 [] hs (World.ownsRow_nil _ _ _ _) ad xs.length c (rngC xs) hx hl3 hc (fun u hu => ?_) (by omega) (by simp only [maxLen]; omega) (by omega) (Nat.le_refl _) ?_
    · obtain ⟨y, _, hy⟩ := List.mem_flatMap.1 hu
      simp only [Rng.cells, List.mem_cons, List.not_mem_nil, or_false] at hy
      rcases hy with rfl | rfl | rfl <;> rfl
    · intro g cap w' hown htwo
      rw [Nat.zero_add] at hown ⊢
      rcases htwo with ⟨hg, hgl⟩ | ⟨_, e, _⟩
      · refine h _ _ w' ((Fr.of_grown hg).mono (fun k _ e => by cases e)) ?_
        have := hown.cells (g := g) rfl
        rw [List.nil_append] at this
        exact fun _ => ⟨_, rfl, Nat.not_lt.2 hgl, this⟩
      · cases e
end Go.Proofs.YtldcffonfidbcaaGreatDoor

/- Chapter 8: one map more. -/
namespace Go.Proofs.YtldcffonfidbcaaGreatDoor
open Go.RowKit
set_option maxRecDepth 100000 in
set_option maxHeartbeats 4000000 in
theorem posadd_any (N M : Nat → Prop) (base m : Nat) (v : Value) (ms : List OneM) (xs : List Rng) (A : Option Addr) (c : Nat) (w : World) (hm : Mp N base w m v ms) (hr : Rd M w A (rngC xs)) (hx : rightP xs = true) (hn : ms.length < 4096) :
    Calls Tryz.prog 80 #[.pointer (some ⟨m, 0, none⟩), .slice A xs.length c] w fun e w' => e = .returned (.int .i64 0) ∧ ∃ v' A' c', Mp (fun k => N k ∧ k < w.heap.size ∨ v'.ownBlock = some k) base w' m v' (ms ++ [⟨xs, -1, A', c'⟩]) ∧ Fr (MB m v) w w' ∧ (v'.ownBlock = v.ownBlock ∨ ∃ g, v'.ownBlock = some g ∧ w.heap.size ≤ g) := by
  obtain ⟨VA, vc, rfl, hvc, hrv⟩ := Rd.of_own (M := Nob) hm.own (fun _ _ h => h)
  have HM := Lib.hid hm
  have HR := Lib.hid hr
  have HX := Lib.hid hx
  have d0 := hm.blk.cell 0
  have d1 := hm.blk.cell 1
  have f0 := hm.blk.frozen 0
  have lm := hm.blk.lt
  simp only [List.getElem?_cons_zero, List.getElem?_cons_succ] at d0 d1
  obtain ⟨h4, _⟩ := rightP_ok hx
  have hn' : ¬ (4096 ≤ (ms.length : Int)) := by omega
  have HNO := Lib.hid (posnone_any m w d1)
  clear hrv hm hr hx
  go_enter Tryz.func80, Tryz.ntmps80
  go_wp2_with fail
  refine HNO.out.mono ?_
  rintro e w ⟨rfl, rfl⟩
  go_wp2_with fail
  refine (posright_any M xs A c w HR.out (by omega)).mono ?_
  rintro e w1 ⟨rfl, hF1⟩
  rw [HX.out]
  have HM1 := Lib.hid (HM.out.fr0 hF1)
  have HR1 := Lib.hid (HR.out.fr hF1 (fun _ _ h => h.elim))
  have HF1 := Lib.hid hF1
  clear hF1 d0 d1 f0 lm
  have d0 := HM1.out.blk.cell 0
  have lm := HM1.out.blk.lt
  simp only [List.getElem?_cons_zero] at d0
  obtain ⟨i0, hi, hz0, hz1, hz2⟩ := info_parts infoOne
  go_wp2_with fail
  refine wp_region_held_drew (S := fun _ : World => True) (by kernel_rfl) trivial (fun _ => ?_)
  have HMD := Lib.hid (HM1.out.fr0 (Fr.refl Nob w1).drew)
  have HRD := Lib.hid (HR1.out.fr (Fr.refl Nob w1).drew (fun _ _ h => h.elim))
  have HFD := Lib.hid (HF1.out.same (Fr.refl Nob w1).drew)
  clear d0 lm
  generalize w1.drew = wd at HMD HRD HFD ⊢
  have FIN : Hid (∀ (w6 : World) (A6 : Option Addr) (c6 : Nat), Fr Nob wd w6 → Rd (fun k => k < wd.heap.size) w6 A6 (rngC xs) → ∀ (g cap : Nat) (w9 : World), w9.ownsRow base 211 2 (.slice (some ⟨g, 0, none⟩) (ms.length + 1) cap) (ms.length + 1) (oneC ms ++ [.slice A6 xs.length c6, .int .i64 (-1)]) →
      (((w6.alloc (.cells #[.slice A6 xs.length c6, .int .i64 (-1)] 211)).grownBy w9 none ∧ (w6.alloc (.cells #[.slice A6 xs.length c6, .int .i64 (-1)] 211)).heap.size ≤ g) ∨ (∃ cap0, (.slice VA ms.length vc : Value) = .slice (some ⟨g, 0, none⟩) ms.length cap0 ∧ ms.length + 1 ≤ cap0 ∧ (w6.alloc (.cells #[.slice A6 xs.length c6, .int .i64 (-1)] 211)).grownBy w9 (some g))) →
      Blk w9 m [.slice VA ms.length vc, .bool true] 208 ∧ (∃ v' A' c', Mp (fun k => N k ∧ k < w.heap.size ∨ v'.ownBlock = some k) base (w9.setCell ⟨m, 0, none⟩ (.slice (some ⟨g, 0, none⟩) (ms.length + 1) cap)) m v' (ms ++ [⟨xs, -1, A', c'⟩]) ∧ Fr (MB m (.slice VA ms.length vc)) w (w9.setCell ⟨m, 0, none⟩ (.slice (some ⟨g, 0, none⟩) (ms.length + 1) cap)) ∧ (v'.ownBlock = (Value.slice VA ms.length vc).ownBlock ∨ ∃ g, v'.ownBlock = some g ∧ w.heap.size ≤ g))) := fun w6 A6 c6 hF6 hR6 g cap w9 hown9 htwo => by
    have hM6 := HMD.out.fr0 hF6
    have hsz : (w6.alloc (.cells #[.slice A6 xs.length c6, .int .i64 (-1)] 211)).heap.size = w6.heap.size + 1 := by simp
    have hwd := HFD.out.size
    have h6 := hF6.size
    have hmlt := hM6.blk.lt
    have hne := hM6.ne
    obtain ⟨row, hg, hrow, hgw⟩ : ∃ row, (w6.alloc (.cells #[.slice A6 xs.length c6, .int .i64 (-1)] 211)).grownBy w9 row ∧ (∀ k, some k = row → (Value.slice VA ms.length vc).ownBlock = some k) ∧ ((Value.slice VA ms.length vc).ownBlock = some g ∨ w6.heap.size + 1 ≤ g) := by
      rcases htwo with ⟨h, hgl⟩ | ⟨cap0, e, _, h⟩
      · exact ⟨_, h, fun k e => (by cases e), .inr (by omega)⟩
      · exact ⟨_, h, fun k e' => (by cases e'; rw [e]; rfl), .inl (by rw [e]; rfl)⟩
    have hgm : g ≠ m := by
      rintro rfl
      rcases hgw with h | h
      · exact hne h
      · omega
    have hF9 : Fr (MB m (.slice VA ms.length vc)) w6 w9 := ((Fr.refl _ w6).alloc _).trans (Fr.of_grown hg) (fun k _ e => .inr (hrow k e))
    have hB9 : Blk w9 m [.slice VA ms.length vc, .bool true] 208 := (hM6.blk.alloc _).fr (Fr.of_grown hg) (fun e => hne (hrow m e))
    have hFE : Fr (MB m (.slice VA ms.length vc)) w6 (w9.setCell ⟨m, 0, none⟩ (.slice (some ⟨g, 0, none⟩) (ms.length + 1) cap)) := hF9.setCell (p := ⟨m, 0, none⟩) (.inl (.inl rfl)) _
    refine ⟨hB9, .slice (some ⟨g, 0, none⟩) (ms.length + 1) cap, A6, c6, ⟨hB9.set 0 _, hM6.lo, ?_, ?_, ?_, ?_, ?_, ?_⟩, ?_, ?_⟩
    · have h := own_fr hown9 ((Fr.refl (One m) w9).setCell (p := ⟨m, 0, none⟩) (.inl rfl) (.slice (some ⟨g, 0, none⟩) (ms.length + 1) cap)) (fun k e h => by cases e; exact hgm h)
      rw [List.length_append]
      simpa [oneC, OneM.cells] using h
    · intro e
      exact hgm (by cases e; rfl)
    · rintro k (rfl | h)
      · exact .inl ⟨hM6.mine _ (.inl rfl), HM.out.blk.lt⟩
      · exact .inr h
    · intro x hx
      rcases List.mem_append.1 hx with hx | hx
      · have h := ((hM6.rows x hx).bound).fr hFE (fun k _ h => .inl (hM6.mine k h))
        refine h.mono (fun k hk => ?_)
        rcases hk with hk | hk
        · exact .inl hk.1
        · have hk' : g = k := by cases hk; rfl
          subst hk'
          rcases hgw with h | h
          · exact .inl (hM6.mine _ (.inr h))
          · exact .inr (by omega)
      · rw [List.mem_singleton.1 hx]
        intro hne6
        have h6lt := hR6
        obtain ⟨ad, e6, hn6, hc6⟩ := hR6 hne6
        subst e6
        have hlt6 := Rd.lt h6lt hne6
        have hold : ∀ k, MB m (.slice VA ms.length vc) k → k < wd.heap.size := fun k hk => by
          rcases hk with rfl | h
          · exact HMD.out.blk.lt
          · exact (World.ownsRow.lt HMD.out.own k h).2
        have hnm : ¬ MB m (.slice VA ms.length vc) ad.block := fun h => hn6 (hold _ h)
        refine ⟨ad, rfl, fun hk => ?_, fun j u hu => ?_⟩
        · rcases hk with hk | hk
          · omega
          · have hk' : g = ad.block := by cases hk; rfl
            rcases hgw with h | h
            · exact hnm (.inr (by rw [h, hk']))
            · omega
        · exact (hFE.cell (p := ad.add j) (by rw [add_block]; exact hlt6) (by rw [add_block]; exact hnm)).trans (hc6 j u hu)
    · intro x hx
      rcases List.mem_append.1 hx with hx | hx
      · exact hM6.right x hx
      · rw [List.mem_singleton.1 hx]; exact HX.out
    · intro x hx
      rw [List.length_append, List.length_singleton]
      rcases List.mem_append.1 hx with hx | hx
      · have := HM.out.mirs x hx
        omega
      · rw [List.mem_singleton.1 hx]; show (-1 : Int) < _; omega
    · exact (HFD.out.any.trans hF6 (fun _ _ h => h.elim)).trans hFE (fun _ _ h => h)
    · rcases hgw with h | h
      · exact .inl h.symm
      · exact .inr ⟨g, rfl, by omega⟩
  refine take_by (i := 0) (v := .pointer (some ⟨m, 0, none⟩)) rfl trivial ?_
  refine take_by (i := 1) (v := .pointer (some ⟨m, 0, none⟩)) rfl trivial ?_
  refine take_by (i := 2) (v := .pointer (some ⟨m, 0, none⟩)) rfl trivial ?_
  refine take_by (i := 3) (v := .pointer (some ⟨m, 0, none⟩)) rfl trivial ?_
  refine take_by (i := 5) (v := .slice A xs.length c) rfl trivial ?_
  refine ready2 4 6 rfl rfl (fun K hK => ?_) (fun K hK => ?_)
  · have dX := HMD.out.blk.cell 0
    simp only [List.getElem?_cons_zero] at dX
    go_simp
    clear dX
    refine hK.out _ _ trivial (fun _ => ?_)
    clear hK K
    refine ready1 6 rfl (fun K hK => ?_)
    refine step_append_rngs _ M rfl _ _ rfl rfl A c xs rfl (HRD.out) (by omega) ?_
    intro A6 c6 w6 hF6 hR6
    have HF6 := Lib.hid hF6
    have HR6 := Lib.hid hR6
    clear hF6 hR6
    refine hK.out _ _ trivial (fun _ => ?_)
    clear hK K
    try simp only [List.getElem_toArray, List.getElem_cons_succ, List.getElem_cons_zero, Act.put, List.setIfInBounds_toArray, List.set_cons_zero, List.set_cons_succ]
    refine take_by (i := 7) (v := .agg #[.slice A6 xs.length c6, .int .i64 (-1)]) rfl trivial ?_
    refine ready1 8 rfl (fun K hK => ?_)
    go_simp
    refine hK.out _ _ trivial (fun _ => ?_)
    clear hK K
    refine ready1 9 rfl (fun K hK => ?_)
    refine step_append_two _ rfl _ _ 206 rfl base 211 i0 _ 2 32 Tryz.underlying206 hi hz0 hz1 hz2 rfl (by decide) (.slice VA ms.length vc) ms.length _ rfl ((HMD.out.fr0 HF6.out).own.alloc _) ⟨w6.heap.size, 0, none⟩ 1 1 [.slice A6 xs.length c6, .int .i64 (-1)] rfl rfl (fun j u hu => by rw [add_lit]; exact ((Blk.new w6 [.slice A6 xs.length c6, .int .i64 (-1)] 211).cell j).trans hu) (by simp [Value.oneCell']) (by omega) (by simp only [maxLen]; omega) (by omega) (by have := HMD.out.lo; have := HMD.out.blk.lt; have := HF6.out.size; simp; omega) ?_
    intro g cap w9 hown9 htwo
    obtain ⟨hB9, hEND⟩ := FIN.out w6 A6 c6 HF6.out HR6.out g cap w9 hown9 htwo
    have HEND := Lib.hid hEND
    clear hEND hown9 htwo
    refine hK.out _ _ trivial (fun _ => ?_)
    clear hK K
    try simp only [List.getElem_toArray, List.getElem_cons_succ, List.getElem_cons_zero, Act.put, List.setIfInBounds_toArray, List.set_cons_zero, List.set_cons_succ]
    refine take_by (i := 10) (v := .pointer (some ⟨m, 0, none⟩)) rfl trivial ?_
    refine take_by (i := 11) (v := .pointer (some ⟨m, 0, none⟩)) rfl trivial ?_
    try simp only [List.getElem_toArray, List.getElem_cons_succ, List.getElem_cons_zero, Act.put, List.setIfInBounds_toArray, List.set_cons_zero, List.set_cons_succ]
    have da := hB9.cell 0
    have fa := hB9.frozen 0
    have la := hB9.lt
    simp only [List.getElem?_cons_zero] at da
    refine ready1 12 rfl (fun K hK => ?_)
    go_simp
    refine hK.out _ _ trivial (fun _ => ?_)
    clear hK K
    refine done_by ?_
    clear da fa la hB9
    generalize w9.setCell ⟨m, 0, none⟩ (.slice (some ⟨g, 0, none⟩) (ms.length + 1) cap) = wE at HEND ⊢
    go_wp2_with fail
    go_ret
    exact ⟨rfl, HEND.out⟩
  · refine step_append_rngs _ M rfl _ _ rfl rfl A c xs rfl (HRD.out) (by omega) ?_
    intro A6 c6 w6 hF6 hR6
    have HF6 := Lib.hid hF6
    have HR6 := Lib.hid hR6
    clear hF6 hR6
    refine hK.out _ _ trivial (fun _ => ?_)
    clear hK K
    try simp only [List.getElem_toArray, List.getElem_cons_succ, List.getElem_cons_zero, Act.put, List.setIfInBounds_toArray, List.set_cons_zero, List.set_cons_succ]
    refine take_by (i := 7) (v := .agg #[.slice A6 xs.length c6, .int .i64 (-1)]) rfl trivial ?_
    refine ready2 4 8 rfl rfl (fun K hK => ?_) (fun K hK => ?_)
    · have dX := (HMD.out.fr0 HF6.out).blk.cell 0
      simp only [List.getElem?_cons_zero] at dX
      go_simp
      clear dX
      refine hK.out _ _ trivial (fun _ => ?_)
      clear hK K
      refine ready1 8 rfl (fun K hK => ?_)
      go_simp
      refine hK.out _ _ trivial (fun _ => ?_)
      clear hK K
      refine ready1 9 rfl (fun K hK => ?_)
      refine step_append_two _ rfl _ _ 206 rfl base 211 i0 _ 2 32 Tryz.underlying206 hi hz0 hz1 hz2 rfl (by decide) (.slice VA ms.length vc) ms.length _ rfl ((HMD.out.fr0 HF6.out).own.alloc _) ⟨w6.heap.size, 0, none⟩ 1 1 [.slice A6 xs.length c6, .int .i64 (-1)] rfl rfl (fun j u hu => by rw [add_lit]; exact ((Blk.new w6 [.slice A6 xs.length c6, .int .i64 (-1)] 211).cell j).trans hu) (by simp [Value.oneCell']) (by omega) (by simp only [maxLen]; omega) (by omega) (by have := HMD.out.lo; have := HMD.out.blk.lt; have := HF6.out.size; simp; omega) ?_
      intro g cap w9 hown9 htwo
      obtain ⟨hB9, hEND⟩ := FIN.out w6 A6 c6 HF6.out HR6.out g cap w9 hown9 htwo
      have HEND := Lib.hid hEND
      clear hEND hown9 htwo
      refine hK.out _ _ trivial (fun _ => ?_)
      clear hK K
      try simp only [List.getElem_toArray, List.getElem_cons_succ, List.getElem_cons_zero, Act.put, List.setIfInBounds_toArray, List.set_cons_zero, List.set_cons_succ]
      refine take_by (i := 10) (v := .pointer (some ⟨m, 0, none⟩)) rfl trivial ?_
      refine take_by (i := 11) (v := .pointer (some ⟨m, 0, none⟩)) rfl trivial ?_
      try simp only [List.getElem_toArray, List.getElem_cons_succ, List.getElem_cons_zero, Act.put, List.setIfInBounds_toArray, List.set_cons_zero, List.set_cons_succ]
      have da := hB9.cell 0
      have fa := hB9.frozen 0
      have la := hB9.lt
      simp only [List.getElem?_cons_zero] at da
      refine ready1 12 rfl (fun K hK => ?_)
      go_simp
      refine hK.out _ _ trivial (fun _ => ?_)
      clear hK K
      refine done_by ?_
      clear da fa la hB9
      generalize w9.setCell ⟨m, 0, none⟩ (.slice (some ⟨g, 0, none⟩) (ms.length + 1) cap) = wE at HEND ⊢
      go_wp2_with fail
      go_ret
      exact ⟨rfl, HEND.out⟩
    · go_simp
      refine hK.out _ _ trivial (fun _ => ?_)
      clear hK K
      refine ready1 4 rfl (fun K hK => ?_)
      have dX := ((HMD.out.fr0 HF6.out).blk.alloc (.cells #[.slice A6 xs.length c6, .int .i64 (-1)] 211)).cell 0
      simp only [List.getElem?_cons_zero] at dX
      go_simp
      clear dX
      refine hK.out _ _ trivial (fun _ => ?_)
      clear hK K
      refine ready1 9 rfl (fun K hK => ?_)
      refine step_append_two _ rfl _ _ 206 rfl base 211 i0 _ 2 32 Tryz.underlying206 hi hz0 hz1 hz2 rfl (by decide) (.slice VA ms.length vc) ms.length _ rfl ((HMD.out.fr0 HF6.out).own.alloc _) ⟨w6.heap.size, 0, none⟩ 1 1 [.slice A6 xs.length c6, .int .i64 (-1)] rfl rfl (fun j u hu => by rw [add_lit]; exact ((Blk.new w6 [.slice A6 xs.length c6, .int .i64 (-1)] 211).cell j).trans hu) (by simp [Value.oneCell']) (by omega) (by simp only [maxLen]; omega) (by omega) (by have := HMD.out.lo; have := HMD.out.blk.lt; have := HF6.out.size; simp; omega) ?_
      intro g cap w9 hown9 htwo
      obtain ⟨hB9, hEND⟩ := FIN.out w6 A6 c6 HF6.out HR6.out g cap w9 hown9 htwo
      have HEND := Lib.hid hEND
      clear hEND hown9 htwo
      refine hK.out _ _ trivial (fun _ => ?_)
      clear hK K
      try simp only [List.getElem_toArray, List.getElem_cons_succ, List.getElem_cons_zero, Act.put, List.setIfInBounds_toArray, List.set_cons_zero, List.set_cons_succ]
      refine take_by (i := 10) (v := .pointer (some ⟨m, 0, none⟩)) rfl trivial ?_
      refine take_by (i := 11) (v := .pointer (some ⟨m, 0, none⟩)) rfl trivial ?_
      try simp only [List.getElem_toArray, List.getElem_cons_succ, List.getElem_cons_zero, Act.put, List.setIfInBounds_toArray, List.set_cons_zero, List.set_cons_succ]
      have da := hB9.cell 0
      have fa := hB9.frozen 0
      have la := hB9.lt
      simp only [List.getElem?_cons_zero] at da
      refine ready1 12 rfl (fun K hK => ?_)
      go_simp
      refine hK.out _ _ trivial (fun _ => ?_)
      clear hK K
      refine done_by ?_
      clear da fa la hB9
      generalize w9.setCell ⟨m, 0, none⟩ (.slice (some ⟨g, 0, none⟩) (ms.length + 1) cap) = wE at HEND ⊢
      go_wp2_with fail
      go_ret
      exact ⟨rfl, HEND.out⟩
end Go.Proofs.YtldcffonfidbcaaGreatDoor

/- Chapter 8: two maps undo one another: the plain law. -/
namespace Go.Proofs.YtldcffonfidbcaaGreatDoor
open Go.RowKit
end Go.Proofs.YtldcffonfidbcaaGreatDoor
