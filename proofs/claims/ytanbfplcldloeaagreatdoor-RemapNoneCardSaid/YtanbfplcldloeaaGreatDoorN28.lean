/- A part of the proof for chapter 10: Told1, Told2, RebF, OutW, RebI; no conditions. -/
import Derived.Test.YtanbfplcldloeaaGreatDoorN19
import Derived.Test.YtanbfplcldloeaaGreatDoorN25
import Derived.Test.YtanbfplcldloeaaGreatDoorN24
import Derived.Test.YtanbfplcldloeaaGreatDoorN27
import Derived.Test.YtanbfplcldloeaaGreatDoorN20
/- Chapter 10: what Rebase's functions keep of the steps that they are told. -/
namespace Go.Proofs.YtanbfplcldloeaaGreatDoor
open Go.RowKit
theorem right1 (a o n : Int) (ha : 0 ≤ a) (ho : 0 ≤ o) (hn : 0 ≤ n) (h : a + o ≤ 65536) (h2 : n ≤ 65536) : rightP [⟨a, o, n⟩] = true := by
  unfold rightP rightF rightF badR
  simp
  omega
theorem right2 (a o n b p q : Int) (ha : 0 ≤ a) (ho : 0 ≤ o) (hn : 0 ≤ n) (h2 : n ≤ 65536) (hb : a + o ≤ b) (hp : 0 ≤ p) (hq : 0 ≤ q) (h : b + p ≤ 65536) (h3 : q ≤ 65536) : rightP [⟨a, o, n⟩, ⟨b, p, q⟩] = true := by
  unfold rightP rightF rightF rightF badR
  simp
  omega
theorem right_map {s : StepM} (h : stepF s = 0) : rightP (stepmapF s) = true := by
  unfold stepF at h
  split at h
  · simp at h
  · rename_i hlen
    split at h
    · rename_i hk
      rw [Bool.and_eq_true] at hk
      have hk := hk.1
      unfold kindOk at hk
      unfold stepmapF
      split at hk
      · rename_i h0
        rw [if_pos h0]
        simp only [okRep, ok0S, Bool.and_eq_true, decide_eq_true_eq] at hk
        exact right1 _ _ _ (by omega) (by omega) (by omega) (by omega) (by omega)
      · rename_i h0
        rw [if_neg h0]
        split at hk
        · rename_i h1
          rw [if_pos h1]
          simp only [okAro, aroS, ok0S, Bool.and_eq_true, decide_eq_true_eq] at hk
          exact right2 _ _ _ _ _ _ (by omega) (by omega) (by omega) (by omega) (by omega) (by omega) (by omega) (by omega) (by omega)
        · rename_i h1
          rw [if_neg h1]
          rfl
    · simp at h
theorem Rngs.bound {M : Nat → Prop} {w : World} {v : Value} {l : List Rng} (h : Rngs M w v l) : Rngs (fun k => M k ∨ w.heap.size ≤ k) w v l := by
  obtain ⟨A, c, rfl, hr⟩ := h
  exact ⟨A, c, rfl, hr.bound⟩
/-- A step's map, undone. -/
def invM (s : StepM) : List Rng := if rightP (invF (stepmapF s)) = true then invF (stepmapF s) else []
/-- What the first function keeps: the maps undone, in a variable of their own. -/
structure J1R (base Xp : Nat) (pre : List StepM) (N : Nat → Prop) (w : World) (v : Value) (vs : List Value) : Prop where
  blk : Blk w Xp [v] 25
  own : w.ownsRow base 34 1 v vs.length vs
  lo : base ≤ Xp
  ne : v.ownBlock ≠ some Xp
  mine : ∀ k, (k = Xp ∨ v.ownBlock = some k) → N k
  lt : ∀ k, N k → k < w.heap.size
  len : vs.length = pre.length
  each : ∀ i (h1 : i < vs.length) (h2 : i < pre.length), Rngs N w vs[i] (invM pre[i])
def J1 (base Xp : Nat) (pre : List StepM) (N : Nat → Prop) (w : World) : Prop := ∃ v vs, J1R base Xp pre N w v vs
theorem J1R.fr0 {base Xp : Nat} {pre : List StepM} {N : Nat → Prop} {w w' : World} {v : Value} {vs : List Value} (h : J1R base Xp pre N w v vs) (hf : Fr Nob w w') : J1R base Xp pre N w' v vs :=
  ⟨h.blk.fr hf (fun h => h), own_fr h.own hf (fun _ _ h => h), h.lo, h.ne, h.mine, fun k hk => Nat.lt_of_lt_of_le (h.lt k hk) hf.size, h.len, fun i h1 h2 => (h.each i h1 h2).fr0 hf⟩
theorem infoRow : (Tryz.prog.info? 34).map (fun i => (i.zero, i.size, i.bytes)) = some (some (.slice none 0 0), 1, 24) := by kernel_rfl
theorem enter1 (args : Array Value) (w : World) : (callFunc 35 args).run Tryz.prog w = .ok (.enter 35 args) w := by kernel_rfl
theorem enter2 (args : Array Value) (w : World) : (callFunc 39 args).run Tryz.prog w = .ok (.enter 39 args) w := by kernel_rfl
set_option maxRecDepth 100000 in
set_option maxHeartbeats 4000000 in
theorem told1_call (base Xp : Nat) (pre : List StepM) (s : StepM) (N : Nat → Prop) (w : World) (B : Option Addr) (b : Nat) (hJ : J1 base Xp pre N w) (hp : pre.length < 1000) (hs : stepF s = 0) (hx : Rd N w B (tokC s.l)) :
    Calls Tryz.prog 35 #[.agg (s.cells (.slice B s.l.length b)).toArray, .pointer (some ⟨Xp, 0, none⟩)] w fun e w' => e = .returned (.tuple #[]) ∧ ∃ N', J1 base Xp (pre ++ [s]) N' w' ∧ Fr N w w' ∧ ∀ k, N' k → N k ∨ w.heap.size ≤ k := by
  obtain ⟨v, vs, hJ⟩ := hJ
  have HJ := Lib.hid hJ
  have HP := Lib.hid hp
  have HX := Lib.hid hx
  have HS := Lib.hid hs
  have hrm := right_map hs
  have HRM := Lib.hid hrm
  obtain ⟨xn, hxn⟩ : ∃ xn, s.l.length = xn := ⟨_, rfl⟩
  have HXN := Lib.hid hxn
  rw [hxn]
  clear hxn hJ hp hx hs hrm
  obtain ⟨i0, hi, hz0, hz1, hz2⟩ := info_parts infoRow
  simp only [StepM.cells]
  go_enter Tryz.func35, Tryz.ntmps35
  go_upto_region 1 with (fail)
  obtain ⟨W, hW⟩ : ∃ W, w.alloc (.cells #[.int .i64 s.k, .int .i64 s.f, .int .i64 s.t, .int .i64 s.gf, .int .i64 s.gt, .int .i64 s.ins, .slice B xn b, .int .i64 s.m] 24) = W := ⟨_, rfl⟩
  have HF := Lib.hid (show Fr Nob w W by rw [← hW]; exact (Fr.refl _ _).alloc _)
  have HB := Lib.hid (show Blk W w.heap.size [.int .i64 s.k, .int .i64 s.f, .int .i64 s.t, .int .i64 s.gf, .int .i64 s.gt, .int .i64 s.ins, .slice B xn b, .int .i64 s.m] 24 by rw [← hW]; exact Blk.new _ _ _)
  rw [hW]
  clear hW
  have b0 := HB.out.cell 0
  have b1 := HB.out.cell 1
  have b2 := HB.out.cell 2
  have b3 := HB.out.cell 3
  have b4 := HB.out.cell 4
  have b5 := HB.out.cell 5
  have b6 := HB.out.cell 6
  have b7 := HB.out.cell 7
  have hlb := HB.out.lt
  simp only [List.getElem?_cons_zero, List.getElem?_cons_succ] at b0 b1 b2 b3 b4 b5 b6 b7
  go_wp2_with fail
  have hmp := stepmap_any N s B b W (HX.out.fr HF.out (fun _ _ h => h.elim))
  simp only [StepM.cells, HXN.out] at hmp
  refine hmp.mono ?_
  clear hmp b0 b1 b2 b3 b4 b5 b6 b7 hlb
  rintro e w1 ⟨v1, rfl, hv1, hF1⟩
  rw [HS.out, if_pos rfl] at hv1
  rw [HS.out]
  obtain ⟨A1, c1, rfl, hr1⟩ := hv1
  have HR1 := Lib.hid hr1
  have HF1 := Lib.hid (HF.out.same hF1)
  clear hr1 hF1
  go_wp2_with fail
  refine (invert_any _ _ A1 c1 w1 HR1.out HRM.out).mono ?_
  rintro e w2 ⟨v2, rfl, hv2, hF2⟩
  have HV2 := Lib.hid (show Rngs (fun k => k < w1.heap.size) w2 v2 (invM s) from hv2)
  have HF2 := Lib.hid (HF1.out.same hF2)
  have HSZ := Lib.hid HF1.out.size
  clear hv2 hF2
  obtain ⟨A2, c2, rfl, hr2⟩ := HV2.out
  have HR2 := Lib.hid hr2
  clear hr2
  have HJ2 := Lib.hid (HJ.out.fr0 HF2.out)
  have x0 := HJ2.out.blk.cell 0
  have xl := HJ2.out.blk.lt
  simp only [List.getElem?_cons_zero] at x0
  obtain ⟨il, hil⟩ : ∃ il, (invM s).length = il := ⟨_, rfl⟩
  have HIL := Lib.hid hil
  rw [hil]
  rw [hil] at HV2
  clear hil
  obtain ⟨ie, hie⟩ : ∃ ie : Int, (if rightP (invF (stepmapF s)) = true then 0 else 4) = ie := ⟨_, rfl⟩
  rw [hie]
  clear hie
  have FIN : Hid (∀ w3, (w2.alloc (.cells #[.slice A2 il c2] 34)).grownBy w3 v.ownBlock → Blk w3 Xp [v] 25) := fun w3 hg => (HJ2.out.blk.alloc _).fr (Fr.of_grown hg) (fun e => HJ2.out.ne e.symm)
  have K2 : Hid (∀ (j : Nat) (u : Value), [Value.slice A2 il c2][j]? = some u → (w2.alloc (.cells #[.slice A2 il c2] 34)).cell? ((⟨w2.heap.size, 0, none⟩ : Addr).add j) = some u) := fun j u hj => by
    rw [add_lit]
    exact ((Blk.new w2 [.slice A2 il c2] 34).cell j).trans hj
  have K3 : Hid (∀ u ∈ [Value.slice A2 il c2], u.oneCell' = true) := fun u hu => by rw [List.mem_singleton.1 hu]; rfl
  have K4 : Hid (vs.length + 1 ≤ maxLen ∧ (vs.length + 1) * 24 ≤ 140737488355328 ∧ base ≤ (w2.alloc (.cells #[.slice A2 il c2] 34)).heap.size) := by
    have h1 := HP.out
    have h2 := HJ.out.len
    have h3 := HJ2.out.lo
    have h4 := HJ2.out.blk.lt
    refine ⟨by simp only [maxLen]; omega, by omega, by simp; omega⟩
  go_wp2_with (at_builtin; refine wpList_append_lies _ rfl _ _ 25 rfl base 34 i0 _ 1 24 Tryz.underlying25 hi hz0 hz1 hz2 rfl (by decide) v vs.length vs rfl (HJ2.out.own.alloc _) ⟨w2.heap.size, 0, none⟩ 1 1 [.slice A2 il c2] rfl rfl K2.out K3.out (by omega) K4.out.1 K4.out.2.1 K4.out.2.2 _ rfl ?_; intro g cap w3 hown3 hg3 hga hgl; have hX3 := FIN.out w3 hg3; have x1 := hX3.cell 0; have y1 := hX3.frozen 0; have xl1 := hX3.lt; simp only [List.getElem?_cons_zero] at x1)
  have hgX : g ≠ Xp := by
    rintro rfl
    rcases hga with h | h
    · exact HJ2.out.ne h
    · have := HJ2.out.blk.lt; simp at h; omega
  have hgN : v.ownBlock = some g ∨ w2.heap.size < g := by
    rcases hga with h | h
    · exact .inl h
    · right; simp at h; omega
  have HW4 : Hid (Fr (fun k => k = Xp ∨ v.ownBlock = some k) w2 (w3.setCell ⟨Xp, 0, none⟩ (.slice (some ⟨g, 0, none⟩) (vs.length + 1) cap))) :=
    Fr.setCell (M := fun k => k = Xp ∨ v.ownBlock = some k) (p := ⟨Xp, 0, none⟩) (((Fr.refl _ _).alloc _).trans (Fr.of_grown hg3) (fun k _ e => .inr e.symm)) (.inl (.inl rfl)) _
  have hsz4 := HW4.out.size
  have hsz2 := HF2.out.size
  have hb3 := FIN.out w3 hg3
  go_end0
  refine ⟨rfl, fun k => (N k ∧ k < w.heap.size) ∨ k = g, ⟨_, vs ++ [.slice A2 il c2], hb3.set 0 _, ?_, HJ.out.lo, ?_, ?_, ?_, ?_, ?_⟩, ?_, ?_⟩
  · rw [List.length_append, List.length_singleton]
    exact own_fr hown3 ((Fr.refl (One Xp) w3).setCell (p := ⟨Xp, 0, none⟩) (.inl rfl) _) (fun k e h => by cases e; exact hgX h)
  · intro e; cases e; exact hgX rfl
  · rintro k (rfl | h)
    · exact .inl ⟨HJ.out.mine _ (.inl rfl), HJ.out.blk.lt⟩
    · cases h; exact .inr rfl
  · rintro k (⟨_, h⟩ | rfl)
    · omega
    · have : (w3.setCell ⟨Xp, 0, none⟩ (.slice (some ⟨k, 0, none⟩) (vs.length + 1) cap)).heap.size = w3.heap.size := by simp
      omega
  · rw [List.length_append, List.length_append, HJ.out.len]; rfl
  · intro i h1 h2
    by_cases hi : i < vs.length
    · have hi2 : i < pre.length := by rw [← HJ.out.len]; exact hi
      rw [List.getElem_append_left hi, List.getElem_append_left hi2]
      refine (((HJ2.out.each i hi hi2).bound).fr HW4.out (fun k _ h => .inl (HJ2.out.mine k h))).mono ?_
      rintro k (⟨h, _⟩ | rfl)
      · exact .inl h
      · rcases hgN with h | h
        · exact .inl (HJ.out.mine _ (.inr h))
        · exact .inr (by omega)
    · have hie : i = vs.length := by rw [List.length_append, List.length_singleton] at h1; omega
      subst hie
      have hpl : vs.length = pre.length := HJ.out.len
      rw [List.getElem_append_right (Nat.le_refl _), List.getElem_append_right (by omega)]
      simp only [Nat.sub_self, List.getElem_singleton]
      refine ((Rngs.bound ⟨A2, c2, by rw [HIL.out], HR2.out⟩).fr HW4.out (fun k hk h => ?_)).mono ?_
      · refine .inl (Nat.lt_of_lt_of_le ?_ HSZ.out)
        rcases h with rfl | h
        · exact HJ.out.blk.lt
        · exact (World.ownsRow.lt HJ.out.own k h).2
      · rintro k (⟨_, h⟩ | rfl)
        · exact .inl (Nat.lt_of_lt_of_le h HSZ.out)
        · rcases hgN with h | h
          · exact .inl (Nat.lt_of_lt_of_le (World.ownsRow.lt HJ.out.own _ h).2 HSZ.out)
          · exact .inr (by omega)
  · exact HF2.out.any.trans HW4.out (fun k _ h => HJ.out.mine k h)
  · rintro k (⟨h, _⟩ | rfl)
    · exact .inl h
    · rcases hgN with h | h
      · exact .inl (HJ.out.mine _ (.inr h))
      · exact .inr (by omega)
end Go.Proofs.YtanbfplcldloeaaGreatDoor

/- Chapter 10: the function that adds each step's map. -/
namespace Go.Proofs.YtanbfplcldloeaaGreatDoor
open Go.RowKit
/-- A map without its place in memory. -/
def OneM.pure (x : OneM) : OneM := ⟨x.l, x.mir, none, 0⟩
def mapM (s : StepM) : OneM := ⟨stepmapF s, -1, none, 0⟩
structure J2R (base Xm m : Nat) (L0 : List OneM) (pre : List StepM) (N : Nat → Prop) (w : World) (v : Value) (ms : List OneM) : Prop where
  mp : Mp N base w m v ms
  box : Blk w Xm [.pointer (some ⟨m, 0, none⟩)] 26
  nbox : ¬ N Xm
  lt : ∀ k, N k → k < w.heap.size
  sh : ms.map OneM.pure = L0 ++ pre.map mapM
def J2 (base Xm m : Nat) (L0 : List OneM) (pre : List StepM) (N : Nat → Prop) (w : World) : Prop := ∃ v ms, J2R base Xm m L0 pre N w v ms
theorem J2R.fr0 {base Xm m : Nat} {L0 : List OneM} {pre : List StepM} {N : Nat → Prop} {w w' : World} {v : Value} {ms : List OneM} (h : J2R base Xm m L0 pre N w v ms) (hf : Fr Nob w w') : J2R base Xm m L0 pre N w' v ms :=
  ⟨h.mp.fr0 hf, h.box.fr hf (fun h => h), h.nbox, fun k hk => Nat.lt_of_lt_of_le (h.lt k hk) hf.size, h.sh⟩
theorem J2R.len {base Xm m : Nat} {L0 : List OneM} {pre : List StepM} {N : Nat → Prop} {w : World} {v : Value} {ms : List OneM} (h : J2R base Xm m L0 pre N w v ms) : ms.length = L0.length + pre.length := by
  have := congrArg List.length h.sh
  simpa using this
set_option maxRecDepth 100000 in
set_option maxHeartbeats 4000000 in
theorem told2_one (base Xm m : Nat) (L0 : List OneM) (pre : List StepM) (s : StepM) (N : Nat → Prop) (w : World) (B : Option Addr) (b : Nat) (v : Value) (ms : List OneM) (hJ : J2R base Xm m L0 pre N w v ms) (hp : L0.length + pre.length < 4096) (hs : stepF s = 0) (hx : Rd N w B (tokC s.l)) :
    Calls Tryz.prog 39 #[.agg (s.cells (.slice B s.l.length b)).toArray, .pointer (some ⟨Xm, 0, none⟩)] w fun e w' => e = .returned (.tuple #[]) ∧ ∃ N' v' ms', J2R base Xm m L0 (pre ++ [s]) N' w' v' ms' ∧ Fr (MB m v) w w' ∧ (∀ k, N' k → N k ∨ w.heap.size ≤ k) ∧ (∀ k, N k → N' k) ∧ (∀ k, MB m v' k → MB m v k ∨ w.heap.size ≤ k) := by
  have hlen := hJ.len
  have HJ := Lib.hid hJ
  have HP := Lib.hid (show ms.length < 4096 by omega)
  have HX := Lib.hid hx
  have HS := Lib.hid hs
  have hrm := right_map hs
  have HRM := Lib.hid hrm
  obtain ⟨xn, hxn⟩ : ∃ xn, s.l.length = xn := ⟨_, rfl⟩
  have HXN := Lib.hid hxn
  rw [hxn]
  clear hxn hJ hp hx hs hrm hlen
  simp only [StepM.cells]
  go_enter Tryz.func39, Tryz.ntmps39
  go_upto_region 1 with (fail)
  obtain ⟨W, hW⟩ : ∃ W, w.alloc (.cells #[.int .i64 s.k, .int .i64 s.f, .int .i64 s.t, .int .i64 s.gf, .int .i64 s.gt, .int .i64 s.ins, .slice B xn b, .int .i64 s.m] 24) = W := ⟨_, rfl⟩
  have HF := Lib.hid (show Fr Nob w W by rw [← hW]; exact (Fr.refl _ _).alloc _)
  have HB := Lib.hid (show Blk W w.heap.size [.int .i64 s.k, .int .i64 s.f, .int .i64 s.t, .int .i64 s.gf, .int .i64 s.gt, .int .i64 s.ins, .slice B xn b, .int .i64 s.m] 24 by rw [← hW]; exact Blk.new _ _ _)
  rw [hW]
  clear hW
  have b0 := HB.out.cell 0
  have b1 := HB.out.cell 1
  have b2 := HB.out.cell 2
  have b3 := HB.out.cell 3
  have b4 := HB.out.cell 4
  have b5 := HB.out.cell 5
  have b6 := HB.out.cell 6
  have b7 := HB.out.cell 7
  have hlb := HB.out.lt
  simp only [List.getElem?_cons_zero, List.getElem?_cons_succ] at b0 b1 b2 b3 b4 b5 b6 b7
  go_wp2_with fail
  have hmp := stepmap_any N s B b W (HX.out.fr HF.out (fun _ _ h => h.elim))
  simp only [StepM.cells, HXN.out] at hmp
  refine hmp.mono ?_
  clear hmp b0 b1 b2 b3 b4 b5 b6 b7 hlb
  rintro e w1 ⟨v1, rfl, hv1, hF1⟩
  rw [HS.out, if_pos rfl] at hv1
  rw [HS.out]
  obtain ⟨A1, c1, rfl, hr1⟩ := hv1
  have HR1 := Lib.hid hr1
  have HF1 := Lib.hid (HF.out.same hF1)
  have HSZ := Lib.hid HF.out.size
  clear hr1 hF1
  have HJ1 := Lib.hid (HJ.out.fr0 HF1.out)
  have x0 := HJ1.out.box.cell 0
  have xl := HJ1.out.box.lt
  simp only [List.getElem?_cons_zero] at x0
  go_wp2_with fail
  refine (posadd_any N _ base m v ms (stepmapF s) A1 c1 w1 HJ1.out.mp HR1.out HRM.out HP.out).mono ?_
  rintro e w2 ⟨rfl, v', A', c', hM2, hF2, hown⟩
  have HM2 := Lib.hid hM2
  have HF2 := Lib.hid hF2
  have HOW := Lib.hid hown
  clear hM2 hF2 hown x0 xl
  go_wp2_with fail
  go_end0
  have hown0 : ∀ k, v'.ownBlock = some k → v.ownBlock = some k ∨ w1.heap.size ≤ k := fun k hk => by
    rcases HOW.out with h | ⟨g, h, hg⟩
    · exact .inl (by rw [← h]; exact hk)
    · rw [hk] at h; cases h; exact .inr hg
  have hown : ∀ k, v'.ownBlock = some k → N k ∨ w1.heap.size ≤ k := fun k hk => by
    rcases hown0 k hk with h | h
    · exact .inl (HJ.out.mp.mine _ (.inr h))
    · exact .inr h
  have hs1 := HF1.out.size
  have hxl := HJ.out.box.lt
  refine ⟨rfl, _, v', _, ⟨HM2.out, HJ1.out.box.fr HF2.out (fun h => HJ.out.nbox (HJ.out.mp.mine _ h)), ?_, ?_, ?_⟩, ?_, ?_, ?_, ?_⟩
  · rintro (⟨h, _⟩ | h)
    · exact HJ.out.nbox h
    · rcases hown _ h with h | h
      · exact HJ.out.nbox h
      · omega
  · rintro k (⟨_, h⟩ | h)
    · exact Nat.lt_of_lt_of_le h HF2.out.size
    · exact (World.ownsRow.lt HM2.out.own k h).2
  · rw [List.map_append, HJ.out.sh, List.map_append, List.append_assoc]
    rfl
  · exact HF1.out.any.trans HF2.out (fun k _ h => h)
  · rintro k (⟨h, _⟩ | h)
    · exact .inl h
    · rcases hown _ h with h | h
      · exact .inl h
      · exact .inr (by omega)
  · intro k hk
    have := HJ.out.lt k hk
    exact .inl ⟨hk, by omega⟩
  · rintro k (rfl | h)
    · exact .inl (.inl rfl)
    · rcases hown0 _ h with h | h
      · exact .inl (.inr h)
      · exact .inr (by omega)
theorem told2_call (base Xm m mm : Nat) (L0 : List OneM) (hmm : L0.length + mm ≤ 4096) (pre : List StepM) (s : StepM) (N : Nat → Prop) (w : World) (B : Option Addr) (b : Nat) (hJ : J2 base Xm m L0 pre N w) (hp : pre.length < mm) (hs : stepF s = 0) (hx : Rd N w B (tokC s.l)) :
    Calls Tryz.prog 39 #[.agg (s.cells (.slice B s.l.length b)).toArray, .pointer (some ⟨Xm, 0, none⟩)] w fun e w' => e = .returned (.tuple #[]) ∧ ∃ N', J2 base Xm m L0 (pre ++ [s]) N' w' ∧ Fr N w w' ∧ ∀ k, N' k → N k ∨ w.heap.size ≤ k := by
  obtain ⟨v, ms, hJ⟩ := hJ
  refine (told2_one base Xm m L0 pre s N w B b v ms hJ (by omega) hs hx).mono ?_
  rintro e w' ⟨he, N', v', ms', h1, h2, h3, _, _⟩
  exact ⟨he, N', ⟨v', ms', h1⟩, h2.mono (fun k _ h => hJ.mp.mine k h), h3⟩
theorem told1 (base Xp : Nat) : Told 35 #[.pointer (some ⟨Xp, 0, none⟩)] 1000 (J1 base Xp) where
  enter := enter1
  still := fun _ _ _ _ ⟨v, vs, h⟩ hf => ⟨v, vs, h.fr0 hf⟩
  lt := fun _ _ _ ⟨_, _, h⟩ => h.lt
  call := fun pre s N w B b hJ hp hs hx => told1_call base Xp pre s N w B b hJ hp hs hx
theorem told2 (base Xm m mm : Nat) (L0 : List OneM) (hmm : L0.length + mm ≤ 4096) : Told 39 #[.pointer (some ⟨Xm, 0, none⟩)] mm (J2 base Xm m L0) where
  enter := enter2
  still := fun _ _ _ _ ⟨v, ms, h⟩ hf => ⟨v, ms, h.fr0 hf⟩
  lt := fun _ _ _ ⟨_, _, h⟩ => h.lt
  call := fun pre s N w B b hJ hp hs hx => told2_call base Xm m mm L0 hmm pre s N w B b hJ hp hs hx
end Go.Proofs.YtanbfplcldloeaaGreatDoor

/- Chapter 10: steps behind others, as a plain function. -/
namespace Go.Proofs.YtanbfplcldloeaaGreatDoor
open Go.RowKit
theorem OneM.pure_l (x : OneM) : x.pure.l = x.l := rfl
theorem OneM.pure_mir (x : OneM) : x.pure.mir = x.mir := rfl
theorem lAt_pure (ms : List OneM) (j : Int) : lAt (ms.map OneM.pure) j = lAt ms j := by
  unfold lAt
  rw [List.getElem?_map, Option.map_map]
  rfl
theorem mpGo_pure (ms : List OneM) (side : Int) : ∀ (fu i : Nat) (a : Int) (g : Bool), mpGo (ms.map OneM.pure) side fu i a g = mpGo ms side fu i a g
  | 0, _, _, _ => rfl
  | fu + 1, i, a, g => by
    rw [mpGo, mpGo, List.getElem?_map]
    cases ms[i]? with
    | none => rfl
    | some x =>
      simp only [Option.map_some, OneM.pure_l, OneM.pure_mir, lAt_pure, mpGo_pure ms side fu]
theorem mapsF_pure (ms : List OneM) (st p side : Int) : mapsF (ms.map OneM.pure) st p side = mapsF ms st p side := by
  unfold mapsF
  rw [List.length_map, mpGo_pure]
theorem stepThru_pure (ms : List OneM) (fr : Int) (s : StepM) : stepThru (ms.map OneM.pure) fr s = stepThru ms fr s := by
  unfold stepThru
  simp only [mapsF_pure]
theorem stepThru_l {ms : List OneM} {fr : Int} {s x : StepM} (h : stepThru ms fr s = some x) : x.l = s.l ∧ stepF x = 0 := by
  have key : ∀ r : StepM × Bool, r.1.l = s.l → (if r.2 = true ∧ stepF r.1 = 0 then some r.1 else none) = some x → x.l = s.l ∧ stepF x = 0 := fun r hl h => by
    split at h
    · rename_i hh
      cases h
      exact ⟨hl, hh.2⟩
    · cases h
  unfold stepThru at h
  split at h
  · cases h
  · refine key _ ?_ h
    split
    · rfl
    · split <;> rfl
theorem mirL_pure (ms : List OneM) (i j : Nat) : (mirL ms i j).map OneM.pure = mirL (ms.map OneM.pure) i j := by
  have h1 : ∀ (l : List OneM) (k : Nat) (u : Int), (l.modify k fun x => { x with mir := u }).map OneM.pure = (l.map OneM.pure).modify k fun x => { x with mir := u } := by
    intro l k u
    induction l generalizing k with
    | nil => cases k <;> rfl
    | cons x l ih => cases k with
      | zero => rfl
      | succ k => simp only [List.modify_succ_cons, List.map_cons, ih]
  unfold mirL
  rw [h1, h1]
/-- A map undone, as a mapping holds it. -/
def undoM (s : StepM) : OneM := ⟨invM s, -1, none, 0⟩
theorem right_inv (s : StepM) : rightP (invM s) = true := by
  unfold invM
  split
  · assumption
  · rfl
/-- What Rebase hands back. -/
structure RebM where
  doc : List Tok
  steps : List StepM
  kept : List Nat
/-- The own steps, one by one, behind what has been added; n: how many own steps there are. -/
def rbGo (rs : List RuleM) (g : List Grp) (n : Nat) : List StepM → Nat → List OneM → RebM → RebM
  | [], _, _, r => r
  | s :: rest, i, ms, r =>
    match stepThru ms ((n : Int) - i) s with
    | none => rbGo rs g n rest (i + 1) ms r
    | some x =>
      if doE rs g x r.doc = 0 then rbGo rs g n rest (i + 1) (mirL (ms ++ [mapM x]) (n - 1 - i) ms.length) ⟨doF x r.doc, r.steps ++ [x], r.kept ++ [i]⟩
      else rbGo rs g n rest (i + 1) ms r
def rebaseF (rs : List RuleM) (g : List Grp) (base : List Tok) (own over : List StepM) : RebM × Int :=
  if (checkF rs g base).2 ≠ 0 then (⟨[], [], []⟩, (checkF rs g base).2)
  else if 1000 < max own.length over.length then (⟨[], [], []⟩, 2)
  else if (runF rs g own base).2 ≠ 0 then (⟨[], [], []⟩, numF (runF rs g own base).2)
  else if (runF rs g over base).2 ≠ 0 then (⟨[], [], []⟩, numF (runF rs g over base).2)
  else (rbGo rs g own.length own 0 ((own.map undoM).reverse ++ over.map mapM) ⟨(runF rs g over base).1, [], []⟩, 0)
end Go.Proofs.YtanbfplcldloeaaGreatDoor

/- Chapter 10: what Rebase gathers, while two rows grow. -/
namespace Go.Proofs.YtanbfplcldloeaaGreatDoor
open Go.RowKit
structure OutC (Xo Bx : Nat) (sv kv : Value) (wd : World) : Prop where
  cs : ∀ k, sv.ownBlock = some k → k < wd.heap.size ∧ k ≠ Xo ∧ k ≠ Bx ∧ kv.ownBlock ≠ some k
  ck : ∀ k, kv.ownBlock = some k → k < wd.heap.size ∧ k ≠ Xo ∧ k ≠ Bx
structure OutRW (base Xo Bx : Nat) (xc : List Value) (dv sv kv : Value) (wd W : World) (sv' kv' : Value) (ns nk : Nat) (sc kc : List Value) : Prop where
  fw : Fr (fun k => sv.ownBlock = some k ∨ kv.ownBlock = some k) wd W
  xo : Blk W Xo [dv, sv, kv] 46
  bx : Blk W Bx xc 24
  so : W.ownsRow base 24 8 sv' ns sc
  ko : W.ownsRow base 3 1 kv' nk kc
  s1 : ∀ k, sv'.ownBlock = some k → sv.ownBlock = some k ∨ wd.heap.size ≤ k
  k1 : ∀ k, kv'.ownBlock = some k → kv.ownBlock = some k ∨ wd.heap.size ≤ k
  sk : ∀ k, sv'.ownBlock = some k → kv'.ownBlock ≠ some k
def Tmp (wd W : World) (g : Nat) (cs : List Value) (t : TypeId) : Prop := Blk W g cs t ∧ wd.heap.size ≤ g
variable {base Xo Bx : Nat} {xc : List Value} {dv sv kv : Value} {wd W w' : World} {sv' kv' : Value} {ns nk : Nat} {sc kc : List Value}
theorem Tmp.alloc {g : Nat} {cs : List Value} {t : TypeId} (h : Tmp wd W g cs t) (o : Obj) : Tmp wd (W.alloc o) g cs t := ⟨h.1.alloc o, h.2⟩
theorem Tmp.new (hs : wd.heap.size ≤ W.heap.size) (cs : List Value) (t : TypeId) : Tmp wd (W.alloc (.cells cs.toArray t)) W.heap.size cs t := ⟨Blk.new _ _ _, hs⟩
theorem OutRW.alloc (h : OutRW base Xo Bx xc dv sv kv wd W sv' kv' ns nk sc kc) (o : Obj) : OutRW base Xo Bx xc dv sv kv wd (W.alloc o) sv' kv' ns nk sc kc :=
  ⟨h.fw.alloc o, h.xo.alloc o, h.bx.alloc o, h.so.alloc o, h.ko.alloc o, h.s1, h.k1, h.sk⟩
/-- What an append leaves: the row that has turned, if any, is v's own. -/
theorem two_row {v : Value} {g n m : Nat} (h : (W.grownBy w' none ∧ W.heap.size ≤ g) ∨ (∃ cap0, v = .slice (some ⟨g, 0, none⟩) n cap0 ∧ n + m ≤ cap0 ∧ W.grownBy w' (some g))) : Fr (fun k => v.ownBlock = some k) W w' ∧ (v.ownBlock = some g ∨ W.heap.size ≤ g) := by
  rcases h with ⟨h, hg⟩ | ⟨cap0, rfl, _, h⟩
  · exact ⟨(Fr.of_grown h).mono (fun k _ e => by cases e), .inr hg⟩
  · exact ⟨(Fr.of_grown h).mono (fun k _ e => by cases e; rfl), .inl rfl⟩
theorem Tmp.app {g : Nat} {cs : List Value} {t : TypeId} {v : Value} (h : Tmp wd W g cs t) (hv : ∀ k, v.ownBlock = some k → k < wd.heap.size) (hf : Fr (fun k => v.ownBlock = some k) W w') : Tmp wd w' g cs t :=
  ⟨h.1.fr hf (fun e => by have := hv _ e; have := h.2; omega), h.2⟩
theorem OutRW.apps (h : OutRW base Xo Bx xc dv sv kv wd W sv kv' ns nk sc kc) (c : OutC Xo Bx sv kv wd) {g cap m : Nat} {news : List Value} (hown : w'.ownsRow base 24 8 (.slice (some ⟨g, 0, none⟩) (ns + m) cap) (ns + m) (sc ++ news))
    (hf : Fr (fun k => sv.ownBlock = some k) W w') (hg : sv.ownBlock = some g ∨ W.heap.size ≤ g) : OutRW base Xo Bx xc dv sv kv wd w' (.slice (some ⟨g, 0, none⟩) (ns + m) cap) kv' (ns + m) nk (sc ++ news) kc :=
  have hkk : ∀ k, kv'.ownBlock = some k → sv.ownBlock ≠ some k := fun k hk hs => h.sk k hs hk
  ⟨h.fw.trans hf (fun k _ e => .inl e), h.xo.fr hf (fun e => (c.cs _ e).2.1 rfl), h.bx.fr hf (fun e => (c.cs _ e).2.2.1 rfl), hown, own_fr h.ko hf (fun k e => hkk k e),
    fun k e => by
      have e' : g = k := by cases e; rfl
      subst e'
      rcases hg with h1 | h1
      · exact .inl h1
      · exact .inr (Nat.le_trans h.fw.size h1), h.k1, fun k e e2 => by
      have e' : g = k := by cases e; rfl
      subst e'
      rcases hg with h1 | h1
      · exact h.sk _ h1 e2
      · have := (World.ownsRow.lt h.ko _ e2).2; omega⟩
theorem OutRW.appk (h : OutRW base Xo Bx xc dv sv kv wd W sv' kv ns nk sc kc) (c : OutC Xo Bx sv kv wd) {g cap m : Nat} {news : List Value} (hown : w'.ownsRow base 3 1 (.slice (some ⟨g, 0, none⟩) (nk + m) cap) (nk + m) (kc ++ news))
    (hf : Fr (fun k => kv.ownBlock = some k) W w') (hg : kv.ownBlock = some g ∨ W.heap.size ≤ g) : OutRW base Xo Bx xc dv sv kv wd w' sv' (.slice (some ⟨g, 0, none⟩) (nk + m) cap) ns (nk + m) sc (kc ++ news) :=
  ⟨h.fw.trans hf (fun k _ e => .inr e), h.xo.fr hf (fun e => (c.ck _ e).2.1 rfl), h.bx.fr hf (fun e => (c.ck _ e).2.2 rfl), own_fr h.so hf (fun k e e2 => h.sk k e e2), hown, h.s1,
    fun k e => by
      have e' : g = k := by cases e; rfl
      subst e'
      rcases hg with h1 | h1
      · exact .inl h1
      · exact .inr (Nat.le_trans h.fw.size h1), fun k e e2 => by
      have e' : g = k := by cases e2; rfl
      subst e'
      rcases hg with h1 | h1
      · exact h.sk _ e h1
      · have := (World.ownsRow.lt h.so _ e).2; omega⟩
theorem OutRW.S (h : OutRW base Xo Bx xc dv sv kv wd W sv' kv' ns nk sc kc) : W.cell? ⟨Xo, 1, none⟩ = some sv ∧ W.cell? ⟨Xo, 2, none⟩ = some kv ∧ ∀ i, W.cell? ⟨Bx, i, none⟩ = xc[i]? := ⟨h.xo.cell 1, h.xo.cell 2, fun i => h.bx.cell i⟩
theorem OutRW.drewn (h : OutRW base Xo Bx xc dv sv kv W W sv kv ns nk sc kc) : OutRW base Xo Bx xc dv sv kv W.drew W.drew sv kv ns nk sc kc :=
  have hf : Fr Nob W W.drew := (Fr.refl Nob W).drew
  ⟨Fr.refl _ _, h.xo.fr hf (fun h => h), h.bx.fr hf (fun h => h), own_fr h.so hf (fun _ _ h => h), own_fr h.ko hf (fun _ _ h => h), fun _ e => .inl e, fun _ e => .inl e, h.sk⟩
theorem OutC.drewn (h : OutC Xo Bx sv kv W) : OutC Xo Bx sv kv W.drew :=
  have hs : W.drew.heap.size = W.heap.size := by simp
  ⟨fun k e => by rw [hs]; exact h.cs k e, fun k e => by rw [hs]; exact h.ck k e⟩
end Go.Proofs.YtanbfplcldloeaaGreatDoor

/- Chapter 10: steps behind others: what the last loop keeps. -/
namespace Go.Proofs.YtanbfplcldloeaaGreatDoor
open Go.RowKit
/-- What Rebase hands back, as memory holds it. -/
structure RebV (M : Nat → Prop) (w : World) (dv sv kv : Value) (r : RebM) : Prop where
  doc : Doc M w dv r.doc
  steps : ∃ SA sc L, sv = .slice SA L.length sc ∧ StepsM M w SA L ∧ L.map StepA.s = r.steps
  kept : ∃ KA kc, kv = .slice KA r.kept.length kc ∧ Rd M w KA (r.kept.map fun (k : Nat) => .int .i64 (k : Int))
theorem RebV.empty (M : Nat → Prop) (w : World) : RebV M w (.slice none 0 0) (.slice none 0 0) (.slice none 0 0) ⟨[], [], []⟩ :=
  ⟨⟨none, 0, rfl, Nat.le_refl _, Rd.nil _ _ _⟩, ⟨none, 0, [], rfl, ⟨Rd.nil _ _ _, fun _ h => (by cases h), fun _ h => (by cases h)⟩, rfl⟩, ⟨none, 0, rfl, Rd.nil _ _ _⟩⟩
theorem store3 {W : World} {g : Nat} {t : TypeId} {x0 x1 x2 : Value} (hg : Blk W g [x0, x1, x2] t) (a b c : Value) :
    ∀ WE, ((W.setCell ⟨g, 0, none⟩ a).setCell ⟨g, 1, none⟩ b).setCell ⟨g, 2, none⟩ c = WE → Blk WE g [a, b, c] t ∧ Fr (One g) W WE := by
  rintro WE rfl
  exact ⟨((hg.set 0 a).set 1 b).set 2 c, (((Fr.refl (One g) W).setCell (p := ⟨g, 0, none⟩) (.inl rfl) a).setCell (p := ⟨g, 1, none⟩) (.inl rfl) b).setCell (p := ⟨g, 2, none⟩) (.inl rfl) c⟩
theorem new_fr {w W WE : World} {g : Nat} (h : Fr Nob w W) (hg : w.heap.size ≤ g) (h2 : Fr (One g) W WE) : Fr Nob w WE := h.trans h2 (fun k hk e => by have : k = g := e; omega)
theorem later_new {M : Nat → Prop} {w : World} {g : Nat} (hg : w.heap.size ≤ g) : Later M w (fun k => k = g) := fun k hk => .inr (by have : k = g := hk; omega)
def bigB (a b : Nat) : Bool := decide (1000 < max a b)
theorem eqNilR2 (E : Int) (w : World) : (binOp .neq 87 (.iface 146 (.agg #[.int .i64 E])) .nilIface).run Tryz.prog w = .ok (.bool true) w := by kernel_rfl
/-- What Rebase has gathered, in a variable of its own. -/
structure OutM (base Xo : Nat) (O : Nat → Prop) (w : World) (dv sv kv : Value) (L : List StepA) (kept : List Nat) : Prop where
  blk : Blk w Xo [dv, sv, kv] 46
  so : w.ownsRow base 24 8 sv L.length (stepC L)
  ko : w.ownsRow base 3 1 kv kept.length (kept.map fun (k : Nat) => Value.int .i64 (k : Int))
  ns : sv.ownBlock ≠ some Xo
  nk : kv.ownBlock ≠ some Xo
  nsk : ∀ k, sv.ownBlock = some k → kv.ownBlock ≠ some k
  mine : ∀ k, (k = Xo ∨ sv.ownBlock = some k ∨ kv.ownBlock = some k) → O k
theorem OutM.fr {base Xo : Nat} {O M' : Nat → Prop} {w w' : World} {dv sv kv : Value} {L : List StepA} {kept : List Nat} (h : OutM base Xo O w dv sv kv L kept) (hf : Fr M' w w') (hM : ∀ k, (k = Xo ∨ sv.ownBlock = some k ∨ kv.ownBlock = some k) → ¬ M' k) : OutM base Xo O w' dv sv kv L kept :=
  ⟨h.blk.fr hf (hM _ (.inl rfl)), own_fr h.so hf (fun k e => hM k (.inr (.inl e))), own_fr h.ko hf (fun k e => hM k (.inr (.inr e))), h.ns, h.nk, h.nsk, h.mine⟩
theorem OutM.fr0 {base Xo : Nat} {O : Nat → Prop} {w w' : World} {dv sv kv : Value} {L : List StepA} {kept : List Nat} (h : OutM base Xo O w dv sv kv L kept) (hf : Fr Nob w w') : OutM base Xo O w' dv sv kv L kept := h.fr hf (fun _ _ h => h)
/-- The last loop: N holds what is its own. -/
structure RbI (M N9 : Nat → Prop) (base m Xo vn : Nat) (own : List StepA) (rs : List RuleM) (g : List Grp) (Rr : RebM) (W9 : World) (i : Nat) (wr : World) (N : Nat → Prop) (Lk : List OneM) (vk : Value) (msk : List OneM) (doc : List Tok) (DA : Option Addr) (dc : Nat) (L : List StepA) (kept : List Nat) (sv kv : Value) : Prop where
  le : i ≤ own.length
  jm : J2R base (m + 1) m Lk [] N wr vk msk
  out : OutM base Xo N wr (.slice DA doc.length dc) sv kv L kept
  dis : ∀ k, MB m vk k → ¬ (k = Xo ∨ sv.ownBlock = some k ∨ kv.ownBlock = some k)
  fw : Fr N9 W9 wr
  lat : Later N9 W9 N
  dcm : Doc (fun k => N k ∨ M k) wr (.slice DA doc.length dc) doc
  docn : doc.length ≤ 9223372036854775807
  got : ∀ x ∈ L, ∃ y ∈ own, x.B = y.B ∧ x.s.l = y.s.l ∧ x.b = y.b
  go : rbGo rs g own.length ((own.drop i).map StepA.s) i Lk ⟨doc, L.map StepA.s, kept⟩ = Rr
  mirs : ∀ j, j + i < own.length → Lk[j]?.map OneM.mir = some (-1)
  len : Lk.length = own.length + vn + L.length
  few : L.length ≤ i
  klen : kept.length = L.length
section
variable {M N9 : Nat → Prop} {base m Xo vn : Nat} {own : List StepA} {rs : List RuleM} {g : List Grp} {Rr : RebM} {W9 : World} {i : Nat} {wr w' : World} {N : Nat → Prop} {Lk : List OneM} {vk : Value} {msk : List OneM} {doc : List Tok} {DA : Option Addr} {dc : Nat} {L : List StepA} {kept : List Nat} {sv kv : Value}
theorem RbI.skip (h : RbI M N9 base m Xo vn own rs g Rr W9 i wr N Lk vk msk doc DA dc L kept sv kv) (hf : Fr Nob wr w') (hi : i < own.length) (hg : rbGo rs g own.length ((own.drop (i + 1)).map StepA.s) (i + 1) Lk ⟨doc, L.map StepA.s, kept⟩ = Rr) : RbI M N9 base m Xo vn own rs g Rr W9 (i + 1) w' N Lk vk msk doc DA dc L kept sv kv :=
  ⟨hi, h.jm.fr0 hf, h.out.fr0 hf, h.dis, h.fw.trans hf (fun _ _ h => h.elim), h.lat, h.dcm.fr0 hf, h.docn, h.got, hg, fun j hj => h.mirs j (by omega), h.len, by have := h.few; omega, h.klen⟩
theorem mir_get {ms l : List OneM} (h : ms.map OneM.pure = l) {j : Nat} (hj : j < ms.length) : l[j]?.map OneM.mir = some ms[j].mir := by
  rw [← h, List.getElem?_map, List.getElem?_eq_getElem hj]
  rfl
theorem mir_last {ms Lk : List OneM} {x : StepM} (h : ms.map OneM.pure = Lk ++ [mapM x]) {j : Nat} (he : Lk.length = j) (hj : j < ms.length) : ms[j].mir < 0 := by
  subst he
  have h1 := mir_get h hj
  rw [List.getElem?_append_right (Nat.le_refl _), Nat.sub_self] at h1
  have h2 : ms[Lk.length].mir = -1 := by
    have h3 : some (-1) = some ms[Lk.length].mir := h1
    injection h3 with h3
    exact h3.symm
  rw [h2]
  decide
theorem mirL_get (l : List OneM) {a b j : Nat} (h1 : j ≠ a) (h2 : j ≠ b) : (mirL l a b)[j]? = l[j]? := by
  unfold mirL
  rw [List.getElem?_modify, List.getElem?_modify]
  simp [Ne.symm h1, Ne.symm h2]
theorem remrun_len {rs : List RuleM} {g : List Grp} : ∀ {L : List StepM} {l r : List Tok}, l.length ≤ 9223372036854775807 → runF rs g L l = (r, 0) → r.length ≤ 9223372036854775807
  | [], _, _, hl, h => by cases h; exact hl
  | s :: L, l, r, hl, h => by
    rw [runF] at h
    split at h
    · rename_i h0
      exact remrun_len (by have := flat_short (applyE_zero (doE_zero h0).1).2.2.2; omega) h
    · rename_i h0
      exact absurd (congrArg Prod.snd h) h0
theorem RbI.outw {xc : List Value} {Bx : Nat} {w5 w6 w7 : World} {v6 : Value} (h : RbI M N9 base m Xo vn own rs g Rr W9 i wr N Lk vk msk doc DA dc L kept sv kv) (h5 : Fr Nob wr w5) (hx : Blk w5 Bx xc 24) (hB : wr.heap.size ≤ Bx)
    (h56 : Fr (MB m vk) w5 w6) (h67 : Fr (MB m v6) w6 w7) (hMB : ∀ k, MB m v6 k → MB m vk k ∨ w5.heap.size ≤ k) :
    OutRW base Xo Bx xc (.slice DA doc.length dc) sv kv w7 w7 sv kv L.length kept.length (stepC L) (kept.map fun (k : Nat) => Value.int .i64 (k : Int)) ∧ OutC Xo Bx sv kv w7 := by
  have hf : Fr (MB m vk) w5 w7 := h56.trans h67 (fun k hk hn => by
    rcases hMB k hn with h1 | h1
    · exact h1
    · omega)
  have hs := h5.size
  have hs7 := hf.size
  have hx7 := hx.fr hf (fun e => by have := h.jm.lt _ (h.jm.mp.mine _ e); omega)
  have ho := (h.out.fr0 h5).fr hf (fun k hk hn => h.dis k hn hk)
  have hlt : ∀ k, (k = Xo ∨ sv.ownBlock = some k ∨ kv.ownBlock = some k) → k < wr.heap.size := fun k hk => h.jm.lt _ (h.out.mine k hk)
  exact ⟨⟨Fr.refl _ _, ho.blk, hx7, ho.so, ho.ko, fun _ e => .inl e, fun _ e => .inl e, h.out.nsk⟩,
    ⟨fun k e => ⟨by have := hlt k (.inr (.inl e)); omega, fun e2 => h.out.ns (e2 ▸ e), by have := hlt k (.inr (.inl e)); omega, h.out.nsk k e⟩,
     fun k e => ⟨by have := hlt k (.inr (.inr e)); omega, fun e2 => h.out.nk (e2 ▸ e), by have := hlt k (.inr (.inr e)); omega⟩⟩⟩
theorem RbI.next {xc : List Value} {Bx : Nat} {w5 w6 w7 W WE : World} {N6 : Nat → Prop} {v6 : Value} {ms7 : List OneM} {s x : StepM} {B : Option Addr} {b gd gs gk cs ck : Nat} {tk : TypeId} (h : RbI M N9 base m Xo vn own rs g Rr W9 i wr N Lk vk msk doc DA dc L kept sv kv)
    (hM : ∀ k, M k → k < wr.heap.size) (hi : i < own.length) (hX : own[i] = ⟨s, B, b⟩) (hTR : stepThru Lk ((own.length : Int) - i) s = some x) (hZ : doE rs g x doc = 0) (hxl : x.l = s.l)
    (h5 : Fr Nob wr w5) (hgd : wr.heap.size ≤ gd) (hbd : Blk w5 gd (tokC (doF x doc)) tk) (h56 : Fr (MB m vk) w5 w6) (h67 : Fr (MB m v6) w6 w7)
    (hN1 : ∀ k, N6 k → N k ∨ w5.heap.size ≤ k) (hN2 : ∀ k, N k → N6 k) (hMB : ∀ k, MB m v6 k → MB m vk k ∨ w5.heap.size ≤ k)
    (hJ7 : J2R base (m + 1) m (mirL (Lk ++ [mapM x]) (own.length - 1 - i) Lk.length) [] N6 w7 v6 ms7)
    (hxc : xc = x.cells (.slice B s.l.length b))
    (hU : OutRW base Xo Bx xc (.slice DA doc.length dc) sv kv w7.drew W (.slice (some ⟨gs, 0, none⟩) (L.length + 1) cs) (.slice (some ⟨gk, 0, none⟩) (kept.length + 1) ck) (L.length + 1) (kept.length + 1) (stepC L ++ xc) ((kept.map fun (k : Nat) => Value.int .i64 (k : Int)) ++ [.int .i64 i]))
    (hWE : ((W.setCell ⟨Xo, 0, none⟩ (.slice (some ⟨gd, 0, none⟩) (doF x doc).length (doF x doc).length)).setCell ⟨Xo, 1, none⟩ (.slice (some ⟨gs, 0, none⟩) (L.length + 1) cs)).setCell ⟨Xo, 2, none⟩ (.slice (some ⟨gk, 0, none⟩) (kept.length + 1) ck) = WE) :
    ∃ N', RbI M N9 base m Xo vn own rs g Rr W9 (i + 1) WE N' (mirL (Lk ++ [mapM x]) (own.length - 1 - i) Lk.length) v6 ms7 (doF x doc) (some ⟨gd, 0, none⟩) (doF x doc).length (L ++ [⟨x, B, b⟩]) (kept ++ [i]) (.slice (some ⟨gs, 0, none⟩) (L.length + 1) cs) (.slice (some ⟨gk, 0, none⟩) (kept.length + 1) ck) := by
  obtain ⟨hbE, hfE⟩ := store3 hU.xo (.slice (some ⟨gd, 0, none⟩) (doF x doc).length (doF x doc).length) (.slice (some ⟨gs, 0, none⟩) (L.length + 1) cs) (.slice (some ⟨gk, 0, none⟩) (kept.length + 1) ck) WE hWE
  have hs5 := h5.size
  have hs6 := h56.size
  have hs67 := h67.size
  have hsd : w7.drew.heap.size = w7.heap.size := by simp
  have hsW := hU.fw.size
  have hsE := hfE.size
  have hown : ∀ k, (k = Xo ∨ sv.ownBlock = some k ∨ kv.ownBlock = some k) → N k ∧ k < wr.heap.size := fun k hk => ⟨h.out.mine k hk, h.jm.lt _ (h.out.mine k hk)⟩
  have hX0 := hown Xo (.inl rfl)
  have hgs : (sv.ownBlock = some gs ∨ w7.heap.size ≤ gs) := by
    have h1 := hU.s1 gs rfl
    rwa [hsd] at h1
  have hgk : (kv.ownBlock = some gk ∨ w7.heap.size ≤ gk) := by
    have h1 := hU.k1 gk rfl
    rwa [hsd] at h1
  have hgsN : N gs ∧ gs < wr.heap.size ∧ gs ≠ Xo ∨ w7.heap.size ≤ gs := by
    rcases hgs with h1 | h1
    · have := hown gs (.inr (.inl h1))
      exact .inl ⟨this.1, this.2, fun e => h.out.ns (e ▸ h1)⟩
    · exact .inr h1
  have hgkN : N gk ∧ gk < wr.heap.size ∧ gk ≠ Xo ∨ w7.heap.size ≤ gk := by
    rcases hgk with h1 | h1
    · have := hown gk (.inr (.inr h1))
      exact .inl ⟨this.1, this.2, fun e => h.out.nk (e ▸ h1)⟩
    · exact .inr h1
  have hgsX : gs ≠ Xo := by
    rcases hgsN with h1 | h1
    · exact h1.2.2
    · omega
  have hgkX : gk ≠ Xo := by
    rcases hgkN with h1 | h1
    · exact h1.2.2
    · omega
  have hf57 : Fr (MB m vk) w5 w7 := h56.trans h67 (fun k hk hn => by
    rcases hMB k hn with h1 | h1
    · exact h1
    · omega)
  have hf7E : Fr (fun k => k = Xo ∨ sv.ownBlock = some k ∨ kv.ownBlock = some k) w7 WE :=
    (((show Fr Nob w7 w7.drew from (Fr.refl Nob w7).drew).any).trans (hU.fw.mono (fun k _ e => .inr e)) (fun _ _ e => e)).trans hfE (fun k _ e => .inl e)
  have hfrE : Fr N wr WE := (h5.any.trans (hf57.mono (fun k _ e => h.jm.mp.mine k e)) (fun _ _ e => e)).trans hf7E (fun k _ e => h.out.mine k e)
  have hMBd : ∀ k, MB m v6 k → ¬ (k = Xo ∨ sv.ownBlock = some k ∨ kv.ownBlock = some k) := fun k hk ho => by
    rcases hMB k hk with h1 | h1
    · exact h.dis k h1 ho
    · have := (hown k ho).2
      omega
  have hMB7 : ∀ k, MB m v6 k → k < w7.heap.size := fun k hk => hJ7.lt k (hJ7.mp.mine k hk)
  have hnew : ∀ k, (N6 k ∨ gs = k ∨ gk = k) → N6 k ∨ w7.heap.size ≤ k := by
    rintro k (h1 | rfl | rfl)
    · exact .inl h1
    · rcases hgsN with h1 | h1
      · exact .inl (hN2 _ h1.1)
      · exact .inr h1
    · rcases hgkN with h1 | h1
      · exact .inl (hN2 _ h1.1)
      · exact .inr h1
  have hnew0 : ∀ k, (N6 k ∨ gs = k ∨ gk = k) → N k ∨ w5.heap.size ≤ k := fun k hk => by
    rcases hnew k hk with h1 | h1
    · exact hN1 k h1
    · exact .inr (by omega)
  have hlen : (mirL (Lk ++ [mapM x]) (own.length - 1 - i) Lk.length).length = Lk.length + 1 := by
    unfold mirL
    simp
  refine ⟨fun k => N6 k ∨ gs = k ∨ gk = k, hi, ⟨?_, ?_, ?_, ?_, hJ7.sh⟩, ⟨hbE, ?_, ?_, ?_, ?_, ?_, ?_⟩, ?_, ?_, ?_, ?_, ?_, ?_, ?_, ?_, ?_, ?_, ?_⟩
  · exact ((hJ7.mp.bound).fr hf7E (fun k hk e => .inl (hN2 k (hown k e).1)) (fun k hk => hMBd k hk)).less hnew (fun k hk => .inl (hJ7.mp.mine k hk))
  · refine hJ7.box.fr hf7E (fun e => ?_)
    exact hJ7.nbox (hN2 _ (hown _ e).1)
  · intro e
    have hb := hJ7.box.lt
    rcases hnew _ e with h1 | h1
    · exact hJ7.nbox h1
    · omega
  · rintro k (h1 | rfl | rfl)
    · have := hJ7.lt k h1
      have := hf7E.size
      omega
    · exact Nat.lt_of_lt_of_le (World.ownsRow.lt hU.so _ rfl).2 hsE
    · exact Nat.lt_of_lt_of_le (World.ownsRow.lt hU.ko _ rfl).2 hsE
  · have h1 := own_fr hU.so hfE (fun k e e2 => by
      have h1 : gs = k := by cases e; rfl
      have h2 : k = Xo := e2
      exact hgsX (h1.trans h2))
    rw [List.length_append]
    have h2 : stepC (L ++ [⟨x, B, b⟩]) = stepC L ++ xc := by
      rw [stepC, List.flatMap_append, hxc]
      simp [StepA.cells, hxl, stepC]
    rw [h2]
    exact h1
  · have h1 := own_fr hU.ko hfE (fun k e e2 => by
      have h1 : gk = k := by cases e; rfl
      have h2 : k = Xo := e2
      exact hgkX (h1.trans h2))
    rw [List.length_append, List.map_append]
    exact h1
  · intro e
    injection e with e
    exact hgsX e
  · intro e
    injection e with e
    exact hgkX e
  · exact hU.sk
  · rintro k (rfl | e | e)
    · exact .inl (hN2 _ hX0.1)
    · exact .inr (.inl (by injection e))
    · exact .inr (.inr (by injection e))
  · rintro k hk (rfl | e | e)
    · exact hMBd _ hk (.inl rfl)
    · have e' : gs = k := by injection e
      subst e'
      rcases hgs with h1 | h1
      · exact hMBd _ hk (.inr (.inl h1))
      · have := hMB7 _ hk; omega
    · have e' : gk = k := by injection e
      subst e'
      rcases hgk with h1 | h1
      · exact hMBd _ hk (.inr (.inr h1))
      · have := hMB7 _ hk; omega
  · exact h.fw.later h.lat hfrE
  · exact h.lat.trans (fun k hk => by
      rcases hnew0 k hk with h1 | h1
      · exact .inl h1
      · exact .inr (by omega)) h.fw.size
  · have hd : Rd (fun k => k ≠ gd) w5 (some ⟨gd, 0, none⟩) (tokC (doF x doc)) := fun _ => ⟨_, rfl, fun e => e rfl, fun j u hu => by rw [add_lit]; exact (hbd.cell j).trans hu⟩
    have hgl := hbd.lt
    have hgN : ¬ N gd := fun e => by have := h.jm.lt _ e; omega
    have hE : Rd (fun k => k ≠ gd) WE (some ⟨gd, 0, none⟩) (tokC (doF x doc)) := (hd.fr hf57 (fun k _ e e2 => hgN (e2 ▸ h.jm.mp.mine k e))).fr hf7E (fun k _ e e2 => hgN (e2 ▸ (hown k e).1))
    refine ⟨_, _, rfl, Nat.le_refl _, hE.mono (fun k hk e => ?_)⟩
    subst e
    rcases hk with hk | hk
    · rcases hnew0 _ hk with h1 | h1
      · exact hgN h1
      · omega
    · have := hM _ hk; omega
  · have h1 := flat_short (applyE_zero (doE_zero hZ).1).2.2.2
    omega
  · intro y hy
    rcases List.mem_append.1 hy with hy | hy
    · exact h.got y hy
    · obtain rfl := List.mem_singleton.1 hy
      exact ⟨own[i], List.getElem_mem _, by rw [hX], by rw [hX]; exact hxl, by rw [hX]⟩
  · have h1 := h.go
    rw [List.drop_eq_getElem_cons hi, List.map_cons, hX, rbGo, hTR] at h1
    simp only [if_pos hZ] at h1
    rw [List.map_append]
    exact h1
  · intro j hj
    rw [mirL_get _ (by omega) (by have := h.len; omega), List.getElem?_append_left (by have := h.len; omega)]
    exact h.mirs j (by omega)
  · rw [hlen, List.length_append, h.len]
    simp
    omega
  · have := h.few
    rw [List.length_append]
    simp
    omega
  · rw [List.length_append, List.length_append, h.klen]
    rfl
/-- The last loop is over: what is handed back. -/
theorem RbI.done {M' : Nat → Prop} {w WE : World} {OA : Option Addr} {t : TypeId} {z0 z1 z2 : Value} (h : RbI M' N9 base m Xo vn own rs g Rr W9 i wr N Lk vk msk doc DA dc L kept sv kv) (hi : ¬ i < own.length) (hb : Blk W9 base [z0, z1, z2] t) (hbase : w.heap.size = base)
    (hM : ∀ k, M k → k < w.heap.size) (hM' : ∀ k, M k ∨ k = base → M' k) (hN9 : ∀ k, N9 k → base < k) (hF9 : Fr Nob w W9) (ho : StepsM M w OA own)
    (hWE : ((wr.setCell ⟨base, 0, none⟩ (.slice DA doc.length dc)).setCell ⟨base, 1, none⟩ sv).setCell ⟨base, 2, none⟩ kv = WE) :
    Blk WE base [.slice DA doc.length dc, sv, kv] t ∧ RebV M WE (.slice DA doc.length dc) sv kv Rr ∧ Fr Nob w WE := by
  subst hbase
  have hn9 : ¬ N9 w.heap.size := fun e => by have := hN9 _ e; omega
  obtain ⟨hbE, hfE⟩ := store3 (hb.fr h.fw hn9) (.slice DA doc.length dc) sv kv WE hWE
  have hbl := hb.lt
  have hNb : ∀ k, N k → w.heap.size < k := fun k hk => by
    rcases h.lat k hk with h1 | h1
    · exact hN9 k h1
    · omega
  have hfr : Fr Nob w wr := hF9.trans h.fw (fun k hk e => by have := hN9 k e; omega)
  have hfrE : Fr Nob w WE := new_fr hfr (Nat.le_refl _) hfE
  have hgo : (⟨doc, L.map StepA.s, kept⟩ : RebM) = Rr := by
    have h1 := h.go
    rw [List.drop_eq_nil_of_le (by omega), List.map_nil, rbGo] at h1
    exact h1
  refine ⟨hbE, ⟨?_, ?_, ?_⟩, hfrE⟩
  · rw [← hgo]
    exact (h.dcm.fr hfE (fun k _ e => .inr (hM' k (.inr e)))).mono (fun k hk => .inr (hM' k (.inl hk)))
  · obtain ⟨SA, sc, rfl, hsc, hsr⟩ := Rd.of_own (M := fun k => M k ∨ k = w.heap.size) h.out.so (fun k e hk => by
      have h1 := hNb k (h.out.mine k (.inr (.inl e)))
      rcases hk with hk | hk
      · have := hM k hk; omega
      · omega)
    refine ⟨SA, sc, L, rfl, ⟨(hsr.fr hfE (fun k _ e => .inr e)).mono (fun k hk => .inl hk), ?_, ?_⟩, by rw [← hgo]⟩
    · intro x hx
      obtain ⟨y, hy, e1, e2, _⟩ := h.got x hx
      rw [e1, e2]
      exact (ho.each y hy).fr hfrE (fun _ _ e => e.elim)
    · intro x hx
      obtain ⟨y, hy, _, e2, e3⟩ := h.got x hx
      rw [e2, e3]
      exact ho.cap y hy
  · obtain ⟨KA, kc, rfl, hkc, hkr⟩ := Rd.of_own (M := fun k => M k ∨ k = w.heap.size) h.out.ko (fun k e hk => by
      have h1 := hNb k (h.out.mine k (.inr (.inr e)))
      rcases hk with hk | hk
      · have := hM k hk; omega
      · omega)
    rw [← hgo]
    exact ⟨KA, kc, rfl, (hkr.fr hfE (fun k _ e => .inr e)).mono (fun k hk => .inl hk)⟩
end
end Go.Proofs.YtanbfplcldloeaaGreatDoor
