/- A part of the proof for chapter 10: RefAdd, RefTok; no conditions. -/
import Derived.Test.YtanbfplcldloeaaGreatDoorS22
import Derived.Test.YtanbfplcldloeaaGreatDoorS26
import Derived.Test.YtanbfplcldloeaaGreatDoorS10
/- Chapter 8: one map more: of a map that may not be; the reference's Add. -/
namespace Go.Proofs.YtanbfplcldloeaaGreatDoor
open Go.RowKit
set_option maxRecDepth 100000 in
theorem posright_big (M : Nat → Prop) (l : List Rng) (A : Option Addr) (c : Nat) (w : World) (hr : Rd M w A (rngC l)) (hl : l.length ≤ 9223372036854775807) :
    Calls Tryz.prog 27 #[.slice A l.length c] w fun e w' => e = .returned (.bool (rightP l)) ∧ Fr Nob w w' := by
  obtain ⟨r, hrr⟩ : ∃ r, rightP l = r := ⟨_, rfl⟩
  rw [hrr]
  have HR0 := Lib.hid hrr
  obtain ⟨q0, hq0⟩ : ∃ q0, rightF l 0 = q0 := ⟨_, rfl⟩
  have HQ0 := Lib.hid hq0
  have HRd := Lib.hid hr
  clear hrr hr hq0
  go_enter Tryz.func27, Tryz.ntmps27
  go_wp2_with fail
  go_loopg [3, 8] (l.length) (fun n la i wr => ∃ (k : Nat) (last : Int), n = l.length - k ∧ k ≤ l.length ∧ la = .int .i64 last ∧ i = .int .i64 k ∧ 0 ≤ last ∧ last ≤ 131072 ∧ Hid (Fr Nob w wr) ∧ Hid (rightF (l.drop k) last = q0))
  case atStart => exact ⟨0, 0, rfl, Nat.zero_le _, rfl, rfl, by omega, by omega, Fr.refl _ _, HQ0.out⟩
  case round =>
    obtain ⟨k, last, rfl, hk, rfl, rfl, hl0, hl1, HF, HC⟩ := hrel
    by_cases hlt : k < l.length
    · have ht : ((k : Int) < (l.length : Int)) := by omega
      obtain ⟨ad, rfl, _, hlb, q0', q⟩ := Rd.elt Rng.cells_len (by omega) (HRd.out.fr HF.out (fun _ _ h => h.elim)) hlt
      have hdr : l.drop k = l[k] :: l.drop (k + 1) := List.drop_eq_getElem_cons hlt
      generalize l[k] = x at q0' q hdr
      have q1 := q 0 (by omega)
      have q2 := q 1 (by omega)
      simp only [Rng.cells, List.getElem?_cons_zero, List.getElem?_cons_succ, Nat.reduceAdd] at q0' q1 q2
      have hcc := HC.out
      rw [hdr, rightF] at hcc
      have HCC := Lib.hid hcc
      have hff : Fr Nob w (wr.alloc (.cells #[.int .i64 x.a, .int .i64 x.o, .int .i64 x.n] 135)) := HF.out.alloc _
      have HFF := Lib.hid hff
      clear q hdr HC hcc hff
      by_cases h1 : x.a < last
      · have HE := Lib.hid (show false = r by rw [← HR0.out, rightP, HQ0.out, ← HCC.out, if_pos ((badR_iff x last).2 (.inl h1))]; rfl)
        go_wp2_with fail
        go_ret
        exact ⟨by rw [← HE.out]; rfl, HFF.out⟩
      · go_wp2_with fail
        all_goals first
          | (have hb : x.a < last ∨ 65536 < x.a ∨ 65536 < x.o ∨ 65536 < x.n ∨ x.o < 0 ∨ x.n < 0 := by omega
             have HE := Lib.hid (show false = r by rw [← HR0.out, rightP, HQ0.out, ← HCC.out, if_pos ((badR_iff x last).2 hb)]; rfl)
             go_ret
             exact ⟨by rw [← HE.out]; rfl, HFF.out⟩)
          | (have hb : ¬ (x.a < last ∨ 65536 < x.a ∨ 65536 < x.o ∨ 65536 < x.n ∨ x.o < 0 ∨ x.n < 0) := by omega
             have hcc := HCC.out
             rw [if_neg (fun h => hb ((badR_iff x last).1 h))] at hcc
             have HE := Lib.hid hcc
             clear hcc
             go_roundg (l.length - (k + 1))
             case measure => omega
             case rel => exact ⟨k + 1, x.a + x.o, rfl, by omega, by first | rfl | go_num, by first | rfl | go_num, by omega, by omega, HFF.out, HE.out⟩)
    · have ht : ¬ ((k : Int) < (l.length : Int)) := by omega
      have hcc := HC.out
      rw [List.drop_eq_nil_of_le (by omega), rightF] at hcc
      have HE := Lib.hid (show decide (l.length ≤ 4) = r by rw [← HR0.out, rightP, HQ0.out, ← hcc]; rfl)
      clear hcc HC
      by_cases h4 : l.length ≤ 4
      · have h4' : ((l.length : Int) ≤ 4) := by omega
        rw [decide_eq_true h4] at HE
        go_wp2_with fail
        go_ret
        exact ⟨by rw [← HE.out]; rfl, HF.out⟩
      · have h4' : ¬ ((l.length : Int) ≤ 4) := by omega
        rw [decide_eq_false h4] at HE
        go_wp2_with fail
        go_ret
        exact ⟨by rw [← HE.out]; rfl, HF.out⟩
set_option maxRecDepth 100000 in
set_option maxHeartbeats 4000000 in
theorem posadd_bad (N M : Nat → Prop) (base m : Nat) (v : Value) (ms : List OneM) (xs : List Rng) (A : Option Addr) (c : Nat) (w : World) (hm : Mp N base w m v ms) (hr : Rd M w A (rngC xs)) (hx : rightP xs = false) (hl : xs.length ≤ 9223372036854775807) :
    Calls Tryz.prog 10 #[.pointer (some ⟨m, 0, none⟩), .slice A xs.length c] w fun e w' => e = .returned (.int .i64 4) ∧ Fr Nob w w' := by
  have HR := Lib.hid hr
  have HX := Lib.hid hx
  have HL := Lib.hid hl
  have HNO := Lib.hid (posnone_any m w (hm.blk.cell 1))
  clear hm hr hx hl
  go_enter Tryz.func10, Tryz.ntmps10
  go_wp2_with fail
  refine HNO.out.mono ?_
  rintro e w ⟨rfl, rfl⟩
  go_wp2_with fail
  refine (posright_big M xs A c w HR.out HL.out).mono ?_
  rintro e w1 ⟨rfl, hF1⟩
  rw [HX.out]
  go_wp2_with fail
  go_ret
  exact ⟨rfl, hF1⟩
theorem infoLaid : (Tryz.prog.info? 76).map (fun i => (i.zero, i.size, i.bytes)) = some (some (.agg #[.slice none 0 0, .int .i64 0]), 2, 32) := by kernel_rfl
set_option maxRecDepth 100000 in
set_option maxHeartbeats 4000000 in
theorem ref8add_bad (N : Nat → Prop) (m : Nat) (xs : List Rng) (A : Option Addr) (c : Nat) (w : World) (hr : Rd N w A (rngC xs)) (hx : rightP xs = false) :
    Calls Tryz.prog 11 #[.pointer (some ⟨m, 0, none⟩), .slice A xs.length c] w fun e w' => e = .returned (.int .i64 4) ∧ Fr Nob w w' := by
  have HR := Lib.hid hr
  have HX := Lib.hid hx
  clear hr hx
  go_enter Tryz.func11, Tryz.ntmps11
  go_wp2_with fail
  refine (ref8right_any N xs A c w HR.out).mono ?_
  rintro e w1 ⟨rfl, hF1⟩
  rw [HX.out]
  go_wp2_with fail
  go_ret
  exact ⟨rfl, hF1⟩
set_option maxRecDepth 100000 in
set_option maxHeartbeats 4000000 in
theorem ref8add_any (N : Nat → Prop) (base m : Nat) (v : Value) (ms : List OneM) (xs : List Rng) (A : Option Addr) (c : Nat) (w : World) (hm : RMp N base w m v ms) (hr : Rd N w A (rngC xs)) (hx : rightP xs = true) (hn : ms.length < 4096) :
    Calls Tryz.prog 11 #[.pointer (some ⟨m, 0, none⟩), .slice A xs.length c] w fun e w' => e = .returned (.int .i64 0) ∧ ∃ v', RMp (fun k => N k ∧ k < w.heap.size ∨ v'.ownBlock = some k) base w' m v' (ms ++ [⟨xs, -1, A, c⟩]) ∧ Fr (MB m v) w w' ∧ (v'.ownBlock = v.ownBlock ∨ ∃ g, v'.ownBlock = some g ∧ w.heap.size ≤ g) := by
  obtain ⟨VA, vc, rfl, hvc, hrv⟩ := Rd.of_own (M := Nob) hm.own (fun _ _ h => h)
  have HM := Lib.hid hm
  have HR := Lib.hid hr
  have HX := Lib.hid hx
  have HL := Lib.hid (rightP_ok hx).1
  clear hrv hvc hm hr hx
  obtain ⟨xn, hxn⟩ : ∃ n, xs.length = n := ⟨_, rfl⟩
  have HXN := Lib.hid hxn
  rw [hxn]
  clear hxn
  go_enter Tryz.func11, Tryz.ntmps11
  go_wp2_with fail
  have h := ref8right_any N xs A c w HR.out
  rw [HXN.out, HX.out] at h
  refine h.mono ?_
  clear h
  rintro e w1 ⟨rfl, hF1⟩
  have HF1 := Lib.hid hF1
  have HM1 := Lib.hid (HM.out.fr0 hF1)
  clear hF1
  have d0 := HM1.out.blk.cell 0
  have lm := HM1.out.blk.lt
  simp only [List.getElem?_cons_zero] at d0
  have hn' : ¬ (4096 ≤ (ms.length : Int)) := by omega
  obtain ⟨i0, hi, hz0, hz1, hz2⟩ := info_parts infoLaid
  have HOW := Lib.hid (HM1.out.own.alloc (.cells #[.slice A xn c, .int .i64 (-1)] 76))
  have HNEWS := Lib.hid (show ∀ j u, [.slice A xn c, .int .i64 (-1)][j]? = some u → (w1.alloc (.cells #[.slice A xn c, .int .i64 (-1)] 76)).cell? ((⟨w1.heap.size, 0, none⟩ : Addr).add j) = some u from fun j u hu => by
    rw [add_lit]
    exact ((Blk.new w1 [.slice A xn c, .int .i64 (-1)] 76).cell j).trans hu)
  have HONE := Lib.hid (show ∀ u ∈ [(.slice A xn c : Value), .int .i64 (-1)], u.oneCell' = true from fun u hu => by
    simp only [List.mem_cons, List.not_mem_nil, or_false] at hu
    rcases hu with rfl | rfl <;> rfl)
  have HMX := Lib.hid (show ms.length + 1 ≤ maxLen ∧ (ms.length + 1) * 32 ≤ 140737488355328 ∧ base ≤ (w1.alloc (.cells #[.slice A xn c, .int .i64 (-1)] 76)).heap.size from
    ⟨by simp only [maxLen]; omega, by omega, by have := HM1.out.lo; simp; omega⟩)
  have HBK := Lib.hid (show ∀ w9, (w1.alloc (.cells #[.slice A xn c, .int .i64 (-1)] 76)).grownBy w9 (Value.slice VA ms.length vc).ownBlock → w9.cell? ⟨m, 0, none⟩ = some (.slice VA ms.length vc) ∧ w9.frozen? ⟨m, 0, none⟩ = false ∧ m < w9.heap.size from fun w9 hg => by
    have hB := (HM1.out.blk.alloc (.cells #[.slice A xn c, .int .i64 (-1)] 76)).fr (Fr.of_grown hg) (fun e => HM1.out.ne e.symm)
    exact ⟨hB.cell 0, hB.frozen 0, hB.lt⟩)
  go_upto_region 3 with (fail)
  clear hn'
  go_wp2_with (at_builtin; refine wpList_append_lies _ rfl _ _ 29 rfl base 76 i0 _ 2 32 Tryz.underlying29 hi hz0 hz1 hz2 rfl (by decide) (.slice VA ms.length vc) ms.length (oneC ms) rfl HOW.out ⟨w1.heap.size, 0, none⟩ 1 1 [.slice A xn c, .int .i64 (-1)] rfl rfl HNEWS.out HONE.out (by omega) HMX.out.1 HMX.out.2.1 HMX.out.2.2 _ rfl ?_; intro g cap w9 hown9 hg9 hga hgl; obtain ⟨e0, ef, el⟩ := HBK.out w9 hg9)
  clear e0 ef el HBK
  have hM6 := HM1.out
  have hsz : (w1.alloc (.cells #[.slice A xn c, .int .i64 (-1)] 76)).heap.size = w1.heap.size + 1 := by simp
  have hwd := HF1.out.size
  have hmlt := hM6.blk.lt
  have hne := hM6.ne
  have hgw : (Value.slice VA ms.length vc).ownBlock = some g ∨ w1.heap.size + 1 ≤ g := by
    rcases hga with h | h
    · exact .inl h
    · exact .inr (by omega)
  have hgm : g ≠ m := by
    rintro rfl
    rcases hgw with h | h
    · exact hne h
    · omega
  have hF9 : Fr (MB m (.slice VA ms.length vc)) w1 w9 := ((Fr.refl _ w1).alloc _).trans (Fr.of_grown hg9) (fun k _ e => .inr e.symm)
  have hB9 : Blk w9 m [.slice VA ms.length vc] 31 := (hM6.blk.alloc _).fr (Fr.of_grown hg9) (fun e => hne e.symm)
  have HB9 := Lib.hid hB9
  have HF9 := Lib.hid hF9
  have HGW := Lib.hid hgw
  have HGM := Lib.hid hgm
  have HOWN9 := Lib.hid hown9
  clear hM6 hsz hwd hmlt hne hgw hgm hF9 hg9 hga hgl hown9 d0 lm HOW HNEWS HONE HMX
  clear hB9
  have HFE := Lib.hid (HF9.out.setCell (p := ⟨m, 0, none⟩) (.inl (.inl rfl)) (.slice (some ⟨g, 0, none⟩) (ms.length + 1) cap))
  go_ret
  refine ⟨rfl, .slice (some ⟨g, 0, none⟩) (ms.length + 1) cap, ⟨HB9.out.set 0 _, HM1.out.lo, ?_, ?_, ?_, ?_, ?_, ?_⟩, ?_, ?_⟩
  · have h := own_fr HOWN9.out ((Fr.refl (One m) w9).setCell (p := ⟨m, 0, none⟩) (.inl rfl) (.slice (some ⟨g, 0, none⟩) (ms.length + 1) cap)) (fun k e h => by cases e; exact HGM.out h)
    rw [List.length_append]
    simpa [oneC, OneM.cells, HXN.out] using h
  · intro e
    exact HGM.out (by cases e; rfl)
  · rintro k (rfl | h)
    · exact .inl ⟨HM.out.mine _ (.inl rfl), HM.out.blk.lt⟩
    · exact .inr h
  · have hrow : ∀ (B : Option Addr) (l : List Rng), Rd N w B (rngC l) → Rd (fun k => N k ∧ k < w.heap.size ∨ (Value.slice (some ⟨g, 0, none⟩) (ms.length + 1) cap).ownBlock = some k) (w9.setCell ⟨m, 0, none⟩ (.slice (some ⟨g, 0, none⟩) (ms.length + 1) cap)) B (rngC l) := fun B l h => by
      have h2 := (((h.fr HF1.out (fun _ _ h => h.elim)).bound).fr HFE.out (fun k _ h => .inl (HM1.out.mine k h)))
      refine h2.mono (fun k hk => ?_)
      rcases hk with hk | hk
      · exact .inl hk.1
      · have hk' : g = k := by cases hk; rfl
        subst hk'
        rcases HGW.out with h | h
        · exact .inl (HM1.out.mine _ (.inr h))
        · exact .inr (by omega)
    intro x hx
    rcases List.mem_append.1 hx with hx | hx
    · exact hrow _ _ (HM.out.rows x hx)
    · rw [List.mem_singleton.1 hx]
      exact hrow _ _ HR.out
  · intro x hx
    rcases List.mem_append.1 hx with hx | hx
    · exact HM.out.right x hx
    · rw [List.mem_singleton.1 hx]; exact HX.out
  · intro x hx
    rcases List.mem_append.1 hx with hx | hx
    · exact HM.out.mirs x hx
    · rw [List.mem_singleton.1 hx]
  · exact HF1.out.any.trans HFE.out (fun _ _ h => h)
  · rcases HGW.out with h | h
    · exact .inl h.symm
    · exact .inr ⟨g, rfl, by have := HF1.out.size; omega⟩
end Go.Proofs.YtanbfplcldloeaaGreatDoor

/- The reference: marks and tokens: what may be. -/
namespace Go.Proofs.YtanbfplcldloeaaGreatDoor
open Go.RowKit
set_option maxRecDepth 100000 in
theorem ref3right_any (s : Int) (w : World) : Calls Tryz.prog 92 #[.int .i64 s] w fun e w' => e = .returned (.bool (rightM s)) ∧ w' = w := by
  obtain ⟨r, hr⟩ : ∃ r, rightM s = r := ⟨_, rfl⟩
  rw [hr]
  have HR := Lib.hid hr
  clear hr
  go_enter Tryz.func92, Tryz.ntmps92
  go_wp2_with fail
  all_goals
    go_ret
    refine ⟨?_, rfl⟩
    rw [← HR.out]
    refine congrArg (fun b => Ending.returned (.bool b)) ?_
    rw [Bool.eq_iff_iff]
    simp [rightM]
    try omega
set_option maxRecDepth 100000 in
theorem ref4point_any (n : Int) (w : World) : Calls Tryz.prog 91 #[.int .i64 n] w fun e w' => e = .returned (.bool (pointB n)) ∧ w' = w := by
  obtain ⟨r, hr⟩ : ∃ r, pointB n = r := ⟨_, rfl⟩
  rw [hr]
  have HR := Lib.hid hr
  clear hr
  go_enter Tryz.func91, Tryz.ntmps91
  go_wp2_with fail
  all_goals
    go_ret
    refine ⟨?_, rfl⟩
    rw [← HR.out]
    refine congrArg (fun b => Ending.returned (.bool b)) ?_
    rw [Bool.eq_iff_iff]
    simp [pointB]
    try omega
set_option maxRecDepth 100000 in
theorem ref4right_any (x : Tok) (w : World) : Calls Tryz.prog 61 #[.agg x.cells.toArray] w fun e w' => e = .returned (.bool (okT x)) ∧ Fr Nob w w' := by
  obtain ⟨r, hr⟩ : ∃ r, okT x = r := ⟨_, rfl⟩
  rw [hr]
  have HR := Lib.hid hr
  clear hr
  obtain ⟨k, t, n, m⟩ := x
  simp only [Tok.cells] at *
  by_cases k0 : k = 0
  · have b0 : (k == 0) = true := by simpa using k0
    have HE := Lib.hid (show (decide (t = 0) && pointB n && rightM m) = r by rw [← HR.out, okT, if_pos k0])
    clear k0 HR
    by_cases t0 : t = 0
    · have c0 : (t == 0) = true := by simpa using t0
      have HE2 := Lib.hid (show (pointB n && rightM m) = r by rw [← HE.out, decide_eq_true t0, Bool.true_and])
      clear HE t0
      go_enter Tryz.func61, Tryz.ntmps61
      go_wp2_with fail
      refine (ref4point_any n _).mono ?_
      rintro e w1 ⟨rfl, rfl⟩
      cases hp : pointB n with
      | false =>
        rw [hp] at HE2
        go_wp2_with fail
        go_ret
        exact ⟨by rw [← HE2.out]; rfl, (Fr.refl _ _).alloc _⟩
      | true =>
        rw [hp] at HE2
        go_wp2_with fail
        refine (ref3right_any m _).mono ?_
        rintro e w1 ⟨rfl, rfl⟩
        go_wp2_with fail
        go_ret
        exact ⟨by rw [← HE2.out]; rfl, (Fr.refl _ _).alloc _⟩
    · have c0 : (t == 0) = false := by simpa using t0
      have HE2 := Lib.hid (show false = r by rw [← HE.out, decide_eq_false t0, Bool.false_and, Bool.false_and])
      clear HE t0
      go_enter Tryz.func61, Tryz.ntmps61
      go_wp2_with fail
      go_ret
      exact ⟨by rw [← HE2.out]; rfl, (Fr.refl _ _).alloc _⟩
  · have b0 : (k == 0) = false := by simpa using k0
    by_cases k1 : k = 1
    · have b1 : (k == 1) = true := by simpa using k1
      have HK := Lib.hid k1
      clear k0 k1
      go_enter Tryz.func61, Tryz.ntmps61
      go_wp2_with fail
      all_goals
        go_ret
        refine ⟨?_, (Fr.refl _ _).alloc _⟩
        have hk := HK.out
        rw [← HR.out]
        refine congrArg (fun b => Ending.returned (.bool b)) ?_
        subst hk
        rw [Bool.eq_iff_iff]
        simp [okT]
        try omega
    · have b1 : (k == 1) = false := by simpa using k1
      by_cases k3 : k = 3
      · have b3 : (k == 3) = true := by simpa using k3
        have HK := Lib.hid k3
        clear k0 k1 k3
        go_enter Tryz.func61, Tryz.ntmps61
        go_wp2_with fail
        all_goals
          go_ret
          refine ⟨?_, (Fr.refl _ _).alloc _⟩
          have hk := HK.out
          rw [← HR.out]
          refine congrArg (fun b => Ending.returned (.bool b)) ?_
          subst hk
          rw [Bool.eq_iff_iff]
          simp [okT]
          try omega
      · have b3 : (k == 3) = false := by simpa using k3
        by_cases k2 : k = 2
        · have b2 : (k == 2) = true := by simpa using k2
          have HK := Lib.hid k2
          clear k0 k1 k3 k2
          go_enter Tryz.func61, Tryz.ntmps61
          go_wp2_with fail
          all_goals
            go_ret
            refine ⟨?_, (Fr.refl _ _).alloc _⟩
            have hk := HK.out
            rw [← HR.out]
            refine congrArg (fun b => Ending.returned (.bool b)) ?_
            subst hk
            rw [Bool.eq_iff_iff]
            simp [okT]
            try omega
        · have b2 : (k == 2) = false := by simpa using k2
          have HK := Lib.hid (show ¬ k = 0 ∧ ¬ k = 1 ∧ ¬ k = 3 ∧ ¬ k = 2 from ⟨k0, k1, k3, k2⟩)
          clear k0 k1 k3 k2
          go_enter Tryz.func61, Tryz.ntmps61
          go_wp2_with fail
          all_goals
            go_ret
            refine ⟨?_, (Fr.refl _ _).alloc _⟩
            have hk := HK.out
            rw [← HR.out]
            refine congrArg (fun b => Ending.returned (.bool b)) ?_
            obtain ⟨h0, h1, h3, h2⟩ := hk
            rw [Bool.eq_iff_iff]
            simp [okT, h0, h1, h3, h2]
            try omega
end Go.Proofs.YtanbfplcldloeaaGreatDoor
