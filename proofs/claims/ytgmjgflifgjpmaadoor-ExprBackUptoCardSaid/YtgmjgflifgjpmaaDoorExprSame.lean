/- 'Same': the same trees? And 'awake'. -/
import Derived.Test.YtgmjgflifgjpmaaDoorExprParse
namespace Go.Proofs.YtgmjgflifgjpmaaDoor
open Go.RowKit
mutual
def sameB : Tree → Tree → Bool
  | .node k n l, y => decide (k = y.k) && decide (n = y.name) && decide (l.length = y.l.length) && sameBL l y.l
def sameBL : List Tree → List Tree → Bool
  | [], _ => true
  | x :: xs, ys => match ys with
    | [] => false
    | y :: ys => sameB x y && sameBL xs ys
end
theorem sameB_eq (x y : Tree) : sameB x y = (decide (x.k = y.k) && decide (x.name = y.name) && decide (x.l.length = y.l.length) && sameBL x.l y.l) := by cases x; rw [sameB]; rfl
theorem sameBL_false : ∀ (l m : List Tree) (i : Nat) (h1 : i < l.length) (h2 : i < m.length), sameB l[i] m[i] = false → sameBL l m = false
  | [], _, i, h, _, _ => by simp at h
  | x :: xs, [], i, _, h, _ => by simp at h
  | x :: xs, y :: ys, 0, _, _, h => by simp only [List.getElem_cons_zero] at h; simp [sameBL, h]
  | x :: xs, y :: ys, i + 1, h1, h2, h => by
    simp only [List.getElem_cons_succ] at h
    simp [sameBL, sameBL_false xs ys i (by simpa using h1) (by simpa using h2) h]
theorem sameBL_true : ∀ (l m : List Tree), l.length = m.length → (∀ (i : Nat) (h1 : i < l.length) (h2 : i < m.length), sameB l[i] m[i] = true) → sameBL l m = true
  | [], _, _, _ => by simp [sameBL]
  | x :: xs, [], h, _ => by simp at h
  | x :: xs, y :: ys, h, ha => by
    have h0 := ha 0 (by simp) (by simp)
    simp only [List.getElem_cons_zero] at h0
    simp [sameBL, h0, sameBL_true xs ys (by simpa using h) (fun i h1 h2 => by have := ha (i + 1) (by simpa using h1) (by simpa using h2); simpa using this)]
set_option maxRecDepth 100000 in
set_option maxHeartbeats 4000000 in
theorem same_step (x y : Tree) (cs ds : List Value) (w : World) (hx : ERep Nob w x cs) (hy : ERep Nob w y ds) (hn : x.count ≤ 4611686018427387904)
    (IH : ∀ (k : Nat) (hk : k < x.l.length) (y : Tree) (cs ds : List Value) (w : World), ERep Nob w x.l[k] cs → ERep Nob w y ds → Calls Tryd.prog 13 #[.agg cs.toArray, .agg ds.toArray] w fun e w' => e = .returned (.bool (sameB x.l[k] y)) ∧ Fr Nob w w') :
    Calls Tryd.prog 13 #[.agg cs.toArray, .agg ds.toArray] w fun e w' => e = .returned (.bool (sameB x y)) ∧ Fr Nob w w' := by
  obtain ⟨A, c, css, rfl, hc, hR, hE⟩ := hx.open_
  obtain ⟨B, d, dss, rfl, hd, hS, hG⟩ := hy.open_
  have HR := Lib.hid hR
  have HE := Lib.hid hE
  have HS := Lib.hid hS
  have HG := Lib.hid hG
  have HIH := Lib.hid IH
  clear hR hE hS hG IH hx hy
  have hEQ := sameB_eq x y
  have hcx := count_eq x
  have hlx := len_le_countL x.l
  have HB := Lib.hid (show x.l.length ≤ 4611686018427387904 by omega)
  clear hcx hlx
  by_cases e1 : x.k = y.k
  · by_cases e2 : x.name = y.name
    · by_cases e3 : x.l.length = y.l.length
      · have HEQ := Lib.hid (show sameB x y = sameBL x.l y.l by rw [hEQ]; simp [e1, e2, e3])
        rw [← e1, ← e2, ← e3]
        have E3 := Lib.hid e3
        generalize x.k = kk
        generalize x.name = nn
        have hbx := (Blk.new w [.int .i64 kk, .string nn, .slice A x.l.length c] 24).alloc (.cells #[.int .i64 kk, .string nn, .slice B x.l.length d] 24)
        have hby := Blk.new_at (w.alloc (.cells #[.int .i64 kk, .string nn, .slice A x.l.length c] 24)) [.int .i64 kk, .string nn, .slice B x.l.length d] 24 (w.heap.size + 1) (by simp)
        have HBX := Lib.hid hbx
        have HBY := Lib.hid hby
        clear e1 e2 e3 hEQ hbx hby
        go_enter Tryd.func13, Tryd.ntmps13
        go_wp2_with fail
        go_loopg [30] (x.l.length) (fun n i wr => ∃ k, n = x.l.length - k ∧ k ≤ x.l.length ∧ i = .int .i64 k ∧ Hid (∀ (j : Nat) (h1 : j < x.l.length) (h2 : j < y.l.length), j < k → sameB x.l[j] y.l[j] = true) ∧ Hid (Fr Nob w wr) ∧ Hid (Blk wr w.heap.size [.int .i64 kk, .string nn, .slice A x.l.length c] 24) ∧ Hid (Blk wr (w.heap.size + 1) [.int .i64 kk, .string nn, .slice B x.l.length d] 24))
        case atStart => exact ⟨0, rfl, Nat.zero_le _, rfl, fun j _ _ h => absurd h (Nat.not_lt_zero j), ((Fr.refl _ _).alloc _).alloc _, HBX.out, HBY.out⟩
        case round =>
          obtain ⟨k, rfl, hk, rfl, HA, HF, HBx, HBy⟩ := hrel
          have hlbx := HBx.out.lt
          have hlby := HBy.out.lt
          have d0 := HBx.out.cell 2
          have d1 := HBy.out.cell 2
          simp only [List.getElem?_cons_zero, List.getElem?_cons_succ] at d0 d1
          by_cases hlt : k < x.l.length
          · have ht : ((k : Int) < (x.l.length : Int)) := by omega
            have hlt2 : k < y.l.length := by have := E3.out; omega
            obtain ⟨ad, A2, c2, rfl, q0, q1, q2, hX⟩ := EReps.elt (HR.out.fr HF.out (fun _ _ h => h)) (HE.out.fr0 HF.out) hlt
            obtain ⟨bd, B2, d2, rfl, r0, r1, r2, hY⟩ := EReps.elt (HS.out.fr HF.out (fun _ _ h => h)) (HG.out.fr0 HF.out) hlt2
            have HX := Lib.hid hX
            have HY := Lib.hid hY
            clear hX hY
            go_wp2_with fail
            go_still_tail 10, (by kernel_rfl)
            change wpList _ _ _ _ _ wr.drew
            generalize hwd : wr.drew = wd
            have hFd : Fr Nob wr wd := by subst hwd; exact (Fr.refl _ _).drew
            have HFd := Lib.hid hFd
            clear hFd hwd
            go_wp2_with fail
            refine (HIH.out k hlt y.l[k] _ _ wd (HX.out.fr0 HFd.out) (HY.out.fr0 HFd.out)).mono ?_
            rintro e w2 ⟨rfl, hF2⟩
            have HF2 := Lib.hid ((HF.out.same HFd.out).same hF2)
            have HBx2 := Lib.hid ((HBx.out.fr HFd.out (fun h => h)).fr hF2 (fun h => h))
            have HBy2 := Lib.hid ((HBy.out.fr HFd.out (fun h => h)).fr hF2 (fun h => h))
            clear hF2 q0 q1 q2 r0 r1 r2 d0 d1
            obtain ⟨b, hbv⟩ : ∃ b, sameB x.l[k] y.l[k] = b := ⟨_, rfl⟩
            have HBV := Lib.hid hbv
            rw [hbv]
            clear hbv
            cases b
            · go_wp2_with fail
              go_ret
              refine ⟨?_, HF2.out⟩
              rw [HEQ.out, sameBL_false x.l y.l k hlt hlt2 HBV.out]
              rfl
            · go_wp2_with fail
              go_roundg (x.l.length - (k + 1))
              case measure => omega
              case rel =>
                have := HB.out
                refine ⟨k + 1, rfl, hlt, ?_, ?_, HF2.out, HBx2.out, HBy2.out⟩
                · rw [w64 _ (by omega) (by omega)]; rfl
                · intro j h1 h2 hj
                  rcases Nat.lt_or_ge j k with h | h
                  · exact HA.out j h1 h2 h
                  · obtain rfl : j = k := by omega
                    exact HBV.out
          · have ht : ¬ ((k : Int) < (x.l.length : Int)) := by omega
            have HK := Lib.hid (show x.l.length ≤ k by omega)
            go_wp2_with fail
            go_ret
            refine ⟨?_, HF.out⟩
            rw [HEQ.out, sameBL_true x.l y.l E3.out (fun i h1 h2 => HA.out i h1 h2 (by have := HK.out; omega))]
            rfl
      · have HEQ := Lib.hid (show sameB x y = false by rw [hEQ]; simp [e3])
        rw [← e1, ← e2]
        have g3 : ((x.l.length : Int) != (y.l.length : Int)) = true := by simp; omega
        generalize x.k = kk
        generalize x.name = nn
        clear e1 e2 e3 hEQ
        go_enter Tryd.func13, Tryd.ntmps13
        go_wp2_with fail
        go_ret
        exact ⟨by rw [HEQ.out]; rfl, ((Fr.refl Nob w).alloc _).alloc _⟩
    · have HEQ := Lib.hid (show sameB x y = false by rw [hEQ]; simp [e2])
      rw [← e1]
      have g2 : (x.name.toList == y.name.toList) = false := by
        simp only [beq_eq_false_iff_ne, ne_eq]
        intro h
        rw [ByteArray.toList_eq, ByteArray.toList_eq] at h
        exact e2 (bytes_ext h)
      generalize x.k = kk
      generalize x.name = nn at g2
      generalize y.name = mm at g2
      clear e1 e2 hEQ
      go_enter Tryd.func13, Tryd.ntmps13
      go_wp2_with fail
      go_ret
      exact ⟨by rw [HEQ.out]; rfl, ((Fr.refl Nob w).alloc _).alloc _⟩
  · have HEQ := Lib.hid (show sameB x y = false by rw [hEQ]; simp [e1])
    have g1 : (x.k != y.k) = true := by simpa using e1
    generalize x.k = kk at g1
    generalize y.k = mm at g1
    clear e1 hEQ
    go_enter Tryd.func13, Tryd.ntmps13
    go_wp2_with fail
    go_ret
    exact ⟨by rw [HEQ.out]; rfl, ((Fr.refl Nob w).alloc _).alloc _⟩
theorem same_any (x y : Tree) (cs ds : List Value) (w : World) (hx : ERep Nob w x cs) (hy : ERep Nob w y ds) (hn : x.count ≤ 4611686018427387904) :
    Calls Tryd.prog 13 #[.agg cs.toArray, .agg ds.toArray] w fun e w' => e = .returned (.bool (sameB x y)) ∧ Fr Nob w w' :=
  same_step x y cs ds w hx hy hn (fun k hk y cs ds w h1 h2 => same_any x.l[k] y cs ds w h1 h2 (by have := count_lt_of_mem x.l k hk; have := count_eq x; omega))
termination_by x
decreasing_by exact Tree.lt_of_elt x k hk
end Go.Proofs.YtgmjgflifgjpmaaDoor
