/- 'shown': a tree's text. -/
import Derived.Test.YtgmjgflifgjpmaaDoorShelf
import Derived.Test.YtgmjgflifgjpmaaDoorExprText
import Derived.Deep.OwnRows
namespace Go.Proofs.YtgmjgflifgjpmaaDoor
open Go.RowKit
theorem infoStr : (Tryd.prog.info? 9).map (fun i => (i.zero, i.size, i.bytes)) = some (some (.string ⟨#[]⟩), 1, 16) := by kernel_rfl
/-- What lies in the row of texts in a round. -/
def rowT (k : Int) (l : List Tree) (i : Nat) : List Value := ((textL k l).take i).map (fun t => Value.string (bs t)) ++ List.replicate (l.length - i) (.string ⟨#[]⟩)
theorem rowT_len (k : Int) (l : List Tree) (i : Nat) (hi : i ≤ l.length) : (rowT k l i).length = l.length := by
  unfold rowT
  simp [textL_len]
  omega
theorem rowT_set (k : Int) (l : List Tree) (i : Nat) (hi : i < l.length) : (rowT k l i).set i (.string (bs (partT k l[i].k (textT l[i])))) = rowT k l (i + 1) := by
  unfold rowT
  have h3 : (((textL k l).take i).map (fun t => Value.string (bs t))).length = i := by simp [textL_len]; omega
  rw [List.set_append_right _ _ (by omega), h3, Nat.sub_self]
  have e1 : l.length - i = (l.length - (i + 1)) + 1 := by omega
  rw [e1, List.replicate_succ, List.set_cons_zero, List.take_add_one, textL_get k l i hi]
  simp
theorem rowT_all (k : Int) (l : List Tree) : rowT k l l.length = (textL k l).map (fun t => Value.string (bs t)) := by
  unfold rowT
  rw [Nat.sub_self, List.take_of_length_le (by rw [textL_len]; omega)]
  simp
theorem fin_row {k : Int} {l : List Tree} {i g : Nat} {w : World} {t : TypeId} {v : Value} (hi : i < l.length) (h : Blk w g (rowT k l i) t) (hv : v = .string (bs (partT k l[i].k (textT l[i])))) : Blk (w.setCell ⟨g, i, none⟩ v) g (rowT k l (i + 1)) t := by
  subst hv
  rw [← rowT_set k l i hi]
  exact h.set i _
theorem fin_row2 {k : Int} {l : List Tree} {i g : Nat} {w : World} {t : TypeId} {u v : Value} (hi : i < l.length) (h : Blk w g (rowT k l i) t) (hv : v = .string (bs (partT k l[i].k (textT l[i])))) : Blk ((w.setCell ⟨g, i, none⟩ u).setCell ⟨g, i, none⟩ v) g (rowT k l (i + 1)) t := by
  subst hv
  rw [← rowT_set k l i hi]
  have := (h.set i u).set i (.string (bs (partT k l[i].k (textT l[i]))))
  rwa [List.set_set] at this
set_option maxRecDepth 100000 in
set_option maxHeartbeats 4000000 in
theorem shown_step (x : Tree) (cs : List Value) (w : World) (h : ERep Nob w x cs) (hn : x.count ≤ 1048576) (hb : x.bytes ≤ 1048576) (hr : rightR x = true)
    (IH : ∀ (k : Nat) (hk : k < x.l.length) (cs : List Value) (w : World), ERep Nob w x.l[k] cs → Calls Tryd.prog 22 #[.agg cs.toArray] w fun e w' => e = .returned (.string (bs (textT x.l[k]))) ∧ Fr Nob w w') :
    Calls Tryd.prog 22 #[.agg cs.toArray] w fun e w' => e = .returned (.string (bs (textT x))) ∧ Fr Nob w w' := by
  obtain ⟨A, c, css, rfl, hc, hR, hE⟩ := h.open_
  have HR := Lib.hid hR
  have HE := Lib.hid hE
  have HIH := Lib.hid IH
  have HRI := Lib.hid hr
  clear hR hE h IH hr
  have hlen := len_le_countL x.l
  have hcx := count_eq x
  have hbx := bytes_eq x
  obtain ⟨kk, hkk⟩ : ∃ kk, kk = x.k := ⟨_, rfl⟩
  have HK := Lib.hid hkk
  have hmk := run_make_row' (P := Tryd.prog) 80 9 (.string ⟨#[]⟩) 16 Tryd.underlying80 infoStr rfl .i64 .i64 x.l.length (by omega) (by omega)
  have HN := Lib.hid (And.intro hlen (And.intro hcx (And.intro hbx (And.intro hn hb))))
  have hbx1 := (Blk.new w [.int .i64 kk, .string x.name, .slice A x.l.length c] 24).alloc (.cells (madeCells #[.string ⟨#[]⟩] x.l.length) 9)
  have hbm := Blk.new_at (w.alloc (.cells #[.int .i64 kk, .string x.name, .slice A x.l.length c] 24)) (List.replicate x.l.length (.string ⟨#[]⟩)) 9 (w.heap.size + 1) (by simp)
  rw [← made_list] at hbm
  have HB1 := Lib.hid hbx1
  have HBM := Lib.hid hbm
  rw [← hkk]
  clear hkk hlen hcx hbx hn hb hbx1 hbm
  go_enter Tryd.func22, Tryd.ntmps22
  go_wp2_with fail
  go_loopg [13] (x.l.length) (fun n i wr => ∃ k, n = x.l.length - k ∧ k ≤ x.l.length ∧ i = .int .i64 k ∧ Hid (Fr Nob w wr) ∧ Hid (Blk wr w.heap.size [.int .i64 kk, .string x.name, .slice A x.l.length c] 24) ∧ Hid (Blk wr (w.heap.size + 1) (rowT kk x.l k) 9))
  case atStart => exact ⟨0, rfl, Nat.zero_le _, rfl, ((Fr.refl _ _).alloc _).alloc _, HB1.out, HBM.out⟩
  case round =>
    obtain ⟨k, rfl, hk, rfl, HF, HBx, HBm⟩ := hrel
    have d0 := HBx.out.cell 0
    have d1 := HBx.out.cell 1
    have d2 := HBx.out.cell 2
    have hlb := HBx.out.lt
    have hlm := HBm.out.lt
    simp only [List.getElem?_cons_zero, List.getElem?_cons_succ] at d0 d1 d2
    by_cases hlt : k < x.l.length
    · have ht : ((k : Int) < (x.l.length : Int)) := by omega
      obtain ⟨ad, A2, c2, rfl, q0, q1, q2, hX⟩ := EReps.elt (HR.out.fr HF.out (fun _ _ h => h)) (HE.out.fr0 HF.out) hlt
      have HX := Lib.hid hX
      clear hX
      go_wp2_with fail
      refine (HIH.out k hlt _ _ (HX.out.fr0 ((Fr.refl Nob wr).alloc (.cells #[.int .i64 x.l[k].k, .string x.l[k].name, .slice A2 x.l[k].l.length c2] 24)))).mono ?_
      rintro e w2 ⟨rfl, hF2⟩
      have HF2 := Lib.hid ((HF.out.alloc (.cells #[.int .i64 x.l[k].k, .string x.l[k].name, .slice A2 x.l[k].l.length c2] 24)).same hF2)
      have hbx2 := (HBx.out.alloc (.cells #[.int .i64 x.l[k].k, .string x.l[k].name, .slice A2 x.l[k].l.length c2] 24)).fr hF2 (fun h => h)
      have hbm2 := (HBm.out.alloc (.cells #[.int .i64 x.l[k].k, .string x.l[k].name, .slice A2 x.l[k].l.length c2] 24)).fr hF2 (fun h => h)
      have hby2 := (Blk.new wr [.int .i64 x.l[k].k, .string x.l[k].name, .slice A2 x.l[k].l.length c2] 24).fr hF2 (fun h => h)
      have HBX2 := Lib.hid hbx2
      have HBM2 := Lib.hid hbm2
      clear d0 d1 d2 q0 q1 q2 hlb hlm
      have d0 := hbx2.cell 0
      have e0 := hby2.cell 0
      have hlb := hbx2.lt
      have hlm := hbm2.lt
      have hly := hby2.lt
      have fm := hbm2.frozen k
      have mk : ∃ old, w2.cell? ⟨w.heap.size + 1, k, none⟩ = some (.string old) := by
        have h1 := hbm2.cell k
        have h2 : (rowT kk x.l k)[k]? = some (.string ⟨#[]⟩) := by
          unfold rowT
          have h3 : (((textL kk x.l).take k).map (fun t => Value.string (bs t))).length = k := by simp [textL_len]; omega
          rw [List.getElem?_append_right (by omega), h3, Nat.sub_self, List.getElem?_replicate, if_pos (by omega)]
        exact ⟨_, h1.trans h2⟩
      obtain ⟨old, mk⟩ := mk
      simp only [List.getElem?_cons_zero] at d0 e0
      have hsz : (bs (textT x.l[k])).size = (textT x.l[k]).length := bs_size _
      have htl := textT_len x.l[k]
      have hcl := count_lt_of_mem x.l k hlt
      have hbl := bytesL_ge x.l k hlt
      have hts : (bs (textT x.l[k])).size ≤ 10000000 := by have := HN.out; omega
      have HTS := Lib.hid hsz
      have d0s : ∀ v, (w2.setCell ⟨w.heap.size + 1, k, none⟩ v).cell? ⟨w.heap.size, 0, none⟩ = some (.int .i64 kk) := fun v => (hbx2.far (p := ⟨w.heap.size + 1, k, none⟩) (by show w.heap.size ≠ w.heap.size + 1; omega) v).cell 0
      have e0s : ∀ v, (w2.setCell ⟨w.heap.size + 1, k, none⟩ v).cell? ⟨wr.heap.size, 0, none⟩ = some (.int .i64 x.l[k].k) := fun v => (hby2.far (p := ⟨w.heap.size + 1, k, none⟩) (by have := HBm.out.lt; show wr.heap.size ≠ w.heap.size + 1; omega) v).cell 0
      have hkl : k < (rowT kk x.l k).length := by unfold rowT; simp [textL_len]; omega
      have mks : ∀ v, (w2.setCell ⟨w.heap.size + 1, k, none⟩ v).cell? ⟨w.heap.size + 1, k, none⟩ = some v := fun v => by rw [(hbm2.set k v).cell k, List.getElem?_set_self hkl]
      have fms : ∀ v, (w2.setCell ⟨w.heap.size + 1, k, none⟩ v).frozen? ⟨w.heap.size + 1, k, none⟩ = false := fun v => (hbm2.set k v).frozen k
      clear hF2 hbx2 hbm2 hby2 hsz htl hcl hbl hkl d0 e0
      have hkc : (kk == 3) = true ∧ (kk != 3) = false ∧ Hid (kk = 3) ∨ (kk == 3) = false ∧ (kk != 3) = true ∧ (kk == 2) = true ∧ (kk != 2) = false ∧ Hid (kk = 2) ∨ (kk == 3) = false ∧ (kk != 3) = true ∧ (kk == 2) = false ∧ (kk != 2) = true ∧ Hid (kk ≠ 3 ∧ kk ≠ 2) := by
        by_cases h3 : kk = 3
        · left; exact ⟨by simpa using h3, by simpa using h3, h3⟩
        · by_cases h2 : kk = 2
          · right; left; exact ⟨by simpa using h3, by simpa using h3, by simpa using h2, by simpa using h2, h2⟩
          · right; right; exact ⟨by simpa using h3, by simpa using h3, by simpa using h2, by simpa using h2, h3, h2⟩
      rcases hkc with ⟨k1, k2, HKC⟩ | ⟨k1, k2, k3, k4, HKC⟩ | ⟨k1, k2, k3, k4, HKC⟩
      all_goals go_wp2_with fail
      all_goals
        go_roundg (x.l.length - (k + 1))
        case measure => omega
        case rel =>
          have hlen := HN.out
          refine ⟨k + 1, rfl, hlt, by rw [w64 _ (by omega) (by omega)]; rfl, ?_, ?_, ?_⟩
          · first
              | exact HF2.out.setCell (p := ⟨w.heap.size + 1, k, none⟩) (.inr (by show w.heap.size ≤ w.heap.size + 1; omega)) _
              | exact (HF2.out.setCell (p := ⟨w.heap.size + 1, k, none⟩) (.inr (by show w.heap.size ≤ w.heap.size + 1; omega)) _).setCell (p := ⟨w.heap.size + 1, k, none⟩) (.inr (by show w.heap.size ≤ w.heap.size + 1; omega)) _
          · first
              | exact HBX2.out.far (p := ⟨w.heap.size + 1, k, none⟩) (by show w.heap.size ≠ w.heap.size + 1; omega) _
              | exact (HBX2.out.far (p := ⟨w.heap.size + 1, k, none⟩) (by show w.heap.size ≠ w.heap.size + 1; omega) _).far (p := ⟨w.heap.size + 1, k, none⟩) (by show w.heap.size ≠ w.heap.size + 1; omega) _
          · have hkc := HKC.out
            first
              | exact fin_row hlt HBM2.out (by congr 1; simp [partT, brackB, *])
              | exact fin_row2 hlt HBM2.out (by show Value.string (bs [40] ++ bs (textT x.l[k]) ++ bs [41]) = _; rw [bs_append, bs_append]; congr 1; simp [partT, brackB, *])
    · have ht : ¬ ((k : Int) < (x.l.length : Int)) := by omega
      have hkl : k = x.l.length := by omega
      subst hkl
      have hl1 : kk = 4 ∨ kk = 5 ∨ kk = 6 → x.l.length = 1 := fun h => by
        have h1 := HRI.out
        rw [rightR_eq, ← HK.out] at h1
        unfold endB at h1
        rw [if_neg (by omega), if_neg (by omega), if_pos h] at h1
        simp at h1
        omega
      have HL1 := Lib.hid hl1
      have htx := textT_eq x
      rw [← HK.out] at htx
      have HTX := Lib.hid htx
      clear htx hl1
      by_cases h456 : kk = 4 ∨ kk = 5 ∨ kk = 6
      · have hl := HL1.out h456
        have hm0 : wr.cell? ⟨w.heap.size + 1, 0, none⟩ = some (.string (bs ((textL kk x.l).headD []))) := by
          have h1 := HBm.out.cell 0
          rw [rowT_all, List.getElem?_map] at h1
          rw [h1]
          have := textL_len kk x.l
          cases hq : textL kk x.l with
          | nil => rw [hq] at this; simp at this; omega
          | cons y r => rfl
        have hts : (bs ((textL kk x.l).headD [])).size ≤ 100000000 := by
          rw [bs_size]
          have h2 := textL_len4 kk x.l
          have h3 : ((textL kk x.l).headD []).length ≤ sumL (textL kk x.l) := by
            cases textL kk x.l with
            | nil => simp
            | cons y r => simp [sumL]
          have := HN.out
          omega
        have ht0 : ((0 : Int) < (x.l.length : Int)) := by omega
        obtain ⟨hd, hhd⟩ : ∃ hd, (textL kk x.l).headD [] = hd := ⟨_, rfl⟩
        have htx : textT x = hd ++ [signC kk] := by
          rw [HTX.out, if_neg (by omega), if_neg (by omega), if_neg (by omega), if_pos h456, hhd]
        rw [hhd] at hm0 hts
        have HT2 := Lib.hid htx
        clear hhd htx HTX HL1 HRI HK
        rcases h456 with rfl | rfl | rfl
        all_goals
          go_wp2_with fail
          go_ret
          refine ⟨?_, HF.out⟩
          rw [HT2.out, ← bs_append]
          rfl
      by_cases h23 : kk = 2 ∨ kk = 3
      · have hxs : ((textL kk x.l).map bs).length = x.l.length := by rw [List.length_map, textL_len]
        have hjn : ∀ (c : UInt8), (Lib.join (((textL kk x.l).map bs).map (·.data.toList)) [c]) = Lib.join (textL kk x.l) [c] := fun c => by
          rw [List.map_map]
          congr 1
          exact (List.map_congr_left (g := id) (fun t _ => bs_list t)).trans (List.map_id _)
        have hjl : ∀ (c : UInt8), (Lib.join (textL kk x.l) [c]).length ≤ 100000000 := fun c => by
          have h1 := join_len [c] rfl (textL kk x.l)
          have h2 := textL_len4 kk x.l
          have := HN.out
          omega
        have hJ : ∀ (c : UInt8), Calls Tryd.prog 38 #[.slice (some ⟨w.heap.size + 1, 0, none⟩) x.l.length x.l.length, .string ⟨#[c]⟩] wr fun e w' => e = .returned (.string (bs (Lib.join (textL kk x.l) [c]))) ∧ Fr Nob wr w' := fun c => by
          have h := strings_Join (w.heap.size + 1) 0 x.l.length ((textL kk x.l).map bs) ⟨#[c]⟩ wr (fun j y hj => by
            have h1 := HBm.out.cell j
            rw [rowT_all, List.getElem?_map] at h1
            rw [List.getElem?_map] at hj
            obtain ⟨t, ht, rfl⟩ := Option.map_eq_some_iff.1 hj
            rw [ht] at h1
            rw [Nat.zero_add]
            exact h1) hlm (by rw [hxs]; have := HN.out; omega) (by rw [hxs]; omega) (by
              show (Lib.join (((textL kk x.l).map bs).map (·.data.toList)) [c]).length ≤ _
              rw [hjn]; have := hjl c; omega)
          rw [hxs] at h
          refine h.mono ?_
          rintro e w' ⟨rfl, hb⟩
          refine ⟨?_, Fr.of_below hb⟩
          show Ending.returned (.string (bs (Lib.join (((textL kk x.l).map bs).map (·.data.toList)) [c]))) = _
          rw [hjn]
        have HJ := Lib.hid hJ
        clear hxs hjn hjl hJ h456
        rcases h23 with rfl | rfl
        all_goals
          go_wp2_with fail
          refine (HJ.out _).mono ?_
          rintro e w2 ⟨rfl, hF2⟩
          have HF2 := Lib.hid (HF.out.same hF2)
          clear hF2
          go_wp2_with fail
          go_ret
          refine ⟨?_, HF2.out⟩
          rw [HTX.out]
          rfl
      by_cases h1 : kk = 1
      · subst h1
        go_wp2_with fail
        go_ret
        refine ⟨?_, HF.out⟩
        rw [HTX.out, if_pos (by trivial), bs_of]
        rfl
      · have g1 : (kk == 1) = false := by simpa using h1
        have g2 : (kk == 2) = false := by simp; omega
        have g3 : (kk == 3) = false := by simp; omega
        have g4 : (kk == 4) = false := by simp; omega
        have g5 : (kk == 5) = false := by simp; omega
        have g6 : (kk == 6) = false := by simp; omega
        have htx := HTX.out
        rw [if_neg h1, if_neg (by omega), if_neg (by omega), if_neg h456] at htx
        have HT2 := Lib.hid htx
        clear h1 h456 h23 htx
        go_wp2_with fail
        go_ret
        refine ⟨?_, HF.out⟩
        rw [HT2.out]
        rfl
theorem shown_any (x : Tree) (cs : List Value) (w : World) (h : ERep Nob w x cs) (hn : x.count ≤ 1048576) (hb : x.bytes ≤ 1048576) (hr : rightR x = true) :
    Calls Tryd.prog 22 #[.agg cs.toArray] w fun e w' => e = .returned (.string (bs (textT x))) ∧ Fr Nob w w' :=
  shown_step x cs w h hn hb hr (fun k hk cs w h => shown_any x.l[k] cs w h (by have := count_lt_of_mem x.l k hk; have := count_eq x; omega) (by have := bytesL_ge x.l k hk; have := bytes_eq x; omega) (by
    rw [rightR_eq, Bool.and_eq_true] at hr
    exact ((rightRL_iff x.l).1 hr.1 _ (List.getElem_mem hk)).2))
termination_by x
decreasing_by exact Tree.lt_of_elt x k hk
end Go.Proofs.YtgmjgflifgjpmaaDoor
