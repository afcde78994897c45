/- A part of the proof for chapter 10: FoldW; no conditions. -/
import Derived.Test.YtanbfplcldloeaaGreatDoorG20
/- Chapter 10: the steps make the document: the walk. -/
namespace Go.Proofs.YtanbfplcldloeaaGreatDoor
open Go.RowKit
/-- append(v, xs...), v a row of one's own, xs whatever. -/
theorem step_append_many {P : Program} (w : World) {ops : Array Oper} {E : Prop} {o : Oper} {a : Act} {K : Act → World → Prop} {Q : Exit → Act → World → Prop} (M : Nat → Prop) (hgd : o.guard = none) (s x : Operand) (t : TypeId)
    (ho : o.op = .call { callee := .builtin .append, args := #[s, x], argTypes := #[t, t] })
    (base : Nat) (e : TypeId) (i : TypeInfo) (z : Value) (size bytes : Nat) (ht : P.underlying t = some (.slice e)) (hi : P.info? e = some i) (hz : i.zero = some z)
    (hsize : i.size = size) (hby : i.bytes = bytes) (hzs : z.cells.size = size) (hsz : 0 < size)
    (v : Value) (n : Nat) (xs : List Value) (hs : a.eval s = v) (hown : w.ownsRow base e size v n xs)
    (A : Option Addr) (m c : Nat) (news : List Value) (hx : a.eval x = .slice A m c) (hl : news.length = m * size) (hr : Rd M w A news) (h1 : ∀ u ∈ news, u.oneCell' = true)
    (h63 : n + m ≤ maxLen) (hbytes : (n + m) * bytes ≤ 140737488355328) (hbase : base ≤ w.heap.size)
    (h : ∀ v' w', w'.ownsRow base e size v' (n + m) (xs ++ news) → Fr (fun k => v.ownBlock = some k) w w' → K (a.put o.dst v') w') : if Region.wanted o (yielded ops a.tmps) = true then Oper.wp P o a w K Q else E := by
  by_cases hm : m = 0
  · subst hm
    rw [if_pos (by simp [Region.wanted, hgd])]
    have hl0 : ∀ (x : Addr), (loadCells x 0).run P w = .ok #[] w := fun x => by simpa using run_loadCells_list (P := P) w x [] (by simp)
    have hn : news = [] := by simpa using hl
    have hrun : (Builtin.append_ #[t, t] o.type #[v, .slice A 0 c]).run P w = .ok v w := by
      rcases hown.2 with ⟨rfl, rfl⟩ | ⟨g, cap, cur, rfl, _, _, hnc, _⟩
      · cases A <;> simp [Builtin.append_, run_underlying ht, sizeOf, typeInfo, hi, Builtin.lenOf, Builtin.firstCells, hl0]
      · cases A <;> simp [Builtin.append_, run_underlying ht, sizeOf, typeInfo, hi, Builtin.lenOf, Builtin.firstCells, hnc, storeCells, hl0]
    unfold Oper.wp execOp
    simp only [ho, resolve, invoke, builtin, Sem.run_bind, Sem.run_pure, Result.andThen_ok, List.map_toArray, List.map_cons, List.map_nil, hs, hx, hrun]
    exact h v w (by rw [hn, List.append_nil, Nat.add_zero]; exact hown) (Fr.refl _ _)
  · obtain ⟨ad, rfl, _, hc⟩ := hr (by
      intro e
      rw [e, List.length_nil] at hl
      have := Nat.mul_pos (Nat.pos_of_ne_zero hm) hsz
      omega)
    refine step_append_two w hgd s x t ho base e i z size bytes ht hi hz hsize hby hzs hsz v n xs hs hown ad m c news hx hl hc h1 (Nat.pos_of_ne_zero hm) h63 hbytes hbase ?_
    intro g cap w' ho' htwo
    exact h _ _ ho' (two_row htwo).1
theorem stepC_one (L : List StepA) : ∀ u ∈ stepC L, u.oneCell' = true := fun u hu => by
  obtain ⟨s, _, hu⟩ := List.mem_flatMap.1 hu
  simp only [StepA.cells, StepM.cells, List.mem_cons, List.not_mem_nil, or_false] at hu
  rcases hu with rfl | rfl | rfl | rfl | rfl | rfl | rfl | rfl <;> rfl
theorem stepC_len (L : List StepA) : (stepC L).length = L.length * 8 := flat_len StepA.cells_len L
theorem kept_at {M : Nat → Prop} {w : World} {A : Option Addr} {l : List Nat} (h : Rd M w A (l.map fun (k : Nat) => Value.int .i64 (k : Int))) {k : Nat} (hk : k < l.length) : ∃ ad, A = some ad ∧ w.cell? (ad.add k) = some (.int .i64 (l[k] : Int)) := by
  obtain ⟨ad, rfl, _, hc⟩ := h.at_ (j := k) (by simpa using hk)
  refine ⟨ad, rfl, ?_⟩
  rw [hc]
  simp
theorem add_zero0 (a : Addr) : a.add 0 = a := by unfold Addr.add; split <;> simp_all
theorem up_len : ∀ (K : List Nat) (lo n : Nat), (∀ k ∈ K, lo ≤ k ∧ k < n) → K.Pairwise (· < ·) → K.length ≤ n - lo
  | [], _, _, _, _ => Nat.zero_le _
  | k :: K, lo, n, h, hp => by
    obtain ⟨h1, h2⟩ := List.pairwise_cons.1 hp
    have := up_len K (k + 1) n (fun j hj => ⟨h1 j hj, (h j (List.mem_cons_of_mem _ hj)).2⟩) h2
    have := h k List.mem_cons_self
    rw [List.length_cons]
    omega
set_option maxRecDepth 100000 in
set_option maxHeartbeats 20000000 in
theorem folds_walk (l : List Tok) (own over : List StepA) (BA OA VA : Option Addr) (bc oc vc : Nat) (w : World) (hG : HG w) (hl : Rd Nob w BA (tokC l)) (hc : l.length ≤ bc) (ho : StepsM Nob w OA own) (hv : StepsM Nob w VA over) (hn : l.length ≤ 9223372036854775807 ∧ own.length ≤ 9223372036854775807 ∧ over.length ≤ 9223372036854775807) :
    Calls Tryz.prog 5 #[.slice BA l.length bc, .slice OA own.length oc, .slice VA over.length vc] w fun e w' => e = .returned (.bool true) ∧ Fr Nob w w' := by
  have HHG := Lib.hid hG
  have HL := Lib.hid hl
  have HC := Lib.hid hc
  have HO := Lib.hid ho
  have HV := Lib.hid hv
  have HN := Lib.hid hn
  clear hG hl hc ho hv hn
  obtain ⟨bn, hbn⟩ : ∃ n, l.length = n := ⟨_, rfl⟩
  obtain ⟨on, hon⟩ : ∃ n, own.length = n := ⟨_, rfl⟩
  obtain ⟨vn, hvn⟩ : ∃ n, over.length = n := ⟨_, rfl⟩
  have HBN := Lib.hid hbn
  have HON := Lib.hid hon
  have HVN := Lib.hid hvn
  rw [hbn, hon, hvn]
  clear hbn hon hvn
  obtain ⟨iS, hiS, hzS0, hzS1, hzS2⟩ := info_parts infoStepA
  go_enter Tryz.func5, Tryz.ntmps5
  go_wp2_with fail
  refine (small_any BA OA VA bn on vn bc oc vc w).mono ?_
  rintro e w0 ⟨rfl, rfl⟩
  obtain ⟨sm, hsm⟩ : ∃ b, (decide (bn ≤ 200) && (decide (on ≤ 20) && decide (vn ≤ 20))) = b := ⟨_, rfl⟩
  rw [hsm]
  cases sm with
  | false =>
    clear hsm
    go_wp2_with fail
    refine (awake_any w0 HHG.out).mono ?_
    rintro e w1 ⟨rfl, hF⟩
    go_wp2_with fail
    go_ret
    exact ⟨rfl, hF⟩
  | true =>
    simp only [Bool.and_eq_true, decide_eq_true_eq] at hsm
    obtain ⟨hb200, ho20, hv20⟩ := hsm
    go_wp2_with fail
    refine (house_any w0 HHG.out).mono ?_
    rintro e w1 ⟨⟨p, rs, rfl, hS, hC⟩, hF1⟩
    have HS := Lib.hid (hS.mono (M' := Nob) (fun _ h => h.elim))
    have HCR := Lib.hid hC
    have HF1 := Lib.hid hF1
    have HSO := Lib.hid (house_schok hC)
    clear hS hC hF1
    obtain ⟨G, hGG⟩ : ∃ G, groupsF houseL houseG = G := ⟨_, rfl⟩
    rw [hGG] at HS HSO
    clear hGG
    go_wp2_with fail
    have hreb := rebase_any Nob p rs G HSO.out own over OA VA oc vc (.slice BA bn bc) l w1 (fun _ h => h.elim) HS.out ⟨BA, bc, by rw [HBN.out], HC.out, HL.out.fr HF1.out (fun _ _ h => h.elim)⟩ (HO.out.fr0 HF1.out) (HV.out.fr0 HF1.out) HN.out.1 HN.out.2
    rw [HON.out, HVN.out] at hreb
    refine hreb.mono ?_
    clear hreb
    obtain ⟨⟨R, E⟩, hR⟩ : ∃ r, rebaseF rs G l (own.map StepA.s) (over.map StepA.s) = r := ⟨_, rfl⟩
    rw [hR]
    have HR := Lib.hid hR
    clear hR
    rintro e w2 ⟨dv, sv, kv, rfl, hV2, hF2⟩
    obtain ⟨⟨DA, dc, rfl, hdc, hdr⟩, ⟨SA, sc, L, rfl, hsL, hsR⟩, ⟨KA, kc, rfl, hkr⟩⟩ := hV2
    have HDR := Lib.hid hdr
    have HDC := Lib.hid hdc
    have HSL := Lib.hid hsL
    have HSR := Lib.hid hsR
    have HKR := Lib.hid hkr
    have HF12 := Lib.hid hF2
    have HF2 := Lib.hid (HF1.out.same hF2)
    clear hdr hdc hsL hsR hkr hF2
    go_upto_region 5 with (fail)
    obtain ⟨X, hX⟩ : ∃ X, w2.heap.size = X := ⟨_, rfl⟩
    obtain ⟨W3, hW3⟩ : ∃ W3, w2.alloc (.cells #[.slice DA R.doc.length dc, .slice SA L.length sc, .slice KA R.kept.length kc] 46) = W3 := ⟨_, rfl⟩
    have HF23 := Lib.hid (show Fr Nob w2 W3 by rw [← hW3]; exact (Fr.refl _ _).alloc _)
    have HX3 := Lib.hid (show Blk W3 X [.slice DA R.doc.length dc, .slice SA L.length sc, .slice KA R.kept.length kc] 46 by rw [← hW3, ← hX]; exact Blk.new _ _ _)
    have HF3 := Lib.hid (HF2.out.same HF23.out)
    rw [hX, hW3]
    clear hW3 hX
    by_cases hE : E = 0
    · have HE := Lib.hid hE
      subst hE
      have HDB := Lib.hid (show R.doc.length ≤ 4611686018427387904 from by
        have h := rebase_short (rs := rs) (g := G) (l := l) (own := own.map StepA.s) (over := over.map StepA.s)
        rw [HR.out] at h
        have := h
        simp only at this
        omega)
      have HFO := Lib.hid (show Folds rs G l (own.map StepA.s) (over.map StepA.s) R by
        have h := rebase_fold (rs := rs) (g := G) (l := l) (own := own.map StepA.s) (over := over.map StepA.s) (by rw [HR.out])
        rwa [HR.out] at h)
      have hkl : R.kept.length ≤ on := by
        have h := up_len R.kept 0 own.length (fun k hk => ⟨Nat.zero_le _, by have := HFO.out.lo k hk; rwa [List.length_map] at this⟩) HFO.out.up
        rw [HON.out] at h
        omega
      obtain ⟨kn, hkn⟩ : ∃ n, R.kept.length = n := ⟨_, rfl⟩
      obtain ⟨sn, hsn⟩ : ∃ n, L.length = n := ⟨_, rfl⟩
      obtain ⟨dn, hdn⟩ : ∃ n, R.doc.length = n := ⟨_, rfl⟩
      have hks : sn = kn := by
        rw [← hkn, ← hsn, HFO.out.len, ← HSR.out, List.length_map]
      have HKN := Lib.hid hkn
      have HLN := Lib.hid hsn
      have HDN := Lib.hid hdn
      have HF2d := Lib.hid (show Fr Nob w2 W3.drew from HF23.out.drew)
      rw [hkn] at hkl
      have hsl20 : sn ≤ 20 := by omega
      have HKS := Lib.hid hks
      clear hks
      rw [hkn, hsn, hdn] at HX3 ⊢
      clear hkn hsn hdn
      have x1 := HX3.out.cell 1
      have xl := HX3.out.lt
      simp only [List.getElem?_cons_zero, List.getElem?_cons_succ] at x1
      go_upto_region 8 with (fail)
      clear x1 xl
      refine wp_region_held_drew (S := fun W => W.cell? ⟨X, 1, none⟩ = some (.slice SA sn sc)) (by kernel_rfl) (HX3.out.cell 1) (fun _ => ?_)
      have HXd := Lib.hid (HX3.out.fr ((Fr.refl Nob W3).drew) (fun h => h))
      have HFd := Lib.hid (HF3.out.drew)
      have HS1 := Lib.hid (show W3.drew.cell? ⟨X, 1, none⟩ = some (.slice SA sn sc) from HXd.out.cell 1)
      generalize W3.drew = wd at HXd HFd HS1 HF2d ⊢
      refine wpAnyH_take (i := 1) (v := .slice VA vn vc) rfl (by kernel_rfl) (by kernel_rfl) (by kernel_rfl) (fun _ _ _ h => h) (Or.inl ⟨by rfl, fun w hSw => by (try dsimp only at hSw); go_simp⟩) HS1.out ?_
      try simp only [List.getElem_toArray, List.getElem_cons_succ, List.getElem_cons_zero, Act.put, List.setIfInBounds_toArray, List.set_cons_zero, List.set_cons_succ]
      refine wpAnyH_take (i := 3) (v := .pointer (some ⟨X, 1, none⟩)) rfl (by kernel_rfl) (by kernel_rfl) (by kernel_rfl) (fun _ _ _ h => h) (Or.inl ⟨by rfl, fun w hSw => by (try dsimp only at hSw); go_simp⟩) HS1.out ?_
      try simp only [List.getElem_toArray, List.getElem_cons_succ, List.getElem_cons_zero, Act.put, List.setIfInBounds_toArray, List.set_cons_zero, List.set_cons_succ]
      refine wpAnyH_take (i := 4) (v := .slice SA sn sc) rfl (by kernel_rfl) (by kernel_rfl) (by kernel_rfl) (fun _ _ _ h => h) (Or.inl ⟨by rfl, fun w hSw => by (try dsimp only at hSw); go_simp⟩) HS1.out ?_
      try simp only [List.getElem_toArray, List.getElem_cons_succ, List.getElem_cons_zero, Act.put, List.setIfInBounds_toArray, List.set_cons_zero, List.set_cons_succ]
      refine wpAnyH_ready (rs := [0]) (by kernel_rfl) (by simp) (AllReadyH.cons (o := _) rfl (fun K hK => ?_) AllReadyH.nil)
      go_simp
      obtain ⟨b1, hb1⟩ : ∃ b, wd.heap.size = b := ⟨_, rfl⟩
      obtain ⟨W4, hW4⟩ : ∃ W, wd.alloc (.cells #[] 24) = W := ⟨_, rfl⟩
      have HF4 := Lib.hid (show Fr Nob wd W4 by rw [← hW4]; exact (Fr.refl _ _).alloc _)
      have HOW4 := Lib.hid (show W4.ownsRow wd.heap.size 24 8 (.slice (some ⟨b1, 0, none⟩) 0 0) 0 [] by rw [← hW4, ← hb1]; exact World.ownsRow_lit (e := 24) (size := 8) (base := wd.heap.size) wd #[] 0 (Nat.le_refl _) (by decide) rfl)
      rw [hW4, hb1]
      clear hW4 hb1
      have HX4 := Lib.hid (HXd.out.fr HF4.out (fun h => h))
      have HFw4 := Lib.hid (HFd.out.same HF4.out)
      refine hK.out _ _ (HX4.out.cell 1) (fun _ => ?_)
      clear hK K
      try simp only [List.getElem_toArray, List.getElem_cons_succ, List.getElem_cons_zero, Act.put, List.setIfInBounds_toArray, List.set_cons_zero, List.set_cons_succ]
      refine wpAnyH_ready (rs := [2]) (by kernel_rfl) (by simp) (AllReadyH.cons (o := _) rfl (fun K hK => ?_) AllReadyH.nil)
      refine step_append_many _ Nob rfl _ _ 42 rfl wd.heap.size 24 iS _ 8 80 Tryz.underlying42 hiS hzS0 hzS1 hzS2 rfl (by decide) (.slice (some ⟨b1, 0, none⟩) 0 0) 0 [] rfl HOW4.out VA vn vc (stepC over) rfl (by rw [stepC_len, HVN.out]) (HV.out.row.fr HFw4.out (fun _ _ h => h.elim)) (stepC_one over) (by simp only [maxLen]; omega) (by omega) (by have := HF4.out.size; omega) ?_
      intro v5 W5 hown5 hf5
      rw [List.nil_append, Nat.zero_add] at hown5
      have HOW5 := Lib.hid hown5
      have HF5 := Lib.hid (show Fr Nob wd W5 from HF4.out.trans hf5 (fun k hk e => by have h1 := (World.ownsRow.lt HOW4.out k e).1; omega))
      clear hown5 hf5
      have HX5 := Lib.hid (HXd.out.fr HF5.out (fun h => h))
      have HFw5 := Lib.hid (HFd.out.same HF5.out)
      refine hK.out _ _ (HX5.out.cell 1) (fun _ => ?_)
      clear hK K
      try simp only [List.getElem_toArray, List.getElem_cons_succ, List.getElem_cons_zero, Act.put, List.setIfInBounds_toArray, List.set_cons_zero, List.set_cons_succ]
      refine wpAnyH_ready (rs := [5]) (by kernel_rfl) (by simp) (AllReadyH.cons (o := _) rfl (fun K hK => ?_) AllReadyH.nil)
      refine step_append_many _ Nob rfl _ _ 42 rfl wd.heap.size 24 iS _ 8 80 Tryz.underlying42 hiS hzS0 hzS1 hzS2 rfl (by decide) v5 vn (stepC over) rfl HOW5.out SA sn sc (stepC L) rfl (by rw [stepC_len, HLN.out]) ((HSL.out.row.fr HF2d.out (fun _ _ h => h.elim)).fr HF5.out (fun _ _ h => h.elim)) (stepC_one L) (by simp only [maxLen]; omega) (by omega) (by have := HF5.out.size; omega) ?_
      intro v6 W6 hown6 hf6
      have HOW6 := Lib.hid (show W6.ownsRow wd.heap.size 24 8 v6 (vn + sn) (stepC (over ++ L)) by rw [stepC, List.flatMap_append]; exact hown6)
      have HF6 := Lib.hid (show Fr Nob wd W6 from HF5.out.trans hf6 (fun k hk e => by have h1 := (World.ownsRow.lt HOW5.out k e).1; omega))
      clear hown6 hf6
      have HX6 := Lib.hid (HXd.out.fr HF6.out (fun h => h))
      have HFw6 := Lib.hid (HFd.out.same HF6.out)
      refine hK.out _ _ (HX6.out.cell 1) (fun _ => ?_)
      clear hK K
      try simp only [List.getElem_toArray, List.getElem_cons_succ, List.getElem_cons_zero, Act.put, List.setIfInBounds_toArray, List.set_cons_zero, List.set_cons_succ]
      refine wpAnyH_take (i := 6) (v := v6) rfl (by kernel_rfl) (by kernel_rfl) (by kernel_rfl) (fun _ _ _ h => h) (Or.inl ⟨by rfl, fun w hSw => by (try dsimp only at hSw); go_simp⟩) (HX6.out.cell 1) ?_
      try simp only [List.getElem_toArray, List.getElem_cons_succ, List.getElem_cons_zero, Act.put, List.setIfInBounds_toArray, List.set_cons_zero, List.set_cons_succ]
      refine wpAnyH_done (by kernel_rfl) ?_ _
      obtain ⟨AA, ac, rfl, hac, har⟩ := Rd.of_own (M := Nob) HOW6.out (fun _ _ h => h)
      have HAR := Lib.hid har
      have HAE := Lib.hid (show ∀ x ∈ over ++ L, Rd Nob W6 x.B (tokC x.s.l) ∧ x.s.l.length ≤ x.b from fun x hx => by
        rcases List.mem_append.1 hx with hx | hx
        · exact ⟨((HV.out.each x hx).fr HFw6.out (fun _ _ h => h.elim)), HV.out.cap x hx⟩
        · exact ⟨((HSL.out.each x hx).fr HF2d.out (fun _ _ h => h.elim)).fr HF6.out (fun _ _ h => h.elim), HSL.out.cap x hx⟩)
      have HDW := Lib.hid ((HDR.out.fr HF2d.out (fun _ _ h => h.elim)).fr HF6.out (fun _ _ h => h.elim))
      have HKW := Lib.hid ((HKR.out.fr HF2d.out (fun _ _ h => h.elim)).fr HF6.out (fun _ _ h => h.elim))
      have HSW := Lib.hid (HS.out.fr0 (show Fr Nob w1 W6 from (HF12.out.same HF2d.out).same HF6.out))
      obtain ⟨al, hal⟩ : ∃ al, over ++ L = al := ⟨_, rfl⟩
      obtain ⟨an, han⟩ : ∃ an, vn + sn = an := ⟨_, rfl⟩
      have HAL := Lib.hid (show al.length = an by rw [← hal, List.length_append, HVN.out, HLN.out, han])
      have HRUN := Lib.hid (show runF rs G (al.map StepA.s) l = (R.doc, 0) by rw [← hal, List.map_append, HSR.out]; exact HFO.out.run)
      have han40 : an ≤ 40 := by omega
      rw [hal] at HAR HAE
      rw [han]
      clear hal han HOW6 HOW5 HOW4 HX5 HX4 HXd HFd HF4 HF5 HFw4 HFw5 HS1 har hac HF6 HX3 HF3
      have HBw := Lib.hid (HL.out.fr HFw6.out (fun _ _ h => h.elim))
      have HGw := Lib.hid (HHG.out.fr HFw6.out (fun h => h))
      go_wp2_with fail
      go_loopg [10, 12] (an) (fun n s10 s12 wr => ∃ (k : Nat) (A : Option Addr) (d : List Tok) (c : Nat), n = an - k ∧ k ≤ an ∧ s10 = .slice A d.length c ∧ s12 = .int .i64 k ∧ Hid (Rd Nob wr A (tokC d) ∧ d.length ≤ c ∧ d.length ≤ 9223372036854775807) ∧ Hid (runF rs G ((al.drop k).map StepA.s) d = (R.doc, 0)) ∧ Hid (Fr Nob W6 wr))
      case atStart => exact ⟨0, BA, l, bc, rfl, Nat.zero_le _, by rw [HBN.out], rfl, ⟨HBw.out, HC.out, HN.out.1⟩, HRUN.out, Fr.refl _ _⟩
      case round =>
        obtain ⟨k, A, d, c, rfl, hk, rfl, rfl, HD, HRr, HF⟩ := hrel
        by_cases hlt : k < an
        · have ht : ((k : Int) < (an : Int)) := by omega
          have hlt' : k < al.length := by rw [HAL.out]; exact hlt
          obtain ⟨ad, rfl, hnb, hbl, h0, hj⟩ := Rd.elt StepA.cells_len (by omega) (HAR.out.fr HF.out (fun _ _ h => h.elim)) hlt'
          have hxe := HAE.out _ (List.getElem_mem hlt')
          have hrr := HRr.out
          rw [List.drop_eq_getElem_cons hlt', List.map_cons] at hrr
          have HRk := Lib.hid (runF_ok hrr)
          obtain ⟨⟨s, B, b⟩, hx⟩ : ∃ x, al[k] = x := ⟨_, rfl⟩
          rw [hx] at h0 hj hxe HRk
          have HXE := Lib.hid hxe
          have q1 := hj 0 (by omega)
          have q2 := hj 1 (by omega)
          have q3 := hj 2 (by omega)
          have q4 := hj 3 (by omega)
          have q5 := hj 4 (by omega)
          have q6 := hj 5 (by omega)
          have q7 := hj 6 (by omega)
          clear hj hx hxe hrr hnb HRr
          simp only [StepA.cells, StepM.cells, List.getElem?_cons_zero, List.getElem?_cons_succ] at h0 q1 q2 q3 q4 q5 q6 q7
          go_wp2_with fail
          have hap := apply_any Nob s A B d c b wr HD.out.1 (HXE.out.1.fr HF.out (fun _ _ h => h.elim)) HD.out.2.1 HXE.out.2 HD.out.2.2
          simp only [StepM.cells] at hap
          refine hap.mono ?_
          clear hap h0 q1 q2 q3 q4 q5 q6 q7 hbl
          rintro e w7 ⟨v7, rfl, hv7, _, hF7⟩
          have hz := doE_zero HRk.out.1
          obtain ⟨g7, rfl, hg7, hb7⟩ := hv7 hz.1
          rw [hz.1]
          have HZ := Lib.hid hz
          have HB7 := Lib.hid hb7
          have HF7 := Lib.hid (HF.out.same hF7)
          clear hv7 hz hb7 hF7
          go_wp2_with fail
          have hdl := flat_short (applyE_zero HZ.out.1).2.2.2
          refine (schcheck_any Nob Nob p rs G HSO.out (.slice (some ⟨g7, 0, none⟩) (doF s d).length (doF s d).length) (doF s d) w7 (HSW.out.fr0 HF7.out) ⟨_, _, rfl, Nat.le_refl _, fun _ => ⟨_, rfl, fun h => h, fun j u hu => by rw [add_lit]; exact (HB7.out.cell j).trans hu⟩⟩ (by omega)).mono ?_
          rintro e w8 ⟨rfl, hF8⟩
          rw [HZ.out.2]
          have HB8 := Lib.hid (HB7.out.fr hF8 (fun h => h))
          have HF8 := Lib.hid (HF7.out.same hF8)
          obtain ⟨ci, hci⟩ : ∃ ci, (checkF rs G (doF s d)).1 = ci := ⟨_, rfl⟩
          rw [hci]
          have HDL := Lib.hid hdl
          clear hF8 hci HB7 HF7 hdl hg7
          obtain ⟨xl, hxl⟩ : ∃ n, (doF s d).length = n := ⟨_, rfl⟩
          have HXL := Lib.hid hxl
          rw [hxl]
          clear hxl
          go_wp2_with fail
          go_roundg (an - (k + 1))
          case measure => omega
          case rel => exact ⟨k + 1, _, doF s d, _, rfl, by omega, by rw [HXL.out], by first | rfl | go_num, ⟨fun _ => ⟨_, rfl, fun h => h, fun j u hu => by rw [add_lit]; exact (HB8.out.cell j).trans hu⟩, Nat.le_refl _, by have := HDL.out; omega⟩, HRk.out.2, HF8.out⟩
        · have ht : ¬ ((k : Int) < (an : Int)) := by omega
          have HDE := Lib.hid (show d = R.doc by
            have h := HRr.out
            rw [List.drop_eq_nil_of_le (by rw [HAL.out]; omega), List.map_nil, runF] at h
            injection h with h)
          have HFX := Lib.hid (HFw6.out.same HF.out)
          have HX7 := Lib.hid (HX6.out.fr HF.out (fun h => h))
          have HK7 := Lib.hid (HKW.out.fr HF.out (fun _ _ h => h.elim))
          have HD7 := Lib.hid (HDW.out.fr HF.out (fun _ _ h => h.elim))
          have HDD := Lib.hid HD.out
          clear HRr HF HD HAR HAE HRUN HSW HBw HX6 HKW HDW hk hlt
          go_wp2_with fail
          go_loopg [17] (kn) (fun n s17 wq => ∃ (k : Nat), n = kn - k ∧ k ≤ kn ∧ s17 = .int .i64 k ∧ Hid (Fr Nob wr wq))
          case atStart => exact ⟨0, rfl, Nat.zero_le _, rfl, Fr.refl _ _⟩
          case round =>
            clear ht
            obtain ⟨k, rfl, hk, rfl, HF⟩ := hrel
            have x2 := (HX7.out.fr HF.out (fun h => h)).cell 2
            have x0 := (HX7.out.fr HF.out (fun h => h)).cell 0
            have x1 := (HX7.out.fr HF.out (fun h => h)).cell 1
            have xl := (HX7.out.fr HF.out (fun h => h)).lt
            simp only [List.getElem?_cons_zero, List.getElem?_cons_succ] at x0 x1 x2
            by_cases hlt : k < kn
            · have ht : ((k : Int) < (kn : Int)) := by omega
              clear x0 x1
              have hk1 : k < R.kept.length := by rw [HKN.out]; exact hlt
              obtain ⟨adk, rfl, c0⟩ := kept_at (HK7.out.fr HF.out (fun _ _ h => h.elim)) hk1
              have hlo := HFO.out.lo _ (List.getElem_mem hk1)
              rw [List.length_map, HON.out] at hlo
              have hup : ∀ j (hj : j < R.kept.length), j < k → R.kept[j] < R.kept[k] := fun j hj hjk => (List.pairwise_iff_getElem.1 HFO.out.up) j k hj hk1 hjk
              by_cases hk0 : k = 0
              · clear hup
                have HK0 := Lib.hid hk0
                clear hk0
                generalize R.kept[k] = t at c0 hlo
                have t1 : ¬ ((t : Int) < 0) := by omega
                have t2 : ¬ ((on : Int) ≤ (t : Int)) := by omega
                go_upto_region 20 with (fail)
                have HSS := Lib.hid (show (fun W => W.cell? ⟨X, 2, none⟩ = some (.slice (some adk) kn kc) ∧ W.cell? (adk.add k) = some (.int .i64 (t : Int))) wr.drew from ⟨x2, c0⟩)
                refine wp_region_held_drew (S := fun W => W.cell? ⟨X, 2, none⟩ = some (.slice (some adk) kn kc) ∧ W.cell? (adk.add k) = some (.int .i64 (t : Int))) (by kernel_rfl) ⟨x2, c0⟩ (fun _ => ?_)
                clear x2 c0 xl
                have HFd := Lib.hid (HF.out.drew)
                generalize wr.drew = wd at HSS HFd ⊢
                refine wpAnyH_take (i := 0) (v := .pointer (some ⟨X, 2, none⟩)) rfl (by kernel_rfl) (by kernel_rfl) (by kernel_rfl) (fun _ _ _ h => h) (Or.inl ⟨by rfl, fun w hSw => by (try dsimp only at hSw); obtain ⟨s1, s2⟩ := hSw; go_simp⟩) HSS.out ?_
                try simp only [List.getElem_toArray, List.getElem_cons_succ, List.getElem_cons_zero, Act.put, List.setIfInBounds_toArray, List.set_cons_zero, List.set_cons_succ]
                refine wpAnyH_take (i := 1) (v := .slice (some adk) kn kc) rfl (by kernel_rfl) (by kernel_rfl) (by kernel_rfl) (fun _ _ _ h => h) (Or.inl ⟨by rfl, fun w hSw => by (try dsimp only at hSw); obtain ⟨s1, s2⟩ := hSw; go_simp⟩) HSS.out ?_
                try simp only [List.getElem_toArray, List.getElem_cons_succ, List.getElem_cons_zero, Act.put, List.setIfInBounds_toArray, List.set_cons_zero, List.set_cons_succ]
                refine wpAnyH_take (i := 2) (v := .int .i64 (k : Int)) rfl (by kernel_rfl) (by kernel_rfl) (by kernel_rfl) (fun _ _ _ h => h) (Or.inl ⟨by rfl, fun w hSw => by (try dsimp only at hSw); obtain ⟨s1, s2⟩ := hSw; go_simp⟩) HSS.out ?_
                try simp only [List.getElem_toArray, List.getElem_cons_succ, List.getElem_cons_zero, Act.put, List.setIfInBounds_toArray, List.set_cons_zero, List.set_cons_succ]
                refine wpAnyH_take (i := 3) (v := .pointer (some (adk.add k))) rfl (by kernel_rfl) (by kernel_rfl) (by kernel_rfl) (fun _ _ _ h => h) (Or.inl ⟨by rfl, fun w hSw => by (try dsimp only at hSw); obtain ⟨s1, s2⟩ := hSw; go_simp⟩) HSS.out ?_
                try simp only [List.getElem_toArray, List.getElem_cons_succ, List.getElem_cons_zero, Act.put, List.setIfInBounds_toArray, List.set_cons_zero, List.set_cons_succ]
                refine wpAnyH_take (i := 4) (v := .int .i64 (t : Int)) rfl (by kernel_rfl) (by kernel_rfl) (by kernel_rfl) (fun _ _ _ h => h) (Or.inl ⟨by rfl, fun w hSw => by (try dsimp only at hSw); obtain ⟨s1, s2⟩ := hSw; go_simp⟩) HSS.out ?_
                try simp only [List.getElem_toArray, List.getElem_cons_succ, List.getElem_cons_zero, Act.put, List.setIfInBounds_toArray, List.set_cons_zero, List.set_cons_succ]
                refine wpAnyH_take (i := 5) (v := .bool false) rfl (by kernel_rfl) (by kernel_rfl) (by kernel_rfl) (fun _ _ _ h => h) (Or.inl ⟨by rfl, fun w hSw => by (try dsimp only at hSw); obtain ⟨s1, s2⟩ := hSw; go_simp⟩) HSS.out ?_
                try simp only [List.getElem_toArray, List.getElem_cons_succ, List.getElem_cons_zero, Act.put, List.setIfInBounds_toArray, List.set_cons_zero, List.set_cons_succ]
                refine wpAnyH_take (i := 6) (v := .bool false) rfl (by kernel_rfl) (by kernel_rfl) (by kernel_rfl) (fun _ _ _ h => h) (Or.inl ⟨by rfl, fun w hSw => by (try dsimp only at hSw); obtain ⟨s1, s2⟩ := hSw; go_simp⟩) HSS.out ?_
                try simp only [List.getElem_toArray, List.getElem_cons_succ, List.getElem_cons_zero, Act.put, List.setIfInBounds_toArray, List.set_cons_zero, List.set_cons_succ]
                refine wpAnyH_take (i := 7) (v := .pointer (some ⟨X, 2, none⟩)) rfl (by kernel_rfl) (by kernel_rfl) (by kernel_rfl) (fun _ _ _ h => h) (Or.inl ⟨by rfl, fun w hSw => by (try dsimp only at hSw); obtain ⟨s1, s2⟩ := hSw; go_simp⟩) HSS.out ?_
                try simp only [List.getElem_toArray, List.getElem_cons_succ, List.getElem_cons_zero, Act.put, List.setIfInBounds_toArray, List.set_cons_zero, List.set_cons_succ]
                refine wpAnyH_take (i := 8) (v := .slice (some adk) kn kc) rfl (by kernel_rfl) (by kernel_rfl) (by kernel_rfl) (fun _ _ _ h => h) (Or.inl ⟨by rfl, fun w hSw => by (try dsimp only at hSw); obtain ⟨s1, s2⟩ := hSw; go_simp⟩) HSS.out ?_
                try simp only [List.getElem_toArray, List.getElem_cons_succ, List.getElem_cons_zero, Act.put, List.setIfInBounds_toArray, List.set_cons_zero, List.set_cons_succ]
                refine wpAnyH_take (i := 9) (v := .int .i64 (k : Int)) rfl (by kernel_rfl) (by kernel_rfl) (by kernel_rfl) (fun _ _ _ h => h) (Or.inl ⟨by rfl, fun w hSw => by (try dsimp only at hSw); obtain ⟨s1, s2⟩ := hSw; go_simp⟩) HSS.out ?_
                try simp only [List.getElem_toArray, List.getElem_cons_succ, List.getElem_cons_zero, Act.put, List.setIfInBounds_toArray, List.set_cons_zero, List.set_cons_succ]
                refine wpAnyH_take (i := 10) (v := .pointer (some (adk.add k))) rfl (by kernel_rfl) (by kernel_rfl) (by kernel_rfl) (fun _ _ _ h => h) (Or.inl ⟨by rfl, fun w hSw => by (try dsimp only at hSw); obtain ⟨s1, s2⟩ := hSw; go_simp⟩) HSS.out ?_
                try simp only [List.getElem_toArray, List.getElem_cons_succ, List.getElem_cons_zero, Act.put, List.setIfInBounds_toArray, List.set_cons_zero, List.set_cons_succ]
                refine wpAnyH_take (i := 11) (v := .int .i64 (t : Int)) rfl (by kernel_rfl) (by kernel_rfl) (by kernel_rfl) (fun _ _ _ h => h) (Or.inl ⟨by rfl, fun w hSw => by (try dsimp only at hSw); obtain ⟨s1, s2⟩ := hSw; go_simp⟩) HSS.out ?_
                try simp only [List.getElem_toArray, List.getElem_cons_succ, List.getElem_cons_zero, Act.put, List.setIfInBounds_toArray, List.set_cons_zero, List.set_cons_succ]
                refine wpAnyH_take (i := 12) (v := .slice OA on oc) rfl (by kernel_rfl) (by kernel_rfl) (by kernel_rfl) (fun _ _ _ h => h) (Or.inl ⟨by rfl, fun w hSw => by (try dsimp only at hSw); obtain ⟨s1, s2⟩ := hSw; go_simp⟩) HSS.out ?_
                try simp only [List.getElem_toArray, List.getElem_cons_succ, List.getElem_cons_zero, Act.put, List.setIfInBounds_toArray, List.set_cons_zero, List.set_cons_succ]
                refine wpAnyH_take (i := 13) (v := .int .i64 (on : Int)) rfl (by kernel_rfl) (by kernel_rfl) (by kernel_rfl) (fun _ _ _ h => h) (Or.inl ⟨by rfl, fun w hSw => by (try dsimp only at hSw); obtain ⟨s1, s2⟩ := hSw; go_simp⟩) HSS.out ?_
                try simp only [List.getElem_toArray, List.getElem_cons_succ, List.getElem_cons_zero, Act.put, List.setIfInBounds_toArray, List.set_cons_zero, List.set_cons_succ]
                refine wpAnyH_take (i := 14) (v := .bool false) rfl (by kernel_rfl) (by kernel_rfl) (by kernel_rfl) (fun _ _ _ h => h) (Or.inl ⟨by rfl, fun w hSw => by (try dsimp only at hSw); obtain ⟨s1, s2⟩ := hSw; go_simp⟩) HSS.out ?_
                try simp only [List.getElem_toArray, List.getElem_cons_succ, List.getElem_cons_zero, Act.put, List.setIfInBounds_toArray, List.set_cons_zero, List.set_cons_succ]
                refine wpAnyH_take (i := 15) (v := .bool false) rfl (by kernel_rfl) (by kernel_rfl) (by kernel_rfl) (fun _ _ _ h => h) (Or.inl ⟨by rfl, fun w hSw => by (try dsimp only at hSw); obtain ⟨s1, s2⟩ := hSw; go_simp⟩) HSS.out ?_
                try simp only [List.getElem_toArray, List.getElem_cons_succ, List.getElem_cons_zero, Act.put, List.setIfInBounds_toArray, List.set_cons_zero, List.set_cons_succ]
                refine wpAnyH_take (i := 16) (v := .bool false) rfl (by kernel_rfl) (by kernel_rfl) (by kernel_rfl) (fun _ _ _ h => h) (Or.inl ⟨by rfl, fun w hSw => by (try dsimp only at hSw); obtain ⟨s1, s2⟩ := hSw; go_simp⟩) HSS.out ?_
                try simp only [List.getElem_toArray, List.getElem_cons_succ, List.getElem_cons_zero, Act.put, List.setIfInBounds_toArray, List.set_cons_zero, List.set_cons_succ]
                refine wpAnyH_take (i := 17) (v := .int .i64 (k : Int)) rfl (by kernel_rfl) (by kernel_rfl) (by kernel_rfl) (fun _ _ _ h => h) (Or.inl ⟨by rfl, fun w hSw => by (try dsimp only at hSw); obtain ⟨s1, s2⟩ := hSw; go_simp⟩) HSS.out ?_
                try simp only [List.getElem_toArray, List.getElem_cons_succ, List.getElem_cons_zero, Act.put, List.setIfInBounds_toArray, List.set_cons_zero, List.set_cons_succ]
                refine wpAnyH_take (i := 18) (v := .bool false) rfl (by kernel_rfl) (by kernel_rfl) (by kernel_rfl) (fun _ _ _ h => h) (Or.inl ⟨by rfl, fun w hSw => by (try dsimp only at hSw); obtain ⟨s1, s2⟩ := hSw; go_simp; exact HK0.out⟩) HSS.out ?_
                try simp only [List.getElem_toArray, List.getElem_cons_succ, List.getElem_cons_zero, Act.put, List.setIfInBounds_toArray, List.set_cons_zero, List.set_cons_succ]
                refine wpAnyH_take (i := 19) (v := .bool false) rfl (by kernel_rfl) (by kernel_rfl) (by kernel_rfl) (fun _ _ _ h => h) (Or.inl ⟨by rfl, fun w hSw => by (try dsimp only at hSw); obtain ⟨s1, s2⟩ := hSw; go_simp⟩) HSS.out ?_
                try simp only [List.getElem_toArray, List.getElem_cons_succ, List.getElem_cons_zero, Act.put, List.setIfInBounds_toArray, List.set_cons_zero, List.set_cons_succ]
                refine wpAnyH_take (i := 20) (v := undef) rfl (by kernel_rfl) (by kernel_rfl) (by kernel_rfl) (fun _ _ _ h => h) (Or.inr ⟨by kernel_rfl, rfl⟩) HSS.out ?_
                try simp only [List.getElem_toArray, List.getElem_cons_succ, List.getElem_cons_zero, Act.put, List.setIfInBounds_toArray, List.set_cons_zero, List.set_cons_succ]
                refine wpAnyH_take (i := 21) (v := undef) rfl (by kernel_rfl) (by kernel_rfl) (by kernel_rfl) (fun _ _ _ h => h) (Or.inr ⟨by kernel_rfl, rfl⟩) HSS.out ?_
                try simp only [List.getElem_toArray, List.getElem_cons_succ, List.getElem_cons_zero, Act.put, List.setIfInBounds_toArray, List.set_cons_zero, List.set_cons_succ]
                refine wpAnyH_take (i := 22) (v := undef) rfl (by kernel_rfl) (by kernel_rfl) (by kernel_rfl) (fun _ _ _ h => h) (Or.inr ⟨by kernel_rfl, rfl⟩) HSS.out ?_
                try simp only [List.getElem_toArray, List.getElem_cons_succ, List.getElem_cons_zero, Act.put, List.setIfInBounds_toArray, List.set_cons_zero, List.set_cons_succ]
                refine wpAnyH_take (i := 23) (v := undef) rfl (by kernel_rfl) (by kernel_rfl) (by kernel_rfl) (fun _ _ _ h => h) (Or.inr ⟨by kernel_rfl, rfl⟩) HSS.out ?_
                try simp only [List.getElem_toArray, List.getElem_cons_succ, List.getElem_cons_zero, Act.put, List.setIfInBounds_toArray, List.set_cons_zero, List.set_cons_succ]
                refine wpAnyH_take (i := 24) (v := undef) rfl (by kernel_rfl) (by kernel_rfl) (by kernel_rfl) (fun _ _ _ h => h) (Or.inr ⟨by kernel_rfl, rfl⟩) HSS.out ?_
                try simp only [List.getElem_toArray, List.getElem_cons_succ, List.getElem_cons_zero, Act.put, List.setIfInBounds_toArray, List.set_cons_zero, List.set_cons_succ]
                refine wpAnyH_take (i := 25) (v := undef) rfl (by kernel_rfl) (by kernel_rfl) (by kernel_rfl) (fun _ _ _ h => h) (Or.inr ⟨by kernel_rfl, rfl⟩) HSS.out ?_
                try simp only [List.getElem_toArray, List.getElem_cons_succ, List.getElem_cons_zero, Act.put, List.setIfInBounds_toArray, List.set_cons_zero, List.set_cons_succ]
                refine wpAnyH_take (i := 26) (v := undef) rfl (by kernel_rfl) (by kernel_rfl) (by kernel_rfl) (fun _ _ _ h => h) (Or.inr ⟨by kernel_rfl, rfl⟩) HSS.out ?_
                try simp only [List.getElem_toArray, List.getElem_cons_succ, List.getElem_cons_zero, Act.put, List.setIfInBounds_toArray, List.set_cons_zero, List.set_cons_succ]
                refine wpAnyH_take (i := 27) (v := undef) rfl (by kernel_rfl) (by kernel_rfl) (by kernel_rfl) (fun _ _ _ h => h) (Or.inr ⟨by kernel_rfl, rfl⟩) HSS.out ?_
                try simp only [List.getElem_toArray, List.getElem_cons_succ, List.getElem_cons_zero, Act.put, List.setIfInBounds_toArray, List.set_cons_zero, List.set_cons_succ]
                refine wpAnyH_take (i := 28) (v := undef) rfl (by kernel_rfl) (by kernel_rfl) (by kernel_rfl) (fun _ _ _ h => h) (Or.inr ⟨by kernel_rfl, rfl⟩) HSS.out ?_
                try simp only [List.getElem_toArray, List.getElem_cons_succ, List.getElem_cons_zero, Act.put, List.setIfInBounds_toArray, List.set_cons_zero, List.set_cons_succ]
                refine wpAnyH_take (i := 29) (v := undef) rfl (by kernel_rfl) (by kernel_rfl) (by kernel_rfl) (fun _ _ _ h => h) (Or.inr ⟨by kernel_rfl, rfl⟩) HSS.out ?_
                try simp only [List.getElem_toArray, List.getElem_cons_succ, List.getElem_cons_zero, Act.put, List.setIfInBounds_toArray, List.set_cons_zero, List.set_cons_succ]
                refine wpAnyH_take (i := 30) (v := undef) rfl (by kernel_rfl) (by kernel_rfl) (by kernel_rfl) (fun _ _ _ h => h) (Or.inr ⟨by kernel_rfl, rfl⟩) HSS.out ?_
                try simp only [List.getElem_toArray, List.getElem_cons_succ, List.getElem_cons_zero, Act.put, List.setIfInBounds_toArray, List.set_cons_zero, List.set_cons_succ]
                refine wpAnyH_take (i := 31) (v := undef) rfl (by kernel_rfl) (by kernel_rfl) (by kernel_rfl) (fun _ _ _ h => h) (Or.inr ⟨by kernel_rfl, rfl⟩) HSS.out ?_
                try simp only [List.getElem_toArray, List.getElem_cons_succ, List.getElem_cons_zero, Act.put, List.setIfInBounds_toArray, List.set_cons_zero, List.set_cons_succ]
                refine wpAnyH_take (i := 32) (v := .bool false) rfl (by kernel_rfl) (by kernel_rfl) (by kernel_rfl) (fun _ _ _ h => h) (Or.inl ⟨by rfl, fun w hSw => by (try dsimp only at hSw); obtain ⟨s1, s2⟩ := hSw; go_simp⟩) HSS.out ?_
                try simp only [List.getElem_toArray, List.getElem_cons_succ, List.getElem_cons_zero, Act.put, List.setIfInBounds_toArray, List.set_cons_zero, List.set_cons_succ]
                refine wpAnyH_take (i := 33) (v := .bool false) rfl (by kernel_rfl) (by kernel_rfl) (by kernel_rfl) (fun _ _ _ h => h) (Or.inl ⟨by rfl, fun w hSw => by (try dsimp only at hSw); obtain ⟨s1, s2⟩ := hSw; go_simp⟩) HSS.out ?_
                try simp only [List.getElem_toArray, List.getElem_cons_succ, List.getElem_cons_zero, Act.put, List.setIfInBounds_toArray, List.set_cons_zero, List.set_cons_succ]
                refine wpAnyH_done (by kernel_rfl) ?_ _
                clear HSS
                go_wp2_with fail
                go_roundg (kn - (k + 1))
                case measure => omega
                case rel => exact ⟨k + 1, rfl, by omega, by first | rfl | go_num, HFd.out⟩
              · obtain ⟨j, hj⟩ : ∃ j, k = j + 1 := ⟨k - 1, by omega⟩
                have hj1 : j < R.kept.length := by omega
                have HK0 := Lib.hid (show 0 < k by omega)
                obtain ⟨adj, had, c1⟩ := kept_at (HK7.out.fr HF.out (fun _ _ h => h.elim)) hj1
                injection had with had
                subst had
                have hu := hup j hj1 (by omega)
                generalize R.kept[k] = t at c0 hlo hu
                generalize R.kept[j] = u at c1 hu
                have t1 : ¬ ((t : Int) < 0) := by omega
                have t2 : ¬ ((on : Int) ≤ (t : Int)) := by omega
                have t3 : ¬ ((t : Int) ≤ (u : Int)) := by omega
                have wj : IntKind.i64.wrap ((k : Int) - 1) = (j : Int) := by rw [IntKind.wrap_i64]; omega
                have hjn : (j : Int) < (kn : Int) := by omega
                clear hup hj hk0
                go_upto_region 20 with (fail)
                have HSS := Lib.hid (show (fun W => W.cell? ⟨X, 2, none⟩ = some (.slice (some adk) kn kc) ∧ W.cell? (adk.add k) = some (.int .i64 (t : Int)) ∧ W.cell? (adk.add j) = some (.int .i64 (u : Int))) wr.drew from ⟨x2, c0, c1⟩)
                refine wp_region_held_drew (S := fun W => W.cell? ⟨X, 2, none⟩ = some (.slice (some adk) kn kc) ∧ W.cell? (adk.add k) = some (.int .i64 (t : Int)) ∧ W.cell? (adk.add j) = some (.int .i64 (u : Int))) (by kernel_rfl) ⟨x2, c0, c1⟩ (fun _ => ?_)
                clear x2 c0 c1 xl
                have HFd := Lib.hid (HF.out.drew)
                generalize wr.drew = wd at HSS HFd ⊢
                refine wpAnyH_take (i := 0) (v := .pointer (some ⟨X, 2, none⟩)) rfl (by kernel_rfl) (by kernel_rfl) (by kernel_rfl) (fun _ _ _ h => h) (Or.inl ⟨by rfl, fun w hSw => by (try dsimp only at hSw); obtain ⟨s1, s2, s3⟩ := hSw; go_simp⟩) HSS.out ?_
                try simp only [List.getElem_toArray, List.getElem_cons_succ, List.getElem_cons_zero, Act.put, List.setIfInBounds_toArray, List.set_cons_zero, List.set_cons_succ]
                refine wpAnyH_take (i := 1) (v := .slice (some adk) kn kc) rfl (by kernel_rfl) (by kernel_rfl) (by kernel_rfl) (fun _ _ _ h => h) (Or.inl ⟨by rfl, fun w hSw => by (try dsimp only at hSw); obtain ⟨s1, s2, s3⟩ := hSw; go_simp⟩) HSS.out ?_
                try simp only [List.getElem_toArray, List.getElem_cons_succ, List.getElem_cons_zero, Act.put, List.setIfInBounds_toArray, List.set_cons_zero, List.set_cons_succ]
                refine wpAnyH_take (i := 2) (v := .int .i64 (k : Int)) rfl (by kernel_rfl) (by kernel_rfl) (by kernel_rfl) (fun _ _ _ h => h) (Or.inl ⟨by rfl, fun w hSw => by (try dsimp only at hSw); obtain ⟨s1, s2, s3⟩ := hSw; go_simp⟩) HSS.out ?_
                try simp only [List.getElem_toArray, List.getElem_cons_succ, List.getElem_cons_zero, Act.put, List.setIfInBounds_toArray, List.set_cons_zero, List.set_cons_succ]
                refine wpAnyH_take (i := 3) (v := .pointer (some (adk.add k))) rfl (by kernel_rfl) (by kernel_rfl) (by kernel_rfl) (fun _ _ _ h => h) (Or.inl ⟨by rfl, fun w hSw => by (try dsimp only at hSw); obtain ⟨s1, s2, s3⟩ := hSw; go_simp⟩) HSS.out ?_
                try simp only [List.getElem_toArray, List.getElem_cons_succ, List.getElem_cons_zero, Act.put, List.setIfInBounds_toArray, List.set_cons_zero, List.set_cons_succ]
                refine wpAnyH_take (i := 4) (v := .int .i64 (t : Int)) rfl (by kernel_rfl) (by kernel_rfl) (by kernel_rfl) (fun _ _ _ h => h) (Or.inl ⟨by rfl, fun w hSw => by (try dsimp only at hSw); obtain ⟨s1, s2, s3⟩ := hSw; go_simp⟩) HSS.out ?_
                try simp only [List.getElem_toArray, List.getElem_cons_succ, List.getElem_cons_zero, Act.put, List.setIfInBounds_toArray, List.set_cons_zero, List.set_cons_succ]
                refine wpAnyH_take (i := 5) (v := .bool false) rfl (by kernel_rfl) (by kernel_rfl) (by kernel_rfl) (fun _ _ _ h => h) (Or.inl ⟨by rfl, fun w hSw => by (try dsimp only at hSw); obtain ⟨s1, s2, s3⟩ := hSw; go_simp⟩) HSS.out ?_
                try simp only [List.getElem_toArray, List.getElem_cons_succ, List.getElem_cons_zero, Act.put, List.setIfInBounds_toArray, List.set_cons_zero, List.set_cons_succ]
                refine wpAnyH_take (i := 6) (v := .bool false) rfl (by kernel_rfl) (by kernel_rfl) (by kernel_rfl) (fun _ _ _ h => h) (Or.inl ⟨by rfl, fun w hSw => by (try dsimp only at hSw); obtain ⟨s1, s2, s3⟩ := hSw; go_simp⟩) HSS.out ?_
                try simp only [List.getElem_toArray, List.getElem_cons_succ, List.getElem_cons_zero, Act.put, List.setIfInBounds_toArray, List.set_cons_zero, List.set_cons_succ]
                refine wpAnyH_take (i := 7) (v := .pointer (some ⟨X, 2, none⟩)) rfl (by kernel_rfl) (by kernel_rfl) (by kernel_rfl) (fun _ _ _ h => h) (Or.inl ⟨by rfl, fun w hSw => by (try dsimp only at hSw); obtain ⟨s1, s2, s3⟩ := hSw; go_simp⟩) HSS.out ?_
                try simp only [List.getElem_toArray, List.getElem_cons_succ, List.getElem_cons_zero, Act.put, List.setIfInBounds_toArray, List.set_cons_zero, List.set_cons_succ]
                refine wpAnyH_take (i := 8) (v := .slice (some adk) kn kc) rfl (by kernel_rfl) (by kernel_rfl) (by kernel_rfl) (fun _ _ _ h => h) (Or.inl ⟨by rfl, fun w hSw => by (try dsimp only at hSw); obtain ⟨s1, s2, s3⟩ := hSw; go_simp⟩) HSS.out ?_
                try simp only [List.getElem_toArray, List.getElem_cons_succ, List.getElem_cons_zero, Act.put, List.setIfInBounds_toArray, List.set_cons_zero, List.set_cons_succ]
                refine wpAnyH_take (i := 9) (v := .int .i64 (k : Int)) rfl (by kernel_rfl) (by kernel_rfl) (by kernel_rfl) (fun _ _ _ h => h) (Or.inl ⟨by rfl, fun w hSw => by (try dsimp only at hSw); obtain ⟨s1, s2, s3⟩ := hSw; go_simp⟩) HSS.out ?_
                try simp only [List.getElem_toArray, List.getElem_cons_succ, List.getElem_cons_zero, Act.put, List.setIfInBounds_toArray, List.set_cons_zero, List.set_cons_succ]
                refine wpAnyH_take (i := 10) (v := .pointer (some (adk.add k))) rfl (by kernel_rfl) (by kernel_rfl) (by kernel_rfl) (fun _ _ _ h => h) (Or.inl ⟨by rfl, fun w hSw => by (try dsimp only at hSw); obtain ⟨s1, s2, s3⟩ := hSw; go_simp⟩) HSS.out ?_
                try simp only [List.getElem_toArray, List.getElem_cons_succ, List.getElem_cons_zero, Act.put, List.setIfInBounds_toArray, List.set_cons_zero, List.set_cons_succ]
                refine wpAnyH_take (i := 11) (v := .int .i64 (t : Int)) rfl (by kernel_rfl) (by kernel_rfl) (by kernel_rfl) (fun _ _ _ h => h) (Or.inl ⟨by rfl, fun w hSw => by (try dsimp only at hSw); obtain ⟨s1, s2, s3⟩ := hSw; go_simp⟩) HSS.out ?_
                try simp only [List.getElem_toArray, List.getElem_cons_succ, List.getElem_cons_zero, Act.put, List.setIfInBounds_toArray, List.set_cons_zero, List.set_cons_succ]
                refine wpAnyH_take (i := 12) (v := .slice OA on oc) rfl (by kernel_rfl) (by kernel_rfl) (by kernel_rfl) (fun _ _ _ h => h) (Or.inl ⟨by rfl, fun w hSw => by (try dsimp only at hSw); obtain ⟨s1, s2, s3⟩ := hSw; go_simp⟩) HSS.out ?_
                try simp only [List.getElem_toArray, List.getElem_cons_succ, List.getElem_cons_zero, Act.put, List.setIfInBounds_toArray, List.set_cons_zero, List.set_cons_succ]
                refine wpAnyH_take (i := 13) (v := .int .i64 (on : Int)) rfl (by kernel_rfl) (by kernel_rfl) (by kernel_rfl) (fun _ _ _ h => h) (Or.inl ⟨by rfl, fun w hSw => by (try dsimp only at hSw); obtain ⟨s1, s2, s3⟩ := hSw; go_simp⟩) HSS.out ?_
                try simp only [List.getElem_toArray, List.getElem_cons_succ, List.getElem_cons_zero, Act.put, List.setIfInBounds_toArray, List.set_cons_zero, List.set_cons_succ]
                refine wpAnyH_take (i := 14) (v := .bool false) rfl (by kernel_rfl) (by kernel_rfl) (by kernel_rfl) (fun _ _ _ h => h) (Or.inl ⟨by rfl, fun w hSw => by (try dsimp only at hSw); obtain ⟨s1, s2, s3⟩ := hSw; go_simp⟩) HSS.out ?_
                try simp only [List.getElem_toArray, List.getElem_cons_succ, List.getElem_cons_zero, Act.put, List.setIfInBounds_toArray, List.set_cons_zero, List.set_cons_succ]
                refine wpAnyH_take (i := 15) (v := .bool false) rfl (by kernel_rfl) (by kernel_rfl) (by kernel_rfl) (fun _ _ _ h => h) (Or.inl ⟨by rfl, fun w hSw => by (try dsimp only at hSw); obtain ⟨s1, s2, s3⟩ := hSw; go_simp⟩) HSS.out ?_
                try simp only [List.getElem_toArray, List.getElem_cons_succ, List.getElem_cons_zero, Act.put, List.setIfInBounds_toArray, List.set_cons_zero, List.set_cons_succ]
                refine wpAnyH_take (i := 16) (v := .bool false) rfl (by kernel_rfl) (by kernel_rfl) (by kernel_rfl) (fun _ _ _ h => h) (Or.inl ⟨by rfl, fun w hSw => by (try dsimp only at hSw); obtain ⟨s1, s2, s3⟩ := hSw; go_simp⟩) HSS.out ?_
                try simp only [List.getElem_toArray, List.getElem_cons_succ, List.getElem_cons_zero, Act.put, List.setIfInBounds_toArray, List.set_cons_zero, List.set_cons_succ]
                refine wpAnyH_take (i := 17) (v := .int .i64 (k : Int)) rfl (by kernel_rfl) (by kernel_rfl) (by kernel_rfl) (fun _ _ _ h => h) (Or.inl ⟨by rfl, fun w hSw => by (try dsimp only at hSw); obtain ⟨s1, s2, s3⟩ := hSw; go_simp⟩) HSS.out ?_
                try simp only [List.getElem_toArray, List.getElem_cons_succ, List.getElem_cons_zero, Act.put, List.setIfInBounds_toArray, List.set_cons_zero, List.set_cons_succ]
                refine wpAnyH_take (i := 18) (v := .bool true) rfl (by kernel_rfl) (by kernel_rfl) (by kernel_rfl) (fun _ _ _ h => h) (Or.inl ⟨by rfl, fun w hSw => by (try dsimp only at hSw); obtain ⟨s1, s2, s3⟩ := hSw; go_simp; exact HK0.out⟩) HSS.out ?_
                try simp only [List.getElem_toArray, List.getElem_cons_succ, List.getElem_cons_zero, Act.put, List.setIfInBounds_toArray, List.set_cons_zero, List.set_cons_succ]
                refine wpAnyH_take (i := 19) (v := .bool true) rfl (by kernel_rfl) (by kernel_rfl) (by kernel_rfl) (fun _ _ _ h => h) (Or.inl ⟨by rfl, fun w hSw => by (try dsimp only at hSw); obtain ⟨s1, s2, s3⟩ := hSw; go_simp⟩) HSS.out ?_
                try simp only [List.getElem_toArray, List.getElem_cons_succ, List.getElem_cons_zero, Act.put, List.setIfInBounds_toArray, List.set_cons_zero, List.set_cons_succ]
                refine wpAnyH_take (i := 20) (v := .pointer (some ⟨X, 2, none⟩)) rfl (by kernel_rfl) (by kernel_rfl) (by kernel_rfl) (fun _ _ _ h => h) (Or.inl ⟨by rfl, fun w hSw => by (try dsimp only at hSw); obtain ⟨s1, s2, s3⟩ := hSw; go_simp⟩) HSS.out ?_
                try simp only [List.getElem_toArray, List.getElem_cons_succ, List.getElem_cons_zero, Act.put, List.setIfInBounds_toArray, List.set_cons_zero, List.set_cons_succ]
                refine wpAnyH_take (i := 21) (v := .slice (some adk) kn kc) rfl (by kernel_rfl) (by kernel_rfl) (by kernel_rfl) (fun _ _ _ h => h) (Or.inl ⟨by rfl, fun w hSw => by (try dsimp only at hSw); obtain ⟨s1, s2, s3⟩ := hSw; go_simp⟩) HSS.out ?_
                try simp only [List.getElem_toArray, List.getElem_cons_succ, List.getElem_cons_zero, Act.put, List.setIfInBounds_toArray, List.set_cons_zero, List.set_cons_succ]
                refine wpAnyH_take (i := 22) (v := .int .i64 (k : Int)) rfl (by kernel_rfl) (by kernel_rfl) (by kernel_rfl) (fun _ _ _ h => h) (Or.inl ⟨by rfl, fun w hSw => by (try dsimp only at hSw); obtain ⟨s1, s2, s3⟩ := hSw; go_simp⟩) HSS.out ?_
                try simp only [List.getElem_toArray, List.getElem_cons_succ, List.getElem_cons_zero, Act.put, List.setIfInBounds_toArray, List.set_cons_zero, List.set_cons_succ]
                refine wpAnyH_take (i := 23) (v := .int .i64 (j : Int)) rfl (by kernel_rfl) (by kernel_rfl) (by kernel_rfl) (fun _ _ _ h => h) (Or.inl ⟨by rfl, fun w hSw => by (try dsimp only at hSw); obtain ⟨s1, s2, s3⟩ := hSw; go_simp⟩) HSS.out ?_
                try simp only [List.getElem_toArray, List.getElem_cons_succ, List.getElem_cons_zero, Act.put, List.setIfInBounds_toArray, List.set_cons_zero, List.set_cons_succ]
                refine wpAnyH_take (i := 24) (v := .pointer (some (adk.add j))) rfl (by kernel_rfl) (by kernel_rfl) (by kernel_rfl) (fun _ _ _ h => h) (Or.inl ⟨by rfl, fun w hSw => by (try dsimp only at hSw); obtain ⟨s1, s2, s3⟩ := hSw; go_simp⟩) HSS.out ?_
                try simp only [List.getElem_toArray, List.getElem_cons_succ, List.getElem_cons_zero, Act.put, List.setIfInBounds_toArray, List.set_cons_zero, List.set_cons_succ]
                refine wpAnyH_take (i := 25) (v := .int .i64 (u : Int)) rfl (by kernel_rfl) (by kernel_rfl) (by kernel_rfl) (fun _ _ _ h => h) (Or.inl ⟨by rfl, fun w hSw => by (try dsimp only at hSw); obtain ⟨s1, s2, s3⟩ := hSw; go_simp⟩) HSS.out ?_
                try simp only [List.getElem_toArray, List.getElem_cons_succ, List.getElem_cons_zero, Act.put, List.setIfInBounds_toArray, List.set_cons_zero, List.set_cons_succ]
                refine wpAnyH_take (i := 26) (v := .pointer (some ⟨X, 2, none⟩)) rfl (by kernel_rfl) (by kernel_rfl) (by kernel_rfl) (fun _ _ _ h => h) (Or.inl ⟨by rfl, fun w hSw => by (try dsimp only at hSw); obtain ⟨s1, s2, s3⟩ := hSw; go_simp⟩) HSS.out ?_
                try simp only [List.getElem_toArray, List.getElem_cons_succ, List.getElem_cons_zero, Act.put, List.setIfInBounds_toArray, List.set_cons_zero, List.set_cons_succ]
                refine wpAnyH_take (i := 27) (v := .slice (some adk) kn kc) rfl (by kernel_rfl) (by kernel_rfl) (by kernel_rfl) (fun _ _ _ h => h) (Or.inl ⟨by rfl, fun w hSw => by (try dsimp only at hSw); obtain ⟨s1, s2, s3⟩ := hSw; go_simp⟩) HSS.out ?_
                try simp only [List.getElem_toArray, List.getElem_cons_succ, List.getElem_cons_zero, Act.put, List.setIfInBounds_toArray, List.set_cons_zero, List.set_cons_succ]
                refine wpAnyH_take (i := 28) (v := .int .i64 (k : Int)) rfl (by kernel_rfl) (by kernel_rfl) (by kernel_rfl) (fun _ _ _ h => h) (Or.inl ⟨by rfl, fun w hSw => by (try dsimp only at hSw); obtain ⟨s1, s2, s3⟩ := hSw; go_simp⟩) HSS.out ?_
                try simp only [List.getElem_toArray, List.getElem_cons_succ, List.getElem_cons_zero, Act.put, List.setIfInBounds_toArray, List.set_cons_zero, List.set_cons_succ]
                refine wpAnyH_take (i := 29) (v := .pointer (some (adk.add k))) rfl (by kernel_rfl) (by kernel_rfl) (by kernel_rfl) (fun _ _ _ h => h) (Or.inl ⟨by rfl, fun w hSw => by (try dsimp only at hSw); obtain ⟨s1, s2, s3⟩ := hSw; go_simp⟩) HSS.out ?_
                try simp only [List.getElem_toArray, List.getElem_cons_succ, List.getElem_cons_zero, Act.put, List.setIfInBounds_toArray, List.set_cons_zero, List.set_cons_succ]
                refine wpAnyH_take (i := 30) (v := .int .i64 (t : Int)) rfl (by kernel_rfl) (by kernel_rfl) (by kernel_rfl) (fun _ _ _ h => h) (Or.inl ⟨by rfl, fun w hSw => by (try dsimp only at hSw); obtain ⟨s1, s2, s3⟩ := hSw; go_simp⟩) HSS.out ?_
                try simp only [List.getElem_toArray, List.getElem_cons_succ, List.getElem_cons_zero, Act.put, List.setIfInBounds_toArray, List.set_cons_zero, List.set_cons_succ]
                refine wpAnyH_take (i := 31) (v := .bool false) rfl (by kernel_rfl) (by kernel_rfl) (by kernel_rfl) (fun _ _ _ h => h) (Or.inl ⟨by rfl, fun w hSw => by (try dsimp only at hSw); obtain ⟨s1, s2, s3⟩ := hSw; go_simp⟩) HSS.out ?_
                try simp only [List.getElem_toArray, List.getElem_cons_succ, List.getElem_cons_zero, Act.put, List.setIfInBounds_toArray, List.set_cons_zero, List.set_cons_succ]
                refine wpAnyH_take (i := 32) (v := .bool false) rfl (by kernel_rfl) (by kernel_rfl) (by kernel_rfl) (fun _ _ _ h => h) (Or.inl ⟨by rfl, fun w hSw => by (try dsimp only at hSw); obtain ⟨s1, s2, s3⟩ := hSw; go_simp⟩) HSS.out ?_
                try simp only [List.getElem_toArray, List.getElem_cons_succ, List.getElem_cons_zero, Act.put, List.setIfInBounds_toArray, List.set_cons_zero, List.set_cons_succ]
                refine wpAnyH_take (i := 33) (v := .bool false) rfl (by kernel_rfl) (by kernel_rfl) (by kernel_rfl) (fun _ _ _ h => h) (Or.inl ⟨by rfl, fun w hSw => by (try dsimp only at hSw); obtain ⟨s1, s2, s3⟩ := hSw; go_simp⟩) HSS.out ?_
                try simp only [List.getElem_toArray, List.getElem_cons_succ, List.getElem_cons_zero, Act.put, List.setIfInBounds_toArray, List.set_cons_zero, List.set_cons_succ]
                refine wpAnyH_done (by kernel_rfl) ?_ _
                clear HSS
                go_wp2_with fail
                go_roundg (kn - (k + 1))
                case measure => omega
                case rel => exact ⟨k + 1, rfl, by omega, by first | rfl | go_num, HFd.out⟩
            · have ht : ¬ ((k : Int) < (kn : Int)) := by omega
              have HFY := Lib.hid (HFX.out.same HF.out)
              have hdl : d.length = dn := by rw [HDE.out, HDN.out]
              have HKS2 := HKS.out
              subst HKS2
              have hal2 := alike_same Nob Nob R.doc A DA c dc wr HDB.out (by rw [← HDE.out]; exact HDD.out.1.fr HF.out (fun _ _ h => h.elim)) (HD7.out.fr HF.out (fun _ _ h => h.elim))
              rw [HDN.out] at hal2
              have HAL2 := Lib.hid hal2
              have HX9 := Lib.hid (HX7.out.fr HF.out (fun h => h))
              rw [hdl]
              clear hal2 hdl
              go_wp2_with fail
              refine HAL2.out.mono ?_
              rintro e w9 ⟨rfl, hF9⟩
              have HF9 := Lib.hid (HFY.out.same hF9)
              have y1 := (HX9.out.fr hF9 (fun h => h)).cell 1
              have y2 := (HX9.out.fr hF9 (fun h => h)).cell 2
              have yl := (HX9.out.fr hF9 (fun h => h)).lt
              simp only [List.getElem?_cons_zero, List.getElem?_cons_succ] at y1 y2
              clear hF9 x0 x1 x2 xl
              go_wp2_with fail
              refine (awake_any w9 (HHG.out.fr HF9.out (fun h => h))).mono ?_
              rintro e w10 ⟨rfl, hF10⟩
              go_wp2_with fail
              go_ret
              exact ⟨rfl, HF9.out.same hF10⟩
    · have hE' : (E != 0) = true := by simp [hE]
      have hR0 := rebase_err (rs := rs) (g := G) (l := l) (own := own.map StepA.s) (over := over.map StepA.s) (by rw [HR.out]; exact hE)
      rw [HR.out] at hR0
      simp only at hR0
      subst hR0
      have hL0 : L = [] := List.map_eq_nil_iff.1 HSR.out
      subst hL0
      clear hE
      have x0 := HX3.out.cell 0
      have x1 := HX3.out.cell 1
      have xl := HX3.out.lt
      simp only [List.getElem?_cons_zero, List.getElem?_cons_succ, List.length_nil] at x0 x1
      go_wp2_with fail
      refine (awake_any W3 (HHG.out.fr HF3.out (fun h => h))).mono ?_
      rintro e w4 ⟨rfl, hF4⟩
      go_wp2_with fail
      go_ret
      exact ⟨rfl, HF3.out.same hF4⟩
end Go.Proofs.YtanbfplcldloeaaGreatDoor
