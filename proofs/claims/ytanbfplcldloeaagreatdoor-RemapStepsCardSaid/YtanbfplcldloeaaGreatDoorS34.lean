/- A part of the proof for chapter 10: House, OutW, RebI; no conditions. -/
import Derived.Test.YtanbfplcldloeaaGreatDoorS33
import Derived.Deep.WholeRow
import Derived.Test.YtanbfplcldloeaaGreatDoorS32
import Derived.Test.YtanbfplcldloeaaGreatDoorS31
/- Chapter 7: the house's schema. -/
namespace Go.Proofs.YtanbfplcldloeaaGreatDoor
open Go.RowKit
def houseL : List SpecR := [⟨⟨#[112, 97, 114, 97]⟩, ⟨#[116, 101, 120, 116, 42]⟩, false, 7, 0, 0, false⟩,
  ⟨⟨#[104, 101, 97, 100]⟩, ⟨#[116, 101, 120, 116, 42]⟩, false, 7, 1, 6, false⟩,
  ⟨⟨#[113, 117, 111, 116, 101]⟩, ⟨#[98, 108, 111, 99, 107, 43]⟩, false, 0, 0, 0, false⟩,
  ⟨⟨#[99, 111, 100, 101]⟩, ⟨#[116, 101, 120, 116, 42]⟩, false, 0, 0, 0, true⟩,
  ⟨⟨#[108, 105, 115, 116]⟩, ⟨#[105, 116, 101, 109, 43]⟩, false, 0, 0, 1, false⟩,
  ⟨⟨#[105, 116, 101, 109]⟩, ⟨#[98, 108, 111, 99, 107, 43]⟩, false, 0, 0, 0, false⟩,
  ⟨⟨#[114, 117, 108, 101]⟩, ⟨#[]⟩, true, 0, 0, 0, false⟩]
def houseG : List Grp := [⟨⟨#[98, 108, 111, 99, 107]⟩, [1, 2, 3, 4, 5, 7]⟩]
def houseC : List Value := [.string ⟨#[112, 97, 114, 97]⟩, .string ⟨#[116, 101, 120, 116, 42]⟩, .bool false, .int .i64 7, .int .i64 0, .int .i64 0, .bool false, .string ⟨#[104, 101, 97, 100]⟩, .string ⟨#[116, 101, 120, 116, 42]⟩, .bool false, .int .i64 7, .int .i64 1, .int .i64 6, .bool false, .string ⟨#[113, 117, 111, 116, 101]⟩, .string ⟨#[98, 108, 111, 99, 107, 43]⟩, .bool false, .int .i64 0, .int .i64 0, .int .i64 0, .bool false, .string ⟨#[99, 111, 100, 101]⟩, .string ⟨#[116, 101, 120, 116, 42]⟩, .bool false, .int .i64 0, .int .i64 0, .int .i64 0, .bool true, .string ⟨#[108, 105, 115, 116]⟩, .string ⟨#[105, 116, 101, 109, 43]⟩, .bool false, .int .i64 0, .int .i64 0, .int .i64 1, .bool false, .string ⟨#[105, 116, 101, 109]⟩, .string ⟨#[98, 108, 111, 99, 107, 43]⟩, .bool false, .int .i64 0, .int .i64 0, .int .i64 0, .bool false, .string ⟨#[114, 117, 108, 101]⟩, .string ⟨#[]⟩, .bool true, .int .i64 0, .int .i64 0, .int .i64 0, .bool false]
theorem houseC_is : specC houseL = houseC := rfl
def zeroC : List Value := [.string ⟨#[]⟩, .string ⟨#[]⟩, .bool false, .int .i64 0, .int .i64 0, .int .i64 0, .bool false, .string ⟨#[]⟩, .string ⟨#[]⟩, .bool false, .int .i64 0, .int .i64 0, .int .i64 0, .bool false, .string ⟨#[]⟩, .string ⟨#[]⟩, .bool false, .int .i64 0, .int .i64 0, .int .i64 0, .bool false, .string ⟨#[]⟩, .string ⟨#[]⟩, .bool false, .int .i64 0, .int .i64 0, .int .i64 0, .bool false, .string ⟨#[]⟩, .string ⟨#[]⟩, .bool false, .int .i64 0, .int .i64 0, .int .i64 0, .bool false, .string ⟨#[]⟩, .string ⟨#[]⟩, .bool false, .int .i64 0, .int .i64 0, .int .i64 0, .bool false, .string ⟨#[]⟩, .string ⟨#[]⟩, .bool false, .int .i64 0, .int .i64 0, .int .i64 0, .bool false]
def houseA : Array Value := #[.string ⟨#[112, 97, 114, 97]⟩, .string ⟨#[116, 101, 120, 116, 42]⟩, .bool false, .int .i64 7, .int .i64 0, .int .i64 0, .bool false, .string ⟨#[104, 101, 97, 100]⟩, .string ⟨#[116, 101, 120, 116, 42]⟩, .bool false, .int .i64 7, .int .i64 1, .int .i64 6, .bool false, .string ⟨#[113, 117, 111, 116, 101]⟩, .string ⟨#[98, 108, 111, 99, 107, 43]⟩, .bool false, .int .i64 0, .int .i64 0, .int .i64 0, .bool false, .string ⟨#[99, 111, 100, 101]⟩, .string ⟨#[116, 101, 120, 116, 42]⟩, .bool false, .int .i64 0, .int .i64 0, .int .i64 0, .bool true, .string ⟨#[108, 105, 115, 116]⟩, .string ⟨#[105, 116, 101, 109, 43]⟩, .bool false, .int .i64 0, .int .i64 0, .int .i64 1, .bool false, .string ⟨#[105, 116, 101, 109]⟩, .string ⟨#[98, 108, 111, 99, 107, 43]⟩, .bool false, .int .i64 0, .int .i64 0, .int .i64 0, .bool false, .string ⟨#[114, 117, 108, 101]⟩, .string ⟨#[]⟩, .bool true, .int .i64 0, .int .i64 0, .int .i64 0, .bool false]
theorem wpList_buildV {P : Program} {ops : Array Oper} {rest : List Oper} {o : Oper} {a : Act} {w : World} {Q : Exit → Act → World → Prop} (hg : o.guard = none) (t : TypeId) (parts : Array (Nat × Operand)) (ho : o.op = .build t parts) (cells : Array Value)
    (hb : P.built t (parts.map fun (i, x) => (i, a.eval x)).toList = some cells) (h : wpList P ops Q rest (a.put o.dst (.agg cells)) w) : wpList P ops Q (o :: rest) a w := by
  refine wpList_plain hg fun _ hK => ?_
  unfold Oper.wp execOp
  simp only [ho, Sem.run_bind, run_build w t _ cells hb, Result.andThen_ok]
  exact hK _ _ h
theorem wpList_storeV {P : Program} {ops : Array Oper} {rest : List Oper} {o : Oper} {a : Act} {Q : Exit → Act → World → Prop} (hg : o.guard = none) (t : TypeId) (x y : Operand) (ho : o.op = .store t x y) (w0 : World) (c c' : Array Value)
    (hx : a.eval x = .pointer (some ⟨w0.heap.size, 0, none⟩)) (hy : a.eval y = .agg c') (hi : (P.info? t).map (·.size) = some c'.size) (hs : c.size = c'.size) (h1 : c'.all (·.oneCell') = true)
    (h : wpList P ops Q rest (a.put o.dst undef) (w0.alloc (.cells c' t))) : wpList P ops Q (o :: rest) a (w0.alloc (.cells c t)) := by
  refine wpList_plain hg fun _ hK => ?_
  unfold Oper.wp execOp
  simp only [ho, hx, hy, Sem.run_bind, run_storeAt_new (P := P) w0 t c c' hi hs h1, Result.andThen_ok]
  exact hK _ _ h
theorem results_cell {P : Program} {fn : Func} {tmps : Array Value} {w : World} {v : Value} {t : TypeId} {i : Nat} {ad : Addr} (h : fn.results = #[.cell i t]) (hp : tmps[i]?.getD undef = .pointer (some ad)) (hl : (loadVar t ad).run P w = .ok v w) : (results fn tmps).run P w = .ok v w := by
  unfold results
  rw [h]
  simp [hp, asAddr, hl]
theorem infoArr : (Tryz.prog.info? 100).map (·.size) = some 49 := by kernel_rfl
set_option maxRecDepth 100000 in
set_option maxHeartbeats 2000000 in
theorem specs_any (w : World) : Calls Tryz.prog 43 #[] w fun e w' => e = .returned (.agg houseA) ∧ Fr Nob w w' := by
  have hld := run_loadVar_new (P := Tryz.prog) w 100 houseA 7 99 Tryz.underlying100 infoArr
  go_enter Tryz.func43, Tryz.ntmps43
  go_wp2_with (first | (refine wpList_buildV rfl 100 _ rfl houseA (by kernel_rfl) ?_) | (refine wpList_storeV rfl 100 _ _ rfl w zeroC.toArray houseA rfl rfl infoArr rfl (by kernel_rfl) ?_))
  refine bodyPost_ret (v := .agg houseA) (results_cell (i := 0) (ad := ⟨w.heap.size, 0, none⟩) rfl rfl hld) rfl ?_
  exact ⟨rfl, (Fr.refl _ _).alloc _⟩
theorem house_names : NamesOk houseL houseG := ⟨fun s hs => by
    have h : (houseL.map SpecR.name ++ houseG.map Grp.name).all (fun s => decide (s.size ≤ 4611686018427387904) && nameB s.data.toList) = true := by kernel_rfl
    have h1 := List.all_eq_true.1 h s hs
    rw [Bool.and_eq_true] at h1
    exact ⟨of_decide_eq_true h1.1, h1.2⟩, by decide⟩
def gokB (g : List Grp) : Bool := decide (g.length ≤ 16) && g.all fun x => decide (x.types.length ≤ 16) && x.types.all fun t => decide (0 ≤ t) && decide (t < 16)
theorem gokB_spec {g : List Grp} (h : gokB g = true) : GOk g := by
  unfold gokB at h
  rw [Bool.and_eq_true, List.all_eq_true] at h
  refine ⟨of_decide_eq_true h.1, fun x hx => ?_⟩
  have h1 := h.2 x hx
  rw [Bool.and_eq_true, List.all_eq_true] at h1
  refine ⟨of_decide_eq_true h1.1, fun t ht => ?_⟩
  have h2 := h1.2 t ht
  rw [Bool.and_eq_true] at h2
  exact ⟨of_decide_eq_true h2.1, of_decide_eq_true h2.2⟩
theorem house_gok : GOk (groupsF houseL houseG) := gokB_spec (by kernel_rfl)
def fitB (s : SpecR) : Bool := decide (0 ≤ s.marks) && (decide (s.marks < 8) && (decide (0 ≤ s.least) && (decide (s.least ≤ s.most) && (decide (s.most < 16) && (!s.leaf || decide (s.expr = ⟨#[]⟩))))))
theorem fitB_spec {s : SpecR} (h : fitB s = true) : FitS s := by
  unfold fitB at h
  simp only [Bool.and_eq_true, Bool.or_eq_true, Bool.not_eq_true', decide_eq_true_eq] at h
  obtain ⟨h1, h2, h3, h4, h5, h6⟩ := h
  exact ⟨h1, h2, h3, h4, h5, fun hl => h6.resolve_left (fun e => by rw [hl] at e; cases e)⟩
def parseOkB (g : List Grp) (s : SpecR) : Bool := (parseF s.expr).2.2 == 0 && (checkR g (parseF s.expr).1 == 0 && (decide ((parseF s.expr).1.count ≤ 4611686018427387904) && decide ((parseF s.expr).1.bytes ≤ 4611686018427387904)))
theorem house_parse : (wholeS ⟨#[98, 108, 111, 99, 107, 43]⟩ :: houseL).all (parseOkB (groupsF houseL houseG)) = true := by kernel_rfl
theorem house_ok : NewOk ⟨#[98, 108, 111, 99, 107, 43]⟩ houseL houseG where
  few := by decide
  fewg := by decide
  names := house_names
  fit := fun s hs => fitB_spec (List.all_eq_true.1 (show houseL.all fitB = true by kernel_rfl) s hs)
  typ := fun x hx => by
    obtain rfl := List.mem_singleton.1 hx
    decide
  gok := house_gok
  parse := fun s hs => by
    have h := List.all_eq_true.1 house_parse s hs
    simp only [parseOkB, Bool.and_eq_true, beq_iff_eq, decide_eq_true_eq] at h
    exact ⟨h.1, h.2.1, h.2.2.1, h.2.2.2⟩
set_option maxRecDepth 100000 in
set_option maxHeartbeats 2000000 in
theorem house_any (w : World) (hG : HG w) : Calls Tryz.prog 18 #[] w fun e w' => (∃ p rs, e = .returned (.pointer (some ⟨p, 0, none⟩)) ∧ Sch (fun k => k < w.heap.size) w' p rs (groupsF houseL houseG) ∧ rs.map coreR = (wholeS ⟨#[98, 108, 111, 99, 107, 43]⟩ :: houseL).map coreS) ∧ Fr Nob w w' := by
  have HHG := Lib.hid hG
  clear hG
  go_enter Tryz.func18, Tryz.ntmps18
  go_wp2_with fail
  refine (specs_any w).mono ?_
  rintro e w1 ⟨rfl, hF1⟩
  have HF1 := Lib.hid hF1
  clear hF1
  go_upto_region 2 with (first | (refine wpList_storeV rfl 100 _ _ rfl w1 zeroC.toArray houseA rfl rfl infoArr rfl (by kernel_rfl) ?_) | fail)
  obtain ⟨B, hB⟩ : ∃ B, w1.heap.size = B := ⟨_, rfl⟩
  obtain ⟨W2, hW2⟩ : ∃ W2, w1.alloc (.cells houseA 100) = W2 := ⟨_, rfl⟩
  have HB2 := Lib.hid (show Blk W2 B houseC 100 by rw [← hW2, ← hB]; exact Blk.new _ _ _)
  have HF2 := Lib.hid (show Fr Nob w W2 by rw [← hW2]; exact HF1.out.alloc _)
  rw [hB, hW2]
  clear hB hW2
  go_wp2_with fail
  obtain ⟨W3, hW3⟩ : ∃ W3, (W2.alloc (.cells #[.int .i64 1, .int .i64 2, .int .i64 3, .int .i64 4, .int .i64 5, .int .i64 7] 3)).alloc (.cells #[.string ⟨#[98, 108, 111, 99, 107]⟩, .slice (some ⟨W2.heap.size, 0, none⟩) 6 6] 106) = W3 := ⟨_, rfl⟩
  have hs1 : (W2.alloc (.cells #[.int .i64 1, .int .i64 2, .int .i64 3, .int .i64 4, .int .i64 5, .int .i64 7] 3)).heap.size = W2.heap.size + 1 := by simp
  have hi2 := (Blk.new W2 (intC [1, 2, 3, 4, 5, 7]) 3).alloc (.cells #[.string ⟨#[98, 108, 111, 99, 107]⟩, .slice (some ⟨W2.heap.size, 0, none⟩) 6 6] 106)
  have hg2 := Blk.new_at (W2.alloc (.cells #[.int .i64 1, .int .i64 2, .int .i64 3, .int .i64 4, .int .i64 5, .int .i64 7] 3)) [.string ⟨#[98, 108, 111, 99, 107]⟩, .slice (some ⟨W2.heap.size, 0, none⟩) 6 6] 106 (W2.heap.size + 1) hs1.symm
  have HF3 := Lib.hid (show Fr Nob W2 W3 by rw [← hW3]; exact ((Fr.refl _ _).alloc _).alloc _)
  have HGP := Lib.hid (show Grps Nob W3 (.slice (some ⟨W2.heap.size + 1, 0, none⟩) 1 1) houseG by
    rw [← hW3]
    refine ⟨_, 1, [.string ⟨#[98, 108, 111, 99, 107]⟩, .slice (some ⟨W2.heap.size, 0, none⟩) 6 6], rfl, Nat.le_refl _, fun _ => ⟨_, rfl, fun h => h, fun j u hu => by rw [add_lit]; exact (hg2.cell j).trans hu⟩, ?_⟩
    exact ⟨_, _, [], rfl, Nat.le_refl _, fun _ => ⟨_, rfl, fun h => h, fun j u hu => by rw [add_lit]; exact (hi2.cell j).trans hu⟩, rfl⟩)
  rw [hW3]
  clear hW3 hi2 hg2 hs1
  have HF := Lib.hid (HF2.out.same HF3.out)
  have hnew := new_any ⟨#[98, 108, 111, 99, 107, 43]⟩ houseL houseG house_ok ⟨B, 0, none⟩ 7 _ W3 (HHG.out.fr HF.out (fun h => h)) (Rd.fr (M := Nob) (w := W2) (fun _ => ⟨_, rfl, fun h => h, fun j u hu => by rw [add_lit, HB2.out.cell j, ← houseC_is]; exact hu⟩) HF3.out (fun _ _ h => h)) HGP.out
  refine hnew.mono ?_
  clear hnew
  rintro e w4 ⟨⟨p, rs, rfl, hS, hC⟩, hF4⟩
  have HS4 := Lib.hid (hS.mono (M' := fun k => k < w.heap.size) (fun k hk => Nat.lt_of_lt_of_le hk HF.out.size))
  have HC4 := Lib.hid hC
  have HF4 := Lib.hid (HF.out.same hF4)
  clear hS hC hF4
  go_wp2_with fail
  refine bodyPost_ret (v := .pointer (some ⟨p, 0, none⟩)) (by simp [results, go_sem]) rfl ?_
  have h1 := HS4.out
  have h2 := HC4.out
  first
    | exact ⟨⟨p, rs, rfl, h1, h2⟩, HF4.out⟩
    | exact ⟨⟨p, rfl, rs, h1, h2⟩, HF4.out⟩
end Go.Proofs.YtanbfplcldloeaaGreatDoor

/- Chapter 10: what Rebase gathers, while two rows grow. -/
namespace Go.Proofs.YtanbfplcldloeaaGreatDoor
open Go.RowKit
structure OutC (Xo Bx : Nat) (sv kv : Value) (wd : World) : Prop where
  cs : ∀ k, sv.ownBlock = some k → k < wd.heap.size ∧ k ≠ Xo ∧ k ≠ Bx ∧ kv.ownBlock ≠ some k
  ck : ∀ k, kv.ownBlock = some k → k < wd.heap.size ∧ k ≠ Xo ∧ k ≠ Bx
structure OutRW (base Xo Bx : Nat) (xc : List Value) (dv sv kv : Value) (wd W : World) (sv' kv' : Value) (ns nk : Nat) (sc kc : List Value) : Prop where
  fw : Fr (fun k => sv.ownBlock = some k ∨ kv.ownBlock = some k) wd W
  xo : Blk W Xo [dv, sv, kv] 46
  bx : Blk W Bx xc 24
  so : W.ownsRow base 24 8 sv' ns sc
  ko : W.ownsRow base 3 1 kv' nk kc
  s1 : ∀ k, sv'.ownBlock = some k → sv.ownBlock = some k ∨ wd.heap.size ≤ k
  k1 : ∀ k, kv'.ownBlock = some k → kv.ownBlock = some k ∨ wd.heap.size ≤ k
  sk : ∀ k, sv'.ownBlock = some k → kv'.ownBlock ≠ some k
def Tmp (wd W : World) (g : Nat) (cs : List Value) (t : TypeId) : Prop := Blk W g cs t ∧ wd.heap.size ≤ g
variable {base Xo Bx : Nat} {xc : List Value} {dv sv kv : Value} {wd W w' : World} {sv' kv' : Value} {ns nk : Nat} {sc kc : List Value}
theorem Tmp.alloc {g : Nat} {cs : List Value} {t : TypeId} (h : Tmp wd W g cs t) (o : Obj) : Tmp wd (W.alloc o) g cs t := ⟨h.1.alloc o, h.2⟩
theorem Tmp.new (hs : wd.heap.size ≤ W.heap.size) (cs : List Value) (t : TypeId) : Tmp wd (W.alloc (.cells cs.toArray t)) W.heap.size cs t := ⟨Blk.new _ _ _, hs⟩
theorem OutRW.alloc (h : OutRW base Xo Bx xc dv sv kv wd W sv' kv' ns nk sc kc) (o : Obj) : OutRW base Xo Bx xc dv sv kv wd (W.alloc o) sv' kv' ns nk sc kc :=
  ⟨h.fw.alloc o, h.xo.alloc o, h.bx.alloc o, h.so.alloc o, h.ko.alloc o, h.s1, h.k1, h.sk⟩
/-- What an append leaves: the row that has turned, if any, is v's own. -/
theorem two_row {v : Value} {g n m : Nat} (h : (W.grownBy w' none ∧ W.heap.size ≤ g) ∨ (∃ cap0, v = .slice (some ⟨g, 0, none⟩) n cap0 ∧ n + m ≤ cap0 ∧ W.grownBy w' (some g))) : Fr (fun k => v.ownBlock = some k) W w' ∧ (v.ownBlock = some g ∨ W.heap.size ≤ g) := by
  rcases h with ⟨h, hg⟩ | ⟨cap0, rfl, _, h⟩
  · exact ⟨(Fr.of_grown h).mono (fun k _ e => by cases e), .inr hg⟩
  · exact ⟨(Fr.of_grown h).mono (fun k _ e => by cases e; rfl), .inl rfl⟩
theorem Tmp.app {g : Nat} {cs : List Value} {t : TypeId} {v : Value} (h : Tmp wd W g cs t) (hv : ∀ k, v.ownBlock = some k → k < wd.heap.size) (hf : Fr (fun k => v.ownBlock = some k) W w') : Tmp wd w' g cs t :=
  ⟨h.1.fr hf (fun e => by have := hv _ e; have := h.2; omega), h.2⟩
theorem OutRW.apps (h : OutRW base Xo Bx xc dv sv kv wd W sv kv' ns nk sc kc) (c : OutC Xo Bx sv kv wd) {g cap m : Nat} {news : List Value} (hown : w'.ownsRow base 24 8 (.slice (some ⟨g, 0, none⟩) (ns + m) cap) (ns + m) (sc ++ news))
    (hf : Fr (fun k => sv.ownBlock = some k) W w') (hg : sv.ownBlock = some g ∨ W.heap.size ≤ g) : OutRW base Xo Bx xc dv sv kv wd w' (.slice (some ⟨g, 0, none⟩) (ns + m) cap) kv' (ns + m) nk (sc ++ news) kc :=
  have hkk : ∀ k, kv'.ownBlock = some k → sv.ownBlock ≠ some k := fun k hk hs => h.sk k hs hk
  ⟨h.fw.trans hf (fun k _ e => .inl e), h.xo.fr hf (fun e => (c.cs _ e).2.1 rfl), h.bx.fr hf (fun e => (c.cs _ e).2.2.1 rfl), hown, own_fr h.ko hf (fun k e => hkk k e),
    fun k e => by
      have e' : g = k := by cases e; rfl
      subst e'
      rcases hg with h1 | h1
      · exact .inl h1
      · exact .inr (Nat.le_trans h.fw.size h1), h.k1, fun k e e2 => by
      have e' : g = k := by cases e; rfl
      subst e'
      rcases hg with h1 | h1
      · exact h.sk _ h1 e2
      · have := (World.ownsRow.lt h.ko _ e2).2; omega⟩
theorem OutRW.appk (h : OutRW base Xo Bx xc dv sv kv wd W sv' kv ns nk sc kc) (c : OutC Xo Bx sv kv wd) {g cap m : Nat} {news : List Value} (hown : w'.ownsRow base 3 1 (.slice (some ⟨g, 0, none⟩) (nk + m) cap) (nk + m) (kc ++ news))
    (hf : Fr (fun k => kv.ownBlock = some k) W w') (hg : kv.ownBlock = some g ∨ W.heap.size ≤ g) : OutRW base Xo Bx xc dv sv kv wd w' sv' (.slice (some ⟨g, 0, none⟩) (nk + m) cap) ns (nk + m) sc (kc ++ news) :=
  ⟨h.fw.trans hf (fun k _ e => .inr e), h.xo.fr hf (fun e => (c.ck _ e).2.1 rfl), h.bx.fr hf (fun e => (c.ck _ e).2.2 rfl), own_fr h.so hf (fun k e e2 => h.sk k e e2), hown, h.s1,
    fun k e => by
      have e' : g = k := by cases e; rfl
      subst e'
      rcases hg with h1 | h1
      · exact .inl h1
      · exact .inr (Nat.le_trans h.fw.size h1), fun k e e2 => by
      have e' : g = k := by cases e2; rfl
      subst e'
      rcases hg with h1 | h1
      · exact h.sk _ e h1
      · have := (World.ownsRow.lt h.so _ e).2; omega⟩
theorem OutRW.S (h : OutRW base Xo Bx xc dv sv kv wd W sv' kv' ns nk sc kc) : W.cell? ⟨Xo, 1, none⟩ = some sv ∧ W.cell? ⟨Xo, 2, none⟩ = some kv ∧ ∀ i, W.cell? ⟨Bx, i, none⟩ = xc[i]? := ⟨h.xo.cell 1, h.xo.cell 2, fun i => h.bx.cell i⟩
theorem OutRW.drewn (h : OutRW base Xo Bx xc dv sv kv W W sv kv ns nk sc kc) : OutRW base Xo Bx xc dv sv kv W.drew W.drew sv kv ns nk sc kc :=
  have hf : Fr Nob W W.drew := (Fr.refl Nob W).drew
  ⟨Fr.refl _ _, h.xo.fr hf (fun h => h), h.bx.fr hf (fun h => h), own_fr h.so hf (fun _ _ h => h), own_fr h.ko hf (fun _ _ h => h), fun _ e => .inl e, fun _ e => .inl e, h.sk⟩
theorem OutC.drewn (h : OutC Xo Bx sv kv W) : OutC Xo Bx sv kv W.drew :=
  have hs : W.drew.heap.size = W.heap.size := by simp
  ⟨fun k e => by rw [hs]; exact h.cs k e, fun k e => by rw [hs]; exact h.ck k e⟩
end Go.Proofs.YtanbfplcldloeaaGreatDoor

/- Chapter 10: steps behind others: what the last loop keeps. -/
namespace Go.Proofs.YtanbfplcldloeaaGreatDoor
open Go.RowKit
/-- What Rebase hands back, as memory holds it. -/
structure RebV (M : Nat → Prop) (w : World) (dv sv kv : Value) (r : RebM) : Prop where
  doc : Doc M w dv r.doc
  steps : ∃ SA sc L, sv = .slice SA L.length sc ∧ StepsM M w SA L ∧ L.map StepA.s = r.steps
  kept : ∃ KA kc, kv = .slice KA r.kept.length kc ∧ Rd M w KA (r.kept.map fun (k : Nat) => .int .i64 (k : Int))
theorem RebV.empty (M : Nat → Prop) (w : World) : RebV M w (.slice none 0 0) (.slice none 0 0) (.slice none 0 0) ⟨[], [], []⟩ :=
  ⟨⟨none, 0, rfl, Nat.le_refl _, Rd.nil _ _ _⟩, ⟨none, 0, [], rfl, ⟨Rd.nil _ _ _, fun _ h => (by cases h), fun _ h => (by cases h)⟩, rfl⟩, ⟨none, 0, rfl, Rd.nil _ _ _⟩⟩
theorem store3 {W : World} {g : Nat} {t : TypeId} {x0 x1 x2 : Value} (hg : Blk W g [x0, x1, x2] t) (a b c : Value) :
    ∀ WE, ((W.setCell ⟨g, 0, none⟩ a).setCell ⟨g, 1, none⟩ b).setCell ⟨g, 2, none⟩ c = WE → Blk WE g [a, b, c] t ∧ Fr (One g) W WE := by
  rintro WE rfl
  exact ⟨((hg.set 0 a).set 1 b).set 2 c, (((Fr.refl (One g) W).setCell (p := ⟨g, 0, none⟩) (.inl rfl) a).setCell (p := ⟨g, 1, none⟩) (.inl rfl) b).setCell (p := ⟨g, 2, none⟩) (.inl rfl) c⟩
theorem new_fr {w W WE : World} {g : Nat} (h : Fr Nob w W) (hg : w.heap.size ≤ g) (h2 : Fr (One g) W WE) : Fr Nob w WE := h.trans h2 (fun k hk e => by have : k = g := e; omega)
theorem later_new {M : Nat → Prop} {w : World} {g : Nat} (hg : w.heap.size ≤ g) : Later M w (fun k => k = g) := fun k hk => .inr (by have : k = g := hk; omega)
def bigB (a b : Nat) : Bool := decide (1000 < max a b)
/-- What Rebase has gathered, in a variable of its own. -/
structure OutM (base Xo : Nat) (O : Nat → Prop) (w : World) (dv sv kv : Value) (L : List StepA) (kept : List Nat) : Prop where
  blk : Blk w Xo [dv, sv, kv] 46
  so : w.ownsRow base 24 8 sv L.length (stepC L)
  ko : w.ownsRow base 3 1 kv kept.length (kept.map fun (k : Nat) => Value.int .i64 (k : Int))
  ns : sv.ownBlock ≠ some Xo
  nk : kv.ownBlock ≠ some Xo
  nsk : ∀ k, sv.ownBlock = some k → kv.ownBlock ≠ some k
  mine : ∀ k, (k = Xo ∨ sv.ownBlock = some k ∨ kv.ownBlock = some k) → O k
theorem OutM.fr {base Xo : Nat} {O M' : Nat → Prop} {w w' : World} {dv sv kv : Value} {L : List StepA} {kept : List Nat} (h : OutM base Xo O w dv sv kv L kept) (hf : Fr M' w w') (hM : ∀ k, (k = Xo ∨ sv.ownBlock = some k ∨ kv.ownBlock = some k) → ¬ M' k) : OutM base Xo O w' dv sv kv L kept :=
  ⟨h.blk.fr hf (hM _ (.inl rfl)), own_fr h.so hf (fun k e => hM k (.inr (.inl e))), own_fr h.ko hf (fun k e => hM k (.inr (.inr e))), h.ns, h.nk, h.nsk, h.mine⟩
theorem OutM.fr0 {base Xo : Nat} {O : Nat → Prop} {w w' : World} {dv sv kv : Value} {L : List StepA} {kept : List Nat} (h : OutM base Xo O w dv sv kv L kept) (hf : Fr Nob w w') : OutM base Xo O w' dv sv kv L kept := h.fr hf (fun _ _ h => h)
/-- The last loop: N holds what is its own. -/
structure RbI (M N9 : Nat → Prop) (base m Xo vn : Nat) (own : List StepA) (rs : List RuleM) (g : List Grp) (Rr : RebM) (W9 : World) (i : Nat) (wr : World) (N : Nat → Prop) (Lk : List OneM) (vk : Value) (msk : List OneM) (doc : List Tok) (DA : Option Addr) (dc : Nat) (L : List StepA) (kept : List Nat) (sv kv : Value) : Prop where
  le : i ≤ own.length
  jm : J2R base (m + 1) m Lk [] N wr vk msk
  out : OutM base Xo N wr (.slice DA doc.length dc) sv kv L kept
  dis : ∀ k, MB m vk k → ¬ (k = Xo ∨ sv.ownBlock = some k ∨ kv.ownBlock = some k)
  fw : Fr N9 W9 wr
  lat : Later N9 W9 N
  dcm : Doc (fun k => N k ∨ M k) wr (.slice DA doc.length dc) doc
  docn : doc.length ≤ 9223372036854775807
  got : ∀ x ∈ L, ∃ y ∈ own, x.B = y.B ∧ x.s.l = y.s.l ∧ x.b = y.b
  go : rbGo rs g own.length ((own.drop i).map StepA.s) i Lk ⟨doc, L.map StepA.s, kept⟩ = Rr
  mirs : ∀ j, j + i < own.length → Lk[j]?.map OneM.mir = some (-1)
  len : Lk.length = own.length + vn + L.length
  few : L.length ≤ i
  klen : kept.length = L.length
section
variable {M N9 : Nat → Prop} {base m Xo vn : Nat} {own : List StepA} {rs : List RuleM} {g : List Grp} {Rr : RebM} {W9 : World} {i : Nat} {wr w' : World} {N : Nat → Prop} {Lk : List OneM} {vk : Value} {msk : List OneM} {doc : List Tok} {DA : Option Addr} {dc : Nat} {L : List StepA} {kept : List Nat} {sv kv : Value}
theorem RbI.skip (h : RbI M N9 base m Xo vn own rs g Rr W9 i wr N Lk vk msk doc DA dc L kept sv kv) (hf : Fr Nob wr w') (hi : i < own.length) (hg : rbGo rs g own.length ((own.drop (i + 1)).map StepA.s) (i + 1) Lk ⟨doc, L.map StepA.s, kept⟩ = Rr) : RbI M N9 base m Xo vn own rs g Rr W9 (i + 1) w' N Lk vk msk doc DA dc L kept sv kv :=
  ⟨hi, h.jm.fr0 hf, h.out.fr0 hf, h.dis, h.fw.trans hf (fun _ _ h => h.elim), h.lat, h.dcm.fr0 hf, h.docn, h.got, hg, fun j hj => h.mirs j (by omega), h.len, by have := h.few; omega, h.klen⟩
theorem mir_get {ms l : List OneM} (h : ms.map OneM.pure = l) {j : Nat} (hj : j < ms.length) : l[j]?.map OneM.mir = some ms[j].mir := by
  rw [← h, List.getElem?_map, List.getElem?_eq_getElem hj]
  rfl
theorem mir_last {ms Lk : List OneM} {x : StepM} (h : ms.map OneM.pure = Lk ++ [mapM x]) {j : Nat} (he : Lk.length = j) (hj : j < ms.length) : ms[j].mir < 0 := by
  subst he
  have h1 := mir_get h hj
  rw [List.getElem?_append_right (Nat.le_refl _), Nat.sub_self] at h1
  have h2 : ms[Lk.length].mir = -1 := by
    have h3 : some (-1) = some ms[Lk.length].mir := h1
    injection h3 with h3
    exact h3.symm
  rw [h2]
  decide
theorem mirL_get (l : List OneM) {a b j : Nat} (h1 : j ≠ a) (h2 : j ≠ b) : (mirL l a b)[j]? = l[j]? := by
  unfold mirL
  rw [List.getElem?_modify, List.getElem?_modify]
  simp [Ne.symm h1, Ne.symm h2]
theorem remrun_len {rs : List RuleM} {g : List Grp} : ∀ {L : List StepM} {l r : List Tok}, l.length ≤ 9223372036854775807 → runF rs g L l = (r, 0) → r.length ≤ 9223372036854775807
  | [], _, _, hl, h => by cases h; exact hl
  | s :: L, l, r, hl, h => by
    rw [runF] at h
    split at h
    · rename_i h0
      exact remrun_len (by have := flat_short (applyE_zero (doE_zero h0).1).2.2.2; omega) h
    · rename_i h0
      exact absurd (congrArg Prod.snd h) h0
theorem RbI.outw {xc : List Value} {Bx : Nat} {w5 w6 w7 : World} {v6 : Value} (h : RbI M N9 base m Xo vn own rs g Rr W9 i wr N Lk vk msk doc DA dc L kept sv kv) (h5 : Fr Nob wr w5) (hx : Blk w5 Bx xc 24) (hB : wr.heap.size ≤ Bx)
    (h56 : Fr (MB m vk) w5 w6) (h67 : Fr (MB m v6) w6 w7) (hMB : ∀ k, MB m v6 k → MB m vk k ∨ w5.heap.size ≤ k) :
    OutRW base Xo Bx xc (.slice DA doc.length dc) sv kv w7 w7 sv kv L.length kept.length (stepC L) (kept.map fun (k : Nat) => Value.int .i64 (k : Int)) ∧ OutC Xo Bx sv kv w7 := by
  have hf : Fr (MB m vk) w5 w7 := h56.trans h67 (fun k hk hn => by
    rcases hMB k hn with h1 | h1
    · exact h1
    · omega)
  have hs := h5.size
  have hs7 := hf.size
  have hx7 := hx.fr hf (fun e => by have := h.jm.lt _ (h.jm.mp.mine _ e); omega)
  have ho := (h.out.fr0 h5).fr hf (fun k hk hn => h.dis k hn hk)
  have hlt : ∀ k, (k = Xo ∨ sv.ownBlock = some k ∨ kv.ownBlock = some k) → k < wr.heap.size := fun k hk => h.jm.lt _ (h.out.mine k hk)
  exact ⟨⟨Fr.refl _ _, ho.blk, hx7, ho.so, ho.ko, fun _ e => .inl e, fun _ e => .inl e, h.out.nsk⟩,
    ⟨fun k e => ⟨by have := hlt k (.inr (.inl e)); omega, fun e2 => h.out.ns (e2 ▸ e), by have := hlt k (.inr (.inl e)); omega, h.out.nsk k e⟩,
     fun k e => ⟨by have := hlt k (.inr (.inr e)); omega, fun e2 => h.out.nk (e2 ▸ e), by have := hlt k (.inr (.inr e)); omega⟩⟩⟩
theorem RbI.next {xc : List Value} {Bx : Nat} {w5 w6 w7 W WE : World} {N6 : Nat → Prop} {v6 : Value} {ms7 : List OneM} {s x : StepM} {B : Option Addr} {b gd gs gk cs ck : Nat} {tk : TypeId} (h : RbI M N9 base m Xo vn own rs g Rr W9 i wr N Lk vk msk doc DA dc L kept sv kv)
    (hM : ∀ k, M k → k < wr.heap.size) (hi : i < own.length) (hX : own[i] = ⟨s, B, b⟩) (hTR : stepThru Lk ((own.length : Int) - i) s = some x) (hZ : doE rs g x doc = 0) (hxl : x.l = s.l)
    (h5 : Fr Nob wr w5) (hgd : wr.heap.size ≤ gd) (hbd : Blk w5 gd (tokC (doF x doc)) tk) (h56 : Fr (MB m vk) w5 w6) (h67 : Fr (MB m v6) w6 w7)
    (hN1 : ∀ k, N6 k → N k ∨ w5.heap.size ≤ k) (hN2 : ∀ k, N k → N6 k) (hMB : ∀ k, MB m v6 k → MB m vk k ∨ w5.heap.size ≤ k)
    (hJ7 : J2R base (m + 1) m (mirL (Lk ++ [mapM x]) (own.length - 1 - i) Lk.length) [] N6 w7 v6 ms7)
    (hxc : xc = x.cells (.slice B s.l.length b))
    (hU : OutRW base Xo Bx xc (.slice DA doc.length dc) sv kv w7.drew W (.slice (some ⟨gs, 0, none⟩) (L.length + 1) cs) (.slice (some ⟨gk, 0, none⟩) (kept.length + 1) ck) (L.length + 1) (kept.length + 1) (stepC L ++ xc) ((kept.map fun (k : Nat) => Value.int .i64 (k : Int)) ++ [.int .i64 i]))
    (hWE : ((W.setCell ⟨Xo, 0, none⟩ (.slice (some ⟨gd, 0, none⟩) (doF x doc).length (doF x doc).length)).setCell ⟨Xo, 1, none⟩ (.slice (some ⟨gs, 0, none⟩) (L.length + 1) cs)).setCell ⟨Xo, 2, none⟩ (.slice (some ⟨gk, 0, none⟩) (kept.length + 1) ck) = WE) :
    ∃ N', RbI M N9 base m Xo vn own rs g Rr W9 (i + 1) WE N' (mirL (Lk ++ [mapM x]) (own.length - 1 - i) Lk.length) v6 ms7 (doF x doc) (some ⟨gd, 0, none⟩) (doF x doc).length (L ++ [⟨x, B, b⟩]) (kept ++ [i]) (.slice (some ⟨gs, 0, none⟩) (L.length + 1) cs) (.slice (some ⟨gk, 0, none⟩) (kept.length + 1) ck) := by
  obtain ⟨hbE, hfE⟩ := store3 hU.xo (.slice (some ⟨gd, 0, none⟩) (doF x doc).length (doF x doc).length) (.slice (some ⟨gs, 0, none⟩) (L.length + 1) cs) (.slice (some ⟨gk, 0, none⟩) (kept.length + 1) ck) WE hWE
  have hs5 := h5.size
  have hs6 := h56.size
  have hs67 := h67.size
  have hsd : w7.drew.heap.size = w7.heap.size := by simp
  have hsW := hU.fw.size
  have hsE := hfE.size
  have hown : ∀ k, (k = Xo ∨ sv.ownBlock = some k ∨ kv.ownBlock = some k) → N k ∧ k < wr.heap.size := fun k hk => ⟨h.out.mine k hk, h.jm.lt _ (h.out.mine k hk)⟩
  have hX0 := hown Xo (.inl rfl)
  have hgs : (sv.ownBlock = some gs ∨ w7.heap.size ≤ gs) := by
    have h1 := hU.s1 gs rfl
    rwa [hsd] at h1
  have hgk : (kv.ownBlock = some gk ∨ w7.heap.size ≤ gk) := by
    have h1 := hU.k1 gk rfl
    rwa [hsd] at h1
  have hgsN : N gs ∧ gs < wr.heap.size ∧ gs ≠ Xo ∨ w7.heap.size ≤ gs := by
    rcases hgs with h1 | h1
    · have := hown gs (.inr (.inl h1))
      exact .inl ⟨this.1, this.2, fun e => h.out.ns (e ▸ h1)⟩
    · exact .inr h1
  have hgkN : N gk ∧ gk < wr.heap.size ∧ gk ≠ Xo ∨ w7.heap.size ≤ gk := by
    rcases hgk with h1 | h1
    · have := hown gk (.inr (.inr h1))
      exact .inl ⟨this.1, this.2, fun e => h.out.nk (e ▸ h1)⟩
    · exact .inr h1
  have hgsX : gs ≠ Xo := by
    rcases hgsN with h1 | h1
    · exact h1.2.2
    · omega
  have hgkX : gk ≠ Xo := by
    rcases hgkN with h1 | h1
    · exact h1.2.2
    · omega
  have hf57 : Fr (MB m vk) w5 w7 := h56.trans h67 (fun k hk hn => by
    rcases hMB k hn with h1 | h1
    · exact h1
    · omega)
  have hf7E : Fr (fun k => k = Xo ∨ sv.ownBlock = some k ∨ kv.ownBlock = some k) w7 WE :=
    (((show Fr Nob w7 w7.drew from (Fr.refl Nob w7).drew).any).trans (hU.fw.mono (fun k _ e => .inr e)) (fun _ _ e => e)).trans hfE (fun k _ e => .inl e)
  have hfrE : Fr N wr WE := (h5.any.trans (hf57.mono (fun k _ e => h.jm.mp.mine k e)) (fun _ _ e => e)).trans hf7E (fun k _ e => h.out.mine k e)
  have hMBd : ∀ k, MB m v6 k → ¬ (k = Xo ∨ sv.ownBlock = some k ∨ kv.ownBlock = some k) := fun k hk ho => by
    rcases hMB k hk with h1 | h1
    · exact h.dis k h1 ho
    · have := (hown k ho).2
      omega
  have hMB7 : ∀ k, MB m v6 k → k < w7.heap.size := fun k hk => hJ7.lt k (hJ7.mp.mine k hk)
  have hnew : ∀ k, (N6 k ∨ gs = k ∨ gk = k) → N6 k ∨ w7.heap.size ≤ k := by
    rintro k (h1 | rfl | rfl)
    · exact .inl h1
    · rcases hgsN with h1 | h1
      · exact .inl (hN2 _ h1.1)
      · exact .inr h1
    · rcases hgkN with h1 | h1
      · exact .inl (hN2 _ h1.1)
      · exact .inr h1
  have hnew0 : ∀ k, (N6 k ∨ gs = k ∨ gk = k) → N k ∨ w5.heap.size ≤ k := fun k hk => by
    rcases hnew k hk with h1 | h1
    · exact hN1 k h1
    · exact .inr (by omega)
  have hlen : (mirL (Lk ++ [mapM x]) (own.length - 1 - i) Lk.length).length = Lk.length + 1 := by
    unfold mirL
    simp
  refine ⟨fun k => N6 k ∨ gs = k ∨ gk = k, hi, ⟨?_, ?_, ?_, ?_, hJ7.sh⟩, ⟨hbE, ?_, ?_, ?_, ?_, ?_, ?_⟩, ?_, ?_, ?_, ?_, ?_, ?_, ?_, ?_, ?_, ?_, ?_⟩
  · exact ((hJ7.mp.bound).fr hf7E (fun k hk e => .inl (hN2 k (hown k e).1)) (fun k hk => hMBd k hk)).less hnew (fun k hk => .inl (hJ7.mp.mine k hk))
  · refine hJ7.box.fr hf7E (fun e => ?_)
    exact hJ7.nbox (hN2 _ (hown _ e).1)
  · intro e
    have hb := hJ7.box.lt
    rcases hnew _ e with h1 | h1
    · exact hJ7.nbox h1
    · omega
  · rintro k (h1 | rfl | rfl)
    · have := hJ7.lt k h1
      have := hf7E.size
      omega
    · exact Nat.lt_of_lt_of_le (World.ownsRow.lt hU.so _ rfl).2 hsE
    · exact Nat.lt_of_lt_of_le (World.ownsRow.lt hU.ko _ rfl).2 hsE
  · have h1 := own_fr hU.so hfE (fun k e e2 => by
      have h1 : gs = k := by cases e; rfl
      have h2 : k = Xo := e2
      exact hgsX (h1.trans h2))
    rw [List.length_append]
    have h2 : stepC (L ++ [⟨x, B, b⟩]) = stepC L ++ xc := by
      rw [stepC, List.flatMap_append, hxc]
      simp [StepA.cells, hxl, stepC]
    rw [h2]
    exact h1
  · have h1 := own_fr hU.ko hfE (fun k e e2 => by
      have h1 : gk = k := by cases e; rfl
      have h2 : k = Xo := e2
      exact hgkX (h1.trans h2))
    rw [List.length_append, List.map_append]
    exact h1
  · intro e
    injection e with e
    exact hgsX e
  · intro e
    injection e with e
    exact hgkX e
  · exact hU.sk
  · rintro k (rfl | e | e)
    · exact .inl (hN2 _ hX0.1)
    · exact .inr (.inl (by injection e))
    · exact .inr (.inr (by injection e))
  · rintro k hk (rfl | e | e)
    · exact hMBd _ hk (.inl rfl)
    · have e' : gs = k := by injection e
      subst e'
      rcases hgs with h1 | h1
      · exact hMBd _ hk (.inr (.inl h1))
      · have := hMB7 _ hk; omega
    · have e' : gk = k := by injection e
      subst e'
      rcases hgk with h1 | h1
      · exact hMBd _ hk (.inr (.inr h1))
      · have := hMB7 _ hk; omega
  · exact h.fw.later h.lat hfrE
  · exact h.lat.trans (fun k hk => by
      rcases hnew0 k hk with h1 | h1
      · exact .inl h1
      · exact .inr (by omega)) h.fw.size
  · have hd : Rd (fun k => k ≠ gd) w5 (some ⟨gd, 0, none⟩) (tokC (doF x doc)) := fun _ => ⟨_, rfl, fun e => e rfl, fun j u hu => by rw [add_lit]; exact (hbd.cell j).trans hu⟩
    have hgl := hbd.lt
    have hgN : ¬ N gd := fun e => by have := h.jm.lt _ e; omega
    have hE : Rd (fun k => k ≠ gd) WE (some ⟨gd, 0, none⟩) (tokC (doF x doc)) := (hd.fr hf57 (fun k _ e e2 => hgN (e2 ▸ h.jm.mp.mine k e))).fr hf7E (fun k _ e e2 => hgN (e2 ▸ (hown k e).1))
    refine ⟨_, _, rfl, Nat.le_refl _, hE.mono (fun k hk e => ?_)⟩
    subst e
    rcases hk with hk | hk
    · rcases hnew0 _ hk with h1 | h1
      · exact hgN h1
      · omega
    · have := hM _ hk; omega
  · have h1 := flat_short (applyE_zero (doE_zero hZ).1).2.2.2
    omega
  · intro y hy
    rcases List.mem_append.1 hy with hy | hy
    · exact h.got y hy
    · obtain rfl := List.mem_singleton.1 hy
      exact ⟨own[i], List.getElem_mem _, by rw [hX], by rw [hX]; exact hxl, by rw [hX]⟩
  · have h1 := h.go
    rw [List.drop_eq_getElem_cons hi, List.map_cons, hX, rbGo, hTR] at h1
    simp only [if_pos hZ] at h1
    rw [List.map_append]
    exact h1
  · intro j hj
    rw [mirL_get _ (by omega) (by have := h.len; omega), List.getElem?_append_left (by have := h.len; omega)]
    exact h.mirs j (by omega)
  · rw [hlen, List.length_append, h.len]
    simp
    omega
  · have := h.few
    rw [List.length_append]
    simp
    omega
  · rw [List.length_append, List.length_append, h.klen]
    rfl
/-- The last loop is over: what is handed back. -/
theorem RbI.done {M' : Nat → Prop} {w WE : World} {OA : Option Addr} {t : TypeId} {z0 z1 z2 : Value} (h : RbI M' N9 base m Xo vn own rs g Rr W9 i wr N Lk vk msk doc DA dc L kept sv kv) (hi : ¬ i < own.length) (hb : Blk W9 base [z0, z1, z2] t) (hbase : w.heap.size = base)
    (hM : ∀ k, M k → k < w.heap.size) (hM' : ∀ k, M k ∨ k = base → M' k) (hN9 : ∀ k, N9 k → base < k) (hF9 : Fr Nob w W9) (ho : StepsM M w OA own)
    (hWE : ((wr.setCell ⟨base, 0, none⟩ (.slice DA doc.length dc)).setCell ⟨base, 1, none⟩ sv).setCell ⟨base, 2, none⟩ kv = WE) :
    Blk WE base [.slice DA doc.length dc, sv, kv] t ∧ RebV M WE (.slice DA doc.length dc) sv kv Rr ∧ Fr Nob w WE := by
  subst hbase
  have hn9 : ¬ N9 w.heap.size := fun e => by have := hN9 _ e; omega
  obtain ⟨hbE, hfE⟩ := store3 (hb.fr h.fw hn9) (.slice DA doc.length dc) sv kv WE hWE
  have hbl := hb.lt
  have hNb : ∀ k, N k → w.heap.size < k := fun k hk => by
    rcases h.lat k hk with h1 | h1
    · exact hN9 k h1
    · omega
  have hfr : Fr Nob w wr := hF9.trans h.fw (fun k hk e => by have := hN9 k e; omega)
  have hfrE : Fr Nob w WE := new_fr hfr (Nat.le_refl _) hfE
  have hgo : (⟨doc, L.map StepA.s, kept⟩ : RebM) = Rr := by
    have h1 := h.go
    rw [List.drop_eq_nil_of_le (by omega), List.map_nil, rbGo] at h1
    exact h1
  refine ⟨hbE, ⟨?_, ?_, ?_⟩, hfrE⟩
  · rw [← hgo]
    exact (h.dcm.fr hfE (fun k _ e => .inr (hM' k (.inr e)))).mono (fun k hk => .inr (hM' k (.inl hk)))
  · obtain ⟨SA, sc, rfl, hsc, hsr⟩ := Rd.of_own (M := fun k => M k ∨ k = w.heap.size) h.out.so (fun k e hk => by
      have h1 := hNb k (h.out.mine k (.inr (.inl e)))
      rcases hk with hk | hk
      · have := hM k hk; omega
      · omega)
    refine ⟨SA, sc, L, rfl, ⟨(hsr.fr hfE (fun k _ e => .inr e)).mono (fun k hk => .inl hk), ?_, ?_⟩, by rw [← hgo]⟩
    · intro x hx
      obtain ⟨y, hy, e1, e2, _⟩ := h.got x hx
      rw [e1, e2]
      exact (ho.each y hy).fr hfrE (fun _ _ e => e.elim)
    · intro x hx
      obtain ⟨y, hy, _, e2, e3⟩ := h.got x hx
      rw [e2, e3]
      exact ho.cap y hy
  · obtain ⟨KA, kc, rfl, hkc, hkr⟩ := Rd.of_own (M := fun k => M k ∨ k = w.heap.size) h.out.ko (fun k e hk => by
      have h1 := hNb k (h.out.mine k (.inr (.inr e)))
      rcases hk with hk | hk
      · have := hM k hk; omega
      · omega)
    rw [← hgo]
    exact ⟨KA, kc, rfl, (hkr.fr hfE (fun k _ e => .inr e)).mono (fun k hk => .inl hk)⟩
end
end Go.Proofs.YtanbfplcldloeaaGreatDoor
