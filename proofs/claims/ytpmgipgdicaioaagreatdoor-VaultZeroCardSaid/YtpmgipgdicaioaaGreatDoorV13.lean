/- A part of the proof for chapter 10: House; no conditions. -/
import Derived.Test.YtpmgipgdicaioaaGreatDoorV12
import Derived.Deep.WholeRow
/- Chapter 7: the house's schema. -/
namespace Go.Proofs.YtpmgipgdicaioaaGreatDoor
open Go.RowKit
def houseL : List SpecR := [⟨⟨#[112, 97, 114, 97]⟩, ⟨#[116, 101, 120, 116, 42]⟩, false, 7, 0, 0, false⟩,
  ⟨⟨#[104, 101, 97, 100]⟩, ⟨#[116, 101, 120, 116, 42]⟩, false, 7, 1, 6, false⟩,
  ⟨⟨#[113, 117, 111, 116, 101]⟩, ⟨#[98, 108, 111, 99, 107, 43]⟩, false, 0, 0, 0, false⟩,
  ⟨⟨#[99, 111, 100, 101]⟩, ⟨#[116, 101, 120, 116, 42]⟩, false, 0, 0, 0, true⟩,
  ⟨⟨#[108, 105, 115, 116]⟩, ⟨#[105, 116, 101, 109, 43]⟩, false, 0, 0, 1, false⟩,
  ⟨⟨#[105, 116, 101, 109]⟩, ⟨#[98, 108, 111, 99, 107, 43]⟩, false, 0, 0, 0, false⟩,
  ⟨⟨#[114, 117, 108, 101]⟩, ⟨#[]⟩, true, 0, 0, 0, false⟩]
def houseG : List Grp := [⟨⟨#[98, 108, 111, 99, 107]⟩, [1, 2, 3, 4, 5, 7]⟩]
def houseC : List Value := [.string ⟨#[112, 97, 114, 97]⟩, .string ⟨#[116, 101, 120, 116, 42]⟩, .bool false, .int .i64 7, .int .i64 0, .int .i64 0, .bool false, .string ⟨#[104, 101, 97, 100]⟩, .string ⟨#[116, 101, 120, 116, 42]⟩, .bool false, .int .i64 7, .int .i64 1, .int .i64 6, .bool false, .string ⟨#[113, 117, 111, 116, 101]⟩, .string ⟨#[98, 108, 111, 99, 107, 43]⟩, .bool false, .int .i64 0, .int .i64 0, .int .i64 0, .bool false, .string ⟨#[99, 111, 100, 101]⟩, .string ⟨#[116, 101, 120, 116, 42]⟩, .bool false, .int .i64 0, .int .i64 0, .int .i64 0, .bool true, .string ⟨#[108, 105, 115, 116]⟩, .string ⟨#[105, 116, 101, 109, 43]⟩, .bool false, .int .i64 0, .int .i64 0, .int .i64 1, .bool false, .string ⟨#[105, 116, 101, 109]⟩, .string ⟨#[98, 108, 111, 99, 107, 43]⟩, .bool false, .int .i64 0, .int .i64 0, .int .i64 0, .bool false, .string ⟨#[114, 117, 108, 101]⟩, .string ⟨#[]⟩, .bool true, .int .i64 0, .int .i64 0, .int .i64 0, .bool false]
theorem houseC_is : specC houseL = houseC := rfl
def zeroC : List Value := [.string ⟨#[]⟩, .string ⟨#[]⟩, .bool false, .int .i64 0, .int .i64 0, .int .i64 0, .bool false, .string ⟨#[]⟩, .string ⟨#[]⟩, .bool false, .int .i64 0, .int .i64 0, .int .i64 0, .bool false, .string ⟨#[]⟩, .string ⟨#[]⟩, .bool false, .int .i64 0, .int .i64 0, .int .i64 0, .bool false, .string ⟨#[]⟩, .string ⟨#[]⟩, .bool false, .int .i64 0, .int .i64 0, .int .i64 0, .bool false, .string ⟨#[]⟩, .string ⟨#[]⟩, .bool false, .int .i64 0, .int .i64 0, .int .i64 0, .bool false, .string ⟨#[]⟩, .string ⟨#[]⟩, .bool false, .int .i64 0, .int .i64 0, .int .i64 0, .bool false, .string ⟨#[]⟩, .string ⟨#[]⟩, .bool false, .int .i64 0, .int .i64 0, .int .i64 0, .bool false]
def houseA : Array Value := #[.string ⟨#[112, 97, 114, 97]⟩, .string ⟨#[116, 101, 120, 116, 42]⟩, .bool false, .int .i64 7, .int .i64 0, .int .i64 0, .bool false, .string ⟨#[104, 101, 97, 100]⟩, .string ⟨#[116, 101, 120, 116, 42]⟩, .bool false, .int .i64 7, .int .i64 1, .int .i64 6, .bool false, .string ⟨#[113, 117, 111, 116, 101]⟩, .string ⟨#[98, 108, 111, 99, 107, 43]⟩, .bool false, .int .i64 0, .int .i64 0, .int .i64 0, .bool false, .string ⟨#[99, 111, 100, 101]⟩, .string ⟨#[116, 101, 120, 116, 42]⟩, .bool false, .int .i64 0, .int .i64 0, .int .i64 0, .bool true, .string ⟨#[108, 105, 115, 116]⟩, .string ⟨#[105, 116, 101, 109, 43]⟩, .bool false, .int .i64 0, .int .i64 0, .int .i64 1, .bool false, .string ⟨#[105, 116, 101, 109]⟩, .string ⟨#[98, 108, 111, 99, 107, 43]⟩, .bool false, .int .i64 0, .int .i64 0, .int .i64 0, .bool false, .string ⟨#[114, 117, 108, 101]⟩, .string ⟨#[]⟩, .bool true, .int .i64 0, .int .i64 0, .int .i64 0, .bool false]
theorem wpList_buildV {P : Program} {ops : Array Oper} {rest : List Oper} {o : Oper} {a : Act} {w : World} {Q : Exit → Act → World → Prop} (hg : o.guard = none) (t : TypeId) (parts : Array (Nat × Operand)) (ho : o.op = .build t parts) (cells : Array Value)
    (hb : P.built t (parts.map fun (i, x) => (i, a.eval x)).toList = some cells) (h : wpList P ops Q rest (a.put o.dst (.agg cells)) w) : wpList P ops Q (o :: rest) a w := by
  refine wpList_plain hg fun _ hK => ?_
  unfold Oper.wp execOp
  simp only [ho, Sem.run_bind, run_build w t _ cells hb, Result.andThen_ok]
  exact hK _ _ h
theorem wpList_storeV {P : Program} {ops : Array Oper} {rest : List Oper} {o : Oper} {a : Act} {Q : Exit → Act → World → Prop} (hg : o.guard = none) (t : TypeId) (x y : Operand) (ho : o.op = .store t x y) (w0 : World) (c c' : Array Value)
    (hx : a.eval x = .pointer (some ⟨w0.heap.size, 0, none⟩)) (hy : a.eval y = .agg c') (hi : (P.info? t).map (·.size) = some c'.size) (hs : c.size = c'.size) (h1 : c'.all (·.oneCell') = true)
    (h : wpList P ops Q rest (a.put o.dst undef) (w0.alloc (.cells c' t))) : wpList P ops Q (o :: rest) a (w0.alloc (.cells c t)) := by
  refine wpList_plain hg fun _ hK => ?_
  unfold Oper.wp execOp
  simp only [ho, hx, hy, Sem.run_bind, run_storeAt_new (P := P) w0 t c c' hi hs h1, Result.andThen_ok]
  exact hK _ _ h
theorem results_cell {P : Program} {fn : Func} {tmps : Array Value} {w : World} {v : Value} {t : TypeId} {i : Nat} {ad : Addr} (h : fn.results = #[.cell i t]) (hp : tmps[i]?.getD undef = .pointer (some ad)) (hl : (loadVar t ad).run P w = .ok v w) : (results fn tmps).run P w = .ok v w := by
  unfold results
  rw [h]
  simp [hp, asAddr, hl]
theorem infoArr : (Tryz.prog.info? 100).map (·.size) = some 49 := by kernel_rfl
set_option maxRecDepth 100000 in
set_option maxHeartbeats 2000000 in
theorem specs_any (w : World) : Calls Tryz.prog 57 #[] w fun e w' => e = .returned (.agg houseA) ∧ Fr Nob w w' := by
  have hld := run_loadVar_new (P := Tryz.prog) w 100 houseA 7 99 Tryz.underlying100 infoArr
  go_enter Tryz.func57, Tryz.ntmps57
  go_wp2_with (first | (refine wpList_buildV rfl 100 _ rfl houseA (by kernel_rfl) ?_) | (refine wpList_storeV rfl 100 _ _ rfl w zeroC.toArray houseA rfl rfl infoArr rfl (by kernel_rfl) ?_))
  refine bodyPost_ret (v := .agg houseA) (results_cell (i := 0) (ad := ⟨w.heap.size, 0, none⟩) rfl rfl hld) rfl ?_
  exact ⟨rfl, (Fr.refl _ _).alloc _⟩
theorem house_names : NamesOk houseL houseG := ⟨fun s hs => by
    have h : (houseL.map SpecR.name ++ houseG.map Grp.name).all (fun s => decide (s.size ≤ 4611686018427387904) && nameB s.data.toList) = true := by kernel_rfl
    have h1 := List.all_eq_true.1 h s hs
    rw [Bool.and_eq_true] at h1
    exact ⟨of_decide_eq_true h1.1, h1.2⟩, by decide⟩
def gokB (g : List Grp) : Bool := decide (g.length ≤ 16) && g.all fun x => decide (x.types.length ≤ 16) && x.types.all fun t => decide (0 ≤ t) && decide (t < 16)
theorem gokB_spec {g : List Grp} (h : gokB g = true) : GOk g := by
  unfold gokB at h
  rw [Bool.and_eq_true, List.all_eq_true] at h
  refine ⟨of_decide_eq_true h.1, fun x hx => ?_⟩
  have h1 := h.2 x hx
  rw [Bool.and_eq_true, List.all_eq_true] at h1
  refine ⟨of_decide_eq_true h1.1, fun t ht => ?_⟩
  have h2 := h1.2 t ht
  rw [Bool.and_eq_true] at h2
  exact ⟨of_decide_eq_true h2.1, of_decide_eq_true h2.2⟩
theorem house_gok : GOk (groupsF houseL houseG) := gokB_spec (by kernel_rfl)
def fitB (s : SpecR) : Bool := decide (0 ≤ s.marks) && (decide (s.marks < 8) && (decide (0 ≤ s.least) && (decide (s.least ≤ s.most) && (decide (s.most < 16) && (!s.leaf || decide (s.expr = ⟨#[]⟩))))))
theorem fitB_spec {s : SpecR} (h : fitB s = true) : FitS s := by
  unfold fitB at h
  simp only [Bool.and_eq_true, Bool.or_eq_true, Bool.not_eq_true', decide_eq_true_eq] at h
  obtain ⟨h1, h2, h3, h4, h5, h6⟩ := h
  exact ⟨h1, h2, h3, h4, h5, fun hl => h6.resolve_left (fun e => by rw [hl] at e; cases e)⟩
def parseOkB (g : List Grp) (s : SpecR) : Bool := (parseF s.expr).2.2 == 0 && (checkR g (parseF s.expr).1 == 0 && (decide ((parseF s.expr).1.count ≤ 4611686018427387904) && decide ((parseF s.expr).1.bytes ≤ 4611686018427387904)))
theorem house_parse : (wholeS ⟨#[98, 108, 111, 99, 107, 43]⟩ :: houseL).all (parseOkB (groupsF houseL houseG)) = true := by kernel_rfl
theorem house_ok : NewOk ⟨#[98, 108, 111, 99, 107, 43]⟩ houseL houseG where
  few := by decide
  fewg := by decide
  names := house_names
  fit := fun s hs => fitB_spec (List.all_eq_true.1 (show houseL.all fitB = true by kernel_rfl) s hs)
  typ := fun x hx => by
    obtain rfl := List.mem_singleton.1 hx
    decide
  gok := house_gok
  parse := fun s hs => by
    have h := List.all_eq_true.1 house_parse s hs
    simp only [parseOkB, Bool.and_eq_true, beq_iff_eq, decide_eq_true_eq] at h
    exact ⟨h.1, h.2.1, h.2.2.1, h.2.2.2⟩
set_option maxRecDepth 100000 in
set_option maxHeartbeats 2000000 in
theorem house_any (w : World) (hG : HG w) : Calls Tryz.prog 29 #[] w fun e w' => (∃ p rs, e = .returned (.pointer (some ⟨p, 0, none⟩)) ∧ Sch (fun k => k < w.heap.size) w' p rs (groupsF houseL houseG) ∧ rs.map coreR = (wholeS ⟨#[98, 108, 111, 99, 107, 43]⟩ :: houseL).map coreS) ∧ Fr Nob w w' := by
  have HHG := Lib.hid hG
  clear hG
  go_enter Tryz.func29, Tryz.ntmps29
  go_wp2_with fail
  refine (specs_any w).mono ?_
  rintro e w1 ⟨rfl, hF1⟩
  have HF1 := Lib.hid hF1
  clear hF1
  go_upto_region 2 with (first | (refine wpList_storeV rfl 100 _ _ rfl w1 zeroC.toArray houseA rfl rfl infoArr rfl (by kernel_rfl) ?_) | fail)
  obtain ⟨B, hB⟩ : ∃ B, w1.heap.size = B := ⟨_, rfl⟩
  obtain ⟨W2, hW2⟩ : ∃ W2, w1.alloc (.cells houseA 100) = W2 := ⟨_, rfl⟩
  have HB2 := Lib.hid (show Blk W2 B houseC 100 by rw [← hW2, ← hB]; exact Blk.new _ _ _)
  have HF2 := Lib.hid (show Fr Nob w W2 by rw [← hW2]; exact HF1.out.alloc _)
  rw [hB, hW2]
  clear hB hW2
  go_wp2_with fail
  obtain ⟨W3, hW3⟩ : ∃ W3, (W2.alloc (.cells #[.int .i64 1, .int .i64 2, .int .i64 3, .int .i64 4, .int .i64 5, .int .i64 7] 3)).alloc (.cells #[.string ⟨#[98, 108, 111, 99, 107]⟩, .slice (some ⟨W2.heap.size, 0, none⟩) 6 6] 107) = W3 := ⟨_, rfl⟩
  have hs1 : (W2.alloc (.cells #[.int .i64 1, .int .i64 2, .int .i64 3, .int .i64 4, .int .i64 5, .int .i64 7] 3)).heap.size = W2.heap.size + 1 := by simp
  have hi2 := (Blk.new W2 (intC [1, 2, 3, 4, 5, 7]) 3).alloc (.cells #[.string ⟨#[98, 108, 111, 99, 107]⟩, .slice (some ⟨W2.heap.size, 0, none⟩) 6 6] 107)
  have hg2 := Blk.new_at (W2.alloc (.cells #[.int .i64 1, .int .i64 2, .int .i64 3, .int .i64 4, .int .i64 5, .int .i64 7] 3)) [.string ⟨#[98, 108, 111, 99, 107]⟩, .slice (some ⟨W2.heap.size, 0, none⟩) 6 6] 107 (W2.heap.size + 1) hs1.symm
  have HF3 := Lib.hid (show Fr Nob W2 W3 by rw [← hW3]; exact ((Fr.refl _ _).alloc _).alloc _)
  have HGP := Lib.hid (show Grps Nob W3 (.slice (some ⟨W2.heap.size + 1, 0, none⟩) 1 1) houseG by
    rw [← hW3]
    refine ⟨_, 1, [.string ⟨#[98, 108, 111, 99, 107]⟩, .slice (some ⟨W2.heap.size, 0, none⟩) 6 6], rfl, Nat.le_refl _, fun _ => ⟨_, rfl, fun h => h, fun j u hu => by rw [add_lit]; exact (hg2.cell j).trans hu⟩, ?_⟩
    exact ⟨_, _, [], rfl, Nat.le_refl _, fun _ => ⟨_, rfl, fun h => h, fun j u hu => by rw [add_lit]; exact (hi2.cell j).trans hu⟩, rfl⟩)
  rw [hW3]
  clear hW3 hi2 hg2 hs1
  have HF := Lib.hid (HF2.out.same HF3.out)
  have hnew := new_any ⟨#[98, 108, 111, 99, 107, 43]⟩ houseL houseG house_ok ⟨B, 0, none⟩ 7 _ W3 (HHG.out.fr HF.out (fun h => h)) (Rd.fr (M := Nob) (w := W2) (fun _ => ⟨_, rfl, fun h => h, fun j u hu => by rw [add_lit, HB2.out.cell j, ← houseC_is]; exact hu⟩) HF3.out (fun _ _ h => h)) HGP.out
  refine hnew.mono ?_
  clear hnew
  rintro e w4 ⟨⟨p, rs, rfl, hS, hC⟩, hF4⟩
  have HS4 := Lib.hid (hS.mono (M' := fun k => k < w.heap.size) (fun k hk => Nat.lt_of_lt_of_le hk HF.out.size))
  have HC4 := Lib.hid hC
  have HF4 := Lib.hid (HF.out.same hF4)
  clear hS hC hF4
  go_wp2_with fail
  refine bodyPost_ret (v := .pointer (some ⟨p, 0, none⟩)) (by simp [results, go_sem]) rfl ?_
  have h1 := HS4.out
  have h2 := HC4.out
  first
    | exact ⟨⟨p, rs, rfl, h1, h2⟩, HF4.out⟩
    | exact ⟨⟨p, rfl, rs, h1, h2⟩, HF4.out⟩
end Go.Proofs.YtpmgipgdicaioaaGreatDoor
