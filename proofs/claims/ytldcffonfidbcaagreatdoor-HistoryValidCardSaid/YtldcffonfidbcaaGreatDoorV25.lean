/- A part of the proof for chapter 10: House, CoreH, CoreE, Do, TwoRow, AppMany, Hist, Store8; no conditions. -/
import Derived.Test.YtldcffonfidbcaaGreatDoorV24
import Derived.Deep.WholeRow
import Derived.Test.YtldcffonfidbcaaGreatDoorV12
import Derived.Test.YtldcffonfidbcaaGreatDoorV20
import Derived.Test.YtldcffonfidbcaaGreatDoorV22
import Derived.Test.YtldcffonfidbcaaGreatDoorV23
/- Chapter 7: the house's schema. -/
namespace Go.Proofs.YtldcffonfidbcaaGreatDoor
open Go.RowKit
def houseL : List SpecR := [⟨⟨#[112, 97, 114, 97]⟩, ⟨#[116, 101, 120, 116, 42]⟩, false, 7, 0, 0, false⟩,
  ⟨⟨#[104, 101, 97, 100]⟩, ⟨#[116, 101, 120, 116, 42]⟩, false, 7, 1, 6, false⟩,
  ⟨⟨#[113, 117, 111, 116, 101]⟩, ⟨#[98, 108, 111, 99, 107, 43]⟩, false, 0, 0, 0, false⟩,
  ⟨⟨#[99, 111, 100, 101]⟩, ⟨#[116, 101, 120, 116, 42]⟩, false, 0, 0, 0, true⟩,
  ⟨⟨#[108, 105, 115, 116]⟩, ⟨#[105, 116, 101, 109, 43]⟩, false, 0, 0, 1, false⟩,
  ⟨⟨#[105, 116, 101, 109]⟩, ⟨#[98, 108, 111, 99, 107, 43]⟩, false, 0, 0, 0, false⟩,
  ⟨⟨#[114, 117, 108, 101]⟩, ⟨#[]⟩, true, 0, 0, 0, false⟩]
def houseG : List Grp := [⟨⟨#[98, 108, 111, 99, 107]⟩, [1, 2, 3, 4, 5, 7]⟩]
def houseC : List Value := [.string ⟨#[112, 97, 114, 97]⟩, .string ⟨#[116, 101, 120, 116, 42]⟩, .bool false, .int .i64 7, .int .i64 0, .int .i64 0, .bool false, .string ⟨#[104, 101, 97, 100]⟩, .string ⟨#[116, 101, 120, 116, 42]⟩, .bool false, .int .i64 7, .int .i64 1, .int .i64 6, .bool false, .string ⟨#[113, 117, 111, 116, 101]⟩, .string ⟨#[98, 108, 111, 99, 107, 43]⟩, .bool false, .int .i64 0, .int .i64 0, .int .i64 0, .bool false, .string ⟨#[99, 111, 100, 101]⟩, .string ⟨#[116, 101, 120, 116, 42]⟩, .bool false, .int .i64 0, .int .i64 0, .int .i64 0, .bool true, .string ⟨#[108, 105, 115, 116]⟩, .string ⟨#[105, 116, 101, 109, 43]⟩, .bool false, .int .i64 0, .int .i64 0, .int .i64 1, .bool false, .string ⟨#[105, 116, 101, 109]⟩, .string ⟨#[98, 108, 111, 99, 107, 43]⟩, .bool false, .int .i64 0, .int .i64 0, .int .i64 0, .bool false, .string ⟨#[114, 117, 108, 101]⟩, .string ⟨#[]⟩, .bool true, .int .i64 0, .int .i64 0, .int .i64 0, .bool false]
theorem houseC_is : specC houseL = houseC := rfl
def zeroC : List Value := [.string ⟨#[]⟩, .string ⟨#[]⟩, .bool false, .int .i64 0, .int .i64 0, .int .i64 0, .bool false, .string ⟨#[]⟩, .string ⟨#[]⟩, .bool false, .int .i64 0, .int .i64 0, .int .i64 0, .bool false, .string ⟨#[]⟩, .string ⟨#[]⟩, .bool false, .int .i64 0, .int .i64 0, .int .i64 0, .bool false, .string ⟨#[]⟩, .string ⟨#[]⟩, .bool false, .int .i64 0, .int .i64 0, .int .i64 0, .bool false, .string ⟨#[]⟩, .string ⟨#[]⟩, .bool false, .int .i64 0, .int .i64 0, .int .i64 0, .bool false, .string ⟨#[]⟩, .string ⟨#[]⟩, .bool false, .int .i64 0, .int .i64 0, .int .i64 0, .bool false, .string ⟨#[]⟩, .string ⟨#[]⟩, .bool false, .int .i64 0, .int .i64 0, .int .i64 0, .bool false]
def houseA : Array Value := #[.string ⟨#[112, 97, 114, 97]⟩, .string ⟨#[116, 101, 120, 116, 42]⟩, .bool false, .int .i64 7, .int .i64 0, .int .i64 0, .bool false, .string ⟨#[104, 101, 97, 100]⟩, .string ⟨#[116, 101, 120, 116, 42]⟩, .bool false, .int .i64 7, .int .i64 1, .int .i64 6, .bool false, .string ⟨#[113, 117, 111, 116, 101]⟩, .string ⟨#[98, 108, 111, 99, 107, 43]⟩, .bool false, .int .i64 0, .int .i64 0, .int .i64 0, .bool false, .string ⟨#[99, 111, 100, 101]⟩, .string ⟨#[116, 101, 120, 116, 42]⟩, .bool false, .int .i64 0, .int .i64 0, .int .i64 0, .bool true, .string ⟨#[108, 105, 115, 116]⟩, .string ⟨#[105, 116, 101, 109, 43]⟩, .bool false, .int .i64 0, .int .i64 0, .int .i64 1, .bool false, .string ⟨#[105, 116, 101, 109]⟩, .string ⟨#[98, 108, 111, 99, 107, 43]⟩, .bool false, .int .i64 0, .int .i64 0, .int .i64 0, .bool false, .string ⟨#[114, 117, 108, 101]⟩, .string ⟨#[]⟩, .bool true, .int .i64 0, .int .i64 0, .int .i64 0, .bool false]
theorem wpList_buildV {P : Program} {ops : Array Oper} {rest : List Oper} {o : Oper} {a : Act} {w : World} {Q : Exit → Act → World → Prop} (hg : o.guard = none) (t : TypeId) (parts : Array (Nat × Operand)) (ho : o.op = .build t parts) (cells : Array Value)
    (hb : P.built t (parts.map fun (i, x) => (i, a.eval x)).toList = some cells) (h : wpList P ops Q rest (a.put o.dst (.agg cells)) w) : wpList P ops Q (o :: rest) a w := by
  refine wpList_plain hg fun _ hK => ?_
  unfold Oper.wp execOp
  simp only [ho, Sem.run_bind, run_build w t _ cells hb, Result.andThen_ok]
  exact hK _ _ h
theorem wpList_storeV {P : Program} {ops : Array Oper} {rest : List Oper} {o : Oper} {a : Act} {Q : Exit → Act → World → Prop} (hg : o.guard = none) (t : TypeId) (x y : Operand) (ho : o.op = .store t x y) (w0 : World) (c c' : Array Value)
    (hx : a.eval x = .pointer (some ⟨w0.heap.size, 0, none⟩)) (hy : a.eval y = .agg c') (hi : (P.info? t).map (·.size) = some c'.size) (hs : c.size = c'.size) (h1 : c'.all (·.oneCell') = true)
    (h : wpList P ops Q rest (a.put o.dst undef) (w0.alloc (.cells c' t))) : wpList P ops Q (o :: rest) a (w0.alloc (.cells c t)) := by
  refine wpList_plain hg fun _ hK => ?_
  unfold Oper.wp execOp
  simp only [ho, hx, hy, Sem.run_bind, run_storeAt_new (P := P) w0 t c c' hi hs h1, Result.andThen_ok]
  exact hK _ _ h
theorem results_cell {P : Program} {fn : Func} {tmps : Array Value} {w : World} {v : Value} {t : TypeId} {i : Nat} {ad : Addr} (h : fn.results = #[.cell i t]) (hp : tmps[i]?.getD undef = .pointer (some ad)) (hl : (loadVar t ad).run P w = .ok v w) : (results fn tmps).run P w = .ok v w := by
  unfold results
  rw [h]
  simp [hp, asAddr, hl]
theorem infoArr : (Tryz.prog.info? 70).map (·.size) = some 49 := by kernel_rfl
set_option maxRecDepth 100000 in
set_option maxHeartbeats 2000000 in
theorem specs_any (w : World) : Calls Tryz.prog 32 #[] w fun e w' => e = .returned (.agg houseA) ∧ Fr Nob w w' := by
  have hld := run_loadVar_new (P := Tryz.prog) w 70 houseA 7 69 Tryz.underlying70 infoArr
  go_enter Tryz.func32, Tryz.ntmps32
  go_wp2_with (first | (refine wpList_buildV rfl 70 _ rfl houseA (by kernel_rfl) ?_) | (refine wpList_storeV rfl 70 _ _ rfl w zeroC.toArray houseA rfl rfl infoArr rfl (by kernel_rfl) ?_))
  refine bodyPost_ret (v := .agg houseA) (results_cell (i := 0) (ad := ⟨w.heap.size, 0, none⟩) rfl rfl hld) rfl ?_
  exact ⟨rfl, (Fr.refl _ _).alloc _⟩
theorem house_names : NamesOk houseL houseG := ⟨fun s hs => by
    have h : (houseL.map SpecR.name ++ houseG.map Grp.name).all (fun s => decide (s.size ≤ 4611686018427387904) && nameB s.data.toList) = true := by kernel_rfl
    have h1 := List.all_eq_true.1 h s hs
    rw [Bool.and_eq_true] at h1
    exact ⟨of_decide_eq_true h1.1, h1.2⟩, by decide⟩
def gokB (g : List Grp) : Bool := decide (g.length ≤ 16) && g.all fun x => decide (x.types.length ≤ 16) && x.types.all fun t => decide (0 ≤ t) && decide (t < 16)
theorem gokB_spec {g : List Grp} (h : gokB g = true) : GOk g := by
  unfold gokB at h
  rw [Bool.and_eq_true, List.all_eq_true] at h
  refine ⟨of_decide_eq_true h.1, fun x hx => ?_⟩
  have h1 := h.2 x hx
  rw [Bool.and_eq_true, List.all_eq_true] at h1
  refine ⟨of_decide_eq_true h1.1, fun t ht => ?_⟩
  have h2 := h1.2 t ht
  rw [Bool.and_eq_true] at h2
  exact ⟨of_decide_eq_true h2.1, of_decide_eq_true h2.2⟩
theorem house_gok : GOk (groupsF houseL houseG) := gokB_spec (by kernel_rfl)
def fitB (s : SpecR) : Bool := decide (0 ≤ s.marks) && (decide (s.marks < 8) && (decide (0 ≤ s.least) && (decide (s.least ≤ s.most) && (decide (s.most < 16) && (!s.leaf || decide (s.expr = ⟨#[]⟩))))))
theorem fitB_spec {s : SpecR} (h : fitB s = true) : FitS s := by
  unfold fitB at h
  simp only [Bool.and_eq_true, Bool.or_eq_true, Bool.not_eq_true', decide_eq_true_eq] at h
  obtain ⟨h1, h2, h3, h4, h5, h6⟩ := h
  exact ⟨h1, h2, h3, h4, h5, fun hl => h6.resolve_left (fun e => by rw [hl] at e; cases e)⟩
def parseOkB (g : List Grp) (s : SpecR) : Bool := (parseF s.expr).2.2 == 0 && (checkR g (parseF s.expr).1 == 0 && (decide ((parseF s.expr).1.count ≤ 4611686018427387904) && decide ((parseF s.expr).1.bytes ≤ 4611686018427387904)))
theorem house_parse : (wholeS ⟨#[98, 108, 111, 99, 107, 43]⟩ :: houseL).all (parseOkB (groupsF houseL houseG)) = true := by kernel_rfl
theorem house_ok : NewOk ⟨#[98, 108, 111, 99, 107, 43]⟩ houseL houseG where
  few := by decide
  fewg := by decide
  names := house_names
  fit := fun s hs => fitB_spec (List.all_eq_true.1 (show houseL.all fitB = true by kernel_rfl) s hs)
  typ := fun x hx => by
    obtain rfl := List.mem_singleton.1 hx
    decide
  gok := house_gok
  parse := fun s hs => by
    have h := List.all_eq_true.1 house_parse s hs
    simp only [parseOkB, Bool.and_eq_true, beq_iff_eq, decide_eq_true_eq] at h
    exact ⟨h.1, h.2.1, h.2.2.1, h.2.2.2⟩
set_option maxRecDepth 100000 in
set_option maxHeartbeats 2000000 in
theorem house_any (w : World) (hG : HG w) : Calls Tryz.prog 18 #[] w fun e w' => (∃ p rs, e = .returned (.pointer (some ⟨p, 0, none⟩)) ∧ Sch (fun k => k < w.heap.size) w' p rs (groupsF houseL houseG) ∧ rs.map coreR = (wholeS ⟨#[98, 108, 111, 99, 107, 43]⟩ :: houseL).map coreS) ∧ Fr Nob w w' := by
  have HHG := Lib.hid hG
  clear hG
  go_enter Tryz.func18, Tryz.ntmps18
  go_wp2_with fail
  refine (specs_any w).mono ?_
  rintro e w1 ⟨rfl, hF1⟩
  have HF1 := Lib.hid hF1
  clear hF1
  go_upto_region 2 with (first | (refine wpList_storeV rfl 70 _ _ rfl w1 zeroC.toArray houseA rfl rfl infoArr rfl (by kernel_rfl) ?_) | fail)
  obtain ⟨B, hB⟩ : ∃ B, w1.heap.size = B := ⟨_, rfl⟩
  obtain ⟨W2, hW2⟩ : ∃ W2, w1.alloc (.cells houseA 70) = W2 := ⟨_, rfl⟩
  have HB2 := Lib.hid (show Blk W2 B houseC 70 by rw [← hW2, ← hB]; exact Blk.new _ _ _)
  have HF2 := Lib.hid (show Fr Nob w W2 by rw [← hW2]; exact HF1.out.alloc _)
  rw [hB, hW2]
  clear hB hW2
  go_wp2_with fail
  obtain ⟨W3, hW3⟩ : ∃ W3, (W2.alloc (.cells #[.int .i64 1, .int .i64 2, .int .i64 3, .int .i64 4, .int .i64 5, .int .i64 7] 3)).alloc (.cells #[.string ⟨#[98, 108, 111, 99, 107]⟩, .slice (some ⟨W2.heap.size, 0, none⟩) 6 6] 77) = W3 := ⟨_, rfl⟩
  have hs1 : (W2.alloc (.cells #[.int .i64 1, .int .i64 2, .int .i64 3, .int .i64 4, .int .i64 5, .int .i64 7] 3)).heap.size = W2.heap.size + 1 := by simp
  have hi2 := (Blk.new W2 (intC [1, 2, 3, 4, 5, 7]) 3).alloc (.cells #[.string ⟨#[98, 108, 111, 99, 107]⟩, .slice (some ⟨W2.heap.size, 0, none⟩) 6 6] 77)
  have hg2 := Blk.new_at (W2.alloc (.cells #[.int .i64 1, .int .i64 2, .int .i64 3, .int .i64 4, .int .i64 5, .int .i64 7] 3)) [.string ⟨#[98, 108, 111, 99, 107]⟩, .slice (some ⟨W2.heap.size, 0, none⟩) 6 6] 77 (W2.heap.size + 1) hs1.symm
  have HF3 := Lib.hid (show Fr Nob W2 W3 by rw [← hW3]; exact ((Fr.refl _ _).alloc _).alloc _)
  have HGP := Lib.hid (show Grps Nob W3 (.slice (some ⟨W2.heap.size + 1, 0, none⟩) 1 1) houseG by
    rw [← hW3]
    refine ⟨_, 1, [.string ⟨#[98, 108, 111, 99, 107]⟩, .slice (some ⟨W2.heap.size, 0, none⟩) 6 6], rfl, Nat.le_refl _, fun _ => ⟨_, rfl, fun h => h, fun j u hu => by rw [add_lit]; exact (hg2.cell j).trans hu⟩, ?_⟩
    exact ⟨_, _, [], rfl, Nat.le_refl _, fun _ => ⟨_, rfl, fun h => h, fun j u hu => by rw [add_lit]; exact (hi2.cell j).trans hu⟩, rfl⟩)
  rw [hW3]
  clear hW3 hi2 hg2 hs1
  have HF := Lib.hid (HF2.out.same HF3.out)
  have hnew := new_any ⟨#[98, 108, 111, 99, 107, 43]⟩ houseL houseG house_ok ⟨B, 0, none⟩ 7 _ W3 (HHG.out.fr HF.out (fun h => h)) (Rd.fr (M := Nob) (w := W2) (fun _ => ⟨_, rfl, fun h => h, fun j u hu => by rw [add_lit, HB2.out.cell j, ← houseC_is]; exact hu⟩) HF3.out (fun _ _ h => h)) HGP.out
  refine hnew.mono ?_
  clear hnew
  rintro e w4 ⟨⟨p, rs, rfl, hS, hC⟩, hF4⟩
  have HS4 := Lib.hid (hS.mono (M' := fun k => k < w.heap.size) (fun k hk => Nat.lt_of_lt_of_le hk HF.out.size))
  have HC4 := Lib.hid hC
  have HF4 := Lib.hid (HF.out.same hF4)
  clear hS hC hF4
  go_wp2_with fail
  refine bodyPost_ret (v := .pointer (some ⟨p, 0, none⟩)) (by simp [results, go_sem]) rfl ?_
  have h1 := HS4.out
  have h2 := HC4.out
  first
    | exact ⟨⟨p, rs, rfl, h1, h2⟩, HF4.out⟩
    | exact ⟨⟨p, rfl, rs, h1, h2⟩, HF4.out⟩
end Go.Proofs.YtldcffonfidbcaaGreatDoor

/- Chapter 10: what is told hangs on a rule's text alone, not on where it lies; the errors' numbers; the house. -/
namespace Go.Proofs.YtldcffonfidbcaaGreatDoor
open Go.RowKit
def ofCore (x : SpecR × Tree) : RuleM := ⟨x.1.name, x.1.expr, x.1.leaf, x.1.marks, x.1.least, x.1.most, x.1.lines, x.2, none, 0⟩
def normR (r : RuleM) : RuleM := ofCore (coreR r)
theorem specF_norm (rs : List RuleM) (t : Int) : specF (rs.map normR) t = (specF rs t).map normR := by
  unfold specF
  split
  · rw [List.getElem?_map]
  · rfl
theorem mayB_norm (rs : List RuleM) (r : RuleM) (x : Tok) : mayB (rs.map normR) (normR r) x = mayB rs r x := by
  unfold mayB
  rw [specF_norm]
  split
  · rfl
  · cases specF rs x.t <;> rfl
def normP (p : RuleM × List Int) : RuleM × List Int := (normR p.1, p.2)
def popF (f : RuleM × List Int → List (RuleM × List Int) → Int × Int) (i : Nat) : List (RuleM × List Int) → Int × Int
  | [] => (i, 9)
  | t :: st => f t st
theorem chkF_cons2 (rs : List RuleM) (g : List Grp) (top : RuleM × List Int) (st : List (RuleM × List Int)) (x : Tok) (l : List Tok) (i : Nat) : chkF rs g top st (x :: l) i =
    (if x.k = 2 then (if accB (typR g top.1) (starR top.1) top.2 then popF (fun t st => chkF rs g t st l (i + 1)) i st else (i, 9))
    else if mayB rs top.1 x = false then (i, 9)
    else if prefN (typR g top.1) (top.2 ++ [x.t]) < (top.2 ++ [x.t]).length then (i, 9)
    else if x.k = 1 then (specF rs x.t).elim (i, 9) (fun s => chkF rs g (s, []) ((top.1, top.2 ++ [x.t]) :: st) l (i + 1))
    else chkF rs g (top.1, top.2 ++ [x.t]) st l (i + 1) : Int × Int) := by
  rw [chkF_cons]
  cases st <;> cases specF rs x.t <;> rfl
theorem chkF_norm (rs : List RuleM) (g : List Grp) : ∀ (l : List Tok) (top : RuleM × List Int) (st : List (RuleM × List Int)) (i : Nat), chkF (rs.map normR) g (normP top) (st.map normP) l i = chkF rs g top st l i
  | [], top, st, i => by
    rw [chkF_nil, chkF_nil]
    have h : (normP top :: st.map normP).getLast (by simp) = normP ((top :: st).getLast (by simp)) := by
      rw [← List.getLast_map (f := normP) (by simp)]
      rfl
    rw [h]
    rfl
  | x :: l, top, st, i => by
    rw [chkF_cons2, chkF_cons2]
    have h1 : accB (typR g (normP top).1) (starR (normP top).1) (normP top).2 = accB (typR g top.1) (starR top.1) top.2 := rfl
    have h2 : mayB (rs.map normR) (normP top).1 x = mayB rs top.1 x := mayB_norm _ _ _
    have h3 : prefN (typR g (normP top).1) ((normP top).2 ++ [x.t]) = prefN (typR g top.1) (top.2 ++ [x.t]) := rfl
    have h4 : (normP top).2 = top.2 := rfl
    have e2 : chkF (rs.map normR) g ((normP top).1, top.2 ++ [x.t]) (st.map normP) l (i + 1) = chkF rs g (top.1, top.2 ++ [x.t]) st l (i + 1) := chkF_norm rs g l (top.1, top.2 ++ [x.t]) st (i + 1)
    have e3 : popF (fun t st => chkF (rs.map normR) g t st l (i + 1)) i (st.map normP) = popF (fun t st => chkF rs g t st l (i + 1)) i st := by
      cases st with
      | nil => rfl
      | cons t st => exact chkF_norm rs g l t st (i + 1)
    have e4 : (specF (rs.map normR) x.t).elim ((i : Int), (9 : Int)) (fun s => chkF (rs.map normR) g (s, []) (((normP top).1, top.2 ++ [x.t]) :: st.map normP) l (i + 1)) = (specF rs x.t).elim ((i : Int), (9 : Int)) (fun s => chkF rs g (s, []) ((top.1, top.2 ++ [x.t]) :: st) l (i + 1)) := by
      rw [specF_norm]
      cases specF rs x.t with
      | none => rfl
      | some s => exact chkF_norm rs g l (s, []) ((top.1, top.2 ++ [x.t]) :: st) (i + 1)
    rw [h1, h2, h3, h4, e2, e3, e4]
theorem checkF_norm (rs : List RuleM) (g : List Grp) (l : List Tok) : checkF (rs.map normR) g l = checkF rs g l := by
  unfold checkF
  cases rs with
  | nil => rfl
  | cons r rs => rw [List.map_cons]; simp only []; rw [← chkF_norm (r :: rs) g l (r, []) [] 0]; rfl
/-- The house's rules, wherever they lie. -/
def houseR : List RuleM := ((wholeS ⟨#[98, 108, 111, 99, 107, 43]⟩ :: houseL).map coreS).map ofCore
theorem norm_house {rs : List RuleM} (h : rs.map coreR = (wholeS ⟨#[98, 108, 111, 99, 107, 43]⟩ :: houseL).map coreS) : rs.map normR = houseR := by
  unfold houseR
  rw [← h, List.map_map]
  rfl
theorem checkF_house {rs : List RuleM} (h : rs.map coreR = (wholeS ⟨#[98, 108, 111, 99, 107, 43]⟩ :: houseL).map coreS) (g : List Grp) (l : List Tok) : checkF rs g l = checkF houseR g l := by
  rw [← norm_house h, checkF_norm]
def coreOkB (g : List Grp) (x : SpecR × Tree) : Bool := (x.1.leaf || (match x.2 with
  | .node k n [.node 1 nm []] => (k == 4 || k == 5) && decide (n = ⟨#[]⟩) && decide (nm.size ≤ 1000000) && checkR g (repT (decide (k = 4)) nm) == 0
  | _ => false)) && (x.1.marks == 0 || x.1.marks == 7)
theorem house_schok {rs : List RuleM} (h : rs.map coreR = (wholeS ⟨#[98, 108, 111, 99, 107, 43]⟩ :: houseL).map coreS) : SchOk rs (groupsF houseL houseG) := by
  have hall : ((wholeS ⟨#[98, 108, 111, 99, 107, 43]⟩ :: houseL).map coreS).all (coreOkB (groupsF houseL houseG)) = true := by kernel_rfl
  rw [← h] at hall
  have hr : ∀ r ∈ rs, coreOkB (groupsF houseL houseG) (coreR r) = true := fun r hr => List.all_eq_true.1 hall _ (List.mem_map_of_mem hr)
  refine ⟨fun r hm hl => ?_, fun r hm => ?_, fun r hr0 => ?_⟩
  · have h1 := hr r hm
    unfold coreOkB at h1
    rw [Bool.and_eq_true] at h1
    have h2 := h1.1
    have h3 : (coreR r).1.leaf = false := hl
    have h4 : (coreR r).2 = r.e := rfl
    rw [h3, Bool.false_or, h4] at h2
    cases he : r.e with
    | node k n l =>
      rw [he] at h2
      match l, h2 with
      | [.node 1 nm []], h2 =>
        simp only [Bool.and_eq_true, Bool.or_eq_true, beq_iff_eq, decide_eq_true_eq] at h2
        obtain ⟨⟨⟨h5, h6⟩, h7⟩, h8⟩ := h2
        have hs : starR r = decide (k = 4) := by unfold starR; rw [he]; rfl
        have hn : nmR r = nm := by unfold nmR; rw [he]; rfl
        rw [hs, hn]
        refine ⟨?_, ⟨house_gok, h7, h8⟩⟩
        unfold repT
        rcases h5 with rfl | rfl
        · simp [h6]
        · simp [h6]
  · have h1 := hr r hm
    unfold coreOkB at h1
    simp only [Bool.and_eq_true, Bool.or_eq_true, beq_iff_eq] at h1
    exact h1.2
  · have h1 : (rs.map coreR)[0]? = some (coreR r) := by rw [List.getElem?_map, hr0]; rfl
    rw [h] at h1
    injection h1 with h1
    have h2 : (coreR r).1.leaf = false := by rw [← h1]; rfl
    exact h2
/-- An error's number. -/
def ErrN (e : Int) : Prop := e = 0 ∨ 1 ≤ e ∧ e ≤ 12
theorem flatF_rng : ∀ (l : List Tok) (i n : Nat), ErrN (flatF l i n).2
  | [], i, n => by
    unfold flatF
    split
    · exact .inr ⟨by simp, by simp⟩
    · exact .inl rfl
  | x :: l, i, n => by
    unfold flatF
    split
    · exact .inr ⟨by simp, by simp⟩
    · split
      · exact .inr ⟨by simp, by simp⟩
      · exact flatF_rng l _ _
theorem flatCheck_rng (l : List Tok) : ErrN (flatCheck l).2 := by
  unfold flatCheck
  split
  · exact .inr ⟨by simp, by simp⟩
  · exact flatF_rng _ _ _
theorem chkF_rng (rs : List RuleM) (g : List Grp) : ∀ (l : List Tok) (top : RuleM × List Int) (st : List (RuleM × List Int)) (i : Nat), ErrN (chkF rs g top st l i).2
  | [], top, st, i => by
    rw [chkF_nil]
    split
    · exact .inl rfl
    · exact .inr ⟨by simp, by simp⟩
  | x :: l, top, st, i => by
    rw [chkF_cons]
    split
    · split
      · cases st with
        | nil => exact .inr ⟨by simp, by simp⟩
        | cons t st => exact chkF_rng rs g l _ _ _
      · exact .inr ⟨by simp, by simp⟩
    · split
      · exact .inr ⟨by simp, by simp⟩
      · split
        · exact .inr ⟨by simp, by simp⟩
        · split
          · cases specF rs x.t with
            | none => exact .inr ⟨by simp, by simp⟩
            | some s => exact chkF_rng rs g l _ _ _
          · exact chkF_rng rs g l _ _ _
theorem checkF_rng (rs : List RuleM) (g : List Grp) (l : List Tok) : ErrN (checkF rs g l).2 := by
  unfold checkF
  split
  · exact flatCheck_rng l
  · split
    · exact .inr ⟨by simp, by simp⟩
    · exact chkF_rng _ _ _ _ _ _
end Go.Proofs.YtldcffonfidbcaaGreatDoor

/- The errors of steps: 1 to 12. -/
namespace Go.Proofs.YtldcffonfidbcaaGreatDoor
open Go.RowKit
theorem applyE_rng (s : StepM) (l : List Tok) : ErrN (applyE s l) := by
  unfold applyE
  split
  · exact flatCheck_rng l
  · split
    · unfold stepF
      split
      · exact .inr ⟨by simp, by simp⟩
      · split
        · exact .inl rfl
        · exact .inr ⟨by simp, by simp⟩
    · split
      · exact .inr ⟨by simp, by simp⟩
      · split
        · exact .inr ⟨by simp, by simp⟩
        · exact flatCheck_rng _
theorem doE_rng (rs : List RuleM) (g : List Grp) (s : StepM) (l : List Tok) : ErrN (doE rs g s l) := by
  unfold doE
  split
  · exact applyE_rng s l
  · exact checkF_rng _ _ _
theorem numF_of {e : Int} (h : ErrN e) : numF e = e := by
  unfold numF
  rcases h with rfl | h
  · rfl
  · exact if_pos h
end Go.Proofs.YtldcffonfidbcaaGreatDoor

/- remap.Do: a step, if the document stays valid. -/
namespace Go.Proofs.YtldcffonfidbcaaGreatDoor
open Go.RowKit
set_option maxRecDepth 100000 in
set_option maxHeartbeats 4000000 in
theorem Do_any (M M1 M2 : Nat → Prop) (p : Nat) (rs : List RuleM) (g : List Grp) (hok : SchOk rs g) (s : StepM) (A B : Option Addr) (l : List Tok) (c b : Nat) (w : World) (hs : Sch M w p rs g) (hl : Rd M1 w A (tokC l)) (hx : Rd M2 w B (tokC s.l)) (hc : l.length ≤ c) (hb : s.l.length ≤ b) (hn : l.length ≤ 9223372036854775807) :
    Calls Tryz.prog 46 #[.pointer (some ⟨p, 0, none⟩), .slice A l.length c, .agg (s.cells (.slice B s.l.length b)).toArray] w fun e w' => ∃ v, e = .returned (.tuple #[v, .int .i64 (doE rs g s l)]) ∧ (doE rs g s l = 0 → NewDoc w w' v (doF s l)) ∧ (doE rs g s l ≠ 0 → v = .slice none 0 0) ∧ Fr Nob w w' := by
  have HDO := Lib.hid (fun (W : World) (h : Fr Nob w W) => remdo_any M Nob Nob p rs g hok s A B l c b W (hs.fr0 h) ((hl.mono (fun _ h => h.elim)).fr h (fun _ _ h => h)) ((hx.mono (fun _ h => h.elim)).fr h (fun _ _ h => h)) hc hb hn)
  have HRG := Lib.hid (numF_of (doE_rng rs g s l))
  obtain ⟨E, hE⟩ : ∃ E, doE rs g s l = E := ⟨_, rfl⟩
  simp only [hE] at HDO HRG ⊢
  clear hs hl hx hc hb hn hE hok
  obtain ⟨D, hD⟩ : ∃ D, doF s l = D := ⟨_, rfl⟩
  simp only [hD] at HDO ⊢
  clear hD
  obtain ⟨ln, hln⟩ : ∃ ln, l.length = ln := ⟨_, rfl⟩
  obtain ⟨sv, hsv⟩ : ∃ sv, Value.slice B s.l.length b = sv := ⟨_, rfl⟩
  simp only [hln, hsv] at HDO ⊢
  clear hln hsv
  obtain ⟨k, f, t, gf, gt, ins, m, x⟩ := s
  simp only [StepM.cells] at *
  go_enter Tryz.func46, Tryz.ntmps46
  go_upto_region 1 with (fail)
  obtain ⟨W, hW⟩ : ∃ W, w.alloc (.cells #[.int .i64 k, .int .i64 f, .int .i64 t, .int .i64 gf, .int .i64 gt, .int .i64 ins, sv, .int .i64 m] 32) = W := ⟨_, rfl⟩
  have HF := Lib.hid (show Fr Nob w W by rw [← hW]; exact (Fr.refl _ _).alloc _)
  have hB : Blk W w.heap.size [.int .i64 k, .int .i64 f, .int .i64 t, .int .i64 gf, .int .i64 gt, .int .i64 ins, sv, .int .i64 m] 32 := by rw [← hW]; exact Blk.new _ _ _
  rw [hW]
  clear hW
  obtain ⟨d0, d1, d2, d3, d4, d5, d6, d7, dl⟩ := hB.c8
  clear hB
  go_wp2_with fail
  refine (HDO.out W HF.out).mono ?_
  clear HDO d0 d1 d2 d3 d4 d5 d6 d7 dl
  rintro e w1 ⟨v, rfl, hv, hz, hF1⟩
  have HF1 := Lib.hid (HF.out.same hF1)
  have HV := Lib.hid (fun h => (hv h).old HF.out.size)
  have HZ := Lib.hid hz
  clear hF1 hv hz
  by_cases h0 : E = 0
  · subst h0
    have hr : refV 0 = .nilIface := rfl
    rw [hr]
    clear hr
    go_wp2_with fail
    refine bodyPost_ret (v := .tuple #[v, .int .i64 0]) (by simp [results, go_sem]) rfl ?_
    exact ⟨v, rfl, HV.out trivial, HF1.out⟩
  · have hr : refV E = .iface 201 (.agg #[.int .i64 E]) := if_neg h0
    rw [hr]
    clear hr
    have HN := Lib.hid (number_any E)
    have q4 := eqNilR
    go_wp2_with fail
    refine (HN.out w1).mono ?_
    rintro e w2 ⟨rfl, hF2⟩
    rw [HRG.out]
    have HF2 := Lib.hid (HF1.out.same hF2)
    clear hF2
    go_wp2_with fail
    refine bodyPost_ret (v := .tuple #[.slice none 0 0, .int .i64 E]) (by simp [results, go_sem]) rfl ?_
    exact ⟨_, rfl, fun h => absurd h h0, fun _ => rfl, HF2.out⟩
end Go.Proofs.YtldcffonfidbcaaGreatDoor

/- What append's law leaves of a row of one's own. -/
namespace Go.Proofs.YtldcffonfidbcaaGreatDoor
open Go.RowKit
theorem two_row {W w' : World} {v : Value} {g n m : Nat} (h : (W.grownBy w' none ∧ W.heap.size ≤ g) ∨ (∃ cap0, v = .slice (some ⟨g, 0, none⟩) n cap0 ∧ n + m ≤ cap0 ∧ W.grownBy w' (some g))) : Fr (fun k => v.ownBlock = some k) W w' ∧ (v.ownBlock = some g ∨ W.heap.size ≤ g) := by
  rcases h with ⟨h, hg⟩ | ⟨cap0, rfl, _, h⟩
  · exact ⟨(Fr.of_grown h).mono (fun k _ e => by cases e), .inr hg⟩
  · exact ⟨(Fr.of_grown h).mono (fun k _ e => by cases e; rfl), .inl rfl⟩
end Go.Proofs.YtldcffonfidbcaaGreatDoor

/- append(v, xs...) outside of drawn regions, v a row of one's own, xs whatever. -/
namespace Go.Proofs.YtldcffonfidbcaaGreatDoor
open Go.RowKit
/-- append(v, xs...), v a row of one's own, xs whatever. -/
theorem wp_append_many {P : Program} (w : World) {o : Oper} {a : Act} {K : Act → World → Prop} {Q : Exit → Act → World → Prop} (M : Nat → Prop) (s x : Operand) (t : TypeId)
    (ho : o.op = .call { callee := .builtin .append, args := #[s, x], argTypes := #[t, t] })
    (base : Nat) (e : TypeId) (i : TypeInfo) (z : Value) (size bytes : Nat) (ht : P.underlying t = some (.slice e)) (hi : P.info? e = some i) (hz : i.zero = some z)
    (hsize : i.size = size) (hby : i.bytes = bytes) (hzs : z.cells.size = size) (hsz : 0 < size)
    (v : Value) (n : Nat) (xs : List Value) (hs : a.eval s = v) (hown : w.ownsRow base e size v n xs)
    (A : Option Addr) (m c : Nat) (news : List Value) (hx : a.eval x = .slice A m c) (hl : news.length = m * size) (hr : Rd M w A news) (h1 : ∀ u ∈ news, u.oneCell' = true)
    (h63 : n + m ≤ maxLen) (hbytes : (n + m) * bytes ≤ 140737488355328) (hbase : base ≤ w.heap.size)
    (h : ∀ v' w', w'.ownsRow base e size v' (n + m) (xs ++ news) → Fr (fun k => v.ownBlock = some k) w w' → K (a.put o.dst v') w') : Oper.wp P o a w K Q := by
  by_cases hm : m = 0
  · subst hm
    have hl0 : ∀ (x : Addr), (loadCells x 0).run P w = .ok #[] w := fun x => by simpa using run_loadCells_list (P := P) w x [] (by simp)
    have hn : news = [] := by simpa using hl
    have hrun : (Builtin.append_ #[t, t] o.type #[v, .slice A 0 c]).run P w = .ok v w := by
      rcases hown.2 with ⟨rfl, rfl⟩ | ⟨g, cap, cur, rfl, _, _, hnc, _⟩
      · cases A <;> simp [Builtin.append_, run_underlying ht, sizeOf, typeInfo, hi, Builtin.lenOf, Builtin.firstCells, hl0]
      · cases A <;> simp [Builtin.append_, run_underlying ht, sizeOf, typeInfo, hi, Builtin.lenOf, Builtin.firstCells, hnc, storeCells, hl0]
    unfold Oper.wp execOp
    simp only [ho, resolve, invoke, builtin, Sem.run_bind, Sem.run_pure, Result.andThen_ok, List.map_toArray, List.map_cons, List.map_nil, hs, hx, hrun]
    exact h v w (by rw [hn, List.append_nil, Nat.add_zero]; exact hown) (Fr.refl _ _)
  · obtain ⟨ad, rfl, _, hc⟩ := hr (by
      intro e
      rw [e, List.length_nil] at hl
      have := Nat.mul_pos (Nat.pos_of_ne_zero hm) hsz
      omega)
    refine wp_append_two w s x t ho base e i z size bytes ht hi hz hsize hby hzs hsz v n xs hs hown ad m c news hx hl hc h1 (Nat.pos_of_ne_zero hm) h63 hbytes hbase ?_
    intro g cap w' ho' htwo
    exact h _ _ ho' (two_row htwo).1
theorem wpList_append_many {P : Program} (w : World) {ops : Array Oper} {rest : List Oper} {o : Oper} {a : Act} {Q : Exit → Act → World → Prop} (M : Nat → Prop) (hgd : o.guard = none) (s x : Operand) (t : TypeId)
    (ho : o.op = .call { callee := .builtin .append, args := #[s, x], argTypes := #[t, t] })
    (base : Nat) (e : TypeId) (i : TypeInfo) (z : Value) (size bytes : Nat) (ht : P.underlying t = some (.slice e)) (hi : P.info? e = some i) (hz : i.zero = some z)
    (hsize : i.size = size) (hby : i.bytes = bytes) (hzs : z.cells.size = size) (hsz : 0 < size)
    (v : Value) (n : Nat) (xs : List Value) (hs : a.eval s = v) (hown : w.ownsRow base e size v n xs)
    (A : Option Addr) (m c : Nat) (news : List Value) (hx : a.eval x = .slice A m c) (hl : news.length = m * size) (hr : Rd M w A news) (h1 : ∀ u ∈ news, u.oneCell' = true)
    (h63 : n + m ≤ maxLen) (hbytes : (n + m) * bytes ≤ 140737488355328) (hbase : base ≤ w.heap.size)
    (h : ∀ v' w', w'.ownsRow base e size v' (n + m) (xs ++ news) → Fr (fun k => v.ownBlock = some k) w w' → wpList P ops Q rest (a.put o.dst v') w') : wpList P ops Q (o :: rest) a w :=
  wpList_plain hgd fun _ hK => wp_append_many w M s x t ho base e i z size bytes ht hi hz hsize hby hzs hsz v n xs hs hown A m c news hx hl hr h1 h63 hbytes hbase fun v' w' h2 h3 => hK _ _ (h v' w' h2 h3)
end Go.Proofs.YtldcffonfidbcaaGreatDoor

/- A history in memory: its document, what undoes, what does again. -/
namespace Go.Proofs.YtldcffonfidbcaaGreatDoor
open Go.RowKit
structure HX where
  A : Option Addr
  c : Nat
  l : List Tok
  UA : Option Addr
  uc : Nat
  U : List StepA
  RA : Option Addr
  rc : Nat
  R : List StepA
  lost : Nat
def HX.cells (p : Nat) (x : HX) : List Value := [.pointer (some ⟨p, 0, none⟩), .slice x.A x.l.length x.c, .slice x.UA x.U.length x.uc, .slice x.RA x.R.length x.rc, .int .i64 x.lost]
/-- A stack of steps, outside of the blocks of N. -/
structure Stk (N : Nat → Prop) (w : World) (A : Option Addr) (c : Nat) (L : List StepA) : Prop where
  rows : StepsM N w A L
  cap : L.length ≤ c
  nil : A = none → c = 0
/-- A history at q; what it holds lies outside of the blocks of N. -/
structure HM (N : Nat → Prop) (w : World) (q p : Nat) (rs : List RuleM) (g : List Grp) (x : HX) : Prop where
  blk : Blk w q (x.cells p) 59
  mem : N q
  sch : Sch N w p rs g
  doc : Rd N w x.A (tokC x.l)
  cap : x.l.length ≤ x.c
  und : Stk N w x.UA x.uc x.U
  red : Stk N w x.RA x.rc x.R
theorem Stk.fr {N M : Nat → Prop} {w w' : World} {A : Option Addr} {c : Nat} {L : List StepA} (h : Stk N w A c L) (hf : Fr M w w') (hM : ∀ k, k < w.heap.size → M k → N k) : Stk N w' A c L := ⟨h.rows.fr hf hM, h.cap, h.nil⟩
theorem Stk.fr0 {N : Nat → Prop} {w w' : World} {A : Option Addr} {c : Nat} {L : List StepA} (h : Stk N w A c L) (hf : Fr Nob w w') : Stk N w' A c L := h.fr hf (fun _ _ h => h.elim)
theorem Stk.mono {N N' : Nat → Prop} {w : World} {A : Option Addr} {c : Nat} {L : List StepA} (h : Stk N w A c L) (hN : ∀ k, N' k → N k) : Stk N' w A c L := ⟨h.rows.mono hN, h.cap, h.nil⟩
theorem Stk.bound {N : Nat → Prop} {w : World} {A : Option Addr} {c : Nat} {L : List StepA} (h : Stk N w A c L) : Stk (fun k => N k ∨ w.heap.size ≤ k) w A c L := ⟨h.rows.bound, h.cap, h.nil⟩
theorem Stk.none (N : Nat → Prop) (w : World) : Stk N w none 0 [] := ⟨⟨Rd.nil _ _ _, fun _ h => (by cases h), fun _ h => (by cases h)⟩, Nat.le_refl _, fun _ => rfl⟩
theorem HM.fr0 {N : Nat → Prop} {w w' : World} {q p : Nat} {rs : List RuleM} {g : List Grp} {x : HX} (h : HM N w q p rs g x) (hf : Fr Nob w w') : HM N w' q p rs g x :=
  ⟨h.blk.fr hf (fun h => h), h.mem, h.sch.fr0 hf, h.doc.fr hf (fun _ _ h => h.elim), h.cap, h.und.fr0 hf, h.red.fr0 hf⟩
theorem HM.fr {N M : Nat → Prop} {w w' : World} {q p : Nat} {rs : List RuleM} {g : List Grp} {x : HX} (h : HM N w q p rs g x) (hf : Fr M w w') (hM : ∀ k, k < w.heap.size → M k → N k) (hq : ¬ M q) : HM N w' q p rs g x :=
  ⟨h.blk.fr hf hq, h.mem, h.sch.fr hf hM, h.doc.fr hf hM, h.cap, h.und.fr hf hM, h.red.fr hf hM⟩
theorem HM.mono {N N' : Nat → Prop} {w : World} {q p : Nat} {rs : List RuleM} {g : List Grp} {x : HX} (h : HM N w q p rs g x) (hN : ∀ k, N' k → N k) (hq : N' q) : HM N' w q p rs g x :=
  ⟨h.blk, hq, h.sch.mono hN, h.doc.mono hN, h.cap, h.und.mono hN, h.red.mono hN⟩
theorem HM.bound {N : Nat → Prop} {w : World} {q p : Nat} {rs : List RuleM} {g : List Grp} {x : HX} (h : HM N w q p rs g x) : HM (fun k => N k ∨ w.heap.size ≤ k) w q p rs g x :=
  ⟨h.blk, .inl h.mem, h.sch.bound, h.doc.bound, h.cap, h.und.bound, h.red.bound⟩
/-- What is q's is among the blocks of N. -/
theorem HM.one {N : Nat → Prop} {w : World} {q p : Nat} {rs : List RuleM} {g : List Grp} {x : HX} (h : HM N w q p rs g x) (n : Nat) : ∀ k, k < n → One q k → N k := fun k _ e => by have e' : k = q := e; rw [e']; exact h.mem
theorem HM.f5 {N : Nat → Prop} {w : World} {q p : Nat} {rs : List RuleM} {g : List Grp} {x : HX} (h : HM N w q p rs g x) : w.cell? ⟨q, 0, Option.none⟩ = some (.pointer (some ⟨p, 0, Option.none⟩)) ∧ w.cell? ⟨q, 1, Option.none⟩ = some (.slice x.A x.l.length x.c) ∧
    w.cell? ⟨q, 2, Option.none⟩ = some (.slice x.UA x.U.length x.uc) ∧ w.cell? ⟨q, 3, Option.none⟩ = some (.slice x.RA x.R.length x.rc) ∧ w.cell? ⟨q, 4, Option.none⟩ = some (.int .i64 x.lost) ∧
    w.frozen? ⟨q, 1, Option.none⟩ = false ∧ w.frozen? ⟨q, 2, Option.none⟩ = false ∧ w.frozen? ⟨q, 3, Option.none⟩ = false ∧ w.frozen? ⟨q, 4, Option.none⟩ = false ∧ q < w.heap.size :=
  ⟨h.blk.cell 0, h.blk.cell 1, h.blk.cell 2, h.blk.cell 3, h.blk.cell 4, h.blk.frozen 1, h.blk.frozen 2, h.blk.frozen 3, h.blk.frozen 4, h.blk.lt⟩
set_option maxRecDepth 100000 in
theorem hnone_any (q p : Nat) (w : World) (h0 : w.cell? ⟨q, 0, none⟩ = some (.pointer (some ⟨p, 0, none⟩))) :
    Calls Tryz.prog 27 #[.pointer (some ⟨q, 0, none⟩)] w fun e w' => e = .returned (.bool false) ∧ w' = w := by
  have hl := cell_lt h0
  go_enter Tryz.func27, Tryz.ntmps27
  go_wp2_with fail
  go_ret
  exact ⟨rfl, rfl⟩
set_option maxRecDepth 100000 in
theorem undos_any (N : Nat → Prop) (q p : Nat) (rs : List RuleM) (g : List Grp) (x : HX) (w : World) (h : HM N w q p rs g x) :
    Calls Tryz.prog 11 #[.pointer (some ⟨q, 0, none⟩)] w fun e w' => e = .returned (.int .i64 x.U.length) ∧ w' = w := by
  obtain ⟨q0, q1, q2, q3, q4, f1, f2, f3, f4, hq⟩ := h.f5
  have HN := Lib.hid (hnone_any q p w q0)
  clear h
  generalize x.U.length = n at q2 ⊢
  go_enter Tryz.func11, Tryz.ntmps11
  go_wp2_with fail
  refine HN.out.mono ?_
  rintro e w ⟨rfl, rfl⟩
  go_wp2_with fail
  go_ret
  exact ⟨rfl, rfl⟩
set_option maxRecDepth 100000 in
theorem redos_any (N : Nat → Prop) (q p : Nat) (rs : List RuleM) (g : List Grp) (x : HX) (w : World) (h : HM N w q p rs g x) :
    Calls Tryz.prog 12 #[.pointer (some ⟨q, 0, none⟩)] w fun e w' => e = .returned (.int .i64 x.R.length) ∧ w' = w := by
  obtain ⟨q0, q1, q2, q3, q4, f1, f2, f3, f4, hq⟩ := h.f5
  have HN := Lib.hid (hnone_any q p w q0)
  clear h
  generalize x.R.length = n at q3 ⊢
  go_enter Tryz.func12, Tryz.ntmps12
  go_wp2_with fail
  refine HN.out.mono ?_
  rintro e w ⟨rfl, rfl⟩
  go_wp2_with fail
  go_ret
  exact ⟨rfl, rfl⟩
set_option maxRecDepth 100000 in
theorem lost_any (N : Nat → Prop) (q p : Nat) (rs : List RuleM) (g : List Grp) (x : HX) (w : World) (h : HM N w q p rs g x) :
    Calls Tryz.prog 16 #[.pointer (some ⟨q, 0, none⟩)] w fun e w' => e = .returned (.int .i64 x.lost) ∧ w' = w := by
  obtain ⟨q0, q1, q2, q3, q4, f1, f2, f3, f4, hq⟩ := h.f5
  have HN := Lib.hid (hnone_any q p w q0)
  clear h
  generalize x.lost = n at q4 ⊢
  go_enter Tryz.func16, Tryz.ntmps16
  go_wp2_with fail
  refine HN.out.mono ?_
  rintro e w ⟨rfl, rfl⟩
  go_wp2_with fail
  go_ret
  exact ⟨rfl, rfl⟩
theorem doc_of_own {w w' : World} {e : TypeId} {v : Value} {l : List Tok} (h : w'.ownsRow w.heap.size e 4 v (0 + l.length) ([] ++ tokC l)) : Doc (fun k => k < w.heap.size) w' v l := by
  rw [Nat.zero_add, List.nil_append] at h
  obtain ⟨A, c, rfl, hc, hr⟩ := Rd.of_own h (M := fun k => k < w.heap.size) (fun k e => Nat.not_lt.2 (own_base h k e).1)
  exact ⟨A, c, rfl, hc, hr⟩
set_option maxRecDepth 100000 in
set_option maxHeartbeats 2000000 in
/-- append(nil, tokens...). -/
theorem hdoc_any (N : Nat → Prop) (q p : Nat) (rs : List RuleM) (g : List Grp) (x : HX) (w : World) (h : HM N w q p rs g x) (hn : x.l.length ≤ 100000) :
    Calls Tryz.prog 10 #[.pointer (some ⟨q, 0, none⟩)] w fun e w' => ∃ v, e = .returned v ∧ Doc (fun k => k < w.heap.size) w' v x.l ∧ Fr Nob w w' := by
  obtain ⟨q0, q1, q2, q3, q4, f1, f2, f3, f4, hq⟩ := h.f5
  have HN := Lib.hid (hnone_any q p w q0)
  have HD := Lib.hid h.doc
  clear h q2 q3 q4 f1 f2 f3 f4
  obtain ⟨A, c, l, _, _, _, _, _, _, _⟩ := x
  simp only at q1 HD hn ⊢
  obtain ⟨i0, hi, hz0, hz1, hz2⟩ := info_parts infoTok
  go_enter Tryz.func10, Tryz.ntmps10
  go_wp2_with fail
  refine HN.out.mono ?_
  rintro e w ⟨rfl, rfl⟩
  go_wp2_with (at_builtin; refine wpList_append_many _ N rfl _ _ 22 rfl w.heap.size 40 i0 _ 4 32 Tryz.underlying22 hi hz0 hz1 hz2 rfl (by decide) (.slice none 0 0) 0 [] rfl (World.ownsRow_nil _ _ _ _) A l.length c (tokC l) rfl (by rw [tokC_length]; omega) HD.out (tokC_one l) (by simp only [maxLen]; omega) (by omega) (Nat.le_refl _) ?_; intro v w9 hown9 hf9)
  go_ret
  exact ⟨v, rfl, doc_of_own hown9, hf9.mono (fun k _ e => by cases e)⟩
end Go.Proofs.YtldcffonfidbcaaGreatDoor

/- To store eight cells. -/
namespace Go.Proofs.YtldcffonfidbcaaGreatDoor
open Go.RowKit
theorem storeB8 {W : World} {g : Nat} {t : TypeId} {x0 x1 x2 x3 x4 x5 x6 x7 : Value} (hg : Blk W g [x0, x1, x2, x3, x4, x5, x6, x7] t) (y0 y1 y2 y3 y4 y5 y6 y7 : Value) :
    Blk ((((((((W.setCell ⟨g, 0, none⟩ y0).setCell ⟨g, 1, none⟩ y1).setCell ⟨g, 2, none⟩ y2).setCell ⟨g, 3, none⟩ y3).setCell ⟨g, 4, none⟩ y4).setCell ⟨g, 5, none⟩ y5).setCell ⟨g, 6, none⟩ y6).setCell ⟨g, 7, none⟩ y7) g [y0, y1, y2, y3, y4, y5, y6, y7] t ∧
    Fr (One g) W ((((((((W.setCell ⟨g, 0, none⟩ y0).setCell ⟨g, 1, none⟩ y1).setCell ⟨g, 2, none⟩ y2).setCell ⟨g, 3, none⟩ y3).setCell ⟨g, 4, none⟩ y4).setCell ⟨g, 5, none⟩ y5).setCell ⟨g, 6, none⟩ y6).setCell ⟨g, 7, none⟩ y7) :=
  ⟨(((((((hg.set 0 y0).set 1 y1).set 2 y2).set 3 y3).set 4 y4).set 5 y5).set 6 y6).set 7 y7, ((((((((Fr.refl (One g) W).setCell (p := ⟨g, 0, none⟩) (.inl rfl) y0).setCell (p := ⟨g, 1, none⟩) (.inl rfl) y1).setCell (p := ⟨g, 2, none⟩) (.inl rfl) y2).setCell (p := ⟨g, 3, none⟩) (.inl rfl) y3).setCell (p := ⟨g, 4, none⟩) (.inl rfl) y4).setCell (p := ⟨g, 5, none⟩) (.inl rfl) y5).setCell (p := ⟨g, 6, none⟩) (.inl rfl) y6).setCell (p := ⟨g, 7, none⟩) (.inl rfl) y7⟩
end Go.Proofs.YtldcffonfidbcaaGreatDoor
