/- A part of the proof for chapter 10: House, CoreH, ErrIs, Number, CoreE, ParaP, ParaD, InvP; no conditions. -/
import Derived.Test.YtldcffonfidbcaaGreatDoorY21
import Derived.Deep.WholeRow
import Derived.Test.YtldcffonfidbcaaGreatDoorY12
import Derived.Test.YtldcffonfidbcaaGreatDoorY20
import Derived.Test.YtldcffonfidbcaaGreatDoorY07
import Derived.Lib.IfaceEq
/- Chapter 7: the house's schema. -/
namespace Go.Proofs.YtldcffonfidbcaaGreatDoor
open Go.RowKit
def houseL : List SpecR := [⟨⟨#[112, 97, 114, 97]⟩, ⟨#[116, 101, 120, 116, 42]⟩, false, 7, 0, 0, false⟩,
  ⟨⟨#[104, 101, 97, 100]⟩, ⟨#[116, 101, 120, 116, 42]⟩, false, 7, 1, 6, false⟩,
  ⟨⟨#[113, 117, 111, 116, 101]⟩, ⟨#[98, 108, 111, 99, 107, 43]⟩, false, 0, 0, 0, false⟩,
  ⟨⟨#[99, 111, 100, 101]⟩, ⟨#[116, 101, 120, 116, 42]⟩, false, 0, 0, 0, true⟩,
  ⟨⟨#[108, 105, 115, 116]⟩, ⟨#[105, 116, 101, 109, 43]⟩, false, 0, 0, 1, false⟩,
  ⟨⟨#[105, 116, 101, 109]⟩, ⟨#[98, 108, 111, 99, 107, 43]⟩, false, 0, 0, 0, false⟩,
  ⟨⟨#[114, 117, 108, 101]⟩, ⟨#[]⟩, true, 0, 0, 0, false⟩]
def houseG : List Grp := [⟨⟨#[98, 108, 111, 99, 107]⟩, [1, 2, 3, 4, 5, 7]⟩]
def houseC : List Value := [.string ⟨#[112, 97, 114, 97]⟩, .string ⟨#[116, 101, 120, 116, 42]⟩, .bool false, .int .i64 7, .int .i64 0, .int .i64 0, .bool false, .string ⟨#[104, 101, 97, 100]⟩, .string ⟨#[116, 101, 120, 116, 42]⟩, .bool false, .int .i64 7, .int .i64 1, .int .i64 6, .bool false, .string ⟨#[113, 117, 111, 116, 101]⟩, .string ⟨#[98, 108, 111, 99, 107, 43]⟩, .bool false, .int .i64 0, .int .i64 0, .int .i64 0, .bool false, .string ⟨#[99, 111, 100, 101]⟩, .string ⟨#[116, 101, 120, 116, 42]⟩, .bool false, .int .i64 0, .int .i64 0, .int .i64 0, .bool true, .string ⟨#[108, 105, 115, 116]⟩, .string ⟨#[105, 116, 101, 109, 43]⟩, .bool false, .int .i64 0, .int .i64 0, .int .i64 1, .bool false, .string ⟨#[105, 116, 101, 109]⟩, .string ⟨#[98, 108, 111, 99, 107, 43]⟩, .bool false, .int .i64 0, .int .i64 0, .int .i64 0, .bool false, .string ⟨#[114, 117, 108, 101]⟩, .string ⟨#[]⟩, .bool true, .int .i64 0, .int .i64 0, .int .i64 0, .bool false]
theorem houseC_is : specC houseL = houseC := rfl
def zeroC : List Value := [.string ⟨#[]⟩, .string ⟨#[]⟩, .bool false, .int .i64 0, .int .i64 0, .int .i64 0, .bool false, .string ⟨#[]⟩, .string ⟨#[]⟩, .bool false, .int .i64 0, .int .i64 0, .int .i64 0, .bool false, .string ⟨#[]⟩, .string ⟨#[]⟩, .bool false, .int .i64 0, .int .i64 0, .int .i64 0, .bool false, .string ⟨#[]⟩, .string ⟨#[]⟩, .bool false, .int .i64 0, .int .i64 0, .int .i64 0, .bool false, .string ⟨#[]⟩, .string ⟨#[]⟩, .bool false, .int .i64 0, .int .i64 0, .int .i64 0, .bool false, .string ⟨#[]⟩, .string ⟨#[]⟩, .bool false, .int .i64 0, .int .i64 0, .int .i64 0, .bool false, .string ⟨#[]⟩, .string ⟨#[]⟩, .bool false, .int .i64 0, .int .i64 0, .int .i64 0, .bool false]
def houseA : Array Value := #[.string ⟨#[112, 97, 114, 97]⟩, .string ⟨#[116, 101, 120, 116, 42]⟩, .bool false, .int .i64 7, .int .i64 0, .int .i64 0, .bool false, .string ⟨#[104, 101, 97, 100]⟩, .string ⟨#[116, 101, 120, 116, 42]⟩, .bool false, .int .i64 7, .int .i64 1, .int .i64 6, .bool false, .string ⟨#[113, 117, 111, 116, 101]⟩, .string ⟨#[98, 108, 111, 99, 107, 43]⟩, .bool false, .int .i64 0, .int .i64 0, .int .i64 0, .bool false, .string ⟨#[99, 111, 100, 101]⟩, .string ⟨#[116, 101, 120, 116, 42]⟩, .bool false, .int .i64 0, .int .i64 0, .int .i64 0, .bool true, .string ⟨#[108, 105, 115, 116]⟩, .string ⟨#[105, 116, 101, 109, 43]⟩, .bool false, .int .i64 0, .int .i64 0, .int .i64 1, .bool false, .string ⟨#[105, 116, 101, 109]⟩, .string ⟨#[98, 108, 111, 99, 107, 43]⟩, .bool false, .int .i64 0, .int .i64 0, .int .i64 0, .bool false, .string ⟨#[114, 117, 108, 101]⟩, .string ⟨#[]⟩, .bool true, .int .i64 0, .int .i64 0, .int .i64 0, .bool false]
theorem wpList_buildV {P : Program} {ops : Array Oper} {rest : List Oper} {o : Oper} {a : Act} {w : World} {Q : Exit → Act → World → Prop} (hg : o.guard = none) (t : TypeId) (parts : Array (Nat × Operand)) (ho : o.op = .build t parts) (cells : Array Value)
    (hb : P.built t (parts.map fun (i, x) => (i, a.eval x)).toList = some cells) (h : wpList P ops Q rest (a.put o.dst (.agg cells)) w) : wpList P ops Q (o :: rest) a w := by
  refine wpList_plain hg fun _ hK => ?_
  unfold Oper.wp execOp
  simp only [ho, Sem.run_bind, run_build w t _ cells hb, Result.andThen_ok]
  exact hK _ _ h
theorem wpList_storeV {P : Program} {ops : Array Oper} {rest : List Oper} {o : Oper} {a : Act} {Q : Exit → Act → World → Prop} (hg : o.guard = none) (t : TypeId) (x y : Operand) (ho : o.op = .store t x y) (w0 : World) (c c' : Array Value)
    (hx : a.eval x = .pointer (some ⟨w0.heap.size, 0, none⟩)) (hy : a.eval y = .agg c') (hi : (P.info? t).map (·.size) = some c'.size) (hs : c.size = c'.size) (h1 : c'.all (·.oneCell') = true)
    (h : wpList P ops Q rest (a.put o.dst undef) (w0.alloc (.cells c' t))) : wpList P ops Q (o :: rest) a (w0.alloc (.cells c t)) := by
  refine wpList_plain hg fun _ hK => ?_
  unfold Oper.wp execOp
  simp only [ho, hx, hy, Sem.run_bind, run_storeAt_new (P := P) w0 t c c' hi hs h1, Result.andThen_ok]
  exact hK _ _ h
theorem results_cell {P : Program} {fn : Func} {tmps : Array Value} {w : World} {v : Value} {t : TypeId} {i : Nat} {ad : Addr} (h : fn.results = #[.cell i t]) (hp : tmps[i]?.getD undef = .pointer (some ad)) (hl : (loadVar t ad).run P w = .ok v w) : (results fn tmps).run P w = .ok v w := by
  unfold results
  rw [h]
  simp [hp, asAddr, hl]
theorem infoArr : (Tryz.prog.info? 70).map (·.size) = some 49 := by kernel_rfl
set_option maxRecDepth 100000 in
set_option maxHeartbeats 2000000 in
theorem specs_any (w : World) : Calls Tryz.prog 32 #[] w fun e w' => e = .returned (.agg houseA) ∧ Fr Nob w w' := by
  have hld := run_loadVar_new (P := Tryz.prog) w 70 houseA 7 69 Tryz.underlying70 infoArr
  go_enter Tryz.func32, Tryz.ntmps32
  go_wp2_with (first | (refine wpList_buildV rfl 70 _ rfl houseA (by kernel_rfl) ?_) | (refine wpList_storeV rfl 70 _ _ rfl w zeroC.toArray houseA rfl rfl infoArr rfl (by kernel_rfl) ?_))
  refine bodyPost_ret (v := .agg houseA) (results_cell (i := 0) (ad := ⟨w.heap.size, 0, none⟩) rfl rfl hld) rfl ?_
  exact ⟨rfl, (Fr.refl _ _).alloc _⟩
theorem house_names : NamesOk houseL houseG := ⟨fun s hs => by
    have h : (houseL.map SpecR.name ++ houseG.map Grp.name).all (fun s => decide (s.size ≤ 4611686018427387904) && nameB s.data.toList) = true := by kernel_rfl
    have h1 := List.all_eq_true.1 h s hs
    rw [Bool.and_eq_true] at h1
    exact ⟨of_decide_eq_true h1.1, h1.2⟩, by decide⟩
def gokB (g : List Grp) : Bool := decide (g.length ≤ 16) && g.all fun x => decide (x.types.length ≤ 16) && x.types.all fun t => decide (0 ≤ t) && decide (t < 16)
theorem gokB_spec {g : List Grp} (h : gokB g = true) : GOk g := by
  unfold gokB at h
  rw [Bool.and_eq_true, List.all_eq_true] at h
  refine ⟨of_decide_eq_true h.1, fun x hx => ?_⟩
  have h1 := h.2 x hx
  rw [Bool.and_eq_true, List.all_eq_true] at h1
  refine ⟨of_decide_eq_true h1.1, fun t ht => ?_⟩
  have h2 := h1.2 t ht
  rw [Bool.and_eq_true] at h2
  exact ⟨of_decide_eq_true h2.1, of_decide_eq_true h2.2⟩
theorem house_gok : GOk (groupsF houseL houseG) := gokB_spec (by kernel_rfl)
def fitB (s : SpecR) : Bool := decide (0 ≤ s.marks) && (decide (s.marks < 8) && (decide (0 ≤ s.least) && (decide (s.least ≤ s.most) && (decide (s.most < 16) && (!s.leaf || decide (s.expr = ⟨#[]⟩))))))
theorem fitB_spec {s : SpecR} (h : fitB s = true) : FitS s := by
  unfold fitB at h
  simp only [Bool.and_eq_true, Bool.or_eq_true, Bool.not_eq_true', decide_eq_true_eq] at h
  obtain ⟨h1, h2, h3, h4, h5, h6⟩ := h
  exact ⟨h1, h2, h3, h4, h5, fun hl => h6.resolve_left (fun e => by rw [hl] at e; cases e)⟩
def parseOkB (g : List Grp) (s : SpecR) : Bool := (parseF s.expr).2.2 == 0 && (checkR g (parseF s.expr).1 == 0 && (decide ((parseF s.expr).1.count ≤ 4611686018427387904) && decide ((parseF s.expr).1.bytes ≤ 4611686018427387904)))
theorem house_parse : (wholeS ⟨#[98, 108, 111, 99, 107, 43]⟩ :: houseL).all (parseOkB (groupsF houseL houseG)) = true := by kernel_rfl
theorem house_ok : NewOk ⟨#[98, 108, 111, 99, 107, 43]⟩ houseL houseG where
  few := by decide
  fewg := by decide
  names := house_names
  fit := fun s hs => fitB_spec (List.all_eq_true.1 (show houseL.all fitB = true by kernel_rfl) s hs)
  typ := fun x hx => by
    obtain rfl := List.mem_singleton.1 hx
    decide
  gok := house_gok
  parse := fun s hs => by
    have h := List.all_eq_true.1 house_parse s hs
    simp only [parseOkB, Bool.and_eq_true, beq_iff_eq, decide_eq_true_eq] at h
    exact ⟨h.1, h.2.1, h.2.2.1, h.2.2.2⟩
set_option maxRecDepth 100000 in
set_option maxHeartbeats 2000000 in
theorem house_any (w : World) (hG : HG w) : Calls Tryz.prog 18 #[] w fun e w' => (∃ p rs, e = .returned (.pointer (some ⟨p, 0, none⟩)) ∧ Sch (fun k => k < w.heap.size) w' p rs (groupsF houseL houseG) ∧ rs.map coreR = (wholeS ⟨#[98, 108, 111, 99, 107, 43]⟩ :: houseL).map coreS) ∧ Fr Nob w w' := by
  have HHG := Lib.hid hG
  clear hG
  go_enter Tryz.func18, Tryz.ntmps18
  go_wp2_with fail
  refine (specs_any w).mono ?_
  rintro e w1 ⟨rfl, hF1⟩
  have HF1 := Lib.hid hF1
  clear hF1
  go_upto_region 2 with (first | (refine wpList_storeV rfl 70 _ _ rfl w1 zeroC.toArray houseA rfl rfl infoArr rfl (by kernel_rfl) ?_) | fail)
  obtain ⟨B, hB⟩ : ∃ B, w1.heap.size = B := ⟨_, rfl⟩
  obtain ⟨W2, hW2⟩ : ∃ W2, w1.alloc (.cells houseA 70) = W2 := ⟨_, rfl⟩
  have HB2 := Lib.hid (show Blk W2 B houseC 70 by rw [← hW2, ← hB]; exact Blk.new _ _ _)
  have HF2 := Lib.hid (show Fr Nob w W2 by rw [← hW2]; exact HF1.out.alloc _)
  rw [hB, hW2]
  clear hB hW2
  go_wp2_with fail
  obtain ⟨W3, hW3⟩ : ∃ W3, (W2.alloc (.cells #[.int .i64 1, .int .i64 2, .int .i64 3, .int .i64 4, .int .i64 5, .int .i64 7] 3)).alloc (.cells #[.string ⟨#[98, 108, 111, 99, 107]⟩, .slice (some ⟨W2.heap.size, 0, none⟩) 6 6] 77) = W3 := ⟨_, rfl⟩
  have hs1 : (W2.alloc (.cells #[.int .i64 1, .int .i64 2, .int .i64 3, .int .i64 4, .int .i64 5, .int .i64 7] 3)).heap.size = W2.heap.size + 1 := by simp
  have hi2 := (Blk.new W2 (intC [1, 2, 3, 4, 5, 7]) 3).alloc (.cells #[.string ⟨#[98, 108, 111, 99, 107]⟩, .slice (some ⟨W2.heap.size, 0, none⟩) 6 6] 77)
  have hg2 := Blk.new_at (W2.alloc (.cells #[.int .i64 1, .int .i64 2, .int .i64 3, .int .i64 4, .int .i64 5, .int .i64 7] 3)) [.string ⟨#[98, 108, 111, 99, 107]⟩, .slice (some ⟨W2.heap.size, 0, none⟩) 6 6] 77 (W2.heap.size + 1) hs1.symm
  have HF3 := Lib.hid (show Fr Nob W2 W3 by rw [← hW3]; exact ((Fr.refl _ _).alloc _).alloc _)
  have HGP := Lib.hid (show Grps Nob W3 (.slice (some ⟨W2.heap.size + 1, 0, none⟩) 1 1) houseG by
    rw [← hW3]
    refine ⟨_, 1, [.string ⟨#[98, 108, 111, 99, 107]⟩, .slice (some ⟨W2.heap.size, 0, none⟩) 6 6], rfl, Nat.le_refl _, fun _ => ⟨_, rfl, fun h => h, fun j u hu => by rw [add_lit]; exact (hg2.cell j).trans hu⟩, ?_⟩
    exact ⟨_, _, [], rfl, Nat.le_refl _, fun _ => ⟨_, rfl, fun h => h, fun j u hu => by rw [add_lit]; exact (hi2.cell j).trans hu⟩, rfl⟩)
  rw [hW3]
  clear hW3 hi2 hg2 hs1
  have HF := Lib.hid (HF2.out.same HF3.out)
  have hnew := new_any ⟨#[98, 108, 111, 99, 107, 43]⟩ houseL houseG house_ok ⟨B, 0, none⟩ 7 _ W3 (HHG.out.fr HF.out (fun h => h)) (Rd.fr (M := Nob) (w := W2) (fun _ => ⟨_, rfl, fun h => h, fun j u hu => by rw [add_lit, HB2.out.cell j, ← houseC_is]; exact hu⟩) HF3.out (fun _ _ h => h)) HGP.out
  refine hnew.mono ?_
  clear hnew
  rintro e w4 ⟨⟨p, rs, rfl, hS, hC⟩, hF4⟩
  have HS4 := Lib.hid (hS.mono (M' := fun k => k < w.heap.size) (fun k hk => Nat.lt_of_lt_of_le hk HF.out.size))
  have HC4 := Lib.hid hC
  have HF4 := Lib.hid (HF.out.same hF4)
  clear hS hC hF4
  go_wp2_with fail
  refine bodyPost_ret (v := .pointer (some ⟨p, 0, none⟩)) (by simp [results, go_sem]) rfl ?_
  have h1 := HS4.out
  have h2 := HC4.out
  first
    | exact ⟨⟨p, rs, rfl, h1, h2⟩, HF4.out⟩
    | exact ⟨⟨p, rfl, rs, h1, h2⟩, HF4.out⟩
end Go.Proofs.YtldcffonfidbcaaGreatDoor

/- Chapter 10: what is told hangs on a rule's text alone, not on where it lies; the errors' numbers; the house. -/
namespace Go.Proofs.YtldcffonfidbcaaGreatDoor
open Go.RowKit
def ofCore (x : SpecR × Tree) : RuleM := ⟨x.1.name, x.1.expr, x.1.leaf, x.1.marks, x.1.least, x.1.most, x.1.lines, x.2, none, 0⟩
def normR (r : RuleM) : RuleM := ofCore (coreR r)
theorem specF_norm (rs : List RuleM) (t : Int) : specF (rs.map normR) t = (specF rs t).map normR := by
  unfold specF
  split
  · rw [List.getElem?_map]
  · rfl
theorem mayB_norm (rs : List RuleM) (r : RuleM) (x : Tok) : mayB (rs.map normR) (normR r) x = mayB rs r x := by
  unfold mayB
  rw [specF_norm]
  split
  · rfl
  · cases specF rs x.t <;> rfl
def normP (p : RuleM × List Int) : RuleM × List Int := (normR p.1, p.2)
def popF (f : RuleM × List Int → List (RuleM × List Int) → Int × Int) (i : Nat) : List (RuleM × List Int) → Int × Int
  | [] => (i, 9)
  | t :: st => f t st
theorem chkF_cons2 (rs : List RuleM) (g : List Grp) (top : RuleM × List Int) (st : List (RuleM × List Int)) (x : Tok) (l : List Tok) (i : Nat) : chkF rs g top st (x :: l) i =
    (if x.k = 2 then (if accB (typR g top.1) (starR top.1) top.2 then popF (fun t st => chkF rs g t st l (i + 1)) i st else (i, 9))
    else if mayB rs top.1 x = false then (i, 9)
    else if prefN (typR g top.1) (top.2 ++ [x.t]) < (top.2 ++ [x.t]).length then (i, 9)
    else if x.k = 1 then (specF rs x.t).elim (i, 9) (fun s => chkF rs g (s, []) ((top.1, top.2 ++ [x.t]) :: st) l (i + 1))
    else chkF rs g (top.1, top.2 ++ [x.t]) st l (i + 1) : Int × Int) := by
  rw [chkF_cons]
  cases st <;> cases specF rs x.t <;> rfl
theorem chkF_norm (rs : List RuleM) (g : List Grp) : ∀ (l : List Tok) (top : RuleM × List Int) (st : List (RuleM × List Int)) (i : Nat), chkF (rs.map normR) g (normP top) (st.map normP) l i = chkF rs g top st l i
  | [], top, st, i => by
    rw [chkF_nil, chkF_nil]
    have h : (normP top :: st.map normP).getLast (by simp) = normP ((top :: st).getLast (by simp)) := by
      rw [← List.getLast_map (f := normP) (by simp)]
      rfl
    rw [h]
    rfl
  | x :: l, top, st, i => by
    rw [chkF_cons2, chkF_cons2]
    have h1 : accB (typR g (normP top).1) (starR (normP top).1) (normP top).2 = accB (typR g top.1) (starR top.1) top.2 := rfl
    have h2 : mayB (rs.map normR) (normP top).1 x = mayB rs top.1 x := mayB_norm _ _ _
    have h3 : prefN (typR g (normP top).1) ((normP top).2 ++ [x.t]) = prefN (typR g top.1) (top.2 ++ [x.t]) := rfl
    have h4 : (normP top).2 = top.2 := rfl
    have e2 : chkF (rs.map normR) g ((normP top).1, top.2 ++ [x.t]) (st.map normP) l (i + 1) = chkF rs g (top.1, top.2 ++ [x.t]) st l (i + 1) := chkF_norm rs g l (top.1, top.2 ++ [x.t]) st (i + 1)
    have e3 : popF (fun t st => chkF (rs.map normR) g t st l (i + 1)) i (st.map normP) = popF (fun t st => chkF rs g t st l (i + 1)) i st := by
      cases st with
      | nil => rfl
      | cons t st => exact chkF_norm rs g l t st (i + 1)
    have e4 : (specF (rs.map normR) x.t).elim ((i : Int), (9 : Int)) (fun s => chkF (rs.map normR) g (s, []) (((normP top).1, top.2 ++ [x.t]) :: st.map normP) l (i + 1)) = (specF rs x.t).elim ((i : Int), (9 : Int)) (fun s => chkF rs g (s, []) ((top.1, top.2 ++ [x.t]) :: st) l (i + 1)) := by
      rw [specF_norm]
      cases specF rs x.t with
      | none => rfl
      | some s => exact chkF_norm rs g l (s, []) ((top.1, top.2 ++ [x.t]) :: st) (i + 1)
    rw [h1, h2, h3, h4, e2, e3, e4]
theorem checkF_norm (rs : List RuleM) (g : List Grp) (l : List Tok) : checkF (rs.map normR) g l = checkF rs g l := by
  unfold checkF
  cases rs with
  | nil => rfl
  | cons r rs => rw [List.map_cons]; simp only []; rw [← chkF_norm (r :: rs) g l (r, []) [] 0]; rfl
/-- The house's rules, wherever they lie. -/
def houseR : List RuleM := ((wholeS ⟨#[98, 108, 111, 99, 107, 43]⟩ :: houseL).map coreS).map ofCore
theorem norm_house {rs : List RuleM} (h : rs.map coreR = (wholeS ⟨#[98, 108, 111, 99, 107, 43]⟩ :: houseL).map coreS) : rs.map normR = houseR := by
  unfold houseR
  rw [← h, List.map_map]
  rfl
theorem checkF_house {rs : List RuleM} (h : rs.map coreR = (wholeS ⟨#[98, 108, 111, 99, 107, 43]⟩ :: houseL).map coreS) (g : List Grp) (l : List Tok) : checkF rs g l = checkF houseR g l := by
  rw [← norm_house h, checkF_norm]
def coreOkB (g : List Grp) (x : SpecR × Tree) : Bool := (x.1.leaf || (match x.2 with
  | .node k n [.node 1 nm []] => (k == 4 || k == 5) && decide (n = ⟨#[]⟩) && decide (nm.size ≤ 1000000) && checkR g (repT (decide (k = 4)) nm) == 0
  | _ => false)) && (x.1.marks == 0 || x.1.marks == 7)
theorem house_schok {rs : List RuleM} (h : rs.map coreR = (wholeS ⟨#[98, 108, 111, 99, 107, 43]⟩ :: houseL).map coreS) : SchOk rs (groupsF houseL houseG) := by
  have hall : ((wholeS ⟨#[98, 108, 111, 99, 107, 43]⟩ :: houseL).map coreS).all (coreOkB (groupsF houseL houseG)) = true := by kernel_rfl
  rw [← h] at hall
  have hr : ∀ r ∈ rs, coreOkB (groupsF houseL houseG) (coreR r) = true := fun r hr => List.all_eq_true.1 hall _ (List.mem_map_of_mem hr)
  refine ⟨fun r hm hl => ?_, fun r hm => ?_, fun r hr0 => ?_⟩
  · have h1 := hr r hm
    unfold coreOkB at h1
    rw [Bool.and_eq_true] at h1
    have h2 := h1.1
    have h3 : (coreR r).1.leaf = false := hl
    have h4 : (coreR r).2 = r.e := rfl
    rw [h3, Bool.false_or, h4] at h2
    cases he : r.e with
    | node k n l =>
      rw [he] at h2
      match l, h2 with
      | [.node 1 nm []], h2 =>
        simp only [Bool.and_eq_true, Bool.or_eq_true, beq_iff_eq, decide_eq_true_eq] at h2
        obtain ⟨⟨⟨h5, h6⟩, h7⟩, h8⟩ := h2
        have hs : starR r = decide (k = 4) := by unfold starR; rw [he]; rfl
        have hn : nmR r = nm := by unfold nmR; rw [he]; rfl
        rw [hs, hn]
        refine ⟨?_, ⟨house_gok, h7, h8⟩⟩
        unfold repT
        rcases h5 with rfl | rfl
        · simp [h6]
        · simp [h6]
  · have h1 := hr r hm
    unfold coreOkB at h1
    simp only [Bool.and_eq_true, Bool.or_eq_true, beq_iff_eq] at h1
    exact h1.2
  · have h1 : (rs.map coreR)[0]? = some (coreR r) := by rw [List.getElem?_map, hr0]; rfl
    rw [h] at h1
    injection h1 with h1
    have h2 : (coreR r).1.leaf = false := by rw [← h1]; rfl
    exact h2
/-- An error's number. -/
def ErrN (e : Int) : Prop := e = 0 ∨ 1 ≤ e ∧ e ≤ 12
theorem flatF_rng : ∀ (l : List Tok) (i n : Nat), ErrN (flatF l i n).2
  | [], i, n => by
    unfold flatF
    split
    · exact .inr ⟨by simp, by simp⟩
    · exact .inl rfl
  | x :: l, i, n => by
    unfold flatF
    split
    · exact .inr ⟨by simp, by simp⟩
    · split
      · exact .inr ⟨by simp, by simp⟩
      · exact flatF_rng l _ _
theorem flatCheck_rng (l : List Tok) : ErrN (flatCheck l).2 := by
  unfold flatCheck
  split
  · exact .inr ⟨by simp, by simp⟩
  · exact flatF_rng _ _ _
theorem chkF_rng (rs : List RuleM) (g : List Grp) : ∀ (l : List Tok) (top : RuleM × List Int) (st : List (RuleM × List Int)) (i : Nat), ErrN (chkF rs g top st l i).2
  | [], top, st, i => by
    rw [chkF_nil]
    split
    · exact .inl rfl
    · exact .inr ⟨by simp, by simp⟩
  | x :: l, top, st, i => by
    rw [chkF_cons]
    split
    · split
      · cases st with
        | nil => exact .inr ⟨by simp, by simp⟩
        | cons t st => exact chkF_rng rs g l _ _ _
      · exact .inr ⟨by simp, by simp⟩
    · split
      · exact .inr ⟨by simp, by simp⟩
      · split
        · exact .inr ⟨by simp, by simp⟩
        · split
          · cases specF rs x.t with
            | none => exact .inr ⟨by simp, by simp⟩
            | some s => exact chkF_rng rs g l _ _ _
          · exact chkF_rng rs g l _ _ _
theorem checkF_rng (rs : List RuleM) (g : List Grp) (l : List Tok) : ErrN (checkF rs g l).2 := by
  unfold checkF
  split
  · exact flatCheck_rng l
  · split
    · exact .inr ⟨by simp, by simp⟩
    · exact chkF_rng _ _ _ _ _ _
end Go.Proofs.YtldcffonfidbcaaGreatDoor

/- errors.Is at a refusal and a number. -/
namespace Go.Proofs.YtldcffonfidbcaaGreatDoor
open Go.RowKit Go.Extern.Stop Go.Stop Go.Extern
theorem typeOfE (v : Value) (w : World) : (ReflectliteType.typeOf #[.iface 25 v]).run Tryz.prog w = .ok (.iface 262 (.agg #[.pointer (some ⟨1, 25, none⟩)])) w := by kernel_rfl
theorem methodComparable (h : Value) (w : World) : (Go.method 423 262 (.agg #[h]) "Comparable").run Tryz.prog w = .ok (213, .agg #[h]) w := by kernel_rfl
theorem methodUnwrap (h : Value) (w : World) : (Go.method 423 201 (.agg #[h]) "Unwrap").run Tryz.prog w = .ok (207, .agg #[h]) w := by kernel_rfl
set_option maxHeartbeats 1000000 in
theorem unwrap_any (E : Int) (w : World) : Calls Tryz.prog 207 #[.agg #[.int .i64 E]] w fun e w' => e = .returned (.iface 25 (.int .i64 E)) ∧ Fr Nob w w' := by
  go_enter Tryz.func207, Tryz.ntmps207
  go_wp2_with fail
  go_ret
  exact ⟨rfl, (Fr.refl _ _).alloc _⟩
theorem eqRef (E e : Int) (w : World) : (binOp .eql 142 (.iface 201 (.agg #[.int .i64 E])) (.iface 25 (.int .i64 e))).run Tryz.prog w = .ok (.bool false) w := by kernel_rfl
theorem eqNum (E e : Int) (w : World) : (binOp .eql 142 (.iface 25 (.int .i64 E)) (.iface 25 (.int .i64 e))).run Tryz.prog w = .ok (.bool (E == e)) w := Lib.run_eql_iface_int w E e Tryz.underlying142 (by kernel_rfl) Tryz.underlying25
theorem eqNil (E : Int) (w : World) : (binOp .eql 142 (.iface 25 (.int .i64 E)) .nilIface).run Tryz.prog w = .ok (.bool false) w := by kernel_rfl
theorem taRefIs (E : Int) (w : World) : (Instr.typeAssert (.iface 201 (.agg #[.int .i64 E])) 142 282 true).run Tryz.prog w = .ok (.tuple #[.nilIface, .bool false]) w := run_typeAssert_lacksB Tryz.underlying282 (by kernel_rfl) (by kernel_rfl) _ _ w
theorem taRefUn (E : Int) (w : World) : (Instr.typeAssert (.iface 201 (.agg #[.int .i64 E])) 142 269 true).run Tryz.prog w = .ok (.tuple #[.iface 201 (.agg #[.int .i64 E]), .bool true]) w := by kernel_rfl
theorem taNumIs (E : Int) (w : World) : (Instr.typeAssert (.iface 25 (.int .i64 E)) 142 282 true).run Tryz.prog w = .ok (.tuple #[.nilIface, .bool false]) w := run_typeAssert_lacksB Tryz.underlying282 (by kernel_rfl) (by kernel_rfl) _ _ w
theorem taNumUn (E : Int) (w : World) : (Instr.typeAssert (.iface 25 (.int .i64 E)) 142 269 true).run Tryz.prog w = .ok (.tuple #[.nilIface, .bool false]) w := run_typeAssert_lacksB Tryz.underlying269 (by kernel_rfl) (by kernel_rfl) _ _ w
theorem taNumUl (E : Int) (w : World) : (Instr.typeAssert (.iface 25 (.int .i64 E)) 142 270 true).run Tryz.prog w = .ok (.tuple #[.nilIface, .bool false]) w := run_typeAssert_lacksB Tryz.underlying270 (by kernel_rfl) (by kernel_rfl) _ _ w
set_option maxRecDepth 100000 in
set_option maxHeartbeats 4000000 in
theorem is_any (E e : Int) (w : World) : Calls Tryz.prog 149 #[.iface 201 (.agg #[.int .i64 E]), .iface 25 (.int .i64 e), .bool true] w fun ev w' => ev = .returned (.bool (E == e)) ∧ Fr Nob w w' := by
  have mU := methodUnwrap
  have q1 := eqRef
  have q2 := eqNum
  have q3 := eqNil
  have a1 := taRefIs
  have a2 := taRefUn
  have a3 := taNumIs
  have a4 := taNumUn
  have a5 := taNumUl
  have HU := Lib.hid (unwrap_any E)
  go_enter Tryz.func149, Tryz.ntmps149
  go_wp2_with fail
  refine wp_loop_rounds 2 ?_
  rw [rounds_succ]
  go_wp2_with fail
  refine (HU.out w).mono ?_
  rintro ev w1 ⟨rfl, hF1⟩
  have HF1 := Lib.hid hF1
  clear hF1
  go_wp2_with fail
  rw [rounds_succ]
  obtain ⟨z, hz⟩ : ∃ z, (E == e) = z := ⟨_, rfl⟩
  have q4 := fun w => eqNum E e w
  simp only [hz] at q4
  have HZ := Lib.hid hz
  clear q2 hz
  cases z
  · go_wp2_with fail
    go_ret
    exact ⟨by rw [HZ.out]; rfl, HF1.out⟩
  · go_wp2_with fail
    go_ret
    exact ⟨by rw [HZ.out]; rfl, HF1.out⟩
end Go.Proofs.YtldcffonfidbcaaGreatDoor

/- errors.Is and remap.number at a refusal. -/
namespace Go.Proofs.YtldcffonfidbcaaGreatDoor
open Go.RowKit Go.Extern.Stop Go.Stop Go.Extern
theorem comparableE (w : World) : (ReflectliteType.method (fun t => do Rtype.noPackHeld "Comparable" t; pure (.bool (← typeInfo t).comparable)) #[.agg #[.pointer (some ⟨1, 25, none⟩)]]).run Tryz.prog w = .ok (.bool true) w := by kernel_rfl
theorem eqNilR (E : Int) (w : World) : (binOp .eql 142 (.iface 201 (.agg #[.int .i64 E])) .nilIface).run Tryz.prog w = .ok (.bool false) w := by kernel_rfl
set_option maxRecDepth 100000 in
set_option maxHeartbeats 4000000 in
theorem Is_any (E e : Int) (w : World) : Calls Tryz.prog 110 #[.iface 201 (.agg #[.int .i64 E]), .iface 25 (.int .i64 e)] w fun ev w' => ev = .returned (.bool (E == e)) ∧ Fr Nob w w' := by
  have h1 := @run_callFunc_extern Tryz.prog 148 _ ReflectliteType.typeOf Tryz.func148 (by kernel_rfl) (by kernel_rfl) (by kernel_rfl) (by kernel_rfl)
  have h2 := @run_callFunc_extern Tryz.prog 213 _ (ReflectliteType.method (fun t => do Rtype.noPackHeld "Comparable" t; pure (.bool (← typeInfo t).comparable))) Tryz.func213 (by kernel_rfl) (by kernel_rfl) (by kernel_rfl) (by kernel_rfl)
  have t1 := typeOfE
  have m1 := methodComparable
  have c1 := comparableE
  generalize ReflectliteType.method (fun t => do Rtype.noPackHeld "Comparable" t; pure (.bool (← typeInfo t).comparable)) = F at h2 c1
  have q3 := eqNil
  have q4 := eqNilR
  have HI := Lib.hid (is_any E e)
  go_enter Tryz.func110, Tryz.ntmps110
  go_wp2_with fail
  refine (HI.out w).mono ?_
  rintro ev w1 ⟨rfl, hF1⟩
  have HF1 := Lib.hid hF1
  clear hF1
  go_wp2_with fail
  go_ret
  exact ⟨rfl, HF1.out⟩
/-- An error's number, found among all numbers. -/
def numF (E : Int) : Int := if 1 ≤ E ∧ E ≤ 12 then E else 0
set_option maxRecDepth 100000 in
set_option maxHeartbeats 4000000 in
theorem number_any (E : Int) (w : World) : Calls Tryz.prog 73 #[.iface 201 (.agg #[.int .i64 E])] w fun ev w' => ev = .returned (.int .i64 (numF E)) ∧ Fr Nob w w' := by
  obtain ⟨R, hR⟩ : ∃ R, numF E = R := ⟨_, rfl⟩
  rw [hR]
  have HR := Lib.hid hR
  clear hR
  go_enter Tryz.func73, Tryz.ntmps73
  go_wp2_with fail
  go_loopg [3] (12) (fun n b wr => ∃ (k : Nat), n = 12 - k ∧ k ≤ 12 ∧ b = .int .i64 ((k : Int) + 1) ∧ Hid (Fr Nob w wr) ∧ Hid (∀ j : Int, 1 ≤ j → j ≤ k → E ≠ j))
  case atStart => exact ⟨0, rfl, Nat.zero_le _, rfl, Fr.refl _ _, fun j h1 h2 => by omega⟩
  case round =>
    obtain ⟨k, rfl, hk, rfl, HF, HE⟩ := hrel
    by_cases hlt : k < 12
    · have ht : ((k : Int) + 1 ≤ 12) := by omega
      have wk := wrp64 ((k : Int) + 1 + 1) (by omega) (by omega)
      go_wp2_with fail
      refine (Is_any E ((k : Int) + 1) wr).mono ?_
      rintro ev w1 ⟨rfl, hF1⟩
      have HF1 := Lib.hid (HF.out.same hF1)
      clear hF1
      by_cases h0 : E = (k : Int) + 1
      · have h0' : (E == (k : Int) + 1) = true := by simpa using h0
        have HV := Lib.hid (show (k : Int) + 1 = R by rw [← HR.out, numF, if_pos (by omega), h0])
        clear h0
        go_wp2_with fail
        go_ret
        exact ⟨by rw [HV.out]; rfl, HF1.out⟩
      · have h0' : (E == (k : Int) + 1) = false := by simpa using h0
        have HN := Lib.hid h0
        clear h0
        go_wp2_with fail
        go_roundg (12 - (k + 1))
        case measure => omega
        case rel => exact ⟨k + 1, rfl, by omega, by simp, HF1.out, fun j h1 h2 => by
          by_cases h : j ≤ k
          · exact HE.out j h1 h
          · intro h3; exact HN.out (by omega)⟩
    · have ht : ¬ ((k : Int) + 1 ≤ 12) := by omega
      go_wp2_with fail
      go_ret
      refine ⟨?_, HF.out⟩
      rw [← HR.out, numF, if_neg]
      · rfl
      · rintro ⟨h1, h2⟩; exact HE.out E h1 (by omega) rfl
end Go.Proofs.YtldcffonfidbcaaGreatDoor

/- The errors of steps: 1 to 12. -/
namespace Go.Proofs.YtldcffonfidbcaaGreatDoor
open Go.RowKit
theorem applyE_rng (s : StepM) (l : List Tok) : ErrN (applyE s l) := by
  unfold applyE
  split
  · exact flatCheck_rng l
  · split
    · unfold stepF
      split
      · exact .inr ⟨by simp, by simp⟩
      · split
        · exact .inl rfl
        · exact .inr ⟨by simp, by simp⟩
    · split
      · exact .inr ⟨by simp, by simp⟩
      · split
        · exact .inr ⟨by simp, by simp⟩
        · exact flatCheck_rng _
theorem doE_rng (rs : List RuleM) (g : List Grp) (s : StepM) (l : List Tok) : ErrN (doE rs g s l) := by
  unfold doE
  split
  · exact applyE_rng s l
  · exact checkF_rng _ _ _
theorem numF_of {e : Int} (h : ErrN e) : numF e = e := by
  unfold numF
  rcases h with rfl | h
  · rfl
  · exact if_pos h
end Go.Proofs.YtldcffonfidbcaaGreatDoor

/- A paragraph of runes is valid; a letter is put into it. -/
namespace Go.Proofs.YtldcffonfidbcaaGreatDoor
open Go.RowKit
def gH : List Grp := groupsF houseL houseG
def wholeR : RuleM := ofCore (coreS (wholeS ⟨#[98, 108, 111, 99, 107, 43]⟩))
def paraR : RuleM := ofCore (coreS ⟨⟨#[112, 97, 114, 97]⟩, ⟨#[116, 101, 120, 116, 42]⟩, false, 7, 0, 0, false⟩)
def runeT (c : Int) : Tok := ⟨0, 0, c, 0⟩
def openT : Tok := ⟨1, 1, 0, 0⟩
def closeT : Tok := ⟨2, 0, 0, 0⟩
/-- A paragraph of runes. -/
def paraD (u : List Tok) : List Tok := openT :: (u ++ [closeT])
structure Rune (x : Tok) : Prop where
  ok : okT x = true
  k : x.k = 0
  t : x.t = 0
  m : x.m = 0
  n : x.n ≠ 10
theorem typ_para : typR gH paraR = [0] := by kernel_rfl
theorem star_para : starR paraR = true := by kernel_rfl
theorem acc_whole : accB (typR gH wholeR) (starR wholeR) [1] = true := by kernel_rfl
theorem may_whole : mayB houseR wholeR openT = true := by kernel_rfl
theorem pre_whole : prefN (typR gH wholeR) [1] = 1 := by kernel_rfl
theorem spec_para : specF houseR 1 = some paraR := by kernel_rfl
theorem pre_zeros : ∀ j : Nat, prefN [0] (List.replicate j 0) = j
  | 0 => rfl
  | j + 1 => by
    rw [List.replicate_succ, prefN_cons, pre_zeros j]
    rfl
theorem chk_runes : ∀ (u : List Tok) (j i : Nat), (∀ x ∈ u, Rune x) → (chkF houseR gH (paraR, List.replicate j 0) [(wholeR, [1])] (u ++ [closeT]) i).2 = 0
  | [], j, i, _ => by
    rw [List.nil_append, chkF_cons2, if_pos (show closeT.k = 2 from rfl)]
    have h1 : accB (typR gH (paraR, List.replicate j (0 : Int)).1) (starR (paraR, List.replicate j (0 : Int)).1) (paraR, List.replicate j (0 : Int)).2 = true := by
      simp only [typ_para, star_para]
      unfold accB
      rw [pre_zeros, List.length_replicate]
      simp
    rw [h1, if_pos rfl, popF, chkF_nil]
    have h2 : accB (typR gH ((([(wholeR, [1])] : List (RuleM × List Int))).getLast (by simp)).1) (starR ((([(wholeR, [1])] : List (RuleM × List Int))).getLast (by simp)).1) ((([(wholeR, [1])] : List (RuleM × List Int))).getLast (by simp)).2 = true := acc_whole
    rw [h2, if_pos rfl]
  | x :: u, j, i, h => by
    have hx := h x List.mem_cons_self
    rw [List.cons_append, chkF_cons2, if_neg (by rw [hx.k]; decide)]
    have h1 : mayB houseR paraR x = true := by
      unfold mayB
      rw [if_pos hx.k, hx.m]
      simp [hx.n]
    rw [if_neg (by rw [h1]; simp)]
    have h2 : List.replicate j (0 : Int) ++ [x.t] = List.replicate (j + 1) 0 := by
      rw [hx.t, List.replicate_succ']
    simp only [h2]
    rw [if_neg (by rw [typ_para, pre_zeros, List.length_replicate]; omega), if_neg (by rw [hx.k]; decide)]
    exact chk_runes u (j + 1) (i + 1) (fun y hy => h y (List.mem_cons_of_mem _ hy))
theorem flat_runes : ∀ (u : List Tok) (i : Nat), (∀ x ∈ u, Rune x) → (flatF (u ++ [closeT]) i 1).2 = 0
  | [], i, _ => by
    rw [List.nil_append, flatF, if_neg (by decide), if_neg (by decide), if_neg (by decide), if_pos (show closeT.k = 2 from rfl), flatF]
    rfl
  | x :: u, i, h => by
    have hx := h x List.mem_cons_self
    rw [List.cons_append, flatF, if_neg (by rw [hx.ok, hx.k]; decide), if_neg (by rw [hx.k]; decide), if_neg (by rw [hx.k]; decide), if_neg (by rw [hx.k]; decide)]
    exact flat_runes u (i + 1) (fun y hy => h y (List.mem_cons_of_mem _ hy))
theorem para_flat {u : List Tok} (h : ∀ x ∈ u, Rune x) (hn : u.length ≤ 2000) : (flatCheck (paraD u)).2 = 0 := by
  unfold flatCheck
  rw [if_neg (by simp [paraD]; omega)]
  unfold paraD
  rw [flatF, if_neg (by decide), if_neg (by decide), if_pos (show openT.k = 1 from rfl)]
  exact flat_runes u 1 h
theorem para_check {u : List Tok} (h : ∀ x ∈ u, Rune x) (hn : u.length ≤ 2000) : (checkF houseR gH (paraD u)).2 = 0 := by
  unfold checkF
  rw [if_neg (by rw [para_flat h hn]; simp)]
  have e : houseR = wholeR :: houseR.tail := by kernel_rfl
  have h1 : (chkF houseR gH (wholeR, []) [] (paraD u) 0).2 = 0 := by
    unfold paraD
    rw [chkF_cons2, if_neg (by decide), if_neg (by rw [may_whole]; simp)]
    have h2 : (([] : List Int) ++ [openT.t]) = [1] := rfl
    simp only [h2]
    rw [if_neg (by rw [pre_whole]; simp), if_pos (show openT.k = 1 from rfl)]
    have h3 : specF houseR openT.t = some paraR := spec_para
    rw [h3]
    exact chk_runes u 0 1 h
  rw [e] at h1 ⊢
  exact h1
/-- One letter put at a place. -/
def putS (p : Nat) (c : Int) : StepM := ⟨0, p, p, 0, 0, 0, 0, [runeT c]⟩
def insR (u : List Tok) (j : Nat) (c : Int) : List Tok := u.take j ++ runeT c :: u.drop j
theorem insR_len (u : List Tok) (j : Nat) (c : Int) (h : j ≤ u.length) : (insR u j c).length = u.length + 1 := by
  simp [insR]
  omega
theorem insR_rune {u : List Tok} (h : ∀ x ∈ u, Rune x) (j : Nat) {c : Int} (hc : Rune (runeT c)) : ∀ x ∈ insR u j c, Rune x := fun x hx => by
  rcases List.mem_append.1 hx with hx | hx
  · exact h x (List.mem_of_mem_take hx)
  · rcases List.mem_cons.1 hx with rfl | hx
    · exact hc
    · exact h x (List.mem_of_mem_drop hx)
theorem put_para (u : List Tok) (j : Nat) (c : Int) (h : j ≤ u.length) : doF (putS (j + 1) c) (paraD u) = paraD (insR u j c) := by
  show repF ((j + 1 : Nat) : Int).toNat ((j + 1 : Nat) : Int).toNat [runeT c] (paraD u) = _
  rw [Int.toNat_natCast]
  unfold repF paraD insR
  rw [List.take_succ_cons, List.drop_succ_cons, List.take_append_of_le_length h, List.drop_append_of_le_length h]
  simp
theorem put_right (p : Nat) (c : Int) (hp : p ≤ 2048) (hc : Rune (runeT c)) : stepF (putS p c) = 0 := by
  unfold stepF
  rw [if_neg (by simp [putS])]
  have h1 : kindOk (putS p c) = true := by
    unfold kindOk
    rw [if_pos (show (putS p c).k = 0 from rfl)]
    simp only [putS, okRep]
    rw [(ok0S_iff _ _).2 ⟨by omega, by omega, by omega⟩]
    rfl
  rw [h1]
  simp [putS, hc.ok]
theorem put_do {u : List Tok} (h : ∀ x ∈ u, Rune x) (j : Nat) {c : Int} (hc : Rune (runeT c)) (hj : j ≤ u.length) (hn : u.length ≤ 1000) : doE houseR gH (putS (j + 1) c) (paraD u) = 0 := by
  have h2 := insR_rune h j hc
  have h3 : (insR u j c).length ≤ 2000 := by rw [insR_len _ _ _ hj]; omega
  unfold doE
  have ha : applyE (putS (j + 1) c) (paraD u) = 0 := by
    unfold applyE
    rw [if_neg (by rw [para_flat h (by omega)]; simp), if_neg (by rw [put_right _ _ (by omega) hc]; simp), if_neg (by simp [putS, paraD]; omega), put_para _ _ _ hj, para_flat h2 h3]
    rfl
  rw [if_neg (by rw [ha]; simp), put_para _ _ _ hj]
  exact para_check h2 h3
theorem rune_x : Rune (runeT 120) := ⟨by kernel_rfl, rfl, rfl, rfl, by decide⟩
theorem rune_y : Rune (runeT 121) := ⟨by kernel_rfl, rfl, rfl, rfl, by decide⟩
theorem rune_dot : Rune (runeT 46) := ⟨by kernel_rfl, rfl, rfl, rfl, by decide⟩
end Go.Proofs.YtldcffonfidbcaaGreatDoor

/- Steps that are the same; a paragraph of dots. -/
namespace Go.Proofs.YtldcffonfidbcaaGreatDoor
open Go.RowKit
def eqS (x y : StepM) : Bool := x.k == y.k && (x.f == y.f && (x.t == y.t && (x.gf == y.gf && (x.gt == y.gt && (x.ins == y.ins && (x.m == y.m && decide (x.l = y.l)))))))
theorem eqS_spec {x y : StepM} (h : eqS x y = true) : x = y := by
  unfold eqS at h
  simp only [Bool.and_eq_true, beq_iff_eq, decide_eq_true_eq] at h
  obtain ⟨h1, h2, h3, h4, h5, h6, h7, h8⟩ := h
  cases x
  cases y
  simp only at h1 h2 h3 h4 h5 h6 h7 h8
  subst h1 h2 h3 h4 h5 h6 h7 h8
  rfl
/-- Where the own letter goes. -/
def dotsU (k : Nat) : List Tok := List.replicate k (runeT 46)
theorem dots_rune (k : Nat) : ∀ x ∈ dotsU k, Rune x := fun x hx => by
  rw [List.eq_of_mem_replicate hx]
  exact rune_dot
/-- What comes of two letters. -/
theorem dots_succ (j : Nat) : tokC (openT :: dotsU (j + 1)) = tokC (openT :: dotsU j) ++ [.int .i64 0, .int .i64 0, .int .i64 46, .int .i64 0] := by
  have h : dotsU (j + 1) = dotsU j ++ [runeT 46] := List.replicate_succ'
  rw [h, ← List.cons_append, tokC_append]
  rfl
end Go.Proofs.YtldcffonfidbcaaGreatDoor

/- Chapter 9: what undoes a step: done at what the step made, it makes the document that was. -/
namespace Go.Proofs.YtldcffonfidbcaaGreatDoor
open Go.RowKit
def otherS (s : StepM) : StepM := ⟨5 - s.k, s.f, s.t, 0, 0, 0, s.m, []⟩
/-- What undoes a step that was done at l. -/
def invS (s : StepM) (l : List Tok) : StepM :=
  if s.k = 0 then ⟨0, s.f, s.f + s.l.length, 0, 0, 0, 0, (l.drop s.f.toNat).take (s.t.toNat - s.f.toNat)⟩
  else if s.k = 1 then ⟨1, s.f, s.f + s.ins + s.gt - s.gf + s.l.length - s.ins, s.f + s.ins, s.f + s.ins + s.gt - s.gf, s.gf - s.f, 0, (l.drop s.f.toNat).take (s.gf.toNat - s.f.toNat) ++ (l.drop s.gt.toNat).take (s.t.toNat - s.gt.toNat)⟩
  else if doF (otherS s) (doF s l) = l then otherS s
  else ⟨0, s.f, s.t, 0, 0, 0, 0, (l.drop s.f.toNat).take (s.t.toNat - s.f.toNat)⟩
theorem okMark_iff (f t gf gt ins mk : Int) (n : Nat) : okMark f t gf gt ins mk n = true ↔ (0 ≤ f ∧ f ≤ t ∧ t ≤ 2048) ∧ f < t ∧ (listM mk).length = 1 ∧ n = 0 ∧ gf = 0 ∧ gt = 0 ∧ ins = 0 := by
  unfold okMark
  simp only [Bool.and_eq_true, ok0S_iff, decide_eq_true_eq, beq_iff_eq]
  omega
end Go.Proofs.YtldcffonfidbcaaGreatDoor
