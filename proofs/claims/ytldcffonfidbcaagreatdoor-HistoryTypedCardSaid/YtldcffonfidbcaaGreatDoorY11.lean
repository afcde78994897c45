/- A part of the proof for chapter 10: Flat, Sch, Lv; no conditions. -/
import Derived.Test.YtldcffonfidbcaaGreatDoorY10
import Derived.Lib.LazyBuf
import Derived.Laws.OwnMore
/- Chapter 4: tokens; the program's 'Right' and 'Check'. -/
namespace Go.Proofs.YtldcffonfidbcaaGreatDoor
open Go.RowKit
structure Tok where
  k : Int
  t : Int
  n : Int
  m : Int
deriving instance DecidableEq for Tok
def Tok.cells (x : Tok) : List Value := [.int .i64 x.k, .int .i64 x.t, .int .i64 x.n, .int .i64 x.m]
def pointB (n : Int) : Bool := decide (0 ≤ n) && decide (n ≤ 1114111) && !(decide (55296 ≤ n) && decide (n ≤ 57343))
def okT (x : Tok) : Bool :=
  if x.k = 0 then decide (x.t = 0) && pointB x.n && rightM x.m
  else if x.k = 2 then decide (x.t = 0) && decide (x.n = 0) && decide (x.m = 0)
  else if x.k = 1 ∨ x.k = 3 then decide (0 < x.t) && decide (x.t < 16) && decide (0 ≤ x.n) && decide (x.n < 16) && decide (x.m = 0)
  else false
set_option maxRecDepth 100000 in
theorem okT_any (x : Tok) (w : World) : Calls Tryz.prog 57 #[.agg x.cells.toArray] w fun e w' => e = .returned (.bool (okT x)) ∧ Fr Nob w w' := by
  obtain ⟨r, hr⟩ : ∃ r, okT x = r := ⟨_, rfl⟩
  rw [hr]
  have HR := Lib.hid hr
  have HG := Lib.hid (markRight_any x.m)
  clear hr
  obtain ⟨k, t, n, m⟩ := x
  simp only [Tok.cells] at *
  by_cases k0 : k = 0
  · have b0 : (k == 0) = true := by simpa using k0
    have HK := Lib.hid k0
    clear k0
    go_enter Tryz.func57, Tryz.ntmps57
    go_wp2_with (go_at_call 89; refine (HG.out _).mono ?_; rintro e w1 ⟨rfl, rfl⟩)
    all_goals
      go_ret
      refine ⟨?_, (Fr.refl _ _).alloc _⟩
      have hk := HK.out
      rw [← HR.out]
      refine congrArg (fun b => Ending.returned (.bool b)) ?_
      subst hk
      rw [Bool.eq_iff_iff]
      simp [okT, pointB, rightM]
      try omega
  · by_cases k2 : k = 2
    · have b0 : (k == 0) = false := by simpa using k0
      have b2 : (k == 2) = true := by simpa using k2
      have HK := Lib.hid k2
      clear k0 k2
      go_enter Tryz.func57, Tryz.ntmps57
      go_wp2_with fail
      all_goals
        go_ret
        refine ⟨?_, (Fr.refl _ _).alloc _⟩
        have hk := HK.out
        rw [← HR.out]
        refine congrArg (fun b => Ending.returned (.bool b)) ?_
        subst hk
        rw [Bool.eq_iff_iff]
        simp [okT]
        try omega
    · by_cases k1 : k = 1
      · have b0 : (k == 0) = false := by simpa using k0
        have b2 : (k == 2) = false := by simpa using k2
        have b1 : (k == 1) = true := by simpa using k1
        have HK := Lib.hid k1
        clear k0 k2 k1
        go_enter Tryz.func57, Tryz.ntmps57
        go_wp2_with fail
        all_goals
          go_ret
          refine ⟨?_, (Fr.refl _ _).alloc _⟩
          have hk := HK.out
          rw [← HR.out]
          refine congrArg (fun b => Ending.returned (.bool b)) ?_
          subst hk
          rw [Bool.eq_iff_iff]
          simp [okT]
          try omega
      · by_cases k3 : k = 3
        · have b0 : (k == 0) = false := by simpa using k0
          have b2 : (k == 2) = false := by simpa using k2
          have b1 : (k == 1) = false := by simpa using k1
          have b3 : (k == 3) = true := by simpa using k3
          have HK := Lib.hid k3
          clear k0 k2 k1 k3
          go_enter Tryz.func57, Tryz.ntmps57
          go_wp2_with fail
          all_goals
            go_ret
            refine ⟨?_, (Fr.refl _ _).alloc _⟩
            have hk := HK.out
            rw [← HR.out]
            refine congrArg (fun b => Ending.returned (.bool b)) ?_
            subst hk
            rw [Bool.eq_iff_iff]
            simp [okT]
            try omega
        · have b0 : (k == 0) = false := by simpa using k0
          have b2 : (k == 2) = false := by simpa using k2
          have b1 : (k == 1) = false := by simpa using k1
          have b3 : (k == 3) = false := by simpa using k3
          have HK := Lib.hid (show false = r by rw [← HR.out, okT, if_neg k0, if_neg k2, if_neg (by show ¬ (k = 1 ∨ k = 3); omega)])
          clear k0 k2 k1 k3
          go_enter Tryz.func57, Tryz.ntmps57
          go_wp2_with fail
          go_ret
          exact ⟨by rw [← HK.out]; rfl, (Fr.refl _ _).alloc _⟩
/-- The cells of some tokens. -/
def tokC (l : List Tok) : List Value := l.flatMap Tok.cells
theorem tokC_length (l : List Tok) : (tokC l).length = 4 * l.length := by
  induction l with
  | nil => rfl
  | cons x l ih => simp only [tokC, List.flatMap_cons, List.length_append, List.length_cons] at ih ⊢; rw [ih]; simp [Tok.cells]; omega
theorem tokC_append (a b : List Tok) : tokC (a ++ b) = tokC a ++ tokC b := by simp [tokC]
/-- A document, as memory holds it, outside of the blocks of M. -/
def Doc (M : Nat → Prop) (w : World) (v : Value) (l : List Tok) : Prop := ∃ A c, v = .slice A l.length c ∧ l.length ≤ c ∧ Rd M w A (tokC l)
theorem Doc.fr {M M' : Nat → Prop} {w w' : World} {v : Value} {l : List Tok} (h : Doc M w v l) (hf : Fr M' w w') (hM : ∀ k, k < w.heap.size → M' k → M k) : Doc M w' v l := by
  obtain ⟨A, c, rfl, hc, hr⟩ := h
  exact ⟨A, c, rfl, hc, hr.fr hf hM⟩
theorem Doc.fr0 {M : Nat → Prop} {w w' : World} {v : Value} {l : List Tok} (h : Doc M w v l) (hf : Fr Nob w w') : Doc M w' v l := h.fr hf (fun _ _ h => h.elim)
theorem Doc.mono {M M' : Nat → Prop} {w : World} {v : Value} {l : List Tok} (h : Doc M w v l) (hM : ∀ k, M' k → M k) : Doc M' w v l := by
  obtain ⟨A, c, rfl, hc, hr⟩ := h
  exact ⟨A, c, rfl, hc, hr.mono hM⟩
theorem Doc.bound {M : Nat → Prop} {w : World} {v : Value} {l : List Tok} (h : Doc M w v l) : Doc (fun k => M k ∨ w.heap.size ≤ k) w v l := by
  obtain ⟨A, c, rfl, hc, hr⟩ := h
  exact ⟨A, c, rfl, hc, hr.bound⟩
theorem Tok.cells_len (x : Tok) : x.cells.length = 4 := rfl
/-- How a document is looked at: how many are open; where it stops, and why. -/
def flatF : List Tok → Nat → Nat → Int × Int
  | [], i, n => if 0 < n then (i, 3) else (i, 0)
  | x :: l, i, n =>
    if okT x = false ∨ x.k = 2 ∧ n = 0 then (i, 4)
    else if x.k = 1 ∧ n = 32 then (i, 8)
    else flatF l (i + 1) (if x.k = 1 then n + 1 else if x.k = 2 then n - 1 else n)
def flatCheck (l : List Tok) : Int × Int := if 2048 < l.length then (0, 2) else flatF l 0 0
set_option maxRecDepth 100000 in
theorem flatcheck_any (M : Nat → Prop) (l : List Tok) (v : Value) (w : World) (h : Doc M w v l) (hl : l.length ≤ 9223372036854775807) :
    Calls Tryz.prog 35 #[v] w fun e w' => e = .returned (.tuple #[.int .i64 (flatCheck l).1, .int .i64 (flatCheck l).2]) ∧ Fr Nob w w' := by
  obtain ⟨A, c, rfl, hc, hr⟩ := h
  obtain ⟨r, hrr⟩ : ∃ r, flatCheck l = r := ⟨_, rfl⟩
  rw [hrr]
  by_cases hlong : 2048 < l.length
  · have HR := Lib.hid (show (0, 2) = r by rw [← hrr, flatCheck, if_pos hlong])
    clear hrr hr
    go_enter Tryz.func35, Tryz.ntmps35
    go_wp2_with fail
    go_ret2
    exact ⟨by rw [← HR.out]; rfl, Fr.refl _ _⟩
  · have HR := Lib.hid (show flatF l 0 0 = r by rw [← hrr, flatCheck, if_neg hlong])
    have hl2 : l.length ≤ 2048 := by omega
    have HRd := Lib.hid hr
    have HOK := Lib.hid okT_any
    clear hrr hr hlong
    go_enter Tryz.func35, Tryz.ntmps35
    go_wp2_with fail
    generalize hB : w.heap.size = B
    go_loopg [5, 13] (l.length) (fun n a b wr => ∃ (k d : Nat) (cs : List Value), n = l.length - k ∧ k ≤ l.length ∧ a = .int .i64 d ∧ b = .int .i64 k ∧ d ≤ 32 ∧ cs.length = 32 ∧ Hid (Blk wr B cs 121) ∧ Hid (Fr Nob w wr) ∧ Hid (flatF (l.drop k) k d = r))
    case atStart => exact ⟨0, 0, _, rfl, Nat.zero_le _, rfl, rfl, by omega, rfl, Blk.new_at _ _ _ _ hB.symm, (Fr.refl _ _).alloc _, HR.out⟩
    case round =>
      obtain ⟨k, d, cs, rfl, hk, rfl, rfl, hd, hcs, HBk, HF, HRr⟩ := hrel
      by_cases hlt : k < l.length
      · have ht : ((k : Int) < (l.length : Int)) := by omega
        obtain ⟨ad, rfl, _, hlb, q0, q⟩ := Rd.elt Tok.cells_len (by omega) (HRd.out.fr HF.out (fun _ _ h => h.elim)) hlt
        have hdr : l.drop k = l[k] :: l.drop (k + 1) := List.drop_eq_getElem_cons hlt
        generalize l[k] = x at q0 q hdr
        have q1 := q 0 (by omega)
        have q2 := q 1 (by omega)
        have q3 := q 2 (by omega)
        simp only [Tok.cells, List.getElem?_cons_zero, List.getElem?_cons_succ, Nat.reduceAdd] at q0 q1 q2 q3
        have hRr := HRr.out
        rw [hdr, flatF] at hRr
        have HR2 := Lib.hid hRr
        clear hdr hRr HRr q
        go_wp2_with fail
        have hbt := Blk.new wr [.int .i64 x.k, .int .i64 x.t, .int .i64 x.n, .int .i64 x.m] 40
        have hft : Fr Nob wr (wr.alloc (.cells #[.int .i64 x.k, .int .i64 x.t, .int .i64 x.n, .int .i64 x.m] 40)) := (Fr.refl _ _).alloc _
        generalize wr.alloc (.cells #[.int .i64 x.k, .int .i64 x.t, .int .i64 x.n, .int .i64 x.m] 40) = w1 at hbt hft ⊢
        have hlB := HBk.out.lt
        generalize hT : wr.heap.size = T at hbt ⊢
        have hTB : B < T := by omega
        refine (HOK.out x w1).mono ?_
        rintro e w2 ⟨rfl, hF2⟩
        have hf2 := hft.same hF2
        have HF2 := Lib.hid (HF.out.same hf2)
        have HB2 := Lib.hid (HBk.out.fr hf2 (fun h => h))
        have HT2 := Lib.hid (hbt.fr hF2 (fun h => h))
        have d0 := HT2.out.cell 0
        have hlT := HT2.out.lt
        have hlB2 := HB2.out.lt
        simp only [List.getElem?_cons_zero] at d0
        clear hF2 hf2 hbt hft hlb q0 q1 q2 q3 hlB hT HF HBk
        by_cases hok : okT x = true
        · rw [hok]
          simp only [hok, Bool.true_eq_false, false_or] at HR2
          clear hok
          by_cases k2 : x.k = 2
          · have c2 : (x.k == 2) = true := by simpa using k2
            have c1 : (x.k == 1) = false := by rw [beq_eq_false_iff_ne]; omega
            by_cases hd0 : d = 0
            · have c0 : ((d : Int) == 0) = true := by rw [beq_iff_eq]; omega
              have HE := Lib.hid (show ((k : Int), (4 : Int)) = r by rw [← HR2.out, if_pos ⟨k2, hd0⟩])
              clear k2 hd0 HR2
              go_wp2_with fail
              go_ret2
              exact ⟨by rw [← HE.out]; rfl, HF2.out⟩
            · have c0 : ((d : Int) == 0) = false := by rw [beq_eq_false_iff_ne]; omega
              have HE := Lib.hid (show flatF (l.drop (k + 1)) (k + 1) (d - 1) = r by rw [← HR2.out, if_neg (fun h => hd0 h.2), if_neg (fun h => by omega), if_neg (by omega), if_pos k2])
              have hd1 : 1 ≤ (d : Int) := by omega
              clear k2 HR2
              go_wp2_with fail
              go_roundg (l.length - (k + 1))
              case measure => omega
              case rel => exact ⟨k + 1, d - 1, cs, rfl, by omega, by first | (congr 1; omega) | go_num, by first | rfl | go_num, by omega, hcs, HB2.out, HF2.out, HE.out⟩
          · have c2 : (x.k == 2) = false := by simpa using k2
            by_cases k1 : x.k = 1
            · have c1 : (x.k == 1) = true := by simpa using k1
              by_cases hd0 : d = 32
              · have c0 : ((d : Int) == 32) = true := by rw [beq_iff_eq]; omega
                have HE := Lib.hid (show ((k : Int), (8 : Int)) = r by rw [← HR2.out, if_neg (fun h => k2 h.1), if_pos ⟨k1, hd0⟩])
                clear k2 k1 hd0 HR2
                go_wp2_with fail
                go_ret2
                exact ⟨by rw [← HE.out]; rfl, HF2.out⟩
              · have c0 : ((d : Int) == 32) = false := by rw [beq_eq_false_iff_ne]; omega
                have HE := Lib.hid (show flatF (l.drop (k + 1)) (k + 1) (d + 1) = r by rw [← HR2.out, if_neg (fun h => k2 h.1), if_neg (fun h => hd0 h.2), if_pos k1])
                have hd32 : d < 32 := by omega
                have e0 := HB2.out.cell d
                have e1 := HB2.out.frozen d
                rw [List.getElem?_eq_getElem (by omega)] at e0
                generalize cs[d]'(by omega) = cv at e0
                have hi1 : (0 : Int) ≤ d := by omega
                have hi2 : (d : Int) < 32 := by omega
                clear k2 k1 hd0 HR2
                go_wp2_with fail
                go_roundg (l.length - (k + 1))
                case measure => omega
                case rel => exact ⟨k + 1, d + 1, cs.set d (.int .i64 k), rfl, by omega, by first | rfl | go_num, by first | rfl | go_num, by omega, by simpa using hcs, HB2.out.set d _, HF2.out.setCell (p := ⟨B, d, none⟩) (.inr (by show w.heap.size ≤ B; omega)) _, HE.out⟩
            · have c1 : (x.k == 1) = false := by simpa using k1
              have HE := Lib.hid (show flatF (l.drop (k + 1)) (k + 1) d = r by rw [← HR2.out, if_neg (fun h => k2 h.1), if_neg (fun h => k1 h.1), if_neg k1, if_neg k2])
              clear k2 k1 HR2
              go_wp2_with fail
              go_roundg (l.length - (k + 1))
              case measure => omega
              case rel => exact ⟨k + 1, d, cs, rfl, by omega, rfl, by first | rfl | go_num, by omega, hcs, HB2.out, HF2.out, HE.out⟩
        · have hok' : okT x = false := by simpa using hok
          have HE := Lib.hid (show ((k : Int), (4 : Int)) = r by rw [← HR2.out, if_pos (.inl hok')])
          rw [hok']
          clear hok hok' HR2
          go_wp2_with fail
          go_ret2
          exact ⟨by rw [← HE.out]; rfl, HF2.out⟩
      · have ht : ¬ ((k : Int) < (l.length : Int)) := by omega
        have hRr := HRr.out
        rw [List.drop_eq_nil_of_le (by omega), flatF, show k = l.length by omega] at hRr
        have HR2 := Lib.hid hRr
        clear hRr HRr
        by_cases hd0 : 0 < d
        · have HE := Lib.hid (show ((l.length : Int), (3 : Int)) = r by rw [← HR2.out, if_pos hd0])
          have hd1 : (0 : Int) < d := by omega
          go_wp2_with fail
          go_ret2
          exact ⟨by rw [← HE.out]; rfl, HF.out⟩
        · have HE := Lib.hid (show ((l.length : Int), (0 : Int)) = r by rw [← HR2.out, if_neg hd0])
          have hd1 : ¬ (0 : Int) < d := by omega
          go_wp2_with fail
          go_ret2
          exact ⟨by rw [← HE.out]; rfl, HF.out⟩
end Go.Proofs.YtldcffonfidbcaaGreatDoor

/- Chapter 7: rules, as memory holds them; 'none', 'Spec', 'may'. -/
namespace Go.Proofs.YtldcffonfidbcaaGreatDoor
open Go.RowKit
/-- A type, what may stand in it, and where that lies. -/
structure RuleM where
  name : ByteArray
  expr : ByteArray
  leaf : Bool
  marks : Int
  least : Int
  most : Int
  lines : Bool
  e : Tree
  A : Option Addr
  c : Nat
def RuleM.ec (r : RuleM) : List Value := [.int .i64 r.e.k, .string r.e.name, .slice r.A r.e.l.length r.c]
def RuleM.spec (r : RuleM) : List Value := [.string r.name, .string r.expr, .bool r.leaf, .int .i64 r.marks, .int .i64 r.least, .int .i64 r.most, .bool r.lines]
def RuleM.cells (r : RuleM) : List Value := [.string r.name, .string r.expr, .bool r.leaf, .int .i64 r.marks, .int .i64 r.least, .int .i64 r.most, .bool r.lines, .int .i64 r.e.k, .string r.e.name, .slice r.A r.e.l.length r.c]
def spec0 : List Value := [.string ⟨#[]⟩, .string ⟨#[]⟩, .bool false, .int .i64 0, .int .i64 0, .int .i64 0, .bool false]
theorem RuleM.cells_len (r : RuleM) : r.cells.length = 10 := rfl
/-- A schema, in memory, outside of the blocks of M. -/
structure Sch (M : Nat → Prop) (w : World) (p : Nat) (rs : List RuleM) (g : List Grp) : Prop where
  row : ∃ La lc, w.cell? ⟨p, 0, none⟩ = some (.slice (some La) rs.length lc) ∧ rs.length ≤ lc ∧ Rd M w (some La) (rs.flatMap RuleM.cells)
  exprs : ∀ r ∈ rs, ERep M w r.e r.ec
  grps : ∃ gv, w.cell? ⟨p, 1, none⟩ = some gv ∧ Grps M w gv g
  pn : ¬ M p
  few : 0 < rs.length ∧ rs.length ≤ 100
theorem Sch.fr {M M' : Nat → Prop} {w w' : World} {p : Nat} {rs : List RuleM} {g : List Grp} (h : Sch M w p rs g) (hf : Fr M' w w') (hM : ∀ k, k < w.heap.size → M' k → M k) : Sch M w' p rs g := by
  obtain ⟨La, lc, h1, h2, h3⟩ := h.row
  obtain ⟨gv, g1, g2⟩ := h.grps
  refine ⟨⟨La, lc, hf.cellM h1 (fun hm => h.pn (hM _ (cell_lt h1) hm)), h2, h3.fr hf hM⟩, fun r hr => ERep.fr hf hM _ _ (h.exprs r hr), ⟨gv, hf.cellM g1 (fun hm => h.pn (hM _ (cell_lt h1) hm)), g2.fr hf hM⟩, h.pn, h.few⟩
theorem Sch.fr0 {M : Nat → Prop} {w w' : World} {p : Nat} {rs : List RuleM} {g : List Grp} (h : Sch M w p rs g) (hf : Fr Nob w w') : Sch M w' p rs g := h.fr hf (fun _ _ h => h.elim)
theorem Sch.mono {M M' : Nat → Prop} {w : World} {p : Nat} {rs : List RuleM} {g : List Grp} (h : Sch M w p rs g) (hM : ∀ k, M' k → M k) : Sch M' w p rs g := by
  obtain ⟨La, lc, h1, h2, h3⟩ := h.row
  obtain ⟨gv, g1, g2⟩ := h.grps
  exact ⟨⟨La, lc, h1, h2, h3.mono hM⟩, fun r hr => ERep.mono hM _ _ (h.exprs r hr), ⟨gv, g1, g2.mono hM⟩, fun hm => h.pn (hM _ hm), h.few⟩
theorem Sch.bound {M : Nat → Prop} {w : World} {p : Nat} {rs : List RuleM} {g : List Grp} (h : Sch M w p rs g) : Sch (fun k => M k ∨ w.heap.size ≤ k) w p rs g := by
  obtain ⟨La, lc, h1, h2, h3⟩ := h.row
  obtain ⟨gv, g1, g2⟩ := h.grps
  refine ⟨⟨La, lc, h1, h2, h3.bound⟩, fun r hr => ERep.bound _ _ (h.exprs r hr), ⟨gv, g1, g2.bound⟩, fun hm => ?_, h.few⟩
  have hl : p < w.heap.size := cell_lt h1
  rcases hm with hm | hm
  · exact h.pn hm
  · omega
set_option maxRecDepth 100000 in
theorem schnone_any (M : Nat → Prop) (p : Nat) (rs : List RuleM) (g : List Grp) (w : World) (h : Sch M w p rs g) :
    Calls Tryz.prog 34 #[.pointer (some ⟨p, 0, none⟩)] w fun e w' => e = .returned (.bool false) ∧ w = w' := by
  obtain ⟨La, lc, h1, h2, h3⟩ := h.row
  have hl := cell_lt h1
  have hq := Lib.run_eql_slice_nil (P := Tryz.prog) w 85 84 (some La) rs.length lc 0 0 Tryz.underlying85
  clear h h3
  go_enter Tryz.func34, Tryz.ntmps34
  go_wp2_with fail
  go_ret
  exact ⟨rfl, rfl⟩
def specF (rs : List RuleM) (t : Int) : Option RuleM := if 1 ≤ t then rs[t.toNat]? else none
def specV (o : Option RuleM) : Value := .tuple #[.agg ((o.elim spec0 RuleM.spec)).toArray, .bool o.isSome]
theorem store7 {w : World} {B : Nat} {c0 c1 c2 c3 c4 c5 c6 : Value} {t : TypeId} (h : Blk w B [c0, c1, c2, c3, c4, c5, c6] t) (v0 v1 v2 v3 v4 v5 v6 : Value) :
    Fr (One B) w (((((((w.setCell ⟨B, 0, none⟩ v0).setCell ⟨B, 1, none⟩ v1).setCell ⟨B, 2, none⟩ v2).setCell ⟨B, 3, none⟩ v3).setCell ⟨B, 4, none⟩ v4).setCell ⟨B, 5, none⟩ v5).setCell ⟨B, 6, none⟩ v6) ∧ Blk (((((((w.setCell ⟨B, 0, none⟩ v0).setCell ⟨B, 1, none⟩ v1).setCell ⟨B, 2, none⟩ v2).setCell ⟨B, 3, none⟩ v3).setCell ⟨B, 4, none⟩ v4).setCell ⟨B, 5, none⟩ v5).setCell ⟨B, 6, none⟩ v6) B [v0, v1, v2, v3, v4, v5, v6] t :=
  ⟨((((((((Fr.refl (One B) w).setCell (p := ⟨B, 0, none⟩) (.inl rfl) _).setCell (p := ⟨B, 1, none⟩) (.inl rfl) _).setCell (p := ⟨B, 2, none⟩) (.inl rfl) _).setCell (p := ⟨B, 3, none⟩) (.inl rfl) _).setCell (p := ⟨B, 4, none⟩) (.inl rfl) _).setCell (p := ⟨B, 5, none⟩) (.inl rfl) _).setCell (p := ⟨B, 6, none⟩) (.inl rfl) _), (((((((h.set 0 _).set 1 _).set 2 _).set 3 _).set 4 _).set 5 _).set 6 _)⟩
set_option maxRecDepth 100000 in
theorem spec_any (M : Nat → Prop) (p : Nat) (rs : List RuleM) (g : List Grp) (t : Int) (w : World) (h : Sch M w p rs g) :
    Calls Tryz.prog 61 #[.pointer (some ⟨p, 0, none⟩), .int .i64 t] w fun e w' => e = .returned (specV (specF rs t)) ∧ Fr Nob w w' := by
  have HS := Lib.hid h
  obtain ⟨w1, hw1⟩ : ∃ w1, (w.alloc (.cells #[.string ⟨#[]⟩, .string ⟨#[]⟩, .bool false, .int .i64 0, .int .i64 0, .int .i64 0, .bool false] 69)) = w1 := ⟨_, rfl⟩
  have hf1 : Fr Nob w w1 := hw1 ▸ (Fr.refl _ _).alloc _
  have hb1 : Blk w1 w.heap.size [.string ⟨#[]⟩, .string ⟨#[]⟩, .bool false, .int .i64 0, .int .i64 0, .int .i64 0, .bool false] 69 := hw1 ▸ Blk.new w _ _
  have HW1 := Lib.hid hw1
  have HF1 := Lib.hid hf1
  have HB1 := Lib.hid hb1
  have hfew := h.few
  obtain ⟨r, hr⟩ : ∃ r, specV (specF rs t) = r := ⟨_, rfl⟩
  rw [hr]
  have HR := Lib.hid hr
  clear h hf1 hb1 hr hw1
  by_cases h1 : t < 1
  · have HE := Lib.hid (show specV none = r by rw [← HR.out, specF, if_neg (by omega)])
    go_enter Tryz.func61, Tryz.ntmps61
    go_wp2_with fail
    rw [HW1.out]
    refine (schnone_any M p rs g w1 (HS.out.fr0 HF1.out)).mono ?_
    rintro e w2 ⟨rfl, rfl⟩
    have d0 := HB1.out.cell 0
    have d1 := HB1.out.cell 1
    have d2 := HB1.out.cell 2
    have d3 := HB1.out.cell 3
    have d4 := HB1.out.cell 4
    have d5 := HB1.out.cell 5
    have d6 := HB1.out.cell 6
    have y0 := HB1.out.frozen 0
    have y1 := HB1.out.frozen 1
    have y2 := HB1.out.frozen 2
    have y3 := HB1.out.frozen 3
    have y4 := HB1.out.frozen 4
    have y5 := HB1.out.frozen 5
    have y6 := HB1.out.frozen 6
    have hl1 := HB1.out.lt
    simp only [List.getElem?_cons_zero, List.getElem?_cons_succ] at d0 d1 d2 d3 d4 d5 d6
    go_wp2_with fail
    obtain ⟨hf9, hb9⟩ := store7 HB1.out (.string ⟨#[]⟩) (.string ⟨#[]⟩) (.bool false) (.int .i64 0) (.int .i64 0) (.int .i64 0) (.bool false)
    clear d0 d1 d2 d3 d4 d5 d6 y0 y1 y2 y3 y4 y5 y6
    generalize (((((((w1.setCell ⟨w.heap.size, 0, none⟩ (.string ⟨#[]⟩)).setCell ⟨w.heap.size, 1, none⟩ (.string ⟨#[]⟩)).setCell ⟨w.heap.size, 2, none⟩ (.bool false)).setCell ⟨w.heap.size, 3, none⟩ (.int .i64 0)).setCell ⟨w.heap.size, 4, none⟩ (.int .i64 0)).setCell ⟨w.heap.size, 5, none⟩ (.int .i64 0)).setCell ⟨w.heap.size, 6, none⟩ (.bool false)) = W9 at hf9 hb9 ⊢
    have d0 := hb9.cell 0
    have d1 := hb9.cell 1
    have d2 := hb9.cell 2
    have d3 := hb9.cell 3
    have d4 := hb9.cell 4
    have d5 := hb9.cell 5
    have d6 := hb9.cell 6
    simp only [List.getElem?_cons_zero, List.getElem?_cons_succ] at d0 d1 d2 d3 d4 d5 d6
    refine bodyPost_ret (v := .tuple #[.agg #[(.string ⟨#[]⟩), (.string ⟨#[]⟩), (.bool false), (.int .i64 0), (.int .i64 0), (.int .i64 0), (.bool false)], .bool false]) (by simp [results, go_sem, d0, d1, d2, d3, d4, d5, d6]) rfl ⟨by rw [← HE.out]; rfl, HF1.out.trans (M := Nob) hf9 (fun k hk h => by have : k = w.heap.size := h; omega)⟩
  · obtain ⟨n, rfl⟩ : ∃ n : Nat, t = n := ⟨t.toNat, by omega⟩
    by_cases h2 : n < rs.length
    · obtain ⟨x, hx⟩ : ∃ x, rs[n] = x := ⟨_, rfl⟩
      have HE := Lib.hid (show specV (some x) = r by rw [← HR.out, specF, if_pos (by omega), Int.toNat_natCast, List.getElem?_eq_getElem h2, hx])
      have hlt : ¬ (rs.length : Int) ≤ (n : Int) := by omega
      have hi1 : (0 : Int) ≤ (n : Int) := by omega
      have hi2 : (n : Int) < (rs.length : Int) := by omega
      obtain ⟨La, lc, s1, s2, s3⟩ := (HS.out.fr0 HF1.out).row
      obtain ⟨ad, hA, hna, hla, q0, q⟩ := Rd.elt RuleM.cells_len (by omega) s3 h2
      injection hA with hA
      subst hA
      have hls := cell_lt s1
      rw [hx] at q0 q
      have q1 := q 0 (by omega)
      have q2 := q 1 (by omega)
      have q3 := q 2 (by omega)
      have q4 := q 3 (by omega)
      have q5 := q 4 (by omega)
      have q6 := q 5 (by omega)
      simp only [RuleM.cells, List.getElem?_cons_zero, List.getElem?_cons_succ, Nat.reduceAdd] at q0 q1 q2 q3 q4 q5 q6
      have HQ := Lib.hid (And.intro s1 (And.intro hls (And.intro q0 (And.intro q1 (And.intro q2 (And.intro q3 (And.intro q4 (And.intro q5 q6))))))))
      clear q q0 q1 q2 q3 q4 q5 q6 s1 s3 hx hls
      go_enter Tryz.func61, Tryz.ntmps61
      go_wp2_with fail
      rw [HW1.out]
      refine (schnone_any M p rs g w1 (HS.out.fr0 HF1.out)).mono ?_
      rintro e w2 ⟨rfl, rfl⟩
      have d0 := HB1.out.cell 0
      have d1 := HB1.out.cell 1
      have d2 := HB1.out.cell 2
      have d3 := HB1.out.cell 3
      have d4 := HB1.out.cell 4
      have d5 := HB1.out.cell 5
      have d6 := HB1.out.cell 6
      have y0 := HB1.out.frozen 0
      have y1 := HB1.out.frozen 1
      have y2 := HB1.out.frozen 2
      have y3 := HB1.out.frozen 3
      have y4 := HB1.out.frozen 4
      have y5 := HB1.out.frozen 5
      have y6 := HB1.out.frozen 6
      have hl1 := HB1.out.lt
      simp only [List.getElem?_cons_zero, List.getElem?_cons_succ] at d0 d1 d2 d3 d4 d5 d6
      obtain ⟨s1, hls, q0, q1, q2, q3, q4, q5, q6⟩ := HQ.out
      go_wp2_with fail
      obtain ⟨hf9, hb9⟩ := store7 HB1.out (.string x.name) (.string x.expr) (.bool x.leaf) (.int .i64 x.marks) (.int .i64 x.least) (.int .i64 x.most) (.bool x.lines)
      clear d0 d1 d2 d3 d4 d5 d6 y0 y1 y2 y3 y4 y5 y6
      generalize (((((((w1.setCell ⟨w.heap.size, 0, none⟩ (.string x.name)).setCell ⟨w.heap.size, 1, none⟩ (.string x.expr)).setCell ⟨w.heap.size, 2, none⟩ (.bool x.leaf)).setCell ⟨w.heap.size, 3, none⟩ (.int .i64 x.marks)).setCell ⟨w.heap.size, 4, none⟩ (.int .i64 x.least)).setCell ⟨w.heap.size, 5, none⟩ (.int .i64 x.most)).setCell ⟨w.heap.size, 6, none⟩ (.bool x.lines)) = W9 at hf9 hb9 ⊢
      have d0 := hb9.cell 0
      have d1 := hb9.cell 1
      have d2 := hb9.cell 2
      have d3 := hb9.cell 3
      have d4 := hb9.cell 4
      have d5 := hb9.cell 5
      have d6 := hb9.cell 6
      simp only [List.getElem?_cons_zero, List.getElem?_cons_succ] at d0 d1 d2 d3 d4 d5 d6
      refine bodyPost_ret (v := .tuple #[.agg #[(.string x.name), (.string x.expr), (.bool x.leaf), (.int .i64 x.marks), (.int .i64 x.least), (.int .i64 x.most), (.bool x.lines)], .bool true]) (by simp [results, go_sem, d0, d1, d2, d3, d4, d5, d6]) rfl ⟨by rw [← HE.out]; rfl, HF1.out.trans (M := Nob) hf9 (fun k hk h => by have : k = w.heap.size := h; omega)⟩
    · have HE := Lib.hid (show specV none = r by rw [← HR.out, specF, if_pos (by omega), Int.toNat_natCast, List.getElem?_eq_none (by omega)])
      have hlt : (rs.length : Int) ≤ (n : Int) := by omega
      obtain ⟨La, lc, s1, s2, s3⟩ := (HS.out.fr0 HF1.out).row
      have hls := cell_lt s1
      have HQ := Lib.hid (And.intro s1 hls)
      clear s1 s3 hls
      go_enter Tryz.func61, Tryz.ntmps61
      go_wp2_with fail
      rw [HW1.out]
      refine (schnone_any M p rs g w1 (HS.out.fr0 HF1.out)).mono ?_
      rintro e w2 ⟨rfl, rfl⟩
      have d0 := HB1.out.cell 0
      have d1 := HB1.out.cell 1
      have d2 := HB1.out.cell 2
      have d3 := HB1.out.cell 3
      have d4 := HB1.out.cell 4
      have d5 := HB1.out.cell 5
      have d6 := HB1.out.cell 6
      have y0 := HB1.out.frozen 0
      have y1 := HB1.out.frozen 1
      have y2 := HB1.out.frozen 2
      have y3 := HB1.out.frozen 3
      have y4 := HB1.out.frozen 4
      have y5 := HB1.out.frozen 5
      have y6 := HB1.out.frozen 6
      have hl1 := HB1.out.lt
      simp only [List.getElem?_cons_zero, List.getElem?_cons_succ] at d0 d1 d2 d3 d4 d5 d6
      obtain ⟨s1, hls⟩ := HQ.out
      go_wp2_with fail
      obtain ⟨hf9, hb9⟩ := store7 HB1.out (.string ⟨#[]⟩) (.string ⟨#[]⟩) (.bool false) (.int .i64 0) (.int .i64 0) (.int .i64 0) (.bool false)
      clear d0 d1 d2 d3 d4 d5 d6 y0 y1 y2 y3 y4 y5 y6
      generalize (((((((w1.setCell ⟨w.heap.size, 0, none⟩ (.string ⟨#[]⟩)).setCell ⟨w.heap.size, 1, none⟩ (.string ⟨#[]⟩)).setCell ⟨w.heap.size, 2, none⟩ (.bool false)).setCell ⟨w.heap.size, 3, none⟩ (.int .i64 0)).setCell ⟨w.heap.size, 4, none⟩ (.int .i64 0)).setCell ⟨w.heap.size, 5, none⟩ (.int .i64 0)).setCell ⟨w.heap.size, 6, none⟩ (.bool false)) = W9 at hf9 hb9 ⊢
      have d0 := hb9.cell 0
      have d1 := hb9.cell 1
      have d2 := hb9.cell 2
      have d3 := hb9.cell 3
      have d4 := hb9.cell 4
      have d5 := hb9.cell 5
      have d6 := hb9.cell 6
      simp only [List.getElem?_cons_zero, List.getElem?_cons_succ] at d0 d1 d2 d3 d4 d5 d6
      refine bodyPost_ret (v := .tuple #[.agg #[(.string ⟨#[]⟩), (.string ⟨#[]⟩), (.bool false), (.int .i64 0), (.int .i64 0), (.int .i64 0), (.bool false)], .bool false]) (by simp [results, go_sem, d0, d1, d2, d3, d4, d5, d6]) rfl ⟨by rw [← HE.out]; rfl, HF1.out.trans (M := Nob) hf9 (fun k hk h => by have : k = w.heap.size := h; omega)⟩
/-- May a token stand in a rule's, but for words. -/
def mayB (rs : List RuleM) (r : RuleM) (x : Tok) : Bool :=
  if x.k = 0 then (decide (x.m = 0) || decide (r.marks = 7)) && (decide (x.n ≠ 10) || r.lines)
  else match specF rs x.t with
    | none => false
    | some s => decide (s.least ≤ x.n) && decide (x.n ≤ s.most) && (s.leaf == decide (x.k = 3))
theorem okT_m {x : Tok} (h : okT x = true) (h0 : x.k = 0) : x.m = 0 ∨ x.m = 1 ∨ x.m = 2 ∨ x.m = 3 ∨ x.m = 4 := by
  unfold okT at h
  rw [if_pos h0] at h
  simp only [Bool.and_eq_true] at h
  exact rightM_cases h.2
set_option maxRecDepth 100000 in
set_option maxHeartbeats 4000000 in
theorem maytext0 (p : Nat) (ln z y : Bool) (t n m mk : Int) (hz : (bits BinOp.andNot IntKind.i64 m mk == 0) = z) (hn : (n != 10) = y) (b o : Nat) (w : World)
    (h3 : w.cell? ⟨b, o + 3, none⟩ = some (.int .i64 mk)) (h6 : w.cell? ⟨b, o + 6, none⟩ = some (.bool ln)) :
    Calls Tryz.prog 38 #[.pointer (some ⟨b, o, none⟩), .pointer (some ⟨p, 0, none⟩), .agg #[.int .i64 0, .int .i64 t, .int .i64 n, .int .i64 m]] w fun e w' => e = .returned (.bool (z && (y || ln))) ∧ Fr Nob w w' := by
  have hl3 := cell_lt h3
  have hl6 := cell_lt h6
  cases z
  · go_enter Tryz.func38, Tryz.ntmps38
    go_wp2_with fail
    go_quiet (fail)
    go_wp2_with fail
    go_ret
    exact ⟨rfl, ((Fr.refl _ _).alloc _).drewN _⟩
  · cases y
    · go_enter Tryz.func38, Tryz.ntmps38
      go_wp2_with fail
      go_quiet (fail)
      go_wp2_with fail
      go_ret
      exact ⟨rfl, ((Fr.refl _ _).alloc _).drewN _⟩
    · go_enter Tryz.func38, Tryz.ntmps38
      go_wp2_with fail
      go_quiet (fail)
      go_wp2_with fail
      go_ret
      exact ⟨rfl, ((Fr.refl _ _).alloc _).drewN _⟩
theorem maytext_any (p : Nat) (rs : List RuleM) (r : RuleM) (hr : r.marks = 0 ∨ r.marks = 7) (x : Tok) (hx : okT x = true) (h0 : x.k = 0) (b o : Nat) (w : World)
    (h3 : w.cell? ⟨b, o + 3, none⟩ = some (.int .i64 r.marks)) (h6 : w.cell? ⟨b, o + 6, none⟩ = some (.bool r.lines)) :
    Calls Tryz.prog 38 #[.pointer (some ⟨b, o, none⟩), .pointer (some ⟨p, 0, none⟩), .agg x.cells.toArray] w fun e w' => e = .returned (.bool (mayB rs r x)) ∧ Fr Nob w w' := by
  have hm := okT_m hx h0
  rw [mayB, if_pos h0]
  obtain ⟨k, t, n, m⟩ := x
  simp only at h0 hm
  subst h0
  have hz : (bits BinOp.andNot IntKind.i64 m r.marks == 0) = (decide (m = 0) || decide (r.marks = 7)) := by
    rcases hr with hr | hr <;> rw [hr] <;> rcases hm with rfl | rfl | rfl | rfl | rfl <;> kernel_rfl
  have hn : (n != 10) = decide (n ≠ 10) := by rw [Bool.eq_iff_iff]; simp
  exact maytext0 p r.lines _ _ t n m r.marks hz hn b o w h3 h6
set_option maxRecDepth 100000 in
set_option maxHeartbeats 1000000 in
theorem maytype_any (M : Nat → Prop) (p : Nat) (rs : List RuleM) (g : List Grp) (r : RuleM) (x : Tok) (h0 : x.k ≠ 0) (b o : Nat) (w : World) (hs : Sch M w p rs g) :
    Calls Tryz.prog 38 #[.pointer (some ⟨b, o, none⟩), .pointer (some ⟨p, 0, none⟩), .agg x.cells.toArray] w fun e w' => e = .returned (.bool (mayB rs r x)) ∧ Fr Nob w w' := by
  obtain ⟨q, hq⟩ : ∃ q, mayB rs r x = q := ⟨_, rfl⟩
  rw [hq]
  rw [mayB, if_neg h0] at hq
  obtain ⟨k, t, n, m⟩ := x
  simp only at h0 hq
  have hb0 : (k == 0) = false := by simpa using h0
  obtain ⟨w1, hw1⟩ : ∃ w1, w.alloc (.cells #[.int .i64 k, .int .i64 t, .int .i64 n, .int .i64 m] 40) = w1 := ⟨_, rfl⟩
  have hf1 : Fr Nob w w1 := hw1 ▸ (Fr.refl _ _).alloc _
  have hb1 : Blk w1 w.heap.size [.int .i64 k, .int .i64 t, .int .i64 n, .int .i64 m] 40 := hw1 ▸ Blk.new w _ _
  have hsp := spec_any M p rs g t w1 (hs.fr0 hf1)
  have HW1 := Lib.hid hw1
  have HF1 := Lib.hid hf1
  have HB1 := Lib.hid hb1
  have HSP := Lib.hid hsp
  have HX := Lib.hid hq
  clear hw1 hf1 hb1 hs hsp hq h0
  simp only [Tok.cells]
  go_enter Tryz.func38, Tryz.ntmps38
  go_wp2_with fail
  rw [HW1.out]
  refine HSP.out.mono ?_
  rintro e w2 ⟨rfl, hF2⟩
  have HF2 := Lib.hid (HF1.out.same hF2)
  have HB2 := Lib.hid (HB1.out.fr hF2 (fun h => h))
  have d0 := HB2.out.cell 0
  have d2 := HB2.out.cell 2
  have hl2 := HB2.out.lt
  simp only [List.getElem?_cons_zero, List.getElem?_cons_succ] at d0 d2
  clear hF2 HF1 HB1
  cases hsf : specF rs t with
  | none =>
    have hq : false = q := by have := HX.out; rw [hsf] at this; exact this
    have HE := Lib.hid hq
    clear hq hsf HX
    simp only [specV, Option.elim, spec0, Option.isSome]
    go_wp2_with fail
    go_ret
    exact ⟨by rw [← HE.out]; rfl, HF2.out.alloc _⟩
  | some s =>
    have hq : (decide (s.least ≤ n) && decide (n ≤ s.most) && (s.leaf == decide (k = 3))) = q := by have := HX.out; rw [hsf] at this; exact this
    have HE := Lib.hid hq
    clear hq hsf HX
    simp only [specV, Option.elim, RuleM.spec, Option.isSome]
    obtain ⟨nm, ex, lf, mk, le, mo, ln, ee, EA, ec⟩ := s
    simp only at HE ⊢
    go_wp2_with fail
    all_goals
      go_ret
      refine ⟨?_, HF2.out.alloc _⟩
      rw [← HE.out]
      refine congrArg (fun b => Ending.returned (.bool b)) ?_
      have hk3 : (k == 3) = decide (k = 3) := by rw [Bool.eq_iff_iff]; simp
      rw [Bool.eq_iff_iff]
      simp
      first | omega | (rw [hk3]; exact ⟨fun h => ⟨⟨by omega, by omega⟩, h⟩, fun h => h.2⟩)
end Go.Proofs.YtldcffonfidbcaaGreatDoor

/- Chapter 7: what is open, as memory holds it; the check, as a plain function. -/
namespace Go.Proofs.YtldcffonfidbcaaGreatDoor
open Go.RowKit
def starR (r : RuleM) : Bool := decide (r.e.k = 4)
def nmR (r : RuleM) : ByteArray := match r.e.l with
  | x :: _ => x.name
  | [] => ⟨#[]⟩
def typR (g : List Grp) (r : RuleM) : List Int := typesF g (nmR r)
/-- What is needed of a schema. -/
structure SchOk (rs : List RuleM) (g : List Grp) : Prop where
  rep : ∀ r ∈ rs, r.leaf = false → r.e = repT (starR r) (nmR r) ∧ RepOk g (starR r) (nmR r)
  marks : ∀ r ∈ rs, r.marks = 0 ∨ r.marks = 7
  first : ∀ r, rs[0]? = some r → r.leaf = false
/-- How a document is looked at: the innermost that is open, and what stands in it; the others. -/
def chkF (rs : List RuleM) (g : List Grp) : RuleM × List Int → List (RuleM × List Int) → List Tok → Nat → Int × Int
  | top, st, [], i => let b := (top :: st).getLast (by simp); if accB (typR g b.1) (starR b.1) b.2 then (i, 0) else (i, 9)
  | top, st, x :: l, i =>
    if x.k = 2 then (if accB (typR g top.1) (starR top.1) top.2 then (match st with
      | [] => (i, 9)
      | t :: st => chkF rs g t st l (i + 1)) else (i, 9))
    else if mayB rs top.1 x = false then (i, 9)
    else if prefN (typR g top.1) (top.2 ++ [x.t]) < (top.2 ++ [x.t]).length then (i, 9)
    else if x.k = 1 then (match specF rs x.t with
      | none => (i, 9)
      | some s => chkF rs g (s, []) ((top.1, top.2 ++ [x.t]) :: st) l (i + 1))
    else chkF rs g (top.1, top.2 ++ [x.t]) st l (i + 1)
def checkF (rs : List RuleM) (g : List Grp) (l : List Tok) : Int × Int :=
  if (flatCheck l).2 ≠ 0 then flatCheck l else match rs with
    | [] => (0, 9)
    | r :: _ => chkF rs g (r, []) [] l 0
/-- One that is open. -/
structure Lv where
  r : RuleM
  v : Value
  l : List Int
def Lv.cells (x : Lv) : List Value := x.r.cells ++ [x.v]
theorem Lv.cells_len (x : Lv) : x.cells.length = 11 := by simp [Lv.cells, RuleM.cells_len]
/-- What is open: the row, the words, each in a row of its own. -/
structure LvI (N : Nat) (w : World) (ov : Value) (ls : List Lv) : Prop where
  own : w.ownsRow N 89 11 ov ls.length (ls.flatMap Lv.cells)
  words : ∀ x ∈ ls, OwnI N w x.v x.l
  dist : ls.Pairwise (fun a b => ∀ k, a.v.ownBlock = some k → b.v.ownBlock ≠ some k)
theorem own_types {w : World} {B B' : Nat} {e e' : TypeId} {s s' n n' : Nat} {v v' : Value} {xs xs' : List Value} (h : w.ownsRow B e s v n xs) (h' : w.ownsRow B' e' s' v' n' xs') (hne : e ≠ e') : ∀ k, v.ownBlock = some k → v'.ownBlock ≠ some k := by
  intro k hk hk'
  rcases h.2 with ⟨rfl, _⟩ | ⟨g, cap, cur, rfl, _, hh, _⟩
  · simp [Value.ownBlock] at hk
  · rcases h'.2 with ⟨rfl, _⟩ | ⟨g', cap', cur', rfl, _, hh', _⟩
    · simp [Value.ownBlock] at hk'
    · have e1 : g = k := by simpa [Value.ownBlock] using hk
      have e2 : g' = k := by simpa [Value.ownBlock] using hk'
      subst e1
      rw [e2, hh] at hh'
      injection hh' with hh'
      injection hh' with _ h3
      exact hne h3
theorem OwnI.fr {M : Nat → Prop} {N : Nat} {w w' : World} {v : Value} {l : List Int} (h : OwnI N w v l) (hf : Fr M w w') (hM : ∀ k, v.ownBlock = some k → ¬ M k) : OwnI N w' v l := own_fr h hf hM
theorem LvI.fr {N : Nat} {w w' : World} {ov : Value} {ls : List Lv} (h : LvI N w ov ls) (hf : Fr Nob w w') : LvI N w' ov ls :=
  ⟨own_fr h.own hf (fun _ _ h => h), fun x hx => (h.words x hx).fr hf (fun _ _ h => h), h.dist⟩
theorem LvI.form {N : Nat} {w : World} {ov : Value} {ls : List Lv} (h : LvI N w ov ls) (hn : ls ≠ []) : ∃ G cap, ov = .slice (some ⟨G, 0, none⟩) ls.length cap ∧ N ≤ G ∧ G < w.heap.size ∧ ls.length ≤ cap := by
  rcases h.own.2 with ⟨_, h0⟩ | ⟨G, cap, cur, rfl, hg, hh, hc, _⟩
  · exact absurd (List.length_eq_zero_iff.1 h0) hn
  · exact ⟨G, cap, rfl, hg, lt_of_blk hh, hc⟩
/-- The cells of the last one. -/
theorem LvI.top {N : Nat} {w : World} {G cap : Nat} {st : List Lv} {x : Lv} (h : LvI N w (.slice (some ⟨G, 0, none⟩) (st ++ [x]).length cap) (st ++ [x])) :
    (∀ i, i < 11 → w.cell? ⟨G, st.length * 11 + i, none⟩ = x.cells[i]?) ∧ ∀ i, w.frozen? ⟨G, i, none⟩ = false := by
  refine ⟨fun i hi => ?_, fun i => h.own.frozenAt i⟩
  have hl : (st ++ [x]).length = st.length + 1 := by simp
  have hc := h.own.cellAt (st.length * 11 + i) (by rw [hl]; omega)
  rw [hc, List.flatMap_append, List.getElem?_append_right (by rw [flat_len Lv.cells_len]; omega), flat_len Lv.cells_len, show st.length * 11 + i - st.length * 11 = i by omega]
  simp
theorem LvI.first {N : Nat} {w : World} {G n cap : Nat} {st : List Lv} {x : Lv} (h : LvI N w (.slice (some ⟨G, 0, none⟩) n cap) (x :: st)) (hn : n = (x :: st).length) :
    ∀ i, i < 11 → w.cell? ⟨G, i, none⟩ = x.cells[i]? := by
  subst hn
  intro i hi
  have hc := h.own.cellAt i (by simp only [List.length_cons]; omega)
  rw [hc, List.flatMap_cons, List.getElem?_append_left (by rw [Lv.cells_len]; exact hi)]
/-- The last one is closed. -/
theorem LvI.pop {N : Nat} {w : World} {G cap : Nat} {st : List Lv} {x : Lv} (h : LvI N w (.slice (some ⟨G, 0, none⟩) (st ++ [x]).length cap) (st ++ [x])) : LvI N w (.slice (some ⟨G, 0, none⟩) st.length cap) st := by
  refine ⟨?_, fun y hy => h.words y (List.mem_append_left _ hy), (List.pairwise_append.1 h.dist).1⟩
  have hl : (st ++ [x]).length = st.length + 1 := by simp
  obtain ⟨h1, h2⟩ := h.own
  refine ⟨by rw [flat_len Lv.cells_len], .inr ?_⟩
  rcases h2 with ⟨h2, _⟩ | ⟨g, cap', cur, h3, hg, hh, hc, hm, hs, ht⟩
  · cases h2
  · injection h3 with h4 h5 h6
    injection h4 with h4
    injection h4 with h4
    subst h4
    subst h6
    refine ⟨_, _, cur, rfl, hg, hh, by omega, hm, hs, ?_⟩
    have e1 : ((st ++ [x]).flatMap Lv.cells).take (st.length * 11) = st.flatMap Lv.cells := by
      rw [List.flatMap_append, List.take_append_of_le_length (by rw [flat_len Lv.cells_len]; omega), List.take_of_length_le (by rw [flat_len Lv.cells_len]; omega)]
    rw [← ht, List.take_take, Nat.min_eq_left (by omega)] at e1
    exact e1
/-- A type behind the last one's word: the row turns, or a new one is made; then it is laid down. -/
theorem LvI.word {N : Nat} {w w1 w2 : World} {G cap : Nat} {st : List Lv} {x : Lv} {v' : Value} {t : Int} (h : LvI N w (.slice (some ⟨G, 0, none⟩) (st ++ [x]).length cap) (st ++ [x])) (hN : N ≤ w.heap.size)
    (hf : Fr Nob w w1) (hown : w2.ownsRow N 3 1 v' (x.l.length + 1) (intC x.l ++ [.int .i64 t])) (hg : w1.grownBy w2 x.v.ownBlock) (hat : x.v.ownBlock = v'.ownBlock ∨ v'.ownBlock = some w1.heap.size) :
    LvI N (w2.setCell ⟨G, st.length * 11 + 10, none⟩ v') (.slice (some ⟨G, 0, none⟩) (st ++ [(⟨x.r, v', x.l ++ [t]⟩ : Lv)]).length cap) (st ++ [⟨x.r, v', x.l ++ [t]⟩]) ∧ Fr (fun k => k = G ∨ x.v.ownBlock = some k) w (w2.setCell ⟨G, st.length * 11 + 10, none⟩ v') := by
  have h1 := h.fr hf
  have hG := h1.own
  have hlt := World.ownsRow.lt hG G rfl
  have hxw := h1.words x (by simp)
  have hGx : x.v.ownBlock ≠ some G := fun e => own_types hxw hG (by decide) G e rfl
  have hG2 := hG.kept hg (.inr (Ne.symm hGx))
  have hl : (st ++ [x]).length = st.length + 1 := by simp
  have hset := (hG2.stored (st.length * 11 + 10) v').1
  have hlst : st.length * 11 + 10 < ((st ++ [x]).flatMap Lv.cells).length := by rw [flat_len Lv.cells_len, hl]; omega
  have hcs : ((st ++ [x]).flatMap Lv.cells).set (st.length * 11 + 10) v' = (st ++ [(⟨x.r, v', x.l ++ [t]⟩ : Lv)]).flatMap Lv.cells := by
    rw [List.flatMap_append, List.flatMap_append, List.set_append_right _ _ (by rw [flat_len Lv.cells_len]; omega), flat_len Lv.cells_len, show st.length * 11 + 10 - st.length * 11 = 10 by omega]
    congr 1
  have hGG : ∀ k, (Value.slice (some ⟨G, 0, none⟩) (st ++ [x]).length cap).ownBlock = some k → k = G := fun k hk => by
    have : G = k := by simpa [Value.ownBlock] using hk
    exact this.symm
  have hgv : v'.ownBlock ≠ some G := by
    rcases hat with e | e
    · rw [← e]; exact hGx
    · rw [e]; intro e2; injection e2 with e2; omega
  have hsm : (Fr (One G) w2 (w2.setCell ⟨G, st.length * 11 + 10, none⟩ v')) := (Fr.refl (One G) w2).setCell (p := ⟨G, st.length * 11 + 10, none⟩) (.inl (show One G G from rfl)) _
  refine ⟨⟨?_, ?_, ?_⟩, ?_⟩
  · rw [← hcs]
    have hl2 : (st ++ [(⟨x.r, v', x.l ++ [t]⟩ : Lv)]).length = (st ++ [x]).length := by simp
    rw [hl2]
    exact hset
  · intro y hy
    rcases List.mem_append.1 hy with hy | hy
    · have hyw := h1.words y (List.mem_append_left _ hy)
      have hd : y.v.ownBlock = none ∨ y.v.ownBlock ≠ x.v.ownBlock := by
        cases hyb : y.v.ownBlock with
        | none => exact .inl rfl
        | some k =>
          right
          intro e
          exact (List.pairwise_append.1 h.dist).2.2 y hy x (by simp) k hyb e.symm
      have h2 : OwnI N w2 y.v y.l := World.ownsRow.kept hyw hg hd
      exact h2.fr hsm (fun k hk hm => by
        have : k = G := hm
        subst this
        exact own_types hyw hG (by decide) k hk rfl)
    · have : y = ⟨x.r, v', x.l ++ [t]⟩ := by simpa using hy
      subst this
      have h2 : OwnI N w2 v' (x.l ++ [t]) := by
        unfold OwnI
        simpa [intC] using hown
      exact h2.fr hsm (fun k hk hm => by
        have : k = G := hm
        subst this
        exact hgv hk)
  · obtain ⟨p1, _, p3⟩ := List.pairwise_append.1 h.dist
    refine List.pairwise_append.2 ⟨p1, by simp, fun a ha b hb k hk => ?_⟩
    have : b = ⟨x.r, v', x.l ++ [t]⟩ := by simpa using hb
    subst this
    rcases hat with e | e
    · show v'.ownBlock ≠ some k
      rw [← e]
      exact p3 a ha x (by simp) k hk
    · show v'.ownBlock ≠ some k
      rw [e]
      intro e2
      injection e2 with e2
      have := (World.ownsRow.lt (h1.words a (List.mem_append_left _ ha)) k hk).2
      omega
  · have hg' : Fr (fun k => k = G ∨ x.v.ownBlock = some k) w1 w2 := (Fr.of_grown hg).mono (fun k hk h => .inr h.symm)
    exact ((hf.any (M := fun k => k = G ∨ x.v.ownBlock = some k)).same hg').trans hsm (fun k hk h => .inl h)
theorem LvI.word_cell {N : Nat} {w w1 w2 : World} {G cap : Nat} {st : List Lv} {x : Lv} (h : LvI N w (.slice (some ⟨G, 0, none⟩) (st ++ [x]).length cap) (st ++ [x])) (hf : Fr Nob w w1) (hg : w1.grownBy w2 x.v.ownBlock) :
    w2.cell? ⟨G, st.length * 11 + 10, none⟩ = some x.v ∧ w2.frozen? ⟨G, st.length * 11 + 10, none⟩ = false ∧ G < w2.heap.size := by
  have h1 := h.fr hf
  have hG := h1.own
  have hxw := h1.words x (by simp)
  have hGx : x.v.ownBlock ≠ some G := fun e => own_types hxw hG (by decide) G e rfl
  have hG2 := hG.kept hg (.inr (Ne.symm hGx))
  have hl : (st ++ [x]).length = st.length + 1 := by simp
  have hc := hG2.cellAt (st.length * 11 + 10) (by rw [hl]; omega)
  rw [List.flatMap_append, List.getElem?_append_right (by rw [flat_len Lv.cells_len]; omega), flat_len Lv.cells_len, show st.length * 11 + 10 - st.length * 11 = 10 by omega] at hc
  have hc2 : w2.cell? ⟨G, st.length * 11 + 10, none⟩ = some x.v := by rw [hc]; simp [Lv.cells, RuleM.cells]
  exact ⟨hc2, hG2.frozenAt _, cell_lt hc2⟩
/-- One more is opened. -/
theorem LvI.push {N : Nat} {w w1 w2 : World} {ov ov' : Value} {ls : List Lv} {r : RuleM} (h : LvI N w ov ls)
    (hf : Fr Nob w w1) (hown : w2.ownsRow N 89 11 ov' (ls.length + 1) (ls.flatMap Lv.cells ++ (r.cells ++ [.slice none 0 0]))) (hg : w1.grownBy w2 ov.ownBlock) :
    LvI N w2 ov' (ls ++ [⟨r, .slice none 0 0, []⟩]) ∧ Fr (fun k => N ≤ k) w w2 := by
  have h1 := h.fr hf
  refine ⟨⟨?_, ?_, ?_⟩, ?_⟩
  · have e : (ls ++ [(⟨r, .slice none 0 0, []⟩ : Lv)]).flatMap Lv.cells = ls.flatMap Lv.cells ++ (r.cells ++ [.slice none 0 0]) := by simp [Lv.cells]
    rw [e, List.length_append]
    exact hown
  · intro y hy
    rcases List.mem_append.1 hy with hy | hy
    · have hyw := h1.words y hy
      refine World.ownsRow.kept hyw hg ?_
      cases hyb : y.v.ownBlock with
      | none => exact .inl rfl
      | some k => exact .inr (fun e => own_types hyw h1.own (by decide) k hyb e.symm)
    · have : y = ⟨r, .slice none 0 0, []⟩ := by simpa using hy
      subst this
      exact OwnI.nil _ _
  · refine List.pairwise_append.2 ⟨h.dist, by simp, fun a ha b hb k hk => ?_⟩
    have : b = ⟨r, .slice none 0 0, []⟩ := by simpa using hb
    subst this
    simp [Value.ownBlock]
  · exact (hf.any (M := fun k => N ≤ k)).same ((Fr.of_grown hg).mono (fun k hk h => (World.ownsRow.lt h1.own k h.symm).1))
/-- A document whose brackets are right, so many open. -/
def flatOk : List Tok → Nat → Prop
  | [], n => n = 0
  | x :: l, n => okT x = true ∧ ¬ (x.k = 2 ∧ n = 0) ∧ ¬ (x.k = 1 ∧ n = 32) ∧ flatOk l (if x.k = 1 then n + 1 else if x.k = 2 then n - 1 else n)
theorem flatOk_of : ∀ (l : List Tok) (i n : Nat), (flatF l i n).2 = 0 → flatOk l n
  | [], i, n, h => by
    rw [flatF] at h
    split at h
    · cases h
    · rw [flatOk]; omega
  | x :: l, i, n, h => by
    rw [flatF] at h
    split at h
    · cases h
    · rename_i h1
      split at h
      · cases h
      · rename_i h2
        rw [flatOk]
        refine ⟨?_, fun h3 => h1 (.inr h3), h2, flatOk_of l _ _ h⟩
        cases hb : okT x
        · exact absurd (.inl hb) h1
        · rfl
theorem chkF_cons (rs : List RuleM) (g : List Grp) (top : RuleM × List Int) (st : List (RuleM × List Int)) (x : Tok) (l : List Tok) (i : Nat) : chkF rs g top st (x :: l) i =
    (if x.k = 2 then (if accB (typR g top.1) (starR top.1) top.2 then (match st with
      | [] => (i, 9)
      | t :: st => chkF rs g t st l (i + 1)) else (i, 9))
    else if mayB rs top.1 x = false then (i, 9)
    else if prefN (typR g top.1) (top.2 ++ [x.t]) < (top.2 ++ [x.t]).length then (i, 9)
    else if x.k = 1 then (match specF rs x.t with
      | none => (i, 9)
      | some s => chkF rs g (s, []) ((top.1, top.2 ++ [x.t]) :: st) l (i + 1))
    else chkF rs g (top.1, top.2 ++ [x.t]) st l (i + 1) : Int × Int) := by
  rw [chkF.eq_def]
theorem chkF_nil (rs : List RuleM) (g : List Grp) (top : RuleM × List Int) (st : List (RuleM × List Int)) (i : Nat) : chkF rs g top st [] i =
    (if accB (typR g ((top :: st).getLast (by simp)).1) (starR ((top :: st).getLast (by simp)).1) ((top :: st).getLast (by simp)).2 then (i, 0) else (i, 9) : Int × Int) := by
  rw [chkF.eq_def]
end Go.Proofs.YtldcffonfidbcaaGreatDoor
