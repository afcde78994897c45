/- A part of the proof for chapter 10: CoreH, KeeperNew, VaultNew; no conditions. -/
import Derived.Test.YtpmgipgdicaioaaGreatDoorV13
import Derived.Test.YtpmgipgdicaioaaGreatDoorV14
import Derived.Test.YtpmgipgdicaioaaGreatDoorV11
import Derived.Deep.AppendLies
/- Chapter 10: what is told hangs on a rule's text alone, not on where it lies; the errors' numbers; the house. -/
namespace Go.Proofs.YtpmgipgdicaioaaGreatDoor
open Go.RowKit
def ofCore (x : SpecR × Tree) : RuleM := ⟨x.1.name, x.1.expr, x.1.leaf, x.1.marks, x.1.least, x.1.most, x.1.lines, x.2, none, 0⟩
def normR (r : RuleM) : RuleM := ofCore (coreR r)
theorem specF_norm (rs : List RuleM) (t : Int) : specF (rs.map normR) t = (specF rs t).map normR := by
  unfold specF
  split
  · rw [List.getElem?_map]
  · rfl
theorem mayB_norm (rs : List RuleM) (r : RuleM) (x : Tok) : mayB (rs.map normR) (normR r) x = mayB rs r x := by
  unfold mayB
  rw [specF_norm]
  split
  · rfl
  · cases specF rs x.t <;> rfl
def normP (p : RuleM × List Int) : RuleM × List Int := (normR p.1, p.2)
def popF (f : RuleM × List Int → List (RuleM × List Int) → Int × Int) (i : Nat) : List (RuleM × List Int) → Int × Int
  | [] => (i, 9)
  | t :: st => f t st
theorem chkF_cons2 (rs : List RuleM) (g : List Grp) (top : RuleM × List Int) (st : List (RuleM × List Int)) (x : Tok) (l : List Tok) (i : Nat) : chkF rs g top st (x :: l) i =
    (if x.k = 2 then (if accB (typR g top.1) (starR top.1) top.2 then popF (fun t st => chkF rs g t st l (i + 1)) i st else (i, 9))
    else if mayB rs top.1 x = false then (i, 9)
    else if prefN (typR g top.1) (top.2 ++ [x.t]) < (top.2 ++ [x.t]).length then (i, 9)
    else if x.k = 1 then (specF rs x.t).elim (i, 9) (fun s => chkF rs g (s, []) ((top.1, top.2 ++ [x.t]) :: st) l (i + 1))
    else chkF rs g (top.1, top.2 ++ [x.t]) st l (i + 1) : Int × Int) := by
  rw [chkF_cons]
  cases st <;> cases specF rs x.t <;> rfl
theorem chkF_norm (rs : List RuleM) (g : List Grp) : ∀ (l : List Tok) (top : RuleM × List Int) (st : List (RuleM × List Int)) (i : Nat), chkF (rs.map normR) g (normP top) (st.map normP) l i = chkF rs g top st l i
  | [], top, st, i => by
    rw [chkF_nil, chkF_nil]
    have h : (normP top :: st.map normP).getLast (by simp) = normP ((top :: st).getLast (by simp)) := by
      rw [← List.getLast_map (f := normP) (by simp)]
      rfl
    rw [h]
    rfl
  | x :: l, top, st, i => by
    rw [chkF_cons2, chkF_cons2]
    have h1 : accB (typR g (normP top).1) (starR (normP top).1) (normP top).2 = accB (typR g top.1) (starR top.1) top.2 := rfl
    have h2 : mayB (rs.map normR) (normP top).1 x = mayB rs top.1 x := mayB_norm _ _ _
    have h3 : prefN (typR g (normP top).1) ((normP top).2 ++ [x.t]) = prefN (typR g top.1) (top.2 ++ [x.t]) := rfl
    have h4 : (normP top).2 = top.2 := rfl
    have e2 : chkF (rs.map normR) g ((normP top).1, top.2 ++ [x.t]) (st.map normP) l (i + 1) = chkF rs g (top.1, top.2 ++ [x.t]) st l (i + 1) := chkF_norm rs g l (top.1, top.2 ++ [x.t]) st (i + 1)
    have e3 : popF (fun t st => chkF (rs.map normR) g t st l (i + 1)) i (st.map normP) = popF (fun t st => chkF rs g t st l (i + 1)) i st := by
      cases st with
      | nil => rfl
      | cons t st => exact chkF_norm rs g l t st (i + 1)
    have e4 : (specF (rs.map normR) x.t).elim ((i : Int), (9 : Int)) (fun s => chkF (rs.map normR) g (s, []) (((normP top).1, top.2 ++ [x.t]) :: st.map normP) l (i + 1)) = (specF rs x.t).elim ((i : Int), (9 : Int)) (fun s => chkF rs g (s, []) ((top.1, top.2 ++ [x.t]) :: st) l (i + 1)) := by
      rw [specF_norm]
      cases specF rs x.t with
      | none => rfl
      | some s => exact chkF_norm rs g l (s, []) ((top.1, top.2 ++ [x.t]) :: st) (i + 1)
    rw [h1, h2, h3, h4, e2, e3, e4]
theorem checkF_norm (rs : List RuleM) (g : List Grp) (l : List Tok) : checkF (rs.map normR) g l = checkF rs g l := by
  unfold checkF
  cases rs with
  | nil => rfl
  | cons r rs => rw [List.map_cons]; simp only []; rw [← chkF_norm (r :: rs) g l (r, []) [] 0]; rfl
/-- The house's rules, wherever they lie. -/
def houseR : List RuleM := ((wholeS ⟨#[98, 108, 111, 99, 107, 43]⟩ :: houseL).map coreS).map ofCore
theorem norm_house {rs : List RuleM} (h : rs.map coreR = (wholeS ⟨#[98, 108, 111, 99, 107, 43]⟩ :: houseL).map coreS) : rs.map normR = houseR := by
  unfold houseR
  rw [← h, List.map_map]
  rfl
theorem checkF_house {rs : List RuleM} (h : rs.map coreR = (wholeS ⟨#[98, 108, 111, 99, 107, 43]⟩ :: houseL).map coreS) (g : List Grp) (l : List Tok) : checkF rs g l = checkF houseR g l := by
  rw [← norm_house h, checkF_norm]
def coreOkB (g : List Grp) (x : SpecR × Tree) : Bool := (x.1.leaf || (match x.2 with
  | .node k n [.node 1 nm []] => (k == 4 || k == 5) && decide (n = ⟨#[]⟩) && decide (nm.size ≤ 1000000) && checkR g (repT (decide (k = 4)) nm) == 0
  | _ => false)) && (x.1.marks == 0 || x.1.marks == 7)
theorem house_schok {rs : List RuleM} (h : rs.map coreR = (wholeS ⟨#[98, 108, 111, 99, 107, 43]⟩ :: houseL).map coreS) : SchOk rs (groupsF houseL houseG) := by
  have hall : ((wholeS ⟨#[98, 108, 111, 99, 107, 43]⟩ :: houseL).map coreS).all (coreOkB (groupsF houseL houseG)) = true := by kernel_rfl
  rw [← h] at hall
  have hr : ∀ r ∈ rs, coreOkB (groupsF houseL houseG) (coreR r) = true := fun r hr => List.all_eq_true.1 hall _ (List.mem_map_of_mem hr)
  refine ⟨fun r hm hl => ?_, fun r hm => ?_, fun r hr0 => ?_⟩
  · have h1 := hr r hm
    unfold coreOkB at h1
    rw [Bool.and_eq_true] at h1
    have h2 := h1.1
    have h3 : (coreR r).1.leaf = false := hl
    have h4 : (coreR r).2 = r.e := rfl
    rw [h3, Bool.false_or, h4] at h2
    cases he : r.e with
    | node k n l =>
      rw [he] at h2
      match l, h2 with
      | [.node 1 nm []], h2 =>
        simp only [Bool.and_eq_true, Bool.or_eq_true, beq_iff_eq, decide_eq_true_eq] at h2
        obtain ⟨⟨⟨h5, h6⟩, h7⟩, h8⟩ := h2
        have hs : starR r = decide (k = 4) := by unfold starR; rw [he]; rfl
        have hn : nmR r = nm := by unfold nmR; rw [he]; rfl
        rw [hs, hn]
        refine ⟨?_, ⟨house_gok, h7, h8⟩⟩
        unfold repT
        rcases h5 with rfl | rfl
        · simp [h6]
        · simp [h6]
  · have h1 := hr r hm
    unfold coreOkB at h1
    simp only [Bool.and_eq_true, Bool.or_eq_true, beq_iff_eq] at h1
    exact h1.2
  · have h1 : (rs.map coreR)[0]? = some (coreR r) := by rw [List.getElem?_map, hr0]; rfl
    rw [h] at h1
    injection h1 with h1
    have h2 : (coreR r).1.leaf = false := by rw [← h1]; rfl
    exact h2
end Go.Proofs.YtpmgipgdicaioaaGreatDoor

/- keeper.New without a disk: it answers that nobody made one. -/
namespace Go.Proofs.YtpmgipgdicaioaaGreatDoor
open Go.RowKit
theorem infoTokV : (Tryz.prog.info? 36).map (fun i => (i.zero, i.size, i.bytes)) = some (some (.agg #[.int .i64 0, .int .i64 0, .int .i64 0, .int .i64 0]), 4, 32) := by kernel_rfl
def voidD : List Tok := [⟨1, 1, 0, 0⟩, ⟨2, 0, 0, 0⟩]
theorem void_check {rs : List RuleM} (h : rs.map coreR = (wholeS ⟨#[98, 108, 111, 99, 107, 43]⟩ :: houseL).map coreS) : checkF rs (groupsF houseL houseG) voidD = (2, 0) := by
  rw [checkF_house h]
  kernel_rfl
set_option maxRecDepth 100000 in
theorem disk_nil (w : World) : Calls Tryz.prog 43 #[.pointer none, .slice none 0 0] w fun e w' => e = .returned (.int .i64 7) ∧ w' = w := by
  go_enter Tryz.func43, Tryz.ntmps43
  go_wp2
  go_ret
  exact ⟨rfl, rfl⟩
end Go.Proofs.YtpmgipgdicaioaaGreatDoor

/- vault.New without disks: it answers that nobody made one. -/
namespace Go.Proofs.YtpmgipgdicaioaaGreatDoor
open Go.RowKit
set_option maxRecDepth 100000 in
set_option maxHeartbeats 4000000 in
theorem vnew_nil (ad : Addr) (c : Nat) (w : World) (hG : HG w) (hr : Rd Nob w (some ad) (tokC voidD)) (hc : 2 ≤ c) :
    Calls Tryz.prog 16 #[.slice (some ad) 2 c, .pointer none, .pointer none, .pointer none] w fun e w' => e = .returned (.tuple #[.pointer none, .int .i64 7]) ∧ Fr Nob w w' := by
  have HHG := Lib.hid hG
  have HR := Lib.hid hr
  have HCC := Lib.hid hc
  clear hG hr hc
  obtain ⟨i0, hi, hz0, hz1, hz2⟩ := info_parts infoTokV
  go_enter Tryz.func16, Tryz.ntmps16
  go_wp2_with fail
  refine (house_any w HHG.out).mono ?_
  rintro e w1 ⟨⟨p, rs, rfl, hS, hC⟩, hF1⟩
  have HS := Lib.hid (hS.mono (M' := Nob) (fun _ h => h.elim))
  have HF1 := Lib.hid hF1
  have HSO := Lib.hid (house_schok hC)
  have HVC := Lib.hid (void_check hC)
  have HR1 := Lib.hid (HR.out.fr hF1 (fun _ _ h => h.elim))
  obtain ⟨ad', e, _, hcl⟩ := HR1.out (by decide)
  injection e with e
  subst e
  have HCL := Lib.hid hcl
  have HTO := Lib.hid (show ∀ u ∈ tokC voidD, u.oneCell' = true from fun u hu => by
    obtain ⟨x, _, hx⟩ := List.mem_flatMap.1 hu
    simp only [Tok.cells, List.mem_cons, List.not_mem_nil, or_false] at hx
    rcases hx with rfl | rfl | rfl | rfl <;> rfl)
  obtain ⟨G, hGG⟩ : ∃ G, groupsF houseL houseG = G := ⟨_, rfl⟩
  rw [hGG] at HS HSO HVC
  clear hS hC hF1 hcl hGG
  go_wp2_with (at_builtin; refine wpList_append_lies _ rfl _ _ 25 rfl w1.heap.size 36 i0 _ 4 32 Tryz.underlying25 hi hz0 hz1 hz2 rfl (by decide) (.slice none 0 0) 0 [] rfl (World.ownsRow_nil _ _ _ _) ad 2 c (tokC voidD) rfl rfl HCL.out HTO.out (by omega) (by decide) (by decide) (Nat.le_refl _) _ rfl ?_; intro g cap w9 hown9 hg9 hga hgl; obtain ⟨WK, hWK⟩ : ∃ WK, w9 = WK := ⟨_, rfl⟩)
  have HFK := Lib.hid (show Fr Nob w1 WK by rw [← hWK]; exact (Fr.of_grown hg9).mono (fun k _ e => by cases e))
  clear hWK hown9 hg9 hga hgl
  obtain ⟨W2, hW2⟩ : ∃ W2, WK.alloc (.cells #[.pointer none, .pointer (some ⟨p, 0, none⟩), .slice (some ⟨g, 0, none⟩) 2 cap, .int .i64 0, .slice none 0 0, .int .i64 0, .int .i64 0, .int .i64 0, .int .i64 0, .slice none 0 0, .int .i64 0, .pointer none, .pointer none, .pointer none] 53) = W2 := ⟨_, rfl⟩
  have HF2 := Lib.hid (show Fr Nob w1 W2 by rw [← hW2]; exact HFK.out.alloc _)
  have HB2 := Lib.hid (show Blk W2 WK.heap.size [.pointer none, .pointer (some ⟨p, 0, none⟩), .slice (some ⟨g, 0, none⟩) 2 cap, .int .i64 0, .slice none 0 0, .int .i64 0, .int .i64 0, .int .i64 0, .int .i64 0, .slice none 0 0, .int .i64 0, .pointer none, .pointer none, .pointer none] 53 by rw [← hW2]; exact Blk.new _ _ _)
  rw [hW2]
  clear hW2
  have hck := schcheck_any Nob Nob p rs G HSO.out (.slice (some ad) 2 c) voidD W2 (HS.out.fr0 HF2.out) ⟨some ad, c, rfl, HCC.out, HR1.out.fr HF2.out (fun _ _ h => h.elim)⟩ (by decide)
  rw [HVC.out] at hck
  refine hck.mono ?_
  clear hck
  rintro e w3 ⟨rfl, hF3⟩
  have HF3 := Lib.hid ((HF1.out.same HF2.out).same hF3)
  clear hF3
  go_wp2_with fail
  refine (disk_nil w3).mono ?_
  rintro e w4 ⟨rfl, rfl⟩
  go_wp2_with fail
  go_ret2
  exact ⟨rfl, HF3.out⟩
end Go.Proofs.YtpmgipgdicaioaaGreatDoor
