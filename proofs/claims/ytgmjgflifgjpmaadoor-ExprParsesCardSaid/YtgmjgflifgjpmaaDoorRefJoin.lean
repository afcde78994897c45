/- The reference's 'join'. -/
import Derived.Test.YtgmjgflifgjpmaaDoorExprSome
import Derived.Deep.RegionLaw
import Derived.Deep.AppendLies
import Derived.Test.YtgmjgflifgjpmaaDoorExprSize
import Derived.Test.YtgmjgflifgjpmaaDoorRefNext
namespace Go.Proofs.YtgmjgflifgjpmaaDoor
open Go.RowKit
/-- The end of a function that hands one tree back, out of the block of its result. -/
theorem ret_tree1 {fn : Func} {i : Nat} (hfn : fn.results = #[.cell i 24]) {R : Ending → World → Prop} {a : Act} {W : World} {B : Nat} {c0 c1 c2 : Value} (hi : a.tmps[i]?.getD undef = .pointer (some ⟨B, 0, none⟩)) (hd : a.defers = [])
    (hb : Blk W B [c0, c1, c2] 24) (hR : R (.returned (.agg #[c0, c1, c2])) W) : bodyPost Tryd.prog fn R .ret a W := by
  have q0 := hb.cell 0
  have q1 := hb.cell 1
  have q2 := hb.cell 2
  simp only [List.getElem?_cons_zero, List.getElem?_cons_succ] at q0 q1 q2
  exact bodyPost_ret (v := .agg #[c0, c1, c2]) (by simp [results, hfn, go_sem, q0, q1, q2, hi]) hd hR
/-- The blocks that 'join' writes, and those of its caller. -/
def JM (M : Nat → Prop) (w : World) : Nat → Prop := fun k => M k ∨ k = w.heap.size ∨ k = w.heap.size + 1
/-- What the loop of 'join' holds at a round's head. -/
structure JoinI (kind : Int) (M : Nat → Prop) (w : World) (done : List Tree) (v : Value) (wr : World) : Prop where
  out : Blk wr w.heap.size [.int .i64 0, .string ⟨#[]⟩, .slice none 0 0] 24
  e : Blk wr (w.heap.size + 1) [.int .i64 kind, .string ⟨#[]⟩, v] 24
  own : OwnT (JM M w) wr (w.heap.size + 2) v (flatK kind done)
  fr : Fr Nob w wr
theorem flatK_take (kind : Int) (l : List Tree) (i : Nat) (hi : i < l.length) : flatK kind (l.take (i + 1)) = flatK kind (l.take i) ++ (if l[i].k = kind then l[i].l else [l[i]]) := by
  rw [List.take_succ_eq_append_getElem hi, flatK_snoc]
theorem JoinI.next {kind : Int} {M : Nat → Prop} {w wr W w2 : World} {done l' : List Tree} {v v2 : Value} {css0 news : List Value} (h : JoinI kind M w done v wr) (hfa : Fr Nob wr W)
    (hrep : EReps (fun k => JM M w k ∨ some k = v.ownBlock) wr (flatK kind done) css0) (hnew : EReps (fun k => M k ∨ w.heap.size ≤ k) W l' news)
    (hown2 : w2.ownsRow (w.heap.size + 2) 24 3 v2 ((flatK kind done).length + l'.length) (css0 ++ news)) (hgr2 : W.grownBy w2 v.ownBlock) (hat2 : v2.ownBlock = v.ownBlock ∨ v2.ownBlock = some W.heap.size) (done' : List Tree) (hd : flatK kind done' = flatK kind done ++ l')
    (hol : ∀ k, v.ownBlock = some k → w.heap.size + 2 ≤ k ∧ k < wr.heap.size) : JoinI kind M w done' v2 (w2.setCell ⟨w.heap.size + 1, 2, none⟩ v2) := by
  have hlt := h.e.lt
  have hsz := hfa.size
  have fg := Fr.of_grown hgr2
  have hne : ∀ k, k < w.heap.size + 2 → ¬ (some k = v.ownBlock) := fun k hk he => by have := (hol k he.symm).1; omega
  have fs : Fr (One (w.heap.size + 1)) w2 (w2.setCell ⟨w.heap.size + 1, 2, none⟩ v2) := (Fr.refl (One (w.heap.size + 1)) w2).setCell (p := ⟨w.heap.size + 1, 2, none⟩) (.inl rfl) _
  have b0 := ((h.out.fr hfa (fun h => h)).fr fg (hne _ (by omega))).fr fs (fun h => by have : w.heap.size = w.heap.size + 1 := h; omega)
  have b1 := ((h.e.fr hfa (fun h => h)).fr fg (hne _ (by omega))).set 2 v2
  have o1 : OwnT (JM M w) w2 (w.heap.size + 2) v2 (flatK kind done') := by
    rw [hd]
    refine OwnT.appended (EReps.fr hfa (fun k _ hk => hk.elim) _ _ hrep) (EReps.mono (fun k hk => ?_) _ _ hnew) hown2 hgr2 hat2
    rcases hk with (hk | hk | hk) | hk
    · exact .inl hk
    · exact .inr (by omega)
    · exact .inr (by omega)
    · exact .inr (by have := (hol k hk.symm).1; omega)
  refine ⟨b0, b1, ?_, ?_⟩
  · refine o1.fr fs (fun k hk => .inr (.inr hk)) (fun k hk h => ?_)
    have hk2 : k = w.heap.size + 1 := h
    obtain ⟨css, ho, _⟩ := o1
    have := (own_base ho k hk).1
    omega
  · exact ((h.fr.same hfa).trans fg (fun k hk he => by have := (hol k he.symm).1; omega)).trans fs (fun k hk h => by have : k = w.heap.size + 1 := h; omega)
theorem JoinI.after {kind : Int} {M : Nat → Prop} {w wr W w2 : World} {done : List Tree} {v : Value} (h : JoinI kind M w done v wr) (hfa : Fr Nob wr W) (hgr2 : W.grownBy w2 v.ownBlock) (hol : ∀ k, v.ownBlock = some k → w.heap.size + 2 ≤ k ∧ k < wr.heap.size) :
    w2.cell? ⟨w.heap.size + 1, 2, none⟩ = some v ∧ w2.frozen? ⟨w.heap.size + 1, 2, none⟩ = false := by
  have hne1 : ¬ (some (w.heap.size + 1) = v.ownBlock) := fun he => by have := (hol _ he.symm).1; omega
  have hb2 := (h.e.fr hfa (fun h => h)).fr (Fr.of_grown hgr2) hne1
  exact ⟨(hb2.cell 2).trans rfl, hb2.frozen 2⟩
theorem EReps.elt2 {M M' : Nat → Prop} {w : World} {l : List Tree} {css : List Value} {A : Option Addr} (hR : Rd M' w A css) (hE : EReps M w l css) {k : Nat} (hk : k < l.length) :
    ∃ ad A2 c, A = some ad ∧ w.cell? (ad.add (k * 3)) = some (.int .i64 l[k].k) ∧ w.cell? ⟨(ad.add (k * 3)).block, (ad.add (k * 3)).off + 1, none⟩ = some (.string l[k].name) ∧ w.cell? ⟨(ad.add (k * 3)).block, (ad.add (k * 3)).off + 2, none⟩ = some (.slice A2 l[k].l.length c) ∧
      ERep M w l[k] [.int .i64 l[k].k, .string l[k].name, .slice A2 l[k].l.length c] := by
  have e3 : css.length = l.length * 3 := EReps.len _ _ hE
  obtain ⟨A2, c2, h0, h1, h2, hX⟩ := EReps.at_ _ _ hE k hk
  obtain ⟨ad, rfl, _, hcell⟩ := hR (by rintro rfl; simp at e3; omega)
  exact ⟨ad, A2, c2, rfl, hcell _ _ h0, by rw [add_next ad (k * 3) 0]; exact hcell _ _ h1, by rw [add_next ad (k * 3) 1]; exact hcell _ _ h2, hX⟩
set_option maxRecDepth 100000 in
set_option maxHeartbeats 4000000 in
theorem join_any (kind : Int) (l : List Tree) (A : Option Addr) (c : Nat) (css : List Value) (M : Nat → Prop) (w : World) (hM : ∀ k, M k → k < w.heap.size) (hR : Rd Nob w A css) (hE : EReps M w l css) (hl : l ≠ []) (hfew : ∀ i, (flatK kind (l.take i)).length ≤ 1000) (hll : l.length ≤ 1000) (hne : ∀ x ∈ l, x.k = kind → x.l ≠ []) :
    Calls Tryd.prog 37 #[.int .i64 kind, .slice A l.length c] w fun e w' => (∃ cs, e = .returned (.agg cs.toArray) ∧ ERep M w' (joinK kind l) cs) ∧ Fr Nob w w' := by
  have HR := Lib.hid hR
  have HE := Lib.hid hE.bound
  have HM := Lib.hid hM
  have HFEW := Lib.hid hfew
  have HNE := Lib.hid hne
  clear hR hE hM hfew hne
  by_cases h1 : l.length = 1
  · obtain ⟨x, rfl⟩ : ∃ x, l = [x] := List.length_eq_one_iff.1 h1
    obtain ⟨ad, A2, c2, rfl, r0, r1, r2, hX⟩ := EReps.elt2 HR.out HE.out (k := 0) (by simp)
    have r0 : w.cell? ad = some (.int .i64 x.k) := r0
    have r1 : w.cell? ⟨ad.block, ad.off + 1, none⟩ = some (.string x.name) := r1
    have r2 : w.cell? ⟨ad.block, ad.off + 2, none⟩ = some (.slice A2 x.l.length c2) := r2
    have HX := Lib.hid hX
    have hlad := cell_lt r0
    clear hX
    go_enter Tryd.func37, Tryd.ntmps37
    go_wp2_with fail
    refine ret_tree1 rfl rfl rfl (Blk.new w [.int .i64 x.k, .string x.name, .slice A2 x.l.length c2] 24) ⟨⟨_, rfl, ?_⟩, (Fr.refl _ _).alloc _⟩
    exact (ERep.mono (M' := M) (fun k hk => .inl hk) _ _ HX.out).fr0 ((Fr.refl _ _).alloc _)
  · have g1 : ((l.length : Int) == 1) = false := by simp; omega
    obtain ⟨i0, hi, hz0, hz1, hz2⟩ := info_parts infoE
    go_enter Tryd.func37, Tryd.ntmps37
    go_wp2_with fail
    go_loopg [6] (l.length) (fun n i wr => ∃ k v, n = l.length - k ∧ k ≤ l.length ∧ i = .int .i64 k ∧ Hid (JoinI kind M w (l.take k) v wr))
    case atStart =>
      refine ⟨0, .slice none 0 0, rfl, Nat.zero_le _, rfl, ⟨(Blk.new w [.int .i64 0, .string ⟨#[]⟩, .slice none 0 0] _).alloc _, Blk.new_at _ [.int .i64 kind, .string ⟨#[]⟩, .slice none 0 0] _ _ (by simp), OwnT.nil _ _ _, ((Fr.refl _ _).alloc _).alloc _⟩⟩
    case round =>
      obtain ⟨k, v, rfl, hk, rfl, HI⟩ := hrel
      have hlt := HI.out.e.lt
      have d0 := HI.out.e.cell 0
      have d1 := HI.out.e.cell 1
      have d2 := HI.out.e.cell 2
      have g2 := HI.out.e.frozen 2
      simp only [List.getElem?_cons_zero, List.getElem?_cons_succ] at d0 d1 d2
      by_cases hkl : k < l.length
      · have ht : ((k : Int) < (l.length : Int)) := by omega
        have hEr := EReps.fr HI.out.fr (M := fun k => M k ∨ w.heap.size ≤ k) (fun _ _ h => h.elim) _ _ HE.out
        have hRr := HR.out.fr HI.out.fr (fun _ _ h => h)
        obtain ⟨ad, A2, c2, rfl, q0, q1, q2, hX⟩ := EReps.elt2 hRr hEr hkl
        obtain ⟨A3, c3, css3, he3, hc3, hR3, hE3⟩ := hX.open_
        injection he3 with _ he3
        injection he3 with _ he3
        injection he3 with he3 _
        injection he3 with he3 _ he4
        subst he3 he4
        have hol := own_base (HI.out.own.choose_spec.1)
        obtain ⟨css0, hown, hrep⟩ := HI.out.own
        have hfl := HFEW.out k
        have hfl2 := HFEW.out (k + 1)
        have hdone := flatK_take kind l k hkl
        have HOL := Lib.hid hol
        have HREP := Lib.hid hrep
        have HX := Lib.hid hX
        have HFL := Lib.hid (And.intro hfl (And.intro hfl2 hdone))
        clear hol hrep hX hfl hfl2 hdone
        by_cases hkk : l[k].k = kind
        · have hkk2 : (l[k].k == kind) = true := by simpa using hkk
          have hxl := HNE.out l[k] (List.getElem_mem hkl) hkk
          have HKK := Lib.hid hkk
          clear hkk
          obtain ⟨ad3, rfl, hnm, hcs⟩ := hR3 (by intro h; have := EReps.len _ _ hE3; rw [h] at this; simp only [List.length_nil] at this; exact hxl (List.length_eq_zero_iff.1 (by omega)))
          have HC := Lib.hid hcs
          have HE3 := Lib.hid hE3
          have HR3 := Lib.hid hR3
          clear hcs hxl hE3 hR3 hnm
          go_wp2_with fail
          go_still_tail 7, (by kernel_rfl)
          change wpList _ _ _ _ _ wr.drew
          have hfd : Fr Nob wr wr.drew := (Fr.refl _ _).drew
          have hownd : wr.drew.ownsRow (w.heap.size + 2) 24 3 v (flatK kind (l.take k)).length css0 := hown
          have hcd : ∀ j u, css3[j]? = some u → wr.drew.cell? (ad3.add j) = some u := HC.out
          have e2 : wr.drew.cell? ⟨w.heap.size + 1, 2, none⟩ = some v := d2
          have e3 : wr.drew.frozen? ⟨w.heap.size + 1, 2, none⟩ = false := g2
          have HEd := Lib.hid (HE3.out.fr0 hfd.any)
          generalize hwd : wr.drew = wd
          rw [hwd] at hfd hownd hcd e2 e3 HEd
          have HCD := Lib.hid hcd
          have HFD := Lib.hid hfd
          clear hwd hfd hcd hown d0 d1 d2 g2 q0 q1 q2
          go_wp2_with (at_builtin; refine wpList_append_own_at _ rfl _ _ 22 rfl (w.heap.size + 2) 24 i0 _ 3 48 Tryd.underlying22 hi hz0 hz1 hz2 rfl (by decide) v (flatK kind (l.take k)).length css0 rfl hownd ad3 l[k].l.length c2 css3 rfl ?c1 ?c2 ?c3 ?c4 ?c5 ?c6 ?_)
          case c1 => exact EReps.len _ _ HE3.out
          case c2 => exact fun j u hj => HCD.out j u hj
          case c3 => exact EReps.one_cells _ _ HE3.out
          case c4 => have := HFL.out; rw [this.2.2, List.length_append, if_pos HKK.out] at this; unfold maxLen; omega
          case c5 => have := HFL.out; rw [this.2.2, List.length_append, if_pos HKK.out] at this; omega
          case c6 => have := HFD.out.size; omega
          intro v2 w2 hown2 hgr2 _ hat2
          have hnext : JoinI kind M w (l.take (k + 1)) v2 (w2.setCell ⟨w.heap.size + 1, 2, none⟩ v2) :=
            HI.out.next HFD.out HREP.out HEd.out hown2 hgr2 hat2 (l.take (k + 1)) (by have := HFL.out.2.2; rw [if_pos HKK.out] at this; exact this) HOL.out
          have hne1 : ¬ (some (w.heap.size + 1) = v.ownBlock) := fun he => by have := (HOL.out _ he.symm).1; omega
          have hb2 := (HI.out.e.fr HFD.out (fun h => h)).fr (Fr.of_grown hgr2) hne1
          have e4 := hb2.cell 2
          have e5 := hb2.frozen 2
          have e6 := hb2.lt
          simp only [List.getElem?_cons_zero, List.getElem?_cons_succ] at e4
          obtain ⟨A4, c4, rfl⟩ := hnext.own.slice
          have HNX := Lib.hid hnext
          clear hnext hne1 hb2 hown2 hgr2 hat2 hownd e2 e3
          go_wp2_with fail
          go_roundg (l.length - (k + 1))
          case measure => omega
          case rel => exact ⟨k + 1, _, rfl, hkl, rfl, HNX.out⟩
        · have hkk2 : (l[k].k == kind) = false := by simpa using hkk
          have HKK := Lib.hid hkk
          clear hkk
          go_wp2_with fail
          have hb2 : (flatK kind (l.take k)).length + 1 ≤ 1000 := by have := HFL.out; rw [this.2.2, if_neg HKK.out] at this; simp only [List.length_append, List.length_singleton] at this; omega
          have hnews : ∀ (W : World) (j : Nat) (u : Value), ([.int .i64 l[k].k, .string l[k].name, .slice A2 l[k].l.length c2] : List Value)[j]? = some u → (W.alloc (Obj.cells #[.int .i64 l[k].k, .string l[k].name, .slice A2 l[k].l.length c2] 24)).cell? ((⟨W.heap.size, 0, none⟩ : Addr).add j) = some u := by
            intro W j u hj
            have hb := ((Blk.new_at W [.int .i64 l[k].k, .string l[k].name, .slice A2 l[k].l.length c2] 24 W.heap.size rfl).cell j).trans hj
            rw [add_lit]
            exact hb
          have HNW := Lib.hid hnews
          clear hnews
          go_region_law (refine step_append_lies _ (by rfl) _ _ _ (by rfl) (w.heap.size + 2) 24 i0 _ 3 48 Tryd.underlying22 hi hz0 hz1 hz2 rfl (by decide) v (flatK kind (l.take k)).length css0 (by rfl) (World.ownsRow.alloc (w := wr.drew) hown _) ⟨wr.heap.size, 0, none⟩ 1 1 [.int .i64 l[k].k, .string l[k].name, .slice A2 l[k].l.length c2] (by rfl) rfl (HNW.out wr.drew) (by simp [Value.oneCell']) (by omega) (by unfold maxLen; omega) (by omega) (by simp; omega) _ rfl ?_; intro gg cap w2 hown2 hgr2 hat2 hlt2; have e4 := (HI.out.after (((Fr.refl Nob wr).drew).alloc _) hgr2 HOL.out).1; have e5 := (HI.out.after (((Fr.refl Nob wr).drew).alloc _) hgr2 HOL.out).2)
          all_goals
            have hfda : Fr Nob wr (wr.alloc (Obj.cells #[.int .i64 l[k].k, .string l[k].name, .slice A2 l[k].l.length c2] 24)).drew := ((Fr.refl Nob wr).alloc _).drew
            have hnext : JoinI kind M w (l.take (k + 1)) (.slice (some ⟨gg, 0, none⟩) ((flatK kind (l.take k)).length + 1) cap) (w2.setCell ⟨w.heap.size + 1, 2, none⟩ (.slice (some ⟨gg, 0, none⟩) ((flatK kind (l.take k)).length + 1) cap)) :=
              HI.out.next (l' := [l[k]]) hfda HREP.out (EReps.one (HX.out.fr0 (((Fr.refl _ wr).alloc _).drew))) hown2 hgr2 (by rcases hat2 with h | h; exact .inl h.symm; exact .inr (by rw [← h]; rfl)) (l.take (k + 1)) (by have := HFL.out.2.2; rw [if_neg HKK.out] at this; exact this) HOL.out
            have HNX := Lib.hid hnext
            clear hnext hown2 hgr2 hat2 hfda e4 e5
            go_wp2_with fail
            go_roundg (l.length - (k + 1))
            case measure => omega
            case rel => exact ⟨k + 1, _, rfl, hkl, rfl, HNX.out⟩
      · have ht : ¬ ((k : Int) < (l.length : Int)) := by omega
        have hkl2 : k = l.length := by omega
        subst hkl2
        rw [List.take_length] at HI
        obtain ⟨A4, c4, rfl⟩ := HI.out.own.slice
        have o0 := HI.out.out.cell 0
        have o1 := HI.out.out.cell 1
        have o2 := HI.out.out.cell 2
        have p0 := HI.out.out.frozen 0
        have p1 := HI.out.out.frozen 1
        have p2 := HI.out.out.frozen 2
        simp only [List.getElem?_cons_zero, List.getElem?_cons_succ] at o0 o1 o2
        have hlo := HI.out.out.lt
        go_wp2_with fail
        have hjl : joinK kind l = .node kind ⟨#[]⟩ (flatK kind l) := by
          match l, hl, h1 with
          | [], hl, _ => exact absurd rfl hl
          | [x], _, h1 => exact absurd rfl h1
          | x :: y :: l, _, _ => rfl
        rw [hjl]
        have hrep := HI.out.own.rep (fun k' hk' h => by
          obtain ⟨css', ho, _⟩ := HI.out.own
          have h1 := (own_base ho k' hk').1
          rcases h with h | h | h
          · have := HM.out k' h; omega
          · omega
          · omega) kind ⟨#[]⟩
        have hf3 := fr_store3 wr w.heap.size (.int .i64 kind) (.string ⟨#[]⟩) (.slice A4 (flatK kind l).length c4)
        refine ret_tree1 rfl rfl rfl (((HI.out.out.set 0 _).set 1 _).set 2 _) ⟨⟨_, rfl, ?_⟩, ?_⟩
        · exact ERep.mono (fun k' hk' => .inl hk') _ _ (ERep.fr hf3 (fun k' _ hk' => by have : k' = w.heap.size := hk'; exact .inr (.inl this)) _ _ hrep)
        · exact HI.out.fr.trans hf3 (fun k' hk' h => by have : k' = w.heap.size := h; omega)
end Go.Proofs.YtgmjgflifgjpmaaDoor
