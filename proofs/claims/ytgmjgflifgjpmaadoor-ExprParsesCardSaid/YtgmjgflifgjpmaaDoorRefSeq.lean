/- The reference's 'seq' and 'alt'. -/
import Derived.Test.YtgmjgflifgjpmaaDoorRefJoin
import Derived.Test.YtgmjgflifgjpmaaDoorExprFuel
import Derived.Test.YtgmjgflifgjpmaaDoorExprWhole
namespace Go.Proofs.YtgmjgflifgjpmaaDoor
open Go.RowKit
/-- What a reader of the reference comes to. -/
def OutR (g : Nat) (s : ByteArray) (w : World) (n m : Nat) : Res → Ending → World → Prop
  | .ok x r, e, w' => ∃ cs, e = .returned (.agg cs.toArray) ∧ ERep (fun k => k < w.heap.size) w' x cs ∧ TxR w' g s r false ∧ Fr (One g) w w'
  | .err r, e, w' => ∃ x cs, e = .returned (.agg cs.toArray) ∧ ERep (fun k => k < w.heap.size) w' x cs ∧ TxR w' g s r true ∧ Fr (One g) w w' ∧ x.l.length + r.length ≤ n ∧ (x.k = 2 ∨ x.k = 3 → x.l ≠ []) ∧ r.length ≤ m
/-- What the loops of 'seq' and 'alt' hold at a round's head. -/
structure RefI (kind : Int) (F : List UInt8 → Res) (G : List UInt8 → Bool × List UInt8) (res : Res) (g : Nat) (s : ByteArray) (w : World) (n0 : Nat) (l : List Tree) (r : List UInt8) (b : Bool) (v : Value) (wr : World) : Prop where
  out : Blk wr w.heap.size [.int .i64 0, .string ⟨#[]⟩, .slice none 0 0] 24
  text : TxR wr g s r b
  own : OwnT (fun k => k < w.heap.size + 1) wr (w.heap.size + 1) v l
  fr : Fr (One g) w wr
  ne : l ≠ []
  goods : ∀ x ∈ l, x.k = 2 ∨ x.k = 3 → x.l ≠ []
  few : l.length + r.length ≤ n0 + (if b then 1 else 0)
  parts : ∀ x ∈ l, x.l.length + r.length ≤ n0 + (if b then 1 else 0)
  few2 : (flatK kind l).length + r.length ≤ n0 + (if b then 1 else 0)
  run : b = true → res = .err r
  run2 : b = false → ∃ m, r.length < m ∧ (match G r with | (false, r2) => Res.ok (joinK kind l) r2 | (true, r2) => someF kind F G m l r2) = res
theorem flatK_take_le (kind : Int) (l : List Tree) (i : Nat) : (flatK kind (l.take i)).length ≤ (flatK kind l).length := by
  have e : flatK kind l = flatK kind (l.take i) ++ flatK kind (l.drop i) := by
    unfold flatK
    rw [← List.flatMap_append, List.take_append_drop]
  rw [e, List.length_append]
  omega
theorem flatK_one_le (kind : Int) (x : Tree) : (flatK kind [x]).length ≤ max 1 x.l.length := by
  rw [show [x] = [] ++ [x] from rfl, flatK_snoc]
  split
  · simp [flatK]; omega
  · simp [flatK]; omega
theorem OwnT.lit {M : Nat → Prop} {w : World} {base : Nat} {x : Tree} {c0 c1 c2 : Value} (hb : base ≤ w.heap.size) (h : ERep (fun k => M k ∨ w.heap.size ≤ k) w x [c0, c1, c2]) : OwnT M (w.alloc (.cells #[c0, c1, c2] 24)) base (.slice (some ⟨w.heap.size, 0, none⟩) 1 1) [x] := by
  refine ⟨[c0, c1, c2], World.ownsRow_lit w #[c0, c1, c2] 1 hb (by decide) rfl, ?_⟩
  refine EReps.mono (fun k hk => ?_) _ _ (EReps.one (h.fr0 ((Fr.refl _ _).alloc _)))
  rcases hk with hk | hk
  · exact .inl hk
  · have : k = w.heap.size := by simpa [Value.ownBlock] using hk
    exact .inr (by omega)
/-- Behind a reader's call: the first of a list. -/
theorem RefI.first {kind : Int} {F : List UInt8 → Res} {G : List UInt8 → Bool × List UInt8} {g : Nat} {s : ByteArray} {w w1 : World} {r0 r : List UInt8} {b : Bool} {x : Tree} {c0 c1 c2 : Value} (hgw : g < w.heap.size)
    (hfr : Fr (One g) (w.alloc (.cells #[.int .i64 0, .string ⟨#[]⟩, .slice none 0 0] 24)) w1) (hT : TxR w1 g s r b) (hx : ERep (fun k => k < (w.alloc (.cells #[.int .i64 0, .string ⟨#[]⟩, .slice none 0 0] 24)).heap.size) w1 x [c0, c1, c2]) (hgood : x.k = 2 ∨ x.k = 3 → x.l ≠ [])
    (hlen : 1 + r.length ≤ r0.length + (if b then 1 else 0)) (hlen2 : x.l.length + r.length ≤ r0.length + (if b then 1 else 0)) (h1 : b = true → F r0 = .err r) (h2 : b = false → F r0 = .ok x r) :
    RefI kind F G (someF kind F G (r0.length + 1) [] r0) g s w r0.length [x] r b (.slice (some ⟨w1.heap.size, 0, none⟩) 1 1) (w1.alloc (.cells #[c0, c1, c2] 24)) := by
  have hsz := hfr.size
  have hs1 : (w.alloc (.cells #[.int .i64 0, .string ⟨#[]⟩, .slice none 0 0] 24)).heap.size = w.heap.size + 1 := by simp
  rw [hs1] at hx hsz
  refine ⟨?_, ?_, ?_, ?_, by simp, ?_, ?_, ?_, ?_, ?_, ?_⟩
  · exact ((Blk.new w [.int .i64 0, .string ⟨#[]⟩, .slice none 0 0] _).fr hfr (fun h => by have : w.heap.size = g := h; omega)).alloc _
  · exact hT.fr ((Fr.refl Nob w1).alloc _) (fun h => h)
  · exact OwnT.lit hsz hx.bound
  · exact (((Fr.refl (One g) w).alloc _).same hfr).alloc _
  · intro y hy
    have hyx : y = x := by simpa using hy
    rw [hyx]
    exact hgood
  · simpa using hlen
  · intro y hy
    have hyx : y = x := by simpa using hy
    rw [hyx]
    exact hlen2
  · have := flatK_one_le kind x
    have h3 : max 1 x.l.length + r.length ≤ r0.length + (if b then 1 else 0) := by omega
    omega
  · intro hb
    unfold someF
    rw [h1 hb]
  · intro hb
    refine ⟨r0.length, by rw [hb] at hlen; simp at hlen; omega, ?_⟩
    conv => rhs; unfold someF
    rw [h2 hb]
    rfl
/-- Behind a further call. -/
theorem RefI.next {kind : Int} {F : List UInt8 → Res} {G : List UInt8 → Bool × List UInt8} {res : Res} {g : Nat} {s : ByteArray} {w wr wa w1 w2 : World} {n0 : Nat} {l : List Tree} {r r2 q : List UInt8} {b : Bool} {v v2 : Value} {x : Tree} {c0 c1 c2 : Value} (h : RefI kind F G res g s w n0 l r false v wr) (hgw : g < w.heap.size)
    (hG : G r = (true, r2)) (hG2 : r2.length ≤ r.length) (hfa : Fr (One g) wr wa) (hfr : Fr (One g) wa w1) (hT : TxR w1 g s q b) (hx : ERep (fun k => k < wa.heap.size) w1 x [c0, c1, c2]) (hgood : x.k = 2 ∨ x.k = 3 → x.l ≠ [])
    (hlen : 1 + q.length ≤ r2.length + (if b then 1 else 0)) (hlen2 : x.l.length + q.length ≤ r2.length + (if b then 1 else 0)) (h1 : b = true → F r2 = .err q) (h2 : b = false → F r2 = .ok x q) {css0 : List Value}
    (hrep : EReps (fun k => k < w.heap.size + 1 ∨ some k = v.ownBlock) w1 l css0)
    (hown2 : w2.ownsRow (w.heap.size + 1) 24 3 v2 (l.length + 1) (css0 ++ [c0, c1, c2])) (hgr2 : (w1.alloc (.cells #[c0, c1, c2] 24)).grownBy w2 v.ownBlock) (hat2 : v2.ownBlock = v.ownBlock ∨ v2.ownBlock = some (w1.alloc (.cells #[c0, c1, c2] 24)).heap.size)
    (hol : ∀ k, v.ownBlock = some k → w.heap.size + 1 ≤ k ∧ k < wr.heap.size) : RefI kind F G res g s w n0 (l ++ [x]) q b v2 w2 := by
  have hsa := hfa.size
  have hs1 := hfr.size
  have hol1 : ∀ k, k < w.heap.size + 1 → ¬ (some k = v.ownBlock) := fun k hk he => by have := (hol k he.symm).1; omega
  have fa : Fr Nob w1 (w1.alloc (.cells #[c0, c1, c2] 24)) := (Fr.refl _ _).alloc _
  have fg := Fr.of_grown hgr2
  have hlt := h.out.lt
  refine ⟨?_, ?_, ?_, ?_, by simp, ?_, ?_, ?_, ?_, ?_, ?_⟩
  · exact ((((h.out.fr hfa (fun h => by have : w.heap.size = g := h; omega)).fr hfr (fun h => by have : w.heap.size = g := h; omega)).fr fa (fun h => h)).fr fg (hol1 _ (by omega)))
  · exact (hT.fr fa (fun h => h)).fr fg (hol1 _ (by omega))
  · refine OwnT.appended (EReps.fr fa (fun k _ hk => hk.elim) _ _ hrep) (EReps.one (ERep.mono (fun k hk => ?_) _ _ (hx.fr0 fa.any))) hown2 hgr2 hat2
    rcases hk with hk | hk
    · omega
    · have := (hol k hk.symm).2; omega
  · exact (((h.fr.same hfa).same hfr).none fa).trans fg (fun k hk he => by have := (hol k he.symm).1; omega)
  · intro y hy
    rcases List.mem_append.1 hy with hy | hy
    · exact h.goods y hy
    · have hyx : y = x := by simpa using hy
      rw [hyx]
      exact hgood
  · have := h.few
    simp only [List.length_append, List.length_singleton]
    simp at this
    omega
  · intro y hy
    rcases List.mem_append.1 hy with hy | hy
    · have := h.parts y hy
      simp at this
      omega
    · have hyx : y = x := by simpa using hy
      rw [hyx]
      have := h.few
      simp at this
      omega
  · have h3 := h.few2
    rw [flatK_snoc, List.length_append]
    simp at h3
    split
    · omega
    · simp only [List.length_singleton]; omega
  · intro hb
    obtain ⟨m, hm, hq⟩ := h.run2 rfl
    rw [hG] at hq
    cases m with
    | zero => omega
    | succ m =>
      rw [← hq]
      show someF kind F G (m + 1) l r2 = _
      unfold someF
      rw [h1 hb]
      try rfl
  · intro hb
    obtain ⟨m, hm, hq⟩ := h.run2 rfl
    rw [hG] at hq
    cases m with
    | zero => omega
    | succ m =>
      refine ⟨m, by rw [hb] at hlen; simp at hlen; omega, ?_⟩
      rw [← hq]
      show _ = someF kind F G (m + 1) l r2
      conv => rhs; unfold someF
      rw [h2 hb]
      rfl
theorem joinK_parts {kind : Int} (hk : kind = 2 ∨ kind = 3) {l : List Tree} (hne : l ≠ []) (hg : ∀ x ∈ l, x.k = 2 ∨ x.k = 3 → x.l ≠ []) : (joinK kind l).k = 2 ∨ (joinK kind l).k = 3 → (joinK kind l).l ≠ [] := by
  match l, hne, hg with
  | [x], _, hg => exact hg x (List.mem_singleton.2 rfl)
  | x :: y :: l, _, hg =>
    intro _
    show flatK kind (x :: y :: l) ≠ []
    have e : flatK kind (x :: y :: l) = (if x.k = kind then x.l else [x]) ++ flatK kind (y :: l) := by simp [flatK]
    rw [e]
    intro h
    have h1 := (List.append_eq_nil_iff.1 h).1
    split at h1
    · rename_i hx
      exact hg x (List.mem_cons_self ..) (by rw [hx]; exact hk) h1
    · cases h1
theorem RefI.len {kind : Int} {F : List UInt8 → Res} {G : List UInt8 → Bool × List UInt8} {res : Res} {g : Nat} {s : ByteArray} {w wr : World} {n0 : Nat} {l : List Tree} {r : List UInt8} {b : Bool} {v : Value} (h : RefI kind F G res g s w n0 l r b v wr) : (joinK kind l).l.length + r.length ≤ n0 + (if b then 1 else 0) := by
  match l, h.ne, h.parts, h.few2 with
  | [x], _, hp, _ => exact hp x (List.mem_singleton.2 rfl)
  | x :: y :: l, _, _, hf => exact hf
/-- Behind the loop: 'join'. -/
theorem RefI.join {kind : Int} (hk : kind = 2 ∨ kind = 3) {F : List UInt8 → Res} {G : List UInt8 → Bool × List UInt8} {res : Res} {g : Nat} {s : ByteArray} {w wr wj : World} {n0 : Nat} {l : List Tree} {r : List UInt8} {b : Bool} {A : Option Addr} {c : Nat} (h : RefI kind F G res g s w n0 l r b (.slice A l.length c) wr) (hgw : g < w.heap.size) (hn0 : n0 ≤ 200) (hf : Fr (One g) wr wj) :
    Calls Tryd.prog 37 #[.int .i64 kind, .slice A l.length c] wj fun e w' => ∃ (kk : Int) (nn : ByteArray) (A3 : Option Addr) (m3 c3 : Nat), e = .returned (.agg #[.int .i64 kk, .string nn, .slice A3 m3 c3]) ∧ ERep (fun k => k < w.heap.size + 1) w' (joinK kind l) [.int .i64 kk, .string nn, .slice A3 m3 c3] ∧ Fr Nob wj w' := by
  have hol := own_base (h.own.choose_spec.1)
  obtain ⟨css, ho, hE⟩ := h.own
  have ho2 := own_fr ho hf (fun k hk h => by have := (hol k hk).1; have : k = g := h; omega)
  obtain ⟨A', c', e, hc, hR⟩ := Rd.of_own (M := Nob) ho2 (fun k _ h => h)
  simp only [Value.slice.injEq, true_and] at e
  obtain ⟨rfl, rfl⟩ := e
  have hE2 : EReps (fun k => k < w.heap.size + 1) wj l css := EReps.mono (fun k hk => .inl hk) _ _ (EReps.fr hf (fun k _ hk => by have : k = g := hk; exact .inl (by omega)) _ _ hE)
  have hlt := h.out.lt
  have hs := hf.size
  have hfew := h.few
  have hfew2 := h.few2
  refine (join_any kind l A c css _ wj (fun k hk => by have : k < w.heap.size + 1 := hk; omega) hR hE2 h.ne (fun i => ?_) (by split at hfew <;> omega) (fun x hx hxk => h.goods x hx (by rw [hxk]; exact hk))).mono ?_
  · have := flatK_take_le kind l i
    split at hfew2 <;> omega
  · rintro e w' ⟨⟨cs, rfl, hx⟩, hF⟩
    obtain ⟨A3, c3, css3, rfl, _, _, _⟩ := hx.open_
    exact ⟨_, _, _, _, _, rfl, hx, hF⟩
/-- What is handed back. -/
theorem RefI.done {kind : Int} (hk : kind = 2 ∨ kind = 3) {F : List UInt8 → Res} {G : List UInt8 → Bool × List UInt8} {res : Res} {g : Nat} {s : ByteArray} {w wr wj W : World} {n0 : Nat} {l : List Tree} {r q : List UInt8} {b : Bool} {v : Value} {c0 c1 c2 : Value} (h : RefI kind F G res g s w n0 l r b v wr) (hgw : g < w.heap.size)
    (hf : Fr (One g) wr wj) (hT : TxR wj g s q b) (hF : Fr Nob wj W) (hx : ERep (fun k => k < w.heap.size + 1) W (joinK kind l) [c0, c1, c2]) (hb : b = true → q = r) (hb2 : b = false → res = .ok (joinK kind l) q) :
    OutR g s w (n0 + 1) n0 res (.returned (.agg #[c0, c1, c2])) (((W.setCell ⟨w.heap.size, 0, none⟩ c0).setCell ⟨w.heap.size, 1, none⟩ c1).setCell ⟨w.heap.size, 2, none⟩ c2) ∧ Blk (((W.setCell ⟨w.heap.size, 0, none⟩ c0).setCell ⟨w.heap.size, 1, none⟩ c1).setCell ⟨w.heap.size, 2, none⟩ c2) w.heap.size [c0, c1, c2] 24 := by
  have f3 := fr_store3 W w.heap.size c0 c1 c2
  have e1 := ERep.mono (M' := fun k => k < w.heap.size) (fun k hk => by have : k < w.heap.size := hk; show k < w.heap.size + 1; omega) _ _ (ERep.fr f3 (fun k _ hk => by have : k = w.heap.size := hk; show k < w.heap.size + 1; omega) _ _ hx)
  have e2 := (hT.fr hF (fun h => h)).fr f3 (fun h => by have : g = w.heap.size := h; omega)
  have e3 := ((h.fr.same hf).none hF).trans f3 (fun k hk h => by have : k = w.heap.size := h; omega)
  refine ⟨?_, ?_⟩
  · cases b with
    | true =>
      rw [h.run rfl]
      have hqr := hb rfl
      subst hqr
      exact ⟨joinK kind l, [c0, c1, c2], rfl, e1, e2, e3, by have := h.len; simpa using this, joinK_parts hk h.ne h.goods, by have := h.few; have := List.length_pos_iff.2 h.ne; simp at *; omega⟩
    | false =>
      rw [hb2 rfl]
      exact ⟨[c0, c1, c2], rfl, e1, e2, e3⟩
  · exact ((((h.out.fr hf (fun h => by have : w.heap.size = g := h; omega)).fr hF (fun h => h)).set 0 c0).set 1 c1).set 2 c2
set_option maxRecDepth 100000 in
set_option maxHeartbeats 4000000 in
theorem seq_any (C : List UInt8 → Res) (hG : GoodA (partF C)) (g : Nat) (s : ByteArray) (hs : s.size ≤ 200) (r0 : List UInt8) (w : World) (hT : TxR w g s r0 false)
    (H1 : ∀ w r, r.length ≤ r0.length → TxR w g s r false → Calls Tryd.prog 47 #[.pointer (some ⟨g, 0, none⟩)] w (OutR g s w r.length r.length (partF C r))) :
    Calls Tryd.prog 36 #[.pointer (some ⟨g, 0, none⟩)] w (OutR g s w (r0.length + 1) r0.length (rowF C r0)) := by
  have hgw := hT.1.lt
  have HN0 := Lib.hid (Nat.le_trans hT.2.1 hs)
  have HT := Lib.hid hT
  have K1 := Lib.hid H1
  have HG := Lib.hid hG
  clear hT H1 hG
  go_enter Tryd.func36, Tryd.ntmps36
  go_wp2_with fail
  refine (K1.out _ r0 (Nat.le_refl _) (HT.out.fr ((Fr.refl Nob w).alloc _) (fun h => h))).mono ?_
  rintro e w1 hO
  obtain ⟨i0, hi, hz0, hz1, hz2⟩ := info_parts infoE
  have hfirst : ∃ x A c r b, e = .returned (.agg #[.int .i64 x.k, .string x.name, .slice A x.l.length c]) ∧
      RefI 2 (partF C) moreR (someF 2 (partF C) moreR (r0.length + 1) [] r0) g s w r0.length [x] r b (.slice (some ⟨w1.heap.size, 0, none⟩) 1 1) (w1.alloc (.cells #[.int .i64 x.k, .string x.name, .slice A x.l.length c] 24)) := by
    cases hP : partF C r0 with
    | err r1 =>
      rw [hP] at hO
      obtain ⟨x, cs, rfl, hx, hTx, hfr, hb1, hb2, hb3⟩ := hO
      obtain ⟨A, c, css, rfl, hc, hR, hE⟩ := hx.open_
      exact ⟨x, A, c, r1, true, rfl, RefI.first hgw hfr hTx hx hb2 (by simp; omega) (by simp; omega) (fun _ => hP) (fun h => by cases h)⟩
    | ok x r1 =>
      rw [hP] at hO
      obtain ⟨cs, rfl, hx, hTx, hfr⟩ := hO
      obtain ⟨A, c, css, rfl, hc, hR, hE⟩ := hx.open_
      obtain ⟨a1, a2, a3⟩ := HG.out r0 x r1 hP
      exact ⟨x, A, c, r1, false, rfl, RefI.first hgw hfr hTx hx a3 (by simp; omega) (by simp; omega) (fun h => by cases h) (fun _ => hP)⟩
  obtain ⟨x, A, c, r, b, rfl, hI⟩ := hfirst
  clear hO
  have HI0 := Lib.hid hI
  clear hI
  generalize hw2 : w1.alloc (.cells #[.int .i64 x.k, .string x.name, .slice A x.l.length c] 24) = w2 at HI0
  go_wp2_with fail
  clear hw2
  go_loopg [3] (if b then 0 else r.length + 1) (fun n lv wr => ∃ l r b, n = (if b then 0 else r.length + 1) ∧ Hid (r.length ≤ r0.length) ∧ Hid (RefI 2 (partF C) moreR (rowF C r0) g s w r0.length l r b lv wr))
  case atStart => exact ⟨[x], r, b, rfl, by have := HI0.out.few; simp at this; show r.length ≤ r0.length; split at this <;> omega, HI0.out⟩
  case round =>
    obtain ⟨l, r, b, rfl, HLE, HI⟩ := hrel
    obtain ⟨A2, c2, rfl⟩ := HI.out.own.slice
    have cb := HI.out.text.cb
    cases b with
    | true =>
      go_wp2_with fail
      refine (HI.out.join (.inl rfl) hgw HN0.out (Fr.refl _ _)).mono ?_
      rintro e w4 ⟨kk, nn, A3, m3, c3, rfl, hX, hF4⟩
      have hb4 := HI.out.out.fr hF4 (fun h => h)
      have a0 := hb4.cell 0
      have a1 := hb4.cell 1
      have a2 := hb4.cell 2
      have f0 := hb4.frozen 0
      have f1 := hb4.frozen 1
      have f2 := hb4.frozen 2
      have hl4 := hb4.lt
      simp only [List.getElem?_cons_zero, List.getElem?_cons_succ] at a0 a1 a2
      have hd := HI.out.done (.inl rfl) hgw (Fr.refl _ _) HI.out.text hF4 hX (fun _ => rfl) (fun h => by cases h)
      have HD := Lib.hid hd
      clear hX hF4 hb4 hd
      go_wp2_with fail
      exact ret_tree1 rfl rfl rfl HD.out.2 HD.out.1
    | false =>
      go_wp2_with fail
      refine (peek_any g s (by omega) r false _ HI.out.text).mono ?_
      rintro e w3 ⟨rfl, hT3, hF3⟩
      rw [show peekB false r = nextB r from rfl]
      have hF3' := HI.out.fr.same hF3
      have HT3 := Lib.hid hT3
      have HF3 := Lib.hid hF3
      clear hT3 hF3 hF3'
      cases hmr : moreR r with
      | mk bm r2 =>
      have hr2 : r2 = skipB r := by
        unfold moreR at hmr
        split at hmr
        · rename_i h; injection hmr with h1 h2; rw [h, ← h2]
        · rename_i c t h; injection hmr with h1 h2; rw [h, ← h2]
      subst hr2
      cases bm with
      | false =>
        have hres : rowF C r0 = .ok (joinK 2 l) (skipB r) := by
          obtain ⟨m, _, hq⟩ := HI.out.run2 rfl
          rw [hmr] at hq
          exact hq.symm
        have hstop : nextB r = 0 ∨ nextB r = 124 ∨ nextB r = 41 := by
          unfold moreR at hmr
          split at hmr
          · rename_i h; exact .inl (nextB_nil h)
          · rename_i c t h
            injection hmr with h1 h2
            simp at h1
            by_cases hc : c = 124
            · subst hc; exact .inr (.inl (nextB_eq h (by decide)))
            · have := h1 hc
              subst this
              exact .inr (.inr (nextB_eq h (by decide)))
        have HRES := Lib.hid hres
        clear hres hmr
        rcases hstop with hst | hst | hst
        all_goals
          rw [hst]
          clear hst
          go_wp2_with fail
          refine (HI.out.join (.inl rfl) hgw HN0.out HF3.out).mono ?_
          rintro e w4 ⟨kk, nn, A3, m3, c3, rfl, hX, hF4⟩
          have hb4 := (HI.out.out.fr HF3.out (fun h => by have : w.heap.size = g := h; omega)).fr hF4 (fun h => h)
          have a0 := hb4.cell 0
          have a1 := hb4.cell 1
          have a2 := hb4.cell 2
          have f0 := hb4.frozen 0
          have f1 := hb4.frozen 1
          have f2 := hb4.frozen 2
          have hl4 := hb4.lt
          simp only [List.getElem?_cons_zero, List.getElem?_cons_succ] at a0 a1 a2
          have hd := HI.out.done (.inl rfl) hgw HF3.out HT3.out hF4 hX (fun h => by cases h) (fun _ => HRES.out)
          have HD := Lib.hid hd
          clear hX hF4 hb4 hd
          go_wp2_with fail
          exact ret_tree1 rfl rfl rfl HD.out.2 HD.out.1
      | true =>
        have hgo : (nextB r == 0) = false ∧ (nextB r == 124) = false ∧ (nextB r == 41) = false := by
          unfold moreR at hmr
          split at hmr
          · injection hmr with h1 h2; cases h1
          · rename_i c t h
            injection hmr with h1 h2
            simp at h1
            refine ⟨by simpa using nextB_pos (by rw [h]; simp), ?_, ?_⟩
            · simpa using nextB_ne h 124 (by omega) (fun h => h1.1 (UInt8.toNat_inj.1 (show c.toNat = (124 : UInt8).toNat from h)))
            · simpa using nextB_ne h 41 (by omega) (fun h => h1.2 (UInt8.toNat_inj.1 (show c.toNat = (41 : UInt8).toNat from h)))
        obtain ⟨g0, g1, g2⟩ := hgo
        generalize nextB r = nb at g0 g1 g2
        have HMR := Lib.hid hmr
        clear hmr
        go_wp2_with fail
        have hle2 : (skipB r).length ≤ r0.length := by have := skipB_le r; have := HLE.out; omega
        refine (K1.out w3 (skipB r) hle2 HT3.out).mono ?_
        rintro e w4 hO
        obtain ⟨css0, hown, hrep⟩ := HI.out.own
        have hol := own_base hown
        have hnx : ∃ y A4 c4 q b2, e = .returned (.agg #[.int .i64 y.k, .string y.name, .slice A4 y.l.length c4]) ∧ Fr (One g) w3 w4 ∧ TxR w4 g s q b2 ∧ ERep (fun k => k < w3.heap.size) w4 y [.int .i64 y.k, .string y.name, .slice A4 y.l.length c4] ∧ (y.k = 2 ∨ y.k = 3 → y.l ≠ []) ∧
            1 + q.length ≤ (skipB r).length + (if b2 then 1 else 0) ∧ y.l.length + q.length ≤ (skipB r).length + (if b2 then 1 else 0) ∧ (b2 = true → partF C (skipB r) = .err q) ∧ (b2 = false → partF C (skipB r) = .ok y q) := by
          cases hP : partF C (skipB r) with
          | err q =>
            rw [hP] at hO
            obtain ⟨y, cs, rfl, hx, hTx, hfr, hb1, hb2, hb3⟩ := hO
            obtain ⟨A4, c4, css4, rfl, _, _, _⟩ := hx.open_
            exact ⟨y, A4, c4, q, true, rfl, hfr, hTx, hx, hb2, by simp; omega, by simp; omega, fun _ => rfl, fun h => by cases h⟩
          | ok y q =>
            rw [hP] at hO
            obtain ⟨cs, rfl, hx, hTx, hfr⟩ := hO
            obtain ⟨A4, c4, css4, rfl, _, _, _⟩ := hx.open_
            obtain ⟨a1, a2, a3⟩ := HG.out (skipB r) y q hP
            exact ⟨y, A4, c4, q, false, rfl, hfr, hTx, hx, a3, by simp; omega, by simp; omega, fun h => (by cases h), fun _ => rfl⟩
        obtain ⟨y, A4, c4, q, b2, rfl, hfr, hTx, hY, hyg, l1, l2, p1, p2⟩ := hnx
        clear hO
        have hf34 := HF3.out.same hfr
        have hown4 := own_fr hown hf34 (fun k hk h => by have := (hol k hk).1; have : k = g := h; omega)
        have hrep4 := EReps.fr hf34 (M := fun k => k < w.heap.size + 1 ∨ some k = (Value.slice A2 l.length c2).ownBlock) (fun k _ hk => by have : k = g := hk; exact .inl (by omega)) _ _ hrep
        have hfew := HI.out.few
        simp only [Bool.false_eq_true, if_false] at hfew
        have hn0 := HN0.out
        have HOL := Lib.hid hol
        have HREP := Lib.hid hrep4
        have HNX := Lib.hid (And.intro hfr (And.intro hTx (And.intro hY (And.intro hyg (And.intro l1 (And.intro l2 (And.intro p1 p2)))))))
        clear hol hrep hrep4 hfr hTx hY hyg p1 p2 hf34 hown hle2
        go_wp2_with (at_builtin; refine wpList_append_own_at _ rfl _ _ 22 rfl (w.heap.size + 1) 24 i0 _ 3 48 Tryd.underlying22 hi hz0 hz1 hz2 rfl (by decide) (.slice A2 l.length c2) l.length css0 rfl (hown4.alloc _) ⟨w4.heap.size, 0, none⟩ 1 1 [.int .i64 y.k, .string y.name, .slice A4 y.l.length c4] rfl ?c1 ?c2 ?c3 ?c4 ?c5 ?c6 ?_)
        case c1 => rfl
        case c2 =>
          intro j u hj
          have hb := ((Blk.new_at w4 [.int .i64 y.k, .string y.name, .slice A4 y.l.length c4] 24 w4.heap.size rfl).cell j).trans hj
          rw [add_lit]
          exact hb
        case c3 => simp [Value.oneCell']
        case c4 => unfold maxLen; omega
        case c5 => omega
        case c6 => have h1 := HF3.out.size; have h2 := HNX.out.1.size; have := HI.out.out.lt; simp; omega
        intro v2 w5 hown2 hgr2 _ hat2
        have hnext := HI.out.next hgw HMR.out (skipB_le r) HF3.out HNX.out.1 HNX.out.2.1 HNX.out.2.2.1 HNX.out.2.2.2.1 HNX.out.2.2.2.2.1 HNX.out.2.2.2.2.2.1 HNX.out.2.2.2.2.2.2.1 HNX.out.2.2.2.2.2.2.2 HREP.out hown2 hgr2 (by simpa using hat2) HOL.out
        have HNXT := Lib.hid hnext
        clear hnext hown2 hgr2 hat2 hown4
        go_wp2_with fail
        go_roundg (if b2 then 0 else q.length + 1)
        case measure =>
          have := skipB_le r
          cases b2
          · simp only [Bool.false_eq_true, if_false] at l1 ⊢; omega
          · show 0 < r.length + 1; omega
        case rel =>
          refine ⟨l ++ [y], q, b2, rfl, ?_, HNXT.out⟩
          show q.length ≤ r0.length
          have h1 := skipB_le r
          have h2 := HLE.out
          split at l1 <;> omega
end Go.Proofs.YtgmjgflifgjpmaaDoor
