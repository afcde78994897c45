/- 'row' and 'choice', one within the other: by induction on how deep brackets may stand. -/
import Derived.Test.YtgmjgflifgjpmaaDoorExprPart
import Derived.Test.YtgmjgflifgjpmaaDoorExprSomeR
namespace Go.Proofs.YtgmjgflifgjpmaaDoor
open Go.RowKit

set_option maxRecDepth 100000 in
set_option maxHeartbeats 4000000 in
theorem row_any (C : List UInt8 → Res) (N : Nat) (g : Nat) (s : ByteArray) (hs : s.size ≤ 200) (hG : Good 2 (partF C)) (r0 : List UInt8) (hN : r0.length ≤ N) (w : World) (hT : Tx w g s r0)
    (H1 : ∀ w r, r.length < N → Tx w g s r → Calls Tryd.prog 30 #[.pointer (some ⟨g, 0, none⟩)] w (Out g s w (C r))) :
    Calls Tryd.prog 41 #[.pointer (some ⟨g, 0, none⟩)] w (Out g s w (rowF C r0)) := by
  have hgw := hT.1.lt
  have HT := Lib.hid hT
  have K1 := Lib.hid H1
  have HG := Lib.hid hG
  clear hT H1 hG
  go_enter Tryd.func41, Tryd.ntmps41
  go_wp2_with fail
  have hFa := ((Fr.refl (One g) w).alloc (Obj.cells #[.pointer (some ⟨g, 0, none⟩)] 44)).alloc (Obj.cells #[.int .i64 0, .string ⟨#[]⟩, .slice none 0 0] 24)
  have hBa := (Blk.new w [.pointer (some ⟨g, 0, none⟩)] 44).alloc (Obj.cells #[.int .i64 0, .string ⟨#[]⟩, .slice none 0 0] 24)
  have hBb := Blk.new_at (w.alloc (Obj.cells #[.pointer (some ⟨g, 0, none⟩)] 44)) [.int .i64 0, .string ⟨#[]⟩, .slice none 0 0] 24 (w.heap.size + 1) (by simp)
  have hsa : ((w.alloc (Obj.cells #[.pointer (some ⟨g, 0, none⟩)] 44)).alloc (Obj.cells #[.int .i64 0, .string ⟨#[]⟩, .slice none 0 0] 24)).heap.size = w.heap.size + 2 := by simp
  have hTa := HT.out.fr (((Fr.refl Nob w).alloc (Obj.cells #[.pointer (some ⟨g, 0, none⟩)] 44)).alloc (Obj.cells #[.int .i64 0, .string ⟨#[]⟩, .slice none 0 0] 24)) (fun h => h)
  have HFa := Lib.hid hFa
  have HBb := Lib.hid hBb
  have HSa := Lib.hid hsa
  have hne : g ≠ w.heap.size := by omega
  have L1 : ∀ w r, r.length ≤ r0.length → Tx w g s r → Calls Tryd.prog 51 #[.pointer (some ⟨g, 0, none⟩)] w (Out g s w (partF C r)) := fun w r hr ht => part_any C N g s hs r (Nat.le_trans hr hN) w ht K1.out
  have L2 : ∀ W r, Tx W g s r → Blk W w.heap.size [.pointer (some ⟨g, 0, none⟩)] 44 → Calls Tryd.prog 52 #[.pointer (some ⟨w.heap.size, 0, none⟩)] W fun e w' => e = .returned (.bool (moreR r).1) ∧ Tx w' g s (moreR r).2 ∧ Fr (One g) W w' := fun W r ht hb => row1_any g w.heap.size s (Nat.le_trans hs (by decide)) r W ht hb
  have KS := some_r (partF C) g w.heap.size s hs HG.out r0 _ hTa hBa hne L1 L2
  rw [show someF 2 (partF C) moreR (r0.length + 1) [] r0 = rowF C r0 from rfl] at KS
  refine KS.mono ?_
  clear KS L1 L2 hne
  clear hFa hBa hBb hsa hTa
  rintro e w1 hO
  cases hA : rowF C r0 with
  | err r1 =>
    rw [hA] at hO
    obtain ⟨x, cs, bf, rfl, hx, hbf, hbl, hfr⟩ := hO
    obtain ⟨A, c, css, rfl, hc, hR, hE⟩ := hx.open_
    have hb := HBb.out.fr hfr (fun h => by have : w.heap.size + 1 = g := h; omega)
    have d0 := hb.cell 0
    have d1 := hb.cell 1
    have d2 := hb.cell 2
    have g0 := hb.frozen 0
    have g1 := hb.frozen 1
    have g2 := hb.frozen 2
    have hl1 := hb.lt
    simp only [List.getElem?_cons_zero, List.getElem?_cons_succ] at d0 d1 d2
    have HX := Lib.hid hx
    have HBf := Lib.hid hbf
    have HFR := Lib.hid hfr
    have HB3 := Lib.hid hb
    have HA := Lib.hid hA
    clear hx hR hE hbf hfr hb hA
    go_wp2_with fail
    rw [HA.out]
    have hsa := HSa.out
    refine ret_tree (ev := .iface 51 (.pointer (some ⟨bf, 0, none⟩))) rfl rfl rfl rfl (((HB3.out.set 0 _).set 1 _).set 2 _) ⟨x, _, bf, rfl, ?_, ?_, ?_, ?_⟩
    · exact ERep.mono (fun k hk => by omega) _ _ (ERep.fr (fr_store3 w1 (w.heap.size + 1) _ _ _) (fun k _ hk => by have : k = w.heap.size + 1 := hk; omega) _ _ HX.out)
    · exact HBf.out.fr (fr_store3 w1 (w.heap.size + 1) _ _ _) (fun h => by have : bf = w.heap.size + 1 := h; omega)
    · omega
    · exact (HFa.out.same HFR.out).trans (fr_store3 w1 (w.heap.size + 1) _ _ _) (fun k hk h => by have : k = w.heap.size + 1 := h; omega)
  | ok x r1 =>
    rw [hA] at hO
    obtain ⟨cs, rfl, hx, hTx, hfr⟩ := hO
    obtain ⟨A, c, css, rfl, hc, hR, hE⟩ := hx.open_
    have hb := HBb.out.fr hfr (fun h => by have : w.heap.size + 1 = g := h; omega)
    have d0 := hb.cell 0
    have d1 := hb.cell 1
    have d2 := hb.cell 2
    have g0 := hb.frozen 0
    have g1 := hb.frozen 1
    have g2 := hb.frozen 2
    have hl1 := hb.lt
    simp only [List.getElem?_cons_zero, List.getElem?_cons_succ] at d0 d1 d2
    have HX := Lib.hid hx
    have HTx := Lib.hid hTx
    have HFR := Lib.hid hfr
    have HB3 := Lib.hid hb
    have HA := Lib.hid hA
    clear hx hR hE hTx hfr hb hA
    go_wp2_with fail
    rw [HA.out]
    have hsa := HSa.out
    refine ret_tree (ev := .nilIface) rfl rfl rfl rfl (((HB3.out.set 0 _).set 1 _).set 2 _) ⟨_, rfl, ?_, ?_, ?_⟩
    · exact ERep.mono (fun k hk => by omega) _ _ (ERep.fr (fr_store3 w1 (w.heap.size + 1) _ _ _) (fun k _ hk => by have : k = w.heap.size + 1 := hk; omega) _ _ HX.out)
    · exact HTx.out.fr (fr_store3 w1 (w.heap.size + 1) _ _ _) (fun h => by have : g = w.heap.size + 1 := h; omega)
    · exact (HFa.out.same HFR.out).trans (fr_store3 w1 (w.heap.size + 1) _ _ _) (fun k hk h => by have : k = w.heap.size + 1 := h; omega)
set_option maxRecDepth 100000 in
set_option maxHeartbeats 4000000 in
theorem choice_step (n : Nat) (g : Nat) (s : ByteArray) (hs : s.size ≤ 200) (hG : Good 3 (rowF (choiceF n))) (r0 : List UInt8) (hN : r0.length ≤ n) (w : World) (hT : Tx w g s r0)
    (H1 : ∀ w r, r.length ≤ n → Tx w g s r → Calls Tryd.prog 41 #[.pointer (some ⟨g, 0, none⟩)] w (Out g s w (rowF (choiceF n) r))) :
    Calls Tryd.prog 30 #[.pointer (some ⟨g, 0, none⟩)] w (Out g s w (choiceF (n + 1) r0)) := by
  have hgw := hT.1.lt
  have HT := Lib.hid hT
  have K1 := Lib.hid H1
  have HG := Lib.hid hG
  clear hT H1 hG
  go_enter Tryd.func30, Tryd.ntmps30
  go_wp2_with fail
  have hFa := ((Fr.refl (One g) w).alloc (Obj.cells #[.pointer (some ⟨g, 0, none⟩)] 44)).alloc (Obj.cells #[.int .i64 0, .string ⟨#[]⟩, .slice none 0 0] 24)
  have hBa := (Blk.new w [.pointer (some ⟨g, 0, none⟩)] 44).alloc (Obj.cells #[.int .i64 0, .string ⟨#[]⟩, .slice none 0 0] 24)
  have hBb := Blk.new_at (w.alloc (Obj.cells #[.pointer (some ⟨g, 0, none⟩)] 44)) [.int .i64 0, .string ⟨#[]⟩, .slice none 0 0] 24 (w.heap.size + 1) (by simp)
  have hsa : ((w.alloc (Obj.cells #[.pointer (some ⟨g, 0, none⟩)] 44)).alloc (Obj.cells #[.int .i64 0, .string ⟨#[]⟩, .slice none 0 0] 24)).heap.size = w.heap.size + 2 := by simp
  have hTa := HT.out.fr (((Fr.refl Nob w).alloc (Obj.cells #[.pointer (some ⟨g, 0, none⟩)] 44)).alloc (Obj.cells #[.int .i64 0, .string ⟨#[]⟩, .slice none 0 0] 24)) (fun h => h)
  have HFa := Lib.hid hFa
  have HBb := Lib.hid hBb
  have HSa := Lib.hid hsa
  have hne : g ≠ w.heap.size := by omega
  have L1 : ∀ w r, r.length ≤ r0.length → Tx w g s r → Calls Tryd.prog 41 #[.pointer (some ⟨g, 0, none⟩)] w (Out g s w (rowF (choiceF n) r)) := fun w r hr ht => K1.out w r (Nat.le_trans hr hN) ht
  have L2 : ∀ W r, Tx W g s r → Blk W w.heap.size [.pointer (some ⟨g, 0, none⟩)] 44 → Calls Tryd.prog 43 #[.pointer (some ⟨w.heap.size, 0, none⟩)] W fun e w' => e = .returned (.bool (moreC r).1) ∧ Tx w' g s (moreC r).2 ∧ Fr (One g) W w' := fun W r ht hb => choice1_any g w.heap.size s (Nat.le_trans hs (by decide)) r W ht hb hne
  have KS := some_c (rowF (choiceF n)) g w.heap.size s hs HG.out r0 _ hTa hBa hne L1 L2
  rw [show someF 3 (rowF (choiceF n)) moreC (r0.length + 1) [] r0 = choiceF (n + 1) r0 from rfl] at KS
  refine KS.mono ?_
  clear KS L1 L2 hne
  clear hFa hBa hBb hsa hTa
  rintro e w1 hO
  cases hA : choiceF (n + 1) r0 with
  | err r1 =>
    rw [hA] at hO
    obtain ⟨x, cs, bf, rfl, hx, hbf, hbl, hfr⟩ := hO
    obtain ⟨A, c, css, rfl, hc, hR, hE⟩ := hx.open_
    have hb := HBb.out.fr hfr (fun h => by have : w.heap.size + 1 = g := h; omega)
    have d0 := hb.cell 0
    have d1 := hb.cell 1
    have d2 := hb.cell 2
    have g0 := hb.frozen 0
    have g1 := hb.frozen 1
    have g2 := hb.frozen 2
    have hl1 := hb.lt
    simp only [List.getElem?_cons_zero, List.getElem?_cons_succ] at d0 d1 d2
    have HX := Lib.hid hx
    have HBf := Lib.hid hbf
    have HFR := Lib.hid hfr
    have HB3 := Lib.hid hb
    have HA := Lib.hid hA
    clear hx hR hE hbf hfr hb hA
    go_wp2_with fail
    rw [HA.out]
    have hsa := HSa.out
    refine ret_tree (ev := .iface 51 (.pointer (some ⟨bf, 0, none⟩))) rfl rfl rfl rfl (((HB3.out.set 0 _).set 1 _).set 2 _) ⟨x, _, bf, rfl, ?_, ?_, ?_, ?_⟩
    · exact ERep.mono (fun k hk => by omega) _ _ (ERep.fr (fr_store3 w1 (w.heap.size + 1) _ _ _) (fun k _ hk => by have : k = w.heap.size + 1 := hk; omega) _ _ HX.out)
    · exact HBf.out.fr (fr_store3 w1 (w.heap.size + 1) _ _ _) (fun h => by have : bf = w.heap.size + 1 := h; omega)
    · omega
    · exact (HFa.out.same HFR.out).trans (fr_store3 w1 (w.heap.size + 1) _ _ _) (fun k hk h => by have : k = w.heap.size + 1 := h; omega)
  | ok x r1 =>
    rw [hA] at hO
    obtain ⟨cs, rfl, hx, hTx, hfr⟩ := hO
    obtain ⟨A, c, css, rfl, hc, hR, hE⟩ := hx.open_
    have hb := HBb.out.fr hfr (fun h => by have : w.heap.size + 1 = g := h; omega)
    have d0 := hb.cell 0
    have d1 := hb.cell 1
    have d2 := hb.cell 2
    have g0 := hb.frozen 0
    have g1 := hb.frozen 1
    have g2 := hb.frozen 2
    have hl1 := hb.lt
    simp only [List.getElem?_cons_zero, List.getElem?_cons_succ] at d0 d1 d2
    have HX := Lib.hid hx
    have HTx := Lib.hid hTx
    have HFR := Lib.hid hfr
    have HB3 := Lib.hid hb
    have HA := Lib.hid hA
    clear hx hR hE hTx hfr hb hA
    go_wp2_with fail
    rw [HA.out]
    have hsa := HSa.out
    refine ret_tree (ev := .nilIface) rfl rfl rfl rfl (((HB3.out.set 0 _).set 1 _).set 2 _) ⟨_, rfl, ?_, ?_, ?_⟩
    · exact ERep.mono (fun k hk => by omega) _ _ (ERep.fr (fr_store3 w1 (w.heap.size + 1) _ _ _) (fun k _ hk => by have : k = w.heap.size + 1 := hk; omega) _ _ HX.out)
    · exact HTx.out.fr (fr_store3 w1 (w.heap.size + 1) _ _ _) (fun h => by have : g = w.heap.size + 1 := h; omega)
    · exact (HFa.out.same HFR.out).trans (fr_store3 w1 (w.heap.size + 1) _ _ _) (fun k hk h => by have : k = w.heap.size + 1 := h; omega)

/-- What is known of the readers as plain functions. -/
def Goods : Prop := ∀ n, Good 2 (partF (choiceF n)) ∧ Good 3 (rowF (choiceF n))
/-- 'choice', however deep brackets stand. -/
theorem choice_any (HG : Goods) (g : Nat) (s : ByteArray) (hs : s.size ≤ 200) : ∀ (n : Nat) (r0 : List UInt8) (w : World), r0.length < n → Tx w g s r0 →
    Calls Tryd.prog 30 #[.pointer (some ⟨g, 0, none⟩)] w (Out g s w (choiceF n r0)) := by
  intro n
  induction n with
  | zero => intro r0 w h; omega
  | succ n ih =>
    intro r0 w h hT
    exact choice_step n g s hs (HG n).2 r0 (Nat.lt_succ_iff.1 h) w hT (fun w r hr ht => row_any (choiceF n) n g s hs (HG n).1 r hr w ht (fun w r hr ht => ih r w hr ht))
end Go.Proofs.YtgmjgflifgjpmaaDoor
