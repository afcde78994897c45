/- ExprSigns. -/
import Derived.Test.YtgmjgflifgjpmaaDoorExprSignsP
namespace Go.Proofs.YtgmjgflifgjpmaaDoor.exprSigns
open Go.RowKit
theorem conv1 (W : World) (b : UInt8) (i : Int) (hi : i = b.toNat) : (convert 33 9 (.slice (some ⟨W.heap.size, 0, none⟩) 1 1)).run Tryd.prog (W.alloc (.cells #[.int .u8 i] 5)) = .ok (.string ⟨#[b]⟩) (W.alloc (.cells #[.int .u8 i] 5)) := by
  subst hi
  exact run_convert_bytes_back _ _ _ 5 ⟨W.heap.size, 0, none⟩ 1 [b] Tryd.underlying33 Tryd.underlying5 Tryd.underlying9 (fun j hj => by
    have : j = 0 := by simpa using hj
    subst this
    simp [Addr.add])
theorem txt_snoc (zs : List Int) (j : Nat) (z : Int) (h : zs[j]? = some z) : txt (zs.take (j + 1)) = txt (zs.take j) ++ ⟨#[gB z]⟩ := by
  obtain ⟨hj, hz⟩ := List.getElem?_eq_some_iff.1 h
  apply bytes_ext
  rw [ByteArray.data_append]
  unfold txt
  rw [List.take_succ_eq_append_getElem hj, hz]
  simp
theorem nest_snoc (zs : List Int) (z : Int) : ∀ e, nest e (zs ++ [z]) = .node (gK z) ⟨#[]⟩ [nest e zs] := by
  induction zs with
  | nil => intro e; rfl
  | cons y zs ih => intro e; exact ih _
set_option maxRecDepth 100000 in
set_option maxHeartbeats 4000000 in
theorem walk (a : Option Addr) (n c : Nat) (zs : List Int) (hn : zs.length = n) (hz : ∀ z ∈ zs, 0 ≤ z ∧ z < 256) (w : World) (hR : Rd Nob w a (zs.map (Value.int .u8))) (hg : HG w) :
    Calls Tryd.prog 4 #[.slice a n c] w fun e w' => e = .returned (.bool true) ∧ Fr Nob w w' := by
  have HGG := Lib.hid hg
  have HR := Lib.hid hR
  have HZ := Lib.hid hz
  clear hg hR hz
  by_cases hlong : n > 58
  · have g1 : ((n : Int) > 58) := by omega
    clear hlong
    go_enter Tryd.func4, Tryd.ntmps4
    go_wp2_with fail
    refine (awake_any _ HGG.out).mono ?_
    rintro e w1 ⟨rfl, hF⟩
    have HF := Lib.hid hF
    clear hF
    go_wp2_with fail
    go_ret
    exact ⟨rfl, HF.out⟩
  · have g1 : ¬ ((n : Int) > 58) := by omega
    go_enter Tryd.func4, Tryd.ntmps4
    go_wp2_with fail
    go_loopg [3, 4] (n) (fun m sv i wr => ∃ j, m = n - j ∧ j ≤ n ∧ i = .int .i64 j ∧ sv = .string (txt (zs.take j)) ∧ Hid (Fr Nob w wr))
    case atStart => exact ⟨0, rfl, Nat.zero_le _, rfl, rfl, Fr.refl _ _⟩
    case round =>
      obtain ⟨j, rfl, hj, rfl, rfl, HF⟩ := hrel
      by_cases hlt : j < n
      · have ht : ((j : Int) < (n : Int)) := by omega
        obtain ⟨z, hzj⟩ : ∃ z, zs[j]? = some z := ⟨zs[j], List.getElem?_eq_getElem (by omega)⟩
        obtain ⟨ad, rfl, hnb, hc⟩ := (HR.out.fr HF.out (fun _ _ h => h)) (by rintro h; have := congrArg List.length h; rw [List.length_map] at this; simp only [List.length_nil] at this; omega)
        have q0 := hc j (.int .u8 z) (by rw [List.getElem?_map, hzj]; rfl)
        have hz := HZ.out z (List.mem_of_getElem? hzj)
        have HZJ := Lib.hid hzj
        have hts : (txt (zs.take j)).size = j + 1 := by simp [txt, ByteArray.size]; omega
        clear hc hzj hnb
        have h3 : z % 3 = 0 ∨ z % 3 = 1 ∨ z % 3 = 2 := by omega
        rcases h3 with h3 | h3 | h3
        · have hcv := conv1 wr 42 42 (by decide)
          have hb : ∀ h, (((⟨#[42, 43, 63]⟩ : ByteArray)[0]'h).toNat : Int) = 42 := fun _ => rfl
          have HG3 := Lib.hid (show gB z = 42 by unfold gB; simp [h3])
          go_wp2_with fail
          go_roundg (n - (j + 1))
          case measure => omega
          case rel =>
            refine ⟨j + 1, rfl, hlt, ?_, ?_, HF.out.alloc _⟩
            · rfl
            · rw [txt_snoc zs j z HZJ.out, HG3.out]
        · have hcv := conv1 wr 43 43 (by decide)
          have hb : ∀ h, (((⟨#[42, 43, 63]⟩ : ByteArray)[1]'h).toNat : Int) = 43 := fun _ => rfl
          have HG3 := Lib.hid (show gB z = 43 by unfold gB; simp [h3])
          go_wp2_with fail
          go_roundg (n - (j + 1))
          case measure => omega
          case rel =>
            refine ⟨j + 1, rfl, hlt, ?_, ?_, HF.out.alloc _⟩
            · rfl
            · rw [txt_snoc zs j z HZJ.out, HG3.out]
        · have hcv := conv1 wr 63 63 (by decide)
          have hb : ∀ h, (((⟨#[42, 43, 63]⟩ : ByteArray)[2]'h).toNat : Int) = 63 := fun _ => rfl
          have HG3 := Lib.hid (show gB z = 63 by unfold gB; simp [h3])
          go_wp2_with fail
          go_roundg (n - (j + 1))
          case measure => omega
          case rel =>
            refine ⟨j + 1, rfl, hlt, ?_, ?_, HF.out.alloc _⟩
            · rfl
            · rw [txt_snoc zs j z HZJ.out, HG3.out]
      · have hjn : j = n := by omega
        subst hjn
        rw [List.take_of_length_le (by omega)]
        have ht : ¬ ((j : Int) < (j : Int)) := by omega
        have HJ := Lib.hid hn
        clear hn hj hlt
        go_wp2_with fail
        refine (parse_any _ _ (HGG.out.fr HF.out (fun h => h))).mono ?_
        rintro e w1 ⟨⟨cs, rfl, hx⟩, hF1⟩
        rw [parse_txt zs (by have := HJ.out; omega)] at hx ⊢
        obtain ⟨A, c0, css, rfl, hc, hR, hE⟩ := hx.open_
        have hx2 := ERep.mono (M' := fun k => w1.heap.size ≤ k) (fun k hk => .inr hk) _ _ hx.bound
        have HX := Lib.hid hx2
        have HF1 := Lib.hid (HF.out.same hF1)
        have hbe := Blk.new w1 [.int .i64 (nest nameA zs).k, .string (nest nameA zs).name, .slice A (nest nameA zs).l.length c0] 24
        have HBE := Lib.hid hbe
        clear hx hx2 hc hR hE hF1 hbe
        go_wp2_with fail
        go_loopg [8] (j) (fun m i wx => ∃ k A c, m = k ∧ k ≤ j ∧ i = .int .i64 ((k : Int) - 1) ∧ Hid (Blk wx w1.heap.size [.int .i64 (nest nameA (zs.take k)).k, .string (nest nameA (zs.take k)).name, .slice A (nest nameA (zs.take k)).l.length c] 24) ∧
          Hid (ERep (fun b => w1.heap.size ≤ b) wx (nest nameA (zs.take k)) [.int .i64 (nest nameA (zs.take k)).k, .string (nest nameA (zs.take k)).name, .slice A (nest nameA (zs.take k)).l.length c]) ∧ Hid (Fr Nob w wx))
        case atStart =>
          refine ⟨j, A, c0, rfl, Nat.le_refl _, rfl, ?_, ?_, HF1.out.alloc _⟩
          · rw [List.take_of_length_le (by have := HJ.out; omega)]
            exact HBE.out
          · rw [List.take_of_length_le (by have := HJ.out; omega)]
            exact ERep.fr0 HX.out ((Fr.refl _ _).alloc _)
        case round =>
          obtain ⟨k, A2, c2, rfl, hk, rfl, HB, HX2, HF2⟩ := hrel
          cases gk with
          | zero =>
            rw [show nest nameA (zs.take 0) = nameA from rfl] at HB HX2
            have ht2 : ¬ ((((0 : Nat) : Int) - 1) ≥ 0) := by omega
            have d0 := HB.out.cell 0
            have d1 := HB.out.cell 1
            simp only [List.getElem?_cons_zero, List.getElem?_cons_succ] at d0 d1
            have hl := HB.out.lt
            have d0' : _ = some (Value.int .i64 1) := d0
            have d1' : _ = some (Value.string ⟨#[97]⟩) := d1
            clear d0 d1
            go_wp2_with fail
            refine (awake_any _ (HGG.out.fr HF2.out (fun h => h))).mono ?_
            rintro e w3 ⟨rfl, hF3⟩
            have HF3 := Lib.hid hF3
            clear hF3
            go_wp2_with fail
            go_ret
            exact ⟨rfl, HF2.out.same HF3.out⟩
          | succ k =>
            obtain ⟨z, hzj⟩ : ∃ z, zs[k]? = some z := ⟨zs[k]'(by have := HJ.out; omega), List.getElem?_eq_getElem (by have := HJ.out; omega)⟩
            obtain ⟨hkl, hz0⟩ := List.getElem?_eq_some_iff.1 hzj
            have hT : nest nameA (zs.take (k + 1)) = .node (gK z) ⟨#[]⟩ [nest nameA (zs.take k)] := by
              rw [List.take_succ_eq_append_getElem hkl, hz0, nest_snoc]
            obtain ⟨T, hTk⟩ : ∃ T, T = nest nameA (zs.take k) := ⟨_, rfl⟩
            rw [hT, ← hTk] at HB HX2
            obtain ⟨A3, c3, css3, he3, _, hR3, hE3⟩ := HX2.out.open_
            injection he3 with _ he3
            injection he3 with _ he3
            injection he3 with he3 _
            injection he3 with he3 _ _
            subst he3
            obtain ⟨ad3, A4, c4, rfl, r0, r1, r2, hX4⟩ := EReps.elt hR3 hE3 (k := 0) (by simp [Tree.l])
            have r0 : wr.cell? ad3 = some (.int .i64 T.k) := r0
            have r1 : wr.cell? ⟨ad3.block, ad3.off + 1, none⟩ = some (.string T.name) := r1
            have r2 : wr.cell? ⟨ad3.block, ad3.off + 2, none⟩ = some (.slice A4 T.l.length c4) := r2
            have hX4 : ERep (fun b => w1.heap.size ≤ b) wr T [.int .i64 T.k, .string T.name, .slice A4 T.l.length c4] := hX4
            obtain ⟨ad, rfl, hnb, hcz⟩ := (HR.out.fr HF2.out (fun _ _ h => h)) (by rintro h; have := congrArg List.length h; rw [List.length_map] at this; simp only [List.length_nil] at this; omega)
            have q0 := hcz k (.int .u8 z) (by rw [List.getElem?_map, hzj]; rfl)
            have hz := HZ.out z (List.mem_of_getElem? hzj)
            have d0 : wr.cell? ⟨w1.heap.size, 0, none⟩ = some (.int .i64 (gK z)) := (HB.out.cell 0).trans rfl
            have d1 : wr.cell? ⟨w1.heap.size, 1, none⟩ = some (.string ⟨#[]⟩) := (HB.out.cell 1).trans rfl
            have d2 : wr.cell? ⟨w1.heap.size, 2, none⟩ = some (.slice (some ad3) 1 c2) := (HB.out.cell 2).trans rfl
            have f0 := HB.out.frozen 0
            have f1 := HB.out.frozen 1
            have f2 := HB.out.frozen 2
            have hl := HB.out.lt
            have ht2 : ((((k + 1 : Nat) : Int) - 1) ≥ 0) := by omega
            have hz1 : ((((k + 1 : Nat) : Int) - 1)) = (k : Int) := by omega
            rw [hz1] at ht2 ⊢
            have hkj : (k : Int) < (j : Int) := by omega
            have HZJ := Lib.hid hzj
            have HX4 := Lib.hid hX4
            have HTK := Lib.hid hTk
            clear hzj hz0 hT hR3 hE3 hcz hkl hTk
            clear hnb hz1
            have h3 : z % 3 = 0 ∨ z % 3 = 1 ∨ z % 3 = 2 := by omega
            rcases h3 with h3 | h3 | h3
            · have hgk : gK z = 4 := by unfold gK; simp [h3]
              rw [hgk] at d0
              clear hgk
              go_wp2_with fail
              go_quiet (fail)
              go_wp2_with fail
              go_roundg k
              case measure => omega
              case rel =>
                have hs3 := fr_store3 (wr.drewN nq) w1.heap.size (.int .i64 T.k) (.string T.name) (.slice A4 T.l.length c4)
                have hf3 : Fr (One w1.heap.size) wr _ := ((Fr.refl _ wr).drewN nq).same hs3
                refine ⟨k, A4, c4, rfl, by omega, rfl, ?_, ?_, ?_⟩
                · rw [← HTK.out]
                  exact (((HB.out.drewN nq).set 0 _).set 1 _).set 2 _
                · rw [← HTK.out]
                  exact ERep.fr hf3 (fun b _ hb => by have : b = w1.heap.size := hb; show w1.heap.size ≤ b; omega) _ _ HX4.out
                · exact HF2.out.trans hf3 (fun b hb h => by have : b = w1.heap.size := h; have := HF1.out.size; omega)
            · have hgk : gK z = 5 := by unfold gK; simp [h3]
              rw [hgk] at d0
              clear hgk
              go_wp2_with fail
              go_quiet (fail)
              go_wp2_with fail
              go_roundg k
              case measure => omega
              case rel =>
                have hs3 := fr_store3 (wr.drewN nq) w1.heap.size (.int .i64 T.k) (.string T.name) (.slice A4 T.l.length c4)
                have hf3 : Fr (One w1.heap.size) wr _ := ((Fr.refl _ wr).drewN nq).same hs3
                refine ⟨k, A4, c4, rfl, by omega, rfl, ?_, ?_, ?_⟩
                · rw [← HTK.out]
                  exact (((HB.out.drewN nq).set 0 _).set 1 _).set 2 _
                · rw [← HTK.out]
                  exact ERep.fr hf3 (fun b _ hb => by have : b = w1.heap.size := hb; show w1.heap.size ≤ b; omega) _ _ HX4.out
                · exact HF2.out.trans hf3 (fun b hb h => by have : b = w1.heap.size := h; have := HF1.out.size; omega)
            · have hgk : gK z = 6 := by unfold gK; simp [h3]
              rw [hgk] at d0
              clear hgk
              go_wp2_with fail
              go_quiet (fail)
              go_wp2_with fail
              go_roundg k
              case measure => omega
              case rel =>
                have hs3 := fr_store3 (wr.drewN nq) w1.heap.size (.int .i64 T.k) (.string T.name) (.slice A4 T.l.length c4)
                have hf3 : Fr (One w1.heap.size) wr _ := ((Fr.refl _ wr).drewN nq).same hs3
                refine ⟨k, A4, c4, rfl, by omega, rfl, ?_, ?_, ?_⟩
                · rw [← HTK.out]
                  exact (((HB.out.drewN nq).set 0 _).set 1 _).set 2 _
                · rw [← HTK.out]
                  exact ERep.fr hf3 (fun b _ hb => by have : b = w1.heap.size := hb; show w1.heap.size ≤ b; omega) _ _ HX4.out
                · exact HF2.out.trans hf3 (fun b hb h => by have : b = w1.heap.size := h; have := HF1.out.size; omega)
end Go.Proofs.YtgmjgflifgjpmaaDoor.exprSigns
