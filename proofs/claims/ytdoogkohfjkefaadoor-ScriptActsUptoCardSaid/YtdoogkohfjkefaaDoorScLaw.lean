/- Chapter 22: the law's 'same' and 'awake'. -/
import Derived.Test.YtdoogkohfjkefaaDoorScBackP
import Derived.Laws.BytesArg
namespace Go.Proofs.YtdoogkohfjkefaaDoor
open Go.RowKit
deriving instance DecidableEq for ActT
theorem conv0 (A : Option Addr) (c : Nat) (W : World) : (convert 22 9 (.slice A 0 c)).run Tryd.prog W = .ok (.string ByteArray.empty) W := by
  rw [run_convert_bytes_string W 22 9 5 A 0 c Tryd.underlying22 Tryd.underlying5 Tryd.underlying9]
  cases A with
  | none => simp [Conv.bytesToString]
  | some a =>
    have h := run_loadCells_list (P := Tryd.prog) W a [] (fun j v hj => by simp at hj)
    have h2 : (loadCells a 0).run Tryd.prog W = .ok #[] W := h
    simp [Conv.bytesToString, h2]
set_option maxRecDepth 100000 in
set_option maxHeartbeats 4000000 in
theorem same_any (t u : ActT) (A B : Option Addr) (c d : Nat) (w : World) :
    Calls Tryd.prog 9 #[.agg (t.cellsV (.slice A 0 c)).toArray, .agg (u.cellsV (.slice B 0 d)).toArray] w fun e w' => e = .returned (.bool (decide (t = u))) ∧ Fr Nob w w' := by
  have hc1 := conv0 A c
  have hc2 := conv0 B d
  have hfr : ∀ a b, Fr Nob w ((w.alloc a).alloc b) := fun a b => ((Fr.refl Nob w).alloc a).alloc b
  have HFR := Lib.hid hfr
  clear hfr
  simp only [ActT.cellsV]
  go_enter Tryd.func9, Tryd.ntmps9
  go_wp2_with fail
  all_goals first
    | refine bodyPost_ret (v := .bool false) (by simp [results, go_sem]) rfl ⟨by rw [decide_eq_false (by rintro rfl; contradiction)], HFR.out _ _⟩
    | refine bodyPost_ret (v := .bool true) (by simp [results, go_sem]) rfl ⟨by rw [decide_eq_true (by cases t; cases u; simp_all)], HFR.out _ _⟩
theorem act_sync : actF (bs [115, 121, 110, 99]).data.toList = some ⟨8, 0, 0, 0, 0, 0⟩ := by
  rw [bs_list]
  simp [actF, wordsL, formsT, fitsF, fillO, fillF]
set_option maxRecDepth 100000 in
theorem awake_any (w : World) (h : SW w) :
    Calls Tryd.prog 10 #[] w fun e w' => e = .returned (.bool true) ∧ Fr Nob w w' := by
  have HSW := Lib.hid h
  clear h
  go_enter Tryd.func10, Tryd.ntmps10
  go_wp2_with fail
  refine (act_any (bs [115, 121, 110, 99]) (by decide) w HSW.out).mono ?_
  rintro e w1 ⟨rfl, hF⟩
  rw [act_sync]
  have HF := Lib.hid hF
  clear hF
  simp only [actT, actE, ActT.cells, Option.getD_some, Option.isSome_some]
  go_wp2_with fail
  refine bodyPost_ret (v := .bool true) (by simp [results, go_sem]) rfl ⟨rfl, HF.out.alloc _⟩
theorem big_range {n : Int} (h : bigB n = false) : -999999999 ≤ n ∧ n ≤ 999999999 := by
  simp [bigB] at h
  omega
theorem prt_len (m : Nat) : ∀ (fs : List UInt8) (s L : List UInt8) (r : ActT), prtF m s fs r = some L → L.length ≤ s.length + 22 * fs.length
  | [], s, L, r, h => by
    rw [prtF] at h
    split at h
    · rw [← Option.some.inj h]; simp
    · cases h
  | c :: fs, s, L, r, h => by
    rw [prtF] at h
    split at h
    · cases h
    · rename_i hb
      have ih := prt_len m fs _ L _ h
      have hr := big_range (n := r.get c) (by simpa using hb)
      have hl := Lib.itoa_length_le (r.get c) (by omega) (by omega)
      rw [List.length_append, List.length_cons] at ih
      rw [List.length_cons]; omega
theorem print_len {t : ActT} {m : Nat} {L : List UInt8} (h : printF t m = some L) : L.length ≤ 95 := by
  unfold printF at h
  cases hf : formsT.find? (selF t) with
  | none => rw [hf] at h; cases h
  | some f =>
    rw [hf] at h
    have hb := forms_b f (List.mem_of_find?_eq_some hf)
    have := prt_len m f.fields f.word L _ h
    omega
theorem set_ok {t : ActT} (h : t.Ok) (f : UInt8) {n : Int} (hn : bigB n = false) : (t.set f n).Ok := by
  have hr := big_range hn
  have hr2 : -9223372036854775808 ≤ n ∧ n ≤ 9223372036854775807 := ⟨by omega, by omega⟩
  unfold ActT.set
  split
  · exact ⟨hr2, h.b, h.c, h.d, h.n⟩
  · split
    · exact ⟨h.a, h.b, hr2, h.d, h.n⟩
    · split
      · exact ⟨h.a, h.b, h.c, hr2, h.n⟩
      · exact ⟨h.a, h.b, h.c, h.d, hr2⟩
theorem fill_ok : ∀ (fs : List UInt8) (xs : List (List UInt8)) (t r : ActT), t.Ok → fillF t fs xs = some r → r.Ok
  | [], xs, t, r, ht, h => by
    obtain ⟨_, rfl⟩ := fill_nil h
    exact ht
  | f :: fs, xs, t, r, ht, h => by
    obtain ⟨n, xs', rfl, hb, h⟩ := fill_cons h
    exact fill_ok fs xs' _ r (set_ok ht f hb) h
theorem act_ok {S : List UInt8} {t : ActT} (h : actF S = some t) : t.Ok := by
  unfold actF at h
  cases hf : formsT.find? (fitsF (wordsL S)) with
  | none => rw [hf] at h; cases h
  | some f =>
    rw [hf] at h
    have hb := forms_b f (List.mem_of_find?_eq_some hf)
    refine fill_ok _ _ _ _ ⟨?_, ?_, ?_, ?_, ?_⟩ h <;> constructor <;> first | (show _ ≤ (0 : Int); omega) | (show (0 : Int) ≤ _; omega) | (show _ ≤ f.b; omega) | (show f.b ≤ _; omega)
end Go.Proofs.YtdoogkohfjkefaaDoor
