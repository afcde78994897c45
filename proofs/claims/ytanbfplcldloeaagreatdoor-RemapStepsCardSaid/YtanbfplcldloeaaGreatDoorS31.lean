/- A part of the proof for chapter 10: RefThru, Told1, Told2, RebF, StepsP, Seen; no conditions. -/
import Derived.Test.YtanbfplcldloeaaGreatDoorS26
import Derived.Test.YtanbfplcldloeaaGreatDoorS28
import Derived.Test.YtanbfplcldloeaaGreatDoorS30
import Derived.Test.YtanbfplcldloeaaGreatDoorS19
import Derived.Test.YtanbfplcldloeaaGreatDoorS25
import Derived.Test.YtanbfplcldloeaaGreatDoorS22
import Derived.Test.YtanbfplcldloeaaGreatDoorS24
import Derived.Test.YtanbfplcldloeaaGreatDoorS27
import Derived.Test.YtanbfplcldloeaaGreatDoorS07
/- Chapter 10, the reference: a step through maps. -/
namespace Go.Proofs.YtanbfplcldloeaaGreatDoor
open Go.RowKit
theorem thru_bad {ms : List OneM} {fr : Int} {s : StepM} (h : stepF s ≠ 0) : stepThru ms fr s = none := by rw [stepThru, if_pos h]
section
variable {ms : List OneM} {fr k f t gf gt ins mk : Int} {l : List Tok} {aa ai ao ea ba bi bo eb : Int} {ag bg : Bool}
theorem thru_err (hs : stepF ⟨k, f, t, gf, gt, ins, mk, l⟩ = 0) (ha : mapsF ms fr f 1 = (⟨aa, ag, ai, ao⟩, ea)) (hb : mapsF ms fr t (-1) = (⟨ba, bg, bi, bo⟩, eb)) (h : ea ≠ 0 ∨ eb ≠ 0 ∨ (ag = true ∧ bg = true)) : stepThru ms fr ⟨k, f, t, gf, gt, ins, mk, l⟩ = none := by
  have hf : (((true && ea == 0) && eb == 0) && !(ag && bg)) = false := by
    rcases h with h | h | ⟨h, h'⟩
    · rw [show (ea == 0) = false by simpa using h]; rfl
    · rw [show (eb == 0) = false by simpa using h]; cases (true && ea == 0) <;> rfl
    · rw [h, h']; cases ((true && ea == 0) && eb == 0) <;> rfl
  rw [stepThru, if_neg (by rw [hs]; decide)]
  simp only [ha, hb, hf]
  by_cases h0 : k = 0
  · simp [h0]
  · by_cases h1 : k = 1
    · simp [h1]
    · simp [h0, h1]
theorem thru0 (hs : stepF ⟨k, f, t, gf, gt, ins, mk, l⟩ = 0) (ha : mapsF ms fr f 1 = (⟨aa, ag, ai, ao⟩, 0)) (hb : mapsF ms fr t (-1) = (⟨ba, bg, bi, bo⟩, 0)) (h : (ag && bg) = false) (hk : k = 0) :
    stepThru ms fr ⟨k, f, t, gf, gt, ins, mk, l⟩ = if stepF ⟨k, aa, max aa ba, gf, gt, ins, mk, l⟩ = 0 then some ⟨k, aa, max aa ba, gf, gt, ins, mk, l⟩ else none := by
  rw [stepThru, if_neg (by rw [hs]; decide)]
  simp only [ha, hb, h, hk, if_true]
  simp
theorem thru1_err {ca ci co ec da di do' ed : Int} {cg dg : Bool} (hs : stepF ⟨k, f, t, gf, gt, ins, mk, l⟩ = 0) (ha : mapsF ms fr f 1 = (⟨aa, ag, ai, ao⟩, 0)) (hb : mapsF ms fr t (-1) = (⟨ba, bg, bi, bo⟩, 0))
    (hc : mapsF ms fr gf (-1) = (⟨ca, cg, ci, co⟩, ec)) (hd : mapsF ms fr gt 1 = (⟨da, dg, di, do'⟩, ed)) (hk : k = 1) (he : ec ≠ 0 ∨ ed ≠ 0) : stepThru ms fr ⟨k, f, t, gf, gt, ins, mk, l⟩ = none := by
  rw [stepThru, if_neg (by rw [hs]; decide)]
  simp only [ha, hb, hc, hd, hk]
  rcases he with h | h
  · simp [h]
  · simp [h]
theorem thru1 {ca ci co da di do' : Int} {cg dg : Bool} (hs : stepF ⟨k, f, t, gf, gt, ins, mk, l⟩ = 0) (ha : mapsF ms fr f 1 = (⟨aa, ag, ai, ao⟩, 0)) (hb : mapsF ms fr t (-1) = (⟨ba, bg, bi, bo⟩, 0)) (h : (ag && bg) = false)
    (hc : mapsF ms fr gf (-1) = (⟨ca, cg, ci, co⟩, 0)) (hd : mapsF ms fr gt 1 = (⟨da, dg, di, do'⟩, 0)) (hk : k = 1) :
    stepThru ms fr ⟨k, f, t, gf, gt, ins, mk, l⟩ = if stepF ⟨k, aa, ba, ca, da, ins, mk, l⟩ = 0 then some ⟨k, aa, ba, ca, da, ins, mk, l⟩ else none := by
  rw [stepThru, if_neg (by rw [hs]; decide)]
  simp only [ha, hb, hc, hd, h, hk]
  simp
theorem thru2_bad (hs : stepF ⟨k, f, t, gf, gt, ins, mk, l⟩ = 0) (ha : mapsF ms fr f 1 = (⟨aa, ag, ai, ao⟩, 0)) (hb : mapsF ms fr t (-1) = (⟨ba, bg, bi, bo⟩, 0)) (h0 : k ≠ 0) (h1 : k ≠ 1) (h : ba ≤ aa) : stepThru ms fr ⟨k, f, t, gf, gt, ins, mk, l⟩ = none := by
  rw [stepThru, if_neg (by rw [hs]; decide)]
  simp only [ha, hb, h0, h1, if_false]
  simp [show ¬ aa < ba by omega]
theorem thru2 (hs : stepF ⟨k, f, t, gf, gt, ins, mk, l⟩ = 0) (ha : mapsF ms fr f 1 = (⟨aa, ag, ai, ao⟩, 0)) (hb : mapsF ms fr t (-1) = (⟨ba, bg, bi, bo⟩, 0)) (hg : (ag && bg) = false) (h0 : k ≠ 0) (h1 : k ≠ 1) (h : aa < ba) :
    stepThru ms fr ⟨k, f, t, gf, gt, ins, mk, l⟩ = if stepF ⟨k, aa, ba, gf, gt, ins, mk, l⟩ = 0 then some ⟨k, aa, ba, gf, gt, ins, mk, l⟩ else none := by
  rw [stepThru, if_neg (by rw [hs]; decide)]
  simp only [ha, hb, hg, h0, h1, if_false]
  simp [h]
end
set_option maxRecDepth 100000 in
set_option maxHeartbeats 8000000 in
theorem ref10step_any (N M : Nat → Prop) (base m : Nat) (v : Value) (ms : List OneM) (s : StepM) (B : Option Addr) (b : Nat) (fr : Int) (w : World) (hm : RMp N base w m v ms) (hn : ms.length ≤ 4096) (hx : Rd M w B (tokC s.l)) :
    Calls Tryz.prog 13 #[.agg (s.cells (.slice B s.l.length b)).toArray, .pointer (some ⟨m, 0, none⟩), .int .i64 fr] w fun e w' => e = .returned (.tuple #[((stepThru ms fr s).elim (.agg (zeroStep.cells (.slice none 0 0)).toArray) (fun x => .agg (x.cells (.slice B s.l.length b)).toArray)), .bool (stepThru ms fr s).isSome]) ∧ Fr Nob w w' := by
  obtain ⟨k, f, t, gf, gt, ins, mk, l⟩ := s
  obtain ⟨R, hR⟩ : ∃ R, stepThru ms fr ⟨k, f, t, gf, gt, ins, mk, l⟩ = R := ⟨_, rfl⟩
  have HR := Lib.hid hR
  rw [hR]
  clear hR
  simp only [StepM.cells] at hx ⊢
  have HRd := Lib.hid hx
  have HM := Lib.hid hm
  have HN := Lib.hid hn
  clear hx hm hn
  obtain ⟨n, hn⟩ : ∃ n, l.length = n := ⟨_, rfl⟩
  have HNL := Lib.hid hn
  rw [hn]
  clear hn
  have CHK := Lib.hid (fun (k f t gf gt ins mk : Int) (W : World) (h : Rd M W B (tokC l)) => (show Calls Tryz.prog 32 #[.agg #[.int .i64 k, .int .i64 f, .int .i64 t, .int .i64 gf, .int .i64 gt, .int .i64 ins, .slice B n b, .int .i64 mk]] W fun e w' => e = .returned (.int .i64 (stepF ⟨k, f, t, gf, gt, ins, mk, l⟩)) ∧ Fr Nob W w' by
    have h0 := ref9check_any M ⟨k, f, t, gf, gt, ins, mk, l⟩ B b W h
    simp only [StepM.cells, HNL.out] at h0
    exact h0))
  have MAP := Lib.hid (fun (p side : Int) (W : World) (h : Fr Nob w W) => ref8maps_any N base m v ms fr p side W (HM.out.fr0 h) HN.out)
  go_enter Tryz.func13, Tryz.ntmps13
  go_upto_region 1 with (fail)
  obtain ⟨W, hW⟩ : ∃ W, (w.alloc (.cells #[.int .i64 k, .int .i64 f, .int .i64 t, .int .i64 gf, .int .i64 gt, .int .i64 ins, .slice B n b, .int .i64 mk] 24)).alloc (.cells #[.int .i64 0, .int .i64 0, .int .i64 0, .int .i64 0, .int .i64 0, .int .i64 0, .slice none 0 0, .int .i64 0] 24) = W := ⟨_, rfl⟩
  have HF := Lib.hid (show Fr Nob w W by rw [← hW]; exact ((Fr.refl _ _).alloc _).alloc _)
  have HS := Lib.hid (show Blk W w.heap.size [.int .i64 k, .int .i64 f, .int .i64 t, .int .i64 gf, .int .i64 gt, .int .i64 ins, .slice B n b, .int .i64 mk] 24 by rw [← hW]; exact (Blk.new _ _ _).alloc _)
  have HZ := Lib.hid (show Blk W (w.heap.size + 1) [.int .i64 0, .int .i64 0, .int .i64 0, .int .i64 0, .int .i64 0, .int .i64 0, .slice none 0 0, .int .i64 0] 24 by rw [← hW]; exact Blk.new_at (w.alloc _) _ _ (w.heap.size + 1) (by simp))
  rw [hW]
  clear hW
  obtain ⟨d0, d1, d2, d3, d4, d5, d6, d7, dl⟩ := HS.out.c8
  go_wp2_with fail
  refine (CHK.out k f t gf gt ins mk W (HRd.out.fr HF.out (fun _ _ h => h.elim))).mono ?_
  obtain ⟨E, hE⟩ : ∃ E, stepF ⟨k, f, t, gf, gt, ins, mk, l⟩ = E := ⟨_, rfl⟩
  rw [hE]
  have HE := Lib.hid hE
  clear hE
  rintro e w1 ⟨rfl, hF1⟩
  have HF1 := Lib.hid (HF.out.same hF1)
  have HS1 := Lib.hid (HS.out.fr hF1 (fun h => h))
  have HZ1 := Lib.hid (HZ.out.fr hF1 (fun h => h))
  clear d0 d1 d2 d3 d4 d5 d6 d7 dl hF1 HF HS HZ
  by_cases h0 : E = 0
  · subst h0
    obtain ⟨d0, d1, d2, d3, d4, d5, d6, d7, dl⟩ := HS1.out.c8
    go_wp2_with fail
    obtain ⟨⟨⟨aa, ag, ai, ao⟩, ea⟩, ha⟩ : ∃ r, mapsF ms fr f (1) = r := ⟨_, rfl⟩
    have HAV := Lib.hid ha
    have h := MAP.out f (1) w1 HF1.out
    rw [ha] at h
    replace h : Calls Tryz.prog 33 #[.pointer (some ⟨m, 0, none⟩), .int .i64 fr, .int .i64 f, .int .i64 (1)] w1 fun e w' => e = .returned (.tuple #[.agg #[.int .i64 aa, .bool ag, .int .i64 ai, .int .i64 ao], .int .i64 ea]) ∧ Fr Nob w1 w' := h
    refine h.mono ?_
    clear h ha
    rintro e wq ⟨rfl, hFq⟩
    clear d0 d1 d2 d3 d4 d5 d6 d7 dl
    go_upto_region 4 with (fail)
    obtain ⟨w2, hW⟩ : ∃ W, wq.alloc (.cells #[.int .i64 aa, .bool ag, .int .i64 ai, .int .i64 ao] 80) = W := ⟨_, rfl⟩
    obtain ⟨Aa, hA⟩ : ∃ A, wq.heap.size = A := ⟨_, rfl⟩
    have hFa := (show Fr Nob wq w2 by rw [← hW]; exact (Fr.refl _ _).alloc _)
    have HBa2 := Lib.hid (show Blk w2 Aa [.int .i64 aa, .bool ag, .int .i64 ai, .int .i64 ao] 80 by rw [← hW, ← hA]; exact Blk.new _ _ _)
    rw [hW, hA]
    clear hW hA
    replace hFa := hFq.same hFa
    have HF2 := Lib.hid (HF1.out.same hFa)
    have HS2 := Lib.hid (HS1.out.fr hFa (fun h => h))
    have HZ2 := Lib.hid (HZ1.out.fr hFa (fun h => h))
    clear hFa hFq HS1 HZ1
    obtain ⟨d0, d1, d2, d3, d4, d5, d6, d7, dl⟩ := HS2.out.c8
    go_wp2_with fail
    obtain ⟨⟨⟨ba, bg, bi, bo⟩, eb⟩, hb⟩ : ∃ r, mapsF ms fr t (-1) = r := ⟨_, rfl⟩
    have HBV := Lib.hid hb
    have h := MAP.out t (-1) w2 HF2.out
    rw [hb] at h
    replace h : Calls Tryz.prog 33 #[.pointer (some ⟨m, 0, none⟩), .int .i64 fr, .int .i64 t, .int .i64 (-1)] w2 fun e w' => e = .returned (.tuple #[.agg #[.int .i64 ba, .bool bg, .int .i64 bi, .int .i64 bo], .int .i64 eb]) ∧ Fr Nob w2 w' := h
    refine h.mono ?_
    clear h hb
    rintro e wq ⟨rfl, hFq⟩
    clear d0 d1 d2 d3 d4 d5 d6 d7 dl
    go_upto_region 5 with (fail)
    obtain ⟨w3, hW⟩ : ∃ W, wq.alloc (.cells #[.int .i64 ba, .bool bg, .int .i64 bi, .int .i64 bo] 80) = W := ⟨_, rfl⟩
    obtain ⟨Ab, hA⟩ : ∃ A, wq.heap.size = A := ⟨_, rfl⟩
    have hFa := (show Fr Nob wq w3 by rw [← hW]; exact (Fr.refl _ _).alloc _)
    have HBb3 := Lib.hid (show Blk w3 Ab [.int .i64 ba, .bool bg, .int .i64 bi, .int .i64 bo] 80 by rw [← hW, ← hA]; exact Blk.new _ _ _)
    rw [hW, hA]
    clear hW hA
    replace hFa := hFq.same hFa
    have HF3 := Lib.hid (HF2.out.same hFa)
    have HS3 := Lib.hid (HS2.out.fr hFa (fun h => h))
    have HZ3 := Lib.hid (HZ2.out.fr hFa (fun h => h))
    have HBa3 := Lib.hid (HBa2.out.fr hFa (fun h => h))
    clear hFa hFq HS2 HZ2 HBa2
    obtain ⟨p0, p1, p2, p3, _, _, _, _, pl⟩ := HBa3.out.f4
    obtain ⟨q0, q1, q2, q3, _, _, _, _, ql⟩ := HBb3.out.f4
    by_cases hea : ea = 0
    · by_cases heb : eb = 0
      · by_cases hg : ag = true ∧ bg = true
        · obtain ⟨hg1, hg2⟩ := hg
          subst hg1 hg2 hea heb
          have HRN := Lib.hid (show R = none by rw [← HR.out]; exact thru_err HE.out HAV.out HBV.out (.inr (.inr ⟨rfl, rfl⟩)))
          obtain ⟨r0, r1, r2, r3, r4, r5, r6, r7, rl⟩ := HZ3.out.c8
          obtain ⟨rf0, rf1, rf2, rf3, rf4, rf5, rf6, rf7⟩ := HZ3.out.z8
          go_wp2_with fail
          refine ret8 (v := .tuple #[.agg #[.int .i64 0, .int .i64 0, .int .i64 0, .int .i64 0, .int .i64 0, .int .i64 0, .slice none 0 0, .int .i64 0], .bool false]) HZ3.out HF3.out (Nat.le_succ _) rfl (fun WE z0 z1 z2 z3 z4 z5 z6 z7 => by simp [results, go_sem, z0, z1, z2, z3, z4, z5, z6, z7]) (fun WE hF => ?_)
          rw [HRN.out]
          exact ⟨rfl, hF⟩
        · have hgg : (ag && bg) = false := by cases ag <;> cases bg <;> simp_all
          subst hea heb
          have HGG := Lib.hid hgg
          clear hg
          clear p0 p1 p2 p3 pl q0 q1 q2 q3 ql
          have HMARK := Lib.hid (show True from trivial)
          obtain ⟨p0, p1, p2, p3, _, _, _, _, pl⟩ := HBa3.out.f4
          obtain ⟨q0, q1, q2, q3, _, _, _, _, ql⟩ := HBb3.out.f4
          go_cut [50] (fun s50 wx => s50 = .bool false ∧ wx = w3)
          case first =>
            cases ag
            · go_wp2_with fail
              go_meet
              exact ⟨rfl, rfl⟩
            · cases bg
              · go_wp2_with fail
                go_meet
                exact ⟨rfl, rfl⟩
              · exact absurd HGG.out (by decide)
          case rest =>
            obtain ⟨rfl, hw⟩ := hcut
            rw [hw]
            clear hw
            clear p0 p1 p2 p3 pl
            clear q0 q1 q2 q3 ql
            obtain ⟨d0, d1, d2, d3, d4, d5, d6, d7, dl⟩ := HS3.out.c8
            obtain ⟨p0, p1, p2, p3, _, _, _, _, pl⟩ := HBa3.out.f4
            obtain ⟨q0, q1, q2, q3, _, _, _, _, ql⟩ := HBb3.out.f4
            go_upto_region 8 with (fail)
            obtain ⟨w4, hW⟩ : ∃ W, w3.alloc (.cells #[.int .i64 k, .int .i64 f, .int .i64 t, .int .i64 gf, .int .i64 gt, .int .i64 ins, .slice B n b, .int .i64 mk] 24) = W := ⟨_, rfl⟩
            obtain ⟨X, hA⟩ : ∃ A, w3.heap.size = A := ⟨_, rfl⟩
            have hFa := (show Fr Nob w3 w4 by rw [← hW]; exact (Fr.refl _ _).alloc _)
            have HX4 := Lib.hid (show Blk w4 X [.int .i64 k, .int .i64 f, .int .i64 t, .int .i64 gf, .int .i64 gt, .int .i64 ins, .slice B n b, .int .i64 mk] 24 by rw [← hW, ← hA]; exact Blk.new _ _ _)
            have HX4N := hA
            rw [hW, hA]
            clear hW hA
            have HXL := Lib.hid (show w.heap.size + 1 < X by have h1 := HZ3.out.lt; have h2 := HX4N; omega)
            have HAX := Lib.hid (show Aa < X ∧ Ab < X from ⟨by have h1 := HBa3.out.lt; have h2 := HX4N; omega, by have h1 := HBb3.out.lt; have h2 := HX4N; omega⟩)
            clear HX4N
            have HF4 := Lib.hid (HF3.out.same hFa)
            have HS4 := Lib.hid (HS3.out.fr hFa (fun h => h))
            have HZ4 := Lib.hid (HZ3.out.fr hFa (fun h => h))
            have HBa4 := Lib.hid (HBa3.out.fr hFa (fun h => h))
            have HBb4 := Lib.hid (HBb3.out.fr hFa (fun h => h))
            clear d0 d1 d2 d3 d4 d5 d6 d7 dl
            clear p0 p1 p2 p3 pl
            clear q0 q1 q2 q3 ql
            clear HS3 HZ3 HBa3 HBb3 hFa
            obtain ⟨d0, d1, d2, d3, d4, d5, d6, d7, dl⟩ := HS4.out.c8
            obtain ⟨p0, p1, p2, p3, _, _, _, _, pl⟩ := HBa4.out.f4
            obtain ⟨q0, q1, q2, q3, _, _, _, _, ql⟩ := HBb4.out.f4
            obtain ⟨x0, x1, x2, x3, x4, x5, x6, x7, xl⟩ := HX4.out.c8
            obtain ⟨xf0, xf1, xf2, xf3, xf4, xf5, xf6, xf7⟩ := HX4.out.z8
            go_upto_region 10 with (fail)
            have HX5 := Lib.hid ((HX4.out.set 1 (.int .i64 aa)).set 2 (.int .i64 ba))
            simp only [List.set_cons_zero, List.set_cons_succ] at HX5
            have hF5 := ((Fr.refl (One X) w4).setCell (p := ⟨X, 1, none⟩) (.inl rfl) (.int .i64 aa)).setCell (p := ⟨X, 2, none⟩) (.inl rfl) (.int .i64 ba)
            have HF5 := Lib.hid (HF4.out.trans hF5 (fun j hj e => by have : j = X := e; have := HXL.out; omega))
            have HS5 := Lib.hid (HS4.out.fr hF5 (fun e => by have : w.heap.size = X := e; have := HXL.out; omega))
            have HZ5 := Lib.hid (HZ4.out.fr hF5 (fun e => by have : w.heap.size + 1 = X := e; have := HXL.out; omega))
            have HBa5 := Lib.hid (HBa4.out.fr hF5 (fun e => by have : Aa = X := e; have := HAX.out; omega))
            have HBb5 := Lib.hid (HBb4.out.fr hF5 (fun e => by have : Ab = X := e; have := HAX.out; omega))
            clear hF5
            generalize (w4.setCell ⟨X, 1, none⟩ (.int .i64 aa)).setCell ⟨X, 2, none⟩ (.int .i64 ba) = w5 at HX5 HF5 HS5 HZ5 HBa5 HBb5 ⊢
            clear d0 d1 d2 d3 d4 d5 d6 d7 dl
            clear p0 p1 p2 p3 pl
            clear q0 q1 q2 q3 ql
            clear x0 x1 x2 x3 x4 x5 x6 x7 xf0 xf1 xf2 xf3 xf4 xf5 xf6 xf7 xl
            clear HS4 HZ4 HBa4 HBb4 HX4 HF4
            by_cases k0 : k = 0
            · have b0 : (k == 0) = true := by simpa using k0
              have HRT := Lib.hid (show _ = R from (thru0 HE.out HAV.out HBV.out HGG.out k0).symm.trans HR.out)
              clear k0
              obtain ⟨d0, d1, d2, d3, d4, d5, d6, d7, dl⟩ := HS5.out.c8
              obtain ⟨p0, p1, p2, p3, _, _, _, _, pl⟩ := HBa5.out.f4
              obtain ⟨q0, q1, q2, q3, _, _, _, _, ql⟩ := HBb5.out.f4
              obtain ⟨x0, x1, x2, x3, x4, x5, x6, x7, xl⟩ := HX5.out.c8
              obtain ⟨xf0, xf1, xf2, xf3, xf4, xf5, xf6, xf7⟩ := HX5.out.z8
              obtain ⟨mx, hmx⟩ : ∃ mx, max aa ba = mx := ⟨_, rfl⟩
              rw [hmx] at HRT
              have HV := Lib.hid (show (if aa < ba then ba else aa) = mx by rw [← hmx]; split <;> omega)
              clear hmx
              go_upto_region 22 with (fail)
              rw [HV.out]
              have HX6 := Lib.hid (HX5.out.set 2 (.int .i64 mx))
              simp only [List.set_cons_zero, List.set_cons_succ] at HX6
              have hFs := (Fr.refl (One X) w5).setCell (p := ⟨X, 2, none⟩) (.inl rfl) (.int .i64 mx)
              have HF6 := Lib.hid (HF5.out.trans hFs (fun j hj e => by have : j = X := e; have := HXL.out; omega))
              have HZ6 := Lib.hid (HZ5.out.fr hFs (fun e => by have : w.heap.size + 1 = X := e; have := HXL.out; omega))
              clear hFs
              generalize w5.setCell ⟨X, 2, none⟩ (.int .i64 mx) = w6 at HX6 HF6 HZ6 ⊢
              clear x0 x1 x2 x3 x4 x5 x6 x7 xf0 xf1 xf2 xf3 xf4 xf5 xf6 xf7 xl
              clear d0 d1 d2 d3 d4 d5 d6 d7 dl
              clear p0 p1 p2 p3 pl
              clear q0 q1 q2 q3 ql
              obtain ⟨x0, x1, x2, x3, x4, x5, x6, x7, xl⟩ := HX6.out.c8
              go_wp2_with fail
              refine (CHK.out k aa mx gf gt ins mk w6 (HRd.out.fr HF6.out (fun _ _ h => h.elim))).mono ?_
              obtain ⟨E2, hE2⟩ : ∃ E, stepF ⟨k, aa, mx, gf, gt, ins, mk, l⟩ = E := ⟨_, rfl⟩
              rw [hE2] at HRT ⊢
              clear hE2
              rintro e w9 ⟨rfl, hF9⟩
              have HX9 := Lib.hid (HX6.out.fr hF9 (fun h => h))
              have HF9 := Lib.hid (HF6.out.same hF9)
              have HZ9 := Lib.hid (HZ6.out.fr hF9 (fun h => h))
              clear hF9
              clear x0 x1 x2 x3 x4 x5 x6 x7 xl
              by_cases h2 : E2 = 0
              · subst h2
                have HRN := Lib.hid (show R = some ⟨k, aa, mx, gf, gt, ins, mk, l⟩ by rw [← HRT.out, if_pos rfl])
                obtain ⟨x0, x1, x2, x3, x4, x5, x6, x7, xl⟩ := HX9.out.c8
                obtain ⟨r0, r1, r2, r3, r4, r5, r6, r7, rl⟩ := HZ9.out.c8
                obtain ⟨rf0, rf1, rf2, rf3, rf4, rf5, rf6, rf7⟩ := HZ9.out.z8
                go_wp2_with fail
                refine ret8 (v := .tuple #[.agg #[.int .i64 k, .int .i64 aa, .int .i64 mx, .int .i64 gf, .int .i64 gt, .int .i64 ins, .slice B n b, .int .i64 mk], .bool true]) HZ9.out HF9.out (Nat.le_succ _) rfl (fun WE z0 z1 z2 z3 z4 z5 z6 z7 => by simp [results, go_sem, z0, z1, z2, z3, z4, z5, z6, z7]) (fun WE hF => ?_)
                rw [HRN.out]
                exact ⟨rfl, hF⟩
              · have h2' : (E2 != 0) = true := by simp [h2]
                have HRN := Lib.hid (show R = none by rw [← HRT.out, if_neg h2])
                obtain ⟨r0, r1, r2, r3, r4, r5, r6, r7, rl⟩ := HZ9.out.c8
                obtain ⟨rf0, rf1, rf2, rf3, rf4, rf5, rf6, rf7⟩ := HZ9.out.z8
                go_wp2_with fail
                refine ret8 (v := .tuple #[.agg #[.int .i64 0, .int .i64 0, .int .i64 0, .int .i64 0, .int .i64 0, .int .i64 0, .slice none 0 0, .int .i64 0], .bool false]) HZ9.out HF9.out (Nat.le_succ _) rfl (fun WE z0 z1 z2 z3 z4 z5 z6 z7 => by simp [results, go_sem, z0, z1, z2, z3, z4, z5, z6, z7]) (fun WE hF => ?_)
                rw [HRN.out]
                exact ⟨rfl, hF⟩
            · have b0 : (k == 0) = false := by simpa using k0
              by_cases k1 : k = 1
              · have b1 : (k == 1) = true := by simpa using k1
                have HK1 := Lib.hid k1
                clear k0 k1
                obtain ⟨d0, d1, d2, d3, d4, d5, d6, d7, dl⟩ := HS5.out.c8
                go_wp2_with fail
                obtain ⟨⟨⟨ca, cg, ci, co⟩, ec⟩, hc⟩ : ∃ r, mapsF ms fr gf (-1) = r := ⟨_, rfl⟩
                have HCV := Lib.hid hc
                have h := MAP.out gf (-1) w5 HF5.out
                rw [hc] at h
                replace h : Calls Tryz.prog 33 #[.pointer (some ⟨m, 0, none⟩), .int .i64 fr, .int .i64 gf, .int .i64 (-1)] w5 fun e w' => e = .returned (.tuple #[.agg #[.int .i64 ca, .bool cg, .int .i64 ci, .int .i64 co], .int .i64 ec]) ∧ Fr Nob w5 w' := h
                refine h.mono ?_
                clear h hc
                rintro e wq ⟨rfl, hFq⟩
                clear d0 d1 d2 d3 d4 d5 d6 d7 dl
                go_upto_region 17 with (fail)
                obtain ⟨w6, hW⟩ : ∃ W, wq.alloc (.cells #[.int .i64 ca, .bool cg, .int .i64 ci, .int .i64 co] 80) = W := ⟨_, rfl⟩
                obtain ⟨Ac, hA⟩ : ∃ A, wq.heap.size = A := ⟨_, rfl⟩
                have hFa := (show Fr Nob wq w6 by rw [← hW]; exact (Fr.refl _ _).alloc _)
                have HBc6 := Lib.hid (show Blk w6 Ac [.int .i64 ca, .bool cg, .int .i64 ci, .int .i64 co] 80 by rw [← hW, ← hA]; exact Blk.new _ _ _)
                rw [hW, hA]
                clear hW hA
                replace hFa := hFq.same hFa
                have HF6 := Lib.hid (HF5.out.same hFa)
                have HS6 := Lib.hid (HS5.out.fr hFa (fun h => h))
                have HZ6 := Lib.hid (HZ5.out.fr hFa (fun h => h))
                have HBa6 := Lib.hid (HBa5.out.fr hFa (fun h => h))
                have HBb6 := Lib.hid (HBb5.out.fr hFa (fun h => h))
                have HX6 := Lib.hid (HX5.out.fr hFa (fun h => h))
                clear hFa hFq HS5 HZ5 HBa5 HBb5 HX5
                obtain ⟨d0, d1, d2, d3, d4, d5, d6, d7, dl⟩ := HS6.out.c8
                go_wp2_with fail
                obtain ⟨⟨⟨xa, xg, xi, xo⟩, ex⟩, hx⟩ : ∃ r, mapsF ms fr gt (1) = r := ⟨_, rfl⟩
                have HXV := Lib.hid hx
                have h := MAP.out gt (1) w6 HF6.out
                rw [hx] at h
                replace h : Calls Tryz.prog 33 #[.pointer (some ⟨m, 0, none⟩), .int .i64 fr, .int .i64 gt, .int .i64 (1)] w6 fun e w' => e = .returned (.tuple #[.agg #[.int .i64 xa, .bool xg, .int .i64 xi, .int .i64 xo], .int .i64 ex]) ∧ Fr Nob w6 w' := h
                refine h.mono ?_
                clear h hx
                rintro e wq ⟨rfl, hFq⟩
                clear d0 d1 d2 d3 d4 d5 d6 d7 dl
                go_upto_region 18 with (fail)
                obtain ⟨w7, hW⟩ : ∃ W, wq.alloc (.cells #[.int .i64 xa, .bool xg, .int .i64 xi, .int .i64 xo] 80) = W := ⟨_, rfl⟩
                obtain ⟨Ax, hA⟩ : ∃ A, wq.heap.size = A := ⟨_, rfl⟩
                have hFa := (show Fr Nob wq w7 by rw [← hW]; exact (Fr.refl _ _).alloc _)
                have HBx7 := Lib.hid (show Blk w7 Ax [.int .i64 xa, .bool xg, .int .i64 xi, .int .i64 xo] 80 by rw [← hW, ← hA]; exact Blk.new _ _ _)
                rw [hW, hA]
                clear hW hA
                replace hFa := hFq.same hFa
                have HF7 := Lib.hid (HF6.out.same hFa)
                have HS7 := Lib.hid (HS6.out.fr hFa (fun h => h))
                have HZ7 := Lib.hid (HZ6.out.fr hFa (fun h => h))
                have HBa7 := Lib.hid (HBa6.out.fr hFa (fun h => h))
                have HBb7 := Lib.hid (HBb6.out.fr hFa (fun h => h))
                have HX7 := Lib.hid (HX6.out.fr hFa (fun h => h))
                have HBc7 := Lib.hid (HBc6.out.fr hFa (fun h => h))
                clear hFa hFq HS6 HZ6 HBa6 HBb6 HX6 HBc6
                obtain ⟨p0, p1, p2, p3, _, _, _, _, pl⟩ := HBc7.out.f4
                obtain ⟨q0, q1, q2, q3, _, _, _, _, ql⟩ := HBx7.out.f4
                by_cases hec : ec = 0
                · by_cases hed : ex = 0
                  · subst hec hed
                    have HRT := Lib.hid (show _ = R from (thru1 HE.out HAV.out HBV.out HGG.out HCV.out HXV.out HK1.out).symm.trans HR.out)
                    obtain ⟨x0, x1, x2, x3, x4, x5, x6, x7, xl⟩ := HX7.out.c8
                    obtain ⟨xf0, xf1, xf2, xf3, xf4, xf5, xf6, xf7⟩ := HX7.out.z8
                    go_upto_region 22 with (fail)
                    have HX8 := Lib.hid ((HX7.out.set 3 (.int .i64 ca)).set 4 (.int .i64 xa))
                    simp only [List.set_cons_zero, List.set_cons_succ] at HX8
                    have hFs := ((Fr.refl (One X) w7).setCell (p := ⟨X, 3, none⟩) (.inl rfl) (.int .i64 ca)).setCell (p := ⟨X, 4, none⟩) (.inl rfl) (.int .i64 xa)
                    have HF8 := Lib.hid (HF7.out.trans hFs (fun j hj e => by have : j = X := e; have := HXL.out; omega))
                    have HZ8 := Lib.hid (HZ7.out.fr hFs (fun e => by have : w.heap.size + 1 = X := e; have := HXL.out; omega))
                    clear hFs
                    generalize (w7.setCell ⟨X, 3, none⟩ (.int .i64 ca)).setCell ⟨X, 4, none⟩ (.int .i64 xa) = w8 at HX8 HF8 HZ8 ⊢
                    clear x0 x1 x2 x3 x4 x5 x6 x7 xf0 xf1 xf2 xf3 xf4 xf5 xf6 xf7 xl
                    clear p0 p1 p2 p3 pl
                    clear q0 q1 q2 q3 ql
                    obtain ⟨x0, x1, x2, x3, x4, x5, x6, x7, xl⟩ := HX8.out.c8
                    go_wp2_with fail
                    refine (CHK.out k aa ba ca xa ins mk w8 (HRd.out.fr HF8.out (fun _ _ h => h.elim))).mono ?_
                    obtain ⟨E2, hE2⟩ : ∃ E, stepF ⟨k, aa, ba, ca, xa, ins, mk, l⟩ = E := ⟨_, rfl⟩
                    rw [hE2] at HRT ⊢
                    clear hE2
                    rintro e w9 ⟨rfl, hF9⟩
                    have HX9 := Lib.hid (HX8.out.fr hF9 (fun h => h))
                    have HF9 := Lib.hid (HF8.out.same hF9)
                    have HZ9 := Lib.hid (HZ8.out.fr hF9 (fun h => h))
                    clear hF9
                    clear x0 x1 x2 x3 x4 x5 x6 x7 xl
                    by_cases h2 : E2 = 0
                    · subst h2
                      have HRN := Lib.hid (show R = some ⟨k, aa, ba, ca, xa, ins, mk, l⟩ by rw [← HRT.out, if_pos rfl])
                      obtain ⟨x0, x1, x2, x3, x4, x5, x6, x7, xl⟩ := HX9.out.c8
                      obtain ⟨r0, r1, r2, r3, r4, r5, r6, r7, rl⟩ := HZ9.out.c8
                      obtain ⟨rf0, rf1, rf2, rf3, rf4, rf5, rf6, rf7⟩ := HZ9.out.z8
                      go_wp2_with fail
                      refine ret8 (v := .tuple #[.agg #[.int .i64 k, .int .i64 aa, .int .i64 ba, .int .i64 ca, .int .i64 xa, .int .i64 ins, .slice B n b, .int .i64 mk], .bool true]) HZ9.out HF9.out (Nat.le_succ _) rfl (fun WE z0 z1 z2 z3 z4 z5 z6 z7 => by simp [results, go_sem, z0, z1, z2, z3, z4, z5, z6, z7]) (fun WE hF => ?_)
                      rw [HRN.out]
                      exact ⟨rfl, hF⟩
                    · have h2' : (E2 != 0) = true := by simp [h2]
                      have HRN := Lib.hid (show R = none by rw [← HRT.out, if_neg h2])
                      obtain ⟨r0, r1, r2, r3, r4, r5, r6, r7, rl⟩ := HZ9.out.c8
                      obtain ⟨rf0, rf1, rf2, rf3, rf4, rf5, rf6, rf7⟩ := HZ9.out.z8
                      go_wp2_with fail
                      refine ret8 (v := .tuple #[.agg #[.int .i64 0, .int .i64 0, .int .i64 0, .int .i64 0, .int .i64 0, .int .i64 0, .slice none 0 0, .int .i64 0], .bool false]) HZ9.out HF9.out (Nat.le_succ _) rfl (fun WE z0 z1 z2 z3 z4 z5 z6 z7 => by simp [results, go_sem, z0, z1, z2, z3, z4, z5, z6, z7]) (fun WE hF => ?_)
                      rw [HRN.out]
                      exact ⟨rfl, hF⟩
                  · have hed' : (ex != 0) = true := by simp [hed]
                    subst hec
                    have HRN := Lib.hid (show R = none by rw [← HR.out]; exact thru1_err HE.out HAV.out HBV.out HCV.out HXV.out HK1.out (.inr hed))
                    obtain ⟨r0, r1, r2, r3, r4, r5, r6, r7, rl⟩ := HZ7.out.c8
                    obtain ⟨rf0, rf1, rf2, rf3, rf4, rf5, rf6, rf7⟩ := HZ7.out.z8
                    go_wp2_with fail
                    refine ret8 (v := .tuple #[.agg #[.int .i64 0, .int .i64 0, .int .i64 0, .int .i64 0, .int .i64 0, .int .i64 0, .slice none 0 0, .int .i64 0], .bool false]) HZ7.out HF7.out (Nat.le_succ _) rfl (fun WE z0 z1 z2 z3 z4 z5 z6 z7 => by simp [results, go_sem, z0, z1, z2, z3, z4, z5, z6, z7]) (fun WE hF => ?_)
                    rw [HRN.out]
                    exact ⟨rfl, hF⟩
                · have hec' : (ec != 0) = true := by simp [hec]
                  have HRN := Lib.hid (show R = none by rw [← HR.out]; exact thru1_err HE.out HAV.out HBV.out HCV.out HXV.out HK1.out (.inl hec))
                  obtain ⟨r0, r1, r2, r3, r4, r5, r6, r7, rl⟩ := HZ7.out.c8
                  obtain ⟨rf0, rf1, rf2, rf3, rf4, rf5, rf6, rf7⟩ := HZ7.out.z8
                  go_wp2_with fail
                  refine ret8 (v := .tuple #[.agg #[.int .i64 0, .int .i64 0, .int .i64 0, .int .i64 0, .int .i64 0, .int .i64 0, .slice none 0 0, .int .i64 0], .bool false]) HZ7.out HF7.out (Nat.le_succ _) rfl (fun WE z0 z1 z2 z3 z4 z5 z6 z7 => by simp [results, go_sem, z0, z1, z2, z3, z4, z5, z6, z7]) (fun WE hF => ?_)
                  rw [HRN.out]
                  exact ⟨rfl, hF⟩
              · have b1 : (k == 1) = false := by simpa using k1
                have HK0 := Lib.hid (And.intro k0 k1)
                clear k0 k1
                obtain ⟨d0, d1, d2, d3, d4, d5, d6, d7, dl⟩ := HS5.out.c8
                obtain ⟨x0, x1, x2, x3, x4, x5, x6, x7, xl⟩ := HX5.out.c8
                by_cases hlt : ba ≤ aa
                · have HLT := Lib.hid hlt
                  have HRN := Lib.hid (show R = none by rw [← HR.out]; exact thru2_bad HE.out HAV.out HBV.out HK0.out.1 HK0.out.2 HLT.out)
                  obtain ⟨r0, r1, r2, r3, r4, r5, r6, r7, rl⟩ := HZ5.out.c8
                  obtain ⟨rf0, rf1, rf2, rf3, rf4, rf5, rf6, rf7⟩ := HZ5.out.z8
                  go_wp2_with fail
                  refine ret8 (v := .tuple #[.agg #[.int .i64 0, .int .i64 0, .int .i64 0, .int .i64 0, .int .i64 0, .int .i64 0, .slice none 0 0, .int .i64 0], .bool false]) HZ5.out HF5.out (Nat.le_succ _) rfl (fun WE z0 z1 z2 z3 z4 z5 z6 z7 => by simp [results, go_sem, z0, z1, z2, z3, z4, z5, z6, z7]) (fun WE hF => ?_)
                  rw [HRN.out]
                  exact ⟨rfl, hF⟩
                · have HRT := Lib.hid (show _ = R from (thru2 HE.out HAV.out HBV.out HGG.out HK0.out.1 HK0.out.2 (by omega)).symm.trans HR.out)
                  go_upto_region 22 with (fail)
                  have HX5' := HX5
                  clear d0 d1 d2 d3 d4 d5 d6 d7 dl
                  clear x0 x1 x2 x3 x4 x5 x6 x7 xl
                  obtain ⟨x0, x1, x2, x3, x4, x5, x6, x7, xl⟩ := HX5.out.c8
                  go_wp2_with fail
                  refine (CHK.out k aa ba gf gt ins mk w5 (HRd.out.fr HF5.out (fun _ _ h => h.elim))).mono ?_
                  obtain ⟨E2, hE2⟩ : ∃ E, stepF ⟨k, aa, ba, gf, gt, ins, mk, l⟩ = E := ⟨_, rfl⟩
                  rw [hE2] at HRT ⊢
                  clear hE2
                  rintro e w9 ⟨rfl, hF9⟩
                  have HX9 := Lib.hid (HX5.out.fr hF9 (fun h => h))
                  have HF9 := Lib.hid (HF5.out.same hF9)
                  have HZ9 := Lib.hid (HZ5.out.fr hF9 (fun h => h))
                  clear hF9
                  clear x0 x1 x2 x3 x4 x5 x6 x7 xl
                  by_cases h2 : E2 = 0
                  · subst h2
                    have HRN := Lib.hid (show R = some ⟨k, aa, ba, gf, gt, ins, mk, l⟩ by rw [← HRT.out, if_pos rfl])
                    obtain ⟨x0, x1, x2, x3, x4, x5, x6, x7, xl⟩ := HX9.out.c8
                    obtain ⟨r0, r1, r2, r3, r4, r5, r6, r7, rl⟩ := HZ9.out.c8
                    obtain ⟨rf0, rf1, rf2, rf3, rf4, rf5, rf6, rf7⟩ := HZ9.out.z8
                    go_wp2_with fail
                    refine ret8 (v := .tuple #[.agg #[.int .i64 k, .int .i64 aa, .int .i64 ba, .int .i64 gf, .int .i64 gt, .int .i64 ins, .slice B n b, .int .i64 mk], .bool true]) HZ9.out HF9.out (Nat.le_succ _) rfl (fun WE z0 z1 z2 z3 z4 z5 z6 z7 => by simp [results, go_sem, z0, z1, z2, z3, z4, z5, z6, z7]) (fun WE hF => ?_)
                    rw [HRN.out]
                    exact ⟨rfl, hF⟩
                  · have h2' : (E2 != 0) = true := by simp [h2]
                    have HRN := Lib.hid (show R = none by rw [← HRT.out, if_neg h2])
                    obtain ⟨r0, r1, r2, r3, r4, r5, r6, r7, rl⟩ := HZ9.out.c8
                    obtain ⟨rf0, rf1, rf2, rf3, rf4, rf5, rf6, rf7⟩ := HZ9.out.z8
                    go_wp2_with fail
                    refine ret8 (v := .tuple #[.agg #[.int .i64 0, .int .i64 0, .int .i64 0, .int .i64 0, .int .i64 0, .int .i64 0, .slice none 0 0, .int .i64 0], .bool false]) HZ9.out HF9.out (Nat.le_succ _) rfl (fun WE z0 z1 z2 z3 z4 z5 z6 z7 => by simp [results, go_sem, z0, z1, z2, z3, z4, z5, z6, z7]) (fun WE hF => ?_)
                    rw [HRN.out]
                    exact ⟨rfl, hF⟩
      · have heb' : (eb != 0) = true := by simp [heb]
        subst hea
        have HRN := Lib.hid (show R = none by rw [← HR.out]; exact thru_err HE.out HAV.out HBV.out (.inr (.inl heb)))
        obtain ⟨r0, r1, r2, r3, r4, r5, r6, r7, rl⟩ := HZ3.out.c8
        obtain ⟨rf0, rf1, rf2, rf3, rf4, rf5, rf6, rf7⟩ := HZ3.out.z8
        go_wp2_with fail
        refine ret8 (v := .tuple #[.agg #[.int .i64 0, .int .i64 0, .int .i64 0, .int .i64 0, .int .i64 0, .int .i64 0, .slice none 0 0, .int .i64 0], .bool false]) HZ3.out HF3.out (Nat.le_succ _) rfl (fun WE z0 z1 z2 z3 z4 z5 z6 z7 => by simp [results, go_sem, z0, z1, z2, z3, z4, z5, z6, z7]) (fun WE hF => ?_)
        rw [HRN.out]
        exact ⟨rfl, hF⟩
    · have hea' : (ea != 0) = true := by simp [hea]
      have HRN := Lib.hid (show R = none by rw [← HR.out]; exact thru_err HE.out HAV.out HBV.out (.inl hea))
      obtain ⟨r0, r1, r2, r3, r4, r5, r6, r7, rl⟩ := HZ3.out.c8
      obtain ⟨rf0, rf1, rf2, rf3, rf4, rf5, rf6, rf7⟩ := HZ3.out.z8
      go_wp2_with fail
      refine ret8 (v := .tuple #[.agg #[.int .i64 0, .int .i64 0, .int .i64 0, .int .i64 0, .int .i64 0, .int .i64 0, .slice none 0 0, .int .i64 0], .bool false]) HZ3.out HF3.out (Nat.le_succ _) rfl (fun WE z0 z1 z2 z3 z4 z5 z6 z7 => by simp [results, go_sem, z0, z1, z2, z3, z4, z5, z6, z7]) (fun WE hF => ?_)
      rw [HRN.out]
      exact ⟨rfl, hF⟩
  · have h0' : (E != 0) = true := by simp [h0]
    have HRN := Lib.hid (show R = none by rw [← HR.out]; exact thru_bad (by rw [HE.out]; exact h0))
    obtain ⟨r0, r1, r2, r3, r4, r5, r6, r7, rl⟩ := HZ1.out.c8
    obtain ⟨rf0, rf1, rf2, rf3, rf4, rf5, rf6, rf7⟩ := HZ1.out.z8
    go_wp2_with fail
    refine ret8 (v := .tuple #[.agg #[.int .i64 0, .int .i64 0, .int .i64 0, .int .i64 0, .int .i64 0, .int .i64 0, .slice none 0 0, .int .i64 0], .bool false]) HZ1.out HF1.out (Nat.le_succ _) rfl (fun WE z0 z1 z2 z3 z4 z5 z6 z7 => by simp [results, go_sem, z0, z1, z2, z3, z4, z5, z6, z7]) (fun WE hF => ?_)
    rw [HRN.out]
    exact ⟨rfl, hF⟩
end Go.Proofs.YtanbfplcldloeaaGreatDoor

/- Chapter 10: what Rebase's functions keep of the steps that they are told. -/
namespace Go.Proofs.YtanbfplcldloeaaGreatDoor
open Go.RowKit
theorem right1 (a o n : Int) (ha : 0 ≤ a) (ho : 0 ≤ o) (hn : 0 ≤ n) (h : a + o ≤ 65536) (h2 : n ≤ 65536) : rightP [⟨a, o, n⟩] = true := by
  unfold rightP rightF rightF badR
  simp
  omega
theorem right2 (a o n b p q : Int) (ha : 0 ≤ a) (ho : 0 ≤ o) (hn : 0 ≤ n) (h2 : n ≤ 65536) (hb : a + o ≤ b) (hp : 0 ≤ p) (hq : 0 ≤ q) (h : b + p ≤ 65536) (h3 : q ≤ 65536) : rightP [⟨a, o, n⟩, ⟨b, p, q⟩] = true := by
  unfold rightP rightF rightF rightF badR
  simp
  omega
theorem right_map {s : StepM} (h : stepF s = 0) : rightP (stepmapF s) = true := by
  unfold stepF at h
  split at h
  · simp at h
  · rename_i hlen
    split at h
    · rename_i hk
      rw [Bool.and_eq_true] at hk
      have hk := hk.1
      unfold kindOk at hk
      unfold stepmapF
      split at hk
      · rename_i h0
        rw [if_pos h0]
        simp only [okRep, ok0S, Bool.and_eq_true, decide_eq_true_eq] at hk
        exact right1 _ _ _ (by omega) (by omega) (by omega) (by omega) (by omega)
      · rename_i h0
        rw [if_neg h0]
        split at hk
        · rename_i h1
          rw [if_pos h1]
          simp only [okAro, aroS, ok0S, Bool.and_eq_true, decide_eq_true_eq] at hk
          exact right2 _ _ _ _ _ _ (by omega) (by omega) (by omega) (by omega) (by omega) (by omega) (by omega) (by omega) (by omega)
        · rename_i h1
          rw [if_neg h1]
          rfl
    · simp at h
theorem Rngs.bound {M : Nat → Prop} {w : World} {v : Value} {l : List Rng} (h : Rngs M w v l) : Rngs (fun k => M k ∨ w.heap.size ≤ k) w v l := by
  obtain ⟨A, c, rfl, hr⟩ := h
  exact ⟨A, c, rfl, hr.bound⟩
/-- A step's map, undone. -/
def invM (s : StepM) : List Rng := if rightP (invF (stepmapF s)) = true then invF (stepmapF s) else []
/-- What the first function keeps: the maps undone, in a variable of their own. -/
structure J1R (base Xp : Nat) (pre : List StepM) (N : Nat → Prop) (w : World) (v : Value) (vs : List Value) : Prop where
  blk : Blk w Xp [v] 25
  own : w.ownsRow base 34 1 v vs.length vs
  lo : base ≤ Xp
  ne : v.ownBlock ≠ some Xp
  mine : ∀ k, (k = Xp ∨ v.ownBlock = some k) → N k
  lt : ∀ k, N k → k < w.heap.size
  len : vs.length = pre.length
  each : ∀ i (h1 : i < vs.length) (h2 : i < pre.length), Rngs N w vs[i] (invM pre[i])
def J1 (base Xp : Nat) (pre : List StepM) (N : Nat → Prop) (w : World) : Prop := ∃ v vs, J1R base Xp pre N w v vs
theorem J1R.fr0 {base Xp : Nat} {pre : List StepM} {N : Nat → Prop} {w w' : World} {v : Value} {vs : List Value} (h : J1R base Xp pre N w v vs) (hf : Fr Nob w w') : J1R base Xp pre N w' v vs :=
  ⟨h.blk.fr hf (fun h => h), own_fr h.own hf (fun _ _ h => h), h.lo, h.ne, h.mine, fun k hk => Nat.lt_of_lt_of_le (h.lt k hk) hf.size, h.len, fun i h1 h2 => (h.each i h1 h2).fr0 hf⟩
theorem infoRow : (Tryz.prog.info? 34).map (fun i => (i.zero, i.size, i.bytes)) = some (some (.slice none 0 0), 1, 24) := by kernel_rfl
theorem enter1 (args : Array Value) (w : World) : (callFunc 35 args).run Tryz.prog w = .ok (.enter 35 args) w := by kernel_rfl
theorem enter2 (args : Array Value) (w : World) : (callFunc 39 args).run Tryz.prog w = .ok (.enter 39 args) w := by kernel_rfl
set_option maxRecDepth 100000 in
set_option maxHeartbeats 4000000 in
theorem told1_call (base Xp : Nat) (pre : List StepM) (s : StepM) (N : Nat → Prop) (w : World) (B : Option Addr) (b : Nat) (hJ : J1 base Xp pre N w) (hp : pre.length < 1000) (hs : stepF s = 0) (hx : Rd N w B (tokC s.l)) :
    Calls Tryz.prog 35 #[.agg (s.cells (.slice B s.l.length b)).toArray, .pointer (some ⟨Xp, 0, none⟩)] w fun e w' => e = .returned (.tuple #[]) ∧ ∃ N', J1 base Xp (pre ++ [s]) N' w' ∧ Fr N w w' ∧ ∀ k, N' k → N k ∨ w.heap.size ≤ k := by
  obtain ⟨v, vs, hJ⟩ := hJ
  have HJ := Lib.hid hJ
  have HP := Lib.hid hp
  have HX := Lib.hid hx
  have HS := Lib.hid hs
  have hrm := right_map hs
  have HRM := Lib.hid hrm
  obtain ⟨xn, hxn⟩ : ∃ xn, s.l.length = xn := ⟨_, rfl⟩
  have HXN := Lib.hid hxn
  rw [hxn]
  clear hxn hJ hp hx hs hrm
  obtain ⟨i0, hi, hz0, hz1, hz2⟩ := info_parts infoRow
  simp only [StepM.cells]
  go_enter Tryz.func35, Tryz.ntmps35
  go_upto_region 1 with (fail)
  obtain ⟨W, hW⟩ : ∃ W, w.alloc (.cells #[.int .i64 s.k, .int .i64 s.f, .int .i64 s.t, .int .i64 s.gf, .int .i64 s.gt, .int .i64 s.ins, .slice B xn b, .int .i64 s.m] 24) = W := ⟨_, rfl⟩
  have HF := Lib.hid (show Fr Nob w W by rw [← hW]; exact (Fr.refl _ _).alloc _)
  have HB := Lib.hid (show Blk W w.heap.size [.int .i64 s.k, .int .i64 s.f, .int .i64 s.t, .int .i64 s.gf, .int .i64 s.gt, .int .i64 s.ins, .slice B xn b, .int .i64 s.m] 24 by rw [← hW]; exact Blk.new _ _ _)
  rw [hW]
  clear hW
  have b0 := HB.out.cell 0
  have b1 := HB.out.cell 1
  have b2 := HB.out.cell 2
  have b3 := HB.out.cell 3
  have b4 := HB.out.cell 4
  have b5 := HB.out.cell 5
  have b6 := HB.out.cell 6
  have b7 := HB.out.cell 7
  have hlb := HB.out.lt
  simp only [List.getElem?_cons_zero, List.getElem?_cons_succ] at b0 b1 b2 b3 b4 b5 b6 b7
  go_wp2_with fail
  have hmp := stepmap_any N s B b W (HX.out.fr HF.out (fun _ _ h => h.elim))
  simp only [StepM.cells, HXN.out] at hmp
  refine hmp.mono ?_
  clear hmp b0 b1 b2 b3 b4 b5 b6 b7 hlb
  rintro e w1 ⟨v1, rfl, hv1, hF1⟩
  rw [HS.out, if_pos rfl] at hv1
  rw [HS.out]
  obtain ⟨A1, c1, rfl, hr1⟩ := hv1
  have HR1 := Lib.hid hr1
  have HF1 := Lib.hid (HF.out.same hF1)
  clear hr1 hF1
  go_wp2_with fail
  refine (invert_any _ _ A1 c1 w1 HR1.out HRM.out).mono ?_
  rintro e w2 ⟨v2, rfl, hv2, hF2⟩
  have HV2 := Lib.hid (show Rngs (fun k => k < w1.heap.size) w2 v2 (invM s) from hv2)
  have HF2 := Lib.hid (HF1.out.same hF2)
  have HSZ := Lib.hid HF1.out.size
  clear hv2 hF2
  obtain ⟨A2, c2, rfl, hr2⟩ := HV2.out
  have HR2 := Lib.hid hr2
  clear hr2
  have HJ2 := Lib.hid (HJ.out.fr0 HF2.out)
  have x0 := HJ2.out.blk.cell 0
  have xl := HJ2.out.blk.lt
  simp only [List.getElem?_cons_zero] at x0
  obtain ⟨il, hil⟩ : ∃ il, (invM s).length = il := ⟨_, rfl⟩
  have HIL := Lib.hid hil
  rw [hil]
  rw [hil] at HV2
  clear hil
  obtain ⟨ie, hie⟩ : ∃ ie : Int, (if rightP (invF (stepmapF s)) = true then 0 else 4) = ie := ⟨_, rfl⟩
  rw [hie]
  clear hie
  have FIN : Hid (∀ w3, (w2.alloc (.cells #[.slice A2 il c2] 34)).grownBy w3 v.ownBlock → Blk w3 Xp [v] 25) := fun w3 hg => (HJ2.out.blk.alloc _).fr (Fr.of_grown hg) (fun e => HJ2.out.ne e.symm)
  have K2 : Hid (∀ (j : Nat) (u : Value), [Value.slice A2 il c2][j]? = some u → (w2.alloc (.cells #[.slice A2 il c2] 34)).cell? ((⟨w2.heap.size, 0, none⟩ : Addr).add j) = some u) := fun j u hj => by
    rw [add_lit]
    exact ((Blk.new w2 [.slice A2 il c2] 34).cell j).trans hj
  have K3 : Hid (∀ u ∈ [Value.slice A2 il c2], u.oneCell' = true) := fun u hu => by rw [List.mem_singleton.1 hu]; rfl
  have K4 : Hid (vs.length + 1 ≤ maxLen ∧ (vs.length + 1) * 24 ≤ 140737488355328 ∧ base ≤ (w2.alloc (.cells #[.slice A2 il c2] 34)).heap.size) := by
    have h1 := HP.out
    have h2 := HJ.out.len
    have h3 := HJ2.out.lo
    have h4 := HJ2.out.blk.lt
    refine ⟨by simp only [maxLen]; omega, by omega, by simp; omega⟩
  go_wp2_with (at_builtin; refine wpList_append_lies _ rfl _ _ 25 rfl base 34 i0 _ 1 24 Tryz.underlying25 hi hz0 hz1 hz2 rfl (by decide) v vs.length vs rfl (HJ2.out.own.alloc _) ⟨w2.heap.size, 0, none⟩ 1 1 [.slice A2 il c2] rfl rfl K2.out K3.out (by omega) K4.out.1 K4.out.2.1 K4.out.2.2 _ rfl ?_; intro g cap w3 hown3 hg3 hga hgl; have hX3 := FIN.out w3 hg3; have x1 := hX3.cell 0; have y1 := hX3.frozen 0; have xl1 := hX3.lt; simp only [List.getElem?_cons_zero] at x1)
  have hgX : g ≠ Xp := by
    rintro rfl
    rcases hga with h | h
    · exact HJ2.out.ne h
    · have := HJ2.out.blk.lt; simp at h; omega
  have hgN : v.ownBlock = some g ∨ w2.heap.size < g := by
    rcases hga with h | h
    · exact .inl h
    · right; simp at h; omega
  have HW4 : Hid (Fr (fun k => k = Xp ∨ v.ownBlock = some k) w2 (w3.setCell ⟨Xp, 0, none⟩ (.slice (some ⟨g, 0, none⟩) (vs.length + 1) cap))) :=
    Fr.setCell (M := fun k => k = Xp ∨ v.ownBlock = some k) (p := ⟨Xp, 0, none⟩) (((Fr.refl _ _).alloc _).trans (Fr.of_grown hg3) (fun k _ e => .inr e.symm)) (.inl (.inl rfl)) _
  have hsz4 := HW4.out.size
  have hsz2 := HF2.out.size
  have hb3 := FIN.out w3 hg3
  go_end0
  refine ⟨rfl, fun k => (N k ∧ k < w.heap.size) ∨ k = g, ⟨_, vs ++ [.slice A2 il c2], hb3.set 0 _, ?_, HJ.out.lo, ?_, ?_, ?_, ?_, ?_⟩, ?_, ?_⟩
  · rw [List.length_append, List.length_singleton]
    exact own_fr hown3 ((Fr.refl (One Xp) w3).setCell (p := ⟨Xp, 0, none⟩) (.inl rfl) _) (fun k e h => by cases e; exact hgX h)
  · intro e; cases e; exact hgX rfl
  · rintro k (rfl | h)
    · exact .inl ⟨HJ.out.mine _ (.inl rfl), HJ.out.blk.lt⟩
    · cases h; exact .inr rfl
  · rintro k (⟨_, h⟩ | rfl)
    · omega
    · have : (w3.setCell ⟨Xp, 0, none⟩ (.slice (some ⟨k, 0, none⟩) (vs.length + 1) cap)).heap.size = w3.heap.size := by simp
      omega
  · rw [List.length_append, List.length_append, HJ.out.len]; rfl
  · intro i h1 h2
    by_cases hi : i < vs.length
    · have hi2 : i < pre.length := by rw [← HJ.out.len]; exact hi
      rw [List.getElem_append_left hi, List.getElem_append_left hi2]
      refine (((HJ2.out.each i hi hi2).bound).fr HW4.out (fun k _ h => .inl (HJ2.out.mine k h))).mono ?_
      rintro k (⟨h, _⟩ | rfl)
      · exact .inl h
      · rcases hgN with h | h
        · exact .inl (HJ.out.mine _ (.inr h))
        · exact .inr (by omega)
    · have hie : i = vs.length := by rw [List.length_append, List.length_singleton] at h1; omega
      subst hie
      have hpl : vs.length = pre.length := HJ.out.len
      rw [List.getElem_append_right (Nat.le_refl _), List.getElem_append_right (by omega)]
      simp only [Nat.sub_self, List.getElem_singleton]
      refine ((Rngs.bound ⟨A2, c2, by rw [HIL.out], HR2.out⟩).fr HW4.out (fun k hk h => ?_)).mono ?_
      · refine .inl (Nat.lt_of_lt_of_le ?_ HSZ.out)
        rcases h with rfl | h
        · exact HJ.out.blk.lt
        · exact (World.ownsRow.lt HJ.out.own k h).2
      · rintro k (⟨_, h⟩ | rfl)
        · exact .inl (Nat.lt_of_lt_of_le h HSZ.out)
        · rcases hgN with h | h
          · exact .inl (Nat.lt_of_lt_of_le (World.ownsRow.lt HJ.out.own _ h).2 HSZ.out)
          · exact .inr (by omega)
  · exact HF2.out.any.trans HW4.out (fun k _ h => HJ.out.mine k h)
  · rintro k (⟨h, _⟩ | rfl)
    · exact .inl h
    · rcases hgN with h | h
      · exact .inl (HJ.out.mine _ (.inr h))
      · exact .inr (by omega)
end Go.Proofs.YtanbfplcldloeaaGreatDoor

/- Chapter 10: the function that adds each step's map. -/
namespace Go.Proofs.YtanbfplcldloeaaGreatDoor
open Go.RowKit
/-- A map without its place in memory. -/
def OneM.pure (x : OneM) : OneM := ⟨x.l, x.mir, none, 0⟩
def mapM (s : StepM) : OneM := ⟨stepmapF s, -1, none, 0⟩
structure J2R (base Xm m : Nat) (L0 : List OneM) (pre : List StepM) (N : Nat → Prop) (w : World) (v : Value) (ms : List OneM) : Prop where
  mp : Mp N base w m v ms
  box : Blk w Xm [.pointer (some ⟨m, 0, none⟩)] 26
  nbox : ¬ N Xm
  lt : ∀ k, N k → k < w.heap.size
  sh : ms.map OneM.pure = L0 ++ pre.map mapM
def J2 (base Xm m : Nat) (L0 : List OneM) (pre : List StepM) (N : Nat → Prop) (w : World) : Prop := ∃ v ms, J2R base Xm m L0 pre N w v ms
theorem J2R.fr0 {base Xm m : Nat} {L0 : List OneM} {pre : List StepM} {N : Nat → Prop} {w w' : World} {v : Value} {ms : List OneM} (h : J2R base Xm m L0 pre N w v ms) (hf : Fr Nob w w') : J2R base Xm m L0 pre N w' v ms :=
  ⟨h.mp.fr0 hf, h.box.fr hf (fun h => h), h.nbox, fun k hk => Nat.lt_of_lt_of_le (h.lt k hk) hf.size, h.sh⟩
theorem J2R.len {base Xm m : Nat} {L0 : List OneM} {pre : List StepM} {N : Nat → Prop} {w : World} {v : Value} {ms : List OneM} (h : J2R base Xm m L0 pre N w v ms) : ms.length = L0.length + pre.length := by
  have := congrArg List.length h.sh
  simpa using this
set_option maxRecDepth 100000 in
set_option maxHeartbeats 4000000 in
theorem told2_one (base Xm m : Nat) (L0 : List OneM) (pre : List StepM) (s : StepM) (N : Nat → Prop) (w : World) (B : Option Addr) (b : Nat) (v : Value) (ms : List OneM) (hJ : J2R base Xm m L0 pre N w v ms) (hp : L0.length + pre.length < 4096) (hs : stepF s = 0) (hx : Rd N w B (tokC s.l)) :
    Calls Tryz.prog 39 #[.agg (s.cells (.slice B s.l.length b)).toArray, .pointer (some ⟨Xm, 0, none⟩)] w fun e w' => e = .returned (.tuple #[]) ∧ ∃ N' v' ms', J2R base Xm m L0 (pre ++ [s]) N' w' v' ms' ∧ Fr (MB m v) w w' ∧ (∀ k, N' k → N k ∨ w.heap.size ≤ k) ∧ (∀ k, N k → N' k) ∧ (∀ k, MB m v' k → MB m v k ∨ w.heap.size ≤ k) := by
  have hlen := hJ.len
  have HJ := Lib.hid hJ
  have HP := Lib.hid (show ms.length < 4096 by omega)
  have HX := Lib.hid hx
  have HS := Lib.hid hs
  have hrm := right_map hs
  have HRM := Lib.hid hrm
  obtain ⟨xn, hxn⟩ : ∃ xn, s.l.length = xn := ⟨_, rfl⟩
  have HXN := Lib.hid hxn
  rw [hxn]
  clear hxn hJ hp hx hs hrm hlen
  simp only [StepM.cells]
  go_enter Tryz.func39, Tryz.ntmps39
  go_upto_region 1 with (fail)
  obtain ⟨W, hW⟩ : ∃ W, w.alloc (.cells #[.int .i64 s.k, .int .i64 s.f, .int .i64 s.t, .int .i64 s.gf, .int .i64 s.gt, .int .i64 s.ins, .slice B xn b, .int .i64 s.m] 24) = W := ⟨_, rfl⟩
  have HF := Lib.hid (show Fr Nob w W by rw [← hW]; exact (Fr.refl _ _).alloc _)
  have HB := Lib.hid (show Blk W w.heap.size [.int .i64 s.k, .int .i64 s.f, .int .i64 s.t, .int .i64 s.gf, .int .i64 s.gt, .int .i64 s.ins, .slice B xn b, .int .i64 s.m] 24 by rw [← hW]; exact Blk.new _ _ _)
  rw [hW]
  clear hW
  have b0 := HB.out.cell 0
  have b1 := HB.out.cell 1
  have b2 := HB.out.cell 2
  have b3 := HB.out.cell 3
  have b4 := HB.out.cell 4
  have b5 := HB.out.cell 5
  have b6 := HB.out.cell 6
  have b7 := HB.out.cell 7
  have hlb := HB.out.lt
  simp only [List.getElem?_cons_zero, List.getElem?_cons_succ] at b0 b1 b2 b3 b4 b5 b6 b7
  go_wp2_with fail
  have hmp := stepmap_any N s B b W (HX.out.fr HF.out (fun _ _ h => h.elim))
  simp only [StepM.cells, HXN.out] at hmp
  refine hmp.mono ?_
  clear hmp b0 b1 b2 b3 b4 b5 b6 b7 hlb
  rintro e w1 ⟨v1, rfl, hv1, hF1⟩
  rw [HS.out, if_pos rfl] at hv1
  rw [HS.out]
  obtain ⟨A1, c1, rfl, hr1⟩ := hv1
  have HR1 := Lib.hid hr1
  have HF1 := Lib.hid (HF.out.same hF1)
  have HSZ := Lib.hid HF.out.size
  clear hr1 hF1
  have HJ1 := Lib.hid (HJ.out.fr0 HF1.out)
  have x0 := HJ1.out.box.cell 0
  have xl := HJ1.out.box.lt
  simp only [List.getElem?_cons_zero] at x0
  go_wp2_with fail
  refine (posadd_any N _ base m v ms (stepmapF s) A1 c1 w1 HJ1.out.mp HR1.out HRM.out HP.out).mono ?_
  rintro e w2 ⟨rfl, v', A', c', hM2, hF2, hown⟩
  have HM2 := Lib.hid hM2
  have HF2 := Lib.hid hF2
  have HOW := Lib.hid hown
  clear hM2 hF2 hown x0 xl
  go_wp2_with fail
  go_end0
  have hown0 : ∀ k, v'.ownBlock = some k → v.ownBlock = some k ∨ w1.heap.size ≤ k := fun k hk => by
    rcases HOW.out with h | ⟨g, h, hg⟩
    · exact .inl (by rw [← h]; exact hk)
    · rw [hk] at h; cases h; exact .inr hg
  have hown : ∀ k, v'.ownBlock = some k → N k ∨ w1.heap.size ≤ k := fun k hk => by
    rcases hown0 k hk with h | h
    · exact .inl (HJ.out.mp.mine _ (.inr h))
    · exact .inr h
  have hs1 := HF1.out.size
  have hxl := HJ.out.box.lt
  refine ⟨rfl, _, v', _, ⟨HM2.out, HJ1.out.box.fr HF2.out (fun h => HJ.out.nbox (HJ.out.mp.mine _ h)), ?_, ?_, ?_⟩, ?_, ?_, ?_, ?_⟩
  · rintro (⟨h, _⟩ | h)
    · exact HJ.out.nbox h
    · rcases hown _ h with h | h
      · exact HJ.out.nbox h
      · omega
  · rintro k (⟨_, h⟩ | h)
    · exact Nat.lt_of_lt_of_le h HF2.out.size
    · exact (World.ownsRow.lt HM2.out.own k h).2
  · rw [List.map_append, HJ.out.sh, List.map_append, List.append_assoc]
    rfl
  · exact HF1.out.any.trans HF2.out (fun k _ h => h)
  · rintro k (⟨h, _⟩ | h)
    · exact .inl h
    · rcases hown _ h with h | h
      · exact .inl h
      · exact .inr (by omega)
  · intro k hk
    have := HJ.out.lt k hk
    exact .inl ⟨hk, by omega⟩
  · rintro k (rfl | h)
    · exact .inl (.inl rfl)
    · rcases hown0 _ h with h | h
      · exact .inl (.inr h)
      · exact .inr (by omega)
theorem told2_call (base Xm m mm : Nat) (L0 : List OneM) (hmm : L0.length + mm ≤ 4096) (pre : List StepM) (s : StepM) (N : Nat → Prop) (w : World) (B : Option Addr) (b : Nat) (hJ : J2 base Xm m L0 pre N w) (hp : pre.length < mm) (hs : stepF s = 0) (hx : Rd N w B (tokC s.l)) :
    Calls Tryz.prog 39 #[.agg (s.cells (.slice B s.l.length b)).toArray, .pointer (some ⟨Xm, 0, none⟩)] w fun e w' => e = .returned (.tuple #[]) ∧ ∃ N', J2 base Xm m L0 (pre ++ [s]) N' w' ∧ Fr N w w' ∧ ∀ k, N' k → N k ∨ w.heap.size ≤ k := by
  obtain ⟨v, ms, hJ⟩ := hJ
  refine (told2_one base Xm m L0 pre s N w B b v ms hJ (by omega) hs hx).mono ?_
  rintro e w' ⟨he, N', v', ms', h1, h2, h3, _, _⟩
  exact ⟨he, N', ⟨v', ms', h1⟩, h2.mono (fun k _ h => hJ.mp.mine k h), h3⟩
theorem told1 (base Xp : Nat) : Told 35 #[.pointer (some ⟨Xp, 0, none⟩)] 1000 (J1 base Xp) where
  enter := enter1
  still := fun _ _ _ _ ⟨v, vs, h⟩ hf => ⟨v, vs, h.fr0 hf⟩
  lt := fun _ _ _ ⟨_, _, h⟩ => h.lt
  call := fun pre s N w B b hJ hp hs hx => told1_call base Xp pre s N w B b hJ hp hs hx
theorem told2 (base Xm m mm : Nat) (L0 : List OneM) (hmm : L0.length + mm ≤ 4096) : Told 39 #[.pointer (some ⟨Xm, 0, none⟩)] mm (J2 base Xm m L0) where
  enter := enter2
  still := fun _ _ _ _ ⟨v, ms, h⟩ hf => ⟨v, ms, h.fr0 hf⟩
  lt := fun _ _ _ ⟨_, _, h⟩ => h.lt
  call := fun pre s N w B b hJ hp hs hx => told2_call base Xm m mm L0 hmm pre s N w B b hJ hp hs hx
end Go.Proofs.YtanbfplcldloeaaGreatDoor

/- Chapter 10: steps behind others, as a plain function. -/
namespace Go.Proofs.YtanbfplcldloeaaGreatDoor
open Go.RowKit
theorem OneM.pure_l (x : OneM) : x.pure.l = x.l := rfl
theorem OneM.pure_mir (x : OneM) : x.pure.mir = x.mir := rfl
theorem lAt_pure (ms : List OneM) (j : Int) : lAt (ms.map OneM.pure) j = lAt ms j := by
  unfold lAt
  rw [List.getElem?_map, Option.map_map]
  rfl
theorem mpGo_pure (ms : List OneM) (side : Int) : ∀ (fu i : Nat) (a : Int) (g : Bool), mpGo (ms.map OneM.pure) side fu i a g = mpGo ms side fu i a g
  | 0, _, _, _ => rfl
  | fu + 1, i, a, g => by
    rw [mpGo, mpGo, List.getElem?_map]
    cases ms[i]? with
    | none => rfl
    | some x =>
      simp only [Option.map_some, OneM.pure_l, OneM.pure_mir, lAt_pure, mpGo_pure ms side fu]
theorem mapsF_pure (ms : List OneM) (st p side : Int) : mapsF (ms.map OneM.pure) st p side = mapsF ms st p side := by
  unfold mapsF
  rw [List.length_map, mpGo_pure]
theorem stepThru_pure (ms : List OneM) (fr : Int) (s : StepM) : stepThru (ms.map OneM.pure) fr s = stepThru ms fr s := by
  unfold stepThru
  simp only [mapsF_pure]
theorem stepThru_l {ms : List OneM} {fr : Int} {s x : StepM} (h : stepThru ms fr s = some x) : x.l = s.l ∧ stepF x = 0 := by
  have key : ∀ r : StepM × Bool, r.1.l = s.l → (if r.2 = true ∧ stepF r.1 = 0 then some r.1 else none) = some x → x.l = s.l ∧ stepF x = 0 := fun r hl h => by
    split at h
    · rename_i hh
      cases h
      exact ⟨hl, hh.2⟩
    · cases h
  unfold stepThru at h
  split at h
  · cases h
  · refine key _ ?_ h
    split
    · rfl
    · split <;> rfl
theorem mirL_pure (ms : List OneM) (i j : Nat) : (mirL ms i j).map OneM.pure = mirL (ms.map OneM.pure) i j := by
  have h1 : ∀ (l : List OneM) (k : Nat) (u : Int), (l.modify k fun x => { x with mir := u }).map OneM.pure = (l.map OneM.pure).modify k fun x => { x with mir := u } := by
    intro l k u
    induction l generalizing k with
    | nil => cases k <;> rfl
    | cons x l ih => cases k with
      | zero => rfl
      | succ k => simp only [List.modify_succ_cons, List.map_cons, ih]
  unfold mirL
  rw [h1, h1]
/-- A map undone, as a mapping holds it. -/
def undoM (s : StepM) : OneM := ⟨invM s, -1, none, 0⟩
theorem right_inv (s : StepM) : rightP (invM s) = true := by
  unfold invM
  split
  · assumption
  · rfl
/-- What Rebase hands back. -/
structure RebM where
  doc : List Tok
  steps : List StepM
  kept : List Nat
/-- The own steps, one by one, behind what has been added; n: how many own steps there are. -/
def rbGo (rs : List RuleM) (g : List Grp) (n : Nat) : List StepM → Nat → List OneM → RebM → RebM
  | [], _, _, r => r
  | s :: rest, i, ms, r =>
    match stepThru ms ((n : Int) - i) s with
    | none => rbGo rs g n rest (i + 1) ms r
    | some x =>
      if doE rs g x r.doc = 0 then rbGo rs g n rest (i + 1) (mirL (ms ++ [mapM x]) (n - 1 - i) ms.length) ⟨doF x r.doc, r.steps ++ [x], r.kept ++ [i]⟩
      else rbGo rs g n rest (i + 1) ms r
def rebaseF (rs : List RuleM) (g : List Grp) (base : List Tok) (own over : List StepM) : RebM × Int :=
  if (checkF rs g base).2 ≠ 0 then (⟨[], [], []⟩, (checkF rs g base).2)
  else if 1000 < max own.length over.length then (⟨[], [], []⟩, 2)
  else if (runF rs g own base).2 ≠ 0 then (⟨[], [], []⟩, numF (runF rs g own base).2)
  else if (runF rs g over base).2 ≠ 0 then (⟨[], [], []⟩, numF (runF rs g over base).2)
  else (rbGo rs g own.length own 0 ((own.map undoM).reverse ++ over.map mapM) ⟨(runF rs g over base).1, [], []⟩, 0)
end Go.Proofs.YtanbfplcldloeaaGreatDoor

/- Chapter 10: two mappings side by side, the program's and the reference's, to which the same maps are added. -/
namespace Go.Proofs.YtanbfplcldloeaaGreatDoor
open Go.RowKit
theorem Mp.low {N : Nat → Prop} {base m : Nat} {w : World} {v : Value} {ms : List OneM} (h : Mp N base w m v ms) : ∀ k, MB m v k → base ≤ k ∧ k < w.heap.size := fun k hk => by
  rcases hk with rfl | hk
  · exact ⟨h.lo, h.blk.lt⟩
  · exact World.ownsRow.lt h.own k hk
theorem RMp.low {N : Nat → Prop} {base m : Nat} {w : World} {v : Value} {ms : List OneM} (h : RMp N base w m v ms) : ∀ k, MB m v k → base ≤ k ∧ k < w.heap.size := fun k hk => by
  rcases hk with rfl | hk
  · exact ⟨h.lo, h.blk.lt⟩
  · exact World.ownsRow.lt h.own k hk
/-- The two, and a step's block. -/
structure St (w0 wr : World) (X P Q : Nat) (cs : List Value) (N : Nat → Prop) (vP vR : Value) (ms msR : List OneM) : Prop where
  fr : Fr Nob w0 wr
  x : Blk wr X cs 24
  mp : Mp N (X + 1) wr P vP ms
  rm : RMp (fun k => w0.heap.size ≤ k) (X + 1) wr Q vR msR
  sub : ∀ k, MB Q vR k → N k
  dis : ∀ k, MB P vP k → MB Q vR k → False
  lo : w0.heap.size ≤ X
def StE (w0 wr : World) (X P Q : Nat) (cs : List Value) (ms msR : List OneM) : Prop := ∃ N vP vR, St w0 wr X P Q cs N vP vR ms msR
theorem StE.fr0 {w0 wr w' : World} {X P Q : Nat} {cs : List Value} {ms msR : List OneM} (h : StE w0 wr X P Q cs ms msR) (hf : Fr Nob wr w') : StE w0 w' X P Q cs ms msR := by
  obtain ⟨N, vP, vR, h⟩ := h
  exact ⟨N, vP, vR, h.fr.same hf, h.x.fr hf (fun h => h), h.mp.fr0 hf, h.rm.fr0 hf, h.sub, h.dis, h.lo⟩
theorem st_padd {w0 wr : World} {X P Q : Nat} {cs : List Value} {ms msR : List OneM} (h : StE w0 wr X P Q cs ms msR) (xs : List Rng) (A : Option Addr) (c : Nat) (hr : Rd Nob wr A (rngC xs)) (hl : xs.length ≤ 9223372036854775807) (hn : ms.length < 4096) :
    Calls Tryz.prog 10 #[.pointer (some ⟨P, 0, none⟩), .slice A xs.length c] wr fun e w' => (∃ r, e = .returned (.int .i64 r)) ∧ ∃ ms', ms'.map OneM.pure = (if rightP xs = true then ms.map OneM.pure ++ [OneM.pure ⟨xs, -1, A, c⟩] else ms.map OneM.pure) ∧ StE w0 w' X P Q cs ms' msR := by
  obtain ⟨N, vP, vR, h⟩ := h
  cases hx : rightP xs with
  | false =>
    refine (posadd_bad N Nob (X + 1) P vP ms xs A c wr h.mp hr hx hl).mono ?_
    rintro e w' ⟨rfl, hF⟩
    exact ⟨⟨_, rfl⟩, ms, by simp, StE.fr0 ⟨N, vP, vR, h⟩ hF⟩
  | true =>
    refine (posadd_any N Nob (X + 1) P vP ms xs A c wr h.mp hr hx hn).mono ?_
    rintro e w' ⟨rfl, v', A', c', hM, hF, hown⟩
    have hlow := h.mp.low
    have hlowR := h.rm.low
    have hx1 : ¬ MB P vP X := fun e => by have := (hlow X e).1; omega
    have hFw : Fr Nob w0 w' := h.fr.trans hF (fun k hk e => by have := (hlow k e).1; have := h.lo; omega)
    refine ⟨⟨_, rfl⟩, ms ++ [⟨xs, -1, A', c'⟩], by simp [OneM.pure], _, v', vR, hFw, h.x.fr hF hx1, hM, h.rm.fr hF (fun k _ hk => by have := (hlow k hk).1; have := h.lo; show w0.heap.size ≤ k; omega) (fun k hk hk' => h.dis k hk' hk), ?_, ?_, h.lo⟩
    · exact fun k hk => .inl ⟨h.sub k hk, (hlowR k hk).2⟩
    · intro k hk hk'
      rcases hk with rfl | hk
      · exact h.dis _ (.inl rfl) hk'
      · rcases hown with e | ⟨g, e, hg⟩
        · exact h.dis k (.inr (by rw [← e]; exact hk)) hk'
        · rw [e] at hk
          have : g = k := by injection hk
          have := (hlowR k hk').2
          omega
theorem st_radd {w0 wr : World} {X P Q : Nat} {cs : List Value} {ms msR : List OneM} (h : StE w0 wr X P Q cs ms msR) (xs : List Rng) (A : Option Addr) (c : Nat) (hr : Rd (fun k => w0.heap.size ≤ k) wr A (rngC xs)) (hn : msR.length < 4096) :
    Calls Tryz.prog 11 #[.pointer (some ⟨Q, 0, none⟩), .slice A xs.length c] wr fun e w' => (∃ r, e = .returned (.int .i64 r)) ∧ ∃ ms', ms'.map OneM.pure = (if rightP xs = true then msR.map OneM.pure ++ [OneM.pure ⟨xs, -1, A, c⟩] else msR.map OneM.pure) ∧ StE w0 w' X P Q cs ms ms' := by
  obtain ⟨N, vP, vR, h⟩ := h
  cases hx : rightP xs with
  | false =>
    refine (ref8add_bad _ Q xs A c wr hr hx).mono ?_
    rintro e w' ⟨rfl, hF⟩
    exact ⟨⟨_, rfl⟩, msR, by simp, StE.fr0 ⟨N, vP, vR, h⟩ hF⟩
  | true =>
    refine (ref8add_any _ (X + 1) Q vR msR xs A c wr h.rm hr hx hn).mono ?_
    rintro e w' ⟨rfl, v', hM, hF, hown⟩
    have hlow := h.mp.low
    have hlowR := h.rm.low
    have hx1 : ¬ MB Q vR X := fun e => by have := (hlowR X e).1; omega
    have hFw : Fr Nob w0 w' := h.fr.trans hF (fun k hk e => by have := (hlowR k e).1; have := h.lo; omega)
    have hv : ∀ k, MB Q v' k → MB Q vR k ∨ wr.heap.size ≤ k := fun k hk => by
      rcases hk with rfl | hk
      · exact .inl (.inl rfl)
      · rcases hown with e | ⟨g, e, hg⟩
        · exact .inl (.inr (by rw [← e]; exact hk))
        · rw [e] at hk
          have : g = k := by injection hk
          exact .inr (by omega)
    have hge : ∀ k, MB Q v' k → w0.heap.size ≤ k := fun k hk => by
      rcases hv k hk with h' | h'
      · have := (hlowR k h').1
        have := h.lo
        omega
      · have := h.fr.size
        omega
    have hrows : ∀ (B : Option Addr) (l : List Rng), Rd (fun k => w0.heap.size ≤ k) wr B (rngC l) → Rd (fun k => w0.heap.size ≤ k) w' B (rngC l) := fun B l hb => hb.fr hF (fun k _ hk => by have := (hlowR k hk).1; have := h.lo; show w0.heap.size ≤ k; omega)
    refine ⟨⟨_, rfl⟩, msR ++ [⟨xs, -1, A, c⟩], by simp [OneM.pure], _, vP, v', hFw, h.x.fr hF hx1, (h.mp.bound).fr hF (fun k _ hk => .inl (h.sub k hk)) (fun k hk hk' => h.dis k hk hk'), ⟨hM.blk, hM.lo, hM.own, hM.ne, hge, fun x hx' => ?_, hM.right, hM.mirs⟩, ?_, ?_, h.lo⟩
    · rcases List.mem_append.1 hx' with hx' | hx'
      · exact hrows _ _ (h.rm.rows x hx')
      · rw [List.mem_singleton.1 hx']
        exact hrows _ _ hr
    · intro k hk
      rcases hv k hk with h' | h'
      · exact .inl (h.sub k h')
      · exact .inr h'
    · intro k hk hk'
      rcases hv k hk' with h' | h'
      · exact h.dis k hk h'
      · have := (hlow k hk).2
        omega
end Go.Proofs.YtanbfplcldloeaaGreatDoor

/- Chapter 7: a set of strings, as a map to true. -/
namespace Go.Proofs.YtanbfplcldloeaaGreatDoor
open Go.RowKit
/-- A map that says true of some strings, in the order in which they came. -/
def SetM (w : World) (b : Nat) (l : List ByteArray) : Prop := ∃ es clock, w.heap[b]? = some (.map es clock) ∧ es.toList.map (fun e => (e.key, e.val)) = l.map (fun s => (Value.string s, Value.bool true))
theorem SetM.fr {M : Nat → Prop} {w w' : World} {b : Nat} {l : List ByteArray} (h : SetM w b l) (hf : Fr M w w') (hM : ¬ M b) : SetM w' b l := by
  obtain ⟨es, c, hb, he⟩ := h
  exact ⟨es, c, by rw [hf.block b (lt_of_blk hb) hM]; exact hb, he⟩
theorem SetM.lt {w : World} {b : Nat} {l : List ByteArray} (h : SetM w b l) : b < w.heap.size := by
  obtain ⟨es, c, hb, he⟩ := h
  exact lt_of_blk hb
theorem SetM.keys {es : Array MapEntry} {l : List ByteArray} (he : es.toList.map (fun e => (e.key, e.val)) = l.map (fun s => (Value.string s, Value.bool true))) :
    (∀ x ∈ es.toList, MapKept.IsKey .string x.key ∧ x.val = .bool true ∧ ∃ s ∈ l, x.key = .string s) ∧ ∀ s ∈ l, ∃ x ∈ es.toList, x.key = .string s := by
  refine ⟨fun x hx => ?_, fun s hs => ?_⟩
  · have h1 : (x.key, x.val) ∈ l.map (fun s => (Value.string s, Value.bool true)) := by rw [← he]; exact List.mem_map.2 ⟨x, hx, rfl⟩
    obtain ⟨s, hs, e⟩ := List.mem_map.1 h1
    injection e with e1 e2
    rw [← e1, ← e2]
    exact ⟨trivial, rfl, s, hs, rfl⟩
  · have h1 : (Value.string s, Value.bool true) ∈ es.toList.map (fun e => (e.key, e.val)) := by rw [he]; exact List.mem_map.2 ⟨s, hs, rfl⟩
    obtain ⟨x, hx, e⟩ := List.mem_map.1 h1
    injection e with e1 e2
    exact ⟨x, hx, e1⟩
section
variable {P : Program} {w : World} {b : Nat} {l : List ByteArray} {t k e : TypeId}
theorem run_seen (ht : P.underlying t = some (.map k e)) (hk : P.underlying k = some .string) (hz : (zeroValue e).run P w = .ok (.bool false) w) (h : SetM w b l) (s : ByteArray) (hs : s ∉ l) :
    (Instr.lookup t (.map (some b)) (.string s) false).run P w = .ok (.bool false) w := by
  obtain ⟨es, c, hb, he⟩ := h
  obtain ⟨h1, h2⟩ := SetM.keys he
  have h3 : (Instr.checkKey es.isEmpty 10000 k (.string s)).run P w = .ok () w := MapKept.run_checkKey hk (k := .string s) (by simp [MapKept.IsKey]) es.isEmpty 9999
  rcases MapKept.findNow_spec (d := .string) (k := .string s) trivial es.toList 0 (fun x hx => (h1 x hx).1) with ⟨h4, _⟩ | ⟨j, x, _, hj, hx⟩
  · have h5 := MapKept.run_findKey (P := P) (w := w) hk h4
    simp only [Instr.lookup, Sem.run_bind, Sem.run_pure, run_underlying ht, Result.andThen, MapKept.run_getObj_map hb, h3, h5, hz]
    rfl
  · obtain ⟨_, _, s', hs', e'⟩ := h1 x (List.mem_of_getElem? hj)
    rw [hx] at e'
    injection e' with e'
    exact absurd (e' ▸ hs') hs
theorem run_see (ht : P.underlying t = some (.map k e)) (hk : P.underlying k = some .string) (h : SetM w b l) (s : ByteArray) (hs : s ∉ l) :
    ∃ W, (Instr.mapUpdate t (.map (some b)) (.string s) (.bool true)).run P w = .ok () W ∧ SetM W b (l ++ [s]) ∧ Fr (One b) w W := by
  obtain ⟨es, c, hb, he⟩ := h
  obtain ⟨h1, h2⟩ := SetM.keys he
  have h3 : (Instr.checkKey false 10000 k (.string s)).run P w = .ok () w := MapKept.run_checkKey hk (k := .string s) (by simp [MapKept.IsKey]) false 9999
  rcases MapKept.findNow_spec (d := .string) (k := .string s) trivial es.toList 0 (fun x hx => (h1 x hx).1) with ⟨h4, _⟩ | ⟨j, x, _, hj, hx⟩
  · have h5 := MapKept.run_findKey (P := P) (w := w) hk h4
    refine ⟨put w b (.map (es.push ⟨.string s, .bool true, c⟩) (c + 1)), ?_, ⟨_, _, put_at hb, ?_⟩, fr_put (Fr.refl (One b) w) (.inl (show One b b from rfl)) _⟩
    · simp only [Instr.mapUpdate, Sem.run_bind, run_underlying ht, Result.andThen, MapKept.run_getObj_map hb, h3, h5]
      rw [MapKept.run_setObj_map _ hb]
      rfl
    · rw [Array.toList_push, List.map_append, he, List.map_append]
      rfl
  · obtain ⟨_, _, s', hs', e'⟩ := h1 x (List.mem_of_getElem? hj)
    rw [hx] at e'
    injection e' with e'
    exact absurd (e' ▸ hs') hs
theorem SetM.new (w : World) : SetM (w.alloc (.map #[] 0)) w.heap.size [] := ⟨#[], 0, (MapKept.heap_alloc w _).1, rfl⟩
end
end Go.Proofs.YtanbfplcldloeaaGreatDoor
