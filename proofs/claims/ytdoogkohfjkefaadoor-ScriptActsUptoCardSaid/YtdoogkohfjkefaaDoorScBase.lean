/- Chapter 22: what the library's functions ask of the world; their contracts as 'Fr'. -/
import Derived.Test.YtdoogkohfjkefaaDoorBase
import Derived.Test.YtdoogkohfjkefaaDoorRd
import Derived.Test.YtdoogkohfjkefaaDoorScShelf
namespace Go.Proofs.YtdoogkohfjkefaaDoor
open Go.RowKit
def bs (l : List UInt8) : ByteArray := ⟨l.toArray⟩
theorem bs_size (l : List UInt8) : (bs l).size = l.length := by simp [bs, ByteArray.size]
theorem bs_list (l : List UInt8) : (bs l).data.toList = l := by simp [bs]
theorem bs_append (a b : List UInt8) : bs a ++ bs b = bs (a ++ b) := by
  apply ByteArray.ext
  simp [bs]
theorem bs_of (s : ByteArray) : bs s.data.toList = s := by
  apply ByteArray.ext
  simp [bs]
theorem bs_toList (l : List UInt8) : (bs l).toList = l := by rw [ByteArray.toList_eq, bs_list]
theorem w64 (i : Int) (h1 : -9223372036854775808 ≤ i) (h2 : i < 9223372036854775808) : wrap64 i = i := by unfold wrap64; omega
/-- The variable internal/bytealg.MaxLen is there; the table of powers is laid. -/
structure SW (w : World) : Prop where
  len : ∃ m, w.cell? ⟨0, 0, none⟩ = some (.int .i64 m)
  tab : Lib.TabIs Tryd.prog w "internal/strconv.uint64pow10" .u64 Lib.pow10Tab
theorem SW.fr {w w' : World} (h : SW w) (hf : Fr Nob w w') : SW w' := by
  refine ⟨?_, ?_⟩
  · obtain ⟨m, hm⟩ := h.len
    exact ⟨m, (hf.cell (p := ⟨0, 0, none⟩) (cell_lt hm) (fun h => h)).trans hm⟩
  · have ht : w.var? Tryd.prog "internal/strconv.uint64pow10" = some _ := h.tab
    show w'.var? Tryd.prog "internal/strconv.uint64pow10" = some _
    rw [← ht]
    have hg : Tryd.prog.globalNamed "internal/strconv.uint64pow10" = some 1 := by kernel_rfl
    unfold World.var? at ht ⊢
    rw [hg] at ht ⊢
    simp only [Option.bind_some] at ht ⊢
    cases hb : w.heap[1]? with
    | none => rw [hb] at ht; cases ht
    | some o => rw [hf.blk hb (fun h => h)]
theorem fr_grow {w : World} (k : Nat) (os : Array Obj) : Fr Nob w (Go.Sort.grow (w.drewN k) os) := by
  refine ⟨rfl, rfl, rfl, ?_, fun b hb _ => ?_⟩
  · show w.heap.size ≤ (w.heap ++ os).size
    simp
  · show (w.heap ++ os)[b]? = w.heap[b]?
    rw [Array.getElem?_append_left hb]
theorem itoa_any (n : Int) (h0 : -9223372036854775808 ≤ n) (h1 : n ≤ 9223372036854775807) (w : World) (h : SW w) :
    Calls Tryd.prog 19 #[.int .i64 n] w fun e w' => e = .returned (.string (bs (Lib.itoa n))) ∧ Fr Nob w w' :=
  (strconv_Itoa n h0 h1 w h.tab).mono fun _ _ ⟨he, k, os, hw⟩ => ⟨he, hw ▸ fr_grow k os⟩
end Go.Proofs.YtdoogkohfjkefaaDoor
