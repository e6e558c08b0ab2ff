/- A world that holds what the rows list; what the listing gives the walk. Conditions: none. -/
import Derived.Test.YtgiicfjibngooaaDoorCf
import Derived.Test.YtgiicfjibngooaaDoorTT24
import Derived.Test.YtgiicfjibngooaaDoorSh24
import Derived.Test.YtgiicfjibngooaaDoorRows
import Derived.Test.YtgiicfjibngooaaDoorJ1
namespace Go.Proofs.YtgiicfjibngooaaDoor
open Go Go.RowKit Go.Lib Go.Shelf
set_option linter.unusedVariables false
set_option maxRecDepth 100000
theorem strV (s : ByteArray) : Value.string s = .string (strOf s.data.toList) := rfl
noncomputable def lowW : Nat := (World.holding Tryd.prog default ⟨#[], #[], []⟩).heap.size
noncomputable def laidWorld (os : Os) : World :=
  let w0 := World.holding Tryd.prog os ⟨#[.cells #[.string ⟨#[118, 97, 108, 117, 101, 32, 111, 117, 116, 32, 111, 102, 32, 114, 97, 110, 103, 101]⟩] 121, .cells #[.string ⟨#[105, 110, 118, 97, 108, 105, 100, 32, 115, 121, 110, 116, 97, 120]⟩] 121], #[], []⟩
  let put (h : Array Obj) (g : Nat) (cs : Array Value) : Array Obj := h.modify g fun
    | .cells _ t frozen => .cells cs t frozen
    | o => o
  let h0 := w0.heap
  let h1 := put h0 6 #[.int .u8 0, .int .u8 1, .int .u8 28, .int .u8 2, .int .u8 29, .int .u8 14, .int .u8 24, .int .u8 3, .int .u8 30, .int .u8 22, .int .u8 20, .int .u8 15, .int .u8 25, .int .u8 17, .int .u8 4, .int .u8 8, .int .u8 31, .int .u8 27, .int .u8 13, .int .u8 23, .int .u8 21, .int .u8 19, .int .u8 16, .int .u8 7, .int .u8 26, .int .u8 12, .int .u8 18, .int .u8 6, .int .u8 11, .int .u8 5, .int .u8 10, .int .u8 9]
  let h2 := put h1 7 #[.int .u8 0, .int .u8 1, .int .u8 56, .int .u8 2, .int .u8 57, .int .u8 49, .int .u8 28, .int .u8 3, .int .u8 61, .int .u8 58, .int .u8 42, .int .u8 50, .int .u8 38, .int .u8 29, .int .u8 17, .int .u8 4, .int .u8 62, .int .u8 47, .int .u8 59, .int .u8 36, .int .u8 45, .int .u8 43, .int .u8 51, .int .u8 22, .int .u8 53, .int .u8 39, .int .u8 33, .int .u8 30, .int .u8 24, .int .u8 18, .int .u8 12, .int .u8 5, .int .u8 63, .int .u8 55, .int .u8 48, .int .u8 27, .int .u8 60, .int .u8 41, .int .u8 37, .int .u8 16, .int .u8 46, .int .u8 35, .int .u8 44, .int .u8 21, .int .u8 52, .int .u8 32, .int .u8 23, .int .u8 11, .int .u8 54, .int .u8 26, .int .u8 40, .int .u8 15, .int .u8 34, .int .u8 20, .int .u8 31, .int .u8 10, .int .u8 25, .int .u8 14, .int .u8 19, .int .u8 9, .int .u8 13, .int .u8 8, .int .u8 7, .int .u8 6]
  let h3 := put h2 3 #[.int .u64 1, .int .u64 10, .int .u64 100, .int .u64 1000, .int .u64 10000, .int .u64 100000, .int .u64 1000000, .int .u64 10000000, .int .u64 100000000, .int .u64 1000000000, .int .u64 10000000000, .int .u64 100000000000, .int .u64 1000000000000, .int .u64 10000000000000, .int .u64 100000000000000, .int .u64 1000000000000000, .int .u64 10000000000000000, .int .u64 100000000000000000, .int .u64 1000000000000000000, .int .u64 10000000000000000000]
  let h4 := put h3 5 #[.int .u8 128, .int .u8 191, .int .u8 160, .int .u8 191, .int .u8 128, .int .u8 159, .int .u8 144, .int .u8 191, .int .u8 128, .int .u8 143, .int .u8 0, .int .u8 0, .int .u8 0, .int .u8 0, .int .u8 0, .int .u8 0, .int .u8 0, .int .u8 0, .int .u8 0, .int .u8 0, .int .u8 0, .int .u8 0, .int .u8 0, .int .u8 0, .int .u8 0, .int .u8 0, .int .u8 0, .int .u8 0, .int .u8 0, .int .u8 0, .int .u8 0, .int .u8 0]
  let h5 := put h4 1 #[.iface 119 (.pointer (some ⟨lowW + 0, 0, none⟩))]
  let h6 := put h5 0 #[.iface 119 (.pointer (some ⟨lowW + 1, 0, none⟩))]
  let h7 := put h6 4 (Lib.firstTab.map fun z => Value.int .u8 z).toArray
  { w0 with heap := h7 }
theorem laid_met (os : Os) (args : Array Value) : laidMetH Tryd.prog Rows.wordsReadRow.laid ((laidWorld os).forCall (fun _ _ => 0) ⟨#[], args, []⟩).memory :=
  (LaidIn.of_run (l := Rows.wordsReadRow.laid) [6, 7, 3, 5, 1, 0, 4, lowW + 0, lowW + 1] 8 (by kernel_rfl) (by kernel_rfl) (by kernel_rfl) (by kernel_rfl)).met
theorem laid_shaped (os : Os) (args : Array Value) : ((laidWorld os).forCall (fun _ _ => 0) ⟨#[], args, []⟩).Shaped Tryd.prog :=
  World.shaped_of_RefB (by kernel_rfl) (by kernel_rfl)
theorem amb_start {W : World} (hsh : W.ShapedOpen Tryd.prog) (h : laidMetH Tryd.prog Rows.wordsReadRow.laid W) : ambHolds (Was W) W := by
  have hL : laidMet Tryd.prog Rows.wordsReadRow.laid W := h
  have r3 : VarReads Tryd.prog W "math/bits.deBruijn64tab" (tabData .u8 (Lib.deBruijn64tab.map fun n : Nat => (n : Int))) := (show Rows.laid_math_bits_deBruijn64tab = tabData .u8 (Lib.deBruijn64tab.map fun n : Nat => (n : Int)) by kernel_rfl) ▸ Lib.laidMet.reads hL (.tail _ (.head _))
  have t3 : TabIs Tryd.prog W "math/bits.deBruijn64tab" .u8 (Lib.deBruijn64tab.map fun n : Nat => (n : Int)) := tab_reads r3 (g := 7) (by kernel_rfl) (by kernel_rfl) Tryd.underlying136 Tryd.underlying5 (by kernel_rfl) (by kernel_rfl)
  have a1 : amb1 (Was W) W := ⟨fun j hj => by
    rw [t3.cell (g := 7) (by kernel_rfl) j (by rw [List.length_map]; exact hj)]
    simp only [List.getD_eq_getElem?_getD, List.getElem?_map]
    rw [List.getElem?_eq_getElem hj]
    rfl, reads_lt r3 (by kernel_rfl)⟩
  have r4 : VarReads Tryd.prog W "internal/strconv.uint64pow10" (tabData .u64 Lib.pow10Tab) := (show Rows.laid_internal_strconv_uint64pow10 = tabData .u64 Lib.pow10Tab by kernel_rfl) ▸ Lib.laidMet.reads hL (.tail _ (.tail _ (.head _)))
  have t4 : TabIs Tryd.prog W "internal/strconv.uint64pow10" .u64 Lib.pow10Tab := tab_reads r4 (g := 3) (by kernel_rfl) (by kernel_rfl) Tryd.underlying123 Tryd.underlying29 (by kernel_rfl) (by kernel_rfl)
  have a2 : amb2 (Was W) W := ⟨var_heap t4 (by kernel_rfl), reads_lt r4 (by kernel_rfl)⟩
  have r5 := Lib.laidMet.reads hL (n := "strconv.ErrSyntax") (d := Rows.laid_strconv_ErrSyntax) (.tail _ (.tail _ (.tail _ (.tail _ (.tail _ (.head _))))))
  have a3 : amb3 (Was W) W := ⟨iface_reads r5 (g := 0) (by kernel_rfl) (by kernel_rfl) Tryd.underlying26, reads_lt r5 (by kernel_rfl)⟩
  have r6 := Lib.laidMet.reads hL (n := "strconv.ErrRange") (d := Rows.laid_strconv_ErrRange) (.tail _ (.tail _ (.tail _ (.tail _ (.head _)))))
  have a4 : amb4 (Was W) W := ⟨iface_reads r6 (g := 1) (by kernel_rfl) (by kernel_rfl) Tryd.underlying26, reads_lt r6 (by kernel_rfl)⟩
  have a5 : amb5 (Was W) W := by
    obtain ⟨m, hm⟩ := Tryd.laysM146.s1_3 W hsh
    exact ⟨⟨m, hm⟩, World.block_lt_of_cell? W ⟨2, 0, none⟩ hm⟩
  exact ⟨a1, a2, a3, a4, a5⟩
end Go.Proofs.YtgiicfjibngooaaDoor
