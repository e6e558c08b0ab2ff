/- The bytes of a part of a checkpoint; plain laws. -/
import Derived.Test.YtgdkeafdlehlaaaDoorY2
import Derived.Test.YtgdkeafdlehlaaaDoorQe6
import Derived.Test.YtgdkeafdlehlaaaDoorDs
import Derived.Test.YtgdkeafdlehlaaaDoorDt
namespace Go.Proofs.YtgdkeafdlehlaaaDoor
open Go Go.RowKit
set_option linter.unusedVariables false
set_option linter.unusedSimpArgs false

def pgN (e : Ent) : Int := if e.dirty = true then e.page + 32768 else e.page
def entB (e : Ent) : List UInt8 := fixN 8 e.addr.toNat ++ fixN 5 e.seq.toNat ++ fixN 2 (pgN e).toNat
theorem entB_len (e : Ent) : (entB e).length = 15 := by simp [entB, fixN_len]
def entsB (es : List Ent) : List UInt8 := (es.map entB).flatten
theorem entsB_len (es : List Ent) : (entsB es).length = 15 * es.length := by
  unfold entsB
  induction es with
  | nil => rfl
  | cons e es ih => rw [List.map_cons, List.flatten_cons, List.length_append, ih, entB_len, List.length_cons]; omega
theorem entsB_take (es : List Ent) (k : Nat) (h : k < es.length) : entsB (es.take (k + 1)) = entsB (es.take k) ++ entB (nth es k) := by
  rw [take_nth es k h]; simp [entsB]
def headB (i many : Int) (name : List UInt8) (n : Nat) : List UInt8 := fixN 2 i.toNat ++ fixN 2 many.toNat ++ [b8 n, b8 name.length] ++ name ++ List.replicate (36 - name.length) 0
theorem headB_len (i many : Int) {name : List UInt8} (n : Nat) (h : name.length ≤ 36) : (headB i many name n).length = 42 := by
  simp [headB, fixN_len]
  omega
def partL (size i many : Int) (name : List UInt8) (es : List Ent) : List UInt8 := headB i many name es.length ++ entsB es ++ List.replicate (size.toNat - 42 - 15 * es.length) 0
theorem partL_len {size : Int} (i many : Int) {name : List UInt8} {es : List Ent} (h : name.length ≤ 36) (hs : 42 + 15 * (es.length : Int) ≤ size) : (partL size i many name es).length = size.toNat := by
  unfold partL
  rw [List.length_append, List.length_append, headB_len i many es.length h, entsB_len, List.length_replicate]
  omega
def okEnt (e : Ent) : Prop := (0 ≤ e.addr ∧ e.addr < 18446744073709551616) ∧ (0 ≤ e.page ∧ e.page ≤ 255) ∧ (0 ≤ e.seq ∧ e.seq ≤ 1099511627775)
theorem pgN_bd {e : Ent} (h : okEnt e) : 0 ≤ pgN e ∧ pgN e < 65536 := by
  obtain ⟨_, h2, _⟩ := h
  unfold pgN
  split <;> omega
end Go.Proofs.YtgdkeafdlehlaaaDoor
