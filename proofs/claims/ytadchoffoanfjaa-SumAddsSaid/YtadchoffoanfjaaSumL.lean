/- awake of the sum statements, walked: it returns true. Conditions: none. -/
import Derived.Test.YtadchoffoanfjaaA3
import Derived.Test.YtadchoffoanfjaaKept
import Derived.Lib.SlBytesConst
namespace Go.Proofs.Ytadchoffoanfjaa
open Go Go.RowKit
set_option linter.unusedVariables false
def nine : List UInt8 := [49, 50, 51, 52, 53, 54, 55, 56, 57]
theorem sum_nine : (((sumOf [nine].flatten).toNat : Int) == 3808858755) = true := by decide +kernel
theorem sum_none : (((sumOf ([] : List (List UInt8)).flatten).toNat : Int) == 0) = true := by decide +kernel
set_option maxRecDepth 100000 in
set_option maxHeartbeats 400000 in
theorem awake_any (w : World) :
    Calls Try.prog 8 #[] w fun e w' => e = .returned (.bool true) ∧ Ext w w' := by
  have kc := fun (w : World) (C : Array Value) (n c : Nat) => Lib.run_convert_bytes_const (P := Try.prog) w 22 5 C n c Try.underlying22 Try.underlying5
  have f1 := sum_nine
  have f2 := sum_none
  go_enter Try.func8, Try.ntmps8
  go_wp2_with fail
  refine (of_any _ _ [.slice (some ⟨w.heap.size, 0, none⟩) 9 9] [nine] _ (by simp) (by decide) ?h1 ?h2).mono ?_
  case h1 => exact Row.newAt [Value.slice (some ⟨w.heap.size, 0, none⟩) 9 9] _ _ (by simp)
  case h2 => exact RBs.cons ⟨_, 9, rfl, Nat.le_refl _, (Row.new w (bvs nine) 5 (9, 10)).ext (Ext.alloc _ _)⟩ (RBs.nil _)
  rintro e w' ⟨rfl, rfl⟩
  go_wp2_with fail
  refine (of_any none 0 [] [] _ (by simp) (by simp) (Row.nil _ _) (RBs.nil _)).mono ?_
  rintro e w' ⟨rfl, rfl⟩
  go_wp2_with fail
  go_ret
  exact ⟨rfl, (Ext.alloc _ _).trans (Ext.alloc _ _)⟩
end Go.Proofs.Ytadchoffoanfjaa
