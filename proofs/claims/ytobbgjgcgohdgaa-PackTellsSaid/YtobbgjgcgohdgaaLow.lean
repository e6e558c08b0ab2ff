/- Low, walked: a number as it counts, from 0 to below another. Conditions: the other is positive and small. -/
import Derived.Test.YtobbgjgcgohdgaaRows

import Derived.Test.YtobbgjgcgohdgaaBytes
import Derived.Laws.BitsAllLaws
namespace Go.Proofs.Ytobbgjgcgohdgaa
open Go Go.RowKit
set_option linter.unusedVariables false

/-- a number as it counts: from 0 to below n -/
def low (x : Int) (n : Nat) : Nat := ((x % 18446744073709551616).toNat) % n
theorem low_lt (x : Int) {n : Nat} (h : 0 < n) : low x n < n := Nat.mod_lt _ h
theorem ret_i64 {a b : Int} (h : a = b) : Ending.returned (.int .i64 a) = .returned (.int .i64 b) := by rw [h]
theorem low_form (x : Int) (n : Nat) (hn : 0 < n) (hm : n ≤ 1152921504606846976) : wrap64 ((IntKind.u64.wrap x).tmod (n : Int)) = ((low x n : Nat) : Int) := by
  have h0 : 0 ≤ x % 18446744073709551616 := Int.emod_nonneg _ (by decide)
  obtain ⟨m, hm'⟩ := Int.eq_ofNat_of_zero_le h0
  have hl := Nat.mod_lt m hn
  unfold low
  rw [IntKind.wrap_u64, hm']
  rw [Int.tmod_eq_emod_of_nonneg (by omega)]
  rw [IntWalk.wrap64_in]
  · simp
  · rw [← Int.natCast_emod]; omega
set_option maxHeartbeats 400000 in
theorem low_any (x : Int) (n : Nat) (w : World) (hn : 0 < n) (hm : n ≤ 1152921504606846976) :
    Calls Try.prog 13 #[.int .i64 x, .int .i64 n] w fun e w' => e = .returned (.int .i64 (low x n : Nat)) ∧ w' = w := by
  go_enter Try.func13, Try.ntmps13
  go_wp2
  go_ret
  exact ⟨ret_i64 (low_form x n hn hm), rfl⟩
end Go.Proofs.Ytobbgjgcgohdgaa
