/- KeptBytes, walked: it returns true at a marked copy and its original. Conditions: at most 1000000 bytes. -/
import Derived.Test.YtobbgjgcgohdgaaLend
namespace Go.Proofs.Ytobbgjgcgohdgaa
open Go Go.RowKit
set_option linter.unusedVariables false
theorem lent_mark (l : List UInt8) (k : Nat) (h : k < 3) : (lentCells l 3 0).toArray[l.length + k]? = some (.int .u8 119) := by
  simp only [List.getElem?_toArray, lentCells]
  rw [List.getElem?_append_right (by rw [bvs_len]; omega), bvs_len, show l.length + k - l.length = k from by omega]
  rcases k with _ | _ | _ | k
  · rfl
  · rfl
  · rfl
  · omega
set_option maxHeartbeats 400000 in
theorem keptBytes_any (g : Nat) (B : Option Addr) (d : Nat) (l : List UInt8) (w : World) (hl : l.length ≤ 1000000) (hg : w.heap[g]? = some (.cells (lentCells l 3 0).toArray 5 (0, 0))) (hb : Row w B (bvs l)) :
    Calls Try.prog 21 #[.slice (some ⟨g, 0, none⟩) l.length (l.length + 3), .slice B l.length d] w fun e w' => e = .returned (.bool true) ∧ ∃ n, w' = w.drewN n := by
  have e33 : l.length + 3 - l.length = 3 := by omega
  go_enter Try.func21, Try.ntmps21
  have Hg := hide hg; clear hg
  go_wp2
  go_loop [6] (fun i => ∃ k : Nat, k ≤ 3 ∧ i = .int .i64 k) (fun i => 3 - (intOf i).toNat)
  case atStart => exact ⟨0, by omega, rfl⟩
  case round =>
    obtain ⟨k, hk, rfl⟩ := hrel
    by_cases hlt : k < 3
    · have hc : w.cell? ⟨g, l.length + k, none⟩ = some (Value.int .u8 119) := by
        rw [cell_of_row w _ _ _ _ _ Hg.out]
        exact lent_mark l k hlt
      go_wp2
      go_round
      case rel => exact ⟨k + 1, by omega, by go_num⟩
      case measure => simp [intOf]; omega
    · go_wp2_with fail
      refine (sameBytes_any _ _ _ _ l l _ hl hl (lent_row Hg.out) hb).mono ?_
      rintro e w' ⟨rfl, n, rfl⟩
      go_wp2_with fail
      go_ret
      exact ⟨by simp, n, rfl⟩
end Go.Proofs.Ytobbgjgcgohdgaa
