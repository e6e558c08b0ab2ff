/- SameBytes, walked: it tells whether two slices read the same. Conditions: at most 1000000 bytes each. -/
import Derived.Test.YtobbgjgcgohdgaaBytes
import Derived.Test.YtobbgjgcgohdgaaRows
namespace Go.Proofs.Ytobbgjgcgohdgaa
open Go Go.RowKit
set_option linter.unusedVariables false
theorem take_succ_eq {l m : List UInt8} {k : Nat} (h1 : k < l.length) (h2 : k < m.length) :
    l.take (k+1) = m.take (k+1) ↔ l.take k = m.take k ∧ l[k] = m[k] := by
  rw [List.take_succ_eq_append_getElem h1, List.take_succ_eq_append_getElem h2]
  constructor
  · intro h
    have := List.append_inj h (by simp; omega)
    simpa using this
  · rintro ⟨h, h'⟩; rw [h, h']

set_option maxHeartbeats 400000 in
theorem sameBytes_any (A B : Option Addr) (c d : Nat) (l m : List UInt8) (w : World) (hl : l.length ≤ 1000000) (hm : m.length ≤ 1000000) (ha : Row w A (bvs l)) (hb : Row w B (bvs m)) :
    Calls Try.prog 11 #[.slice A l.length c, .slice B m.length d] w fun e w' => e = .returned (.bool (decide (l = m))) ∧ ∃ n, w' = w.drewN n := by
  by_cases hlm : l.length = m.length
  · have Hl := hide hlm; clear hlm
    have h1 : ((l.length : Int) != (m.length : Int)) = false := by simp [Hl.out]
    go_enter Try.func11, Try.ntmps11
    go_wp2
    go_loopw [5] (fun i wr => ∃ k n : Nat, k ≤ l.length ∧ i = .int .i64 k ∧ l.take k = m.take k ∧ wr = w.drewN n) (fun i _ => l.length - (intOf i).toNat)
    case atStart => exact ⟨0, 0, Nat.zero_le _, rfl, rfl, rfl⟩
    case round =>
      obtain ⟨k, n, hk, rfl, heq, rfl⟩ := hrel
      have He := hide heq; clear heq
      by_cases hlt : k < l.length
      · have hlt2 : k < m.length := by rw [← Hl.out]; exact hlt
        obtain ⟨ad, rfl, hca⟩ := ha.byte hlt
        obtain ⟨bd, rfl, hcb⟩ := hb.byte hlt2
        clear ha hb
        have i1 : (k : Int) < (l.length : Int) := by omega
        have i2 : (k : Int) < (m.length : Int) := by omega
        by_cases hx : l[k] = m[k]
        · have Hx := hide hx; clear hx
          have hne : (((l[k]).toNat : Int) != ((m[k]).toNat : Int)) = false := by simp [Hx.out]
          go_wp2
          go_quiet (fail)
          go_wp2
          go_roundw
          case rel => exact ⟨k + 1, _, by omega, by go_num, (take_succ_eq hlt hlt2).2 ⟨He.out, Hx.out⟩, rfl⟩
          case measure => simp [intOf]; omega
        · have hne : (((l[k]).toNat : Int) != ((m[k]).toNat : Int)) = true := by
            simp; intro e; exact hx (UInt8.toNat.inj (by omega))
          go_wp2
          go_quiet (fail)
          go_wp2
          go_ret
          refine ⟨?_, n + nq, by rw [World.drewN_drewN]⟩
          have : l ≠ m := by intro e; subst e; exact hx rfl
          simp [this]
      · have hk2 : k = l.length := by omega
        have Hk := hide hk2; clear hk2
        go_wp2
        go_ret
        refine ⟨?_, _, rfl⟩
        have : l = m := by
          have := He.out
          rw [Hk.out] at this
          rw [List.take_of_length_le (Nat.le_refl _), List.take_of_length_le (by rw [Hl.out]; exact Nat.le_refl _)] at this
          exact this
        simp [this]
  · have h1 : ((l.length : Int) != (m.length : Int)) = true := by simp; omega
    go_enter Try.func11, Try.ntmps11
    go_wp2
    go_ret
    refine ⟨?_, 0, rfl⟩
    have : l ≠ m := by intro e; subst e; exact hlm rfl
    simp [this]
end Go.Proofs.Ytobbgjgcgohdgaa
