/- A text's number to base 16, walked. -/
import Derived.Test.YtgiicfjibngooaaDoorM5
namespace Go.Proofs.YtgiicfjibngooaaDoor
open Go Go.RowKit
set_option linter.unusedVariables false
set_option linter.unusedSimpArgs false

def puE (k : Nat) : Value := if k = 0 then .nilIface else .iface 98 (.int .i64 (k : Int))
theorem low_con (c : Int) : Con Tryd.prog 65 [.lit (.int .u8 c)] [] (fun az hz => az = .lit (.int .u8 (lowS c)) ∧ hz = []) :=
  con_lit (us := [.int .u8 c]) fun S w hs => (Tryd.internal_strconv_lower c w).mono (by
    rintro e w' ⟨rfl, rfl⟩
    exact ⟨rfl, Ext.refl _⟩)
theorem dgS_none {c : UInt8} (h : dgS c = none) : ¬ (48 ≤ c.toNat ∧ c.toNat ≤ 57) ∧ ¬ (97 ≤ lowS (c.toNat : Int) ∧ lowS (c.toNat : Int) ≤ 122) := by
  unfold dgS at h
  split at h
  · cases h
  · split at h
    · cases h
    · exact ⟨by assumption, by assumption⟩
theorem dgS_some {c : UInt8} {d : Nat} (h : dgS c = some d) : ((48 ≤ c.toNat ∧ c.toNat ≤ 57) ∧ d = c.toNat - 48) ∨ (¬ (48 ≤ c.toNat ∧ c.toNat ≤ 57) ∧ (97 ≤ lowS (c.toNat : Int) ∧ lowS (c.toNat : Int) ≤ 122) ∧ (d : Int) = lowS (c.toNat : Int) - 87) := by
  unfold dgS at h
  split at h
  · injection h with h
    exact .inl ⟨by assumption, h.symm⟩
  · split at h
    · injection h with h
      exact .inr ⟨by assumption, by assumption, by omega⟩
    · cases h
theorem puF_none {c : UInt8} (h : dgS c = none) (r : List UInt8) (n : Nat) : puF (c :: r) n = (0, 2) := by
  show (match dgS c with | none => (0, 2) | some d => if 16 ≤ d then (0, 2) else if 1152921504606846976 ≤ n then (18446744073709551615, 1) else puF r (n * 16 + d)) = _
  rw [h]
theorem puF_some {c : UInt8} {d : Nat} (h : dgS c = some d) (r : List UInt8) (n : Nat) : puF (c :: r) n = if 16 ≤ d then (0, 2) else if 1152921504606846976 ≤ n then (18446744073709551615, 1) else puF r (n * 16 + d) := by
  show (match dgS c with | none => (0, 2) | some d => if 16 ≤ d then (0, 2) else if 1152921504606846976 ≤ n then (18446744073709551615, 1) else puF r (n * 16 + d)) = _
  rw [h]
theorem sop_shl_64 {P : Program} {o : Oper} {fr : List (Nat × AV)} {H : List (Nat × Res)} {y : Operand} {t t' : TypeId} (ho : o.op = .binOp .shl t (.const (.int .u64 1)) y t' := by rfl) (hy : Opv fr y (.lit (.int .u64 64)) := by exact .of rfl) : SOp P o fr H (.lit (.int .u64 0)) := sop_cast (sop_shl ho (.of rfl) hy (by omega)) (by rfl)
theorem sop_sub_01 {P : Program} {o : Oper} {fr : List (Nat × AV)} {H : List (Nat × Res)} {x : Operand} {t t' : TypeId} (ho : o.op = .binOp .sub t x (.const (.int .u64 1)) t' := by rfl) (hx : Opv fr x (.lit (.int .u64 0)) := by exact .of rfl) : SOp P o fr H (.lit (.int .u64 18446744073709551615)) := sop_cast (sop_sub ho hx (.of rfl)) (by rfl)
end Go.Proofs.YtgiicfjibngooaaDoor
