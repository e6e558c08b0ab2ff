/- The bit that says that a page is dirty. Nothing of the program stands here. -/
import Derived.Test.YtgdkeafdlehlaaaDoorDa
namespace Go.Proofs.YtgdkeafdlehlaaaDoor
open Go Go.RowKit
set_option linter.unusedVariables false
theorem bit15_or (p : Int) (h0 : 0 ≤ p) (h1 : p < 32768) : bits .or .u64 p 32768 = p + 32768 := by
  obtain ⟨n, rfl⟩ := Int.eq_ofNat_of_zero_le h0
  have e : (32768 : Int) = ((32768 : Nat) : Int) := rfl
  rw [e, bits_or_u64_nat n 32768 (by omega) (by omega), Nat.or_comm, ← Nat.two_pow_add_eq_or_of_lt (i := 15) (b := n) (by omega) 1]
  omega
theorem bit15_and (p : Int) (h0 : 0 ≤ p) (h1 : p < 65536) : bits .and .u64 p 32768 = if p < 32768 then 0 else 32768 := by
  obtain ⟨n, rfl⟩ := Int.eq_ofNat_of_zero_le h0
  have e : (32768 : Int) = ((2 ^ 15 : Nat) : Int) := rfl
  rw [e, bits_and_u64_nat n (2 ^ 15) (by omega) (by omega)]
  by_cases h : n < 32768
  · have k : n &&& 2 ^ 15 = 0 := by
      apply Nat.eq_of_testBit_eq
      intro i
      rw [Nat.testBit_and, Nat.testBit_two_pow, Nat.zero_testBit]
      by_cases hi : 15 = i
      · subst hi
        rw [Nat.testBit_lt_two_pow (by omega)]
        rfl
      · rw [decide_eq_false hi, Bool.and_false]
    rw [k, if_pos (by omega)]
    rfl
  · have ht : n.testBit 15 = true := by
      rw [Nat.testBit_eq_decide_div_mod_eq]
      rw [decide_eq_true_eq]
      omega
    have k : n &&& 2 ^ 15 = 2 ^ 15 := by
      apply Nat.eq_of_testBit_eq
      intro i
      rw [Nat.testBit_and, Nat.testBit_two_pow]
      by_cases hi : 15 = i
      · subst hi
        rw [ht]
        rfl
      · rw [decide_eq_false hi, Bool.and_false]
    rw [k, if_neg (by omega)]
theorem bit15_off (p : Int) (h0 : 0 ≤ p) (h1 : p < 65536) : bits .andNot .u64 p 32768 = p % 32768 := by
  obtain ⟨n, rfl⟩ := Int.eq_ofNat_of_zero_le h0
  have h2 : n < 2 ^ 16 := by omega
  have key : n &&& 18446744073709518847 = n % 2 ^ 15 := by
    apply Nat.eq_of_testBit_eq
    intro i
    rw [Nat.testBit_and, Nat.testBit_mod_two_pow]
    by_cases hi : i < 16
    · have : ∀ j : Fin 16, Nat.testBit 18446744073709518847 j.val = decide (j.val < 15) := by decide +kernel
      have hm : Nat.testBit 18446744073709518847 i = decide (i < 15) := this ⟨i, hi⟩
      rw [hm, Bool.and_comm]
    · rw [Nat.testBit_lt_two_pow (Nat.lt_of_lt_of_le h2 (Nat.pow_le_pow_right (by decide) (by omega)))]
      simp
  show IntKind.u64.wrap ((BitVec.ofInt 64 (n : Int) &&& ~~~ BitVec.ofInt 64 32768).toNat : Int) = _
  have e2 : ~~~ (BitVec.ofInt 64 32768) = BitVec.ofNat 64 18446744073709518847 := by decide
  rw [e2, BitVec.toNat_and, BitVec.toNat_ofInt, BitVec.toNat_ofNat]
  have e3 : ((n : Int) % ((2 ^ 64 : Nat) : Int)).toNat = n := by omega
  rw [e3, show 18446744073709518847 % 2 ^ 64 = 18446744073709518847 by decide, key, IntKind.wrap_u64]
  omega
section
variable {P : Program} {T : List (Nat × TI)} {o : Oper} {fr : List (Nat × AV)} {H : List (Nat × Res)} {x y : Operand} {t t' : Nat}
theorem sop_andNot {k : IntKind} {a b : Int} (ho : o.op = .binOp .andNot t x y t' := by rfl) (hx : Opv fr x (.lit (.int k a)) := by exact opv_std) (hy : Opv fr y (.lit (.int k b)) := by exact opv_std) : SOp P o fr H (.lit (.int k (bits .andNot k a b))) := fun S γ w ρ h => by
  refine outl ?_
  rw [run_bin ho (h.lit hx (by simp [ho, Op.operands])) (h.lit hy (by simp [ho, Op.operands])) (by simp) (by simp)]
  simp [go_sem]
theorem sop_bit15_or {a c : Int} (ho : o.op = .binOp .or t x y t' := by rfl) (hx : Opv fr x (.lit (.int .u64 a)) := by exact opv_std) (hy : Opv fr y (.lit (.int .u64 c)) := by exact opv_std) (hc : c = 32768 := by rfl) (h0 : 0 ≤ a := by omega) (h1 : a < 32768 := by omega) : SOp P o fr H (.lit (.int .u64 (a + 32768))) :=
  sop_cast (sop_or ho hx hy) (by subst hc; exact congrArg (fun r => Value.int .u64 r) (bit15_or a h0 h1))
theorem sop_bit15_and {a c : Int} (ho : o.op = .binOp .and t x y t' := by rfl) (hx : Opv fr x (.lit (.int .u64 a)) := by exact opv_std) (hy : Opv fr y (.lit (.int .u64 c)) := by exact opv_std) (hc : c = 32768 := by rfl) (h0 : 0 ≤ a := by omega) (h1 : a < 65536 := by omega) : SOp P o fr H (.lit (.int .u64 (if a < 32768 then 0 else 32768))) :=
  sop_cast (sop_and ho hx hy) (by subst hc; exact congrArg (fun r => Value.int .u64 r) (bit15_and a h0 h1))
theorem sop_bit15_lo {a c : Int} (ho : o.op = .binOp .and t x y t' := by rfl) (hx : Opv fr x (.lit (.int .u64 a)) := by exact opv_std) (hy : Opv fr y (.lit (.int .u64 c)) := by exact opv_std) (hc : c = 32768 := by rfl) (h0 : 0 ≤ a := by omega) (h1 : a < 32768 := by omega) : SOp P o fr H (.lit (.int .u64 0)) :=
  sop_cast (sop_bit15_and ho hx hy hc h0 (by omega)) (by rw [if_pos h1])
theorem sop_bit15_hi {a c : Int} (ho : o.op = .binOp .and t x y t' := by rfl) (hx : Opv fr x (.lit (.int .u64 a)) := by exact opv_std) (hy : Opv fr y (.lit (.int .u64 c)) := by exact opv_std) (hc : c = 32768 := by rfl) (h0 : 32768 ≤ a := by omega) (h1 : a < 65536 := by omega) : SOp P o fr H (.lit (.int .u64 32768)) :=
  sop_cast (sop_bit15_and ho hx hy hc (by omega) h1) (by rw [if_neg (by omega)])
theorem sop_bit15_off {a c : Int} (ho : o.op = .binOp .andNot t x y t' := by rfl) (hx : Opv fr x (.lit (.int .u64 a)) := by exact opv_std) (hy : Opv fr y (.lit (.int .u64 c)) := by exact opv_std) (hc : c = 32768 := by rfl) (h0 : 0 ≤ a := by omega) (h1 : a < 65536 := by omega) : SOp P o fr H (.lit (.int .u64 (a % 32768))) :=
  sop_cast (sop_andNot ho hx hy) (by subst hc; exact congrArg (fun r => Value.int .u64 r) (bit15_off a h0 h1))
end
end Go.Proofs.YtgdkeafdlehlaaaDoor
