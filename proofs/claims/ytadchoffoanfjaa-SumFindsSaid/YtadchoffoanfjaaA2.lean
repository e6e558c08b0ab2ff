/- sum.step, walked: it pushes bytes through the register. Conditions: at most 1000000 bytes. -/
import Derived.Test.YtadchoffoanfjaaA1
import Derived.Test.YtadchoffoanfjaaSumM
namespace Go.Proofs.Ytadchoffoanfjaa
open Go Go.RowKit
set_option linter.unusedVariables false

/-- a register as a value -/
def rv (r : R) : Value := .int .u32 (r.toNat : Int)
theorem rv_xor (a b : R) : bits .xor .u32 (a.toNat : Int) (b.toNat : Int) = ((a ^^^ b).toNat : Int) := by
  rw [u32_xor_nat _ _ a.isLt b.isLt, BitVec.toNat_xor]
theorem rv_xor_poly (a : R) : bits .xor .u32 (a.toNat : Int) 2197175160 = ((a ^^^ poly).toNat : Int) := rv_xor a poly
theorem rv_byte (a : R) (x : UInt8) : bits .xor .u32 (a.toNat : Int) (x.toNat : Int) = ((a ^^^ x.toBitVec.zeroExtend 32).toNat : Int) := by
  have := rv_xor a (x.toBitVec.zeroExtend 32)
  rw [← this]
  congr 2
theorem rv_byte' (a : R) (x : UInt8) : bits .xor .u32 (a.toNat : Int) ((x.toNat : Int) % 4294967296) = ((a ^^^ x.toBitVec.zeroExtend 32).toNat : Int) := by
  rw [← rv_byte]
  congr 1
  have := x.toNat_lt
  omega
theorem rv_half (a : R) : (a.toNat : Int) / (2 : Int) = ((a >>> (1 : Nat)).toNat : Int) := by
  rw [BitVec.toNat_ushiftRight, Nat.shiftRight_eq_div_pow]; omega
theorem rv_test (a : R) : (bits .and .u32 (a.toNat : Int) 1 == 1) = decide (a &&& 1#32 = 1#32) := by
  have h := u32_and_nat a.toNat 1 a.isLt (by omega)
  rw [show ((1 : Nat) : Int) = 1 from rfl] at h
  rw [h]
  by_cases e : a &&& 1#32 = 1#32
  · have := congrArg BitVec.toNat e
    simp at this
    simp [e, this]
  · have h2 : ¬ (a.toNat &&& 1 = 1) := by
      intro q; apply e; apply BitVec.eq_of_toNat_eq; simpa using q
    simp only [e, decide_false]
    rw [beq_eq_false_iff_ne]
    omega
theorem rv_odd {a : R} (h : a &&& 1#32 = 1#32) : (bits .and .u32 (a.toNat : Int) 1 == 1) = true := by rw [rv_test]; simpa using h
theorem rv_even {a : R} (h : ¬ a &&& 1#32 = 1#32) : (bits .and .u32 (a.toNat : Int) 1 == 1) = false := by rw [rv_test]; simpa using h
theorem bit_odd {a : R} (h : a &&& 1#32 = 1#32) : bit a = (a >>> 1) ^^^ poly := by unfold bit; rw [if_pos h]
theorem bit_even {a : R} (h : ¬ a &&& 1#32 = 1#32) : bit a = a >>> 1 := by unfold bit; rw [if_neg h]
theorem rv_not (a : R) : bits .xor .u32 IntKind.u32.max (a.toNat : Int) = ((rnot a).toNat : Int) := by
  have := rv_xor (BitVec.allOnes 32) a
  rw [show ((BitVec.allOnes 32).toNat : Int) = IntKind.u32.max from by decide] at this
  rw [this, BitVec.xor_comm, BitVec.xor_allOnes]; rfl
theorem odd_val {t z : R} {j : Nat} (h : bitN j z = t) (hb : t &&& 1#32 = 1#32) : Value.int .u32 (bits BinOp.xor .u32 ((t.toNat : Int) / 2) 2197175160) = rv (bitN (j + 1) z) := by
  show _ = rv (bit (bitN j z))
  rw [h, bit_odd hb, rv_half, rv_xor_poly]; rfl
theorem even_val {t z : R} {j : Nat} (h : bitN j z = t) (hb : ¬ t &&& 1#32 = 1#32) : Value.int .u32 ((t.toNat : Int) / 2) = rv (bitN (j + 1) z) := by
  show _ = rv (bit (bitN j z))
  rw [h, bit_even hb, rv_half]; rfl
theorem ret_u32 {a b : R} (h : a = b) : Ending.returned (.int .u32 (a.toNat : Int)) = .returned (.int .u32 (b.toNat : Int)) := by rw [h]
theorem take_snoc' (l : List UInt8) (k : Nat) (h : k < l.length) : l.take (k + 1) = l.take k ++ [l[k]] := List.take_succ_eq_append_getElem h

set_option maxHeartbeats 400000 in
theorem step_any (A : Option Addr) (c : Nat) (l : List UInt8) (r : R) (w : World) (hl : l.length ≤ 1000000) (ha : Row w A (bvs l)) :
    Calls Try.prog 18 #[.int .u32 (r.toNat : Int), .slice A l.length c] w fun e w' => e = .returned (.int .u32 ((crc r l).toNat : Int)) ∧ w' = w := by
  go_enter Try.func18, Try.ntmps18
  go_wp2
  go_loop [0, 10] (fun v i => ∃ k : Nat, k ≤ l.length ∧ i = .int .i64 k ∧ v = rv (crc r (l.take k))) (fun _ i => l.length - (intOf i).toNat)
  case atStart => exact ⟨0, Nat.zero_le _, rfl, rfl⟩
  case round =>
    obtain ⟨k, hk, rfl, rfl⟩ := hrel
    unfold rv
    by_cases hlt : k < l.length
    · obtain ⟨ad, rfl, hca⟩ := ha.byte hlt
      clear ha
      have hts := hide (take_snoc' l k hlt)
      generalize hs : crc r (l.take k) = s
      have Hs := hide hs; clear hs
      generalize hx : l[k] = x at *
      have Hx := hide hx; clear hx
      have i1 : (k : Int) < (l.length : Int) := by omega
      have rb := rv_byte' s x
      go_wp2
      clear rb
      go_loop [0, 18] (fun v i => ∃ j : Nat, j ≤ 8 ∧ i = .int .i64 j ∧ v = rv (bitN j (s ^^^ x.toBitVec.zeroExtend 32))) (fun _ i => 8 - (intOf i).toNat)
      case atStart => exact ⟨0, by omega, rfl, rfl⟩
      case round =>
        obtain ⟨j, hj, rfl, rfl⟩ := hrel
        unfold rv
        by_cases hlt8 : j < 8
        · generalize ht : bitN j (s ^^^ x.toBitVec.zeroExtend 32) = t
          have Ht := hide ht; clear ht
          by_cases hb : t &&& 1#32 = 1#32
          · have ho := rv_odd hb
            have Hb := hide hb; clear hb
            go_wp2
            go_round
            case rel => exact ⟨j + 1, by omega, by go_num, odd_val Ht.out Hb.out⟩
            case measure => simp [intOf]; omega
          · have ho := rv_even hb
            have Hb := hide hb; clear hb
            go_wp2
            go_round
            case rel => exact ⟨j + 1, by omega, by go_num, even_val Ht.out Hb.out⟩
            case measure => simp [intOf]; omega
        · have hj8 : j = 8 := by omega
          subst hj8
          go_wp2
          go_round
          case rel => exact ⟨k + 1, by omega, by go_num, by rw [hts.out, crc_snoc, Hs.out]; rfl⟩
          case measure => simp [intOf]; omega
    · have hk2 : k = l.length := by omega
      have Hk := hide hk2; clear hk2
      go_wp2
      go_ret
      exact ⟨ret_u32 (by rw [Hk.out, List.take_of_length_le (Nat.le_refl _)]), rfl⟩
end Go.Proofs.Ytadchoffoanfjaa
