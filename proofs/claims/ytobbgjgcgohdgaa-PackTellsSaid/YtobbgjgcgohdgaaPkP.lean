/- pack.Put, walked: the bytes, and the number behind them. Conditions: at most 900000 bytes. -/
import Derived.Test.YtobbgjgcgohdgaaPackM
import Derived.Test.YtobbgjgcgohdgaaPkC
namespace Go.Proofs.Ytobbgjgcgohdgaa
open Go Go.RowKit
set_option linter.unusedVariables false

/-- a number of 64 bits as a value -/
def nv (n : Nat) : Value := .int .u64 (n : Int)
theorem or128 (m : Nat) : Value.int .u8 (bits BinOp.or .u8 ((m : Int) % 256) 128) = bv (b8 (m % 128 + 128)) := by
  have h := u8_or_nat (m % 256) 128 (by omega) (by omega)
  rw [show ((m % 256 : Nat) : Int) = (m : Int) % 256 from by omega] at h
  unfold bv
  rw [show bits BinOp.or .u8 ((m : Int) % 256) 128 = ((m % 256 ||| 128 : Nat) : Int) from h, b8_small (by omega)]
  congr 2
  have h2 : m % 256 ||| 128 = m % 128 ||| 128 := by
    have h3 : ∀ k, k < 256 → k ||| 128 = k % 128 ||| 128 := by decide +kernel
    rw [h3 _ (by omega), show m % 256 % 128 = m % 128 from by omega]
  rw [h2]
  have h4 : ∀ k, k < 128 → k ||| 128 = k + 128 := by decide +kernel
  exact h4 _ (by omega)
theorem u8_small {m : Nat} (h : m < 256) : Value.int .u8 (m : Int) = bv (b8 m) := by
  unfold bv
  rw [b8_small h]
theorem mod256 (m : Nat) : Value.int .u8 ((m : Int) % 256) = bv (b8 m) := by
  unfold bv
  rw [b8_toNat]
  congr 1
set_option maxHeartbeats 1000000 in
theorem put_any (A : Option Addr) (c : Nat) (l : List UInt8) (n : Nat) (w : World) (hl : l.length ≤ 900000) (hn : n < 18446744073709551616) (ha : Row w A (bvs l)) :
    Calls Try.prog 9 #[.slice A l.length c, .int .u64 (n : Int)] w fun e w' => ∃ v, e = .returned v ∧ Ext w w' ∧ Own w' w.heap.size 5 1 v (l ++ putN n).length (bvs (l ++ putN n)) := by
  obtain ⟨i0, hi, hz0, hz1, hz2⟩ := info_parts Try.infoU8
  have Hi := hide hi; clear hi
  go_enter Try.func9, Try.ntmps9
  go_wp2_with fail
  refine (clone_any A c l w (by omega) ha).mono ?_
  rintro e w1 ⟨v, rfl, hx, ho⟩
  have Hx := hide hx; have Ho := hide ho; clear hx ho
  go_wp2_with fail
  go_loopw [1, 5] (fun nn out wr => ∃ (f m : Nat) (done : List UInt8), f ≤ 9 ∧ m < 2 ^ (7 * f + 1) ∧ done.length + f = 9 ∧ done ++ putF f m = putN n ∧ nn = .int .u64 (m : Int) ∧ Ext w wr ∧ Own wr w.heap.size 5 1 out (l ++ done).length (bvs (l ++ done))) (fun nn _ _ => (intOf nn).toNat)
  case atStart => exact ⟨9, n, [], by omega, by simpa using hn, rfl, rfl, rfl, Hx.out, by simpa using Ho.out⟩
  case round =>
    obtain ⟨f, m, done, hf, hm, hdf, hd, rfl, hx, ho⟩ := hrel
    have hlen : (l ++ done).length ≤ 900009 := by simp; omega
    generalize hld : l ++ done = ld at *
    have Hld := hide hld; clear hld
    have Hx := hide hx; have Ho := hide ho; have Hd := hide hd; have Hm := hide hm; clear hx ho hd hm
    have sz := Hx.out.size
    by_cases hlt : 127 < m
    · have i1 : (127 : Int) < (m : Int) := by omega
      go_wp2_with (at_builtin; refine wpList_app _ rfl _ _ 23 rfl w.heap.size 5 i0 (.int .u8 0) 1 1 Try.underlying23 Hi.out hz0 hz1 hz2 rfl (by decide) _ _ _ rfl (Ho.out.ext (Ext.alloc _ _)) _ _ _ [Value.int .u8 (bits BinOp.or .u8 ((m : Int) % 256) 128)] rfl (rfl) (Row.newAt [Value.int .u8 (bits BinOp.or .u8 ((m : Int) % 256) 128)] _ _ rfl) (one_single rfl) ?c2 ?c3 ?c4 ?_)
      try case c2 => omega
      try case c3 => unfold maxLen; omega
      try case c4 => (first | omega | (simp; omega))

      intro v' w2 o2 g2 _
      have hx2 : Ext w w2 := Below.grown (Hx.out.trans (Ext.alloc _ _)) g2 (by simp; omega) (fun k hk => (Ho.out.lt hk).1)
      rw [or128, show [bv (b8 (m % 128 + 128))] = bvs [b8 (m % 128 + 128)] from rfl, ← bvs_append] at o2
      have Hx2 := hide hx2; have O2 := hide o2; clear hx2 o2 g2
      go_wp2_with fail
      go_roundw
      case rel =>
        have hf0 : f ≠ 0 := by
          intro e
          have := Hm.out
          rw [e] at this
          simp at this; omega
        obtain ⟨f', rfl⟩ : ∃ f', f = f' + 1 := ⟨f - 1, by omega⟩
        refine ⟨f', m / 128, done ++ [b8 (m % 128 + 128)], by omega, ?_, by simp; omega, ?_, ?_, Hx2.out, ?_⟩
        · have := Hm.out
          rw [pow_step] at this
          omega
        · rw [← Hd.out, putF_ge (by omega), List.append_assoc]; rfl
        · first | rfl | (congr 1)
        · rw [← List.append_assoc, Hld.out]
          simpa using O2.out
      case measure => simp [intOf]; omega
    · have i1 : ¬ (127 : Int) < (m : Int) := by omega
      go_wp2_with (at_builtin; refine wpList_app _ rfl _ _ 23 rfl w.heap.size 5 i0 (.int .u8 0) 1 1 Try.underlying23 Hi.out hz0 hz1 hz2 rfl (by decide) _ _ _ rfl (Ho.out.ext (Ext.alloc _ _)) _ _ _ [Value.int .u8 (m : Int)] rfl (rfl) (Row.newAt [Value.int .u8 (m : Int)] _ _ rfl) (one_single rfl) ?c2 ?c3 ?c4 ?_)
      try case c2 => omega
      try case c3 => unfold maxLen; omega
      try case c4 => (first | omega | (simp; omega))

      intro v' w2 o2 g2 _
      have hx2 : Ext w w2 := Below.grown (Hx.out.trans (Ext.alloc _ _)) g2 (by simp; omega) (fun k hk => (Ho.out.lt hk).1)
      rw [u8_small (show m < 256 by omega), show [bv (b8 m)] = bvs [b8 m] from rfl, ← bvs_append] at o2
      have Hx2 := hide hx2; have O2 := hide o2; clear hx2 o2 g2
      go_wp2_with fail
      go_ret
      refine ⟨_, rfl, Hx2.out, ?_⟩
      rw [← Hd.out, putF_lt (by omega), ← List.append_assoc, Hld.out]
      simpa using O2.out
end Go.Proofs.Ytobbgjgcgohdgaa
