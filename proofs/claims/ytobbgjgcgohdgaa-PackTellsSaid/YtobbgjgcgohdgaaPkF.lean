/- pack.Fix, walked: the bytes, and the lowest bytes of the number behind them. Conditions: at most 900000 bytes. -/
import Derived.Test.YtobbgjgcgohdgaaPkP
namespace Go.Proofs.Ytobbgjgcgohdgaa
open Go Go.RowKit
set_option linter.unusedVariables false

theorem fix_val (n j : Nat) : Value.int .u8 ((n : Int) / 2 ^ (8 * j) % 256) = bv (b8 (n / 256 ^ j)) := by
  unfold bv
  rw [b8_toNat]
  have e : (2 : Int) ^ (8 * j) = ((256 ^ j : Nat) : Int) := by
    rw [Int.pow_mul]
    simp
  rw [e, ← Int.natCast_ediv]
  congr 1
theorem fix_int (k : Nat) : (((k + 1 : Nat) : Int)) - 1 = (k : Int) := by omega
set_option maxHeartbeats 1000000 in
theorem fix_any (A : Option Addr) (c : Nat) (l : List UInt8) (n many : Nat) (w : World) (hl : l.length ≤ 900000) (hn : n < 18446744073709551616) (hm : many ≤ 8) (ha : Row w A (bvs l)) :
    Calls Try.prog 12 #[.slice A l.length c, .int .u64 (n : Int), .int .i64 (many : Int)] w fun e w' => ∃ v, e = .returned v ∧ Ext w w' ∧ Own w' w.heap.size 5 1 v (l ++ fixN many n).length (bvs (l ++ fixN many n)) := by
  obtain ⟨i0, hi, hz0, hz1, hz2⟩ := info_parts Try.infoU8
  have Hi := hide hi; clear hi
  have i1 : ¬ (many : Int) < 0 := by omega
  have i2 : ¬ (8 : Int) < (many : Int) := by omega
  go_enter Try.func12, Try.ntmps12
  go_wp2_with fail
  refine (clone_any A c l w (by omega) ha).mono ?_
  rintro e w1 ⟨v, rfl, hx, ho⟩
  have Hx := hide hx; have Ho := hide ho; clear hx ho
  go_wp2_with fail
  go_loopw [7, 8] (fun out i wr => ∃ (j : Nat) (done : List UInt8), j ≤ many ∧ done.length + j = many ∧ done ++ fixN j n = fixN many n ∧ i = .int .i64 ((j : Int) - 1) ∧ Ext w wr ∧ Own wr w.heap.size 5 1 out (l ++ done).length (bvs (l ++ done))) (fun _ i _ => (intOf i + 1).toNat)
  case atStart => exact ⟨many, [], Nat.le_refl _, by simp, rfl, rfl, Hx.out, by simpa using Ho.out⟩
  case round =>
    obtain ⟨j, done, hj, hdj, hd, rfl, hx, ho⟩ := hrel
    have hlen : (l ++ done).length ≤ 900009 := by simp; omega
    generalize hld : l ++ done = ld at *
    have Hld := hide hld; clear hld
    have Hx := hide hx; have Ho := hide ho; have Hd := hide hd; clear hx ho hd
    have sz := Hx.out.size
    cases j with
    | zero =>
      go_wp2_with fail
      go_ret
      refine ⟨_, rfl, Hx.out, ?_⟩
      rw [← Hd.out, show fixN 0 n = [] from rfl, List.append_nil, Hld.out]
      exact Ho.out
    | succ j =>
      rw [fix_int]
      go_wp2_with (at_builtin; refine wpList_app _ rfl _ _ 23 rfl w.heap.size 5 i0 (.int .u8 0) 1 1 Try.underlying23 Hi.out hz0 hz1 hz2 rfl (by decide) _ _ _ rfl (Ho.out.ext (Ext.alloc _ _)) _ _ _ [Value.int .u8 ((n : Int) / 2 ^ (8 * j) % 256)] rfl (rfl) (Row.newAt [Value.int .u8 ((n : Int) / 2 ^ (8 * j) % 256)] _ _ rfl) (one_single rfl) ?c2 ?c3 ?c4 ?_)
      try case c2 => omega
      try case c3 => unfold maxLen; omega
      try case c4 => (first | omega | (simp; omega))

      intro v' w2 o2 g2 _
      have hx2 : Ext w w2 := Below.grown (Hx.out.trans (Ext.alloc _ _)) g2 (by simp; omega) (fun k hk => (Ho.out.lt hk).1)
      rw [fix_val, show [bv (b8 (n / 256 ^ j))] = bvs [b8 (n / 256 ^ j)] from rfl, ← bvs_append] at o2
      have Hx2 := hide hx2; have O2 := hide o2; clear hx2 o2 g2
      go_wp2_with fail
      go_roundw
      case rel =>
        refine ⟨j, done ++ [b8 (n / 256 ^ j)], by omega, by simp; omega, ?_, ?_, Hx2.out, ?_⟩
        · rw [← Hd.out, List.append_assoc]; rfl
        · first | rfl | (congr 1)
        · rw [← List.append_assoc, Hld.out]
          simpa using O2.out
      case measure => simp [intOf]
end Go.Proofs.Ytobbgjgcgohdgaa
