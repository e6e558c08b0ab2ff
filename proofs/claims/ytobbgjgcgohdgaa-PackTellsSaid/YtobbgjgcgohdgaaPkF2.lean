/- pack.Fix beyond its numbers, and the reference Put, Fix, Unfix, walked. Conditions: at most 900000 bytes. -/
import Derived.Test.YtobbgjgcgohdgaaPkX
namespace Go.Proofs.Ytobbgjgcgohdgaa
open Go Go.RowKit
set_option linter.unusedVariables false

set_option maxHeartbeats 1000000 in
theorem fix_out (A : Option Addr) (c : Nat) (l : List UInt8) (n : Nat) (many : Int) (w : World) (hl : l.length ≤ 900000) (hm : many < 0 ∨ 8 < many) (ha : Row w A (bvs l)) :
    Calls Try.prog 12 #[.slice A l.length c, .int .u64 (n : Int), .int .i64 many] w fun e w' => ∃ v, e = .returned v ∧ Ext w w' ∧ Own w' w.heap.size 5 1 v l.length (bvs l) := by
  by_cases h1 : many < 0
  · go_enter Try.func12, Try.ntmps12
    go_wp2_with fail
    refine (clone_any A c l w (by omega) ha).mono ?_
    rintro e w1 ⟨v, rfl, hx, ho⟩
    have Hx := hide hx; have Ho := hide ho; clear hx ho
    go_wp2_with fail
    go_ret
    exact ⟨_, rfl, Hx.out, Ho.out⟩
  · have h2 : 8 < many := by omega
    clear hm
    go_enter Try.func12, Try.ntmps12
    go_wp2_with fail
    refine (clone_any A c l w (by omega) ha).mono ?_
    rintro e w1 ⟨v, rfl, hx, ho⟩
    have Hx := hide hx; have Ho := hide ho; clear hx ho
    go_wp2_with fail
    go_ret
    exact ⟨_, rfl, Hx.out, Ho.out⟩
set_option maxHeartbeats 1000000 in
theorem rput_any (A : Option Addr) (c : Nat) (l : List UInt8) (n : Nat) (w : World) (hl : l.length ≤ 900000) (hn : n < 18446744073709551616) (ha : Row w A (bvs l)) :
    Calls Try.prog 18 #[.slice A l.length c, .int .u64 (n : Int)] w fun e w' => ∃ v, e = .returned v ∧ Ext w w' ∧ Own w' w.heap.size 5 1 v (l ++ putN n).length (bvs (l ++ putN n)) := by
  obtain ⟨i0, hi, hz0, hz1, hz2⟩ := info_parts Try.infoU8
  have Hi := hide hi; clear hi
  go_enter Try.func18, Try.ntmps18
  go_wp2_with (at_builtin; refine wpList_app _ rfl _ _ 23 rfl w.heap.size 5 i0 (.int .u8 0) 1 1 Try.underlying23 Hi.out hz0 hz1 hz2 rfl (by decide) _ 0 [] rfl (Own.nil _ _ _ _ _) _ _ _ (bvs l) rfl ((by simp [bvs])) (ha) (bvs_one _) ?c2q8 ?c3q8 ?c4q8 ?_)
  try case c2q8 => omega
  try case c3q8 => unfold maxLen; omega
  try case c4q8 => omega

  intro v w1 o1 g1 _
  have Hx := hide (ext_of_grown g1); have Ho := hide o1; clear g1 o1
  go_wp2_with fail
  go_loopw [1, 5] (fun nn out wr => ∃ (f m : Nat) (done : List UInt8), f ≤ 9 ∧ m < 2 ^ (7 * f + 1) ∧ done.length + f = 9 ∧ done ++ putF f m = putN n ∧ nn = .int .u64 (m : Int) ∧ Ext w wr ∧ Own wr w.heap.size 5 1 out (l ++ done).length (bvs (l ++ done))) (fun nn _ _ => (intOf nn).toNat)
  case atStart => exact ⟨9, n, [], by omega, by simpa using hn, rfl, rfl, rfl, Hx.out, by simpa using Ho.out⟩
  case round =>
    obtain ⟨f, m, done, hf, hm, hdf, hd, rfl, hx, ho⟩ := hrel
    have hlen : (l ++ done).length ≤ 900009 := by simp; omega
    generalize hld : l ++ done = ld at *
    have Hld := hide hld; clear hld
    have Hx := hide hx; have Ho := hide ho; have Hd := hide hd; have Hm := hide hm; clear hx ho hd hm
    have sz := Hx.out.size
    by_cases hlt : 127 < m
    · have i1 : (128 : Int) ≤ (m : Int) := by omega
      go_wp2_with (at_builtin; refine wpList_app _ rfl _ _ 23 rfl w.heap.size 5 i0 (.int .u8 0) 1 1 Try.underlying23 Hi.out hz0 hz1 hz2 rfl (by decide) _ _ _ rfl (Ho.out.ext (Ext.alloc _ _)) _ _ _ [Value.int .u8 (bits BinOp.or .u8 ((m : Int) % 256) 128)] rfl (rfl) (Row.newAt [Value.int .u8 (bits BinOp.or .u8 ((m : Int) % 256) 128)] _ _ rfl) (one_single rfl) ?c2q9 ?c3q9 ?c4q9 ?_)
      try case c2q9 => omega
      try case c3q9 => unfold maxLen; omega
      try case c4q9 => (first | omega | (simp; omega))

      intro v' w2 o2 g2 _
      have hx2 : Ext w w2 := Below.grown (Hx.out.trans (Ext.alloc _ _)) g2 (by simp; omega) (fun k hk => (Ho.out.lt hk).1)
      rw [or128, show [bv (b8 (m % 128 + 128))] = bvs [b8 (m % 128 + 128)] from rfl, ← bvs_append] at o2
      have Hx2 := hide hx2; have O2 := hide o2; clear hx2 o2 g2
      go_wp2_with fail
      go_roundw
      case rel =>
        have hf0 : f ≠ 0 := by
          intro e
          have := Hm.out
          rw [e] at this
          simp at this; omega
        obtain ⟨f', rfl⟩ : ∃ f', f = f' + 1 := ⟨f - 1, by omega⟩
        refine ⟨f', m / 128, done ++ [b8 (m % 128 + 128)], by omega, ?_, by simp; omega, ?_, ?_, Hx2.out, ?_⟩
        · have := Hm.out
          rw [pow_step] at this
          omega
        · rw [← Hd.out, putF_ge (by omega), List.append_assoc]; rfl
        · first | rfl | (congr 1)
        · rw [← List.append_assoc, Hld.out]
          simpa using O2.out
      case measure => simp [intOf]; omega
    · have i1 : ¬ (128 : Int) ≤ (m : Int) := by omega
      go_wp2_with (at_builtin; refine wpList_app _ rfl _ _ 23 rfl w.heap.size 5 i0 (.int .u8 0) 1 1 Try.underlying23 Hi.out hz0 hz1 hz2 rfl (by decide) _ _ _ rfl (Ho.out.ext (Ext.alloc _ _)) _ _ _ [Value.int .u8 (m : Int)] rfl (rfl) (Row.newAt [Value.int .u8 (m : Int)] _ _ rfl) (one_single rfl) ?c2q10 ?c3q10 ?c4q10 ?_)
      try case c2q10 => omega
      try case c3q10 => unfold maxLen; omega
      try case c4q10 => (first | omega | (simp; omega))

      intro v' w2 o2 g2 _
      have hx2 : Ext w w2 := Below.grown (Hx.out.trans (Ext.alloc _ _)) g2 (by simp; omega) (fun k hk => (Ho.out.lt hk).1)
      rw [u8_small (show m < 256 by omega), show [bv (b8 m)] = bvs [b8 m] from rfl, ← bvs_append] at o2
      have Hx2 := hide hx2; have O2 := hide o2; clear hx2 o2 g2
      go_wp2_with fail
      go_ret
      refine ⟨_, rfl, Hx2.out, ?_⟩
      rw [← Hd.out, putF_lt (by omega), ← List.append_assoc, Hld.out]
      simpa using O2.out
set_option maxHeartbeats 1000000 in
theorem rfix_out (A : Option Addr) (c : Nat) (l : List UInt8) (n : Nat) (many : Int) (w : World) (hl : l.length ≤ 900000) (hm : many < 0 ∨ 8 < many) (ha : Row w A (bvs l)) :
    Calls Try.prog 19 #[.slice A l.length c, .int .u64 (n : Int), .int .i64 many] w fun e w' => ∃ v, e = .returned v ∧ Ext w w' ∧ Own w' w.heap.size 5 1 v l.length (bvs l) := by
  obtain ⟨i0, hi, hz0, hz1, hz2⟩ := info_parts Try.infoU8
  have Hi := hide hi; clear hi
  by_cases h1 : many < 0
  · go_enter Try.func19, Try.ntmps19
    go_wp2_with (at_builtin; refine wpList_app _ rfl _ _ 23 rfl w.heap.size 5 i0 (.int .u8 0) 1 1 Try.underlying23 Hi.out hz0 hz1 hz2 rfl (by decide) _ 0 [] rfl (Own.nil _ _ _ _ _) _ _ _ (bvs l) rfl ((by simp [bvs])) (ha) (bvs_one _) ?c2q11 ?c3q11 ?c4q11 ?_)
    try case c2q11 => omega
    try case c3q11 => unfold maxLen; omega
    try case c4q11 => omega

    intro v w1 o1 g1 _
    have Hx := hide (ext_of_grown g1); have Ho := hide o1; clear g1 o1
    go_wp2_with fail
    go_ret
    exact ⟨_, rfl, Hx.out, by simpa using Ho.out⟩
  · have h2 : 8 < many := by omega
    clear hm
    go_enter Try.func19, Try.ntmps19
    go_wp2_with (at_builtin; refine wpList_app _ rfl _ _ 23 rfl w.heap.size 5 i0 (.int .u8 0) 1 1 Try.underlying23 Hi.out hz0 hz1 hz2 rfl (by decide) _ 0 [] rfl (Own.nil _ _ _ _ _) _ _ _ (bvs l) rfl ((by simp [bvs])) (ha) (bvs_one _) ?c2q12 ?c3q12 ?c4q12 ?_)
    try case c2q12 => omega
    try case c3q12 => unfold maxLen; omega
    try case c4q12 => omega

    intro v w1 o1 g1 _
    have Hx := hide (ext_of_grown g1); have Ho := hide o1; clear g1 o1
    go_wp2_with fail
    go_ret
    exact ⟨_, rfl, Hx.out, by simpa using Ho.out⟩
set_option maxHeartbeats 1000000 in
theorem rfix_any (A : Option Addr) (c : Nat) (l : List UInt8) (n many : Nat) (w : World) (hl : l.length ≤ 900000) (hn : n < 18446744073709551616) (hm : many ≤ 8) (ha : Row w A (bvs l)) :
    Calls Try.prog 19 #[.slice A l.length c, .int .u64 (n : Int), .int .i64 (many : Int)] w fun e w' => ∃ v, e = .returned v ∧ Ext w w' ∧ Own w' w.heap.size 5 1 v (l ++ fixN many n).length (bvs (l ++ fixN many n)) := by
  obtain ⟨i0, hi, hz0, hz1, hz2⟩ := info_parts Try.infoU8
  have Hi := hide hi; clear hi
  have i1 : ¬ (many : Int) < 0 := by omega
  have i2 : ¬ (8 : Int) < (many : Int) := by omega
  go_enter Try.func19, Try.ntmps19
  go_wp2_with (at_builtin; refine wpList_app _ rfl _ _ 23 rfl w.heap.size 5 i0 (.int .u8 0) 1 1 Try.underlying23 Hi.out hz0 hz1 hz2 rfl (by decide) _ 0 [] rfl (Own.nil _ _ _ _ _) _ _ _ (bvs l) rfl ((by simp [bvs])) (ha) (bvs_one _) ?c2q13 ?c3q13 ?c4q13 ?_)
  try case c2q13 => omega
  try case c3q13 => unfold maxLen; omega
  try case c4q13 => omega

  intro v w1 o1 g1 _
  have Hx := hide (ext_of_grown g1); have Ho := hide o1; clear g1 o1
  go_wp2_with fail
  go_loopw [7, 8] (fun out i wr => ∃ (j : Nat) (done : List UInt8), j ≤ many ∧ done.length + j = many ∧ done ++ fixN j n = fixN many n ∧ i = .int .i64 ((j : Int) - 1) ∧ Ext w wr ∧ Own wr w.heap.size 5 1 out (l ++ done).length (bvs (l ++ done))) (fun _ i _ => (intOf i + 1).toNat)
  case atStart => exact ⟨many, [], Nat.le_refl _, by simp, rfl, rfl, Hx.out, by simpa using Ho.out⟩
  case round =>
    obtain ⟨j, done, hj, hdj, hd, rfl, hx, ho⟩ := hrel
    have hlen : (l ++ done).length ≤ 900009 := by simp; omega
    generalize hld : l ++ done = ld at *
    have Hld := hide hld; clear hld
    have Hx := hide hx; have Ho := hide ho; have Hd := hide hd; clear hx ho hd
    have sz := Hx.out.size
    cases j with
    | zero =>
      go_wp2_with fail
      go_ret
      refine ⟨_, rfl, Hx.out, ?_⟩
      rw [← Hd.out, show fixN 0 n = [] from rfl, List.append_nil, Hld.out]
      exact Ho.out
    | succ j =>
      rw [fix_int]
      go_wp2_with (at_builtin; refine wpList_app _ rfl _ _ 23 rfl w.heap.size 5 i0 (.int .u8 0) 1 1 Try.underlying23 Hi.out hz0 hz1 hz2 rfl (by decide) _ _ _ rfl (Ho.out.ext (Ext.alloc _ _)) _ _ _ [Value.int .u8 ((n : Int) / 2 ^ (8 * j) % 256)] rfl (rfl) (Row.newAt [Value.int .u8 ((n : Int) / 2 ^ (8 * j) % 256)] _ _ rfl) (one_single rfl) ?c2q14 ?c3q14 ?c4q14 ?_)
      try case c2q14 => omega
      try case c3q14 => unfold maxLen; omega
      try case c4q14 => (first | omega | (simp; omega))

      intro v' w2 o2 g2 _
      have hx2 : Ext w w2 := Below.grown (Hx.out.trans (Ext.alloc _ _)) g2 (by simp; omega) (fun k hk => (Ho.out.lt hk).1)
      rw [fix_val, show [bv (b8 (n / 256 ^ j))] = bvs [b8 (n / 256 ^ j)] from rfl, ← bvs_append] at o2
      have Hx2 := hide hx2; have O2 := hide o2; clear hx2 o2 g2
      go_wp2_with fail
      go_roundw
      case rel =>
        refine ⟨j, done ++ [b8 (n / 256 ^ j)], by omega, by simp; omega, ?_, ?_, Hx2.out, ?_⟩
        · rw [← Hd.out, List.append_assoc]; rfl
        · first | rfl | (congr 1)
        · rw [← List.append_assoc, Hld.out]
          simpa using O2.out
      case measure => simp [intOf]
end Go.Proofs.Ytobbgjgcgohdgaa
