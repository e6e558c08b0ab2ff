/- PackFixed, walked: it returns true and writes nothing that was there. Conditions: its argument reads as bytes. -/
import Derived.Test.YtobbgjgcgohdgaaPkO
import Derived.Test.YtobbgjgcgohdgaaOutB
namespace Go.Proofs.Ytobbgjgcgohdgaa
open Go Go.RowKit
set_option linter.unusedVariables false

theorem unfix_v (w : World) (v : Value) (l : List UInt8) (many : Nat) (z : Int) (hz : z = (many : Int)) (hl : l.length ≤ 900000) (hm : many ≤ 8) (hml : many ≤ l.length) (h : RC w v l) :
    Calls Try.prog 15 #[v, .int .i64 z] w fun e w' => ∃ v, e = .returned (.tuple #[.int .u64 ((unfN 0 (l.take many) : Nat) : Int), v, .bool true]) ∧ Ext w w' ∧ Own w' w.heap.size 5 1 v (l.drop many).length (bvs (l.drop many)) := by
  subst hz
  obtain ⟨A, c, rfl, hc, hc2, hr⟩ := h
  exact unfix_in A c l many w hl hc hc2 hm hml hr
theorem unfix_no (w : World) (v : Value) (l : List UInt8) (many : Int) (hl : l.length ≤ 900000) (h : RC w v l) (hm : many < 0 ∨ 8 < many ∨ (l.length : Int) < many) :
    Calls Try.prog 15 #[v, .int .i64 many] w fun e w' => e = .returned (.tuple #[.int .u64 0, .slice none 0 0, .bool false]) ∧ w' = w := by
  obtain ⟨A, c, rfl, hc, hc2, hr⟩ := h
  exact unfix_out A c l many w hl hm
theorem mask_val {n y : Nat} (hn : n < 18446744073709551616) (hy : y < 8) : bits BinOp.and .u64 (n : Int) (IntKind.u64.wrap (IntKind.u64.wrap (2 ^ (8 * y)) - 1)) = (n : Int) % 256 ^ y := by
  have h0 := pow_z1 (show 8 * y < 64 by omega)
  rw [Nat.min_eq_left (by omega)] at h0
  rw [h0]
  have h1 : (2 : Nat) ^ (8 * y) = 256 ^ y := by rw [Nat.pow_mul]
  have h2 := Nat.two_pow_pos (8 * y)
  have h3 := pow_lt (show 8 * y < 64 by omega)
  rw [(bits_nat .u64 64 (by decide) wraps_u64 n (2 ^ (8 * y) - 1) hn (by omega)).1, Nat.and_two_pow_sub_one_eq_mod, h1]
  simp
set_option maxRecDepth 100000 in
set_option maxHeartbeats 2000000 in
theorem packFixed_main (n : Nat) (many : Int) (B : Option Addr) (d : Nat) (l : List UInt8) (w : World) (hn : n < 18446744073709551616) (hl : l.length ≤ 20) (hd : l.length ≤ d) (hd2 : d ≤ maxLen) (hb : Row w B (bvs l)) :
    Calls Try.prog 7 #[.int .u64 (n : Int), .int .i64 many, .slice B l.length d] w fun e w' => e = .returned (.bool true) ∧ Ext w w' := by
  obtain ⟨i0, hi, hz0, hz1, hz2⟩ := info_parts Try.infoU8
  have Hi := hide hi; clear hi
  have i1 : ¬ (20 : Int) < (l.length : Int) := by omega
  have Hb := hide hb; clear hb
  unfold maxLen at hd2
  go_enter Try.func7, Try.ntmps7
  go_wp2_with fail
  refine (low_any many 9 _ (by omega) (by omega)).mono ?_
  rintro e w0 ⟨rfl, hww⟩
  rw [hww]
  clear hww
  have hy9 := low_lt many (n := 9) (by omega)
  generalize low many 9 = y at *
  go_wp2_with fail
  refine (fix_v _ _ [] n y (by simp) hn (by omega) (RB.nil _)).mono ?_
  rintro e w2 ⟨u, rfl, hx2, ho2⟩
  rw [List.nil_append] at ho2
  have Hx2 := hide hx2
  have hu := ho2.rc
  clear hx2 ho2
  obtain ⟨A, c, rfl, hlc, hcm, ra⟩ := hu
  have hLL := fixN_len y n
  have Hunf := hide (show unfN 0 (fixN y n) = n % 256 ^ y by rw [unf_fix]; omega)
  generalize fixN y n = X at *
  have Hra := hide ra; clear ra
  rw [hLL] at hlc ⊢
  have Hll := hide hLL; clear hLL
  unfold maxLen at hcm
  by_cases hy8 : y < 8
  · have i2 : (y : Int) < 8 := by omega
    have Hmask := hide (mask_val hn hy8)
    go_wp2_with (at_builtin; refine wpList_app _ rfl _ _ 23 rfl w2.heap.size 5 i0 (.int .u8 0) 1 1 Try.underlying23 Hi.out hz0 hz1 hz2 rfl (by decide) _ 0 [] rfl (Own.nil _ _ _ _ _) _ _ _ (bvs X) rfl ((by simp [bvs, Hll.out])) (Hra.out) (bvs_one X) ?c2 ?c3 ?c4 ?_)
    try case c2 => omega
    try case c3 => unfold maxLen; omega
    try case c4 => simp

    intro v3 w3 o3 g3 _
    have hx3 := ext_of_grown g3
    have Hx3 := hide (Hx2.out.trans hx3)
    have O3 := hide o3; have Hx23 := hide hx3; clear o3 hx3 g3
    go_wp2_with (at_builtin; refine wpList_app _ rfl _ _ 23 rfl w2.heap.size 5 i0 (.int .u8 0) 1 1 Try.underlying23 Hi.out hz0 hz1 hz2 rfl (by decide) _ _ _ rfl (O3.out) _ _ _ (bvs l) rfl ((by simp [bvs])) ((Hb.out.ext Hx3.out)) (bvs_one l) ?c2 ?c3 ?c4 ?_)
    try case c2 => (simp; omega)
    try case c3 => unfold maxLen; (simp; omega)
    try case c4 => exact Hx23.out.size

    intro v4 w4 o4 g4 _
    have hx4 : Ext w w4 := Below.grown Hx3.out g4 Hx3.out.size (fun k hk => Nat.le_trans Hx2.out.size (O3.out.lt hk).1)
    have hx24 : Ext w2 w4 := Below.grown Hx23.out g4 Hx23.out.size (fun k hk => (O3.out.lt hk).1)
    rw [← bvs_append, show y + l.length = (X ++ l).length from by simp [Hll.out]] at o4
    have Hx4 := hide hx4; have O4 := hide o4.rc; have Hra4 := hide (Hra.out.ext hx24)
    clear hx4 o4 g4 hx24 O3 Hx3 Hx23
    go_wp2_with fail
    refine (unfix_v _ _ (X ++ l) y _ rfl (by simp [Hll.out]; omega) (by omega) (by simp [Hll.out]) O4.out).mono ?_
    rintro e w5 ⟨v5, rfl, hx, ho⟩
    rw [show (X ++ l).take y = X from by rw [← Hll.out]; simp, Hunf.out]
    rw [show (X ++ l).drop y = l from by rw [← Hll.out]; simp] at ho
    have Hx5 := hide (Hx4.out.trans hx); have O5 := hide ho.rc; have Hra5 := hide (Hra4.out.ext hx)
    clear hx ho O4 Hra4 Hx4
    go_wp2_with fail
    refine (unfix_no _ _ X ((y : Int) + 1) (by rw [Hll.out]; omega) ⟨A, c, by rw [Hll.out], by rw [Hll.out]; omega, by unfold maxLen; omega, Hra5.out⟩ (by rw [Hll.out]; omega)).mono ?_
    rintro e w6 ⟨rfl, rfl⟩
    have hmask := Hmask.out
    go_wp2_with fail
    refine (same_v _ _ _ l l O5.out.rb (RB.ext ⟨B, d, rfl, hd, Hb.out⟩ Hx5.out) (by omega) (by omega)).mono ?_
    rintro e w10 ⟨rfl, hx⟩
    have Hx10 := hide (Hx5.out.trans hx); clear hx
    go_wp2_with fail
    refine (awake_any _).mono ?_
    rintro e w11 ⟨rfl, hx⟩
    have Hx11 := hide (Hx10.out.trans hx); clear hx
    go_wp2_with fail
    go_ret
    exact ⟨rfl, Hx11.out⟩
  · have hy : y = 8 := by omega
    have Hmask := hide (show (n : Int) % 256 ^ y = (n : Int) by rw [hy]; omega)
    have i2 : ¬ (y : Int) < 8 := by omega
    clear hy hy8
    go_wp2_with (at_builtin; refine wpList_app _ rfl _ _ 23 rfl w2.heap.size 5 i0 (.int .u8 0) 1 1 Try.underlying23 Hi.out hz0 hz1 hz2 rfl (by decide) _ 0 [] rfl (Own.nil _ _ _ _ _) _ _ _ (bvs X) rfl ((by simp [bvs, Hll.out])) (Hra.out) (bvs_one X) ?c2 ?c3 ?c4 ?_)
    try case c2 => omega
    try case c3 => unfold maxLen; omega
    try case c4 => simp

    intro v3 w3 o3 g3 _
    have hx3 := ext_of_grown g3
    have Hx3 := hide (Hx2.out.trans hx3)
    have O3 := hide o3; have Hx23 := hide hx3; clear o3 hx3 g3
    go_wp2_with (at_builtin; refine wpList_app _ rfl _ _ 23 rfl w2.heap.size 5 i0 (.int .u8 0) 1 1 Try.underlying23 Hi.out hz0 hz1 hz2 rfl (by decide) _ _ _ rfl (O3.out) _ _ _ (bvs l) rfl ((by simp [bvs])) ((Hb.out.ext Hx3.out)) (bvs_one l) ?c2 ?c3 ?c4 ?_)
    try case c2 => (simp; omega)
    try case c3 => unfold maxLen; (simp; omega)
    try case c4 => exact Hx23.out.size

    intro v4 w4 o4 g4 _
    have hx4 : Ext w w4 := Below.grown Hx3.out g4 Hx3.out.size (fun k hk => Nat.le_trans Hx2.out.size (O3.out.lt hk).1)
    have hx24 : Ext w2 w4 := Below.grown Hx23.out g4 Hx23.out.size (fun k hk => (O3.out.lt hk).1)
    rw [← bvs_append, show y + l.length = (X ++ l).length from by simp [Hll.out]] at o4
    have Hx4 := hide hx4; have O4 := hide o4.rc; have Hra4 := hide (Hra.out.ext hx24)
    clear hx4 o4 g4 hx24 O3 Hx3 Hx23
    go_wp2_with fail
    refine (unfix_v _ _ (X ++ l) y _ rfl (by simp [Hll.out]; omega) (by omega) (by simp [Hll.out]) O4.out).mono ?_
    rintro e w5 ⟨v5, rfl, hx, ho⟩
    rw [show (X ++ l).take y = X from by rw [← Hll.out]; simp, Hunf.out]
    rw [show (X ++ l).drop y = l from by rw [← Hll.out]; simp] at ho
    have Hx5 := hide (Hx4.out.trans hx); have O5 := hide ho.rc; have Hra5 := hide (Hra4.out.ext hx)
    clear hx ho O4 Hra4 Hx4
    go_wp2_with fail
    refine (unfix_no _ _ X ((y : Int) + 1) (by rw [Hll.out]; omega) ⟨A, c, by rw [Hll.out], by rw [Hll.out]; omega, by unfold maxLen; omega, Hra5.out⟩ (by rw [Hll.out]; omega)).mono ?_
    rintro e w6 ⟨rfl, rfl⟩
    have hmask := Hmask.out
    go_wp2_with fail
    refine (same_v _ _ _ l l O5.out.rb (RB.ext ⟨B, d, rfl, hd, Hb.out⟩ Hx5.out) (by omega) (by omega)).mono ?_
    rintro e w10 ⟨rfl, hx⟩
    have Hx10 := hide (Hx5.out.trans hx); clear hx
    go_wp2_with fail
    refine (awake_any _).mono ?_
    rintro e w11 ⟨rfl, hx⟩
    have Hx11 := hide (Hx10.out.trans hx); clear hx
    go_wp2_with fail
    go_ret
    exact ⟨rfl, Hx11.out⟩
theorem packFixed_any (n : Nat) (many : Int) (B : Option Addr) (d : Nat) (l : List UInt8) (w : World) (hn : n < 18446744073709551616) (hd : l.length ≤ d) (hd2 : d ≤ maxLen) (hb : Row w B (bvs l)) :
    Calls Try.prog 7 #[.int .u64 (n : Int), .int .i64 many, .slice B l.length d] w fun e w' => e = .returned (.bool true) ∧ Ext w w' := by
  by_cases hl : l.length ≤ 20
  · exact packFixed_main n many B d l w hn hl hd hd2 hb
  · have i1 : (20 : Int) < (l.length : Int) := by omega
    unfold maxLen at hd2
    go_enter Try.func7, Try.ntmps7
    go_wp2_with fail
    refine (awake_any _).mono ?_
    rintro e w' ⟨rfl, hx⟩
    go_wp2_with fail
    go_ret
    exact ⟨rfl, hx⟩
end Go.Proofs.Ytobbgjgcgohdgaa
