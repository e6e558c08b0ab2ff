/- PackOrder, walked: it returns true and writes nothing that was there. Conditions: none. -/
import Derived.Test.YtobbgjgcgohdgaaPkL
import Derived.Test.YtobbgjgcgohdgaaLow
namespace Go.Proofs.Ytobbgjgcgohdgaa
open Go Go.RowKit
set_option linter.unusedVariables false

theorem fix_v (w : World) (v : Value) (l : List UInt8) (n many : Nat) (hl : l.length ≤ 900000) (hn : n < 18446744073709551616) (hm : many ≤ 8) (h : RB w v l) :
    Calls Try.prog 12 #[v, .int .u64 (n : Int), .int .i64 (many : Int)] w fun e w' => ∃ v, e = .returned v ∧ Ext w w' ∧ Own w' w.heap.size 5 1 v (l ++ fixN many n).length (bvs (l ++ fixN many n)) := by
  obtain ⟨A, c, rfl, hc, hr⟩ := h
  exact fix_any A c l n many w hl hn hm hr
theorem put_z (w : World) (v : Value) (l : List UInt8) (z : Int) (n : Nat) (hz : z = (n : Int)) (hl : l.length ≤ 900000) (hn : n < 18446744073709551616) (h : RB w v l) :
    Calls Try.prog 9 #[v, .int .u64 z] w fun e w' => ∃ v, e = .returned v ∧ Ext w w' ∧ Own w' w.heap.size 5 1 v (l ++ putN n).length (bvs (l ++ putN n)) := by
  subst hz
  exact put_v w v l n hl hn h
theorem pow_lt {y : Nat} (h : y < 64) : 2 ^ y < 18446744073709551616 := Nat.pow_lt_pow_right (a := 2) (n := 64) (by decide) h
theorem pow_z {y : Nat} (h : y < 64) : IntKind.u64.wrap (2 ^ min y 64) = ((2 ^ y : Nat) : Int) := by
  have h1 := pow_lt h
  rw [Nat.min_eq_left (by omega), show (2 : Int) ^ y = ((2 ^ y : Nat) : Int) from by simp, wraps_u64 _ (Int.natCast_nonneg _) (by exact_mod_cast h1)]
theorem pow_z1 {y : Nat} (h : y < 64) : IntKind.u64.wrap (IntKind.u64.wrap (2 ^ min y 64) - 1) = ((2 ^ y - 1 : Nat) : Int) := by
  have h1 := pow_lt h
  have h2 := Nat.two_pow_pos y
  rw [pow_z h, wraps_u64 _ (by omega) (by omega)]
  omega
set_option maxRecDepth 100000 in
set_option maxHeartbeats 1000000 in
theorem packOrder_any (a b : Nat) (x : Int) (w : World) (ha : a < 18446744073709551616) (hb : b < 18446744073709551616) :
    Calls Try.prog 5 #[.int .u64 (a : Int), .int .u64 (b : Int), .int .i64 x] w fun e w' => e = .returned (.bool true) ∧ Ext w w' := by
  go_enter Try.func5, Try.ntmps5
  go_wp2_with fail
  refine (fix_v w _ [] a 8 (by simp) ha (by omega) (RB.nil _)).mono ?_
  rintro e w1 ⟨u, rfl, hx1, ho1⟩
  rw [List.nil_append] at ho1
  have Hx1 := hide hx1; have Ho1 := hide ho1.rc; clear hx1 ho1
  go_wp2_with fail
  refine (fix_v w1 _ [] b 8 (by simp) hb (by omega) (RB.nil _)).mono ?_
  rintro e w2 ⟨v, rfl, hx2, ho2⟩
  rw [List.nil_append] at ho2
  have Hx2 := hide (Hx1.out.trans hx2); have Hu := hide (Ho1.out.ext hx2); have Hv := hide ho2.rc; clear hx2 ho2 Ho1 Hx1
  have hu := Hu.out
  have hv := Hv.out
  obtain ⟨A, c, rfl, -, -, ra⟩ := hu
  obtain ⟨B, d, rfl, -, -, rb⟩ := hv
  have e1 := fixN_len 8 a
  have e2 := fixN_len 8 b
  generalize hxs : fixN 8 a = xs at *
  generalize hys : fixN 8 b = ys at *
  have Hxs := hide hxs; have Hys := hide hys; clear hxs hys
  have Ra := hide ra; have Rb := hide rb; clear ra rb Hu Hv
  rw [e1, e2]
  go_wp2_with fail
  go_loopw [9] (fun i wr => ∃ (k n : Nat), k ≤ 7 ∧ i = .int .i64 (k : Int) ∧ wr = w2.drewN n ∧ ∀ j, j < k → xs[j]? = ys[j]?) (fun i _ => 7 - (intOf i).toNat)
  case atStart => exact ⟨0, 0, by omega, rfl, rfl, by intro j h; omega⟩
  case round =>
    obtain ⟨k, n, hk, rfl, rfl, heq⟩ := hrel
    have Heq := hide heq; clear heq
    obtain ⟨ad, rfl, hca⟩ := Ra.out.byte (show k < xs.length by omega)
    obtain ⟨bd, rfl, hcb⟩ := Rb.out.byte (show k < ys.length by omega)
    have hxk := hide (List.getElem?_eq_getElem (show k < xs.length by omega))
    have hyk := hide (List.getElem?_eq_getElem (show k < ys.length by omega))
    generalize xs[k] = p at *
    generalize ys[k] = q at *
    by_cases h7 : k < 7 ∧ p = q
    · obtain ⟨h7, rfl⟩ := h7
      have i1 : (k : Int) < 7 := by omega
      go_wp2
      go_quiet (fail)
      go_wp2
      go_roundw
      case rel =>
        refine ⟨k + 1, _, by omega, by go_num, rfl, fun j hj => ?_⟩
        by_cases hjk : j < k
        · exact Heq.out j hjk
        · have : j = k := by omega
          subst this
          rw [hxk.out, hyk.out]
      case measure => simp [intOf]; omega
    · have hlt : (p.toNat < q.toNat ↔ a < b) := by
        by_cases hpq : p = q
        · subst hpq
          have hk7 : k = 7 := by
            by_cases h : k < 7
            · exact absurd ⟨h, rfl⟩ h7
            · omega
          have hxy : xs = ys := by
            apply List.ext_getElem?
            intro j
            by_cases hj : j < k
            · exact Heq.out j hj
            · by_cases hj2 : j = k
              · subst hj2; rw [hxk.out, hyk.out]
              · rw [List.getElem?_eq_none (by omega), List.getElem?_eq_none (by omega)]
          have := fix_inj (k := 8) (a := a) (b := b) (by rw [Hxs.out, Hys.out, hxy])
          omega
        · have h1 := fix_order 8 a b k (by omega) (by rw [Hxs.out, Hys.out]; exact Heq.out) p q (by rw [Hxs.out]; exact hxk.out) (by rw [Hys.out]; exact hyk.out) hpq
          rw [UInt8.lt_iff_toNat_lt] at h1
          omega
      have Hlt := hide hlt; clear hlt
      obtain ⟨t, I3, I4⟩ : ∃ t : Bool, Hid (decide (p.toNat < q.toNat) = t) ∧ Hid (decide (a < b) = t) := by
        refine ⟨decide (a < b), hide ?_, hide rfl⟩
        have := Hlt.out
        rw [decide_eq_decide]; exact this
      by_cases h7k : k < 7
      · have i1 : (k : Int) < 7 := by omega
        have hpq : p.toNat ≠ q.toNat := fun e => h7 ⟨h7k, u8_eq e⟩
        have i2 : ((p.toNat : Int) == (q.toNat : Int)) = false := by simp; omega
        go_wp2
        go_quiet (fail)
        go_wp2
        have i3 := I3.out
        have i4 := I4.out
        cases t <;> go_quiet (fail)
        all_goals clear i3 i4 hca hcb
        all_goals go_wp2_with fail
        all_goals refine (low_any x 64 _ (by omega) (by omega)).mono ?_
        all_goals rintro e w' ⟨rfl, rfl⟩
        all_goals have Hlow := hide (low_lt x (n := 64) (by omega))
        all_goals generalize low x 64 = y at *
        all_goals go_wp2_with fail
        all_goals refine (put_z _ _ [] _ (2 ^ y) (pow_z Hlow.out) (by simp) (pow_lt Hlow.out) (RB.nil _)).mono ?_
        all_goals rintro e w3 ⟨u3, rfl, hx, ho⟩
        all_goals have Hx3 := hide ((Hx2.out.trans (Ext.drewN _ _)).trans hx)
        all_goals obtain ⟨A3, c3, rfl, hc3, hm3, -⟩ := ho.rc
        all_goals have Hl3 := hide (putN_low y Hlow.out)
        all_goals rw [List.nil_append] at *
        all_goals generalize (putN (2 ^ y)).length = L3 at *
        all_goals clear hx ho
        all_goals go_wp2_with fail
        all_goals refine (put_z _ _ [] _ (2 ^ y - 1) (pow_z1 Hlow.out) (by simp) (by have := pow_lt Hlow.out; omega) (RB.nil _)).mono ?_
        all_goals rintro e w4 ⟨u4, rfl, hx, ho⟩
        all_goals have Hx4 := hide (Hx3.out.trans hx)
        all_goals obtain ⟨A4, c4, rfl, hc4, hm4, -⟩ := ho.rc
        all_goals have Hl4 := hide (putN_high y Hlow.out)
        all_goals rw [List.nil_append] at *
        all_goals generalize (putN (2 ^ y - 1)).length = L4 at *
        all_goals clear hx ho
        all_goals have J3 := Hl3.out
        all_goals have J4 := Hl4.out
        all_goals have J0 := Hlow.out
        all_goals clear Hl3 Hl4
        all_goals by_cases hy : y = 0
        all_goals go_wp2_with fail
        all_goals refine (awake_any _).mono ?_
        all_goals rintro e w5 ⟨rfl, hx⟩
        all_goals have Hx5 := hide (Hx4.out.trans hx)
        all_goals clear hx
        all_goals go_wp2_with fail
        all_goals go_ret
        all_goals exact ⟨rfl, Hx5.out⟩
      · have I1 := hide (show decide ((k : Int) < 7) = false by simp; omega)
        go_wp2
        have i1 := I1.out
        go_quiet (fail)
        go_wp2
        have i3 := I3.out
        have i4 := I4.out
        cases t <;> go_quiet (fail)
        all_goals clear i3 i4 hca hcb
        all_goals go_wp2_with fail
        all_goals refine (low_any x 64 _ (by omega) (by omega)).mono ?_
        all_goals rintro e w' ⟨rfl, rfl⟩
        all_goals have Hlow := hide (low_lt x (n := 64) (by omega))
        all_goals generalize low x 64 = y at *
        all_goals go_wp2_with fail
        all_goals refine (put_z _ _ [] _ (2 ^ y) (pow_z Hlow.out) (by simp) (pow_lt Hlow.out) (RB.nil _)).mono ?_
        all_goals rintro e w3 ⟨u3, rfl, hx, ho⟩
        all_goals have Hx3 := hide ((Hx2.out.trans (Ext.drewN _ _)).trans hx)
        all_goals obtain ⟨A3, c3, rfl, hc3, hm3, -⟩ := ho.rc
        all_goals have Hl3 := hide (putN_low y Hlow.out)
        all_goals rw [List.nil_append] at *
        all_goals generalize (putN (2 ^ y)).length = L3 at *
        all_goals clear hx ho
        all_goals go_wp2_with fail
        all_goals refine (put_z _ _ [] _ (2 ^ y - 1) (pow_z1 Hlow.out) (by simp) (by have := pow_lt Hlow.out; omega) (RB.nil _)).mono ?_
        all_goals rintro e w4 ⟨u4, rfl, hx, ho⟩
        all_goals have Hx4 := hide (Hx3.out.trans hx)
        all_goals obtain ⟨A4, c4, rfl, hc4, hm4, -⟩ := ho.rc
        all_goals have Hl4 := hide (putN_high y Hlow.out)
        all_goals rw [List.nil_append] at *
        all_goals generalize (putN (2 ^ y - 1)).length = L4 at *
        all_goals clear hx ho
        all_goals have J3 := Hl3.out
        all_goals have J4 := Hl4.out
        all_goals have J0 := Hlow.out
        all_goals clear Hl3 Hl4
        all_goals by_cases hy : y = 0
        all_goals go_wp2_with fail
        all_goals refine (awake_any _).mono ?_
        all_goals rintro e w5 ⟨rfl, hx⟩
        all_goals have Hx5 := hide (Hx4.out.trans hx)
        all_goals clear hx
        all_goals go_wp2_with fail
        all_goals go_ret
        all_goals exact ⟨rfl, Hx5.out⟩
end Go.Proofs.Ytobbgjgcgohdgaa
