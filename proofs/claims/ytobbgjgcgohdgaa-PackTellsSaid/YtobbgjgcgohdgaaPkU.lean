/- pack.Unfix, walked. Conditions: at most 900000 bytes. -/
import Derived.Test.YtobbgjgcgohdgaaPkG
namespace Go.Proofs.Ytobbgjgcgohdgaa
open Go Go.RowKit
set_option linter.unusedVariables false

theorem or_shl8 (n x : Nat) (hn : n < 2 ^ 56) (hx : x < 256) : bits BinOp.or .u64 (IntKind.u64.wrap ((n : Int) * 256)) (IntKind.u64.wrap (x : Int)) = ((n * 256 + x : Nat) : Int) := by
  rw [wraps_u64 (x : Int) (by omega) (by omega)]
  rw [show (n : Int) * 256 = ((n * 256 : Nat) : Int) from by omega, wraps_u64 _ (by omega) (by omega)]
  rw [bits_join .u64 64 (by decide) wraps_u64 8 _ _ (by omega) (by omega) (by omega) (by omega) (by omega) (by omega)]
  omega
theorem rb_add {w : World} {ad : Addr} {l : List UInt8} {k c : Nat} (ha : Row w (some ad) (bvs l)) (hk2 : k ≤ l.length) (hc : l.length ≤ c) : RB w (.slice (some (ad.add k)) (l.length - k) (c - k)) (l.drop k) := by
  by_cases h : k = 0
  · subst h
    exact ⟨some ad, c, by simp [Addr.add], by simpa using hc, by simpa using ha⟩
  · have := rb_tail ha h hk2 hc
    rw [show ad.add k = ⟨ad.block, ad.off + k, none⟩ from by unfold Addr.add; rw [if_neg h]]
    exact this
theorem unfN_step (l : List UInt8) (k : Nat) (hk : k < l.length) : unfN 0 (l.take (k + 1)) = unfN 0 (l.take k) * 256 + l[k].toNat := by
  rw [List.take_succ_eq_append_getElem hk, unfN_snoc]
theorem unfN_small (l : List UInt8) (k j : Nat) (hj : k ≤ j) : unfN 0 (l.take k) < 2 ^ (8 * j) := by
  have h := unfN_lt (l.take k) 0 0 (by omega)
  have h2 : 256 ^ (0 + (l.take k).length) ≤ 256 ^ j := Nat.pow_le_pow_right (by decide) (by simp; omega)
  rw [show (256 : Nat) = 2 ^ 8 from rfl, ← Nat.pow_mul] at h2
  rw [← Nat.pow_mul] at h2
  rw [show (256 : Nat) = 2 ^ 8 from rfl, ← Nat.pow_mul] at h
  omega
set_option maxRecDepth 100000 in
set_option maxHeartbeats 1000000 in
theorem unfix_out (A : Option Addr) (c : Nat) (l : List UInt8) (many : Int) (w : World) (hl : l.length ≤ 900000) (h : many < 0 ∨ 8 < many ∨ (l.length : Int) < many) :
    Calls Try.prog 15 #[.slice A l.length c, .int .i64 many] w fun e w' => e = .returned (.tuple #[.int .u64 0, .slice none 0 0, .bool false]) ∧ w' = w := by
  by_cases h1 : many < 0
  · go_enter Try.func15, Try.ntmps15
    go_wp2_with fail
    go_ret3
    exact ⟨rfl, rfl⟩
  · by_cases h2 : 8 < many
    · go_enter Try.func15, Try.ntmps15
      go_wp2_with fail
      go_ret3
      exact ⟨rfl, rfl⟩
    · have h3 : (l.length : Int) < many := by omega
      clear h
      go_enter Try.func15, Try.ntmps15
      go_wp2_with fail
      go_ret3
      exact ⟨rfl, rfl⟩
set_option maxRecDepth 100000 in
set_option maxHeartbeats 1000000 in
theorem unfix_in (A : Option Addr) (c : Nat) (l : List UInt8) (many : Nat) (w : World) (hl : l.length ≤ 900000) (hc : l.length ≤ c) (hc2 : c ≤ maxLen) (hm : many ≤ 8) (hml : many ≤ l.length) (ha : Row w A (bvs l)) :
    Calls Try.prog 15 #[.slice A l.length c, .int .i64 (many : Int)] w fun e w' => ∃ v, e = .returned (.tuple #[nv (unfN 0 (l.take many)), v, .bool true]) ∧ Ext w w' ∧ Own w' w.heap.size 5 1 v (l.drop many).length (bvs (l.drop many)) := by
  unfold maxLen at hc2
  have i1 : ¬ (many : Int) < 0 := by omega
  have i2 : ¬ (8 : Int) < (many : Int) := by omega
  have i3 : ¬ (l.length : Int) < (many : Int) := by omega
  cases A with
  | none =>
    have hl0 : l = [] := by
      rcases l with _ | ⟨x, l⟩
      · rfl
      · obtain ⟨ad, h, _⟩ := ha (by simp [bvs])
        cases h
    subst hl0
    have hm0 : many = 0 := by simpa using hml
    subst hm0
    show Calls Try.prog 15 #[.slice none 0 c, .int .i64 0] w _
    go_enter Try.func15, Try.ntmps15
    go_wp2_with fail
    refine wp_loop_rounds 1 ?_
    rw [rounds_succ]
    go_wp2_with fail
    all_goals refine (clone_rb (l := []) (by exact ⟨none, _, rfl, by simp, Row.nil _ _⟩) (by simp)).mono ?_
    all_goals rintro e w1 ⟨v, rfl, hx, ho⟩
    all_goals have Hx1 := hide hx; have Ho := hide ho; clear hx ho
    all_goals go_wp2_with fail
    all_goals go_ret3
    all_goals exact ⟨v, rfl, Hx1.out, Ho.out⟩
  | some ad =>
    have Ha := hide ha
    go_enter Try.func15, Try.ntmps15
    go_wp2_with fail
    go_loop [7, 26] (fun nn i => ∃ (k : Nat), k ≤ many ∧ i = .int .i64 (k : Int) ∧ nn = .int .u64 ((unfN 0 (l.take k) : Nat) : Int)) (fun _ i => many - (intOf i).toNat)
    case atStart => exact ⟨0, by omega, rfl, rfl⟩
    case round =>
      obtain ⟨k, hk, rfl, rfl⟩ := hrel
      have Hs := hide (unfN_small l k 7)
      by_cases hlt : k < many
      · have hlt2 : k < l.length := by omega
        have hst := hide (unfN_step l k hlt2)
        obtain ⟨ad', h1, hca⟩ := ha.byte hlt2
        cases h1
        clear ha
        generalize hx : l[k] = x at *
        have Hx := hide hx; clear hx
        generalize hn : unfN 0 (l.take k) = n at *
        have Hn := hide hn; clear hn
        have i4 : (k : Int) < (many : Int) := by omega
        have Hv := hide (or_shl8 n x.toNat (Hs.out (by omega)) x.toNat_lt)
        go_wp2_with fail
        go_round
        case rel =>
          refine ⟨k + 1, by omega, by go_num, ?_⟩
          rw [hst.out, ← Hv.out]
        case measure => simp [intOf]; omega
      · have hk2 : k = many := by omega
        subst hk2
        go_wp2_with fail
        all_goals refine (clone_rb (l := l.drop k) (by first | exact rb_end (ad := ad) (by omega) (by omega) | exact rb_add Ha.out (by omega) (by omega)) (by simp; omega)).mono ?_
        all_goals rintro e w1 ⟨v, rfl, hx, ho⟩
        all_goals have Hx1 := hide hx; have Ho := hide ho; clear hx ho
        all_goals go_wp2_with fail
        all_goals go_ret3
        all_goals exact ⟨v, rfl, Hx1.out, Ho.out⟩
end Go.Proofs.Ytobbgjgcgohdgaa
