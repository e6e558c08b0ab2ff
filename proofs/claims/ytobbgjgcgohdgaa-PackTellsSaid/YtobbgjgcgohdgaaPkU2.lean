/- The reference Unfix, walked. Conditions: at most 900000 bytes. -/
import Derived.Test.YtobbgjgcgohdgaaPkX
namespace Go.Proofs.Ytobbgjgcgohdgaa
open Go Go.RowKit
set_option linter.unusedVariables false

theorem row_end {w : World} {A : Option Addr} {l : List UInt8} {k : Nat} (hk : l.length ≤ k) : Row w A (bvs (l.drop k)) := by
  rw [show l.drop k = [] from by simp; omega]
  exact Row.nil _ _
theorem own_end {w : World} {b : Nat} {e : TypeId} {A : Option Addr} {l : List UInt8} {k : Nat} (hk : l.length ≤ k) : Own w b e 1 (.slice A 0 0) 0 (bvs (l.drop k)) := by
  rw [show l.drop k = [] from by simp; omega]
  exact Own.nil _ _ _ _ _
theorem row_add {w : World} {ad : Addr} {l : List UInt8} {k : Nat} (ha : Row w (some ad) (bvs l)) : Row w (some (ad.add k)) (bvs (l.drop k)) := by
  by_cases hk : l.length ≤ k
  · exact row_end hk
  · obtain ⟨A, c, hv, _, hr⟩ := rb_add (k := k) (c := l.length) ha (by omega) (Nat.le_refl _)
    injection hv with h1 h2 h3
    rw [h1]
    exact hr
set_option maxHeartbeats 1000000 in
theorem runfix_out (A : Option Addr) (c : Nat) (l : List UInt8) (many : Int) (w : World) (hl : l.length ≤ 900000) (h : many < 0 ∨ 8 < many ∨ (l.length : Int) < many) :
    Calls Try.prog 17 #[.slice A l.length c, .int .i64 many] w fun e w' => e = .returned (.tuple #[.int .u64 0, .slice none 0 0, .bool false]) ∧ w' = w := by
  by_cases h1 : many < 0
  · go_enter Try.func17, Try.ntmps17
    go_wp2_with fail
    go_ret3
    exact ⟨rfl, rfl⟩
  · by_cases h2 : 8 < many
    · go_enter Try.func17, Try.ntmps17
      go_wp2_with fail
      go_ret3
      exact ⟨rfl, rfl⟩
    · have h3 : (l.length : Int) < many := by omega
      clear h
      go_enter Try.func17, Try.ntmps17
      go_wp2_with fail
      go_ret3
      exact ⟨rfl, rfl⟩
set_option maxRecDepth 100000 in
set_option maxHeartbeats 1000000 in
theorem runfix_in (A : Option Addr) (c : Nat) (l : List UInt8) (many : Nat) (w : World) (hl : l.length ≤ 900000) (hc : l.length ≤ c) (hc2 : c ≤ maxLen) (hm : many ≤ 8) (hml : many ≤ l.length) (ha : Row w A (bvs l)) :
    Calls Try.prog 17 #[.slice A l.length c, .int .i64 (many : Int)] w fun e w' => ∃ v, e = .returned (.tuple #[.int .u64 ((unfN 0 (l.take many) : Nat) : Int), v, .bool true]) ∧ Ext w w' ∧ Own w' w.heap.size 5 1 v (l.drop many).length (bvs (l.drop many)) := by
  obtain ⟨i0, hi, hz0, hz1, hz2⟩ := info_parts Try.infoU8
  have Hi := hide hi; clear hi
  unfold maxLen at hc2
  have i1 : ¬ (many : Int) < 0 := by omega
  have i2 : ¬ (8 : Int) < (many : Int) := by omega
  have i3 : ¬ (l.length : Int) < (many : Int) := by omega
  by_cases hA : A = none
  · subst hA
    have hl0 : l = [] := by
      rcases l with _ | ⟨x, l⟩
      · rfl
      · obtain ⟨ad, h, _⟩ := ha (by simp [bvs])
        cases h
    subst hl0
    have hm0 : many = 0 := by simpa using hml
    subst hm0
    show Calls Try.prog 17 #[.slice none 0 c, .int .i64 0] w _
    go_enter Try.func17, Try.ntmps17
    go_wp2_with fail
    refine wp_loop_rounds 1 ?_
    rw [rounds_succ]
    go_wp2_with (at_builtin; refine wpList_app _ rfl _ _ 23 rfl w.heap.size 5 i0 (.int .u8 0) 1 1 Try.underlying23 Hi.out hz0 hz1 hz2 rfl (by decide) _ 0 [] rfl (Own.nil _ _ _ _ _) _ _ _ (bvs ([])) rfl ((by simp [bvs])) ((Row.nil _ _)) (bvs_one _) ?c2q15 ?c3q15 ?c4q15 ?_)
    try case c2q15 => omega
    try case c3q15 => unfold maxLen; omega
    try case c4q15 => omega
    intro v w1 o1 g1 _
    have Hx := hide (ext_of_grown g1); have Ho := hide o1; clear g1 o1
    go_wp2_with fail
    go_ret3
    exact ⟨v, rfl, Hx.out, by simpa using Ho.out⟩

  obtain ⟨ad, rfl⟩ : ∃ ad, A = some ad := by cases A with | none => exact absurd rfl hA | some ad => exact ⟨ad, rfl⟩
  clear hA
  have Ha := hide ha
  go_enter Try.func17, Try.ntmps17
  go_wp2_with fail
  go_loop [7, 8] (fun nn i => ∃ (k : Nat), k ≤ many ∧ i = .int .i64 (k : Int) ∧ nn = .int .u64 ((unfN 0 (l.take k) : Nat) : Int)) (fun _ i => many - (intOf i).toNat)
  case atStart => exact ⟨0, by omega, rfl, rfl⟩
  case round =>
    obtain ⟨k, hk, rfl, rfl⟩ := hrel
    have Hs := hide (unfN_small l k 7)
    by_cases hlt : k < many
    · have hlt2 : k < l.length := by omega
      have hst := hide (unfN_step l k hlt2)
      obtain ⟨ad', h1, hca⟩ := ha.byte hlt2
      cases h1
      clear ha
      generalize hx : l[k] = x at *
      have Hx := hide hx; clear hx
      generalize hn : unfN 0 (l.take k) = n at *
      have Hn := hide hn; clear hn
      have i4 : (k : Int) < (many : Int) := by omega
      have i5 : (k : Int) < (l.length : Int) := by omega
      have Hv := hide (or_shl8 n x.toNat (Hs.out (by omega)) x.toNat_lt)
      go_wp2_with fail
      go_round
      case rel =>
        refine ⟨k + 1, by omega, by go_num, ?_⟩
        rw [hst.out, ← Hv.out]
      case measure => simp [intOf]; omega
    · have hk2 : k = many := by omega
      subst hk2
      clear ha
      by_cases hck : c = k
      · have hlk : l.length ≤ k := by omega
        have Hlk := hide hlk
        go_wp2_with fail
        go_ret3
        exact ⟨_, rfl, Ext.refl _, own_end Hlk.out⟩
      · go_wp2_with (at_builtin; refine wpList_app _ rfl _ _ 23 rfl w.heap.size 5 i0 (.int .u8 0) 1 1 Try.underlying23 Hi.out hz0 hz1 hz2 rfl (by decide) _ 0 [] rfl (Own.nil _ _ _ _ _) _ _ _ (bvs (l.drop k)) rfl (by simp [bvs]) (row_add Ha.out) (bvs_one _) (by omega) (by unfold maxLen; omega) (by omega) ?_)
        intro v w1 o1 g1 _
        have Hx := hide (ext_of_grown g1); have Ho := hide o1
        clear g1 o1
        go_wp2_with fail
        go_ret3
        exact ⟨v, rfl, Hx.out, by simpa using Ho.out⟩
end Go.Proofs.Ytobbgjgcgohdgaa
