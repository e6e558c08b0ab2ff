/- pack.Get, walked. Conditions: at most 900000 bytes. -/
import Derived.Test.YtobbgjgcgohdgaaPkF
import Derived.Laws.BitsLemmas
namespace Go.Proofs.Ytobbgjgcgohdgaa
open Go Go.RowKit
set_option linter.unusedVariables false

/-- what Get returns -/
def getV (w w' : World) (e : Ending) : Option (Nat × List UInt8) → Prop
  | none => e = .returned (.tuple #[.int .u64 0, .slice none 0 0, .bool false])
  | some (n, r) => ∃ v, e = .returned (.tuple #[nv n, v, .bool true]) ∧ Own w' w.heap.size 5 1 v r.length (bvs r)
theorem and127 (x : UInt8) : bits BinOp.and .u8 (x.toNat : Int) 127 = ((x.toNat % 128 : Nat) : Int) := by
  have h : ∀ x : Fin 256, bits BinOp.and .u8 (x.val : Int) 127 = ((x.val % 128 : Nat) : Int) := by decide +kernel
  exact h ⟨x.toNat, x.toNat_lt⟩
theorem wraps_u64 (n : Int) (h₀ : 0 ≤ n) (h₁ : n < 2 ^ 64) : IntKind.u64.wrap n = n := by rw [IntKind.wrap_u64]; omega
theorem or_low (m y s : Nat) (hm : m < 2 ^ s) (hy : y * 2 ^ s < 2 ^ 64) (hm2 : m < 2 ^ 64) : bits BinOp.or .u64 (m : Int) (IntKind.u64.wrap ((y : Int) * 2 ^ s)) = ((m + y * 2 ^ s : Nat) : Int) := by
  have e : (y : Int) * 2 ^ s = ((y * 2 ^ s : Nat) : Int) := by simp
  rw [e, wraps_u64 _ (by omega) (by exact_mod_cast hy)]
  rw [(bits_nat .u64 64 (by decide) wraps_u64 m (y * 2 ^ s) hm2 hy).2]
  rw [Nat.or_comm, Nat.mul_comm, ← Nat.two_pow_add_eq_or_of_lt hm y, Nat.add_comm]
theorem or_low9 (m y : Nat) (hm : m < 2 ^ 63) (hy : y ≤ 1) : bits BinOp.or .u64 (m : Int) ((y : Int) * 9223372036854775808) = ((m + y * 2 ^ 63 : Nat) : Int) := by
  have := or_low m y 63 hm (by omega) (by omega)
  rw [wraps_u64 _ (by omega) (by omega)] at this
  exact this
theorem get_step {m x k : Nat} (hm : m < 2 ^ (7 * k)) (hk : k < 9) (hx : x < 128) : m + x * 2 ^ (7 * k) < 2 ^ (7 * (k + 1)) ∧ x * 2 ^ (7 * k) < 2 ^ 64 ∧ m < 2 ^ 64 := by
  have h1 : 2 ^ (7 * (k + 1)) = 128 * 2 ^ (7 * k) := by rw [show 7 * (k + 1) = 7 + 7 * k from by omega, Nat.pow_add]
  have h2 : 2 ^ (7 * (k + 1)) ≤ 2 ^ 63 := Nat.pow_le_pow_right (by decide) (by omega)
  have h3 : x * 2 ^ (7 * k) ≤ 127 * 2 ^ (7 * k) := Nat.mul_le_mul_right _ (by omega)
  omega
theorem ret3 {a b : Int} {v u : Value} (h : a = b) : Ending.returned (.tuple #[.int .u64 a, v, u]) = .returned (.tuple #[.int .u64 b, v, u]) := by rw [h]
theorem rb_end {w : World} {ad : Addr} {l : List UInt8} {k n : Nat} (hk : l.length ≤ k) (hn : n = 0) : RB w (.slice (some ad) (l.length - k) n) (l.drop k) := by
  subst hn
  rw [show l.drop k = [] from by simp; omega, show l.length - k = 0 from by omega]
  exact ⟨some ad, 0, rfl, Nat.le_refl _, Row.nil _ _⟩
theorem rb_tail {w : World} {ad : Addr} {l : List UInt8} {k c : Nat} (ha : Row w (some ad) (bvs l)) (hk : k ≠ 0) (hk2 : k ≤ l.length) (hc : l.length ≤ c) : RB w (.slice (some ⟨ad.block, ad.off + k, none⟩) (l.length - k) (c - k)) (l.drop k) := by
  refine ⟨some ⟨ad.block, ad.off + k, none⟩, c - k, by simp, by simp; omega, fun hn => ⟨_, rfl, fun j u hu => ?_⟩⟩
  have hne : bvs l ≠ [] := by
    intro e
    have : l = [] := by simpa [bvs] using e
    subst this
    simp [bvs] at hn
  obtain ⟨ad', h1, h2⟩ := ha hne
  cases h1
  have := h2 (k + j) u (by simpa [bvs, List.getElem?_drop] using hu)
  rw [← this]
  congr 1
  unfold Addr.add
  rw [if_neg (show ¬ k + j = 0 by omega)]
  split <;> simp <;> omega
theorem clone_rb {w : World} {v : Value} {l : List UInt8} (h : RB w v l) (hl : l.length ≤ 1000000) : Calls Try.prog 22 #[v] w fun e w' => ∃ v, e = .returned v ∧ Ext w w' ∧ Own w' w.heap.size 5 1 v l.length (bvs l) := by
  obtain ⟨A, c, rfl, hc, hr⟩ := h
  exact clone_any A c l w hl hr
set_option maxRecDepth 100000 in
set_option maxHeartbeats 1000000 in
theorem get_any (A : Option Addr) (c : Nat) (l : List UInt8) (w : World) (hl : l.length ≤ 900000) (hc : l.length ≤ c) (hc2 : c ≤ maxLen) (ha : Row w A (bvs l)) :
    Calls Try.prog 10 #[.slice A l.length c] w fun e w' => Ext w w' ∧ getV w w' e (getN l) := by
  unfold maxLen at hc2
  go_enter Try.func10, Try.ntmps10
  go_wp2_with fail
  go_loop [5, 11] (fun nn i => ∃ (k m : Nat), k ≤ l.length ∧ k ≤ 10 ∧ m < 2 ^ (7 * k) ∧ i = .int .i64 (k : Int) ∧ nn = .int .u64 (m : Int) ∧ getL k m (l.drop k) = getN l) (fun _ i => l.length - (intOf i).toNat)
  case atStart => exact ⟨0, 0, by omega, by omega, by simp, rfl, rfl, rfl⟩
  case round =>
    obtain ⟨k, m, hk, hk10, hm, rfl, rfl, hg⟩ := hrel
    have Hm := hide hm; have Hg := hide hg; clear hm hg
    by_cases hlt : k < l.length
    · obtain ⟨ad, rfl, hca⟩ := ha.byte hlt
      have Ha := hide ha
      clear ha
      have hd := hide (List.drop_eq_getElem_cons hlt)
      generalize hx : l[k] = x at *
      have Hx := hide hx; clear hx
      have i1 : (k : Int) < (l.length : Int) := by omega
      have hand := and127 x
      by_cases h10 : 9 < k
      · have i2 : (9 : Int) < (k : Int) := by omega
        go_wp2_with fail
        go_ret3
        refine ⟨Ext.refl _, ?_⟩
        rw [← Hg.out, hd.out]
        simp only [getL]
        rw [if_pos (.inl h10)]
        rfl
      · have i2 : ¬ (9 : Int) < (k : Int) := by omega
        by_cases h9' : k = 9
        · subst h9'
          have hc9 : w.cell? ⟨ad.block, ad.off + 9, none⟩ = some (.int .u8 (x.toNat : Int)) := by simpa [Addr.add] using hca
          clear hca
          by_cases h9 : 1 < x.toNat % 128
          · have i4 : (1 : Int) < (x.toNat : Int) % 128 := by omega
            go_wp2_with fail
            go_ret3
            refine ⟨Ext.refl _, ?_⟩
            rw [← Hg.out, hd.out]
            simp only [getL]
            rw [if_pos (by simp; omega)]
            rfl
          · have i4 : ¬ (1 : Int) < (x.toNat : Int) % 128 := by omega
            have Hv := hide (or_low9 m (x.toNat % 128) Hm.out (by omega))
            by_cases h128 : 127 < x.toNat
            · have i5 : ¬ (x.toNat : Int) < 128 := by omega
              go_wp2_with fail
              go_round
              case rel =>
                refine ⟨10, m + x.toNat % 128 * 2 ^ 63, by omega, by omega, by have := Hm.out; omega, rfl, ?_, ?_⟩
                · rw [← Hv.out]; simp
                · rw [← Hg.out, hd.out]
                  simp only [getL]
                  rw [if_neg (by omega), if_neg (by omega)]
              case measure => simp [intOf]; omega
            · have i5 : (x.toNat : Int) < 128 := by omega
              by_cases h0 : x.toNat = 0
              · have i6 : (x.toNat : Int) = 0 := by omega
                go_wp2_with fail
                go_ret3
                refine ⟨Ext.refl _, ?_⟩
                rw [← Hg.out, hd.out]
                simp only [getL]
                rw [if_neg (by omega), if_pos (by omega), if_pos (by omega)]
                rfl
              · have i6 : ((x.toNat : Int) == 0) = false := by simp; omega
                go_wp2_with fail
                all_goals refine (clone_rb (l := l.drop (9 + 1)) (by first | exact rb_end (ad := ad) (by omega) (by omega) | exact rb_tail Ha.out (by omega) (by omega) (by omega)) (by simp; omega)).mono ?_
                all_goals rintro e w1 ⟨v, rfl, hx, ho⟩
                all_goals have Hx1 := hide hx; have Ho := hide ho; clear hx ho
                all_goals go_wp2_with fail
                all_goals go_ret3
                all_goals refine ⟨Hx1.out, ?_⟩
                all_goals rw [← Hg.out, hd.out]
                all_goals simp only [getL]
                all_goals rw [if_neg (by omega), if_pos (by omega), if_neg (by omega)]
                all_goals exact ⟨v, ret3 (by rw [← Hv.out]; simp), Ho.out⟩
        · have i3 : ((k : Int) == 9) = false := by simp; omega
          have Hs := hide (get_step Hm.out (show k < 9 by omega) (show x.toNat % 128 < 128 by omega))
          have Hv := hide (or_low m (x.toNat % 128) (7 * k) Hm.out Hs.out.2.1 Hs.out.2.2)
          by_cases h128 : 127 < x.toNat
          · have i5 : ¬ (x.toNat : Int) < 128 := by omega
            go_wp2_with fail
            go_round
            case rel =>
              refine ⟨k + 1, m + x.toNat % 128 * 2 ^ (7 * k), by omega, by omega, Hs.out.1, by go_num, ?_, ?_⟩
              · rw [← Hv.out]; simp
              · rw [← Hg.out, hd.out]
                simp only [getL]
                rw [if_neg (by omega), if_neg (by omega)]
            case measure => simp [intOf]; omega
          · have i5 : (x.toNat : Int) < 128 := by omega
            by_cases h0 : x.toNat = 0
            · by_cases hk0 : k = 0
              · subst hk0
                have hm0 : m = 0 := by have := Hm.out; simp at this; exact this
                subst hm0
                have hca0 : w.cell? ad = some (.int .u8 (x.toNat : Int)) := by simpa [Addr.add] using hca
                clear hca
                have i6 : ((x.toNat : Int) == 0) = true := by simp; omega
                go_wp2_with fail
                all_goals refine (clone_rb (l := l.drop (0 + 1)) (by first | exact rb_end (ad := ad) (by omega) (by omega) | exact rb_tail Ha.out (by omega) (by omega) (by omega)) (by simp; omega)).mono ?_
                all_goals rintro e w1 ⟨v, rfl, hx, ho⟩
                all_goals have Hx1 := hide hx; have Ho := hide ho; clear hx ho
                all_goals go_wp2_with fail
                all_goals go_ret3
                all_goals refine ⟨Hx1.out, ?_⟩
                all_goals rw [← Hg.out, hd.out]
                all_goals simp only [getL]
                all_goals rw [if_neg (by omega), if_pos (by omega), if_neg (by omega)]
                all_goals exact ⟨v, ret3 (by rw [h0]; decide +kernel), Ho.out⟩
              · have i7 : (0 : Int) < (k : Int) := by omega
                have i6 : ((x.toNat : Int) == 0) = true := by simp; omega
                go_wp2_with fail
                go_ret3
                refine ⟨Ext.refl _, ?_⟩
                rw [← Hg.out, hd.out]
                simp only [getL]
                rw [if_neg (by omega), if_pos (by omega), if_pos (by omega)]
                rfl
            · have i6 : ((x.toNat : Int) == 0) = false := by simp; omega
              go_wp2_with fail
              all_goals refine (clone_rb (l := l.drop (k + 1)) (by first | exact rb_end (ad := ad) (by omega) (by omega) | exact rb_tail Ha.out (by omega) (by omega) (by omega)) (by simp; omega)).mono ?_
              all_goals rintro e w1 ⟨v, rfl, hx, ho⟩
              all_goals have Hx1 := hide hx; have Ho := hide ho; clear hx ho
              all_goals go_wp2_with fail
              all_goals go_ret3
              all_goals refine ⟨Hx1.out, ?_⟩
              all_goals rw [← Hg.out, hd.out]
              all_goals simp only [getL]
              all_goals rw [if_neg (by omega), if_pos (by omega), if_neg (by omega)]
              all_goals exact ⟨v, ret3 (by rw [← Hv.out]; simp), Ho.out⟩
    · have hk2 : k = l.length := by omega
      have i1 : ¬ (k : Int) < (l.length : Int) := by omega
      go_wp2_with fail
      go_ret3
      refine ⟨Ext.refl _, ?_⟩
      rw [← Hg.out, hk2, List.drop_length]
      rfl
end Go.Proofs.Ytobbgjgcgohdgaa
