/- Plain laws of the plan. -/
import Derived.Test.YtemcmnhfehpmlaaA0d
namespace Go.Proofs.Ytemcmnhfehpmlaa
open Go Go.RowKit
set_option linter.unusedVariables false
set_option linter.unusedSimpArgs false

theorem lit_true {x : Bool} (h : x = true) : AV.lit (.bool x) = .lit (.bool true) := by rw [h]
theorem of_facts {b p s : Int} (h : okG b p s) : (ofM b p s).pages = b * p ∧ (ofM b p s).each = eachM s ∧ (ofM b p s).check = chk b p s ∧ (ofM b p s).spare = 2 * chk b p s + 5 ∧ (ofM b p s).room = b - (2 * chk b p s + 5) ∧ (ofM b p s).most = 8 * (b * p) + 200 := by
  rw [ofM_ok h]; exact ⟨rfl, rfl, rfl, rfl, rfl, rfl⟩
theorem up_bd (a : Int) {p : Int} (hp : 1 ≤ p) : a ≤ (a + p - 1) / p * p ∧ ((a + p - 1) / p - 1) * p < a := by
  have h1 := Int.emod_add_mul_ediv (a + p - 1) p
  have h2 := Int.emod_nonneg (a + p - 1) (show p ≠ 0 by omega)
  have h3 := Int.emod_lt_of_pos (a + p - 1) (show 0 < p by omega)
  rw [Int.sub_mul, Int.one_mul, Int.mul_comm ((a + p - 1) / p) p]
  omega
theorem parts_ge {s m : Int} (h : 128 ≤ s ∧ s ≤ 256) (hm : 0 ≤ m) : m ≤ partsM s m * eachM s := by
  have he := each_bd s
  unfold partsM
  rw [if_neg (by omega)]
  have h1 := Int.emod_add_mul_ediv m (eachM s)
  have h2 := Int.emod_nonneg m (show eachM s ≠ 0 by omega)
  have h3 := Int.emod_lt_of_pos m (show 0 < eachM s by omega)
  rw [Int.mul_comm] at h1
  split
  · rw [Int.add_mul, Int.one_mul]; omega
  · rw [Int.add_zero]; omega
theorem chk_ge {b p s : Int} (h : okG b p s) : partsM s (b * p) ≤ chk b p s * p ∧ (chk b p s - 1) * p < partsM s (b * p) := by
  unfold okG at h
  exact up_bd _ (by omega)
theorem fits_ge {b p s : Int} (h : okG b p s) : b * p ≤ chk b p s * p * eachM s := by
  have h1 := bp_bd h
  have h2 := chk_ge h
  have he := each_bd s
  have h' := h
  unfold okG at h'
  have h3 := parts_ge (s := s) (m := b * p) (by omega) (by omega)
  exact Int.le_trans h3 (Int.mul_le_mul_of_nonneg_right h2.1 he.1)
theorem left0 {r : Int} (h : 0 ≤ r) : leftM r 0 = r := by rw [leftM, if_neg (by omega)]; omega
theorem pl_1 {b p s n : Int} (h : 1 ≤ (ofM b p s).room) (h0 : 0 ≤ n) (h1 : n < b * p) : plX b p s n = n / p ∧ plY b p s n = n % p := by
  unfold plX plY
  rw [if_neg (by omega), if_neg (by omega)]
  exact ⟨rfl, rfl⟩
theorem page_0 {b p s x y : Int} (h : (ofM b p s).room < 1 ∨ x < 0 ∨ b ≤ x ∨ y < 0 ∨ p ≤ y) : pageM b p s x y = -1 := if_pos h
theorem page_1 {b p s x y : Int} (h : 1 ≤ (ofM b p s).room) (h1 : 0 ≤ x ∧ x < b ∧ 0 ≤ y ∧ y < p) : pageM b p s x y = x * p + y := if_neg (by omega)
theorem div_fact {n p b : Int} (hp : 1 ≤ p) (hn : 0 ≤ n) (hb : n < b * p) : 0 ≤ n / p ∧ n / p < b ∧ 0 ≤ n % p ∧ n % p < p ∧ n / p * p + n % p = n := by
  have h1 := Int.emod_add_mul_ediv n p
  rw [Int.mul_comm p] at h1
  exact ⟨Int.ediv_nonneg hn (by omega), Int.ediv_lt_of_lt_mul (by omega) hb, Int.emod_nonneg _ (by omega), Int.emod_lt_of_pos _ (by omega), by omega⟩
theorem pair_iff {i j p : Int} (hp : 1 ≤ p) : (i / p = j / p ∧ i % p = j % p) ↔ i = j := by
  constructor
  · rintro ⟨h1, h2⟩
    have a := Int.emod_add_mul_ediv i p
    have b := Int.emod_add_mul_ediv j p
    rw [h1, h2] at a
    omega
  · rintro rfl; exact ⟨rfl, rfl⟩
theorem places_law {b p s i j : Int} (h : 1 ≤ (ofM b p s).room) (hp : 1 ≤ p) (hi : 0 ≤ i ∧ i < b * p) (hj : 0 ≤ j ∧ j < b * p) :
    ((decide (plX b p s i = plX b p s j) && decide (plY b p s i = plY b p s j)) == decide (i = j)) = true ∧ pageM b p s (plX b p s i) (plY b p s i) = i ∧ 0 ≤ plX b p s i ∧ plX b p s i < b ∧ 0 ≤ plY b p s i ∧ plY b p s i < p ∧ pageM b p s b 0 = -1 := by
  obtain ⟨a1, a2⟩ := pl_1 h hi.1 hi.2
  obtain ⟨b1, b2⟩ := pl_1 h hj.1 hj.2
  obtain ⟨d1, d2, d3, d4, d5⟩ := div_fact hp hi.1 hi.2
  rw [a1, a2, b1, b2, page_1 h ⟨d1, d2, d3, d4⟩]
  refine ⟨?_, d5, d1, d2, d3, d4, page_0 (by omega)⟩
  rw [beq_iff_eq, ← Bool.decide_and]
  exact decide_eq_decide.2 (pair_iff hp)
end Go.Proofs.Ytemcmnhfehpmlaa
