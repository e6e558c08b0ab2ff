/- SegMixed: plain laws. -/
import Derived.Test.YtgdkeafdlehlaaaDoorYe
import Derived.Test.YtgdkeafdlehlaaaDoorLow6
namespace Go.Proofs.YtgdkeafdlehlaaaDoor
open Go Go.RowKit
set_option linter.unusedVariables false
set_option linter.unusedSimpArgs false

def mixE (q : Nat → Int) (m : Nat) : List Ent := gen (fun j => (⟨(j : Int), (j : Int), false, q j⟩ : Ent)) m
theorem mix_may {q : Nat → Int} {m : Nat} (h : m ≤ 256) (hq : ∀ j, 1 ≤ q j ∧ q j ≤ 1000) : mayE (mixE q m) = true := by
  rw [mayE_iff]
  unfold mixE
  rw [gen_len]
  refine ⟨h, fun i hi => ?_⟩
  rw [okE_iff, nth_gen _ hi]
  refine ⟨?_, fun j hj => ?_, ?_⟩
  · rw [fitsE_iff]
    have := hq i
    dsimp only
    omega
  · rw [nth_gen _ (show j < m by omega)]
    dsimp only
    omega
  · by_cases h0 : i = 0
    · exact .inl h0
    · right
      rw [nth_gen _ (show i - 1 < m by omega)]
      dsimp only
      omega
theorem mix_len (q : Nat → Int) (m : Nat) : (mixE q m).length = m := gen_len _ _
theorem mix_nth {q : Nat → Int} {m k : Nat} (h : k < m) : nth (mixE q m) k = ⟨(k : Int), (k : Int), false, q k⟩ := nth_gen _ h
theorem mix_addr {q : Nat → Int} {m : Nat} (h : m ≤ 256) : ∀ k, k < (mixE q m).length → 0 ≤ (nth (mixE q m) k).addr ∧ (nth (mixE q m) k).addr < 18446744073709551616 := fun k hk => by
  rw [mix_len] at hk
  rw [mix_nth hk]
  dsimp only
  omega
theorem mix_ok {x : List UInt8} {q : Nat → Int} {m : Nat} (hx : mayL x = true) (h : m ≤ 256) (hq : ∀ j, 1 ≤ q j ∧ q j ≤ 1000) : okC 128 x (mixE q m) = true := okC_iff.2 ⟨⟨by decide, hx⟩, mix_may h hq⟩
theorem seg_ext {q r : Nat → Int} {m k : Nat} (h : ∀ j, k * 5 ≤ j → j < k * 5 + 5 → q j = r j) : segE 128 (mixE q m) k = segE 128 (mixE r m) k := by
  have e5 : eS 128 = 5 := by decide
  have hl : (segE 128 (mixE q m) k).length = (segE 128 (mixE r m) k).length := by
    unfold segE
    rw [List.length_take, List.length_take, List.length_drop, List.length_drop, mix_len, mix_len]
  have hl5 : (segE 128 (mixE q m) k).length ≤ 5 := by
    unfold segE
    rw [List.length_take, e5]
    omega
  refine ext_nth hl fun j hj => ?_
  obtain ⟨a1, a2⟩ := nth_seg hj
  obtain ⟨b1, b2⟩ := nth_seg (show j < (segE 128 (mixE r m) k).length by omega)
  rw [a1, b1]
  rw [mix_len] at a2 b2
  rw [mix_nth a2, mix_nth b2, h _ (by rw [e5]; omega) (by rw [e5]; omega)]
/-- the seqs of the mixture -/
def qM (q r : Nat → Int) (k : Nat) (j : Nat) : Int := if k * 5 ≤ j ∧ j < k * 5 + 5 then r j else q j
def bsM (x y : List UInt8) (q r : Nat → Int) (m k : Nat) : List (List UInt8) := (cutL 128 x (mixE q m)).set k (nth (cutL 128 y (mixE r m)) k)
theorem bsM_len (x y : List UInt8) (q r : Nat → Int) (m k : Nat) : (bsM x y q r m k).length = (partsS 128 m).toNat := by
  unfold bsM
  rw [List.length_set, cutL_len, mix_len]
section
variable {x y : List UInt8} {q r : Nat → Int} {m k : Nat} (hx : mayL x = true) (hy : mayL y = true) (hm : m ≤ 256) (hq : ∀ j, 1 ≤ q j ∧ q j ≤ 1000) (hr : ∀ j, 1 ≤ r j ∧ r j ≤ 1000)
include hx hy hm hq hr
theorem bsM_rd (hk : k < (cutL 128 x (mixE q m)).length) {j : Nat} (hj : j < (cutL 128 x (mixE q m)).length) : rdB (nth (bsM x y q r m k) j) = true ∧ rdP (nth (bsM x y q r m k) j) = ⟨(j : Int), partsS 128 m, if j = k then y else x, segE 128 (mixE (qM q r k) m) j⟩ ∧ (nth (bsM x y q r m k) j).length = 128 := by
  unfold bsM
  rw [nth_set _ _ _ _ hk]
  rw [cutL_len, mix_len] at hk hj
  by_cases e : j = k
  · subst e
    rw [if_pos rfl, if_pos rfl, cutL_nth (by rw [mix_len]; exact hk)]
    have := cut_rd (mix_ok hy hm hr) (mix_addr hm) (k := j) (by rw [mix_len]; omega)
    rw [mix_len] at this
    rw [seg_ext (q := r) (r := qM q r j) (fun i h1 h2 => by unfold qM; rw [if_pos ⟨h1, h2⟩])] at this
    exact this
  · rw [if_neg e, if_neg e, cutL_nth (by rw [mix_len]; exact hj)]
    have := cut_rd (mix_ok hx hm hq) (mix_addr hm) (k := j) (by rw [mix_len]; omega)
    rw [mix_len] at this
    rw [seg_ext (q := q) (r := qM q r k) (fun i h1 h2 => by unfold qM; rw [if_neg (by omega)])] at this
    exact this
theorem bsM_in (hk : k < (cutL 128 x (mixE q m)).length) : ∀ j, j < (bsM x y q r m k).length → (nth (bsM x y q r m k) j).length ≤ 1000000 := fun j hj => by
  unfold bsM at hj
  rw [List.length_set] at hj
  rw [(bsM_rd hx hy hm hq hr hk hj).2.2]
  omega
theorem bsM_yes (hk : k < (cutL 128 x (mixE q m)).length) (hxy : x = y) : 0 < (bsM x y q r m k).length ∧ (∀ j, j < (bsM x y q r m k).length → okJ (bsM x y q r m k) j) ∧ esJ (bsM x y q r m k) (bsM x y q r m k).length = mixE (qM q r k) m ∧ nmJ (bsM x y q r m k) (bsM x y q r m k).length = x := by
  subst hxy
  obtain ⟨p1, p2, p3, p4, p5, p6, p7, p8, p9⟩ := parts_all (size := 128) (n := m) (by decide) (by omega) (by omega)
  have hl := bsM_len x x q r m k
  have hc : (cutL 128 x (mixE q m)).length = (partsS 128 m).toNat := by rw [cutL_len, mix_len]
  have hrd := fun j (hj : j < (bsM x x q r m k).length) => bsM_rd hx hy hm hq hr hk (j := j) (by omega)
  have hnm : ∀ j, 0 < j → j ≤ (bsM x x q r m k).length → nmJ (bsM x x q r m k) j = x := fun j h0 hj => by
    unfold nmJ
    rw [if_neg (by omega), (hrd (j - 1) (by omega)).2.1]
    dsimp only
    split <;> rfl
  refine ⟨by omega, fun j hj => ?_, ?_, hnm _ (by omega) (Nat.le_refl _)⟩
  · obtain ⟨r1, r2, r3⟩ := hrd j hj
    refine ⟨r1, by rw [r2], by rw [r2]; dsimp only; omega, by rw [r3, (hrd 0 (by omega)).2.2], ?_⟩
    by_cases h0 : j = 0
    · exact .inl h0
    · right
      rw [r2, hnm j (by omega) (by omega)]
      dsimp only
      split <;> rfl
  · rw [esJ_segs (gs := mixE (qM q r k) m) (size := 128) (fun j hj => by rw [(hrd j hj).2.1]) _ (Nat.le_refl _), hl]
    have := take_parts (size := 128) (gs := mixE (qM q r k) m) (by decide) (by rw [mix_len]; exact hm)
    rw [mix_len] at this
    exact this
theorem bsM_no (hk : k < (cutL 128 x (mixE q m)).length) (h2 : 2 ≤ (cutL 128 x (mixE q m)).length) (hxy : ¬ x = y) : ∃ j, j < (bsM x y q r m k).length ∧ ¬ okJ (bsM x y q r m k) j := by
  have hl : (bsM x y q r m k).length = (cutL 128 x (mixE q m)).length := by unfold bsM; rw [List.length_set]
  have hrd := fun j (hj : j < (cutL 128 x (mixE q m)).length) => bsM_rd hx hy hm hq hr hk (j := j) hj
  by_cases h0 : k = 0
  · refine ⟨1, by omega, fun hok => ?_⟩
    rcases hok.2.2.2.2 with h | h
    · omega
    · unfold nmJ at h
      rw [if_neg (by omega), (hrd 1 (by omega)).2.1, (hrd (1 - 1) (by omega)).2.1] at h
      dsimp only at h
      rw [if_neg (by omega), if_pos (by omega)] at h
      exact hxy h
  · refine ⟨k, by omega, fun hok => ?_⟩
    rcases hok.2.2.2.2 with h | h
    · omega
    · unfold nmJ at h
      rw [if_neg (by omega), (hrd k (by omega)).2.1, (hrd (k - 1) (by omega)).2.1] at h
      dsimp only at h
      rw [if_pos rfl, if_neg (by omega)] at h
      exact hxy h.symm
end
theorem may_no {es : List Ent} {k : Nat} (hk : k < es.length) (h : ¬ okE es k = true) : mayE es = false := by
  rw [← Bool.not_eq_true]
  exact fun hm => h ((mayE_iff.1 hm).2 k hk)
/-- entries in another order may not be -/
theorem turn_no {q : Nat → Int} {m i : Nat} (hi : i + 1 < m) (x : List UInt8) : okC 128 x (((mixE q m).set i (nth (mixE q m) (i + 1))).set (i + 1) (nth (mixE q m) i)) = false := by
  have hl := mix_len q m
  have : mayE (((mixE q m).set i (nth (mixE q m) (i + 1))).set (i + 1) (nth (mixE q m) i)) = false := by
    refine may_no (k := i + 1) (by rw [List.length_set, List.length_set]; omega) fun h => ?_
    have h3 := (okE_iff.1 h).2.2
    have e1 : nth (((mixE q m).set i (nth (mixE q m) (i + 1))).set (i + 1) (nth (mixE q m) i)) i = ⟨((i + 1 : Nat) : Int), ((i + 1 : Nat) : Int), false, q (i + 1)⟩ := by
      rw [nth_set _ _ _ _ (by rw [List.length_set]; omega), if_neg (by omega), nth_set _ _ _ _ (by omega), if_pos rfl, mix_nth (by omega)]
    have e2 : nth (((mixE q m).set i (nth (mixE q m) (i + 1))).set (i + 1) (nth (mixE q m) i)) (i + 1) = ⟨(i : Int), (i : Int), false, q i⟩ := by
      rw [nth_set _ _ _ _ (by rw [List.length_set]; omega), if_pos rfl, mix_nth (by omega)]
    rw [Nat.add_sub_cancel, e1, e2] at h3
    dsimp only at h3
    omega
  unfold okC
  rw [this, Bool.and_false]
/-- with one page twice they may not be -/
theorem twice_no {q : Nat → Int} {m i : Nat} (hi : i + 1 < m) (x : List UInt8) (e : Ent) (he : e.page = (i : Int) + 1) : okC 128 x ((mixE q m).set i e) = false := by
  have hl := mix_len q m
  have : mayE ((mixE q m).set i e) = false := by
    refine may_no (k := i + 1) (by rw [List.length_set]; omega) fun h => ?_
    have h3 := (okE_iff.1 h).2.1 i (by omega)
    have e1 : nth ((mixE q m).set i e) i = e := by rw [nth_set _ _ _ _ (by omega), if_pos rfl]
    have e2 : nth ((mixE q m).set i e) (i + 1) = ⟨((i + 1 : Nat) : Int), ((i + 1 : Nat) : Int), false, q (i + 1)⟩ := by rw [nth_set _ _ _ _ (by omega), if_neg (by omega), mix_nth (by omega)]
    rw [e1, e2] at h3
    dsimp only at h3
    omega
  unfold okC
  rw [this, Bool.and_false]
end Go.Proofs.YtgdkeafdlehlaaaDoor
