/- Chapter 15: one more that does not count; in another order; the least; plain laws. -/
import Derived.Test.YtbahngmjbpaglaaV1
namespace Go.Proofs.Ytbahngmjbpaglaa
open Go Go.RowKit
set_option linter.unusedVariables false
set_option linter.unusedSimpArgs false

theorem gain_odd {b : Blk} (p : Int) (h : keepB b = false) : gainB p b = 0 := by
  unfold gainB
  rw [if_pos]
  unfold keepB at h
  cases hm : mayB b with
  | false => exact .inl rfl
  | true =>
    rw [hm, Bool.true_and, decide_eq_false_iff_not] at h
    have := (mayB_iff b).1 hm
    exact .inr (.inl (by omega))
theorem idsB_odd (bs : List Blk) (k : Nat) {b : Blk} (h : keepB b = false) : idsB (bs.take k ++ [b] ++ bs.drop k) = idsB bs := by
  unfold idsB ordB kept
  rw [List.filter_append, List.filter_append, List.filter_cons_of_neg (by rw [h]; decide), List.filter_nil, List.append_nil, ← List.filter_append, List.take_append_drop]
theorem idsB_turn (bs : List Blk) (k : Nat) : idsB (bs.drop k ++ bs.take k) = idsB bs := by
  unfold idsB ordB kept
  congr 1
  refine srt_eq leB_lo (List.Perm.filter _ ?_)
  have := List.perm_append_comm (l₁ := bs.drop k) (l₂ := bs.take k)
  rwa [List.take_append_drop] at this
theorem idsB_all {bs : List Blk} (h : ∀ b ∈ bs, keepB b = true) : (idsB bs).length = bs.length := by
  unfold idsB ordB kept
  rw [List.length_map, srt_len, List.filter_eq_self.2 h]
def gen {α : Type} (f : Nat → α) (k : Nat) : List α := (List.range k).map f
theorem gen_succ {α : Type} (f : Nat → α) (k : Nat) : gen f (k + 1) = gen f k ++ [f k] := by
  unfold gen
  rw [List.range_succ, List.map_append]; rfl
theorem gen_len {α : Type} (f : Nat → α) (k : Nat) : (gen f k).length = k := by
  unfold gen
  rw [List.length_map, List.length_range]
theorem nth_gen {α : Type} [Inhabited α] (f : Nat → α) {k i : Nat} (h : i < k) : nth (gen f k) i = f i := by
  rw [nth_eq (by rw [gen_len]; exact h)]
  simp [gen]
theorem gen_zero {α : Type} (f : Nat → α) : gen f 0 = [] := rfl
theorem gen_mem {α : Type} {f : Nat → α} {n : Nat} {x : α} (h : x ∈ gen f n) : ∃ i, i < n ∧ x = f i := by
  unfold gen at h
  obtain ⟨i, hi, rfl⟩ := List.mem_map.1 h
  exact ⟨i, List.mem_range.1 hi, rfl⟩
theorem fine_of {x : Int} (h0 : 0 ≤ x) (h1 : x ≤ 1073741824) : fine x = true := by
  unfold fine
  rw [decide_eq_true h0, decide_eq_true h1]; rfl
theorem may_of {b : Blk} (h1 : 0 ≤ b.id ∧ b.id ≤ 1000) (h2 : 0 ≤ b.clean ∧ b.clean ≤ 1000) (h3 : 0 ≤ b.dirty ∧ b.dirty ≤ 1000) (h4 : 0 ≤ b.other ∧ b.other ≤ 1000) (h5 : 0 ≤ b.wear ∧ b.wear ≤ 1000) : mayB b = true := by
  rw [mayB_iff]; omega
theorem gain_of {b : Blk} (hm : mayB b = true) (ho : b.other = 0) : gainB 8 b = if 8 - b.dirty < 0 then 0 else 8 - b.dirty := by
  unfold gainB
  rw [if_neg (by rw [hm]; simp; omega)]
/-- what the least one comes to, when each one's number is where it stands -/
theorem least_at {bs : List Blk} {n : Nat} (hl : bs.length = n) (hid : ∀ i, i < n → (nth bs i).id = (i : Int)) (hm : ∀ i, i < n → mayB (nth bs i) = true) : ((idsB bs).length = 0 ∧ ∀ i, i < n → (nth bs i).other ≠ 0) ∨ (0 < (idsB bs).length ∧ ∃ k, k < n ∧ nth (idsB bs) 0 = (k : Int) ∧ (nth bs k).other = 0 ∧ ∀ i, i < n → (nth bs i).other = 0 → leB (nth bs k) (nth bs i) = true) := by
  have hk : ∀ i, i < n → (nth bs i).other = 0 → nth bs i ∈ ordB bs := fun i hi ho => by
    unfold ordB
    rw [srt_mem]
    refine List.mem_filter.2 ⟨by rw [nth_eq (by omega)]; exact List.getElem_mem _, ?_⟩
    unfold keepB
    rw [hm i hi, ho]; rfl
  by_cases h0 : (ordB bs).length = 0
  · refine .inl ⟨by rw [idsB_len]; exact h0, fun i hi ho => ?_⟩
    have := hk i hi ho
    rw [List.eq_nil_of_length_eq_zero h0] at this
    cases this
  · refine .inr ⟨by rw [idsB_len]; omega, ?_⟩
    have hy : nth (ordB bs) 0 ∈ ordB bs := by rw [nth_eq (by omega)]; exact List.getElem_mem _
    have hy2 := srt_mem.1 hy
    obtain ⟨hy3, hy4⟩ := List.mem_filter.1 hy2
    obtain ⟨k, hk1, hk2⟩ := List.getElem_of_mem hy3
    have e : nth bs k = nth (ordB bs) 0 := by rw [nth_eq hk1]; exact hk2
    refine ⟨k, by omega, ?_, by rw [e]; exact keepB_other hy4, fun i hi ho => ?_⟩
    · have : nth (idsB bs) 0 = (nth (ordB bs) 0).id := by
        unfold idsB
        rw [nth_eq (by rw [List.length_map]; omega), nth_eq (by omega), List.getElem_map]
      rw [this, ← e, hid k (by omega)]
    · obtain ⟨j, hj, hj2⟩ := List.getElem_of_mem (hk i hi ho)
      have hsd : Sd leB (ordB bs) := srt_sd leB_lo _
      have := hsd.le_nth leB_lo (Nat.zero_le j) hj
      rw [nth_eq hj, hj2] at this
      rw [e]; exact this
end Go.Proofs.Ytbahngmjbpaglaa
