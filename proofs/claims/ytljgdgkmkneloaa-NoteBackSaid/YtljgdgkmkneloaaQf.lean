/- Numbers laid in as few bytes as there may be. -/
import Derived.Test.YtljgdgkmkneloaaQb
namespace Go.Proofs.Ytljgdgkmkneloaa
open Go Go.RowKit
set_option linter.unusedVariables false
set_option linter.unusedSimpArgs false
set_option maxRecDepth 10000 in
set_option maxHeartbeats 400000 in
theorem put_con (l : List UInt8) (n : Int) (hl : l.length ≤ 100000) (hn0 : 0 ≤ n) (hn : n < 18446744073709551616) : Con Try.prog 66 [.snap (slF encU l), .lit (.int .u64 (n))] [] (fun az hz => az = .own 1007 ∧ hz = [(1007, .own 5 encU (l ++ putN n.toNat))]) := by
  refine con_of hT Try.func66 rfl rfl rfl rfl rfl rfl ?_
  intro c
  have hT := hT
  have hZ := hZ
  obtain ⟨N, rfl⟩ := Int.eq_ofNat_of_zero_le hn0
  simp only [Int.toNat_natCast]
  repeat' (first | refine a_seq ?_ | refine ar_step ?_ | refine a_block ?_ | refine a_skip ?_ | refine a_exit ?_ | refine a_ret ?_ | refine a_label ?_ | refine a_scope ?_ | refine a_region ?_ | refine at_normal ?_ | refine at_exit ?_ | refine at_ret ?_ | refine ab_normal ?_ | refine ab_ret ?_ | refine ab_same ?_ | refine ab_other rfl ?_ | refine ao_nil ?_ | (refine a_cond rfl (fun hb => ?_) (fun hb => ?_) <;> (try simp only [reduceCtorEq, bne_self_eq_false, not_true_eq_false, not_false_eq_true, or_self, and_false, false_and, or_true, true_or, or_false, false_or, and_true, true_and, and_self, decide_eq_true_eq, decide_eq_false_iff_not, Bool.and_eq_true, Bool.or_eq_true, Bool.or_eq_false_iff, Bool.and_eq_false_iff, Bool.not_eq_true', Bool.not_eq_false', Bool.not_true, Bool.not_false, ne_eq, Classical.not_not, Nat.not_lt, Int.not_lt, Int.not_le] at hb) <;> (try (exfalso; omega)) <;> (try exact (bool_ft hb (by assumption)).elim) <;> (try exact (bool_ft (by assumption) hb).elim)) | (apply ao_callO (clone_con _ ?_) <;> first | exact sd0 | skip) | refine ao_alloc' (next := ?_) | refine ao_box' (next := ?_) | refine ao_store (next := ?_) | refine ao_store_own (next := ?_) | refine ao_store_ownR (next := ?_) | refine ao_append_same (next := ?_) | refine ao_append_nil (next := ?_) | refine ao_append_new (next := ?_) | refine ao_mkErr (next := ?_) | refine ao_clip (next := ?_) | refine ao_store_arr (next := ?_) | ((first | (apply ao_op rfl rfl (.plain rfl ?_) ?_; rotate_left)); (first | exact sop_bx | exact sop_std | fail)))
  refine a_live (fr' := [(1, _), (5, _), (4, _)]) (H' := [(1007, _)]) [1, 5, 4] [1007] rfl rfl ?_
  refine a_loop (ι := Nat × Nat × List UInt8) (fun k => [(1, .lit (.int .u64 ((k.2.1 : Nat) : Int))), (5, .own 1007)]) (fun k => [(1007, .own 5 encU k.2.2)]) (fun k => k.1 ≤ 9 ∧ k.2.1 < 2 ^ (7 * k.1 + 1) ∧ k.2.2 ++ putF k.1 k.2.1 = l ++ putN N ∧ k.2.2.length + k.1 = l.length + 9) (fun k => k.1) (9, N, l) ⟨Nat.le_refl _, by show N < 2 ^ 64; omega, rfl, rfl⟩ ?_ ?_
  · (refine ⟨?_, ?_⟩ <;> repeat (first | exact covL_nil | refine covL_dup rfl ?_ | refine covL_cons rfl rfl ?_ | refine covL_cons rfl (cov_int rfl (by omega)) ?_))
  rintro ⟨f, m, xs⟩ ⟨hf, hm, hx, hxl⟩
  simp only at hf hm hx hxl
  have hm64 : m < 18446744073709551616 := Nat.lt_of_lt_of_le hm (Nat.pow_le_pow_right (by omega) (show 7 * f + 1 ≤ 64 by omega))
  repeat' (first | refine a_seq ?_ | refine ar_step ?_ | refine a_block ?_ | refine a_skip ?_ | refine a_exit ?_ | refine a_ret ?_ | refine a_label ?_ | refine a_scope ?_ | refine a_region ?_ | refine at_normal ?_ | refine at_exit ?_ | refine at_ret ?_ | refine ab_normal ?_ | refine ab_ret ?_ | refine ab_same ?_ | refine ab_other rfl ?_ | refine ao_nil ?_ | (refine a_cond rfl (fun hb => ?_) (fun hb => ?_) <;> (try simp only [reduceCtorEq, bne_self_eq_false, not_true_eq_false, not_false_eq_true, or_self, and_false, false_and, or_true, true_or, or_false, false_or, and_true, true_and, and_self, decide_eq_true_eq, decide_eq_false_iff_not, Bool.and_eq_true, Bool.or_eq_true, Bool.or_eq_false_iff, Bool.and_eq_false_iff, Bool.not_eq_true', Bool.not_eq_false', Bool.not_true, Bool.not_false, ne_eq, Classical.not_not, Nat.not_lt, Int.not_lt, Int.not_le] at hb) <;> (try (exfalso; omega)) <;> (try exact (bool_ft hb (by assumption)).elim) <;> (try exact (bool_ft (by assumption) hb).elim)) | (apply ao_callO (clone_con _ ?_) <;> first | exact sd0 | skip) | refine ao_alloc' (next := ?_) | refine ao_box' (next := ?_) | refine ao_store (next := ?_) | refine ao_store_own (next := ?_) | refine ao_store_ownR (next := ?_) | refine ao_append_same (next := ?_) | refine ao_append_nil (next := ?_) | refine ao_append_new (next := ?_) | refine ao_mkErr (next := ?_) | refine ao_clip (next := ?_) | refine ao_store_arr (next := ?_) | ((first | (apply ao_op rfl rfl (.plain rfl ?_) ?_; rotate_left)); (first | exact sop_bx | exact sop_std | fail)))
  · obtain ⟨j, rfl⟩ : ∃ j, f = j + 1 := by
      rcases f with _ | j
      · exfalso; simp at hm; omega
      · exact ⟨j, rfl⟩
    have hp := pow_step j
    refine ⟨(j, m / 128, xs ++ [b8i (m : Int) ||| 128]), ⟨by show j ≤ 9; omega, ?_, ?_, ?_⟩, by show j < j + 1; omega, ?_⟩
    · show m / 128 < 2 ^ (7 * j + 1)
      rw [hp] at hm
      omega
    · show (xs ++ [_]) ++ putF j (m / 128) = _
      rw [or128_b8, List.append_assoc]
      have := putF_ge (f := j) (n := m) (by omega)
      rw [← hx, this]; rfl
    · show (xs ++ [_]).length + j = _
      simp; omega
    · rw [show (m : Int) / (2 : Int) ^ 7 = ((m / 128 : Nat) : Int) from by omega]
      (refine ⟨?_, ?_⟩ <;> repeat (first | exact covL_nil | refine covL_dup rfl ?_ | refine covL_cons rfl rfl ?_ | refine covL_cons rfl (cov_int rfl (by omega)) ?_))
  · have hlt : m < 128 := by omega
    rw [putF_lt hlt] at hx
    first | refine aend0 (by first | exact .inl rfl | exact .inr rfl) [(1007, .own 5 encU _)]  (by repeat (first | exact covL_nil | refine covL_dup rfl ?_ | refine covL_cons rfl rfl ?_)) ?_ | refine aend1 (by first | exact .inl rfl | exact .inr rfl) [(1007, .own 5 encU _)] (by first | exact .tmp rfl | exact .cell rfl rfl rfl rfl rfl | exact .cellA rfl rfl rfl rfl rfl) (by repeat (first | exact covL_nil | refine covL_dup rfl ?_ | refine covL_cons rfl rfl ?_)) ?_ | refine aend2 (by first | exact .inl rfl | exact .inr rfl) [(1007, .own 5 encU _)] (by first | exact .tmp rfl | exact .cell rfl rfl rfl rfl rfl | exact .cellA rfl rfl rfl rfl rfl) (by first | exact .tmp rfl | exact .cell rfl rfl rfl rfl rfl | exact .cellA rfl rfl rfl rfl rfl) (by repeat (first | exact covL_nil | refine covL_dup rfl ?_ | refine covL_cons rfl rfl ?_)) ?_ | refine aend3 (by first | exact .inl rfl | exact .inr rfl) [(1007, .own 5 encU _)] (by first | exact .tmp rfl | exact .cell rfl rfl rfl rfl rfl | exact .cellA rfl rfl rfl rfl rfl) (by first | exact .tmp rfl | exact .cell rfl rfl rfl rfl rfl | exact .cellA rfl rfl rfl rfl rfl) (by first | exact .tmp rfl | exact .cell rfl rfl rfl rfl rfl | exact .cellA rfl rfl rfl rfl rfl) (by repeat (first | exact covL_nil | refine covL_dup rfl ?_ | refine covL_cons rfl rfl ?_)) ?_
    refine ⟨rfl, ?_⟩
    rw [← hx, ← b8i_nat]
set_option maxRecDepth 10000 in
set_option maxHeartbeats 400000 in
theorem rput_con (l : List UInt8) (n : Int) (hl : l.length ≤ 100000) (hn0 : 0 ≤ n) (hn : n < 18446744073709551616) : Con Try.prog 73 [.snap (slF encU l), .lit (.int .u64 (n))] [] (fun az hz => az = .own 1007 ∧ hz = [(1007, .own 5 encU (l ++ putN n.toNat))]) := by
  refine con_of hT Try.func73 rfl rfl rfl rfl rfl rfl ?_
  intro c
  have hT := hT
  have hZ := hZ
  obtain ⟨N, rfl⟩ := Int.eq_ofNat_of_zero_le hn0
  simp only [Int.toNat_natCast]
  repeat' (first | refine a_seq ?_ | refine ar_step ?_ | refine a_block ?_ | refine a_skip ?_ | refine a_exit ?_ | refine a_ret ?_ | refine a_label ?_ | refine a_scope ?_ | refine a_region ?_ | refine at_normal ?_ | refine at_exit ?_ | refine at_ret ?_ | refine ab_normal ?_ | refine ab_ret ?_ | refine ab_same ?_ | refine ab_other rfl ?_ | refine ao_nil ?_ | (refine a_cond rfl (fun hb => ?_) (fun hb => ?_) <;> (try simp only [reduceCtorEq, bne_self_eq_false, not_true_eq_false, not_false_eq_true, or_self, and_false, false_and, or_true, true_or, or_false, false_or, and_true, true_and, and_self, decide_eq_true_eq, decide_eq_false_iff_not, Bool.and_eq_true, Bool.or_eq_true, Bool.or_eq_false_iff, Bool.and_eq_false_iff, Bool.not_eq_true', Bool.not_eq_false', Bool.not_true, Bool.not_false, ne_eq, Classical.not_not, Nat.not_lt, Int.not_lt, Int.not_le] at hb) <;> (try (exfalso; omega)) <;> (try exact (bool_ft hb (by assumption)).elim) <;> (try exact (bool_ft (by assumption) hb).elim)) | (apply ao_callO (clone_con _ ?_) <;> first | exact sd0 | skip) | refine ao_alloc' (next := ?_) | refine ao_box' (next := ?_) | refine ao_store (next := ?_) | refine ao_store_own (next := ?_) | refine ao_store_ownR (next := ?_) | refine ao_append_same (next := ?_) | refine ao_append_nil (next := ?_) | refine ao_append_new (next := ?_) | refine ao_mkErr (next := ?_) | refine ao_clip (next := ?_) | refine ao_store_arr (next := ?_) | ((first | (apply ao_op rfl rfl (.plain rfl ?_) ?_; rotate_left)); (first | exact sop_bx | exact sop_std | fail)))
  refine a_live (fr' := [(1, _), (5, _), (4, _)]) (H' := [(1007, _)]) [1, 5, 4] [1007] rfl rfl ?_
  refine a_loop (ι := Nat × Nat × List UInt8) (fun k => [(1, .lit (.int .u64 ((k.2.1 : Nat) : Int))), (5, .own 1007)]) (fun k => [(1007, .own 5 encU k.2.2)]) (fun k => k.1 ≤ 9 ∧ k.2.1 < 2 ^ (7 * k.1 + 1) ∧ k.2.2 ++ putF k.1 k.2.1 = l ++ putN N ∧ k.2.2.length + k.1 = l.length + 9) (fun k => k.1) (9, N, l) ⟨Nat.le_refl _, by show N < 2 ^ 64; omega, rfl, rfl⟩ ?_ ?_
  · (refine ⟨?_, ?_⟩ <;> repeat (first | exact covL_nil | refine covL_dup rfl ?_ | refine covL_cons rfl rfl ?_ | refine covL_cons rfl (cov_int rfl (by omega)) ?_))
  rintro ⟨f, m, xs⟩ ⟨hf, hm, hx, hxl⟩
  simp only at hf hm hx hxl
  have hm64 : m < 18446744073709551616 := Nat.lt_of_lt_of_le hm (Nat.pow_le_pow_right (by omega) (show 7 * f + 1 ≤ 64 by omega))
  repeat' (first | refine a_seq ?_ | refine ar_step ?_ | refine a_block ?_ | refine a_skip ?_ | refine a_exit ?_ | refine a_ret ?_ | refine a_label ?_ | refine a_scope ?_ | refine a_region ?_ | refine at_normal ?_ | refine at_exit ?_ | refine at_ret ?_ | refine ab_normal ?_ | refine ab_ret ?_ | refine ab_same ?_ | refine ab_other rfl ?_ | refine ao_nil ?_ | (refine a_cond rfl (fun hb => ?_) (fun hb => ?_) <;> (try simp only [reduceCtorEq, bne_self_eq_false, not_true_eq_false, not_false_eq_true, or_self, and_false, false_and, or_true, true_or, or_false, false_or, and_true, true_and, and_self, decide_eq_true_eq, decide_eq_false_iff_not, Bool.and_eq_true, Bool.or_eq_true, Bool.or_eq_false_iff, Bool.and_eq_false_iff, Bool.not_eq_true', Bool.not_eq_false', Bool.not_true, Bool.not_false, ne_eq, Classical.not_not, Nat.not_lt, Int.not_lt, Int.not_le] at hb) <;> (try (exfalso; omega)) <;> (try exact (bool_ft hb (by assumption)).elim) <;> (try exact (bool_ft (by assumption) hb).elim)) | (apply ao_callO (clone_con _ ?_) <;> first | exact sd0 | skip) | refine ao_alloc' (next := ?_) | refine ao_box' (next := ?_) | refine ao_store (next := ?_) | refine ao_store_own (next := ?_) | refine ao_store_ownR (next := ?_) | refine ao_append_same (next := ?_) | refine ao_append_nil (next := ?_) | refine ao_append_new (next := ?_) | refine ao_mkErr (next := ?_) | refine ao_clip (next := ?_) | refine ao_store_arr (next := ?_) | ((first | (apply ao_op rfl rfl (.plain rfl ?_) ?_; rotate_left)); (first | exact sop_bx | exact sop_std | fail)))
  · obtain ⟨j, rfl⟩ : ∃ j, f = j + 1 := by
      rcases f with _ | j
      · exfalso; simp at hm; omega
      · exact ⟨j, rfl⟩
    have hp := pow_step j
    refine ⟨(j, m / 128, xs ++ [b8i (m : Int) ||| 128]), ⟨by show j ≤ 9; omega, ?_, ?_, ?_⟩, by show j < j + 1; omega, ?_⟩
    · show m / 128 < 2 ^ (7 * j + 1)
      rw [hp] at hm
      omega
    · show (xs ++ [_]) ++ putF j (m / 128) = _
      rw [or128_b8, List.append_assoc]
      have := putF_ge (f := j) (n := m) (by omega)
      rw [← hx, this]; rfl
    · show (xs ++ [_]).length + j = _
      simp; omega
    · rw [show (m : Int) / (2 : Int) ^ 7 = ((m / 128 : Nat) : Int) from by omega]
      (refine ⟨?_, ?_⟩ <;> repeat (first | exact covL_nil | refine covL_dup rfl ?_ | refine covL_cons rfl rfl ?_ | refine covL_cons rfl (cov_int rfl (by omega)) ?_))
  · have hlt : m < 128 := by omega
    rw [putF_lt hlt] at hx
    first | refine aend0 (by first | exact .inl rfl | exact .inr rfl) [(1007, .own 5 encU _)]  (by repeat (first | exact covL_nil | refine covL_dup rfl ?_ | refine covL_cons rfl rfl ?_)) ?_ | refine aend1 (by first | exact .inl rfl | exact .inr rfl) [(1007, .own 5 encU _)] (by first | exact .tmp rfl | exact .cell rfl rfl rfl rfl rfl | exact .cellA rfl rfl rfl rfl rfl) (by repeat (first | exact covL_nil | refine covL_dup rfl ?_ | refine covL_cons rfl rfl ?_)) ?_ | refine aend2 (by first | exact .inl rfl | exact .inr rfl) [(1007, .own 5 encU _)] (by first | exact .tmp rfl | exact .cell rfl rfl rfl rfl rfl | exact .cellA rfl rfl rfl rfl rfl) (by first | exact .tmp rfl | exact .cell rfl rfl rfl rfl rfl | exact .cellA rfl rfl rfl rfl rfl) (by repeat (first | exact covL_nil | refine covL_dup rfl ?_ | refine covL_cons rfl rfl ?_)) ?_ | refine aend3 (by first | exact .inl rfl | exact .inr rfl) [(1007, .own 5 encU _)] (by first | exact .tmp rfl | exact .cell rfl rfl rfl rfl rfl | exact .cellA rfl rfl rfl rfl rfl) (by first | exact .tmp rfl | exact .cell rfl rfl rfl rfl rfl | exact .cellA rfl rfl rfl rfl rfl) (by first | exact .tmp rfl | exact .cell rfl rfl rfl rfl rfl | exact .cellA rfl rfl rfl rfl rfl) (by repeat (first | exact covL_nil | refine covL_dup rfl ?_ | refine covL_cons rfl rfl ?_)) ?_
    refine ⟨rfl, ?_⟩
    rw [← hx, ← b8i_nat]
end Go.Proofs.Ytljgdgkmkneloaa
