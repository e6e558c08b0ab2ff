/- PlanGrows, walked. -/
import Derived.Test.YtemcmnhfehpmlaaA0h
import Derived.Test.YtemcmnhfehpmlaaAu
namespace Go.Proofs.Ytemcmnhfehpmlaa
open Go Go.RowKit
set_option linter.unusedVariables false
set_option linter.unusedSimpArgs false

theorem lt_of_mul {a b p : Int} (hp : 0 ≤ p) (h : a * p < b * p) : a < b := Int.lt_of_mul_lt_mul_right h hp
theorem each_mono (s : Int) (h : 128 ≤ s ∧ s + 1 ≤ 256) : eachM s ≤ eachM (s + 1) := by
  unfold eachM
  rw [if_neg (by omega), if_neg (by omega)]
  omega
/-- so many parts are enough: then there are no more -/
theorem parts_min {s m k : Int} (h : 128 ≤ s ∧ s ≤ 256) (hm : 1 ≤ m) (hk : m ≤ k * eachM s) : partsM s m ≤ k := by
  have he := each_bd s
  have := lt_of_mul (by omega) (Int.lt_of_lt_of_le (parts_lt h hm) hk)
  omega
theorem chk_min {b p s k : Int} (h : okG b p s) (hk : partsM s (b * p) ≤ k * p) : chk b p s ≤ k := by
  have h' := h
  unfold okG at h'
  have := lt_of_mul (show 0 ≤ p by omega) (Int.lt_of_lt_of_le (chk_ge h).2 hk)
  omega
theorem chk_wide {b p s : Int} (h : okG b p s) (h2 : okG b p (s + 1)) : chk b p (s + 1) ≤ chk b p s := by
  have hb := bp_bd h
  unfold okG at h h2
  refine chk_min h2 (Int.le_trans ?_ (chk_ge h).1)
  have he := each_mono s (by omega)
  have h3 := parts_ge (s := s) (m := b * p) (by omega) (by omega)
  have h4 := parts_1 (s := s) (m := b * p) (by omega) (by omega)
  exact parts_min (by omega) (by omega) (Int.le_trans h3 (Int.mul_le_mul_of_nonneg_left he (by omega)))
theorem chk_tall {b p s : Int} (h : okG b p s) (h2 : okG (b + 1) p s) : chk b p s ≤ chk (b + 1) p s ∧ chk (b + 1) p s ≤ chk b p s + 1 := by
  have hb := bp_bd h
  have h' := h
  have h2' := h2
  unfold okG at h' h2'
  have e : (b + 1) * p = b * p + p := by rw [Int.add_mul, Int.one_mul]
  have he := each_bd s
  constructor
  · refine chk_min h (Int.le_trans ?_ (chk_ge h2).1)
    rw [e]
    have h3 := parts_ge (s := s) (m := b * p + p) (by omega) (by omega)
    exact parts_min (by omega) (by omega) (by omega)
  · refine chk_min h2 ?_
    rw [e, Int.add_mul, Int.one_mul]
    have h3 := parts_ge (s := s) (m := b * p) (by omega) (by omega)
    have h4 : p ≤ p * eachM s := by
      have := Int.mul_le_mul_of_nonneg_left (show (1 : Int) ≤ eachM s by omega) (show 0 ≤ p by omega)
      omega
    have h5 := parts_min (s := s) (m := b * p + p) (k := partsM s (b * p) + p) (by omega) (by omega) (by rw [Int.add_mul]; omega)
    have h6 := (chk_ge h).1
    omega
set_option maxRecDepth 10000 in
set_option maxHeartbeats 1000000 in
theorem grows_con (blocks pages size : Int) : Con Try.prog 5 [.lit (.int .i64 blocks), .lit (.int .i64 pages), .lit (.int .i64 size)] [] (fun az hz => az = .lit (.bool (true)) ∧ hz = []) := by
  refine con_of hT Try.func5 rfl rfl rfl rfl rfl rfl ?_
  intro c
  have hT := hT
  have hZ := hZ
  have hlow : ∀ x n : Int, 1 ≤ n → 0 ≤ low x n ∧ low x n < n := fun x n h => low_bd x h
  have l1 := hlow blocks 16 (by omega)
  have l2 := hlow pages 5 (by omega)
  have l3 := hlow size 128 (by omega)
  have hk : okG (16 + low blocks 16) (4 + low pages 5) (128 + low size 128) := by unfold okG; omega
  obtain ⟨f1, f2, f3, f4, f5, f6⟩ := of_facts hk
  have c := chk_bd hk
  have hep := each_bd (128 + low size 128)
  have hbp := bp_bd hk
  have kw : okG (16 + low blocks 16) (4 + low pages 5) ((128 + low size 128) + 1) := by unfold okG; omega
  have kt : okG ((16 + low blocks 16) + 1) (4 + low pages 5) (128 + low size 128) := by unfold okG; omega
  obtain ⟨w1, w2, w3, w4, w5, w6⟩ := of_facts kw
  obtain ⟨t1, t2, t3, t4, t5, t6⟩ := of_facts kt
  have c2 := chk_bd kt
  have bt := bp_bd kt
  have hw := chk_wide hk kw
  have ht := chk_tall hk kt
  have hm := each_mono (128 + low size 128) (by omega)
  have hma : ((16 + low blocks 16) + 1) * (4 + low pages 5) = (16 + low blocks 16) * (4 + low pages 5) + (4 + low pages 5) := by rw [Int.add_mul, Int.one_mul]
  repeat' (first | refine a_seq ?_ | refine a_block ?_ | refine a_skip ?_ | refine a_exit ?_ | refine a_ret ?_ | refine a_label ?_ | refine a_scope ?_ | refine a_region ?_ | refine a_region_U' rfl (by kernel_rfl) (by kernel_rfl) (by kernel_rfl) (by kernel_rfl) (by assumption) (by assumption) rfl ?_ | refine a_region_tailN rfl rfl (by kernel_rfl) (by kernel_rfl) (by kernel_rfl) (by kernel_rfl) (by assumption) rfl rfl ?_ | refine a_region_tailA rfl rfl (by kernel_rfl) (by kernel_rfl) (by kernel_rfl) (by kernel_rfl) (by assumption) rfl rfl rfl ?_ | refine a_region_tail rfl (by kernel_rfl) (by kernel_rfl) (by kernel_rfl) (by kernel_rfl) ?_ | refine a_region_tailR rfl (by kernel_rfl) (by kernel_rfl) (by kernel_rfl) (by kernel_rfl) ?_ | refine a_region_any (by kernel_rfl) (by kernel_rfl) (by kernel_rfl) ?_ | refine at_normal ?_ | refine at_exit ?_ | refine at_ret ?_ | refine ab_normal ?_ | refine ab_ret ?_ | refine ab_same ?_ | refine ab_other rfl ?_ | refine ao_nil ?_ | refine EvK.nil ?_ | refine EvU.nil ?_ | refine EvU.alloc rfl rfl ?_ | refine EvU.store rfl rfl rfl rfl rfl (by first | exact .un rfl (by first | assumption | exact And.left (by assumption)) | exact .of rfl) rfl rfl rfl rfl rfl ?_ | refine tailA_k rfl rfl ?_ | refine tailA_k trivial rfl ?_ | (refine a_cond rfl (fun hb => ?_) (fun hb => ?_) <;> (try simp only [decide_eq_true_eq, decide_eq_false_iff_not, Bool.and_eq_true, Bool.or_eq_true, Bool.or_eq_false_iff, Bool.and_eq_false_iff, Bool.not_eq_true', Bool.not_eq_false', Bool.not_true, Bool.not_false, ne_eq, Classical.not_not, Nat.not_lt, Int.not_lt, Int.not_le] at hb) <;> (try (exfalso; omega))) | refine ao_alloc' (next := ?_) | refine ao_box' (next := ?_) | refine ao_store (next := ?_) | refine ao_store_own (next := ?_) | refine ao_store_ownR (next := ?_) | refine ao_append_same (next := ?_) | refine ao_append_nil (next := ?_) | refine ao_append_new (next := ?_) | ((first | (apply ao_op rfl rfl (.plain rfl ?_) ?_; rotate_left) | (apply EvK.cons rfl (.plain rfl ?_) ?_; rotate_left) | (apply EvU.plain rfl rfl rfl ?_ ?_; rotate_left) | (apply ao_op rfl rfl (.guard rfl rfl rfl fun hg => ?_) ?_; rotate_right; try (have hg2 := hg; simp only [decide_eq_true_eq, decide_eq_false_iff_not, Bool.and_eq_true, Bool.or_eq_true, Bool.or_eq_false_iff, Bool.and_eq_false_iff, Bool.not_eq_true', Bool.not_eq_false', Bool.not_true, Bool.not_false, ne_eq, Classical.not_not, Nat.not_lt, Int.not_lt, Int.not_le] at hg2)) | (apply ao_op rfl rfl (.guardw rfl rfl rfl fun hg => ?_) ?_; rotate_right; try (have hg2 := hg; simp only [decide_eq_true_eq, decide_eq_false_iff_not, Bool.and_eq_true, Bool.or_eq_true, Bool.or_eq_false_iff, Bool.and_eq_false_iff, Bool.not_eq_true', Bool.not_eq_false', Bool.not_true, Bool.not_false, ne_eq, Classical.not_not, Nat.not_lt, Int.not_lt, Int.not_le] at hg2)) | (apply EvK.cons rfl (.guard rfl rfl rfl fun hg => ?_) ?_; rotate_right; try (have hg2 := hg; simp only [decide_eq_true_eq, decide_eq_false_iff_not, Bool.and_eq_true, Bool.or_eq_true, Bool.or_eq_false_iff, Bool.and_eq_false_iff, Bool.not_eq_true', Bool.not_eq_false', Bool.not_true, Bool.not_false, ne_eq, Classical.not_not, Nat.not_lt, Int.not_lt, Int.not_le] at hg2)) | (apply EvK.cons rfl (.guardw rfl rfl rfl fun hg => ?_) ?_; rotate_right; try (have hg2 := hg; simp only [decide_eq_true_eq, decide_eq_false_iff_not, Bool.and_eq_true, Bool.or_eq_true, Bool.or_eq_false_iff, Bool.and_eq_false_iff, Bool.not_eq_true', Bool.not_eq_false', Bool.not_true, Bool.not_false, ne_eq, Classical.not_not, Nat.not_lt, Int.not_lt, Int.not_le] at hg2))); (first | (apply sop_callC (of_con _ _ _) <;> first | rfl | omega | (simp only [List.length_append, List.length_cons, List.length_nil]; omega)) | (apply sop_callC (rof_con _ _ _) <;> first | rfl | omega | (simp only [List.length_append, List.length_cons, List.length_nil]; omega)) | (apply sop_callC (may_con _ _ _) <;> first | rfl | omega | (simp only [List.length_append, List.length_cons, List.length_nil]; omega)) | (apply sop_callC (rmay_con _ _ _) <;> first | rfl | omega | (simp only [List.length_append, List.length_cons, List.length_nil]; omega)) | (apply sop_callC (lim_con _ _ _ _ ?_) <;> first | rfl | omega | (simp only [List.length_append, List.length_cons, List.length_nil]; omega)) | (apply sop_callC (rlim_con _ _ _ _ ?_) <;> first | rfl | omega | (simp only [List.length_append, List.length_cons, List.length_nil]; omega)) | (apply sop_callC (spread_con _ _ _ _ ?_ ?_ ?_) <;> first | rfl | omega | (simp only [List.length_append, List.length_cons, List.length_nil]; omega)) | (apply sop_callC (rspread_con _ _ _ _ ?_ ?_ ?_) <;> first | rfl | omega | (simp only [List.length_append, List.length_cons, List.length_nil]; omega)) | (apply sop_callC (page_con _ _ _ _ _) <;> first | rfl | omega | (simp only [List.length_append, List.length_cons, List.length_nil]; omega)) | (apply sop_callC (rpage_con _ _ _ _ _) <;> first | rfl | omega | (simp only [List.length_append, List.length_cons, List.length_nil]; omega)) | (apply sop_callC (place_con _ _ _ _) <;> first | rfl | omega | (simp only [List.length_append, List.length_cons, List.length_nil]; omega)) | (apply sop_callC (rplace_con _ _ _ _) <;> first | rfl | omega | (simp only [List.length_append, List.length_cons, List.length_nil]; omega)) | (apply sop_callC (each_con _) <;> first | rfl | omega | (simp only [List.length_append, List.length_cons, List.length_nil]; omega)) | (apply sop_callC (parts_con _ _ ?_) <;> first | rfl | omega | (simp only [List.length_append, List.length_cons, List.length_nil]; omega)) | (apply sop_callC (low_con _ _ ?_ ?_) <;> first | rfl | omega | (simp only [List.length_append, List.length_cons, List.length_nil]; omega)) | exact sop_eql_struct (ks := [.int .i64, .int .i64, .int .i64, .int .i64, .int .i64, .int .i64]) | (apply sop_callC (awake_con) <;> first | rfl | omega | (simp only [List.length_append, List.length_cons, List.length_nil]; omega)) | exact sop_move | exact sop_assign | exact sop_pick_or | exact sop_pick_and | exact sop_add_in | exact sop_sub_in | exact sop_mul_in | exact sop_add_u64in | exact sop_sub_u64in | exact sop_add_u8 | exact sop_add | exact sop_sub | exact sop_mul | exact sop_lss | exact sop_leq | exact sop_gtr | exact sop_geq | exact sop_eql | exact sop_neq | exact sop_eqlb | exact sop_neqb | exact sop_not | exact sop_conv_i64 | exact sop_conv_u64in | exact sop_conv_u64 | exact sop_conv_u8in | exact sop_conv_u8 | exact sop_conv_u32in | exact sop_conv | exact sop_len_snap | exact sop_len_own | exact sop_len_lit | exact sop_len_str | exact sop_field_ptr | exact sop_field_place | exact sop_load_place | exact sop_load_place_agg | exact sop_load_box | exact sop_load_box_agg | exact sop_index_snap | exact sop_index_snapZ | exact sop_index_own | exact sop_index_ownZ | exact sop_load_own | exact sop_load_own1 | exact sop_load_own_agg | exact sop_extract | exact sop_rem_in | exact sop_quo_in | exact sop_rem | exact sop_quo | exact sop_shr_in | exact sop_shr | exact sop_shl | exact sop_and | exact sop_or | exact sop_xor | exact sop_neg | exact sop_min2 | exact sop_max2 | exact sop_build | exact sop_fieldv | exact sop_fieldv_agg | exact sop_eql_struct | exact sop_neq_struct | exact sop_buildSlice | exact sop_slice_snap | exact sop_alloc_any)))
  · first | refine aend0 (by first | exact .inl rfl | exact .inr rfl) []  (by repeat (first | exact covL_nil | refine covL_dup rfl ?_ | refine covL_cons rfl rfl ?_)) ?_ | refine aend1 (by first | exact .inl rfl | exact .inr rfl) [] (by first | exact .tmp rfl | exact .cell rfl rfl rfl rfl rfl | exact .cellA rfl rfl rfl rfl rfl) (by repeat (first | exact covL_nil | refine covL_dup rfl ?_ | refine covL_cons rfl rfl ?_)) ?_ | refine aend2 (by first | exact .inl rfl | exact .inr rfl) [] (by first | exact .tmp rfl | exact .cell rfl rfl rfl rfl rfl | exact .cellA rfl rfl rfl rfl rfl) (by first | exact .tmp rfl | exact .cell rfl rfl rfl rfl rfl | exact .cellA rfl rfl rfl rfl rfl) (by repeat (first | exact covL_nil | refine covL_dup rfl ?_ | refine covL_cons rfl rfl ?_)) ?_ | refine aend3 (by first | exact .inl rfl | exact .inr rfl) [] (by first | exact .tmp rfl | exact .cell rfl rfl rfl rfl rfl | exact .cellA rfl rfl rfl rfl rfl) (by first | exact .tmp rfl | exact .cell rfl rfl rfl rfl rfl | exact .cellA rfl rfl rfl rfl rfl) (by first | exact .tmp rfl | exact .cell rfl rfl rfl rfl rfl | exact .cellA rfl rfl rfl rfl rfl) (by repeat (first | exact covL_nil | refine covL_dup rfl ?_ | refine covL_cons rfl rfl ?_)) ?_
    refine ⟨lit_true ?_, rfl⟩
    simp only [Bool.and_eq_true, Bool.or_eq_true, decide_eq_true_eq, Bool.and_true, beq_iff_eq, Bool.not_eq_true', decide_eq_false_iff_not]
    omega
end Go.Proofs.Ytemcmnhfehpmlaa
