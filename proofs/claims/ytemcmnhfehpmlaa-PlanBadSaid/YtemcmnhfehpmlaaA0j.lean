/- PlanBad, walked. -/
import Derived.Test.YtemcmnhfehpmlaaA0h
import Derived.Test.YtemcmnhfehpmlaaAu
namespace Go.Proofs.Ytemcmnhfehpmlaa
open Go Go.RowKit
set_option linter.unusedVariables false
set_option linter.unusedSimpArgs false

theorem lim_bd (b p s bad : Int) : 0 ≤ limM b p s bad ∧ limM b p s bad ≤ 256 := by
  obtain ⟨h1, h2, h3⟩ := ofM_bd b p s
  by_cases h : (ofM b p s).room < 1 ∨ bad < 0
  · rw [limM_0 h]; omega
  · have h4 := (h3 (by omega)).2
    rw [limM_1 (by omega)]
    have : 0 ≤ leftM (ofM b p s).room bad ∧ leftM (ofM b p s).room bad ≤ 32 := by
      unfold leftM; split <;> omega
    have := mul_bd this.1 this.2 (show 0 ≤ p by omega) (show p ≤ 8 by omega)
    omega
theorem less_1 {b p s bad : Int} (h : okG b p s) (h0 : 0 ≤ bad) (h1 : bad < (ofM b p s).room) : limM b p s bad - limM b p s (bad + 1) = p ∧ ((limM b p s bad = 0) ↔ ((ofM b p s).room ≤ bad)) := by
  have hr := room_pos h
  unfold okG at h
  rw [limM_1 (by omega), limM_1 (by omega)]
  have e1 : leftM (ofM b p s).room bad = (ofM b p s).room - bad := by rw [leftM, if_neg (by omega)]
  have e2 : leftM (ofM b p s).room (bad + 1) = (ofM b p s).room - bad - 1 := by
    rw [leftM, if_neg (by omega)]; omega
  rw [e1, e2, Int.sub_mul ((ofM b p s).room - bad), Int.one_mul]
  have : 1 * p ≤ ((ofM b p s).room - bad) * p := Int.mul_le_mul_of_nonneg_right (by omega) (by omega)
  omega
theorem less_0 {b p s bad : Int} (h : okG b p s) (h0 : 0 ≤ bad) (h1 : (ofM b p s).room ≤ bad) : limM b p s bad = 0 ∧ limM b p s (bad + 1) = 0 := by
  have hr := room_pos h
  rw [limM_1 (by omega), limM_1 (by omega)]
  have e1 : leftM (ofM b p s).room bad = 0 := by unfold leftM; split <;> omega
  have e2 : leftM (ofM b p s).room (bad + 1) = 0 := by unfold leftM; split <;> omega
  rw [e1, e2, Int.zero_mul]; exact ⟨rfl, rfl⟩
theorem lim_no {b p s bad : Int} (h : ¬ okG b p s) : limM b p s bad = 0 := limM_0 (.inl (by rw [ofM_no h]; decide))
theorem page_no {b p s x y : Int} (h : ¬ okG b p s) : pageM b p s x y = -1 := page_0 (.inl (by rw [ofM_no h]; decide))
set_option maxRecDepth 10000 in
set_option maxHeartbeats 6000000 in
theorem bad_con (blocks pages size bad crashes : Int) : Con Try.prog 8 [.lit (.int .i64 blocks), .lit (.int .i64 pages), .lit (.int .i64 size), .lit (.int .i64 bad), .lit (.int .i64 crashes)] [] (fun az hz => az = .lit (.bool (true)) ∧ hz = []) := by
  refine con_of hT Try.func8 rfl rfl rfl rfl rfl rfl ?_
  intro c
  have hT := hT
  have hZ := hZ
  have hlow : ∀ x n : Int, 1 ≤ n → 0 ≤ low x n ∧ low x n < n := fun x n h => low_bd x h
  have l1 := hlow blocks 17 (by omega)
  have l2 := hlow pages 5 (by omega)
  have l3 := hlow size 129 (by omega)
  have l4 := hlow bad 40 (by omega)
  have l5 := hlow crashes 1000 (by omega)
  have hk : okG (16 + low blocks 17) (4 + low pages 5) (128 + low size 129) := by unfold okG; omega
  obtain ⟨f1, f2, f3, f4, f5, f6⟩ := of_facts hk
  have c := chk_bd hk
  have hep := each_bd (128 + low size 129)
  have hbp := bp_bd hk
  have hrp := room_pos hk
  have k1 : ¬ okG 15 (4 + low pages 5) (128 + low size 129) := by unfold okG; omega
  have k2 : ¬ okG (16 + low blocks 17) (4 + low pages 5) 127 := by unfold okG; omega
  have x1 := ofM_no k1
  have x2 := ofM_no k2
  have x3 := lim_no (bad := 0) k2
  have x4 := page_no (x := 0) (y := 0) k1
  have d1 := lim_bd (16 + low blocks 17) (4 + low pages 5) (128 + low size 129) (low bad 40)
  have d2 := lim_bd (16 + low blocks 17) (4 + low pages 5) (128 + low size 129) (low bad 40 + 1)
  have y1 := less_1 (bad := low bad 40) hk (by omega)
  have y0 := less_0 (bad := low bad 40) hk (by omega)
  have hneg : IntKind.i64.wrap (0 - low crashes 1000) = -(low crashes 1000) := (wrap_i64_in (by omega)).trans (by omega)
  have s1 : spreadM (16 + low blocks 17) (low crashes 1000) = 4 + (16 + low blocks 17) + low crashes 1000 := by unfold spreadM; rw [if_neg (by omega)]
  have s2 : spreadM (16 + low blocks 17) (low crashes 1000 + 1) = 4 + (16 + low blocks 17) + (low crashes 1000 + 1) := by unfold spreadM; rw [if_neg (by omega)]
  have s3 : spreadM (16 + low blocks 17) (IntKind.i64.wrap (0 - low crashes 1000)) = spreadM (16 + low blocks 17) 0 := by
    rw [hneg]; unfold spreadM; split <;> split <;> omega
  repeat' (first | refine a_seq ?_ | refine a_block ?_ | refine a_skip ?_ | refine a_exit ?_ | refine a_ret ?_ | refine a_label ?_ | refine a_scope ?_ | refine a_region ?_ | refine a_region_U' rfl (by kernel_rfl) (by kernel_rfl) (by kernel_rfl) (by kernel_rfl) (by assumption) (by assumption) rfl ?_ | refine a_region_tailN rfl rfl (by kernel_rfl) (by kernel_rfl) (by kernel_rfl) (by kernel_rfl) (by assumption) rfl rfl ?_ | refine a_region_tailA rfl rfl (by kernel_rfl) (by kernel_rfl) (by kernel_rfl) (by kernel_rfl) (by assumption) rfl rfl rfl ?_ | refine a_region_tail rfl (by kernel_rfl) (by kernel_rfl) (by kernel_rfl) (by kernel_rfl) ?_ | refine a_region_tailR rfl (by kernel_rfl) (by kernel_rfl) (by kernel_rfl) (by kernel_rfl) ?_ | refine a_region_any (by kernel_rfl) (by kernel_rfl) (by kernel_rfl) ?_ | refine at_normal ?_ | refine at_exit ?_ | refine at_ret ?_ | refine ab_normal ?_ | refine ab_ret ?_ | refine ab_same ?_ | refine ab_other rfl ?_ | refine ao_nil ?_ | refine EvK.nil ?_ | refine EvU.nil ?_ | refine EvU.alloc rfl rfl ?_ | refine EvU.store rfl rfl rfl rfl rfl (by first | exact .un rfl (by first | assumption | exact And.left (by assumption)) | exact .of rfl) rfl rfl rfl rfl rfl ?_ | refine tailA_k rfl rfl ?_ | refine tailA_k trivial rfl ?_ | (refine a_cond rfl (fun hb => ?_) (fun hb => ?_) <;> (try simp only [decide_eq_true_eq, decide_eq_false_iff_not, Bool.and_eq_true, Bool.or_eq_true, Bool.or_eq_false_iff, Bool.and_eq_false_iff, Bool.not_eq_true', Bool.not_eq_false', Bool.not_true, Bool.not_false, ne_eq, Classical.not_not, Nat.not_lt, Int.not_lt, Int.not_le] at hb) <;> (try (exfalso; omega))) | refine ao_alloc' (next := ?_) | refine ao_box' (next := ?_) | refine ao_store (next := ?_) | refine ao_store_own (next := ?_) | refine ao_store_ownR (next := ?_) | refine ao_append_same (next := ?_) | refine ao_append_nil (next := ?_) | refine ao_append_new (next := ?_) | ((first | (apply ao_op rfl rfl (.plain rfl ?_) ?_; rotate_left) | (apply EvK.cons rfl (.plain rfl ?_) ?_; rotate_left) | (apply EvU.plain rfl rfl rfl ?_ ?_; rotate_left) | (apply ao_op rfl rfl (.guard rfl rfl rfl fun hg => ?_) ?_; rotate_right; try (have hg2 := hg; simp only [decide_eq_true_eq, decide_eq_false_iff_not, Bool.and_eq_true, Bool.or_eq_true, Bool.or_eq_false_iff, Bool.and_eq_false_iff, Bool.not_eq_true', Bool.not_eq_false', Bool.not_true, Bool.not_false, ne_eq, Classical.not_not, Nat.not_lt, Int.not_lt, Int.not_le] at hg2)) | (apply ao_op rfl rfl (.guardw rfl rfl rfl fun hg => ?_) ?_; rotate_right; try (have hg2 := hg; simp only [decide_eq_true_eq, decide_eq_false_iff_not, Bool.and_eq_true, Bool.or_eq_true, Bool.or_eq_false_iff, Bool.and_eq_false_iff, Bool.not_eq_true', Bool.not_eq_false', Bool.not_true, Bool.not_false, ne_eq, Classical.not_not, Nat.not_lt, Int.not_lt, Int.not_le] at hg2)) | (apply EvK.cons rfl (.guard rfl rfl rfl fun hg => ?_) ?_; rotate_right; try (have hg2 := hg; simp only [decide_eq_true_eq, decide_eq_false_iff_not, Bool.and_eq_true, Bool.or_eq_true, Bool.or_eq_false_iff, Bool.and_eq_false_iff, Bool.not_eq_true', Bool.not_eq_false', Bool.not_true, Bool.not_false, ne_eq, Classical.not_not, Nat.not_lt, Int.not_lt, Int.not_le] at hg2)) | (apply EvK.cons rfl (.guardw rfl rfl rfl fun hg => ?_) ?_; rotate_right; try (have hg2 := hg; simp only [decide_eq_true_eq, decide_eq_false_iff_not, Bool.and_eq_true, Bool.or_eq_true, Bool.or_eq_false_iff, Bool.and_eq_false_iff, Bool.not_eq_true', Bool.not_eq_false', Bool.not_true, Bool.not_false, ne_eq, Classical.not_not, Nat.not_lt, Int.not_lt, Int.not_le] at hg2))); (first | (apply sop_callC (of_con _ _ _) <;> first | rfl | omega | (simp only [List.length_append, List.length_cons, List.length_nil]; omega)) | (apply sop_callC (rof_con _ _ _) <;> first | rfl | omega | (simp only [List.length_append, List.length_cons, List.length_nil]; omega)) | (apply sop_callC (may_con _ _ _) <;> first | rfl | omega | (simp only [List.length_append, List.length_cons, List.length_nil]; omega)) | (apply sop_callC (rmay_con _ _ _) <;> first | rfl | omega | (simp only [List.length_append, List.length_cons, List.length_nil]; omega)) | (apply sop_callC (lim_con _ _ _ _ ?_) <;> first | rfl | omega | (simp only [List.length_append, List.length_cons, List.length_nil]; omega)) | (apply sop_callC (rlim_con _ _ _ _ ?_) <;> first | rfl | omega | (simp only [List.length_append, List.length_cons, List.length_nil]; omega)) | (apply sop_callC (spread_con _ _ _ _ ?_ ?_ ?_) <;> first | rfl | omega | (simp only [List.length_append, List.length_cons, List.length_nil]; omega)) | (apply sop_callC (rspread_con _ _ _ _ ?_ ?_ ?_) <;> first | rfl | omega | (simp only [List.length_append, List.length_cons, List.length_nil]; omega)) | (apply sop_callC (page_con _ _ _ _ _) <;> first | rfl | omega | (simp only [List.length_append, List.length_cons, List.length_nil]; omega)) | (apply sop_callC (rpage_con _ _ _ _ _) <;> first | rfl | omega | (simp only [List.length_append, List.length_cons, List.length_nil]; omega)) | (apply sop_callC (place_con _ _ _ _) <;> first | rfl | omega | (simp only [List.length_append, List.length_cons, List.length_nil]; omega)) | (apply sop_callC (rplace_con _ _ _ _) <;> first | rfl | omega | (simp only [List.length_append, List.length_cons, List.length_nil]; omega)) | (apply sop_callC (each_con _) <;> first | rfl | omega | (simp only [List.length_append, List.length_cons, List.length_nil]; omega)) | (apply sop_callC (parts_con _ _ ?_) <;> first | rfl | omega | (simp only [List.length_append, List.length_cons, List.length_nil]; omega)) | (apply sop_callC (low_con _ _ ?_ ?_) <;> first | rfl | omega | (simp only [List.length_append, List.length_cons, List.length_nil]; omega)) | exact sop_eql_struct (ks := [.int .i64, .int .i64, .int .i64, .int .i64, .int .i64, .int .i64]) | (apply sop_callC (awake_con) <;> first | rfl | omega | (simp only [List.length_append, List.length_cons, List.length_nil]; omega)) | exact sop_move | exact sop_assign | exact sop_pick_or | exact sop_pick_and | exact sop_add_in | exact sop_sub_in | exact sop_mul_in | exact sop_add_u64in | exact sop_sub_u64in | exact sop_add_u8 | exact sop_add | exact sop_sub | exact sop_mul | exact sop_lss | exact sop_leq | exact sop_gtr | exact sop_geq | exact sop_eql | exact sop_neq | exact sop_eqlb | exact sop_neqb | exact sop_not | exact sop_conv_i64 | exact sop_conv_u64in | exact sop_conv_u64 | exact sop_conv_u8in | exact sop_conv_u8 | exact sop_conv_u32in | exact sop_conv | exact sop_len_snap | exact sop_len_own | exact sop_len_lit | exact sop_len_str | exact sop_field_ptr | exact sop_field_place | exact sop_load_place | exact sop_load_place_agg | exact sop_load_box | exact sop_load_box_agg | exact sop_index_snap | exact sop_index_snapZ | exact sop_index_own | exact sop_index_ownZ | exact sop_load_own | exact sop_load_own1 | exact sop_load_own_agg | exact sop_extract | exact sop_rem_in | exact sop_quo_in | exact sop_rem | exact sop_quo | exact sop_shr_in | exact sop_shr | exact sop_shl | exact sop_and | exact sop_or | exact sop_xor | exact sop_neg | exact sop_min2 | exact sop_max2 | exact sop_build | exact sop_fieldv | exact sop_fieldv_agg | exact sop_eql_struct | exact sop_neq_struct | exact sop_buildSlice | exact sop_slice_snap | exact sop_alloc_any)))
  all_goals first | refine aend0 (by first | exact .inl rfl | exact .inr rfl) []  (by repeat (first | exact covL_nil | refine covL_dup rfl ?_ | refine covL_cons rfl rfl ?_)) ?_ | refine aend1 (by first | exact .inl rfl | exact .inr rfl) [] (by first | exact .tmp rfl | exact .cell rfl rfl rfl rfl rfl | exact .cellA rfl rfl rfl rfl rfl) (by repeat (first | exact covL_nil | refine covL_dup rfl ?_ | refine covL_cons rfl rfl ?_)) ?_ | refine aend2 (by first | exact .inl rfl | exact .inr rfl) [] (by first | exact .tmp rfl | exact .cell rfl rfl rfl rfl rfl | exact .cellA rfl rfl rfl rfl rfl) (by first | exact .tmp rfl | exact .cell rfl rfl rfl rfl rfl | exact .cellA rfl rfl rfl rfl rfl) (by repeat (first | exact covL_nil | refine covL_dup rfl ?_ | refine covL_cons rfl rfl ?_)) ?_ | refine aend3 (by first | exact .inl rfl | exact .inr rfl) [] (by first | exact .tmp rfl | exact .cell rfl rfl rfl rfl rfl | exact .cellA rfl rfl rfl rfl rfl) (by first | exact .tmp rfl | exact .cell rfl rfl rfl rfl rfl | exact .cellA rfl rfl rfl rfl rfl) (by first | exact .tmp rfl | exact .cell rfl rfl rfl rfl rfl | exact .cellA rfl rfl rfl rfl rfl) (by repeat (first | exact covL_nil | refine covL_dup rfl ?_ | refine covL_cons rfl rfl ?_)) ?_
  all_goals refine ⟨lit_true ?_, rfl⟩
  all_goals simp only [x1, x2, x3, x4, s1, s2, s3, and_true, Bool.and_true, Bool.and_eq_true, beq_iff_eq, decide_eq_decide, decide_eq_true_eq, Bool.not_eq_true', decide_eq_false_iff_not]
  · have z := y1 hb

    omega
  · have z := y0 hb
    omega
end Go.Proofs.Ytemcmnhfehpmlaa
