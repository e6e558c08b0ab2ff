/- PlanChecks, walked. -/
import Derived.Test.YtemcmnhfehpmlaaA0p
import Derived.Test.YtemcmnhfehpmlaaAm
namespace Go.Proofs.Ytemcmnhfehpmlaa
open Go Go.RowKit
set_option linter.unusedVariables false
set_option linter.unusedSimpArgs false

theorem chk_1 {b p s : Int} (h : okG b p s) : 1 ≤ chk b p s := by
  have h1 := chk_ge h
  have h2 := fits_ge h
  have h3 := bp_bd h
  have h4 := chk_bd h
  rcases (show chk b p s = 0 ∨ 1 ≤ chk b p s by omega) with h0 | h0
  · rw [h0, Int.zero_mul, Int.zero_mul] at h2; omega
  · exact h0
theorem checks_le {b p s : Int} (h : okG b p s) (h1 : 1 ≤ (ofM b p s).room) : limM b p s 0 ≤ b * p - (2 * chk b p s + 5) * p := by
  obtain ⟨_, _, _, _, f5, _⟩ := of_facts h
  rw [limM_1 (by omega), left0 (by omega), f5, Int.sub_mul]
  omega
theorem parts_lt {s m : Int} (h : 128 ≤ s ∧ s ≤ 256) (hm : 1 ≤ m) : (partsM s m - 1) * eachM s < m := by
  have he := each_bd s
  unfold partsM
  rw [if_neg (by omega)]
  have h1 := Int.emod_add_mul_ediv m (eachM s)
  have h2 := Int.emod_nonneg m (show eachM s ≠ 0 by omega)
  have h3 := Int.emod_lt_of_pos m (show 0 < eachM s by omega)
  rw [Int.mul_comm] at h1
  split
  · rw [Int.add_sub_cancel]; omega
  · rw [Int.add_zero, Int.sub_mul, Int.one_mul]; omega
theorem parts_1 {s m : Int} (h : 128 ≤ s ∧ s ≤ 256) (hm : 1 ≤ m) : 1 ≤ partsM s m := by
  have h1 := parts_ge h (show 0 ≤ m by omega)
  have h2 := parts_bd (s := s) (show 0 ≤ m by omega)
  rcases (show partsM s m = 0 ∨ 1 ≤ partsM s m by omega) with h0 | h0
  · rw [h0, Int.zero_mul] at h1; omega
  · exact h0
theorem room_pos {b p s : Int} (h : okG b p s) : 1 ≤ (ofM b p s).room := by
  obtain ⟨_, _, _, _, f5, _⟩ := of_facts h
  have hb := bp_bd h
  have hc := chk_ge h
  have he := each_bd s
  have h' := h
  unfold okG at h'
  have a := parts_lt (s := s) (m := b * p) (by omega) (by omega)
  have p1 := parts_1 (s := s) (m := b * p) (by omega) (by omega)
  have a5 := Int.mul_le_mul_of_nonneg_left (show (5 : Int) ≤ eachM s by omega) (show 0 ≤ partsM s (b * p) - 1 by omega)
  have e1 : (5 * (chk b p s - 1)) * p = 5 * ((chk b p s - 1) * p) := Int.mul_assoc ..
  have hlt : (5 * (chk b p s - 1)) * p < b * p := by omega
  have := Int.lt_of_mul_lt_mul_right hlt (by omega)
  omega
set_option maxRecDepth 10000 in
set_option maxHeartbeats 1000000 in
theorem checks_con (blocks pages size : Int) : Con Try.prog 6 [.lit (.int .i64 blocks), .lit (.int .i64 pages), .lit (.int .i64 size)] [] (fun az hz => az = .lit (.bool (true)) ∧ hz = []) := by
  refine con_of hT Try.func6 rfl rfl rfl rfl rfl rfl ?_
  intro c
  have hT := hT
  have hZ := hZ
  have hlow : ∀ x n : Int, 1 ≤ n → 0 ≤ low x n ∧ low x n < n := fun x n h => low_bd x h
  have l1 := hlow blocks 17 (by omega)
  have l2 := hlow pages 5 (by omega)
  have l3 := hlow size 129 (by omega)
  have hk : okG (16 + low blocks 17) (4 + low pages 5) (128 + low size 129) := by unfold okG; omega
  obtain ⟨f1, f2, f3, f4, f5, f6⟩ := of_facts hk
  have c := chk_bd hk
  have hep := each_bd (128 + low size 129)
  have hbp := bp_bd hk
  have m1 := mul_bd (b := (ofM (16 + low blocks 17) (4 + low pages 5) (128 + low size 129)).check) (p := (4 + low pages 5)) (B := 264) (P := 8) (by omega) (by omega) (by omega) (by omega)
  have k1 := chk_1 hk
  have m5 := mul_bd (b := (ofM (16 + low blocks 17) (4 + low pages 5) (128 + low size 129)).check - 1) (p := (4 + low pages 5)) (B := 264) (P := 8) (by omega) (by omega) (by omega) (by omega)
  have m6 := mul_bd (b := (ofM (16 + low blocks 17) (4 + low pages 5) (128 + low size 129)).spare) (p := (4 + low pages 5)) (B := 533) (P := 8) (by omega) (by omega) (by omega) (by omega)
  have m7 := mul_bd (b := (16 + low blocks 17)) (p := (4 + low pages 5)) (B := 32) (P := 8) (by omega) (by omega) (by omega) (by omega)
  have hrp := room_pos hk
  have hg := chk_ge hk
  have hle := checks_le hk hrp
  repeat' (first | refine a_seq ?_ | refine a_block ?_ | refine a_skip ?_ | refine a_exit ?_ | refine a_ret ?_ | refine a_label ?_ | refine a_scope ?_ | refine a_region ?_ | refine a_region_U' rfl (by kernel_rfl) (by kernel_rfl) (by kernel_rfl) (by kernel_rfl) (by assumption) (by assumption) rfl ?_ | refine a_region_tailN rfl rfl (by kernel_rfl) (by kernel_rfl) (by kernel_rfl) (by kernel_rfl) (by assumption) rfl rfl ?_ | refine a_region_tailA rfl rfl (by kernel_rfl) (by kernel_rfl) (by kernel_rfl) (by kernel_rfl) (by assumption) rfl rfl rfl ?_ | refine a_region_tail rfl (by kernel_rfl) (by kernel_rfl) (by kernel_rfl) (by kernel_rfl) ?_ | refine a_region_tailR rfl (by kernel_rfl) (by kernel_rfl) (by kernel_rfl) (by kernel_rfl) ?_ | refine a_region_any (by kernel_rfl) (by kernel_rfl) (by kernel_rfl) ?_ | refine at_normal ?_ | refine at_exit ?_ | refine at_ret ?_ | refine ab_normal ?_ | refine ab_ret ?_ | refine ab_same ?_ | refine ab_other rfl ?_ | refine ao_nil ?_ | refine EvK.nil ?_ | refine EvU.nil ?_ | refine EvU.alloc rfl rfl ?_ | refine EvU.store rfl rfl rfl rfl rfl (by first | exact .un rfl (by first | assumption | exact And.left (by assumption)) | exact .of rfl) rfl rfl rfl rfl rfl ?_ | refine tailA_k rfl rfl ?_ | refine tailA_k trivial rfl ?_ | (refine a_cond rfl (fun hb => ?_) (fun hb => ?_) <;> (try simp only [decide_eq_true_eq, decide_eq_false_iff_not, Bool.and_eq_true, Bool.or_eq_true, Bool.or_eq_false_iff, Bool.and_eq_false_iff, Bool.not_eq_true', Bool.not_eq_false', Bool.not_true, Bool.not_false, ne_eq, Classical.not_not, Nat.not_lt, Int.not_lt, Int.not_le] at hb) <;> (try (exfalso; omega))) | refine ao_alloc' (next := ?_) | refine ao_box' (next := ?_) | refine ao_store (next := ?_) | refine ao_store_own (next := ?_) | refine ao_store_ownR (next := ?_) | refine ao_append_same (next := ?_) | refine ao_append_nil (next := ?_) | refine ao_append_new (next := ?_) | ((first | (apply ao_op rfl rfl (.plain rfl ?_) ?_; rotate_left) | (apply EvK.cons rfl (.plain rfl ?_) ?_; rotate_left) | (apply EvU.plain rfl rfl rfl ?_ ?_; rotate_left) | (apply ao_op rfl rfl (.guard rfl rfl rfl fun hg => ?_) ?_; rotate_right; try (have hg2 := hg; simp only [decide_eq_true_eq, decide_eq_false_iff_not, Bool.and_eq_true, Bool.or_eq_true, Bool.or_eq_false_iff, Bool.and_eq_false_iff, Bool.not_eq_true', Bool.not_eq_false', Bool.not_true, Bool.not_false, ne_eq, Classical.not_not, Nat.not_lt, Int.not_lt, Int.not_le] at hg2)) | (apply ao_op rfl rfl (.guardw rfl rfl rfl fun hg => ?_) ?_; rotate_right; try (have hg2 := hg; simp only [decide_eq_true_eq, decide_eq_false_iff_not, Bool.and_eq_true, Bool.or_eq_true, Bool.or_eq_false_iff, Bool.and_eq_false_iff, Bool.not_eq_true', Bool.not_eq_false', Bool.not_true, Bool.not_false, ne_eq, Classical.not_not, Nat.not_lt, Int.not_lt, Int.not_le] at hg2)) | (apply EvK.cons rfl (.guard rfl rfl rfl fun hg => ?_) ?_; rotate_right; try (have hg2 := hg; simp only [decide_eq_true_eq, decide_eq_false_iff_not, Bool.and_eq_true, Bool.or_eq_true, Bool.or_eq_false_iff, Bool.and_eq_false_iff, Bool.not_eq_true', Bool.not_eq_false', Bool.not_true, Bool.not_false, ne_eq, Classical.not_not, Nat.not_lt, Int.not_lt, Int.not_le] at hg2)) | (apply EvK.cons rfl (.guardw rfl rfl rfl fun hg => ?_) ?_; rotate_right; try (have hg2 := hg; simp only [decide_eq_true_eq, decide_eq_false_iff_not, Bool.and_eq_true, Bool.or_eq_true, Bool.or_eq_false_iff, Bool.and_eq_false_iff, Bool.not_eq_true', Bool.not_eq_false', Bool.not_true, Bool.not_false, ne_eq, Classical.not_not, Nat.not_lt, Int.not_lt, Int.not_le] at hg2))); (first | (apply sop_callC (of_con _ _ _) <;> first | rfl | omega | (simp only [List.length_append, List.length_cons, List.length_nil]; omega)) | (apply sop_callC (rof_con _ _ _) <;> first | rfl | omega | (simp only [List.length_append, List.length_cons, List.length_nil]; omega)) | (apply sop_callC (may_con _ _ _) <;> first | rfl | omega | (simp only [List.length_append, List.length_cons, List.length_nil]; omega)) | (apply sop_callC (rmay_con _ _ _) <;> first | rfl | omega | (simp only [List.length_append, List.length_cons, List.length_nil]; omega)) | (apply sop_callC (lim_con _ _ _ _ ?_) <;> first | rfl | omega | (simp only [List.length_append, List.length_cons, List.length_nil]; omega)) | (apply sop_callC (rlim_con _ _ _ _ ?_) <;> first | rfl | omega | (simp only [List.length_append, List.length_cons, List.length_nil]; omega)) | (apply sop_callC (spread_con _ _ _ _ ?_ ?_ ?_) <;> first | rfl | omega | (simp only [List.length_append, List.length_cons, List.length_nil]; omega)) | (apply sop_callC (rspread_con _ _ _ _ ?_ ?_ ?_) <;> first | rfl | omega | (simp only [List.length_append, List.length_cons, List.length_nil]; omega)) | (apply sop_callC (page_con _ _ _ _ _) <;> first | rfl | omega | (simp only [List.length_append, List.length_cons, List.length_nil]; omega)) | (apply sop_callC (rpage_con _ _ _ _ _) <;> first | rfl | omega | (simp only [List.length_append, List.length_cons, List.length_nil]; omega)) | (apply sop_callC (place_con _ _ _ _) <;> first | rfl | omega | (simp only [List.length_append, List.length_cons, List.length_nil]; omega)) | (apply sop_callC (rplace_con _ _ _ _) <;> first | rfl | omega | (simp only [List.length_append, List.length_cons, List.length_nil]; omega)) | (apply sop_callC (each_con _) <;> first | rfl | omega | (simp only [List.length_append, List.length_cons, List.length_nil]; omega)) | (apply sop_callC (parts_con _ _ ?_) <;> first | rfl | omega | (simp only [List.length_append, List.length_cons, List.length_nil]; omega)) | (apply sop_callC (low_con _ _ ?_ ?_) <;> first | rfl | omega | (simp only [List.length_append, List.length_cons, List.length_nil]; omega)) | exact sop_eql_struct (ks := [.int .i64, .int .i64, .int .i64, .int .i64, .int .i64, .int .i64]) | (apply sop_callC (awake_con) <;> first | rfl | omega | (simp only [List.length_append, List.length_cons, List.length_nil]; omega)) | exact sop_move | exact sop_assign | exact sop_pick_or | exact sop_pick_and | exact sop_add_in | exact sop_sub_in | exact sop_mul_in | exact sop_add_u64in | exact sop_sub_u64in | exact sop_add_u8 | exact sop_add | exact sop_sub | exact sop_mul | exact sop_lss | exact sop_leq | exact sop_gtr | exact sop_geq | exact sop_eql | exact sop_neq | exact sop_eqlb | exact sop_neqb | exact sop_not | exact sop_conv_i64 | exact sop_conv_u64in | exact sop_conv_u64 | exact sop_conv_u8in | exact sop_conv_u8 | exact sop_conv_u32in | exact sop_conv | exact sop_len_snap | exact sop_len_own | exact sop_len_lit | exact sop_len_str | exact sop_field_ptr | exact sop_field_place | exact sop_load_place | exact sop_load_place_agg | exact sop_load_box | exact sop_load_box_agg | exact sop_index_snap | exact sop_index_snapZ | exact sop_index_own | exact sop_index_ownZ | exact sop_load_own | exact sop_load_own1 | exact sop_load_own_agg | exact sop_extract | exact sop_rem_in | exact sop_quo_in | exact sop_rem | exact sop_quo | exact sop_shr_in | exact sop_shr | exact sop_shl | exact sop_and | exact sop_or | exact sop_xor | exact sop_neg | exact sop_min2 | exact sop_max2 | exact sop_build | exact sop_fieldv | exact sop_fieldv_agg | exact sop_eql_struct | exact sop_neq_struct | exact sop_buildSlice | exact sop_slice_snap | exact sop_alloc_any)))
  · first | refine aend0 (by first | exact .inl rfl | exact .inr rfl) []  (by repeat (first | exact covL_nil | refine covL_dup rfl ?_ | refine covL_cons rfl rfl ?_)) ?_ | refine aend1 (by first | exact .inl rfl | exact .inr rfl) [] (by first | exact .tmp rfl | exact .cell rfl rfl rfl rfl rfl | exact .cellA rfl rfl rfl rfl rfl) (by repeat (first | exact covL_nil | refine covL_dup rfl ?_ | refine covL_cons rfl rfl ?_)) ?_ | refine aend2 (by first | exact .inl rfl | exact .inr rfl) [] (by first | exact .tmp rfl | exact .cell rfl rfl rfl rfl rfl | exact .cellA rfl rfl rfl rfl rfl) (by first | exact .tmp rfl | exact .cell rfl rfl rfl rfl rfl | exact .cellA rfl rfl rfl rfl rfl) (by repeat (first | exact covL_nil | refine covL_dup rfl ?_ | refine covL_cons rfl rfl ?_)) ?_ | refine aend3 (by first | exact .inl rfl | exact .inr rfl) [] (by first | exact .tmp rfl | exact .cell rfl rfl rfl rfl rfl | exact .cellA rfl rfl rfl rfl rfl) (by first | exact .tmp rfl | exact .cell rfl rfl rfl rfl rfl | exact .cellA rfl rfl rfl rfl rfl) (by first | exact .tmp rfl | exact .cell rfl rfl rfl rfl rfl | exact .cellA rfl rfl rfl rfl rfl) (by repeat (first | exact covL_nil | refine covL_dup rfl ?_ | refine covL_cons rfl rfl ?_)) ?_
    refine ⟨lit_true ?_, rfl⟩
    simp only [Bool.and_eq_true, Bool.or_eq_true, decide_eq_true_eq, Bool.and_true, beq_iff_eq, Bool.not_eq_true', decide_eq_false_iff_not]
    rw [f1, f2, f3, f4, f5]
    exact ⟨⟨⟨⟨⟨⟨rfl, rfl⟩, hg.1⟩, hg.2⟩, rfl⟩, rfl⟩, hle⟩
end Go.Proofs.Ytemcmnhfehpmlaa
