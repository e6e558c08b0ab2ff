/- The document's cutting, walked. -/
import Derived.Test.YtgiicfjibngooaaDoorK9
namespace Go.Proofs.YtgiicfjibngooaaDoor
open Go Go.RowKit
set_option linter.unusedVariables false
set_option linter.unusedSimpArgs false
attribute [local irreducible] ACode AOps AThen ABlock ACut
set_option maxRecDepth 10000 in
set_option maxHeartbeats 1000000 in
theorem rsplit_con (l : List UInt8) (hl : l.length ≤ 1000000) : Con Tryd.prog 15 [.lit (.string (strOf l))] [] (fun az hz => az = .snap (slF encS (spw l)) ∧ hz = []) := by
  refine con_of hT Tryd.func15 rfl rfl rfl rfl rfl rfl ?_
  intro c
  have hT := hT
  have hZ := hZ
  have hsz := strOf_size l
  repeat' (first | refine a_frzOwn 10 1003 (h := ?_) | refine a_seq ?_ | refine ar_step ?_ | refine a_block ?_ | refine a_skip ?_ | refine a_exit ?_ | refine a_ret ?_ | refine a_label ?_ | refine a_scope ?_ | refine a_region ?_ | refine at_normal ?_ | refine at_exit ?_ | refine at_ret ?_ | refine ab_normal ?_ | refine ab_ret ?_ | refine ab_same ?_ | refine ab_other rfl ?_ | refine ao_nil ?_ | (refine a_cond rfl (fun hb => ?_) (fun hb => ?_) <;> (try simp only [reduceCtorEq, ne_eq, decs] at hb) <;> (try (exfalso; omega)) <;> (try exact (bool_ft hb (by assumption)).elim) <;> (try exact (bool_ft (by assumption) hb).elim)) | refine ao_alloc' (next := ?_) | refine ao_box' (next := ?_) | refine ao_store (next := ?_) | refine ao_store_own (next := ?_) | refine ao_store_ownR (next := ?_) | refine ao_append_same (next := ?_) | refine ao_append_nil (next := ?_) | refine ao_append_new (next := ?_) | refine ao_mkErr (next := ?_) | refine ao_clip (next := ?_) | refine ao_store_arr (next := ?_) | ((first | (apply ao_op rfl rfl (.plain rfl ?_) ?_; rotate_left) | (apply ao_op rfl rfl (.guard rfl rfl rfl fun hg => ?_) ?_; rotate_right) | (apply ao_op rfl rfl (.guardw rfl rfl rfl fun hg => ?_) ?_; rotate_right)); (try (have hg2 := hg; simp only [reduceCtorEq, ne_eq, decs] at hg2)); (first | exact sop_slice_str (k - (stL (l.take k)).2.length) k _ _ | exact sop_index_str | exact sop_buildSlice (E := encS) | exact sop_std | exact sop_false (by revert hg; decide) | fail)))
  refine a_ownNil 3 9 encS 1003 rfl rfl rfl ?_
  refine a_loop (ι := Nat) (fun k => [(5, .lit (.int .i64 (k : Int))), (4, .lit (.int .i64 ((stS l k).2 : Int))), (3, .own 1003)]) (fun k => [(1003, .own 9 encS (stS l k).1)]) (fun k => k ≤ l.length + 1) (fun k => l.length + 1 - k) 0 (Nat.zero_le _) ?_ ?_
  · (refine ⟨?_, ?_⟩ <;> repeat (first | exact covL_nil | refine covL_dup rfl ?_ | refine covL_cons rfl rfl ?_ | refine covL_cons rfl (cov_int rfl (by omega)) ?_))
  intro k hk
  rcases Nat.lt_or_ge l.length k with hk3 | hk3
  · obtain rfl : k = l.length + 1 := by omega
    have e1 : stS l (l.length + 1) = (spw l, l.length + 1) := by unfold stS; rw [if_neg (by omega)]
    rw [e1]
    dsimp only
    repeat' (first | refine a_frzOwn 10 1003 (h := ?_) | refine a_seq ?_ | refine ar_step ?_ | refine a_block ?_ | refine a_skip ?_ | refine a_exit ?_ | refine a_ret ?_ | refine a_label ?_ | refine a_scope ?_ | refine a_region ?_ | refine at_normal ?_ | refine at_exit ?_ | refine at_ret ?_ | refine ab_normal ?_ | refine ab_ret ?_ | refine ab_same ?_ | refine ab_other rfl ?_ | refine ao_nil ?_ | (refine a_cond rfl (fun hb => ?_) (fun hb => ?_) <;> (try simp only [reduceCtorEq, ne_eq, decs] at hb) <;> (try (exfalso; omega)) <;> (try exact (bool_ft hb (by assumption)).elim) <;> (try exact (bool_ft (by assumption) hb).elim)) | refine ao_alloc' (next := ?_) | refine ao_box' (next := ?_) | refine ao_store (next := ?_) | refine ao_store_own (next := ?_) | refine ao_store_ownR (next := ?_) | refine ao_append_same (next := ?_) | refine ao_append_nil (next := ?_) | refine ao_append_new (next := ?_) | refine ao_mkErr (next := ?_) | refine ao_clip (next := ?_) | refine ao_store_arr (next := ?_) | ((first | (apply ao_op rfl rfl (.plain rfl ?_) ?_; rotate_left) | (apply ao_op rfl rfl (.guard rfl rfl rfl fun hg => ?_) ?_; rotate_right) | (apply ao_op rfl rfl (.guardw rfl rfl rfl fun hg => ?_) ?_; rotate_right)); (try (have hg2 := hg; simp only [reduceCtorEq, ne_eq, decs] at hg2)); (first | exact sop_slice_str (k - (stL (l.take k)).2.length) k _ _ | exact sop_index_str | exact sop_buildSlice (E := encS) | exact sop_std | exact sop_false (by revert hg; decide) | fail)))
    first | refine aend0 (by first | exact .inl rfl | exact .inr rfl) []  (by repeat (first | exact covL_nil | refine covL_dup rfl ?_ | refine covL_cons rfl rfl ?_)) ?_ | refine aend1 (by first | exact .inl rfl | exact .inr rfl) [] (by first | exact .tmp rfl | exact .cell rfl rfl rfl rfl rfl | exact .cellA rfl rfl rfl rfl rfl) (by repeat (first | exact covL_nil | refine covL_dup rfl ?_ | refine covL_cons rfl rfl ?_)) ?_ | refine aend2 (by first | exact .inl rfl | exact .inr rfl) [] (by first | exact .tmp rfl | exact .cell rfl rfl rfl rfl rfl | exact .cellA rfl rfl rfl rfl rfl) (by first | exact .tmp rfl | exact .cell rfl rfl rfl rfl rfl | exact .cellA rfl rfl rfl rfl rfl) (by repeat (first | exact covL_nil | refine covL_dup rfl ?_ | refine covL_cons rfl rfl ?_)) ?_ | refine aend3 (by first | exact .inl rfl | exact .inr rfl) [] (by first | exact .tmp rfl | exact .cell rfl rfl rfl rfl rfl | exact .cellA rfl rfl rfl rfl rfl) (by first | exact .tmp rfl | exact .cell rfl rfl rfl rfl rfl | exact .cellA rfl rfl rfl rfl rfl) (by first | exact .tmp rfl | exact .cell rfl rfl rfl rfl rfl | exact .cellA rfl rfl rfl rfl rfl) (by repeat (first | exact covL_nil | refine covL_dup rfl ?_ | refine covL_cons rfl rfl ?_)) ?_
    exact ⟨rfl, rfl⟩
  · have e1 : stS l k = ((stL (l.take k)).1, k - (stL (l.take k)).2.length) := by unfold stS; rw [if_pos hk3]
    obtain ⟨c1, c2, c3⟩ := stL_cur k (l.take k) (by rw [List.length_take]; omega)
    have c4 : (l.drop (k - (stL (l.take k)).2.length)).take (k - (k - (stL (l.take k)).2.length)) = (stL (l.take k)).2 := by
      rw [← List.drop_take]; exact c2
    rw [e1]
    dsimp only
    repeat' (first | refine a_frzOwn 10 1003 (h := ?_) | refine a_seq ?_ | refine ar_step ?_ | refine a_block ?_ | refine a_skip ?_ | refine a_exit ?_ | refine a_ret ?_ | refine a_label ?_ | refine a_scope ?_ | refine a_region ?_ | refine at_normal ?_ | refine at_exit ?_ | refine at_ret ?_ | refine ab_normal ?_ | refine ab_ret ?_ | refine ab_same ?_ | refine ab_other rfl ?_ | refine ao_nil ?_ | (refine a_cond rfl (fun hb => ?_) (fun hb => ?_) <;> (try simp only [reduceCtorEq, ne_eq, decs] at hb) <;> (try (exfalso; omega)) <;> (try exact (bool_ft hb (by assumption)).elim) <;> (try exact (bool_ft (by assumption) hb).elim)) | refine ao_alloc' (next := ?_) | refine ao_box' (next := ?_) | refine ao_store (next := ?_) | refine ao_store_own (next := ?_) | refine ao_store_ownR (next := ?_) | refine ao_append_same (next := ?_) | refine ao_append_nil (next := ?_) | refine ao_append_new (next := ?_) | refine ao_mkErr (next := ?_) | refine ao_clip (next := ?_) | refine ao_store_arr (next := ?_) | ((first | (apply ao_op rfl rfl (.plain rfl ?_) ?_; rotate_left) | (apply ao_op rfl rfl (.guard rfl rfl rfl fun hg => ?_) ?_; rotate_right) | (apply ao_op rfl rfl (.guardw rfl rfl rfl fun hg => ?_) ?_; rotate_right)); (try (have hg2 := hg; simp only [reduceCtorEq, ne_eq, decs] at hg2)); (first | exact sop_slice_str (k - (stL (l.take k)).2.length) k _ _ | exact sop_index_str | exact sop_buildSlice (E := encS) | exact sop_std | exact sop_false (by revert hg; decide) | fail)))
    · rename_i hb0
      have h0 : k = l.length ∨ nth l k = 32 := hb0.imp (fun h => by omega) (fun h => u8_32.1 h)
      have h1 : ¬ (stL (l.take k)).2 = [] := fun e => by rw [e] at hb; simp at hb
      refine ⟨k + 1, by omega, by omega, ?_⟩
      rw [stS_end hk3 h0, if_neg h1]
      dsimp only
      refine ⟨?_, ?_⟩
      · repeat (first | exact covL_nil | refine covL_dup rfl ?_ | refine covL_cons rfl rfl ?_ | refine covL_cons rfl (cov_int rfl (by omega)) ?_)
      · refine covL_cons rfl (cov_own rfl (congrArg (fun z => (stL (l.take k)).1 ++ [z]) c4)) ?_
        repeat (first | exact covL_nil | refine covL_dup rfl ?_ | refine covL_cons rfl rfl ?_)
    · rename_i hb0
      have h0 : k = l.length ∨ nth l k = 32 := hb0.imp (fun h => by omega) (fun h => u8_32.1 h)
      have h1 : (stL (l.take k)).2 = [] := List.eq_nil_of_length_eq_zero (by omega)
      refine ⟨k + 1, by omega, by omega, ?_⟩
      rw [stS_end hk3 h0, if_pos h1]
      (refine ⟨?_, ?_⟩ <;> repeat (first | exact covL_nil | refine covL_dup rfl ?_ | refine covL_cons rfl rfl ?_ | refine covL_cons rfl (cov_int rfl (by omega)) ?_))
    · have h1 : ¬ nth l k = 32 := fun h => hb.2 (u8_32.2 h)
      refine ⟨k + 1, by omega, by omega, ?_⟩
      rw [stS_mid (by omega) h1]
      (refine ⟨?_, ?_⟩ <;> repeat (first | exact covL_nil | refine covL_dup rfl ?_ | refine covL_cons rfl rfl ?_ | refine covL_cons rfl (cov_int rfl (by omega)) ?_))
end Go.Proofs.YtgiicfjibngooaaDoor
