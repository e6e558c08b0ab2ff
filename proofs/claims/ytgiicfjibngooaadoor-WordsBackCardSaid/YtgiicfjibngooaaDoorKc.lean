/- Cutting, rune by rune, walked. -/
import Derived.Test.YtgiicfjibngooaaDoorKb
namespace Go.Proofs.YtgiicfjibngooaaDoor
open Go Go.RowKit
set_option linter.unusedVariables false
set_option linter.unusedSimpArgs false
attribute [local irreducible] ACode AOps AThen ABlock ACut
set_option maxRecDepth 10000 in
set_option maxHeartbeats 1000000 in
theorem wsplit_con (l : List UInt8) (hl : l.length ≤ 1000000) : Con Tryd.prog 14 [.lit (.string (strOf l))] [] (fun az hz => az = .snap (slF encS (spw l)) ∧ hz = []) := by
  refine con_of hT Tryd.func14 rfl rfl rfl rfl rfl rfl ?_
  intro c
  have hT := hT
  have hZ := hZ
  have hsz := strOf_size (l ++ [32])
  have hlu : (l ++ [32]).length = l.length + 1 := by simp
  repeat' (first | refine a_frzOwn 11 1003 (h := ?_) | refine a_seq ?_ | refine ar_step ?_ | refine a_block ?_ | refine a_skip ?_ | refine a_exit ?_ | refine a_ret ?_ | refine a_label ?_ | refine a_scope ?_ | refine a_region ?_ | refine at_normal ?_ | refine at_exit ?_ | refine at_ret ?_ | refine ab_normal ?_ | refine ab_ret ?_ | refine ab_same ?_ | refine ab_other rfl ?_ | refine ao_nil ?_ | (refine a_cond rfl (fun hb => ?_) (fun hb => ?_) <;> (try simp only [reduceCtorEq, ne_eq, decs] at hb) <;> (try (exfalso; omega)) <;> (try exact (bool_ft hb (by assumption)).elim) <;> (try exact (bool_ft (by assumption) hb).elim)) | refine ao_range (next := ?_) | refine ao_next_more (next := ?_) | refine ao_next_over (next := ?_) | refine ao_alloc' (next := ?_) | refine ao_box' (next := ?_) | refine ao_store (next := ?_) | refine ao_store_own (next := ?_) | refine ao_store_ownR (next := ?_) | refine ao_append_same (next := ?_) | refine ao_append_nil (next := ?_) | refine ao_append_new (next := ?_) | refine ao_mkErr (next := ?_) | refine ao_clip (next := ?_) | refine ao_store_arr (next := ?_) | ((first | (apply ao_op rfl rfl (.plain rfl ?_) ?_; rotate_left) | (apply ao_op rfl rfl (.guard rfl rfl rfl fun hg => ?_) ?_; rotate_right) | (apply ao_op rfl rfl (.guardw rfl rfl rfl fun hg => ?_) ?_; rotate_right)); (try (have hg2 := hg; simp only [reduceCtorEq, ne_eq, decs] at hg2)); (first | exact sop_cat | exact sop_slice_str lo i _ _ | (apply sop_callC (clone_s _ ?_) <;> first | exact sd) | exact sop_buildSlice (E := encS) | exact sop_std | exact sop_false (by revert hg; decide) | fail)))
  refine a_ownNil 3 9 encS 1003 rfl rfl rfl ?_
  refine a_loop (ι := Nat) (fun i => [(4, .lit (.int .i64 (frS (l ++ [32]) i))), (3, .own 1003)]) (fun i => [(1009, .iter (strOf (l ++ [32])) i), (1003, .own 9 encS (stL ((l ++ [32]).take i)).1)]) (fun i => i ≤ l.length + 1) (fun i => l.length + 1 - i) 0 (Nat.zero_le _) ?_ ?_
  · (refine ⟨?_, ?_⟩ <;> repeat (first | exact covL_nil | refine covL_dup rfl ?_ | refine covL_cons rfl rfl ?_ | refine covL_cons rfl (cov_int rfl (by omega)) ?_))
  intro i hi
  rcases Nat.lt_or_ge l.length i with hi2 | hi2
  · obtain rfl : i = l.length + 1 := by omega
    rw [List.take_of_length_le (by omega), spw_u]
    repeat' (first | refine a_frzOwn 11 1003 (h := ?_) | refine a_seq ?_ | refine ar_step ?_ | refine a_block ?_ | refine a_skip ?_ | refine a_exit ?_ | refine a_ret ?_ | refine a_label ?_ | refine a_scope ?_ | refine a_region ?_ | refine at_normal ?_ | refine at_exit ?_ | refine at_ret ?_ | refine ab_normal ?_ | refine ab_ret ?_ | refine ab_same ?_ | refine ab_other rfl ?_ | refine ao_nil ?_ | (refine a_cond rfl (fun hb => ?_) (fun hb => ?_) <;> (try simp only [reduceCtorEq, ne_eq, decs] at hb) <;> (try (exfalso; omega)) <;> (try exact (bool_ft hb (by assumption)).elim) <;> (try exact (bool_ft (by assumption) hb).elim)) | refine ao_range (next := ?_) | refine ao_next_more (next := ?_) | refine ao_next_over (next := ?_) | refine ao_alloc' (next := ?_) | refine ao_box' (next := ?_) | refine ao_store (next := ?_) | refine ao_store_own (next := ?_) | refine ao_store_ownR (next := ?_) | refine ao_append_same (next := ?_) | refine ao_append_nil (next := ?_) | refine ao_append_new (next := ?_) | refine ao_mkErr (next := ?_) | refine ao_clip (next := ?_) | refine ao_store_arr (next := ?_) | ((first | (apply ao_op rfl rfl (.plain rfl ?_) ?_; rotate_left) | (apply ao_op rfl rfl (.guard rfl rfl rfl fun hg => ?_) ?_; rotate_right) | (apply ao_op rfl rfl (.guardw rfl rfl rfl fun hg => ?_) ?_; rotate_right)); (try (have hg2 := hg; simp only [reduceCtorEq, ne_eq, decs] at hg2)); (first | exact sop_cat | exact sop_slice_str lo i _ _ | (apply sop_callC (clone_s _ ?_) <;> first | exact sd) | exact sop_buildSlice (E := encS) | exact sop_std | exact sop_false (by revert hg; decide) | fail)))
    first | refine aend0 (by first | exact .inl rfl | exact .inr rfl) []  (by repeat (first | exact covL_nil | refine covL_dup rfl ?_ | refine covL_cons rfl rfl ?_)) ?_ | refine aend1 (by first | exact .inl rfl | exact .inr rfl) [] (by first | exact .tmp rfl | exact .cell rfl rfl rfl rfl rfl | exact .cellA rfl rfl rfl rfl rfl) (by repeat (first | exact covL_nil | refine covL_dup rfl ?_ | refine covL_cons rfl rfl ?_)) ?_ | refine aend2 (by first | exact .inl rfl | exact .inr rfl) [] (by first | exact .tmp rfl | exact .cell rfl rfl rfl rfl rfl | exact .cellA rfl rfl rfl rfl rfl) (by first | exact .tmp rfl | exact .cell rfl rfl rfl rfl rfl | exact .cellA rfl rfl rfl rfl rfl) (by repeat (first | exact covL_nil | refine covL_dup rfl ?_ | refine covL_cons rfl rfl ?_)) ?_ | refine aend3 (by first | exact .inl rfl | exact .inr rfl) [] (by first | exact .tmp rfl | exact .cell rfl rfl rfl rfl rfl | exact .cellA rfl rfl rfl rfl rfl) (by first | exact .tmp rfl | exact .cell rfl rfl rfl rfl rfl | exact .cellA rfl rfl rfl rfl rfl) (by first | exact .tmp rfl | exact .cell rfl rfl rfl rfl rfl | exact .cellA rfl rfl rfl rfl rfl) (by repeat (first | exact covL_nil | refine covL_dup rfl ?_ | refine covL_cons rfl rfl ?_)) ?_
    exact ⟨rfl, rfl⟩
  · have htu := take_u hi2
    obtain ⟨c1, c2, c3⟩ := stL_cur i (l.take i) (by rw [List.length_take]; omega)
    have hfr : frS (l ++ [32]) i = if (stL (l.take i)).2.length = 0 then -1 else (i : Int) - ((stL (l.take i)).2.length : Int) := by unfold frS; rw [htu]
    have c4 : (l.drop (i - (stL (l.take i)).2.length)).take (i - (i - (stL (l.take i)).2.length)) = (stL (l.take i)).2 := by
      rw [← List.drop_take]; exact c2
    by_cases hb0 : nth (l ++ [32]) i = 32
    · have hd := dec_blank hb0
      have e1 : (Utf8.decode (strOf (l ++ [32])) i).1 = 32 := by rw [hd]
      have e2 : (Utf8.decode (strOf (l ++ [32])) i).2 = 1 := by rw [hd]
      have hst := stL_take (l ++ [32]) i (by omega)
      have hw : wst (stL (l.take i)) 32 = (fin (stL (l.take i)), []) := rfl
      rw [hb0, htu, hw] at hst
      have hf2 : frS (l ++ [32]) (i + 1) = -1 := by unfold frS; rw [hst]; rfl
      rw [hfr, htu]
      by_cases hc : (stL (l.take i)).2.length = 0
      · rw [if_pos hc]
        have h1 : fin (stL (l.take i)) = (stL (l.take i)).1 := by unfold fin; rw [if_pos (List.eq_nil_of_length_eq_zero hc)]
        repeat' (first | refine a_frzOwn 11 1003 (h := ?_) | refine a_seq ?_ | refine ar_step ?_ | refine a_block ?_ | refine a_skip ?_ | refine a_exit ?_ | refine a_ret ?_ | refine a_label ?_ | refine a_scope ?_ | refine a_region ?_ | refine at_normal ?_ | refine at_exit ?_ | refine at_ret ?_ | refine ab_normal ?_ | refine ab_ret ?_ | refine ab_same ?_ | refine ab_other rfl ?_ | refine ao_nil ?_ | (refine a_cond rfl (fun hb => ?_) (fun hb => ?_) <;> (try simp only [reduceCtorEq, ne_eq, decs] at hb) <;> (try (exfalso; omega)) <;> (try exact (bool_ft hb (by assumption)).elim) <;> (try exact (bool_ft (by assumption) hb).elim)) | refine ao_range (next := ?_) | refine ao_next_more (next := ?_) | refine ao_next_over (next := ?_) | refine ao_alloc' (next := ?_) | refine ao_box' (next := ?_) | refine ao_store (next := ?_) | refine ao_store_own (next := ?_) | refine ao_store_ownR (next := ?_) | refine ao_append_same (next := ?_) | refine ao_append_nil (next := ?_) | refine ao_append_new (next := ?_) | refine ao_mkErr (next := ?_) | refine ao_clip (next := ?_) | refine ao_store_arr (next := ?_) | ((first | (apply ao_op rfl rfl (.plain rfl ?_) ?_; rotate_left) | (apply ao_op rfl rfl (.guard rfl rfl rfl fun hg => ?_) ?_; rotate_right) | (apply ao_op rfl rfl (.guardw rfl rfl rfl fun hg => ?_) ?_; rotate_right)); (try (have hg2 := hg; simp only [reduceCtorEq, ne_eq, decs] at hg2)); (first | exact sop_cat | exact sop_slice_str lo i _ _ | (apply sop_callC (clone_s _ ?_) <;> first | exact sd) | exact sop_buildSlice (E := encS) | exact sop_std | exact sop_false (by revert hg; decide) | fail)))
        refine ⟨i + (Utf8.decode (strOf (l ++ [32])) i).2, by omega, by omega, ?_⟩
        rw [e2, hst, hf2, h1]
        (refine ⟨?_, ?_⟩ <;> repeat (first | exact covL_nil | refine covL_dup rfl ?_ | refine covL_cons rfl rfl ?_ | refine covL_cons rfl (cov_int rfl (by omega)) ?_))
      · rw [if_neg hc]
        have h1 : fin (stL (l.take i)) = (stL (l.take i)).1 ++ [(stL (l.take i)).2] := by unfold fin; rw [if_neg (fun e => hc (by rw [e]; rfl))]
        have hcl : ((stL (l.take i)).2.length : Int) ≤ (i : Int) := by omega
        obtain ⟨lo, hlo⟩ : ∃ lo : Nat, (i : Int) - ((stL (l.take i)).2.length : Int) = (lo : Int) := ⟨i - (stL (l.take i)).2.length, by omega⟩
        have hlo2 : lo = i - (stL (l.take i)).2.length := by omega
        have hlen := congrArg List.length c4
        rw [← hlo2] at c4 hlen
        rw [hlo]
        repeat' (first | refine a_frzOwn 11 1003 (h := ?_) | refine a_seq ?_ | refine ar_step ?_ | refine a_block ?_ | refine a_skip ?_ | refine a_exit ?_ | refine a_ret ?_ | refine a_label ?_ | refine a_scope ?_ | refine a_region ?_ | refine at_normal ?_ | refine at_exit ?_ | refine at_ret ?_ | refine ab_normal ?_ | refine ab_ret ?_ | refine ab_same ?_ | refine ab_other rfl ?_ | refine ao_nil ?_ | (refine a_cond rfl (fun hb => ?_) (fun hb => ?_) <;> (try simp only [reduceCtorEq, ne_eq, decs] at hb) <;> (try (exfalso; omega)) <;> (try exact (bool_ft hb (by assumption)).elim) <;> (try exact (bool_ft (by assumption) hb).elim)) | refine ao_range (next := ?_) | refine ao_next_more (next := ?_) | refine ao_next_over (next := ?_) | refine ao_alloc' (next := ?_) | refine ao_box' (next := ?_) | refine ao_store (next := ?_) | refine ao_store_own (next := ?_) | refine ao_store_ownR (next := ?_) | refine ao_append_same (next := ?_) | refine ao_append_nil (next := ?_) | refine ao_append_new (next := ?_) | refine ao_mkErr (next := ?_) | refine ao_clip (next := ?_) | refine ao_store_arr (next := ?_) | ((first | (apply ao_op rfl rfl (.plain rfl ?_) ?_; rotate_left) | (apply ao_op rfl rfl (.guard rfl rfl rfl fun hg => ?_) ?_; rotate_right) | (apply ao_op rfl rfl (.guardw rfl rfl rfl fun hg => ?_) ?_; rotate_right)); (try (have hg2 := hg; simp only [reduceCtorEq, ne_eq, decs] at hg2)); (first | exact sop_cat | exact sop_slice_str lo i _ _ | (apply sop_callC (clone_s _ ?_) <;> first | exact sd) | exact sop_buildSlice (E := encS) | exact sop_std | exact sop_false (by revert hg; decide) | fail)))
        refine ⟨i + (Utf8.decode (strOf (l ++ [32])) i).2, by omega, by omega, ?_⟩
        rw [e2, hst, hf2, h1, ← c4]
        (refine ⟨?_, ?_⟩ <;> repeat (first | exact covL_nil | refine covL_dup rfl ?_ | refine covL_cons rfl rfl ?_ | refine covL_cons rfl (cov_int rfl (by omega)) ?_))
    · have hlt : i < l.length := by
        rcases nth_blank l hi2 with ⟨_, h⟩ | ⟨h, _⟩
        · exact absurd h hb0
        · exact h
      obtain ⟨d1, d2, d3, d4⟩ := dec_word hlt hb0
      have hst := stL_seg (l := l ++ [32]) (by omega) d4
      rw [htu] at hst
      have hsl : (((l ++ [32]).drop i).take (Utf8.decode (strOf (l ++ [32])) i).2).length = (Utf8.decode (strOf (l ++ [32])) i).2 := by rw [List.length_take, List.length_drop]; omega
      have hf2 : frS (l ++ [32]) (i + (Utf8.decode (strOf (l ++ [32])) i).2) = (i : Int) - ((stL (l.take i)).2.length : Int) := by
        unfold frS
        rw [hst]
        dsimp only
        rw [List.length_append, hsl, if_neg (by omega)]
        omega
      rw [hfr, htu]
      by_cases hc : (stL (l.take i)).2.length = 0
      · rw [if_pos hc]
        repeat' (first | refine a_frzOwn 11 1003 (h := ?_) | refine a_seq ?_ | refine ar_step ?_ | refine a_block ?_ | refine a_skip ?_ | refine a_exit ?_ | refine a_ret ?_ | refine a_label ?_ | refine a_scope ?_ | refine a_region ?_ | refine at_normal ?_ | refine at_exit ?_ | refine at_ret ?_ | refine ab_normal ?_ | refine ab_ret ?_ | refine ab_same ?_ | refine ab_other rfl ?_ | refine ao_nil ?_ | (refine a_cond rfl (fun hb => ?_) (fun hb => ?_) <;> (try simp only [reduceCtorEq, ne_eq, decs] at hb) <;> (try (exfalso; omega)) <;> (try exact (bool_ft hb (by assumption)).elim) <;> (try exact (bool_ft (by assumption) hb).elim)) | refine ao_range (next := ?_) | refine ao_next_more (next := ?_) | refine ao_next_over (next := ?_) | refine ao_alloc' (next := ?_) | refine ao_box' (next := ?_) | refine ao_store (next := ?_) | refine ao_store_own (next := ?_) | refine ao_store_ownR (next := ?_) | refine ao_append_same (next := ?_) | refine ao_append_nil (next := ?_) | refine ao_append_new (next := ?_) | refine ao_mkErr (next := ?_) | refine ao_clip (next := ?_) | refine ao_store_arr (next := ?_) | ((first | (apply ao_op rfl rfl (.plain rfl ?_) ?_; rotate_left) | (apply ao_op rfl rfl (.guard rfl rfl rfl fun hg => ?_) ?_; rotate_right) | (apply ao_op rfl rfl (.guardw rfl rfl rfl fun hg => ?_) ?_; rotate_right)); (try (have hg2 := hg; simp only [reduceCtorEq, ne_eq, decs] at hg2)); (first | exact sop_cat | exact sop_slice_str lo i _ _ | (apply sop_callC (clone_s _ ?_) <;> first | exact sd) | exact sop_buildSlice (E := encS) | exact sop_std | exact sop_false (by revert hg; decide) | fail)))
        refine ⟨i + (Utf8.decode (strOf (l ++ [32])) i).2, by omega, by omega, ?_⟩
        rw [hst, hf2]
        (refine ⟨?_, ?_⟩ <;> repeat (first | exact covL_nil | refine covL_dup rfl ?_ | refine covL_cons rfl rfl ?_ | refine covL_cons rfl (cov_int rfl (by omega)) ?_))
      · rw [if_neg hc]
        repeat' (first | refine a_frzOwn 11 1003 (h := ?_) | refine a_seq ?_ | refine ar_step ?_ | refine a_block ?_ | refine a_skip ?_ | refine a_exit ?_ | refine a_ret ?_ | refine a_label ?_ | refine a_scope ?_ | refine a_region ?_ | refine at_normal ?_ | refine at_exit ?_ | refine at_ret ?_ | refine ab_normal ?_ | refine ab_ret ?_ | refine ab_same ?_ | refine ab_other rfl ?_ | refine ao_nil ?_ | (refine a_cond rfl (fun hb => ?_) (fun hb => ?_) <;> (try simp only [reduceCtorEq, ne_eq, decs] at hb) <;> (try (exfalso; omega)) <;> (try exact (bool_ft hb (by assumption)).elim) <;> (try exact (bool_ft (by assumption) hb).elim)) | refine ao_range (next := ?_) | refine ao_next_more (next := ?_) | refine ao_next_over (next := ?_) | refine ao_alloc' (next := ?_) | refine ao_box' (next := ?_) | refine ao_store (next := ?_) | refine ao_store_own (next := ?_) | refine ao_store_ownR (next := ?_) | refine ao_append_same (next := ?_) | refine ao_append_nil (next := ?_) | refine ao_append_new (next := ?_) | refine ao_mkErr (next := ?_) | refine ao_clip (next := ?_) | refine ao_store_arr (next := ?_) | ((first | (apply ao_op rfl rfl (.plain rfl ?_) ?_; rotate_left) | (apply ao_op rfl rfl (.guard rfl rfl rfl fun hg => ?_) ?_; rotate_right) | (apply ao_op rfl rfl (.guardw rfl rfl rfl fun hg => ?_) ?_; rotate_right)); (try (have hg2 := hg; simp only [reduceCtorEq, ne_eq, decs] at hg2)); (first | exact sop_cat | exact sop_slice_str lo i _ _ | (apply sop_callC (clone_s _ ?_) <;> first | exact sd) | exact sop_buildSlice (E := encS) | exact sop_std | exact sop_false (by revert hg; decide) | fail)))
        refine ⟨i + (Utf8.decode (strOf (l ++ [32])) i).2, by omega, by omega, ?_⟩
        rw [hst, hf2]
        (refine ⟨?_, ?_⟩ <;> repeat (first | exact covL_nil | refine covL_dup rfl ?_ | refine covL_cons rfl rfl ?_ | refine covL_cons rfl (cov_int rfl (by omega)) ?_))
end Go.Proofs.YtgiicfjibngooaaDoor
