/- TallyLines, walked. -/
import Derived.Test.YtgcihcpojjifmaaDoorU11
namespace Go.Proofs.YtgcihcpojjifmaaDoor
open Go Go.RowKit
set_option linter.unusedVariables false
set_option linter.unusedSimpArgs false

def encS : Enc (List UInt8) := ⟨1, fun l => [.lit (.string (strOf l))], fun _ => rfl, fun _ => rfl, fun _ => rfl, fun c => match c with
  | [.lit (.string s)] => s.data.toList
  | _ => default⟩
def NM : List (List UInt8) := [[115, 104, 101, 108, 102], [230, 151, 165, 230, 156, 172, 232, 170, 158], [195, 132, 114, 103, 101, 114, 95, 57], [120], [206, 177, 206, 178, 206, 179, 206, 180, 206, 181, 206, 182, 206, 183, 206, 184, 206, 185, 206, 186, 206, 187, 206, 188]]
theorem nm_all : ∀ k : Fin 5, mayL (nth NM k.val) = true ∧ (nth NM k.val).length ≤ 100 := by decide +kernel
theorem low_bd0 (x : Int) {n : Int} (h : 1 ≤ n) : 0 ≤ low x n ∧ low x n < n := ⟨Int.emod_nonneg _ (by omega), Int.emod_lt_of_pos _ (by omega)⟩
set_option maxRecDepth 10000 in
set_option maxHeartbeats 400000 in
theorem low0_con (x n : Int) (hn : 1 ≤ n) (hn2 : n ≤ 9223372036854775807) : Con Tryd.prog 16 [.lit (.int .i64 x), .lit (.int .i64 n)] [] (fun az hz => az = .lit (.int .i64 (low x n)) ∧ hz = []) := by
  refine con_of hT Tryd.func16 rfl rfl rfl rfl rfl rfl ?_
  intro c
  have hT := hT
  have hZ := hZ
  have hb := low_bd0 x hn
  unfold low at hb
  repeat' (first | refine a_seq ?_ | refine ar_step ?_ | refine a_block ?_ | refine a_skip ?_ | refine a_exit ?_ | refine a_ret ?_ | refine a_label ?_ | refine a_scope ?_ | refine a_region ?_ | refine at_normal ?_ | refine at_exit ?_ | refine at_ret ?_ | refine ab_normal ?_ | refine ab_ret ?_ | refine ab_same ?_ | refine ab_other rfl ?_ | refine ao_nil ?_ | (refine a_cond rfl (fun hb => ?_) (fun hb => ?_) <;> (try simp only [reduceCtorEq, bne_self_eq_false, not_true_eq_false, not_false_eq_true, or_self, and_false, false_and, or_true, true_or, or_false, false_or, and_true, true_and, and_self, decide_eq_true_eq, decide_eq_false_iff_not, Bool.and_eq_true, Bool.or_eq_true, Bool.or_eq_false_iff, Bool.and_eq_false_iff, Bool.not_eq_true', Bool.not_eq_false', Bool.not_true, Bool.not_false, ne_eq, Classical.not_not, Nat.not_lt, Int.not_lt, Int.not_le] at hb) <;> (try (exfalso; omega)) <;> (try exact (bool_ft hb (by assumption)).elim) <;> (try exact (bool_ft (by assumption) hb).elim)) | refine ao_alloc' (next := ?_) | refine ao_box' (next := ?_) | refine ao_store (next := ?_) | refine ao_store_own (next := ?_) | refine ao_store_ownR (next := ?_) | refine ao_append_same (next := ?_) | refine ao_append_nil (next := ?_) | refine ao_append_new (next := ?_) | refine ao_mkErr (next := ?_) | refine ao_clip (next := ?_) | refine ao_store_arr (next := ?_) | ((first | (apply ao_op rfl rfl (.plain rfl ?_) ?_; rotate_left)); (first | exact sop_std | fail)))
  first | refine aend0 (by first | exact .inl rfl | exact .inr rfl) []  (by repeat (first | exact covL_nil | refine covL_dup rfl ?_ | refine covL_cons rfl rfl ?_)) ?_ | refine aend1 (by first | exact .inl rfl | exact .inr rfl) [] (by first | exact .tmp rfl | exact .cell rfl rfl rfl rfl rfl | exact .cellA rfl rfl rfl rfl rfl) (by repeat (first | exact covL_nil | refine covL_dup rfl ?_ | refine covL_cons rfl rfl ?_)) ?_ | refine aend2 (by first | exact .inl rfl | exact .inr rfl) [] (by first | exact .tmp rfl | exact .cell rfl rfl rfl rfl rfl | exact .cellA rfl rfl rfl rfl rfl) (by first | exact .tmp rfl | exact .cell rfl rfl rfl rfl rfl | exact .cellA rfl rfl rfl rfl rfl) (by repeat (first | exact covL_nil | refine covL_dup rfl ?_ | refine covL_cons rfl rfl ?_)) ?_ | refine aend3 (by first | exact .inl rfl | exact .inr rfl) [] (by first | exact .tmp rfl | exact .cell rfl rfl rfl rfl rfl | exact .cellA rfl rfl rfl rfl rfl) (by first | exact .tmp rfl | exact .cell rfl rfl rfl rfl rfl | exact .cellA rfl rfl rfl rfl rfl) (by first | exact .tmp rfl | exact .cell rfl rfl rfl rfl rfl | exact .cellA rfl rfl rfl rfl rfl) (by repeat (first | exact covL_nil | refine covL_dup rfl ?_ | refine covL_cons rfl rfl ?_)) ?_
  exact ⟨rfl, rfl⟩
set_option maxRecDepth 10000 in
set_option maxHeartbeats 2000000 in
theorem lines_con (wh d0 mo c0 li co : Int) : Con Tryd.prog 4 [.lit (.int .i64 wh), .lit (.int .i64 d0), .lit (.int .i64 mo), .lit (.int .i64 c0), .lit (.int .i64 li), .lit (.int .i64 co)] [] (fun az hz => az = .lit (.bool (true)) ∧ hz = []) := by
  refine con_of hT Tryd.func4 rfl rfl rfl rfl rfl rfl ?_
  intro c
  have hT := hT
  have hZ := hZ
  have q0 := low_bd0 wh (n := 5) (by decide)
  have q1 := low_bd0 d0 (n := 10000) (by decide)
  have q2 := low_bd0 c0 (n := 10000) (by decide)
  have q3 := low_bd0 li (n := 10000) (by decide)
  have q4 := low_bd0 co (n := 171) (by decide)
  have q5 := low_bd0 mo (n := 100) (by decide)
  have l0 := low0_con wh 5 (by decide) (by decide)
  have l1 := low0_con d0 10000 (by decide) (by decide)
  have l2 := low0_con c0 10000 (by decide) (by decide)
  have l3 := low0_con li 10000 (by decide) (by decide)
  have l4 := low0_con co 171 (by decide) (by decide)
  have l5 := low0_con mo 100 (by decide) (by decide)
  generalize low wh 5 = kk at *
  generalize low d0 10000 = d at *
  generalize low c0 10000 = c1 at *
  generalize low li 10000 = m at *
  generalize low co 171 = w at *
  generalize low mo 100 = a at *
  have hnm := nm_all ⟨kk.toNat, by omega⟩
  dsimp only at hnm
  have hok : okL (nth NM kk.toNat) d c1 (1 + m) (30 + w) = true := (okL_iff _ _ _ _ _).2 ⟨⟨⟨⟨⟨hnm.1, (inB_iff _).2 (by omega)⟩, (inB_iff _).2 (by omega)⟩, (inB_iff _).2 (by omega)⟩, by omega⟩, by omega⟩
  have e1 := line_cols hok
  have c4 := line_con (nth NM kk.toNat) d c1 (1 + m) (30 + w) (by omega) (by omega) (by omega) (by omega)
  have hll := line_len (nth NM kk.toNat) d c1 (1 + m) (30 + w)
  have e2 : lineL (nth NM kk.toNat) d c1 (1 + m) (30 + w) = lineT (nth NM kk.toNat) d c1 (1 + m) (30 + w) := by unfold lineL; rw [if_pos hok]
  rw [e2] at c4 hll
  have c5 := tcols_con (lineT (nth NM kk.toNat) d c1 (1 + m) (30 + w)) (Nat.le_trans hll (by decide))
  rw [e1] at c5
  have k1 := full_con (barL d (1 + m) (30 + w)) (Nat.le_trans (barL_len _ _ _) (by decide))
  have k2 := full_con (barL (d + a) (1 + m) (30 + w)) (Nat.le_trans (barL_len _ _ _) (by decide))
  have k3 := full_con (barL (1 + m) (1 + m) (30 + w)) (Nat.le_trans (barL_len _ _ _) (by decide))
  have k4 := full_con (barL 0 (1 + m) (30 + w)) (Nat.le_trans (barL_len _ _ _) (by decide))
  rw [bar_cnt (by omega) (by omega)] at k1 k2 k3 k4
  have p3 : pctS (1 + m) (1 + m) = 100 := by
    unfold pctS
    rw [if_neg (by omega), if_pos (Int.le_refl _)]
  have p4 : pctS 0 (1 + m) = 0 := by
    unfold pctS
    rw [if_neg (by omega), if_neg (by omega)]
    simp
  have pm := pct_mono (n := d) (k := d + a) (of := 1 + m) (by omega) (by omega)
  have pw : (30 + w) * pctS d (1 + m) / 100 ≤ (30 + w) * pctS (d + a) (1 + m) / 100 := Int.ediv_le_ediv (by omega) (Int.mul_le_mul_of_nonneg_left pm (by omega))
  have p3w : (30 + w) * pctS (1 + m) (1 + m) / 100 = 30 + w := by rw [p3]; omega
  have p4w : (30 + w) * pctS 0 (1 + m) / 100 = 0 := by rw [p4]; simp
  revert c4 c5
  generalize lineT (nth NM kk.toNat) d c1 (1 + m) (30 + w) = tt
  intro c4 c5
  repeat' (first | refine a_seq ?_ | refine ar_step ?_ | refine a_block ?_ | refine a_skip ?_ | refine a_exit ?_ | refine a_ret ?_ | refine a_label ?_ | refine a_scope ?_ | refine a_region ?_ | refine a_region_U' rfl (by kernel_rfl) (by kernel_rfl) (by kernel_rfl) (by kernel_rfl) (by assumption) (by assumption) rfl ?_ | refine a_region_tailN rfl rfl (by kernel_rfl) (by kernel_rfl) (by kernel_rfl) (by kernel_rfl) (by assumption) rfl rfl ?_ | refine a_region_tailA rfl rfl (by kernel_rfl) (by kernel_rfl) (by kernel_rfl) (by kernel_rfl) (by assumption) rfl rfl rfl ?_ | refine a_region_tail rfl (by kernel_rfl) (by kernel_rfl) (by kernel_rfl) (by kernel_rfl) ?_ | refine a_region_tailR rfl (by kernel_rfl) (by kernel_rfl) (by kernel_rfl) (by kernel_rfl) ?_ | refine a_region_any (by kernel_rfl) (by kernel_rfl) (by kernel_rfl) ?_ | refine at_normal ?_ | refine at_exit ?_ | refine at_ret ?_ | refine ab_normal ?_ | refine ab_ret ?_ | refine ab_same ?_ | refine ab_other rfl ?_ | refine ao_nil ?_ | refine EvK.nil ?_ | refine EvU.nil ?_ | refine EvU.alloc rfl rfl ?_ | refine EvU.store rfl rfl rfl rfl rfl (by first | exact .un rfl (by first | assumption | exact And.left (by assumption)) | exact .of rfl) rfl rfl rfl rfl rfl ?_ | refine tailA_k rfl rfl ?_ | refine tailA_k trivial rfl ?_ | refine tailA_k trivial (by kernel_rfl) ?_ | (refine a_cond rfl (fun hb => ?_) (fun hb => ?_) <;> (try simp only [reduceCtorEq, bne_self_eq_false, not_true_eq_false, not_false_eq_true, or_self, and_false, false_and, or_true, true_or, or_false, false_or, and_true, true_and, and_self, decide_eq_true_eq, decide_eq_false_iff_not, Bool.and_eq_true, Bool.or_eq_true, Bool.or_eq_false_iff, Bool.and_eq_false_iff, Bool.not_eq_true', Bool.not_eq_false', Bool.not_true, Bool.not_false, ne_eq, Classical.not_not, Nat.not_lt, Int.not_lt, Int.not_le] at hb) <;> (try (exfalso; omega)) <;> (try exact (bool_ft hb (by assumption)).elim) <;> (try exact (bool_ft (by assumption) hb).elim)) | refine ao_alloc' (next := ?_) | refine ao_box' (next := ?_) | refine ao_store (next := ?_) | refine ao_store_own (next := ?_) | refine ao_store_ownR (next := ?_) | refine ao_append_same (next := ?_) | refine ao_append_nil (next := ?_) | refine ao_append_new (next := ?_) | refine ao_mkErr (next := ?_) | refine ao_clip (next := ?_) | refine ao_store_arr (next := ?_) | ((first | (apply ao_op rfl rfl (.plain rfl ?_) ?_; rotate_left) | (apply EvK.cons rfl (.plain rfl ?_) ?_; rotate_left) | (apply EvU.plain rfl rfl rfl ?_ ?_; rotate_left) | (apply ao_op rfl rfl (.guard rfl rfl rfl fun hg => ?_) ?_; rotate_right) | (apply ao_op rfl rfl (.guardw rfl rfl rfl fun hg => ?_) ?_; rotate_right) | (apply EvK.cons rfl (.guard rfl rfl rfl fun hg => ?_) ?_; rotate_right) | (apply EvK.cons rfl (.guardw rfl rfl rfl fun hg => ?_) ?_; rotate_right)); (try (have hg2 := hg; simp only [reduceCtorEq, bne_self_eq_false, not_true_eq_false, not_false_eq_true, or_self, and_false, false_and, or_true, true_or, or_false, false_or, and_true, true_and, and_self, decide_eq_true_eq, decide_eq_false_iff_not, Bool.and_eq_true, Bool.or_eq_true, Bool.or_eq_false_iff, Bool.and_eq_false_iff, Bool.not_eq_true', Bool.not_eq_false', Bool.not_true, Bool.not_false, ne_eq, Classical.not_not, Nat.not_lt, Int.not_lt, Int.not_le] at hg2)); (first | (apply sop_callC (awake_con) <;> first | exact sd) | (apply sop_callCM (l0) <;> first | exact sd) | (apply sop_callCM (l1) <;> first | exact sd) | (apply sop_callCM (l2) <;> first | exact sd) | (apply sop_callCM (l3) <;> first | exact sd) | (apply sop_callCM (l4) <;> first | exact sd) | (apply sop_callCM (l5) <;> first | exact sd) | (apply sop_callC (c4) <;> first | exact sd) | (apply sop_callC (c5) <;> first | exact sd) | (apply sop_callCM (k1) <;> first | exact sd) | (apply sop_callCM (k2) <;> first | exact sd) | (apply sop_callCM (k3) <;> first | exact sd) | (apply sop_callCM (k4) <;> first | exact sd) | (apply sop_callC (bar_con _ _ ?_ ?_ _) <;> first | exact sd) | (apply sop_callC (percent_con _ _ ?_ ?_) <;> first | exact sd) | exact sop_buildSlice (E := encS) | exact sop_std | exact sop_false (by revert hg; decide) | fail)))
  first | refine aend0 (by first | exact .inl rfl | exact .inr rfl) []  (by repeat (first | exact covL_nil | refine covL_dup rfl ?_ | refine covL_cons rfl rfl ?_)) ?_ | refine aend1 (by first | exact .inl rfl | exact .inr rfl) [] (by first | exact .tmp rfl | exact .cell rfl rfl rfl rfl rfl | exact .cellA rfl rfl rfl rfl rfl) (by repeat (first | exact covL_nil | refine covL_dup rfl ?_ | refine covL_cons rfl rfl ?_)) ?_ | refine aend2 (by first | exact .inl rfl | exact .inr rfl) [] (by first | exact .tmp rfl | exact .cell rfl rfl rfl rfl rfl | exact .cellA rfl rfl rfl rfl rfl) (by first | exact .tmp rfl | exact .cell rfl rfl rfl rfl rfl | exact .cellA rfl rfl rfl rfl rfl) (by repeat (first | exact covL_nil | refine covL_dup rfl ?_ | refine covL_cons rfl rfl ?_)) ?_ | refine aend3 (by first | exact .inl rfl | exact .inr rfl) [] (by first | exact .tmp rfl | exact .cell rfl rfl rfl rfl rfl | exact .cellA rfl rfl rfl rfl rfl) (by first | exact .tmp rfl | exact .cell rfl rfl rfl rfl rfl | exact .cellA rfl rfl rfl rfl rfl) (by first | exact .tmp rfl | exact .cell rfl rfl rfl rfl rfl | exact .cellA rfl rfl rfl rfl rfl) (by repeat (first | exact covL_nil | refine covL_dup rfl ?_ | refine covL_cons rfl rfl ?_)) ?_
  refine ⟨congrArg (fun b => AV.lit (.bool b)) ?_, rfl⟩
  rw [decide_eq_true pw, decide_eq_true p3w, decide_eq_true p4w, decide_eq_true pm]
  simp
end Go.Proofs.YtgcihcpojjifmaaDoor
