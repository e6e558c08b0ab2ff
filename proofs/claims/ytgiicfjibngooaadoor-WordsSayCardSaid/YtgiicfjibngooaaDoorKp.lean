/- WordsSay, walked. -/
import Derived.Test.YtgiicfjibngooaaDoorKo
namespace Go.Proofs.YtgiicfjibngooaaDoor
open Go Go.RowKit
set_option linter.unusedVariables false
set_option linter.unusedSimpArgs false
attribute [local irreducible] ACode AOps AThen ABlock ACut
set_option maxRecDepth 10000 in
set_option maxHeartbeats 2000000 in
theorem words_say_dirty (oa : Nat) (od : List UInt8) (om : Int) (ha : oa < 18446744073709551616) (hm : -9223372036854775808 ≤ om ∧ om ≤ 9223372036854775807) (hol : od.length ≤ 400) : Con Tryd.prog 4 [.agg [.lit (.int .i64 1), .lit (.int .u64 (oa : Int)), .snap (slF encU od), .lit (.int .i64 om)]] [] (fun az hz => az = .lit (.bool (true)) ∧ hz = []) := by
  refine con_of hT Tryd.func4 rfl rfl rfl rfl rfl rfl ?_
  intro c
  have hT := hT
  have hZ := hZ
  have hA : okA (Cmd.dirty oa od) := ⟨ha, by omega⟩
  have ec : cmdO ⟨1, oa, od, om⟩ = (Cmd.dirty oa od) := rfl
  have h1 := make_snap 1 oa od om
  rw [ec] at h1
  have h2 := say_con (Cmd.dirty oa od) hA
  have h3 := order_dirtyO oa od (by omega)
  have h4 := as_con ⟨1, oa, od, om⟩
  rw [asO_cmd, ec] at h4
  have h5 := rsay_c (Cmd.dirty oa od) hA
  have h6 := same_o (ordC (Cmd.dirty oa od)) (ordC (Cmd.dirty oa od)) (by show od.length ≤ _; omega) (by show od.length ≤ _; omega)
  rw [decide_eq_true rfl] at h6
  have h7 := num_con (sayE (Cmd.dirty oa od)) (by unfold sayE; split <;> omega)
  simp only [ordA, ordC] at h4 h5 h6
  generalize sayS (Cmd.dirty oa od) = ss at *
  generalize sayE (Cmd.dirty oa od) = ee at *
  repeat' (first | refine a_seq ?_ | refine ar_step ?_ | refine a_block ?_ | refine a_skip ?_ | refine a_exit ?_ | refine a_ret ?_ | refine a_label ?_ | refine a_scope ?_ | refine a_region ?_ | refine rU (ev := ?_) | refine rN (ev := ?_) | refine rA (ev := ?_) | refine rT (ev := ?_) | refine rR (ev := ?_) | refine rO (ev := ?_) | refine at_normal ?_ | refine at_exit ?_ | refine at_ret ?_ | refine ab_normal ?_ | refine ab_ret ?_ | refine ab_same ?_ | refine ab_other rfl ?_ | refine ao_nil ?_ | refine EvK.nil ?_ | refine EvU.nil ?_ | refine EvU.alloc rfl rfl ?_ | refine EvU.store rfl rfl rfl rfl rfl (by first | exact .un rfl (by first | assumption | exact And.left (by assumption)) | exact .of rfl) rfl rfl rfl rfl rfl ?_ | refine tailA_k rfl rfl ?_ | refine tailA_k trivial rfl ?_ | refine tailA_k trivial (by kernel_rfl) ?_ | (refine a_cond rfl (fun hb => ?_) (fun hb => ?_) <;> (try simp only [reduceCtorEq, ne_eq, decs] at hb) <;> (try (exfalso; omega)) <;> (try exact (bool_ft hb (by assumption)).elim) <;> (try exact (bool_ft (by assumption) hb).elim)) | (apply ao_callR [(1020, 1027)] (h3) <;> first | exact sd0 | assumption | rfl | refine aops_id ?_) | (apply ao_callR [(1020, 1080)] (h3) <;> first | exact sd0 | assumption | rfl | refine aops_id ?_) | refine ao_drop 77 1006 ?_ | (apply ao_callX (over_b _ ?_) <;> first | exact sd0 | skip) | refine ao_alloc' (next := ?_) | refine ao_box' (next := ?_) | refine ao_store (next := ?_) | refine ao_store_own (next := ?_) | refine ao_store_ownR (next := ?_) | refine ao_append_same (next := ?_) | refine ao_append_nil (next := ?_) | refine ao_append_new (next := ?_) | refine ao_mkErr (next := ?_) | refine ao_clip (next := ?_) | refine ao_store_arr (next := ?_) | ((first | (apply ao_op rfl rfl (.plain rfl ?_) ?_; rotate_left) | (apply EvK.cons rfl (.plain rfl ?_) ?_; rotate_left) | (apply EvU.plain rfl rfl rfl ?_ ?_; rotate_left) | (apply ao_op rfl rfl (.guard rfl rfl rfl fun hg => ?_) ?_; rotate_right) | (apply ao_op rfl rfl (.guardw rfl rfl rfl fun hg => ?_) ?_; rotate_right) | (apply EvK.cons rfl (.guard rfl rfl rfl fun hg => ?_) ?_; rotate_right) | (apply EvK.cons rfl (.guardw rfl rfl rfl fun hg => ?_) ?_; rotate_right)); (first | exact sop_falseL (by first | (revert hg; decide) | (simp at hg; done) | fail) | ((try (have hg2 := hg; simp only [reduceCtorEq, ne_eq, decs] at hg2)); (first | (apply sop_callC (awake_con) <;> first | exact sd) | (apply sop_callNM (h1) <;> first | exact sd) | (apply sop_callNM (h2) <;> first | exact sd) | (apply sop_callNM (h4) <;> first | exact sd) | (apply sop_callNM (h5) <;> first | exact sd) | (apply sop_callA (h6) <;> first | exact sd) | (apply sop_callC (h7) <;> first | exact sd) | exact sop_eqn_if | exact sop_eql_str | exact sop_std | exact sop_false (by revert hg; decide) | fail)) | fail)))
  first | refine aend0 (by first | exact .inl rfl | exact .inr rfl) []  (by repeat (first | exact covL_nil | refine covL_dup rfl ?_ | refine covL_cons rfl rfl ?_)) ?_ | refine aend1 (by first | exact .inl rfl | exact .inr rfl) [] (by first | exact .tmp rfl | exact .cell rfl rfl rfl rfl rfl | exact .cellA rfl rfl rfl rfl rfl) (by repeat (first | exact covL_nil | refine covL_dup rfl ?_ | refine covL_cons rfl rfl ?_)) ?_ | refine aend2 (by first | exact .inl rfl | exact .inr rfl) [] (by first | exact .tmp rfl | exact .cell rfl rfl rfl rfl rfl | exact .cellA rfl rfl rfl rfl rfl) (by first | exact .tmp rfl | exact .cell rfl rfl rfl rfl rfl | exact .cellA rfl rfl rfl rfl rfl) (by repeat (first | exact covL_nil | refine covL_dup rfl ?_ | refine covL_cons rfl rfl ?_)) ?_ | refine aend3 (by first | exact .inl rfl | exact .inr rfl) [] (by first | exact .tmp rfl | exact .cell rfl rfl rfl rfl rfl | exact .cellA rfl rfl rfl rfl rfl) (by first | exact .tmp rfl | exact .cell rfl rfl rfl rfl rfl | exact .cellA rfl rfl rfl rfl rfl) (by first | exact .tmp rfl | exact .cell rfl rfl rfl rfl rfl | exact .cellA rfl rfl rfl rfl rfl) (by repeat (first | exact covL_nil | refine covL_dup rfl ?_ | refine covL_cons rfl rfl ?_)) ?_
  refine ⟨congrArg (fun b => AV.lit (.bool b)) ?_, rfl⟩
  simp
set_option maxRecDepth 10000 in
set_option maxHeartbeats 2000000 in
theorem words_say_fill (oa : Nat) (od : List UInt8) (om : Int) (ha : oa < 18446744073709551616) (hm : -9223372036854775808 ≤ om ∧ om ≤ 9223372036854775807) (hol : od.length ≤ 400) : Con Tryd.prog 4 [.agg [.lit (.int .i64 2), .lit (.int .u64 (oa : Int)), .snap (slF encU od), .lit (.int .i64 om)]] [] (fun az hz => az = .lit (.bool (true)) ∧ hz = []) := by
  refine con_of hT Tryd.func4 rfl rfl rfl rfl rfl rfl ?_
  intro c
  have hT := hT
  have hZ := hZ
  have hA : okA (Cmd.fill oa od) := ⟨ha, by omega⟩
  have ec : cmdO ⟨2, oa, od, om⟩ = (Cmd.fill oa od) := rfl
  have h1 := make_snap 2 oa od om
  rw [ec] at h1
  have h2 := say_con (Cmd.fill oa od) hA
  have h3 := order_fillO oa od (by omega)
  have h4 := as_con ⟨2, oa, od, om⟩
  rw [asO_cmd, ec] at h4
  have h5 := rsay_c (Cmd.fill oa od) hA
  have h6 := same_o (ordC (Cmd.fill oa od)) (ordC (Cmd.fill oa od)) (by show od.length ≤ _; omega) (by show od.length ≤ _; omega)
  rw [decide_eq_true rfl] at h6
  have h7 := num_con (sayE (Cmd.fill oa od)) (by unfold sayE; split <;> omega)
  simp only [ordA, ordC] at h4 h5 h6
  generalize sayS (Cmd.fill oa od) = ss at *
  generalize sayE (Cmd.fill oa od) = ee at *
  repeat' (first | refine a_seq ?_ | refine ar_step ?_ | refine a_block ?_ | refine a_skip ?_ | refine a_exit ?_ | refine a_ret ?_ | refine a_label ?_ | refine a_scope ?_ | refine a_region ?_ | refine rU (ev := ?_) | refine rN (ev := ?_) | refine rA (ev := ?_) | refine rT (ev := ?_) | refine rR (ev := ?_) | refine rO (ev := ?_) | refine at_normal ?_ | refine at_exit ?_ | refine at_ret ?_ | refine ab_normal ?_ | refine ab_ret ?_ | refine ab_same ?_ | refine ab_other rfl ?_ | refine ao_nil ?_ | refine EvK.nil ?_ | refine EvU.nil ?_ | refine EvU.alloc rfl rfl ?_ | refine EvU.store rfl rfl rfl rfl rfl (by first | exact .un rfl (by first | assumption | exact And.left (by assumption)) | exact .of rfl) rfl rfl rfl rfl rfl ?_ | refine tailA_k rfl rfl ?_ | refine tailA_k trivial rfl ?_ | refine tailA_k trivial (by kernel_rfl) ?_ | (refine a_cond rfl (fun hb => ?_) (fun hb => ?_) <;> (try simp only [reduceCtorEq, ne_eq, decs] at hb) <;> (try (exfalso; omega)) <;> (try exact (bool_ft hb (by assumption)).elim) <;> (try exact (bool_ft (by assumption) hb).elim)) | (apply ao_callR [(1030, 1027)] (h3) <;> first | exact sd0 | assumption | rfl | refine aops_id ?_) | (apply ao_callR [(1030, 1080)] (h3) <;> first | exact sd0 | assumption | rfl | refine aops_id ?_) | refine ao_drop 77 1006 ?_ | (apply ao_callX (over_b _ ?_) <;> first | exact sd0 | skip) | refine ao_alloc' (next := ?_) | refine ao_box' (next := ?_) | refine ao_store (next := ?_) | refine ao_store_own (next := ?_) | refine ao_store_ownR (next := ?_) | refine ao_append_same (next := ?_) | refine ao_append_nil (next := ?_) | refine ao_append_new (next := ?_) | refine ao_mkErr (next := ?_) | refine ao_clip (next := ?_) | refine ao_store_arr (next := ?_) | ((first | (apply ao_op rfl rfl (.plain rfl ?_) ?_; rotate_left) | (apply EvK.cons rfl (.plain rfl ?_) ?_; rotate_left) | (apply EvU.plain rfl rfl rfl ?_ ?_; rotate_left) | (apply ao_op rfl rfl (.guard rfl rfl rfl fun hg => ?_) ?_; rotate_right) | (apply ao_op rfl rfl (.guardw rfl rfl rfl fun hg => ?_) ?_; rotate_right) | (apply EvK.cons rfl (.guard rfl rfl rfl fun hg => ?_) ?_; rotate_right) | (apply EvK.cons rfl (.guardw rfl rfl rfl fun hg => ?_) ?_; rotate_right)); (first | exact sop_falseL (by first | (revert hg; decide) | (simp at hg; done) | fail) | ((try (have hg2 := hg; simp only [reduceCtorEq, ne_eq, decs] at hg2)); (first | (apply sop_callC (awake_con) <;> first | exact sd) | (apply sop_callNM (h1) <;> first | exact sd) | (apply sop_callNM (h2) <;> first | exact sd) | (apply sop_callNM (h4) <;> first | exact sd) | (apply sop_callNM (h5) <;> first | exact sd) | (apply sop_callA (h6) <;> first | exact sd) | (apply sop_callC (h7) <;> first | exact sd) | exact sop_eqn_if | exact sop_eql_str | exact sop_std | exact sop_false (by revert hg; decide) | fail)) | fail)))
  first | refine aend0 (by first | exact .inl rfl | exact .inr rfl) []  (by repeat (first | exact covL_nil | refine covL_dup rfl ?_ | refine covL_cons rfl rfl ?_)) ?_ | refine aend1 (by first | exact .inl rfl | exact .inr rfl) [] (by first | exact .tmp rfl | exact .cell rfl rfl rfl rfl rfl | exact .cellA rfl rfl rfl rfl rfl) (by repeat (first | exact covL_nil | refine covL_dup rfl ?_ | refine covL_cons rfl rfl ?_)) ?_ | refine aend2 (by first | exact .inl rfl | exact .inr rfl) [] (by first | exact .tmp rfl | exact .cell rfl rfl rfl rfl rfl | exact .cellA rfl rfl rfl rfl rfl) (by first | exact .tmp rfl | exact .cell rfl rfl rfl rfl rfl | exact .cellA rfl rfl rfl rfl rfl) (by repeat (first | exact covL_nil | refine covL_dup rfl ?_ | refine covL_cons rfl rfl ?_)) ?_ | refine aend3 (by first | exact .inl rfl | exact .inr rfl) [] (by first | exact .tmp rfl | exact .cell rfl rfl rfl rfl rfl | exact .cellA rfl rfl rfl rfl rfl) (by first | exact .tmp rfl | exact .cell rfl rfl rfl rfl rfl | exact .cellA rfl rfl rfl rfl rfl) (by first | exact .tmp rfl | exact .cell rfl rfl rfl rfl rfl | exact .cellA rfl rfl rfl rfl rfl) (by repeat (first | exact covL_nil | refine covL_dup rfl ?_ | refine covL_cons rfl rfl ?_)) ?_
  refine ⟨congrArg (fun b => AV.lit (.bool b)) ?_, rfl⟩
  simp
set_option maxRecDepth 10000 in
set_option maxHeartbeats 2000000 in
theorem words_say_rd (oa : Nat) (od : List UInt8) (om : Int) (ha : oa < 18446744073709551616) (hm : -9223372036854775808 ≤ om ∧ om ≤ 9223372036854775807) (hol : od.length ≤ 400) : Con Tryd.prog 4 [.agg [.lit (.int .i64 3), .lit (.int .u64 (oa : Int)), .snap (slF encU od), .lit (.int .i64 om)]] [] (fun az hz => az = .lit (.bool (true)) ∧ hz = []) := by
  refine con_of hT Tryd.func4 rfl rfl rfl rfl rfl rfl ?_
  intro c
  have hT := hT
  have hZ := hZ
  have hA : okA (Cmd.rd oa) := ha
  have ec : cmdO ⟨3, oa, od, om⟩ = (Cmd.rd oa) := rfl
  have h1 := make_snap 3 oa od om
  rw [ec] at h1
  have h2 := say_con (Cmd.rd oa) hA
  have h3 := order_rd0 oa
  have h4 := as_con ⟨3, oa, od, om⟩
  rw [asO_cmd, ec] at h4
  have h5 := rsay_c (Cmd.rd oa) hA
  have h6 := same_o (ordC (Cmd.rd oa)) (ordC (Cmd.rd oa)) (by show ([] : List UInt8).length ≤ _; simp) (by show ([] : List UInt8).length ≤ _; simp)
  rw [decide_eq_true rfl] at h6
  have h7 := num_con (sayE (Cmd.rd oa)) (by unfold sayE; split <;> omega)
  simp only [ordA, ordC] at h4 h5 h6
  generalize sayS (Cmd.rd oa) = ss at *
  generalize sayE (Cmd.rd oa) = ee at *
  repeat' (first | refine a_seq ?_ | refine ar_step ?_ | refine a_block ?_ | refine a_skip ?_ | refine a_exit ?_ | refine a_ret ?_ | refine a_label ?_ | refine a_scope ?_ | refine a_region ?_ | refine rU (ev := ?_) | refine rN (ev := ?_) | refine rA (ev := ?_) | refine rT (ev := ?_) | refine rR (ev := ?_) | refine rO (ev := ?_) | refine at_normal ?_ | refine at_exit ?_ | refine at_ret ?_ | refine ab_normal ?_ | refine ab_ret ?_ | refine ab_same ?_ | refine ab_other rfl ?_ | refine ao_nil ?_ | refine EvK.nil ?_ | refine EvU.nil ?_ | refine EvU.alloc rfl rfl ?_ | refine EvU.store rfl rfl rfl rfl rfl (by first | exact .un rfl (by first | assumption | exact And.left (by assumption)) | exact .of rfl) rfl rfl rfl rfl rfl ?_ | refine tailA_k rfl rfl ?_ | refine tailA_k trivial rfl ?_ | refine tailA_k trivial (by kernel_rfl) ?_ | (refine a_cond rfl (fun hb => ?_) (fun hb => ?_) <;> (try simp only [reduceCtorEq, ne_eq, decs] at hb) <;> (try (exfalso; omega)) <;> (try exact (bool_ft hb (by assumption)).elim) <;> (try exact (bool_ft (by assumption) hb).elim)) | refine ao_alloc' (next := ?_) | refine ao_box' (next := ?_) | refine ao_store (next := ?_) | refine ao_store_own (next := ?_) | refine ao_store_ownR (next := ?_) | refine ao_append_same (next := ?_) | refine ao_append_nil (next := ?_) | refine ao_append_new (next := ?_) | refine ao_mkErr (next := ?_) | refine ao_clip (next := ?_) | refine ao_store_arr (next := ?_) | ((first | (apply ao_op rfl rfl (.plain rfl ?_) ?_; rotate_left) | (apply EvK.cons rfl (.plain rfl ?_) ?_; rotate_left) | (apply EvU.plain rfl rfl rfl ?_ ?_; rotate_left) | (apply ao_op rfl rfl (.guard rfl rfl rfl fun hg => ?_) ?_; rotate_right) | (apply ao_op rfl rfl (.guardw rfl rfl rfl fun hg => ?_) ?_; rotate_right) | (apply EvK.cons rfl (.guard rfl rfl rfl fun hg => ?_) ?_; rotate_right) | (apply EvK.cons rfl (.guardw rfl rfl rfl fun hg => ?_) ?_; rotate_right)); (first | exact sop_falseL (by first | (revert hg; decide) | (simp at hg; done) | fail) | ((try (have hg2 := hg; simp only [reduceCtorEq, ne_eq, decs] at hg2)); (first | (apply sop_callC (awake_con) <;> first | exact sd) | (apply sop_callNM (h1) <;> first | exact sd) | (apply sop_callNM (h2) <;> first | exact sd) | (apply sop_callNM (h3) <;> first | exact sd) | (apply sop_callNM (overb_nil) <;> first | exact sd) | (apply sop_callNM (h4) <;> first | exact sd) | (apply sop_callNM (h5) <;> first | exact sd) | (apply sop_callA (h6) <;> first | exact sd) | (apply sop_callC (h7) <;> first | exact sd) | exact sop_eqn_if | exact sop_eql_str | exact sop_std | exact sop_false (by revert hg; decide) | fail)) | fail)))
  first | refine aend0 (by first | exact .inl rfl | exact .inr rfl) []  (by repeat (first | exact covL_nil | refine covL_dup rfl ?_ | refine covL_cons rfl rfl ?_)) ?_ | refine aend1 (by first | exact .inl rfl | exact .inr rfl) [] (by first | exact .tmp rfl | exact .cell rfl rfl rfl rfl rfl | exact .cellA rfl rfl rfl rfl rfl) (by repeat (first | exact covL_nil | refine covL_dup rfl ?_ | refine covL_cons rfl rfl ?_)) ?_ | refine aend2 (by first | exact .inl rfl | exact .inr rfl) [] (by first | exact .tmp rfl | exact .cell rfl rfl rfl rfl rfl | exact .cellA rfl rfl rfl rfl rfl) (by first | exact .tmp rfl | exact .cell rfl rfl rfl rfl rfl | exact .cellA rfl rfl rfl rfl rfl) (by repeat (first | exact covL_nil | refine covL_dup rfl ?_ | refine covL_cons rfl rfl ?_)) ?_ | refine aend3 (by first | exact .inl rfl | exact .inr rfl) [] (by first | exact .tmp rfl | exact .cell rfl rfl rfl rfl rfl | exact .cellA rfl rfl rfl rfl rfl) (by first | exact .tmp rfl | exact .cell rfl rfl rfl rfl rfl | exact .cellA rfl rfl rfl rfl rfl) (by first | exact .tmp rfl | exact .cell rfl rfl rfl rfl rfl | exact .cellA rfl rfl rfl rfl rfl) (by repeat (first | exact covL_nil | refine covL_dup rfl ?_ | refine covL_cons rfl rfl ?_)) ?_
  refine ⟨congrArg (fun b => AV.lit (.bool b)) ?_, rfl⟩
  simp
set_option maxRecDepth 10000 in
set_option maxHeartbeats 2000000 in
theorem words_say_evict (oa : Nat) (od : List UInt8) (om : Int) (ha : oa < 18446744073709551616) (hm : -9223372036854775808 ≤ om ∧ om ≤ 9223372036854775807) (hol : od.length ≤ 400) : Con Tryd.prog 4 [.agg [.lit (.int .i64 4), .lit (.int .u64 (oa : Int)), .snap (slF encU od), .lit (.int .i64 om)]] [] (fun az hz => az = .lit (.bool (true)) ∧ hz = []) := by
  refine con_of hT Tryd.func4 rfl rfl rfl rfl rfl rfl ?_
  intro c
  have hT := hT
  have hZ := hZ
  have hA : okA (Cmd.evict oa) := ha
  have ec : cmdO ⟨4, oa, od, om⟩ = (Cmd.evict oa) := rfl
  have h1 := make_snap 4 oa od om
  rw [ec] at h1
  have h2 := say_con (Cmd.evict oa) hA
  have h3 := order_evict0 oa
  have h4 := as_con ⟨4, oa, od, om⟩
  rw [asO_cmd, ec] at h4
  have h5 := rsay_c (Cmd.evict oa) hA
  have h6 := same_o (ordC (Cmd.evict oa)) (ordC (Cmd.evict oa)) (by show ([] : List UInt8).length ≤ _; simp) (by show ([] : List UInt8).length ≤ _; simp)
  rw [decide_eq_true rfl] at h6
  have h7 := num_con (sayE (Cmd.evict oa)) (by unfold sayE; split <;> omega)
  simp only [ordA, ordC] at h4 h5 h6
  generalize sayS (Cmd.evict oa) = ss at *
  generalize sayE (Cmd.evict oa) = ee at *
  repeat' (first | refine a_seq ?_ | refine ar_step ?_ | refine a_block ?_ | refine a_skip ?_ | refine a_exit ?_ | refine a_ret ?_ | refine a_label ?_ | refine a_scope ?_ | refine a_region ?_ | refine rU (ev := ?_) | refine rN (ev := ?_) | refine rA (ev := ?_) | refine rT (ev := ?_) | refine rR (ev := ?_) | refine rO (ev := ?_) | refine at_normal ?_ | refine at_exit ?_ | refine at_ret ?_ | refine ab_normal ?_ | refine ab_ret ?_ | refine ab_same ?_ | refine ab_other rfl ?_ | refine ao_nil ?_ | refine EvK.nil ?_ | refine EvU.nil ?_ | refine EvU.alloc rfl rfl ?_ | refine EvU.store rfl rfl rfl rfl rfl (by first | exact .un rfl (by first | assumption | exact And.left (by assumption)) | exact .of rfl) rfl rfl rfl rfl rfl ?_ | refine tailA_k rfl rfl ?_ | refine tailA_k trivial rfl ?_ | refine tailA_k trivial (by kernel_rfl) ?_ | (refine a_cond rfl (fun hb => ?_) (fun hb => ?_) <;> (try simp only [reduceCtorEq, ne_eq, decs] at hb) <;> (try (exfalso; omega)) <;> (try exact (bool_ft hb (by assumption)).elim) <;> (try exact (bool_ft (by assumption) hb).elim)) | refine ao_alloc' (next := ?_) | refine ao_box' (next := ?_) | refine ao_store (next := ?_) | refine ao_store_own (next := ?_) | refine ao_store_ownR (next := ?_) | refine ao_append_same (next := ?_) | refine ao_append_nil (next := ?_) | refine ao_append_new (next := ?_) | refine ao_mkErr (next := ?_) | refine ao_clip (next := ?_) | refine ao_store_arr (next := ?_) | ((first | (apply ao_op rfl rfl (.plain rfl ?_) ?_; rotate_left) | (apply EvK.cons rfl (.plain rfl ?_) ?_; rotate_left) | (apply EvU.plain rfl rfl rfl ?_ ?_; rotate_left) | (apply ao_op rfl rfl (.guard rfl rfl rfl fun hg => ?_) ?_; rotate_right) | (apply ao_op rfl rfl (.guardw rfl rfl rfl fun hg => ?_) ?_; rotate_right) | (apply EvK.cons rfl (.guard rfl rfl rfl fun hg => ?_) ?_; rotate_right) | (apply EvK.cons rfl (.guardw rfl rfl rfl fun hg => ?_) ?_; rotate_right)); (first | exact sop_falseL (by first | (revert hg; decide) | (simp at hg; done) | fail) | ((try (have hg2 := hg; simp only [reduceCtorEq, ne_eq, decs] at hg2)); (first | (apply sop_callC (awake_con) <;> first | exact sd) | (apply sop_callNM (h1) <;> first | exact sd) | (apply sop_callNM (h2) <;> first | exact sd) | (apply sop_callNM (h3) <;> first | exact sd) | (apply sop_callNM (overb_nil) <;> first | exact sd) | (apply sop_callNM (h4) <;> first | exact sd) | (apply sop_callNM (h5) <;> first | exact sd) | (apply sop_callA (h6) <;> first | exact sd) | (apply sop_callC (h7) <;> first | exact sd) | exact sop_eqn_if | exact sop_eql_str | exact sop_std | exact sop_false (by revert hg; decide) | fail)) | fail)))
  first | refine aend0 (by first | exact .inl rfl | exact .inr rfl) []  (by repeat (first | exact covL_nil | refine covL_dup rfl ?_ | refine covL_cons rfl rfl ?_)) ?_ | refine aend1 (by first | exact .inl rfl | exact .inr rfl) [] (by first | exact .tmp rfl | exact .cell rfl rfl rfl rfl rfl | exact .cellA rfl rfl rfl rfl rfl) (by repeat (first | exact covL_nil | refine covL_dup rfl ?_ | refine covL_cons rfl rfl ?_)) ?_ | refine aend2 (by first | exact .inl rfl | exact .inr rfl) [] (by first | exact .tmp rfl | exact .cell rfl rfl rfl rfl rfl | exact .cellA rfl rfl rfl rfl rfl) (by first | exact .tmp rfl | exact .cell rfl rfl rfl rfl rfl | exact .cellA rfl rfl rfl rfl rfl) (by repeat (first | exact covL_nil | refine covL_dup rfl ?_ | refine covL_cons rfl rfl ?_)) ?_ | refine aend3 (by first | exact .inl rfl | exact .inr rfl) [] (by first | exact .tmp rfl | exact .cell rfl rfl rfl rfl rfl | exact .cellA rfl rfl rfl rfl rfl) (by first | exact .tmp rfl | exact .cell rfl rfl rfl rfl rfl | exact .cellA rfl rfl rfl rfl rfl) (by first | exact .tmp rfl | exact .cell rfl rfl rfl rfl rfl | exact .cellA rfl rfl rfl rfl rfl) (by repeat (first | exact covL_nil | refine covL_dup rfl ?_ | refine covL_cons rfl rfl ?_)) ?_
  refine ⟨congrArg (fun b => AV.lit (.bool b)) ?_, rfl⟩
  simp
set_option maxRecDepth 10000 in
set_option maxHeartbeats 2000000 in
theorem words_say_clean (oa : Nat) (od : List UInt8) (om : Int) (ha : oa < 18446744073709551616) (hm : -9223372036854775808 ≤ om ∧ om ≤ 9223372036854775807) (hol : od.length ≤ 400) : Con Tryd.prog 4 [.agg [.lit (.int .i64 5), .lit (.int .u64 (oa : Int)), .snap (slF encU od), .lit (.int .i64 om)]] [] (fun az hz => az = .lit (.bool (true)) ∧ hz = []) := by
  refine con_of hT Tryd.func4 rfl rfl rfl rfl rfl rfl ?_
  intro c
  have hT := hT
  have hZ := hZ
  have hA : okA (Cmd.clean oa) := ha
  have ec : cmdO ⟨5, oa, od, om⟩ = (Cmd.clean oa) := rfl
  have h1 := make_snap 5 oa od om
  rw [ec] at h1
  have h2 := say_con (Cmd.clean oa) hA
  have h3 := order_clean0 oa
  have h4 := as_con ⟨5, oa, od, om⟩
  rw [asO_cmd, ec] at h4
  have h5 := rsay_c (Cmd.clean oa) hA
  have h6 := same_o (ordC (Cmd.clean oa)) (ordC (Cmd.clean oa)) (by show ([] : List UInt8).length ≤ _; simp) (by show ([] : List UInt8).length ≤ _; simp)
  rw [decide_eq_true rfl] at h6
  have h7 := num_con (sayE (Cmd.clean oa)) (by unfold sayE; split <;> omega)
  simp only [ordA, ordC] at h4 h5 h6
  generalize sayS (Cmd.clean oa) = ss at *
  generalize sayE (Cmd.clean oa) = ee at *
  repeat' (first | refine a_seq ?_ | refine ar_step ?_ | refine a_block ?_ | refine a_skip ?_ | refine a_exit ?_ | refine a_ret ?_ | refine a_label ?_ | refine a_scope ?_ | refine a_region ?_ | refine rU (ev := ?_) | refine rN (ev := ?_) | refine rA (ev := ?_) | refine rT (ev := ?_) | refine rR (ev := ?_) | refine rO (ev := ?_) | refine at_normal ?_ | refine at_exit ?_ | refine at_ret ?_ | refine ab_normal ?_ | refine ab_ret ?_ | refine ab_same ?_ | refine ab_other rfl ?_ | refine ao_nil ?_ | refine EvK.nil ?_ | refine EvU.nil ?_ | refine EvU.alloc rfl rfl ?_ | refine EvU.store rfl rfl rfl rfl rfl (by first | exact .un rfl (by first | assumption | exact And.left (by assumption)) | exact .of rfl) rfl rfl rfl rfl rfl ?_ | refine tailA_k rfl rfl ?_ | refine tailA_k trivial rfl ?_ | refine tailA_k trivial (by kernel_rfl) ?_ | (refine a_cond rfl (fun hb => ?_) (fun hb => ?_) <;> (try simp only [reduceCtorEq, ne_eq, decs] at hb) <;> (try (exfalso; omega)) <;> (try exact (bool_ft hb (by assumption)).elim) <;> (try exact (bool_ft (by assumption) hb).elim)) | refine ao_alloc' (next := ?_) | refine ao_box' (next := ?_) | refine ao_store (next := ?_) | refine ao_store_own (next := ?_) | refine ao_store_ownR (next := ?_) | refine ao_append_same (next := ?_) | refine ao_append_nil (next := ?_) | refine ao_append_new (next := ?_) | refine ao_mkErr (next := ?_) | refine ao_clip (next := ?_) | refine ao_store_arr (next := ?_) | ((first | (apply ao_op rfl rfl (.plain rfl ?_) ?_; rotate_left) | (apply EvK.cons rfl (.plain rfl ?_) ?_; rotate_left) | (apply EvU.plain rfl rfl rfl ?_ ?_; rotate_left) | (apply ao_op rfl rfl (.guard rfl rfl rfl fun hg => ?_) ?_; rotate_right) | (apply ao_op rfl rfl (.guardw rfl rfl rfl fun hg => ?_) ?_; rotate_right) | (apply EvK.cons rfl (.guard rfl rfl rfl fun hg => ?_) ?_; rotate_right) | (apply EvK.cons rfl (.guardw rfl rfl rfl fun hg => ?_) ?_; rotate_right)); (first | exact sop_falseL (by first | (revert hg; decide) | (simp at hg; done) | fail) | ((try (have hg2 := hg; simp only [reduceCtorEq, ne_eq, decs] at hg2)); (first | (apply sop_callC (awake_con) <;> first | exact sd) | (apply sop_callNM (h1) <;> first | exact sd) | (apply sop_callNM (h2) <;> first | exact sd) | (apply sop_callNM (h3) <;> first | exact sd) | (apply sop_callNM (overb_nil) <;> first | exact sd) | (apply sop_callNM (h4) <;> first | exact sd) | (apply sop_callNM (h5) <;> first | exact sd) | (apply sop_callA (h6) <;> first | exact sd) | (apply sop_callC (h7) <;> first | exact sd) | exact sop_eqn_if | exact sop_eql_str | exact sop_std | exact sop_false (by revert hg; decide) | fail)) | fail)))
  first | refine aend0 (by first | exact .inl rfl | exact .inr rfl) []  (by repeat (first | exact covL_nil | refine covL_dup rfl ?_ | refine covL_cons rfl rfl ?_)) ?_ | refine aend1 (by first | exact .inl rfl | exact .inr rfl) [] (by first | exact .tmp rfl | exact .cell rfl rfl rfl rfl rfl | exact .cellA rfl rfl rfl rfl rfl) (by repeat (first | exact covL_nil | refine covL_dup rfl ?_ | refine covL_cons rfl rfl ?_)) ?_ | refine aend2 (by first | exact .inl rfl | exact .inr rfl) [] (by first | exact .tmp rfl | exact .cell rfl rfl rfl rfl rfl | exact .cellA rfl rfl rfl rfl rfl) (by first | exact .tmp rfl | exact .cell rfl rfl rfl rfl rfl | exact .cellA rfl rfl rfl rfl rfl) (by repeat (first | exact covL_nil | refine covL_dup rfl ?_ | refine covL_cons rfl rfl ?_)) ?_ | refine aend3 (by first | exact .inl rfl | exact .inr rfl) [] (by first | exact .tmp rfl | exact .cell rfl rfl rfl rfl rfl | exact .cellA rfl rfl rfl rfl rfl) (by first | exact .tmp rfl | exact .cell rfl rfl rfl rfl rfl | exact .cellA rfl rfl rfl rfl rfl) (by first | exact .tmp rfl | exact .cell rfl rfl rfl rfl rfl | exact .cellA rfl rfl rfl rfl rfl) (by repeat (first | exact covL_nil | refine covL_dup rfl ?_ | refine covL_cons rfl rfl ?_)) ?_
  refine ⟨congrArg (fun b => AV.lit (.bool b)) ?_, rfl⟩
  simp
set_option maxRecDepth 10000 in
set_option maxHeartbeats 2000000 in
theorem words_say_exi (oa : Nat) (od : List UInt8) (om : Int) (ha : oa < 18446744073709551616) (hm : -9223372036854775808 ≤ om ∧ om ≤ 9223372036854775807) (hol : od.length ≤ 400) : Con Tryd.prog 4 [.agg [.lit (.int .i64 6), .lit (.int .u64 (oa : Int)), .snap (slF encU od), .lit (.int .i64 om)]] [] (fun az hz => az = .lit (.bool (true)) ∧ hz = []) := by
  refine con_of hT Tryd.func4 rfl rfl rfl rfl rfl rfl ?_
  intro c
  have hT := hT
  have hZ := hZ
  have hA : okA (Cmd.exi oa om) := ⟨ha, hm⟩
  have ec : cmdO ⟨6, oa, od, om⟩ = (Cmd.exi oa om) := rfl
  have h1 := make_snap 6 oa od om
  rw [ec] at h1
  have h2 := say_con (Cmd.exi oa om) hA
  have h3 := order_exi0 oa om
  have h4 := as_con ⟨6, oa, od, om⟩
  rw [asO_cmd, ec] at h4
  have h5 := rsay_c (Cmd.exi oa om) hA
  have h6 := same_o (ordC (Cmd.exi oa om)) (ordC (Cmd.exi oa om)) (by show ([] : List UInt8).length ≤ _; simp) (by show ([] : List UInt8).length ≤ _; simp)
  rw [decide_eq_true rfl] at h6
  have h7 := num_con (sayE (Cmd.exi oa om)) (by unfold sayE; split <;> omega)
  simp only [ordA, ordC] at h4 h5 h6
  generalize sayS (Cmd.exi oa om) = ss at *
  generalize sayE (Cmd.exi oa om) = ee at *
  repeat' (first | refine a_seq ?_ | refine ar_step ?_ | refine a_block ?_ | refine a_skip ?_ | refine a_exit ?_ | refine a_ret ?_ | refine a_label ?_ | refine a_scope ?_ | refine a_region ?_ | refine rU (ev := ?_) | refine rN (ev := ?_) | refine rA (ev := ?_) | refine rT (ev := ?_) | refine rR (ev := ?_) | refine rO (ev := ?_) | refine at_normal ?_ | refine at_exit ?_ | refine at_ret ?_ | refine ab_normal ?_ | refine ab_ret ?_ | refine ab_same ?_ | refine ab_other rfl ?_ | refine ao_nil ?_ | refine EvK.nil ?_ | refine EvU.nil ?_ | refine EvU.alloc rfl rfl ?_ | refine EvU.store rfl rfl rfl rfl rfl (by first | exact .un rfl (by first | assumption | exact And.left (by assumption)) | exact .of rfl) rfl rfl rfl rfl rfl ?_ | refine tailA_k rfl rfl ?_ | refine tailA_k trivial rfl ?_ | refine tailA_k trivial (by kernel_rfl) ?_ | (refine a_cond rfl (fun hb => ?_) (fun hb => ?_) <;> (try simp only [reduceCtorEq, ne_eq, decs] at hb) <;> (try (exfalso; omega)) <;> (try exact (bool_ft hb (by assumption)).elim) <;> (try exact (bool_ft (by assumption) hb).elim)) | refine ao_alloc' (next := ?_) | refine ao_box' (next := ?_) | refine ao_store (next := ?_) | refine ao_store_own (next := ?_) | refine ao_store_ownR (next := ?_) | refine ao_append_same (next := ?_) | refine ao_append_nil (next := ?_) | refine ao_append_new (next := ?_) | refine ao_mkErr (next := ?_) | refine ao_clip (next := ?_) | refine ao_store_arr (next := ?_) | ((first | (apply ao_op rfl rfl (.plain rfl ?_) ?_; rotate_left) | (apply EvK.cons rfl (.plain rfl ?_) ?_; rotate_left) | (apply EvU.plain rfl rfl rfl ?_ ?_; rotate_left) | (apply ao_op rfl rfl (.guard rfl rfl rfl fun hg => ?_) ?_; rotate_right) | (apply ao_op rfl rfl (.guardw rfl rfl rfl fun hg => ?_) ?_; rotate_right) | (apply EvK.cons rfl (.guard rfl rfl rfl fun hg => ?_) ?_; rotate_right) | (apply EvK.cons rfl (.guardw rfl rfl rfl fun hg => ?_) ?_; rotate_right)); (first | exact sop_falseL (by first | (revert hg; decide) | (simp at hg; done) | fail) | ((try (have hg2 := hg; simp only [reduceCtorEq, ne_eq, decs] at hg2)); (first | (apply sop_callC (awake_con) <;> first | exact sd) | (apply sop_callNM (h1) <;> first | exact sd) | (apply sop_callNM (h2) <;> first | exact sd) | (apply sop_callNM (h3) <;> first | exact sd) | (apply sop_callNM (overb_nil) <;> first | exact sd) | (apply sop_callNM (h4) <;> first | exact sd) | (apply sop_callNM (h5) <;> first | exact sd) | (apply sop_callA (h6) <;> first | exact sd) | (apply sop_callC (h7) <;> first | exact sd) | exact sop_eqn_if | exact sop_eql_str | exact sop_std | exact sop_false (by revert hg; decide) | fail)) | fail)))
  first | refine aend0 (by first | exact .inl rfl | exact .inr rfl) []  (by repeat (first | exact covL_nil | refine covL_dup rfl ?_ | refine covL_cons rfl rfl ?_)) ?_ | refine aend1 (by first | exact .inl rfl | exact .inr rfl) [] (by first | exact .tmp rfl | exact .cell rfl rfl rfl rfl rfl | exact .cellA rfl rfl rfl rfl rfl) (by repeat (first | exact covL_nil | refine covL_dup rfl ?_ | refine covL_cons rfl rfl ?_)) ?_ | refine aend2 (by first | exact .inl rfl | exact .inr rfl) [] (by first | exact .tmp rfl | exact .cell rfl rfl rfl rfl rfl | exact .cellA rfl rfl rfl rfl rfl) (by first | exact .tmp rfl | exact .cell rfl rfl rfl rfl rfl | exact .cellA rfl rfl rfl rfl rfl) (by repeat (first | exact covL_nil | refine covL_dup rfl ?_ | refine covL_cons rfl rfl ?_)) ?_ | refine aend3 (by first | exact .inl rfl | exact .inr rfl) [] (by first | exact .tmp rfl | exact .cell rfl rfl rfl rfl rfl | exact .cellA rfl rfl rfl rfl rfl) (by first | exact .tmp rfl | exact .cell rfl rfl rfl rfl rfl | exact .cellA rfl rfl rfl rfl rfl) (by first | exact .tmp rfl | exact .cell rfl rfl rfl rfl rfl | exact .cellA rfl rfl rfl rfl rfl) (by repeat (first | exact covL_nil | refine covL_dup rfl ?_ | refine covL_cons rfl rfl ?_)) ?_
  refine ⟨congrArg (fun b => AV.lit (.bool b)) ?_, rfl⟩
  simp
set_option maxRecDepth 10000 in
set_option maxHeartbeats 2000000 in
theorem words_say_no (ok : Int) (oa : Nat) (od : List UInt8) (om : Int) (ha : oa < 18446744073709551616) (hm : -9223372036854775808 ≤ om ∧ om ≤ 9223372036854775807) (hol : od.length ≤ 400) (hk : ¬ (ok = 1 ∨ ok = 2 ∨ ok = 3 ∨ ok = 4 ∨ ok = 5 ∨ ok = 6)) : Con Tryd.prog 4 [.agg [.lit (.int .i64 ok), .lit (.int .u64 (oa : Int)), .snap (slF encU od), .lit (.int .i64 om)]] [] (fun az hz => az = .lit (.bool (true)) ∧ hz = []) := by
  refine con_of hT Tryd.func4 rfl rfl rfl rfl rfl rfl ?_
  intro c
  have hT := hT
  have hZ := hZ
  have ec : cmdO ⟨ok, oa, od, om⟩ = .no := by unfold cmdO; simp only; repeat (rw [if_neg (by omega)])
  have h1 := make_snap ok oa od om
  rw [ec] at h1
  have h1 : Con Tryd.prog 16 [.agg [.lit (.int .i64 ok), .lit (.int .u64 (oa : Int)), .snap (slF encU od), .lit (.int .i64 om)]] [] (fun az hz => az = .lit .nilIface ∧ hz = []) := h1
  have h2 := say_no
  have h3 := order_no0
  have h6 := same_o ⟨0, 0, [], 0⟩ ⟨0, 0, [], 0⟩ (by simp) (by simp)
  rw [decide_eq_true rfl] at h6
  have h7 := num_con 2 (by decide)
  simp only [ordA] at h6
  repeat' (first | refine a_seq ?_ | refine ar_step ?_ | refine a_block ?_ | refine a_skip ?_ | refine a_exit ?_ | refine a_ret ?_ | refine a_label ?_ | refine a_scope ?_ | refine a_region ?_ | refine rU (ev := ?_) | refine rN (ev := ?_) | refine rA (ev := ?_) | refine rT (ev := ?_) | refine rR (ev := ?_) | refine rO (ev := ?_) | refine at_normal ?_ | refine at_exit ?_ | refine at_ret ?_ | refine ab_normal ?_ | refine ab_ret ?_ | refine ab_same ?_ | refine ab_other rfl ?_ | refine ao_nil ?_ | refine EvK.nil ?_ | refine EvU.nil ?_ | refine EvU.alloc rfl rfl ?_ | refine EvU.store rfl rfl rfl rfl rfl (by first | exact .un rfl (by first | assumption | exact And.left (by assumption)) | exact .of rfl) rfl rfl rfl rfl rfl ?_ | refine tailA_k rfl rfl ?_ | refine tailA_k trivial rfl ?_ | refine tailA_k trivial (by kernel_rfl) ?_ | (refine a_cond rfl (fun hb => ?_) (fun hb => ?_) <;> (try simp only [reduceCtorEq, ne_eq, decs] at hb) <;> (try (exfalso; omega)) <;> (try exact (bool_ft hb (by assumption)).elim) <;> (try exact (bool_ft (by assumption) hb).elim)) | refine ao_alloc' (next := ?_) | refine ao_box' (next := ?_) | refine ao_store (next := ?_) | refine ao_store_own (next := ?_) | refine ao_store_ownR (next := ?_) | refine ao_append_same (next := ?_) | refine ao_append_nil (next := ?_) | refine ao_append_new (next := ?_) | refine ao_mkErr (next := ?_) | refine ao_clip (next := ?_) | refine ao_store_arr (next := ?_) | ((first | (apply ao_op rfl rfl (.plain rfl ?_) ?_; rotate_left) | (apply EvK.cons rfl (.plain rfl ?_) ?_; rotate_left) | (apply EvU.plain rfl rfl rfl ?_ ?_; rotate_left) | (apply ao_op rfl rfl (.guard rfl rfl rfl fun hg => ?_) ?_; rotate_right) | (apply ao_op rfl rfl (.guardw rfl rfl rfl fun hg => ?_) ?_; rotate_right) | (apply EvK.cons rfl (.guard rfl rfl rfl fun hg => ?_) ?_; rotate_right) | (apply EvK.cons rfl (.guardw rfl rfl rfl fun hg => ?_) ?_; rotate_right)); (first | exact sop_falseL (by first | (revert hg; decide) | (simp at hg; done) | fail) | ((try (have hg2 := hg; simp only [reduceCtorEq, ne_eq, decs] at hg2)); (first | (apply sop_callC (awake_con) <;> first | exact sd) | (apply sop_callNM (h1) <;> first | exact sd) | (apply sop_callNM (h2) <;> first | exact sd) | (apply sop_callNM (h3) <;> first | exact sd) | (apply sop_callA (h6) <;> first | exact sd) | (apply sop_callC (h7) <;> first | exact sd) | exact sop_eqn_if | exact sop_eql_str | exact sop_std | exact sop_false (by revert hg; decide) | fail)) | fail)))
  first | refine aend0 (by first | exact .inl rfl | exact .inr rfl) []  (by repeat (first | exact covL_nil | refine covL_dup rfl ?_ | refine covL_cons rfl rfl ?_)) ?_ | refine aend1 (by first | exact .inl rfl | exact .inr rfl) [] (by first | exact .tmp rfl | exact .cell rfl rfl rfl rfl rfl | exact .cellA rfl rfl rfl rfl rfl) (by repeat (first | exact covL_nil | refine covL_dup rfl ?_ | refine covL_cons rfl rfl ?_)) ?_ | refine aend2 (by first | exact .inl rfl | exact .inr rfl) [] (by first | exact .tmp rfl | exact .cell rfl rfl rfl rfl rfl | exact .cellA rfl rfl rfl rfl rfl) (by first | exact .tmp rfl | exact .cell rfl rfl rfl rfl rfl | exact .cellA rfl rfl rfl rfl rfl) (by repeat (first | exact covL_nil | refine covL_dup rfl ?_ | refine covL_cons rfl rfl ?_)) ?_ | refine aend3 (by first | exact .inl rfl | exact .inr rfl) [] (by first | exact .tmp rfl | exact .cell rfl rfl rfl rfl rfl | exact .cellA rfl rfl rfl rfl rfl) (by first | exact .tmp rfl | exact .cell rfl rfl rfl rfl rfl | exact .cellA rfl rfl rfl rfl rfl) (by first | exact .tmp rfl | exact .cell rfl rfl rfl rfl rfl | exact .cellA rfl rfl rfl rfl rfl) (by repeat (first | exact covL_nil | refine covL_dup rfl ?_ | refine covL_cons rfl rfl ?_)) ?_
  refine ⟨congrArg (fun b => AV.lit (.bool b)) ?_, rfl⟩
  decide
set_option maxRecDepth 10000 in
set_option maxHeartbeats 400000 in
theorem words_say_big (ok : Int) (oa : Nat) (od : List UInt8) (om : Int) (hol : ¬ od.length ≤ 400) (hol2 : od.length ≤ 9223372036854775807) : Con Tryd.prog 4 [.agg [.lit (.int .i64 ok), .lit (.int .u64 (oa : Int)), .snap (slF encU od), .lit (.int .i64 om)]] [] (fun az hz => az = .lit (.bool (true)) ∧ hz = []) := by
  refine con_of hT Tryd.func4 rfl rfl rfl rfl rfl rfl ?_
  intro c
  have hT := hT
  have hZ := hZ
  repeat' (first | refine a_seq ?_ | refine ar_step ?_ | refine a_block ?_ | refine a_skip ?_ | refine a_exit ?_ | refine a_ret ?_ | refine a_label ?_ | refine a_scope ?_ | refine a_region ?_ | refine rU (ev := ?_) | refine rN (ev := ?_) | refine rA (ev := ?_) | refine rT (ev := ?_) | refine rR (ev := ?_) | refine rO (ev := ?_) | refine at_normal ?_ | refine at_exit ?_ | refine at_ret ?_ | refine ab_normal ?_ | refine ab_ret ?_ | refine ab_same ?_ | refine ab_other rfl ?_ | refine ao_nil ?_ | refine EvK.nil ?_ | refine EvU.nil ?_ | refine EvU.alloc rfl rfl ?_ | refine EvU.store rfl rfl rfl rfl rfl (by first | exact .un rfl (by first | assumption | exact And.left (by assumption)) | exact .of rfl) rfl rfl rfl rfl rfl ?_ | refine tailA_k rfl rfl ?_ | refine tailA_k trivial rfl ?_ | refine tailA_k trivial (by kernel_rfl) ?_ | (refine a_cond rfl (fun hb => ?_) (fun hb => ?_) <;> (try simp only [reduceCtorEq, ne_eq, decs] at hb) <;> (try (exfalso; omega)) <;> (try exact (bool_ft hb (by assumption)).elim) <;> (try exact (bool_ft (by assumption) hb).elim)) | refine ao_alloc' (next := ?_) | refine ao_box' (next := ?_) | refine ao_store (next := ?_) | refine ao_store_own (next := ?_) | refine ao_store_ownR (next := ?_) | refine ao_append_same (next := ?_) | refine ao_append_nil (next := ?_) | refine ao_append_new (next := ?_) | refine ao_mkErr (next := ?_) | refine ao_clip (next := ?_) | refine ao_store_arr (next := ?_) | ((first | (apply ao_op rfl rfl (.plain rfl ?_) ?_; rotate_left) | (apply EvK.cons rfl (.plain rfl ?_) ?_; rotate_left) | (apply EvU.plain rfl rfl rfl ?_ ?_; rotate_left) | (apply ao_op rfl rfl (.guard rfl rfl rfl fun hg => ?_) ?_; rotate_right) | (apply ao_op rfl rfl (.guardw rfl rfl rfl fun hg => ?_) ?_; rotate_right) | (apply EvK.cons rfl (.guard rfl rfl rfl fun hg => ?_) ?_; rotate_right) | (apply EvK.cons rfl (.guardw rfl rfl rfl fun hg => ?_) ?_; rotate_right)); (first | exact sop_falseL (by first | (revert hg; decide) | (simp at hg; done) | fail) | ((try (have hg2 := hg; simp only [reduceCtorEq, ne_eq, decs] at hg2)); (first | (apply sop_callC (awake_con) <;> first | exact sd) | exact sop_std | exact sop_false (by revert hg; decide) | fail)) | fail)))
  first | refine aend0 (by first | exact .inl rfl | exact .inr rfl) []  (by repeat (first | exact covL_nil | refine covL_dup rfl ?_ | refine covL_cons rfl rfl ?_)) ?_ | refine aend1 (by first | exact .inl rfl | exact .inr rfl) [] (by first | exact .tmp rfl | exact .cell rfl rfl rfl rfl rfl | exact .cellA rfl rfl rfl rfl rfl) (by repeat (first | exact covL_nil | refine covL_dup rfl ?_ | refine covL_cons rfl rfl ?_)) ?_ | refine aend2 (by first | exact .inl rfl | exact .inr rfl) [] (by first | exact .tmp rfl | exact .cell rfl rfl rfl rfl rfl | exact .cellA rfl rfl rfl rfl rfl) (by first | exact .tmp rfl | exact .cell rfl rfl rfl rfl rfl | exact .cellA rfl rfl rfl rfl rfl) (by repeat (first | exact covL_nil | refine covL_dup rfl ?_ | refine covL_cons rfl rfl ?_)) ?_ | refine aend3 (by first | exact .inl rfl | exact .inr rfl) [] (by first | exact .tmp rfl | exact .cell rfl rfl rfl rfl rfl | exact .cellA rfl rfl rfl rfl rfl) (by first | exact .tmp rfl | exact .cell rfl rfl rfl rfl rfl | exact .cellA rfl rfl rfl rfl rfl) (by first | exact .tmp rfl | exact .cell rfl rfl rfl rfl rfl | exact .cellA rfl rfl rfl rfl rfl) (by repeat (first | exact covL_nil | refine covL_dup rfl ?_ | refine covL_cons rfl rfl ?_)) ?_
  exact ⟨rfl, rfl⟩
theorem words_say (ok : Int) (oa : Nat) (od : List UInt8) (om : Int) (ha : oa < 18446744073709551616) (hm : -9223372036854775808 ≤ om ∧ om ≤ 9223372036854775807) (hol : od.length ≤ 9223372036854775807) : Con Tryd.prog 4 [.agg [.lit (.int .i64 ok), .lit (.int .u64 (oa : Int)), .snap (slF encU od), .lit (.int .i64 om)]] [] (fun az hz => az = .lit (.bool true) ∧ hz = []) := by
  by_cases hl : od.length ≤ 400
  · by_cases hk : ok = 1 ∨ ok = 2 ∨ ok = 3 ∨ ok = 4 ∨ ok = 5 ∨ ok = 6
    · rcases hk with rfl | rfl | rfl | rfl | rfl | rfl
      · exact words_say_dirty oa od om ha hm hl
      · exact words_say_fill oa od om ha hm hl
      · exact words_say_rd oa od om ha hm hl
      · exact words_say_evict oa od om ha hm hl
      · exact words_say_clean oa od om ha hm hl
      · exact words_say_exi oa od om ha hm hl
    · exact words_say_no ok oa od om ha hm hl hk
  · exact words_say_big ok oa od om hl hol
end Go.Proofs.YtgiicfjibngooaaDoor
