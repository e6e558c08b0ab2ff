/- WordsLong, walked. -/
import Derived.Test.YtgiicfjibngooaaDoorKq
namespace Go.Proofs.YtgiicfjibngooaaDoor
open Go Go.RowKit
set_option linter.unusedVariables false
set_option linter.unusedSimpArgs false
attribute [local irreducible] ACode AOps AThen ABlock ACut
set_option maxRecDepth 10000 in
set_option maxHeartbeats 400000 in
theorem words_long_big (a : Nat) (d : List UInt8) (m : Int) (ha : a < 18446744073709551616) (hd : ¬ d.length ≤ 256) (hd2 : d.length ≤ 9223372036854775807) : Con Tryd.prog 7 [.lit (.int .u64 (a : Int)), .snap (slF encU d), .lit (.int .i64 m)] [] (fun az hz => az = .lit (.bool (true)) ∧ hz = []) := by
  refine con_of hT Tryd.func7 rfl rfl rfl rfl rfl rfl ?_
  intro c
  have hT := hT
  have hZ := hZ
  repeat' (first | refine a_seq ?_ | refine ar_step ?_ | refine a_block ?_ | refine a_skip ?_ | refine a_exit ?_ | refine a_ret ?_ | refine a_label ?_ | refine a_scope ?_ | refine a_region ?_ | refine rU (ev := ?_) | refine rN (ev := ?_) | refine rA (ev := ?_) | refine rT (ev := ?_) | refine rR (ev := ?_) | refine rO (ev := ?_) | refine at_normal ?_ | refine at_exit ?_ | refine at_ret ?_ | refine ab_normal ?_ | refine ab_ret ?_ | refine ab_same ?_ | refine ab_other rfl ?_ | refine ao_nil ?_ | refine EvK.nil ?_ | refine EvU.nil ?_ | refine EvU.alloc rfl rfl ?_ | refine EvU.store rfl rfl rfl rfl rfl (by first | exact .un rfl (by first | assumption | exact And.left (by assumption)) | exact .of rfl) rfl rfl rfl rfl rfl ?_ | refine tailA_k rfl rfl ?_ | refine tailA_k trivial rfl ?_ | refine tailA_k trivial (by kernel_rfl) ?_ | (refine a_cond rfl (fun hb => ?_) (fun hb => ?_) <;> (try simp only [reduceCtorEq, ne_eq, decs] at hb) <;> (try (exfalso; omega)) <;> (try exact (bool_ft hb (by assumption)).elim) <;> (try exact (bool_ft (by assumption) hb).elim)) | refine ao_alloc' (next := ?_) | refine ao_box' (next := ?_) | refine ao_store (next := ?_) | refine ao_store_own (next := ?_) | refine ao_store_ownR (next := ?_) | refine ao_append_same (next := ?_) | refine ao_append_nil (next := ?_) | refine ao_append_new (next := ?_) | refine ao_mkErr (next := ?_) | refine ao_clip (next := ?_) | refine ao_store_arr (next := ?_) | ((first | (apply ao_op rfl rfl (.plain rfl ?_) ?_; rotate_left) | (apply EvK.cons rfl (.plain rfl ?_) ?_; rotate_left) | (apply EvU.plain rfl rfl rfl ?_ ?_; rotate_left) | (apply ao_op rfl rfl (.guard rfl rfl rfl fun hg => ?_) ?_; rotate_right) | (apply ao_op rfl rfl (.guardw rfl rfl rfl fun hg => ?_) ?_; rotate_right) | (apply EvK.cons rfl (.guard rfl rfl rfl fun hg => ?_) ?_; rotate_right) | (apply EvK.cons rfl (.guardw rfl rfl rfl fun hg => ?_) ?_; rotate_right)); (first | exact sop_falseL (by first | (revert hg; decide) | (simp at hg; done) | fail) | ((try (have hg2 := hg; simp only [reduceCtorEq, ne_eq, decs] at hg2)); (first | (apply sop_callC (awake_con) <;> first | exact sd) | exact sop_std | exact sop_false (by revert hg; decide) | fail)) | fail)))
  first | refine aend0 (by first | exact .inl rfl | exact .inr rfl) []  (by repeat (first | exact covL_nil | refine covL_dup rfl ?_ | refine covL_cons rfl rfl ?_)) ?_ | refine aend1 (by first | exact .inl rfl | exact .inr rfl) [] (by first | exact .tmp rfl | exact .cell rfl rfl rfl rfl rfl | exact .cellA rfl rfl rfl rfl rfl) (by repeat (first | exact covL_nil | refine covL_dup rfl ?_ | refine covL_cons rfl rfl ?_)) ?_ | refine aend2 (by first | exact .inl rfl | exact .inr rfl) [] (by first | exact .tmp rfl | exact .cell rfl rfl rfl rfl rfl | exact .cellA rfl rfl rfl rfl rfl) (by first | exact .tmp rfl | exact .cell rfl rfl rfl rfl rfl | exact .cellA rfl rfl rfl rfl rfl) (by repeat (first | exact covL_nil | refine covL_dup rfl ?_ | refine covL_cons rfl rfl ?_)) ?_ | refine aend3 (by first | exact .inl rfl | exact .inr rfl) [] (by first | exact .tmp rfl | exact .cell rfl rfl rfl rfl rfl | exact .cellA rfl rfl rfl rfl rfl) (by first | exact .tmp rfl | exact .cell rfl rfl rfl rfl rfl | exact .cellA rfl rfl rfl rfl rfl) (by first | exact .tmp rfl | exact .cell rfl rfl rfl rfl rfl | exact .cellA rfl rfl rfl rfl rfl) (by repeat (first | exact covL_nil | refine covL_dup rfl ?_ | refine covL_cons rfl rfl ?_)) ?_
  exact ⟨rfl, rfl⟩
set_option maxRecDepth 10000 in
set_option maxHeartbeats 12000000 in
theorem words_long (a : Nat) (d : List UInt8) (m0 : Int) (ha : a < 18446744073709551616) (hd : d.length ≤ 256) : Con Tryd.prog 7 [.lit (.int .u64 (a : Int)), .snap (slF encU d), .lit (.int .i64 m0)] [] (fun az hz => az = .lit (.bool (true)) ∧ hz = []) := by
  refine con_of hT Tryd.func7 rfl rfl rfl rfl rfl rfl ?_
  intro c
  have hT := hT
  have hZ := hZ
  have hlo := low0_con m0 65 (by decide) (by decide)
  have hlb := low_bd m0 (show (1 : Int) ≤ 65 by decide)
  generalize low m0 65 = m at *
  have hx1 := hx_len ha
  have hxe : (hx a).length = 2 + (hexL a).length := by show (hexL a).length + 1 + 1 = _; omega
  have hx16 := hexL_16 ha
  have hdl := dataL_eq d
  have hil := itoU_digs ⟨m.toNat, by omega⟩
  simp only [show ((m.toNat : Nat) : Int) = m by omega] at hil
  have hil2 : ((itoU m).length = 2 ∧ 9 < m) ∨ ((itoU m).length = 1 ∧ ¬ 9 < m) := by
    by_cases h9 : 9 < m.toNat
    · rw [if_pos h9] at hil; omega
    · rw [if_neg h9] at hil; omega
  have hd0 := dgN_0 a
  refine a_cutAt 0 13 (fun T : Int => T = ((itoU m).length : Int)) (fun T => [(0, .lit (.int .u64 (a : Int))), (1, .snap (slF encU d)), (2, .lit (.int .i64 m)), (6, .lit (.bool false)), (7, .lit (.int .i64 ((hexL a).length : Int))), (9, .lit (.int .i64 ((dataL d).length : Int))), (10, .lit (.int .i64 T))]) (fun _ => []) (hx := ?_) (hy := ?_)
  · refine .mk ?_
    repeat' (first | refine acut_at rfl ?_ | refine acut_go rfl ?_ | refine a_seq ?_ | refine ar_step ?_ | refine a_block ?_ | refine a_skip ?_ | refine a_exit ?_ | refine a_ret ?_ | refine a_label ?_ | refine a_scope ?_ | refine a_region ?_ | refine rU (ev := ?_) | refine rN (ev := ?_) | refine rA (ev := ?_) | refine rT (ev := ?_) | refine rR (ev := ?_) | refine rO (ev := ?_) | refine at_normal ?_ | refine at_exit ?_ | refine at_ret ?_ | refine ab_normal ?_ | refine ab_ret ?_ | refine ab_same ?_ | refine ab_other rfl ?_ | refine ao_nil ?_ | refine EvK.nil ?_ | refine EvU.nil ?_ | refine EvU.alloc rfl rfl ?_ | refine EvU.store rfl rfl rfl rfl rfl (by first | exact .un rfl (by first | assumption | exact And.left (by assumption)) | exact .of rfl) rfl rfl rfl rfl rfl ?_ | refine tailA_k rfl rfl ?_ | refine tailA_k trivial rfl ?_ | refine tailA_k trivial (by kernel_rfl) ?_ | (refine a_cond rfl (fun hb => ?_) (fun hb => ?_) <;> (try simp only [reduceCtorEq, ne_eq, decs] at hb) <;> (try (exfalso; omega)) <;> (try exact (bool_ft hb (by assumption)).elim) <;> (try exact (bool_ft (by assumption) hb).elim)) | refine ao_alloc' (next := ?_) | refine ao_box' (next := ?_) | refine ao_store (next := ?_) | refine ao_store_own (next := ?_) | refine ao_store_ownR (next := ?_) | refine ao_append_same (next := ?_) | refine ao_append_nil (next := ?_) | refine ao_append_new (next := ?_) | refine ao_mkErr (next := ?_) | refine ao_clip (next := ?_) | refine ao_store_arr (next := ?_) | ((first | (apply ao_op rfl rfl (.plain rfl ?_) ?_; rotate_left) | (apply EvK.cons rfl (.plain rfl ?_) ?_; rotate_left) | (apply EvU.plain rfl rfl rfl ?_ ?_; rotate_left) | (apply ao_op rfl rfl (.guard rfl rfl rfl fun hg => ?_) ?_; rotate_right) | (apply ao_op rfl rfl (.guardw rfl rfl rfl fun hg => ?_) ?_; rotate_right) | (apply EvK.cons rfl (.guard rfl rfl rfl fun hg => ?_) ?_; rotate_right) | (apply EvK.cons rfl (.guardw rfl rfl rfl fun hg => ?_) ?_; rotate_right)); (first | exact sop_falseL (by first | (revert hg; decide) | (simp at hg; done) | fail) | ((try (have hg2 := hg; simp only [reduceCtorEq, ne_eq, decs] at hg2)); (first | (apply sop_callC (awake_con) <;> first | exact sd) | (apply sop_callC (hlo) <;> first | exact sd) | exact sop_shr16u | exact sop_buildSlice (E := encS) | (apply sop_callNM (h1) <;> first | exact sd) | (apply sop_callNM (h2) <;> first | exact sd) | (apply sop_callNM (h3) <;> first | exact sd) | (apply sop_callNM (h4) <;> first | exact sd) | exact sop_neq_str | exact sop_std | exact sop_false (by revert hg; decide) | fail)) | fail)))
    refine a_loop (ι := Nat × Nat) (fun p => [(8, .lit (.int .u64 (p.1 : Int))), (7, .lit (.int .i64 (p.2 : Int)))]) (fun _ => []) (fun p => p.2 + dgN p.1 = (hexL a).length ∧ p.1 < 18446744073709551616) (fun p => p.1) (a / 16, 1) ⟨by show 1 + dgN (a / 16) = _; omega, by show a / 16 < _; omega⟩ ?_ ?_
    · (refine ⟨?_, ?_⟩ <;> repeat (first | exact covL_nil | refine covL_dup rfl ?_ | refine covL_cons rfl rfl ?_ | refine covL_cons rfl (cov_int rfl (by omega)) ?_))
    rintro ⟨x, k⟩ ⟨hk, hxl⟩
    dsimp only at hk hxl
    rcases Nat.eq_zero_or_pos x with rfl | hx0
    · have hk2 : k = (hexL a).length := by simpa [dgN] using hk
      subst hk2
      repeat' (first | refine acut_at rfl ?_ | refine acut_go rfl ?_ | refine a_seq ?_ | refine ar_step ?_ | refine a_block ?_ | refine a_skip ?_ | refine a_exit ?_ | refine a_ret ?_ | refine a_label ?_ | refine a_scope ?_ | refine a_region ?_ | refine rU (ev := ?_) | refine rN (ev := ?_) | refine rA (ev := ?_) | refine rT (ev := ?_) | refine rR (ev := ?_) | refine rO (ev := ?_) | refine at_normal ?_ | refine at_exit ?_ | refine at_ret ?_ | refine ab_normal ?_ | refine ab_ret ?_ | refine ab_same ?_ | refine ab_other rfl ?_ | refine ao_nil ?_ | refine EvK.nil ?_ | refine EvU.nil ?_ | refine EvU.alloc rfl rfl ?_ | refine EvU.store rfl rfl rfl rfl rfl (by first | exact .un rfl (by first | assumption | exact And.left (by assumption)) | exact .of rfl) rfl rfl rfl rfl rfl ?_ | refine tailA_k rfl rfl ?_ | refine tailA_k trivial rfl ?_ | refine tailA_k trivial (by kernel_rfl) ?_ | (refine a_cond rfl (fun hb => ?_) (fun hb => ?_) <;> (try simp only [reduceCtorEq, ne_eq, decs] at hb) <;> (try (exfalso; omega)) <;> (try exact (bool_ft hb (by assumption)).elim) <;> (try exact (bool_ft (by assumption) hb).elim)) | refine ao_alloc' (next := ?_) | refine ao_box' (next := ?_) | refine ao_store (next := ?_) | refine ao_store_own (next := ?_) | refine ao_store_ownR (next := ?_) | refine ao_append_same (next := ?_) | refine ao_append_nil (next := ?_) | refine ao_append_new (next := ?_) | refine ao_mkErr (next := ?_) | refine ao_clip (next := ?_) | refine ao_store_arr (next := ?_) | ((first | (apply ao_op rfl rfl (.plain rfl ?_) ?_; rotate_left) | (apply EvK.cons rfl (.plain rfl ?_) ?_; rotate_left) | (apply EvU.plain rfl rfl rfl ?_ ?_; rotate_left) | (apply ao_op rfl rfl (.guard rfl rfl rfl fun hg => ?_) ?_; rotate_right) | (apply ao_op rfl rfl (.guardw rfl rfl rfl fun hg => ?_) ?_; rotate_right) | (apply EvK.cons rfl (.guard rfl rfl rfl fun hg => ?_) ?_; rotate_right) | (apply EvK.cons rfl (.guardw rfl rfl rfl fun hg => ?_) ?_; rotate_right)); (first | exact sop_falseL (by first | (revert hg; decide) | (simp at hg; done) | fail) | ((try (have hg2 := hg; simp only [reduceCtorEq, ne_eq, decs] at hg2)); (first | (apply sop_callC (awake_con) <;> first | exact sd) | (apply sop_callC (hlo) <;> first | exact sd) | exact sop_shr16u | exact sop_buildSlice (E := encS) | (apply sop_callNM (h1) <;> first | exact sd) | (apply sop_callNM (h2) <;> first | exact sd) | (apply sop_callNM (h3) <;> first | exact sd) | (apply sop_callNM (h4) <;> first | exact sd) | exact sop_neq_str | exact sop_std | exact sop_false (by revert hg; decide) | fail)) | fail)))
      · refine amid 2 (by omega) ?_
        rw [← hdl]
        (refine ⟨?_, ?_⟩ <;> repeat (first | exact covL_nil | refine covL_dup rfl ?_ | refine covL_cons rfl rfl ?_ | refine covL_cons rfl (cov_int rfl (by omega)) ?_))
      · refine amid 1 (by omega) ?_
        rw [← hdl]
        (refine ⟨?_, ?_⟩ <;> repeat (first | exact covL_nil | refine covL_dup rfl ?_ | refine covL_cons rfl rfl ?_ | refine covL_cons rfl (cov_int rfl (by omega)) ?_))
    · have hds := dgN_s hx0
      repeat' (first | refine acut_at rfl ?_ | refine acut_go rfl ?_ | refine a_seq ?_ | refine ar_step ?_ | refine a_block ?_ | refine a_skip ?_ | refine a_exit ?_ | refine a_ret ?_ | refine a_label ?_ | refine a_scope ?_ | refine a_region ?_ | refine rU (ev := ?_) | refine rN (ev := ?_) | refine rA (ev := ?_) | refine rT (ev := ?_) | refine rR (ev := ?_) | refine rO (ev := ?_) | refine at_normal ?_ | refine at_exit ?_ | refine at_ret ?_ | refine ab_normal ?_ | refine ab_ret ?_ | refine ab_same ?_ | refine ab_other rfl ?_ | refine ao_nil ?_ | refine EvK.nil ?_ | refine EvU.nil ?_ | refine EvU.alloc rfl rfl ?_ | refine EvU.store rfl rfl rfl rfl rfl (by first | exact .un rfl (by first | assumption | exact And.left (by assumption)) | exact .of rfl) rfl rfl rfl rfl rfl ?_ | refine tailA_k rfl rfl ?_ | refine tailA_k trivial rfl ?_ | refine tailA_k trivial (by kernel_rfl) ?_ | (refine a_cond rfl (fun hb => ?_) (fun hb => ?_) <;> (try simp only [reduceCtorEq, ne_eq, decs] at hb) <;> (try (exfalso; omega)) <;> (try exact (bool_ft hb (by assumption)).elim) <;> (try exact (bool_ft (by assumption) hb).elim)) | refine ao_alloc' (next := ?_) | refine ao_box' (next := ?_) | refine ao_store (next := ?_) | refine ao_store_own (next := ?_) | refine ao_store_ownR (next := ?_) | refine ao_append_same (next := ?_) | refine ao_append_nil (next := ?_) | refine ao_append_new (next := ?_) | refine ao_mkErr (next := ?_) | refine ao_clip (next := ?_) | refine ao_store_arr (next := ?_) | ((first | (apply ao_op rfl rfl (.plain rfl ?_) ?_; rotate_left) | (apply EvK.cons rfl (.plain rfl ?_) ?_; rotate_left) | (apply EvU.plain rfl rfl rfl ?_ ?_; rotate_left) | (apply ao_op rfl rfl (.guard rfl rfl rfl fun hg => ?_) ?_; rotate_right) | (apply ao_op rfl rfl (.guardw rfl rfl rfl fun hg => ?_) ?_; rotate_right) | (apply EvK.cons rfl (.guard rfl rfl rfl fun hg => ?_) ?_; rotate_right) | (apply EvK.cons rfl (.guardw rfl rfl rfl fun hg => ?_) ?_; rotate_right)); (first | exact sop_falseL (by first | (revert hg; decide) | (simp at hg; done) | fail) | ((try (have hg2 := hg; simp only [reduceCtorEq, ne_eq, decs] at hg2)); (first | (apply sop_callC (awake_con) <;> first | exact sd) | (apply sop_callC (hlo) <;> first | exact sd) | exact sop_shr16u | exact sop_buildSlice (E := encS) | (apply sop_callNM (h1) <;> first | exact sd) | (apply sop_callNM (h2) <;> first | exact sd) | (apply sop_callNM (h3) <;> first | exact sd) | (apply sop_callNM (h4) <;> first | exact sd) | exact sop_neq_str | exact sop_std | exact sop_false (by revert hg; decide) | fail)) | fail)))
      refine ⟨(x / 16, k + 1), ⟨by show k + 1 + dgN (x / 16) = _; omega, by show x / 16 < _; omega⟩, by show x / 16 < x; omega, ?_⟩
      (refine ⟨?_, ?_⟩ <;> repeat (first | exact covL_nil | refine covL_dup rfl ?_ | refine covL_cons rfl rfl ?_ | refine covL_cons rfl (cov_int rfl (by omega)) ?_))
  · intro T hTe
    repeat' (first | refine a_seq ?_ | refine ar_step ?_ | refine a_block ?_ | refine a_skip ?_ | refine a_exit ?_ | refine a_ret ?_ | refine a_label ?_ | refine a_scope ?_ | refine a_region ?_ | refine rU (ev := ?_) | refine rN (ev := ?_) | refine rA (ev := ?_) | refine rT (ev := ?_) | refine rR (ev := ?_) | refine rO (ev := ?_) | refine at_normal ?_ | refine at_exit ?_ | refine at_ret ?_ | refine ab_normal ?_ | refine ab_ret ?_ | refine ab_same ?_ | refine ab_other rfl ?_ | refine ao_nil ?_ | refine EvK.nil ?_ | refine EvU.nil ?_ | refine EvU.alloc rfl rfl ?_ | refine EvU.store rfl rfl rfl rfl rfl (by first | exact .un rfl (by first | assumption | exact And.left (by assumption)) | exact .of rfl) rfl rfl rfl rfl rfl ?_ | refine tailA_k rfl rfl ?_ | refine tailA_k trivial rfl ?_ | refine tailA_k trivial (by kernel_rfl) ?_ | (refine a_cond rfl (fun hb => ?_) (fun hb => ?_) <;> (try simp only [reduceCtorEq, ne_eq, decs] at hb) <;> (try (exfalso; omega)) <;> (try exact (bool_ft hb (by assumption)).elim) <;> (try exact (bool_ft (by assumption) hb).elim)) | refine ao_alloc' (next := ?_) | refine ao_box' (next := ?_) | refine ao_store (next := ?_) | refine ao_store_own (next := ?_) | refine ao_store_ownR (next := ?_) | refine ao_append_same (next := ?_) | refine ao_append_nil (next := ?_) | refine ao_append_new (next := ?_) | refine ao_mkErr (next := ?_) | refine ao_clip (next := ?_) | refine ao_store_arr (next := ?_) | ((first | (apply ao_op rfl rfl (.plain rfl ?_) ?_; rotate_left) | (apply EvK.cons rfl (.plain rfl ?_) ?_; rotate_left) | (apply EvU.plain rfl rfl rfl ?_ ?_; rotate_left) | (apply ao_op rfl rfl (.guard rfl rfl rfl fun hg => ?_) ?_; rotate_right) | (apply ao_op rfl rfl (.guardw rfl rfl rfl fun hg => ?_) ?_; rotate_right) | (apply EvK.cons rfl (.guard rfl rfl rfl fun hg => ?_) ?_; rotate_right) | (apply EvK.cons rfl (.guardw rfl rfl rfl fun hg => ?_) ?_; rotate_right)); (first | exact sop_falseL (by first | (revert hg; decide) | (simp at hg; done) | fail) | ((try (have hg2 := hg; simp only [reduceCtorEq, ne_eq, decs] at hg2)); (first | (apply sop_callC (awake_con) <;> first | exact sd) | (apply sop_callC (hlo) <;> first | exact sd) | exact sop_shr16u | exact sop_buildSlice (E := encS) | (apply sop_callNM (h1) <;> first | exact sd) | (apply sop_callNM (h2) <;> first | exact sd) | (apply sop_callNM (h3) <;> first | exact sd) | (apply sop_callNM (h4) <;> first | exact sd) | exact sop_neq_str | exact sop_std | exact sop_false (by revert hg; decide) | fail)) | fail)))
    refine a_loop (ι := Int) (fun k => [(12, .lit (.int .i64 k))]) (fun _ => []) (fun k => 1 ≤ k ∧ k ≤ 7) (fun k => (7 - k).toNat) 1 ⟨by decide, by decide⟩ ?_ ?_
    · (refine ⟨?_, ?_⟩ <;> repeat (first | exact covL_nil | refine covL_dup rfl ?_ | refine covL_cons rfl rfl ?_ | refine covL_cons rfl (cov_int rfl (by omega)) ?_))
    rintro k ⟨hk1, hk7⟩
    by_cases h7 : k = 7
    · subst h7
      repeat' (first | refine a_seq ?_ | refine ar_step ?_ | refine a_block ?_ | refine a_skip ?_ | refine a_exit ?_ | refine a_ret ?_ | refine a_label ?_ | refine a_scope ?_ | refine a_region ?_ | refine rU (ev := ?_) | refine rN (ev := ?_) | refine rA (ev := ?_) | refine rT (ev := ?_) | refine rR (ev := ?_) | refine rO (ev := ?_) | refine at_normal ?_ | refine at_exit ?_ | refine at_ret ?_ | refine ab_normal ?_ | refine ab_ret ?_ | refine ab_same ?_ | refine ab_other rfl ?_ | refine ao_nil ?_ | refine EvK.nil ?_ | refine EvU.nil ?_ | refine EvU.alloc rfl rfl ?_ | refine EvU.store rfl rfl rfl rfl rfl (by first | exact .un rfl (by first | assumption | exact And.left (by assumption)) | exact .of rfl) rfl rfl rfl rfl rfl ?_ | refine tailA_k rfl rfl ?_ | refine tailA_k trivial rfl ?_ | refine tailA_k trivial (by kernel_rfl) ?_ | (refine a_cond rfl (fun hb => ?_) (fun hb => ?_) <;> (try simp only [reduceCtorEq, ne_eq, decs] at hb) <;> (try (exfalso; omega)) <;> (try exact (bool_ft hb (by assumption)).elim) <;> (try exact (bool_ft (by assumption) hb).elim)) | refine ao_alloc' (next := ?_) | refine ao_box' (next := ?_) | refine ao_store (next := ?_) | refine ao_store_own (next := ?_) | refine ao_store_ownR (next := ?_) | refine ao_append_same (next := ?_) | refine ao_append_nil (next := ?_) | refine ao_append_new (next := ?_) | refine ao_mkErr (next := ?_) | refine ao_clip (next := ?_) | refine ao_store_arr (next := ?_) | ((first | (apply ao_op rfl rfl (.plain rfl ?_) ?_; rotate_left) | (apply EvK.cons rfl (.plain rfl ?_) ?_; rotate_left) | (apply EvU.plain rfl rfl rfl ?_ ?_; rotate_left) | (apply ao_op rfl rfl (.guard rfl rfl rfl fun hg => ?_) ?_; rotate_right) | (apply ao_op rfl rfl (.guardw rfl rfl rfl fun hg => ?_) ?_; rotate_right) | (apply EvK.cons rfl (.guard rfl rfl rfl fun hg => ?_) ?_; rotate_right) | (apply EvK.cons rfl (.guardw rfl rfl rfl fun hg => ?_) ?_; rotate_right)); (first | exact sop_falseL (by first | (revert hg; decide) | (simp at hg; done) | fail) | ((try (have hg2 := hg; simp only [reduceCtorEq, ne_eq, decs] at hg2)); (first | (apply sop_callC (awake_con) <;> first | exact sd) | (apply sop_callC (hlo) <;> first | exact sd) | exact sop_shr16u | exact sop_buildSlice (E := encS) | (apply sop_callNM (h1) <;> first | exact sd) | (apply sop_callNM (h2) <;> first | exact sd) | (apply sop_callNM (h3) <;> first | exact sd) | (apply sop_callNM (h4) <;> first | exact sd) | exact sop_neq_str | exact sop_std | exact sop_false (by revert hg; decide) | fail)) | fail)))
      first | refine aend0 (by first | exact .inl rfl | exact .inr rfl) []  (by repeat (first | exact covL_nil | refine covL_dup rfl ?_ | refine covL_cons rfl rfl ?_)) ?_ | refine aend1 (by first | exact .inl rfl | exact .inr rfl) [] (by first | exact .tmp rfl | exact .cell rfl rfl rfl rfl rfl | exact .cellA rfl rfl rfl rfl rfl) (by repeat (first | exact covL_nil | refine covL_dup rfl ?_ | refine covL_cons rfl rfl ?_)) ?_ | refine aend2 (by first | exact .inl rfl | exact .inr rfl) [] (by first | exact .tmp rfl | exact .cell rfl rfl rfl rfl rfl | exact .cellA rfl rfl rfl rfl rfl) (by first | exact .tmp rfl | exact .cell rfl rfl rfl rfl rfl | exact .cellA rfl rfl rfl rfl rfl) (by repeat (first | exact covL_nil | refine covL_dup rfl ?_ | refine covL_cons rfl rfl ?_)) ?_ | refine aend3 (by first | exact .inl rfl | exact .inr rfl) [] (by first | exact .tmp rfl | exact .cell rfl rfl rfl rfl rfl | exact .cellA rfl rfl rfl rfl rfl) (by first | exact .tmp rfl | exact .cell rfl rfl rfl rfl rfl | exact .cellA rfl rfl rfl rfl rfl) (by first | exact .tmp rfl | exact .cell rfl rfl rfl rfl rfl | exact .cellA rfl rfl rfl rfl rfl) (by repeat (first | exact covL_nil | refine covL_dup rfl ?_ | refine covL_cons rfl rfl ?_)) ?_
      exact ⟨rfl, rfl⟩
    · rcases (show k = 1 ∨ k = 2 ∨ k = 3 ∨ k = 4 ∨ k = 5 ∨ k = 6 by omega) with rfl | rfl | rfl | rfl | rfl | rfl
      · have hA : okA (.dirty a d) := ⟨ha, by omega⟩
        have hO : okC (.dirty a d) = true := by simp [okC]; omega
        have ec : cmdO ⟨1, a, d, 0⟩ = (.dirty a d) := rfl
        have h1 := make_snap 1 a d 0
        rw [ec] at h1
        have hle : (sayL (.dirty a d)).length = 5 + 1 + (hx a).length + (1 + (dataL d).length) := by simp only [sayL, List.length_append, List.length_cons, List.length_nil] <;> omega
        have h2 := say_ok (.dirty a d) hO hA
        have h3 := read_ok (.dirty a d) hO hA (by omega)
        have h4 := wsplit_con (sayL (.dirty a d)) (by omega)
        rw [spw_say _ hO] at h4
        have hs := strOf_size (sayL (.dirty a d))
        generalize hsl : sayL (.dirty a d) = sl at *
        unfold wordsC at h4
        have hs2 := strOf_size (hx a)
        repeat' (first | refine a_seq ?_ | refine ar_step ?_ | refine a_block ?_ | refine a_skip ?_ | refine a_exit ?_ | refine a_ret ?_ | refine a_label ?_ | refine a_scope ?_ | refine a_region ?_ | refine rU (ev := ?_) | refine rN (ev := ?_) | refine rA (ev := ?_) | refine rT (ev := ?_) | refine rR (ev := ?_) | refine rO (ev := ?_) | refine at_normal ?_ | refine at_exit ?_ | refine at_ret ?_ | refine ab_normal ?_ | refine ab_ret ?_ | refine ab_same ?_ | refine ab_other rfl ?_ | refine ao_nil ?_ | refine EvK.nil ?_ | refine EvU.nil ?_ | refine EvU.alloc rfl rfl ?_ | refine EvU.store rfl rfl rfl rfl rfl (by first | exact .un rfl (by first | assumption | exact And.left (by assumption)) | exact .of rfl) rfl rfl rfl rfl rfl ?_ | refine tailA_k rfl rfl ?_ | refine tailA_k trivial rfl ?_ | refine tailA_k trivial (by kernel_rfl) ?_ | (refine a_cond rfl (fun hb => ?_) (fun hb => ?_) <;> (try simp only [reduceCtorEq, ne_eq, decs] at hb) <;> (try (exfalso; omega)) <;> (try exact (bool_ft hb (by assumption)).elim) <;> (try exact (bool_ft (by assumption) hb).elim)) | refine ao_alloc' (next := ?_) | refine ao_box' (next := ?_) | refine ao_store (next := ?_) | refine ao_store_own (next := ?_) | refine ao_store_ownR (next := ?_) | refine ao_append_same (next := ?_) | refine ao_append_nil (next := ?_) | refine ao_append_new (next := ?_) | refine ao_mkErr (next := ?_) | refine ao_clip (next := ?_) | refine ao_store_arr (next := ?_) | ((first | (apply ao_op rfl rfl (.plain rfl ?_) ?_; rotate_left) | (apply EvK.cons rfl (.plain rfl ?_) ?_; rotate_left) | (apply EvU.plain rfl rfl rfl ?_ ?_; rotate_left) | (apply ao_op rfl rfl (.guard rfl rfl rfl fun hg => ?_) ?_; rotate_right) | (apply ao_op rfl rfl (.guardw rfl rfl rfl fun hg => ?_) ?_; rotate_right) | (apply EvK.cons rfl (.guard rfl rfl rfl fun hg => ?_) ?_; rotate_right) | (apply EvK.cons rfl (.guardw rfl rfl rfl fun hg => ?_) ?_; rotate_right)); (first | exact sop_falseL (by first | (revert hg; decide) | (simp at hg; done) | fail) | ((try (have hg2 := hg; simp only [reduceCtorEq, ne_eq, decs] at hg2)); (first | (apply sop_callC (awake_con) <;> first | exact sd) | (apply sop_callC (hlo) <;> first | exact sd) | exact sop_shr16u | exact sop_buildSlice (E := encS) | (apply sop_callNM (h1) <;> first | exact sd) | (apply sop_callNM (h2) <;> first | exact sd) | (apply sop_callNM (h3) <;> first | exact sd) | (apply sop_callNM (h4) <;> first | exact sd) | exact sop_neq_str | exact sop_std | exact sop_false (by revert hg; decide) | fail)) | fail)))
        · exfalso
          rcases hb with ((hb | hb) | hb) | hb
          · apply hb
            rw [hs, hle]
            show _ = IntKind.i64.wrap (IntKind.i64.wrap (IntKind.i64.wrap (IntKind.i64.wrap (5 + 3) + ((hexL a).length : Int)) + 1) + ((dataL d).length : Int))
            rw [show IntKind.i64.wrap (5 + 3) = 8 from by decide, wrapI (x := 8 + ((hexL a).length : Int)) (by omega) (by omega), wrapI (x := 8 + ((hexL a).length : Int) + 1) (by omega) (by omega), wrapI (x := 8 + ((hexL a).length : Int) + 1 + ((dataL d).length : Int)) (by omega) (by omega)]
            omega
          · simp at hb
          · exact hb rfl
          · exact hb (by show ((strOf (hx a)).size : Int) = _; rw [hs2]; omega)
        · refine ⟨2, ⟨by decide, by decide⟩, by decide, ?_⟩
          (refine ⟨?_, ?_⟩ <;> repeat (first | exact covL_nil | refine covL_dup rfl ?_ | refine covL_cons rfl rfl ?_ | refine covL_cons rfl (cov_int rfl (by omega)) ?_))
      · have hA : okA (.fill a d) := ⟨ha, by omega⟩
        have hO : okC (.fill a d) = true := by simp [okC]; omega
        have ec : cmdO ⟨2, a, d, 0⟩ = (.fill a d) := rfl
        have h1 := make_snap 2 a d 0
        rw [ec] at h1
        have hle : (sayL (.fill a d)).length = 4 + 1 + (hx a).length + (1 + (dataL d).length) := by simp only [sayL, List.length_append, List.length_cons, List.length_nil] <;> omega
        have h2 := say_ok (.fill a d) hO hA
        have h3 := read_ok (.fill a d) hO hA (by omega)
        have h4 := wsplit_con (sayL (.fill a d)) (by omega)
        rw [spw_say _ hO] at h4
        have hs := strOf_size (sayL (.fill a d))
        generalize hsl : sayL (.fill a d) = sl at *
        unfold wordsC at h4
        have hs2 := strOf_size (hx a)
        repeat' (first | refine a_seq ?_ | refine ar_step ?_ | refine a_block ?_ | refine a_skip ?_ | refine a_exit ?_ | refine a_ret ?_ | refine a_label ?_ | refine a_scope ?_ | refine a_region ?_ | refine rU (ev := ?_) | refine rN (ev := ?_) | refine rA (ev := ?_) | refine rT (ev := ?_) | refine rR (ev := ?_) | refine rO (ev := ?_) | refine at_normal ?_ | refine at_exit ?_ | refine at_ret ?_ | refine ab_normal ?_ | refine ab_ret ?_ | refine ab_same ?_ | refine ab_other rfl ?_ | refine ao_nil ?_ | refine EvK.nil ?_ | refine EvU.nil ?_ | refine EvU.alloc rfl rfl ?_ | refine EvU.store rfl rfl rfl rfl rfl (by first | exact .un rfl (by first | assumption | exact And.left (by assumption)) | exact .of rfl) rfl rfl rfl rfl rfl ?_ | refine tailA_k rfl rfl ?_ | refine tailA_k trivial rfl ?_ | refine tailA_k trivial (by kernel_rfl) ?_ | (refine a_cond rfl (fun hb => ?_) (fun hb => ?_) <;> (try simp only [reduceCtorEq, ne_eq, decs] at hb) <;> (try (exfalso; omega)) <;> (try exact (bool_ft hb (by assumption)).elim) <;> (try exact (bool_ft (by assumption) hb).elim)) | refine ao_alloc' (next := ?_) | refine ao_box' (next := ?_) | refine ao_store (next := ?_) | refine ao_store_own (next := ?_) | refine ao_store_ownR (next := ?_) | refine ao_append_same (next := ?_) | refine ao_append_nil (next := ?_) | refine ao_append_new (next := ?_) | refine ao_mkErr (next := ?_) | refine ao_clip (next := ?_) | refine ao_store_arr (next := ?_) | ((first | (apply ao_op rfl rfl (.plain rfl ?_) ?_; rotate_left) | (apply EvK.cons rfl (.plain rfl ?_) ?_; rotate_left) | (apply EvU.plain rfl rfl rfl ?_ ?_; rotate_left) | (apply ao_op rfl rfl (.guard rfl rfl rfl fun hg => ?_) ?_; rotate_right) | (apply ao_op rfl rfl (.guardw rfl rfl rfl fun hg => ?_) ?_; rotate_right) | (apply EvK.cons rfl (.guard rfl rfl rfl fun hg => ?_) ?_; rotate_right) | (apply EvK.cons rfl (.guardw rfl rfl rfl fun hg => ?_) ?_; rotate_right)); (first | exact sop_falseL (by first | (revert hg; decide) | (simp at hg; done) | fail) | ((try (have hg2 := hg; simp only [reduceCtorEq, ne_eq, decs] at hg2)); (first | (apply sop_callC (awake_con) <;> first | exact sd) | (apply sop_callC (hlo) <;> first | exact sd) | exact sop_shr16u | exact sop_buildSlice (E := encS) | (apply sop_callNM (h1) <;> first | exact sd) | (apply sop_callNM (h2) <;> first | exact sd) | (apply sop_callNM (h3) <;> first | exact sd) | (apply sop_callNM (h4) <;> first | exact sd) | exact sop_neq_str | exact sop_std | exact sop_false (by revert hg; decide) | fail)) | fail)))
        · exfalso
          rcases hb with ((hb | hb) | hb) | hb
          · apply hb
            rw [hs, hle]
            show _ = IntKind.i64.wrap (IntKind.i64.wrap (IntKind.i64.wrap (IntKind.i64.wrap (4 + 3) + ((hexL a).length : Int)) + 1) + ((dataL d).length : Int))
            rw [show IntKind.i64.wrap (4 + 3) = 7 from by decide, wrapI (x := 7 + ((hexL a).length : Int)) (by omega) (by omega), wrapI (x := 7 + ((hexL a).length : Int) + 1) (by omega) (by omega), wrapI (x := 7 + ((hexL a).length : Int) + 1 + ((dataL d).length : Int)) (by omega) (by omega)]
            omega
          · simp at hb
          · exact hb rfl
          · exact hb (by show ((strOf (hx a)).size : Int) = _; rw [hs2]; omega)
        · refine ⟨3, ⟨by decide, by decide⟩, by decide, ?_⟩
          (refine ⟨?_, ?_⟩ <;> repeat (first | exact covL_nil | refine covL_dup rfl ?_ | refine covL_cons rfl rfl ?_ | refine covL_cons rfl (cov_int rfl (by omega)) ?_))
      · have hA : okA (.rd a) := ha
        have hO : okC (.rd a) = true := rfl
        have ec : cmdO ⟨3, a, [], 0⟩ = (.rd a) := rfl
        have h1 := make_nil 3 a 0
        rw [ec] at h1
        have hle : (sayL (.rd a)).length = 4 + 1 + (hx a).length := by simp only [sayL, List.length_append, List.length_cons, List.length_nil] <;> omega
        have h2 := say_ok (.rd a) hO hA
        have h3 := read_ok (.rd a) hO hA (by omega)
        have h4 := wsplit_con (sayL (.rd a)) (by omega)
        rw [spw_say _ hO] at h4
        have hs := strOf_size (sayL (.rd a))
        generalize hsl : sayL (.rd a) = sl at *
        unfold wordsC at h4
        have hs2 := strOf_size (hx a)
        repeat' (first | refine a_seq ?_ | refine ar_step ?_ | refine a_block ?_ | refine a_skip ?_ | refine a_exit ?_ | refine a_ret ?_ | refine a_label ?_ | refine a_scope ?_ | refine a_region ?_ | refine rU (ev := ?_) | refine rN (ev := ?_) | refine rA (ev := ?_) | refine rT (ev := ?_) | refine rR (ev := ?_) | refine rO (ev := ?_) | refine at_normal ?_ | refine at_exit ?_ | refine at_ret ?_ | refine ab_normal ?_ | refine ab_ret ?_ | refine ab_same ?_ | refine ab_other rfl ?_ | refine ao_nil ?_ | refine EvK.nil ?_ | refine EvU.nil ?_ | refine EvU.alloc rfl rfl ?_ | refine EvU.store rfl rfl rfl rfl rfl (by first | exact .un rfl (by first | assumption | exact And.left (by assumption)) | exact .of rfl) rfl rfl rfl rfl rfl ?_ | refine tailA_k rfl rfl ?_ | refine tailA_k trivial rfl ?_ | refine tailA_k trivial (by kernel_rfl) ?_ | (refine a_cond rfl (fun hb => ?_) (fun hb => ?_) <;> (try simp only [reduceCtorEq, ne_eq, decs] at hb) <;> (try (exfalso; omega)) <;> (try exact (bool_ft hb (by assumption)).elim) <;> (try exact (bool_ft (by assumption) hb).elim)) | refine ao_alloc' (next := ?_) | refine ao_box' (next := ?_) | refine ao_store (next := ?_) | refine ao_store_own (next := ?_) | refine ao_store_ownR (next := ?_) | refine ao_append_same (next := ?_) | refine ao_append_nil (next := ?_) | refine ao_append_new (next := ?_) | refine ao_mkErr (next := ?_) | refine ao_clip (next := ?_) | refine ao_store_arr (next := ?_) | ((first | (apply ao_op rfl rfl (.plain rfl ?_) ?_; rotate_left) | (apply EvK.cons rfl (.plain rfl ?_) ?_; rotate_left) | (apply EvU.plain rfl rfl rfl ?_ ?_; rotate_left) | (apply ao_op rfl rfl (.guard rfl rfl rfl fun hg => ?_) ?_; rotate_right) | (apply ao_op rfl rfl (.guardw rfl rfl rfl fun hg => ?_) ?_; rotate_right) | (apply EvK.cons rfl (.guard rfl rfl rfl fun hg => ?_) ?_; rotate_right) | (apply EvK.cons rfl (.guardw rfl rfl rfl fun hg => ?_) ?_; rotate_right)); (first | exact sop_falseL (by first | (revert hg; decide) | (simp at hg; done) | fail) | ((try (have hg2 := hg; simp only [reduceCtorEq, ne_eq, decs] at hg2)); (first | (apply sop_callC (awake_con) <;> first | exact sd) | (apply sop_callC (hlo) <;> first | exact sd) | exact sop_shr16u | exact sop_buildSlice (E := encS) | (apply sop_callNM (h1) <;> first | exact sd) | (apply sop_callNM (h2) <;> first | exact sd) | (apply sop_callNM (h3) <;> first | exact sd) | (apply sop_callNM (h4) <;> first | exact sd) | exact sop_neq_str | exact sop_std | exact sop_false (by revert hg; decide) | fail)) | fail)))
        · exfalso
          rcases hb with ((hb | hb) | hb) | hb
          · apply hb
            rw [hs, hle]
            show _ = IntKind.i64.wrap (IntKind.i64.wrap (4 + 3) + ((hexL a).length : Int))
            rw [show IntKind.i64.wrap (4 + 3) = 7 from by decide, wrapI (x := 7 + ((hexL a).length : Int)) (by omega) (by omega)]
            omega
          · simp at hb
          · exact hb rfl
          · exact hb (by show ((strOf (hx a)).size : Int) = _; rw [hs2]; omega)
        · refine ⟨4, ⟨by decide, by decide⟩, by decide, ?_⟩
          (refine ⟨?_, ?_⟩ <;> repeat (first | exact covL_nil | refine covL_dup rfl ?_ | refine covL_cons rfl rfl ?_ | refine covL_cons rfl (cov_int rfl (by omega)) ?_))
      · have hA : okA (.evict a) := ha
        have hO : okC (.evict a) = true := rfl
        have ec : cmdO ⟨4, a, [], 0⟩ = (.evict a) := rfl
        have h1 := make_nil 4 a 0
        rw [ec] at h1
        have hle : (sayL (.evict a)).length = 5 + 1 + (hx a).length := by simp only [sayL, List.length_append, List.length_cons, List.length_nil] <;> omega
        have h2 := say_ok (.evict a) hO hA
        have h3 := read_ok (.evict a) hO hA (by omega)
        have h4 := wsplit_con (sayL (.evict a)) (by omega)
        rw [spw_say _ hO] at h4
        have hs := strOf_size (sayL (.evict a))
        generalize hsl : sayL (.evict a) = sl at *
        unfold wordsC at h4
        have hs2 := strOf_size (hx a)
        repeat' (first | refine a_seq ?_ | refine ar_step ?_ | refine a_block ?_ | refine a_skip ?_ | refine a_exit ?_ | refine a_ret ?_ | refine a_label ?_ | refine a_scope ?_ | refine a_region ?_ | refine rU (ev := ?_) | refine rN (ev := ?_) | refine rA (ev := ?_) | refine rT (ev := ?_) | refine rR (ev := ?_) | refine rO (ev := ?_) | refine at_normal ?_ | refine at_exit ?_ | refine at_ret ?_ | refine ab_normal ?_ | refine ab_ret ?_ | refine ab_same ?_ | refine ab_other rfl ?_ | refine ao_nil ?_ | refine EvK.nil ?_ | refine EvU.nil ?_ | refine EvU.alloc rfl rfl ?_ | refine EvU.store rfl rfl rfl rfl rfl (by first | exact .un rfl (by first | assumption | exact And.left (by assumption)) | exact .of rfl) rfl rfl rfl rfl rfl ?_ | refine tailA_k rfl rfl ?_ | refine tailA_k trivial rfl ?_ | refine tailA_k trivial (by kernel_rfl) ?_ | (refine a_cond rfl (fun hb => ?_) (fun hb => ?_) <;> (try simp only [reduceCtorEq, ne_eq, decs] at hb) <;> (try (exfalso; omega)) <;> (try exact (bool_ft hb (by assumption)).elim) <;> (try exact (bool_ft (by assumption) hb).elim)) | refine ao_alloc' (next := ?_) | refine ao_box' (next := ?_) | refine ao_store (next := ?_) | refine ao_store_own (next := ?_) | refine ao_store_ownR (next := ?_) | refine ao_append_same (next := ?_) | refine ao_append_nil (next := ?_) | refine ao_append_new (next := ?_) | refine ao_mkErr (next := ?_) | refine ao_clip (next := ?_) | refine ao_store_arr (next := ?_) | ((first | (apply ao_op rfl rfl (.plain rfl ?_) ?_; rotate_left) | (apply EvK.cons rfl (.plain rfl ?_) ?_; rotate_left) | (apply EvU.plain rfl rfl rfl ?_ ?_; rotate_left) | (apply ao_op rfl rfl (.guard rfl rfl rfl fun hg => ?_) ?_; rotate_right) | (apply ao_op rfl rfl (.guardw rfl rfl rfl fun hg => ?_) ?_; rotate_right) | (apply EvK.cons rfl (.guard rfl rfl rfl fun hg => ?_) ?_; rotate_right) | (apply EvK.cons rfl (.guardw rfl rfl rfl fun hg => ?_) ?_; rotate_right)); (first | exact sop_falseL (by first | (revert hg; decide) | (simp at hg; done) | fail) | ((try (have hg2 := hg; simp only [reduceCtorEq, ne_eq, decs] at hg2)); (first | (apply sop_callC (awake_con) <;> first | exact sd) | (apply sop_callC (hlo) <;> first | exact sd) | exact sop_shr16u | exact sop_buildSlice (E := encS) | (apply sop_callNM (h1) <;> first | exact sd) | (apply sop_callNM (h2) <;> first | exact sd) | (apply sop_callNM (h3) <;> first | exact sd) | (apply sop_callNM (h4) <;> first | exact sd) | exact sop_neq_str | exact sop_std | exact sop_false (by revert hg; decide) | fail)) | fail)))
        · exfalso
          rcases hb with ((hb | hb) | hb) | hb
          · apply hb
            rw [hs, hle]
            show _ = IntKind.i64.wrap (IntKind.i64.wrap (5 + 3) + ((hexL a).length : Int))
            rw [show IntKind.i64.wrap (5 + 3) = 8 from by decide, wrapI (x := 8 + ((hexL a).length : Int)) (by omega) (by omega)]
            omega
          · simp at hb
          · exact hb rfl
          · exact hb (by show ((strOf (hx a)).size : Int) = _; rw [hs2]; omega)
        · refine ⟨5, ⟨by decide, by decide⟩, by decide, ?_⟩
          (refine ⟨?_, ?_⟩ <;> repeat (first | exact covL_nil | refine covL_dup rfl ?_ | refine covL_cons rfl rfl ?_ | refine covL_cons rfl (cov_int rfl (by omega)) ?_))
      · have hA : okA (.clean a) := ha
        have hO : okC (.clean a) = true := rfl
        have ec : cmdO ⟨5, a, [], 0⟩ = (.clean a) := rfl
        have h1 := make_nil 5 a 0
        rw [ec] at h1
        have hle : (sayL (.clean a)).length = 5 + 1 + (hx a).length := by simp only [sayL, List.length_append, List.length_cons, List.length_nil] <;> omega
        have h2 := say_ok (.clean a) hO hA
        have h3 := read_ok (.clean a) hO hA (by omega)
        have h4 := wsplit_con (sayL (.clean a)) (by omega)
        rw [spw_say _ hO] at h4
        have hs := strOf_size (sayL (.clean a))
        generalize hsl : sayL (.clean a) = sl at *
        unfold wordsC at h4
        have hs2 := strOf_size (hx a)
        repeat' (first | refine a_seq ?_ | refine ar_step ?_ | refine a_block ?_ | refine a_skip ?_ | refine a_exit ?_ | refine a_ret ?_ | refine a_label ?_ | refine a_scope ?_ | refine a_region ?_ | refine rU (ev := ?_) | refine rN (ev := ?_) | refine rA (ev := ?_) | refine rT (ev := ?_) | refine rR (ev := ?_) | refine rO (ev := ?_) | refine at_normal ?_ | refine at_exit ?_ | refine at_ret ?_ | refine ab_normal ?_ | refine ab_ret ?_ | refine ab_same ?_ | refine ab_other rfl ?_ | refine ao_nil ?_ | refine EvK.nil ?_ | refine EvU.nil ?_ | refine EvU.alloc rfl rfl ?_ | refine EvU.store rfl rfl rfl rfl rfl (by first | exact .un rfl (by first | assumption | exact And.left (by assumption)) | exact .of rfl) rfl rfl rfl rfl rfl ?_ | refine tailA_k rfl rfl ?_ | refine tailA_k trivial rfl ?_ | refine tailA_k trivial (by kernel_rfl) ?_ | (refine a_cond rfl (fun hb => ?_) (fun hb => ?_) <;> (try simp only [reduceCtorEq, ne_eq, decs] at hb) <;> (try (exfalso; omega)) <;> (try exact (bool_ft hb (by assumption)).elim) <;> (try exact (bool_ft (by assumption) hb).elim)) | refine ao_alloc' (next := ?_) | refine ao_box' (next := ?_) | refine ao_store (next := ?_) | refine ao_store_own (next := ?_) | refine ao_store_ownR (next := ?_) | refine ao_append_same (next := ?_) | refine ao_append_nil (next := ?_) | refine ao_append_new (next := ?_) | refine ao_mkErr (next := ?_) | refine ao_clip (next := ?_) | refine ao_store_arr (next := ?_) | ((first | (apply ao_op rfl rfl (.plain rfl ?_) ?_; rotate_left) | (apply EvK.cons rfl (.plain rfl ?_) ?_; rotate_left) | (apply EvU.plain rfl rfl rfl ?_ ?_; rotate_left) | (apply ao_op rfl rfl (.guard rfl rfl rfl fun hg => ?_) ?_; rotate_right) | (apply ao_op rfl rfl (.guardw rfl rfl rfl fun hg => ?_) ?_; rotate_right) | (apply EvK.cons rfl (.guard rfl rfl rfl fun hg => ?_) ?_; rotate_right) | (apply EvK.cons rfl (.guardw rfl rfl rfl fun hg => ?_) ?_; rotate_right)); (first | exact sop_falseL (by first | (revert hg; decide) | (simp at hg; done) | fail) | ((try (have hg2 := hg; simp only [reduceCtorEq, ne_eq, decs] at hg2)); (first | (apply sop_callC (awake_con) <;> first | exact sd) | (apply sop_callC (hlo) <;> first | exact sd) | exact sop_shr16u | exact sop_buildSlice (E := encS) | (apply sop_callNM (h1) <;> first | exact sd) | (apply sop_callNM (h2) <;> first | exact sd) | (apply sop_callNM (h3) <;> first | exact sd) | (apply sop_callNM (h4) <;> first | exact sd) | exact sop_neq_str | exact sop_std | exact sop_false (by revert hg; decide) | fail)) | fail)))
        · exfalso
          rcases hb with ((hb | hb) | hb) | hb
          · apply hb
            rw [hs, hle]
            show _ = IntKind.i64.wrap (IntKind.i64.wrap (5 + 3) + ((hexL a).length : Int))
            rw [show IntKind.i64.wrap (5 + 3) = 8 from by decide, wrapI (x := 8 + ((hexL a).length : Int)) (by omega) (by omega)]
            omega
          · simp at hb
          · exact hb rfl
          · exact hb (by show ((strOf (hx a)).size : Int) = _; rw [hs2]; omega)
        · refine ⟨6, ⟨by decide, by decide⟩, by decide, ?_⟩
          (refine ⟨?_, ?_⟩ <;> repeat (first | exact covL_nil | refine covL_dup rfl ?_ | refine covL_cons rfl rfl ?_ | refine covL_cons rfl (cov_int rfl (by omega)) ?_))
      · have hA : okA (.exi a m) := ⟨ha, by omega, by omega⟩
        have hO : okC (.exi a m) = true := by simp [okC]; omega
        have ec : cmdO ⟨6, a, [], m⟩ = (.exi a m) := rfl
        have h1 := make_nil 6 a m
        rw [ec] at h1
        have hle : (sayL (.exi a m)).length = 6 + 1 + (hx a).length + (1 + (itoU m).length) := by simp only [sayL, List.length_append, List.length_cons, List.length_nil] <;> omega
        have h2 := say_ok (.exi a m) hO hA
        have h3 := read_ok (.exi a m) hO hA (by omega)
        have h4 := wsplit_con (sayL (.exi a m)) (by omega)
        rw [spw_say _ hO] at h4
        have hs := strOf_size (sayL (.exi a m))
        generalize hsl : sayL (.exi a m) = sl at *
        unfold wordsC at h4
        have hs2 := strOf_size (hx a)
        repeat' (first | refine a_seq ?_ | refine ar_step ?_ | refine a_block ?_ | refine a_skip ?_ | refine a_exit ?_ | refine a_ret ?_ | refine a_label ?_ | refine a_scope ?_ | refine a_region ?_ | refine rU (ev := ?_) | refine rN (ev := ?_) | refine rA (ev := ?_) | refine rT (ev := ?_) | refine rR (ev := ?_) | refine rO (ev := ?_) | refine at_normal ?_ | refine at_exit ?_ | refine at_ret ?_ | refine ab_normal ?_ | refine ab_ret ?_ | refine ab_same ?_ | refine ab_other rfl ?_ | refine ao_nil ?_ | refine EvK.nil ?_ | refine EvU.nil ?_ | refine EvU.alloc rfl rfl ?_ | refine EvU.store rfl rfl rfl rfl rfl (by first | exact .un rfl (by first | assumption | exact And.left (by assumption)) | exact .of rfl) rfl rfl rfl rfl rfl ?_ | refine tailA_k rfl rfl ?_ | refine tailA_k trivial rfl ?_ | refine tailA_k trivial (by kernel_rfl) ?_ | (refine a_cond rfl (fun hb => ?_) (fun hb => ?_) <;> (try simp only [reduceCtorEq, ne_eq, decs] at hb) <;> (try (exfalso; omega)) <;> (try exact (bool_ft hb (by assumption)).elim) <;> (try exact (bool_ft (by assumption) hb).elim)) | refine ao_alloc' (next := ?_) | refine ao_box' (next := ?_) | refine ao_store (next := ?_) | refine ao_store_own (next := ?_) | refine ao_store_ownR (next := ?_) | refine ao_append_same (next := ?_) | refine ao_append_nil (next := ?_) | refine ao_append_new (next := ?_) | refine ao_mkErr (next := ?_) | refine ao_clip (next := ?_) | refine ao_store_arr (next := ?_) | ((first | (apply ao_op rfl rfl (.plain rfl ?_) ?_; rotate_left) | (apply EvK.cons rfl (.plain rfl ?_) ?_; rotate_left) | (apply EvU.plain rfl rfl rfl ?_ ?_; rotate_left) | (apply ao_op rfl rfl (.guard rfl rfl rfl fun hg => ?_) ?_; rotate_right) | (apply ao_op rfl rfl (.guardw rfl rfl rfl fun hg => ?_) ?_; rotate_right) | (apply EvK.cons rfl (.guard rfl rfl rfl fun hg => ?_) ?_; rotate_right) | (apply EvK.cons rfl (.guardw rfl rfl rfl fun hg => ?_) ?_; rotate_right)); (first | exact sop_falseL (by first | (revert hg; decide) | (simp at hg; done) | fail) | ((try (have hg2 := hg; simp only [reduceCtorEq, ne_eq, decs] at hg2)); (first | (apply sop_callC (awake_con) <;> first | exact sd) | (apply sop_callC (hlo) <;> first | exact sd) | exact sop_shr16u | exact sop_buildSlice (E := encS) | (apply sop_callNM (h1) <;> first | exact sd) | (apply sop_callNM (h2) <;> first | exact sd) | (apply sop_callNM (h3) <;> first | exact sd) | (apply sop_callNM (h4) <;> first | exact sd) | exact sop_neq_str | exact sop_std | exact sop_false (by revert hg; decide) | fail)) | fail)))
        · exfalso
          rcases hb with ((hb | hb) | hb) | hb
          · apply hb
            rw [hs, hle]
            show _ = IntKind.i64.wrap (IntKind.i64.wrap (IntKind.i64.wrap (IntKind.i64.wrap (6 + 3) + ((hexL a).length : Int)) + 1) + T)
            rw [show IntKind.i64.wrap (6 + 3) = 9 from by decide, wrapI (x := 9 + ((hexL a).length : Int)) (by omega) (by omega), wrapI (x := 9 + ((hexL a).length : Int) + 1) (by omega) (by omega), wrapI (x := 9 + ((hexL a).length : Int) + 1 + T) (by omega) (by omega)]
            omega
          · simp at hb
          · exact hb rfl
          · exact hb (by show ((strOf (hx a)).size : Int) = _; rw [hs2]; omega)
        · refine ⟨7, ⟨by decide, by decide⟩, by decide, ?_⟩
          (refine ⟨?_, ?_⟩ <;> repeat (first | exact covL_nil | refine covL_dup rfl ?_ | refine covL_cons rfl rfl ?_ | refine covL_cons rfl (cov_int rfl (by omega)) ?_))
theorem words_long_all (a : Nat) (d : List UInt8) (m0 : Int) (ha : a < 18446744073709551616) (hd : d.length ≤ 9223372036854775807) : Con Tryd.prog 7 [.lit (.int .u64 (a : Int)), .snap (slF encU d), .lit (.int .i64 m0)] [] (fun az hz => az = .lit (.bool true) ∧ hz = []) := by
  by_cases h : d.length ≤ 256
  · exact words_long a d m0 ha h
  · exact words_long_big a d m0 ha h hd
end Go.Proofs.YtgiicfjibngooaaDoor
