/- Two parts are merged. -/
import Derived.Test.YtbahngmjbpaglaaS4B
import Derived.Test.YtbahngmjbpaglaaS5B
import Derived.Test.YtbahngmjbpaglaaSm
namespace Go.Proofs.Ytbahngmjbpaglaa
open Go Go.RowKit
set_option linter.unusedVariables false
set_option linter.unusedSimpArgs false
set_option maxRecDepth 10000 in
set_option maxHeartbeats 4000000 in
theorem sym3bB (le : Blk → Blk → Bool) (ho : LO le) (dom : Blk → Prop) (cmp : Blk → Blk → Int) (N : Nat) (ih : ∀ (P L R Q D Z : List Blk) (hD : D = P ++ L ++ R ++ Q) (hZ : Z = P ++ srt le (L ++ R) ++ Q) (a m b : Int) (ha : a = (P.length : Int)) (hm : m = (P.length : Int) + (L.length : Int)) (hb : b = (P.length : Int) + (L.length : Int) + (R.length : Int)) (hl : D.length ≤ 100000) (hL0 : 0 < L.length) (hR0 : 0 < R.length) (hN : L.length + R.length ≤ N) (hsL : Sd le L) (hsR : Sd le R) (hag : Agr cmp le L R) (hdL : ∀ x ∈ L, dom x) (hdR : ∀ x ∈ R, dom x), Con Try.prog 57 [.own 0, .lit (.int .i64 a), .lit (.int .i64 m), .lit (.int .i64 b), .snap (fnF Try.prog (cspB dom cmp))] [(0, .own 42 encB (D))] (fun az hz => az = .tup [] ∧ hz = [(0, .own 42 encB (Z))])) (P L R Q D Z : List Blk) (hD : D = P ++ L ++ R ++ Q) (hZ : Z = P ++ srt le (L ++ R) ++ Q) (a m b : Int) (ha : a = (P.length : Int)) (hm : m = (P.length : Int) + (L.length : Int)) (hb : b = (P.length : Int) + (L.length : Int) + (R.length : Int)) (hl : D.length ≤ 100000) (hL0 : 0 < L.length) (hR0 : 0 < R.length) (hN : L.length + R.length ≤ N + 1) (hsL : Sd le L) (hsR : Sd le R) (hag : Agr cmp le L R) (hdL : ∀ x ∈ L, dom x) (hdR : ∀ x ∈ R, dom x) (h0 : 2 ≤ L.length) (h1 : 2 ≤ R.length) (hc : ¬ (L.length + R.length) / 2 < L.length) : Con Try.prog 57 [.own 0, .lit (.int .i64 a), .lit (.int .i64 m), .lit (.int .i64 b), .snap (fnF Try.prog (cspB dom cmp))] [(0, .own 42 encB (D))] (fun az hz => az = .tup [] ∧ hz = [(0, .own 42 encB (Z))]) := by
  refine con_of hT Try.func57 rfl rfl rfl rfl rfl rfl ?_
  intro c
  have hT := hT
  have hZ := hZ
  subst ha hm hb
  have hl' := hl
  rw [hD] at hl'
  simp only [List.length_append] at hl'
  have hDl : D.length = P.length + L.length + R.length + Q.length := by rw [hD]; simp only [List.length_append]
  have hnL : ∀ t, t < L.length → nth D (P.length + t) = nth L t := fun t ht => by
    rw [hD, List.append_assoc, List.append_assoc, nth_app_r, nth_app_l _ _ _ ht]
  have hnR : ∀ t, t < R.length → nth D (P.length + L.length + t) = nth R t := fun t ht => by
    rw [hD, List.append_assoc, ← List.length_append, nth_app_r, nth_app_l _ _ _ ht]
  have hdD : ∀ i : Nat, P.length ≤ i → i < P.length + L.length + R.length → dom (nth D i) := fun i h1 h2 => by
    obtain ⟨j, rfl⟩ : ∃ j, i = P.length + j := ⟨i - P.length, by omega⟩
    rcases Nat.lt_or_ge j L.length with h3 | h3
    · rw [hnL j h3, nth_eq h3]; exact hdL _ (List.getElem_mem h3)
    · obtain ⟨q, rfl⟩ : ∃ q, j = L.length + q := ⟨j - L.length, by omega⟩
      rw [← Nat.add_assoc, hnR q (by omega), nth_eq (show q < R.length by omega)]; exact hdR _ (List.getElem_mem (by omega))
  obtain ⟨h, hh⟩ : ∃ h, h = (L.length + R.length) / 2 := ⟨_, rfl⟩
  have eMi : ((P.length : Int) + ((P.length : Int) + (L.length : Int) + (R.length : Int))) / 2 ^ 1 = ((P.length + h : Nat) : Int) := by omega
  rw [← hh] at hc
  obtain ⟨s0, hs0⟩ : ∃ s0 : Nat, s0 = 0 := ⟨_, rfl⟩
  obtain ⟨r0, hr0⟩ : ∃ r0 : Nat, r0 = L.length := ⟨_, rfl⟩
  have hk0 : s0 ≤ r0 := by omega
  have hk1 : r0 ≤ L.length := by omega
  have hk2 : s0 = 0 ∨ h = s0 + R.length := by omega
  have hk3 : r0 = h ∨ r0 = L.length := by omega
  have hk4 : r0 ≤ h := by omega
  have hk5 : h ≤ s0 + R.length := by omega
  repeat' (first | refine a_region_X [0] (id := 11) (by kernel_rfl) (by kernel_rfl) (by kernel_rfl) (by kernel_rfl) ?_ | refine a_region_X [0] (id := 23) (by kernel_rfl) (by kernel_rfl) (by kernel_rfl) (by kernel_rfl) ?_ | refine a_seq ?_ | refine ar_step ?_ | refine a_block ?_ | refine a_skip ?_ | refine a_exit ?_ | refine a_ret ?_ | refine a_label ?_ | refine a_scope ?_ | refine a_region ?_ | refine a_region_U' rfl (by kernel_rfl) (by kernel_rfl) (by kernel_rfl) (by kernel_rfl) (by assumption) (by assumption) rfl ?_ | refine a_region_tailN rfl rfl (by kernel_rfl) (by kernel_rfl) (by kernel_rfl) (by kernel_rfl) (by assumption) rfl rfl ?_ | refine a_region_tailA rfl rfl (by kernel_rfl) (by kernel_rfl) (by kernel_rfl) (by kernel_rfl) (by assumption) rfl rfl rfl ?_ | refine a_region_tail rfl (by kernel_rfl) (by kernel_rfl) (by kernel_rfl) (by kernel_rfl) ?_ | refine a_region_tailR rfl (by kernel_rfl) (by kernel_rfl) (by kernel_rfl) (by kernel_rfl) ?_ | refine a_region_any (by kernel_rfl) (by kernel_rfl) (by kernel_rfl) ?_ | refine at_normal ?_ | refine at_exit ?_ | refine at_ret ?_ | refine ab_normal ?_ | refine ab_ret ?_ | refine ab_same ?_ | refine ab_other rfl ?_ | refine ao_nil ?_ | refine EvK.nil ?_ | refine EvU.nil ?_ | refine EvU.alloc rfl rfl ?_ | refine EvU.store rfl rfl rfl rfl rfl (by first | exact .un rfl (by first | assumption | exact And.left (by assumption)) | exact .of rfl) rfl rfl rfl rfl rfl ?_ | refine tailA_k rfl rfl ?_ | refine tailA_k trivial rfl ?_ | refine tailA_k trivial (by kernel_rfl) ?_ | (refine a_cond rfl (fun hb => ?_) (fun hb => ?_) <;> (try simp only [reduceCtorEq, bne_self_eq_false, not_true_eq_false, not_false_eq_true, or_self, and_false, false_and, or_true, true_or, or_false, false_or, and_true, true_and, and_self, decide_eq_true_eq, decide_eq_false_iff_not, Bool.and_eq_true, Bool.or_eq_true, Bool.or_eq_false_iff, Bool.and_eq_false_iff, Bool.not_eq_true', Bool.not_eq_false', Bool.not_true, Bool.not_false, ne_eq, Classical.not_not, Nat.not_lt, Int.not_lt, Int.not_le] at hb) <;> (try (exfalso; omega)) <;> (try exact (bool_ft hb (by assumption)).elim) <;> (try exact (bool_ft (by assumption) hb).elim)) | refine EvX.nil ?_ | refine evx_eff' rfl (by first | exact .none rfl | exact .yes rfl rfl rfl | exact .yesw rfl rfl rfl (by first | assumption | rfl)) (by intro rest ops Q h; (first | exact ao_append_same (next := ao_nil h) | exact ao_append_new (next := ao_nil h) | exact ao_append_nil (next := by rw [markF_idem]; exact ao_nil h))) (by rfl) ?_ | fail | refine evx_effU' rfl (by first | exact .none rfl | exact .yes rfl rfl rfl | exact .yesw rfl rfl rfl (by first | assumption | rfl)) (by intro rest ops Q h; (first | exact ao_store (next := ao_nil h) | exact ao_store_own (next := ao_nil h) | exact ao_store_ownR (next := ao_nil h) | exact ao_store_arr (next := ao_nil h))) (by rfl) ?_ | refine ao_alloc' (next := ?_) | refine ao_box' (next := ?_) | refine ao_store (next := ?_) | refine ao_store_own (next := ?_) | refine ao_store_ownR (next := ?_) | refine ao_append_same (next := ?_) | refine ao_append_nil (next := ?_) | refine ao_append_new (next := ?_) | refine ao_mkErr (next := ?_) | refine ao_clip (next := ?_) | refine ao_store_arr (next := ?_) | ((first | (apply ao_op rfl rfl (.plain rfl ?_) ?_; rotate_left) | (apply EvK.cons rfl (.plain rfl ?_) ?_; rotate_left) | (apply EvU.plain rfl rfl rfl ?_ ?_; rotate_left) | (apply evx_plain rfl (.plain rfl ?_) ?_; rotate_left) | (apply ao_op rfl rfl (.guard rfl rfl rfl fun hg => ?_) ?_; rotate_right) | (apply ao_op rfl rfl (.guardw rfl rfl rfl fun hg => ?_) ?_; rotate_right) | (apply EvK.cons rfl (.guard rfl rfl rfl fun hg => ?_) ?_; rotate_right) | (apply EvK.cons rfl (.guardw rfl rfl rfl fun hg => ?_) ?_; rotate_right) | (apply evx_plain rfl (.guard rfl rfl rfl fun hg => ?_) ?_; rotate_right) | (apply evx_plain rfl (.guardw rfl rfl rfl fun hg => ?_) ?_; rotate_right)); (try (have hg2 := hg; simp only [reduceCtorEq, bne_self_eq_false, not_true_eq_false, not_false_eq_true, or_self, and_false, false_and, or_true, true_or, or_false, false_or, and_true, true_and, and_self, decide_eq_true_eq, decide_eq_false_iff_not, Bool.and_eq_true, Bool.or_eq_true, Bool.or_eq_false_iff, Bool.and_eq_false_iff, Bool.not_eq_true', Bool.not_eq_false', Bool.not_true, Bool.not_false, ne_eq, Classical.not_not, Nat.not_lt, Int.not_lt, Int.not_le] at hg2)); (first | (apply sop_callfC (cspB_mk (hdD _ ?_ ?_) (hdD _ ?_ ?_)) <;> first | exact sd) | exact sop_std | exact sop_false (by revert hg; decide) | fail)) | (apply ao_callSM [(0, 0)] (hrot _ _ _ ?_ ?_ ?_ ?_ ?_) <;> first | exact sd0 | assumption | rfl | refine aops_id ?_) | (apply ao_callSM [(0, 0)] (hleftX _ _ _ ?_ ?_ ?_ ?_ ?_) <;> first | exact sd0 | assumption | rfl | refine aops_id ?_) | (apply ao_callSM [(0, 0)] (hleftD () ?_ _ _ _ ?_ ?_ ?_ ?_ ?_) <;> first | exact sd0 | assumption | rfl | refine aops_id ?_) | (apply ao_callSM [(0, 0)] (hrightY _ _ _ ?_ ?_ ?_ ?_ ?_) <;> first | exact sd0 | assumption | rfl | refine aops_id ?_) | (apply ao_callSM [(0, 0)] (hrightX () ?_ _ _ _ ?_ ?_ ?_ ?_ ?_) <;> first | exact sd0 | assumption | rfl | refine aops_id ?_) | (apply ao_callSM [(0, 0)] (hrightD () ?_ ?_ _ _ _ ?_ ?_ ?_ ?_ ?_) <;> first | exact sd0 | assumption | rfl | refine aops_id ?_) | ((apply evx_full rfl (.plain rfl ?_) ?_; rotate_left); (first | (apply sop_callfC (cspB_mk (hdD _ ?_ ?_) (hdD _ ?_ ?_)) <;> first | exact sd) | exact sop_std | exact sop_false (by revert hg; decide) | fail)) | fail)
  rw [eMi]
  refine a_loop (ι := Nat × Nat) (fun k => [(20, .lit (.int .i64 ((P.length + k.1 : Nat) : Int))), (21, .lit (.int .i64 ((P.length + k.2 : Nat) : Int)))]) (fun _ => []) (fun k => s0 ≤ k.1 ∧ k.1 ≤ k.2 ∧ k.2 ≤ r0 ∧ (k.1 = s0 ∨ le (nth L (k.1 - 1)) (nth R (h - k.1)) = true) ∧ (k.2 = r0 ∨ le (nth L k.2) (nth R (h - 1 - k.2)) = false)) (fun k => k.2 - k.1) (s0, r0) ⟨Nat.le_refl _, hk0, Nat.le_refl _, .inl rfl, .inl rfl⟩ ?_ ?_
  · dsimp only
    (refine ⟨?_, ?_⟩ <;> repeat (first | exact covL_nil | refine covL_dup rfl ?_ | refine covL_cons rfl rfl ?_ | refine covL_cons rfl (cov_int rfl (by omega)) ?_))
  rintro ⟨lo, hi⟩ ⟨hs, hlo, hhi, hc1, hc2⟩
  dsimp only at hs hlo hhi hc1 hc2 ⊢
  by_cases hlh : lo < hi
  · have hmL : (lo + hi) / 2 < L.length := by omega
    have hmR : h - 1 - (lo + hi) / 2 < R.length := by omega
    have hag' := hag.at hmL hmR
    have e1 : (P.length + lo + (P.length + hi)) / 2 ^ 1 = P.length + (lo + hi) / 2 := by omega
    repeat' (first | refine a_region_X [0] (id := 11) (by kernel_rfl) (by kernel_rfl) (by kernel_rfl) (by kernel_rfl) ?_ | refine a_region_X [0] (id := 23) (by kernel_rfl) (by kernel_rfl) (by kernel_rfl) (by kernel_rfl) ?_ | refine a_seq ?_ | refine ar_step ?_ | refine a_block ?_ | refine a_skip ?_ | refine a_exit ?_ | refine a_ret ?_ | refine a_label ?_ | refine a_scope ?_ | refine a_region ?_ | refine a_region_U' rfl (by kernel_rfl) (by kernel_rfl) (by kernel_rfl) (by kernel_rfl) (by assumption) (by assumption) rfl ?_ | refine a_region_tailN rfl rfl (by kernel_rfl) (by kernel_rfl) (by kernel_rfl) (by kernel_rfl) (by assumption) rfl rfl ?_ | refine a_region_tailA rfl rfl (by kernel_rfl) (by kernel_rfl) (by kernel_rfl) (by kernel_rfl) (by assumption) rfl rfl rfl ?_ | refine a_region_tail rfl (by kernel_rfl) (by kernel_rfl) (by kernel_rfl) (by kernel_rfl) ?_ | refine a_region_tailR rfl (by kernel_rfl) (by kernel_rfl) (by kernel_rfl) (by kernel_rfl) ?_ | refine a_region_any (by kernel_rfl) (by kernel_rfl) (by kernel_rfl) ?_ | refine at_normal ?_ | refine at_exit ?_ | refine at_ret ?_ | refine ab_normal ?_ | refine ab_ret ?_ | refine ab_same ?_ | refine ab_other rfl ?_ | refine ao_nil ?_ | refine EvK.nil ?_ | refine EvU.nil ?_ | refine EvU.alloc rfl rfl ?_ | refine EvU.store rfl rfl rfl rfl rfl (by first | exact .un rfl (by first | assumption | exact And.left (by assumption)) | exact .of rfl) rfl rfl rfl rfl rfl ?_ | refine tailA_k rfl rfl ?_ | refine tailA_k trivial rfl ?_ | refine tailA_k trivial (by kernel_rfl) ?_ | (refine a_cond rfl (fun hb => ?_) (fun hb => ?_) <;> (try simp only [reduceCtorEq, bne_self_eq_false, not_true_eq_false, not_false_eq_true, or_self, and_false, false_and, or_true, true_or, or_false, false_or, and_true, true_and, and_self, decide_eq_true_eq, decide_eq_false_iff_not, Bool.and_eq_true, Bool.or_eq_true, Bool.or_eq_false_iff, Bool.and_eq_false_iff, Bool.not_eq_true', Bool.not_eq_false', Bool.not_true, Bool.not_false, ne_eq, Classical.not_not, Nat.not_lt, Int.not_lt, Int.not_le] at hb) <;> (try (exfalso; omega)) <;> (try exact (bool_ft hb (by assumption)).elim) <;> (try exact (bool_ft (by assumption) hb).elim)) | refine EvX.nil ?_ | refine evx_eff' rfl (by first | exact .none rfl | exact .yes rfl rfl rfl | exact .yesw rfl rfl rfl (by first | assumption | rfl)) (by intro rest ops Q h; (first | exact ao_append_same (next := ao_nil h) | exact ao_append_new (next := ao_nil h) | exact ao_append_nil (next := by rw [markF_idem]; exact ao_nil h))) (by rfl) ?_ | fail | refine evx_effU' rfl (by first | exact .none rfl | exact .yes rfl rfl rfl | exact .yesw rfl rfl rfl (by first | assumption | rfl)) (by intro rest ops Q h; (first | exact ao_store (next := ao_nil h) | exact ao_store_own (next := ao_nil h) | exact ao_store_ownR (next := ao_nil h) | exact ao_store_arr (next := ao_nil h))) (by rfl) ?_ | refine ao_alloc' (next := ?_) | refine ao_box' (next := ?_) | refine ao_store (next := ?_) | refine ao_store_own (next := ?_) | refine ao_store_ownR (next := ?_) | refine ao_append_same (next := ?_) | refine ao_append_nil (next := ?_) | refine ao_append_new (next := ?_) | refine ao_mkErr (next := ?_) | refine ao_clip (next := ?_) | refine ao_store_arr (next := ?_) | ((first | (apply ao_op rfl rfl (.plain rfl ?_) ?_; rotate_left) | (apply EvK.cons rfl (.plain rfl ?_) ?_; rotate_left) | (apply EvU.plain rfl rfl rfl ?_ ?_; rotate_left) | (apply evx_plain rfl (.plain rfl ?_) ?_; rotate_left) | (apply ao_op rfl rfl (.guard rfl rfl rfl fun hg => ?_) ?_; rotate_right) | (apply ao_op rfl rfl (.guardw rfl rfl rfl fun hg => ?_) ?_; rotate_right) | (apply EvK.cons rfl (.guard rfl rfl rfl fun hg => ?_) ?_; rotate_right) | (apply EvK.cons rfl (.guardw rfl rfl rfl fun hg => ?_) ?_; rotate_right) | (apply evx_plain rfl (.guard rfl rfl rfl fun hg => ?_) ?_; rotate_right) | (apply evx_plain rfl (.guardw rfl rfl rfl fun hg => ?_) ?_; rotate_right)); (try (have hg2 := hg; simp only [reduceCtorEq, bne_self_eq_false, not_true_eq_false, not_false_eq_true, or_self, and_false, false_and, or_true, true_or, or_false, false_or, and_true, true_and, and_self, decide_eq_true_eq, decide_eq_false_iff_not, Bool.and_eq_true, Bool.or_eq_true, Bool.or_eq_false_iff, Bool.and_eq_false_iff, Bool.not_eq_true', Bool.not_eq_false', Bool.not_true, Bool.not_false, ne_eq, Classical.not_not, Nat.not_lt, Int.not_lt, Int.not_le] at hg2)); (first | (apply sop_callfC (cspB_mk (hdD _ ?_ ?_) (hdD _ ?_ ?_)) <;> first | exact sd) | exact sop_std | exact sop_false (by revert hg; decide) | fail)) | (apply ao_callSM [(0, 0)] (hrot _ _ _ ?_ ?_ ?_ ?_ ?_) <;> first | exact sd0 | assumption | rfl | refine aops_id ?_) | (apply ao_callSM [(0, 0)] (hleftX _ _ _ ?_ ?_ ?_ ?_ ?_) <;> first | exact sd0 | assumption | rfl | refine aops_id ?_) | (apply ao_callSM [(0, 0)] (hleftD () ?_ _ _ _ ?_ ?_ ?_ ?_ ?_) <;> first | exact sd0 | assumption | rfl | refine aops_id ?_) | (apply ao_callSM [(0, 0)] (hrightY _ _ _ ?_ ?_ ?_ ?_ ?_) <;> first | exact sd0 | assumption | rfl | refine aops_id ?_) | (apply ao_callSM [(0, 0)] (hrightX () ?_ _ _ _ ?_ ?_ ?_ ?_ ?_) <;> first | exact sd0 | assumption | rfl | refine aops_id ?_) | (apply ao_callSM [(0, 0)] (hrightD () ?_ ?_ _ _ _ ?_ ?_ ?_ ?_ ?_) <;> first | exact sd0 | assumption | rfl | refine aops_id ?_) | ((apply evx_full rfl (.plain rfl ?_) ?_; rotate_left); (first | (apply sop_callfC (cspB_mk (hdD _ ?_ ?_) (hdD _ ?_ ?_)) <;> first | exact sd) | exact sop_std | exact sop_false (by revert hg; decide) | fail)) | fail)
    · simp only [e1, hnL _ hmL] at hb
      have e2 : ∀ i : Nat, i = P.length + L.length + (h - 1 - (lo + hi) / 2) → nth D i = nth R (h - 1 - (lo + hi) / 2) := fun i hi => by rw [hi, hnR _ hmR]
      rw [e2 _ (by omega)] at hb
      have h5 : le (nth L ((lo + hi) / 2)) (nth R (h - 1 - (lo + hi) / 2)) = true := by
        cases h6 : le (nth L ((lo + hi) / 2)) (nth R (h - 1 - (lo + hi) / 2)) with
        | true => rfl
        | false =>
          have := hag'.2 h6
          omega
      refine ⟨((lo + hi) / 2 + 1, hi), ⟨by show s0 ≤ (lo + hi) / 2 + 1; omega, by show (lo + hi) / 2 + 1 ≤ hi; omega, hhi, .inr ?_, hc2⟩, by show hi - ((lo + hi) / 2 + 1) < hi - lo; omega, ?_⟩
      · show le (nth L ((lo + hi) / 2 + 1 - 1)) (nth R (h - ((lo + hi) / 2 + 1))) = true
        rw [show (lo + hi) / 2 + 1 - 1 = (lo + hi) / 2 from by omega, show h - ((lo + hi) / 2 + 1) = h - 1 - (lo + hi) / 2 from by omega]
        exact h5
      dsimp only
      (refine ⟨?_, ?_⟩ <;> repeat (first | exact covL_nil | refine covL_dup rfl ?_ | refine covL_cons rfl rfl ?_ | refine covL_cons rfl (cov_int rfl (by omega)) ?_))
    · simp only [e1, hnL _ hmL] at hb
      have e2 : ∀ i : Nat, i = P.length + L.length + (h - 1 - (lo + hi) / 2) → nth D i = nth R (h - 1 - (lo + hi) / 2) := fun i hi => by rw [hi, hnR _ hmR]
      rw [e2 _ (by omega)] at hb
      have h5 := hag'.1 hb
      refine ⟨(lo, (lo + hi) / 2), ⟨hs, by show lo ≤ (lo + hi) / 2; omega, by show (lo + hi) / 2 ≤ _; omega, hc1, .inr h5⟩, by show (lo + hi) / 2 - lo < hi - lo; omega, ?_⟩
      dsimp only
      (refine ⟨?_, ?_⟩ <;> repeat (first | exact covL_nil | refine covL_dup rfl ?_ | refine covL_cons rfl rfl ?_ | refine covL_cons rfl (cov_int rfl (by omega)) ?_))
  · obtain rfl : lo = hi := by omega
    obtain ⟨v, hv⟩ : ∃ v, v = h - lo := ⟨_, rfl⟩
    have hvR : v ≤ R.length := by omega
    have hvh : lo + v = h := by omega
    have hsm := sm_cross ho hsL hsR (u := lo) (v := v) (by omega) hvR (by
      rcases hc1 with h5 | h5
      · rcases hk2 with h6 | h6
        · exact .inl (by omega)
        · exact .inr (.inl (by omega))
      · exact .inr (.inr (by rw [hv]; exact h5))) (by
      rcases hc2 with h5 | h5
      · rcases hk3 with h6 | h6
        · exact .inl (by omega)
        · exact .inr (.inl (by omega))
      · exact .inr (.inr (by rw [hv, show h - lo - 1 = h - 1 - lo from by omega]; exact h5)))
    obtain ⟨L1, hL1⟩ : ∃ x, x = L.take lo := ⟨_, rfl⟩
    obtain ⟨L2, hL2⟩ : ∃ x, x = L.drop lo := ⟨_, rfl⟩
    obtain ⟨R1, hR1⟩ : ∃ x, x = R.take v := ⟨_, rfl⟩
    obtain ⟨R2, hR2⟩ : ∃ x, x = R.drop v := ⟨_, rfl⟩
    have hLL : L = L1 ++ L2 := by rw [hL1, hL2, List.take_append_drop]
    have hRR : R = R1 ++ R2 := by rw [hR1, hR2, List.take_append_drop]
    have l1 : L1.length = lo := by rw [hL1, List.length_take]; omega
    have l2 : L2.length = L.length - lo := by rw [hL2, List.length_drop]
    have l3 : R1.length = v := by rw [hR1, List.length_take]; omega
    have l4 : R2.length = R.length - v := by rw [hR2, List.length_drop]
    rw [← hL1, ← hL2, ← hR1, ← hR2] at hsm
    obtain ⟨X, hX⟩ : ∃ X, X = P ++ L1 ++ R1 ++ (L2 ++ R2 ++ Q) := ⟨_, rfl⟩
    obtain ⟨Y, hY⟩ : ∃ Y, Y = P ++ srt le (L1 ++ R1) ++ (L2 ++ R2 ++ Q) := ⟨_, rfl⟩
    have hX' : X = (P ++ L1) ++ R1 ++ L2 ++ (R2 ++ Q) := by rw [hX]; simp only [List.append_assoc]
    have hY' : Y = (P ++ srt le (L1 ++ R1)) ++ L2 ++ R2 ++ Q := by rw [hY]; simp only [List.append_assoc]
    have hZ' : Z = (P ++ srt le (L1 ++ R1)) ++ srt le (L2 ++ R2) ++ Q := by rw [hZ, ← hsm]; simp only [List.append_assoc]
    have hD1 : D = (P ++ L1) ++ L2 ++ R1 ++ (R2 ++ Q) := by rw [hD, hLL, hRR]; simp only [List.append_assoc]
    have hXl : X.length = D.length := by rw [hX, hD1]; simp only [List.length_append]; omega
    have hYl : Y.length = D.length := by rw [hY, hD1]; simp only [List.length_append, srt_len]; omega
    have sL := hsL
    have sR := hsR
    have hag2 := hag
    rw [hLL] at sL hag2
    rw [hRR] at sR hag2
    have nilL : lo = 0 → L1 = [] := fun h7 => List.eq_nil_of_length_eq_zero (by omega)
    have nilR : v = 0 → R1 = [] := fun h7 => List.eq_nil_of_length_eq_zero (by omega)
    have nilL2 : L.length ≤ lo → L2 = [] := fun h7 => List.eq_nil_of_length_eq_zero (by omega)
    have nilR2 : R.length ≤ v → R2 = [] := fun h7 => List.eq_nil_of_length_eq_zero (by omega)
    have eDX : Unit → L.length ≤ lo ∨ v = 0 → D = X := fun _ h7 => by
      rcases h7 with h7 | h7
      · rw [hD1, hX', nilL2 h7]; simp only [List.append_nil]
      · rw [hD1, hX', nilR h7]; simp only [List.append_nil]
    have eXY : Unit → lo = 0 ∨ v = 0 → X = Y := fun _ h7 => by
      rcases h7 with h7 | h7
      · rw [hX, hY, nilL h7, List.nil_append, srt_id ho sR.left]; simp only [List.append_nil, List.append_assoc]
      · rw [hX, hY, nilR h7, List.append_nil, List.append_nil, srt_id ho sL.left]
    have eYZ : Unit → L.length ≤ lo ∨ R.length ≤ v → Y = Z := fun _ h7 => by
      rcases h7 with h7 | h7
      · rw [hY', hZ', nilL2 h7, List.nil_append, srt_id ho sR.right]; simp only [List.append_nil]
      · rw [hY', hZ', nilR2 h7, List.append_nil, List.append_nil, srt_id ho sL.right]
    have hrot := fun a m b h1 h2 h3 h4 h5 => rot_conB (P ++ L1) L2 R1 (R2 ++ Q) D X hD1 hX' a m b h1 h2 h3 dom cmp hl h4 h5
    rw [List.length_append, l1, l2, l3] at hrot
    have hleft := fun D' h0 a m b h1 h2 h3 h4 h5 => ih P L1 R1 (L2 ++ R2 ++ Q) D' Y (show D' = P ++ L1 ++ R1 ++ (L2 ++ R2 ++ Q) from h0) hY a m b h1 h2 h3 (by rw [h0, ← hX, hXl]; exact hl) h4 h5 (by omega) sL.left sR.left (hag2.sub (fun x hx => List.mem_append_left _ hx) (fun x hx => List.mem_append_left _ hx)) (fun x hx => hdL x (by rw [hLL]; exact List.mem_append_left _ hx)) (fun x hx => hdR x (by rw [hRR]; exact List.mem_append_left _ hx))
    have hright := fun D' h0 a m b h1 h2 h3 h4 h5 => ih (P ++ srt le (L1 ++ R1)) L2 R2 Q D' Z (show D' = (P ++ srt le (L1 ++ R1)) ++ L2 ++ R2 ++ Q from h0) hZ' a m b h1 h2 h3 (by rw [h0, ← hY', hYl]; exact hl) h4 h5 (by omega) sL.right sR.right (hag2.sub (fun x hx => List.mem_append_right _ hx) (fun x hx => List.mem_append_right _ hx)) (fun x hx => hdL x (by rw [hLL]; exact List.mem_append_right _ hx)) (fun x hx => hdR x (by rw [hRR]; exact List.mem_append_right _ hx))
    have hleftX := hleft X hX
    have hleftD := fun (_ : Unit) (h7 : L.length ≤ lo ∨ v = 0) => hleft D ((eDX () h7).trans hX)
    have hrightY := hright Y hY'
    have hrightX := fun (_ : Unit) (h7 : lo = 0 ∨ v = 0) => hright X ((eXY () h7).trans hY')
    have hrightD := fun (_ : Unit) (h7 : L.length ≤ lo ∨ v = 0) (h8 : lo = 0 ∨ v = 0) => hright D ((eDX () h7).trans ((eXY () h8).trans hY'))
    rw [l1, l3] at hleftX hleftD
    rw [List.length_append, srt_len, List.length_append, l1, l3, l2, l4] at hrightY hrightX hrightD
    clear hleft hright ih hc1 hc2 hk2 hk3 hnL hnR hdD hag hag2 nilL nilR nilL2 nilR2 hdL hdR hsL hsR sL sR hsm hD1 hX' hY' hZ' hX hY hLL hRR hD hZ eMi hs hhi hlo hlh
    have oe : ∀ W, W = Z → ([(0, .own 42 encB W)] : List (Nat × Res)) = [(0, .own 42 encB Z)] := fun W h => h ▸ rfl
    repeat' (first | refine a_region_X [0] (id := 11) (by kernel_rfl) (by kernel_rfl) (by kernel_rfl) (by kernel_rfl) ?_ | refine a_region_X [0] (id := 23) (by kernel_rfl) (by kernel_rfl) (by kernel_rfl) (by kernel_rfl) ?_ | refine a_seq ?_ | refine ar_step ?_ | refine a_block ?_ | refine a_skip ?_ | refine a_exit ?_ | refine a_ret ?_ | refine a_label ?_ | refine a_scope ?_ | refine a_region ?_ | refine a_region_U' rfl (by kernel_rfl) (by kernel_rfl) (by kernel_rfl) (by kernel_rfl) (by assumption) (by assumption) rfl ?_ | refine a_region_tailN rfl rfl (by kernel_rfl) (by kernel_rfl) (by kernel_rfl) (by kernel_rfl) (by assumption) rfl rfl ?_ | refine a_region_tailA rfl rfl (by kernel_rfl) (by kernel_rfl) (by kernel_rfl) (by kernel_rfl) (by assumption) rfl rfl rfl ?_ | refine a_region_tail rfl (by kernel_rfl) (by kernel_rfl) (by kernel_rfl) (by kernel_rfl) ?_ | refine a_region_tailR rfl (by kernel_rfl) (by kernel_rfl) (by kernel_rfl) (by kernel_rfl) ?_ | refine a_region_any (by kernel_rfl) (by kernel_rfl) (by kernel_rfl) ?_ | refine at_normal ?_ | refine at_exit ?_ | refine at_ret ?_ | refine ab_normal ?_ | refine ab_ret ?_ | refine ab_same ?_ | refine ab_other rfl ?_ | refine ao_nil ?_ | refine EvK.nil ?_ | refine EvU.nil ?_ | refine EvU.alloc rfl rfl ?_ | refine EvU.store rfl rfl rfl rfl rfl (by first | exact .un rfl (by first | assumption | exact And.left (by assumption)) | exact .of rfl) rfl rfl rfl rfl rfl ?_ | refine tailA_k rfl rfl ?_ | refine tailA_k trivial rfl ?_ | refine tailA_k trivial (by kernel_rfl) ?_ | (refine a_cond rfl (fun hb => ?_) (fun hb => ?_) <;> (try simp only [reduceCtorEq, bne_self_eq_false, not_true_eq_false, not_false_eq_true, or_self, and_false, false_and, or_true, true_or, or_false, false_or, and_true, true_and, and_self, decide_eq_true_eq, decide_eq_false_iff_not, Bool.and_eq_true, Bool.or_eq_true, Bool.or_eq_false_iff, Bool.and_eq_false_iff, Bool.not_eq_true', Bool.not_eq_false', Bool.not_true, Bool.not_false, ne_eq, Classical.not_not, Nat.not_lt, Int.not_lt, Int.not_le] at hb) <;> (try (exfalso; omega)) <;> (try exact (bool_ft hb (by assumption)).elim) <;> (try exact (bool_ft (by assumption) hb).elim)) | refine EvX.nil ?_ | refine evx_eff' rfl (by first | exact .none rfl | exact .yes rfl rfl rfl | exact .yesw rfl rfl rfl (by first | assumption | rfl)) (by intro rest ops Q h; (first | exact ao_append_same (next := ao_nil h) | exact ao_append_new (next := ao_nil h) | exact ao_append_nil (next := by rw [markF_idem]; exact ao_nil h))) (by rfl) ?_ | fail | refine evx_effU' rfl (by first | exact .none rfl | exact .yes rfl rfl rfl | exact .yesw rfl rfl rfl (by first | assumption | rfl)) (by intro rest ops Q h; (first | exact ao_store (next := ao_nil h) | exact ao_store_own (next := ao_nil h) | exact ao_store_ownR (next := ao_nil h) | exact ao_store_arr (next := ao_nil h))) (by rfl) ?_ | refine ao_alloc' (next := ?_) | refine ao_box' (next := ?_) | refine ao_store (next := ?_) | refine ao_store_own (next := ?_) | refine ao_store_ownR (next := ?_) | refine ao_append_same (next := ?_) | refine ao_append_nil (next := ?_) | refine ao_append_new (next := ?_) | refine ao_mkErr (next := ?_) | refine ao_clip (next := ?_) | refine ao_store_arr (next := ?_) | ((first | (apply ao_op rfl rfl (.plain rfl ?_) ?_; rotate_left) | (apply EvK.cons rfl (.plain rfl ?_) ?_; rotate_left) | (apply EvU.plain rfl rfl rfl ?_ ?_; rotate_left) | (apply evx_plain rfl (.plain rfl ?_) ?_; rotate_left) | (apply ao_op rfl rfl (.guard rfl rfl rfl fun hg => ?_) ?_; rotate_right) | (apply ao_op rfl rfl (.guardw rfl rfl rfl fun hg => ?_) ?_; rotate_right) | (apply EvK.cons rfl (.guard rfl rfl rfl fun hg => ?_) ?_; rotate_right) | (apply EvK.cons rfl (.guardw rfl rfl rfl fun hg => ?_) ?_; rotate_right) | (apply evx_plain rfl (.guard rfl rfl rfl fun hg => ?_) ?_; rotate_right) | (apply evx_plain rfl (.guardw rfl rfl rfl fun hg => ?_) ?_; rotate_right)); (try (have hg2 := hg; simp only [reduceCtorEq, bne_self_eq_false, not_true_eq_false, not_false_eq_true, or_self, and_false, false_and, or_true, true_or, or_false, false_or, and_true, true_and, and_self, decide_eq_true_eq, decide_eq_false_iff_not, Bool.and_eq_true, Bool.or_eq_true, Bool.or_eq_false_iff, Bool.and_eq_false_iff, Bool.not_eq_true', Bool.not_eq_false', Bool.not_true, Bool.not_false, ne_eq, Classical.not_not, Nat.not_lt, Int.not_lt, Int.not_le] at hg2)); (first | (apply sop_callfC (cspB_mk (hdD _ ?_ ?_) (hdD _ ?_ ?_)) <;> first | exact sd) | exact sop_std | exact sop_false (by revert hg; decide) | fail)) | (apply ao_callSM [(0, 0)] (hrot _ _ _ ?_ ?_ ?_ ?_ ?_) <;> first | exact sd0 | assumption | rfl | refine aops_id ?_) | (apply ao_callSM [(0, 0)] (hleftX _ _ _ ?_ ?_ ?_ ?_ ?_) <;> first | exact sd0 | assumption | rfl | refine aops_id ?_) | (apply ao_callSM [(0, 0)] (hleftD () ?_ _ _ _ ?_ ?_ ?_ ?_ ?_) <;> first | exact sd0 | assumption | rfl | refine aops_id ?_) | (apply ao_callSM [(0, 0)] (hrightY _ _ _ ?_ ?_ ?_ ?_ ?_) <;> first | exact sd0 | assumption | rfl | refine aops_id ?_) | (apply ao_callSM [(0, 0)] (hrightX () ?_ _ _ _ ?_ ?_ ?_ ?_ ?_) <;> first | exact sd0 | assumption | rfl | refine aops_id ?_) | (apply ao_callSM [(0, 0)] (hrightD () ?_ ?_ _ _ _ ?_ ?_ ?_ ?_ ?_) <;> first | exact sd0 | assumption | rfl | refine aops_id ?_) | ((apply evx_full rfl (.plain rfl ?_) ?_; rotate_left); (first | (apply sop_callfC (cspB_mk (hdD _ ?_ ?_) (hdD _ ?_ ?_)) <;> first | exact sd) | exact sop_std | exact sop_false (by revert hg; decide) | fail)) | fail)
    all_goals (first | refine aend0 (by first | exact .inl rfl | exact .inr rfl) [(0, .own 42 encB _)]  (by repeat (first | exact covL_nil | refine covL_dup rfl ?_ | refine covL_cons rfl rfl ?_)) ?_ | refine aend1 (by first | exact .inl rfl | exact .inr rfl) [(0, .own 42 encB _)] (by first | exact .tmp rfl | exact .cell rfl rfl rfl rfl rfl | exact .cellA rfl rfl rfl rfl rfl) (by repeat (first | exact covL_nil | refine covL_dup rfl ?_ | refine covL_cons rfl rfl ?_)) ?_ | refine aend2 (by first | exact .inl rfl | exact .inr rfl) [(0, .own 42 encB _)] (by first | exact .tmp rfl | exact .cell rfl rfl rfl rfl rfl | exact .cellA rfl rfl rfl rfl rfl) (by first | exact .tmp rfl | exact .cell rfl rfl rfl rfl rfl | exact .cellA rfl rfl rfl rfl rfl) (by repeat (first | exact covL_nil | refine covL_dup rfl ?_ | refine covL_cons rfl rfl ?_)) ?_ | refine aend3 (by first | exact .inl rfl | exact .inr rfl) [(0, .own 42 encB _)] (by first | exact .tmp rfl | exact .cell rfl rfl rfl rfl rfl | exact .cellA rfl rfl rfl rfl rfl) (by first | exact .tmp rfl | exact .cell rfl rfl rfl rfl rfl | exact .cellA rfl rfl rfl rfl rfl) (by first | exact .tmp rfl | exact .cell rfl rfl rfl rfl rfl | exact .cellA rfl rfl rfl rfl rfl) (by repeat (first | exact covL_nil | refine covL_dup rfl ?_ | refine covL_cons rfl rfl ?_)) ?_)
    all_goals exact ⟨rfl, oe _ (by first | rfl | exact eYZ () (by omega) | exact (eXY () (by omega)).trans (eYZ () (by omega)) | exact (eDX () (by omega)).trans ((eXY () (by omega)).trans (eYZ () (by omega))))⟩
end Go.Proofs.Ytbahngmjbpaglaa
