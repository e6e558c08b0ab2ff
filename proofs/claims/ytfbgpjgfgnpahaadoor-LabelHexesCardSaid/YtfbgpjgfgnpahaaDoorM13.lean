/- LabelNumbers, LabelHexes, LabelRunes, walked. -/
import Derived.Test.YtfbgpjgfgnpahaaDoorM12
namespace Go.Proofs.YtfbgpjgfgnpahaaDoor
open Go Go.RowKit
set_option linter.unusedVariables false
set_option linter.unusedSimpArgs false

theorem sop_conv_i32in {P : Program} {T : List (Nat × TI)} {o : Oper} {fr : List (Nat × AV)} {H : List (Nat × Res)} {x : Operand} {t t' s b s' b' : Nat} {a : Int} {j : IntKind} (ho : o.op = .convert t t' x := by rfl) (hT : TTOk P T := by assumption) (ht : look T t = some ⟨.int j, s, b⟩ := by rfl) (ht' : look T t' = some ⟨.int .i32, s', b'⟩ := by rfl) (hx : Opv fr x (.lit (.int j a)) := by exact opv_std) (hi : -2147483648 ≤ a ∧ a ≤ 2147483647 := by omega) : SOp P o fr H (.lit (.int .i32 a)) :=
  sop_cast (sop_conv ho hT ht ht' hx) (by rw [wrap_i32_in hi])
theorem hexL_mono : ∀ (k a b : Nat), b ≤ k → a ≤ b → (hexL a).length ≤ (hexL b).length
  | k, a, b, hk, h => by
    by_cases ha : a < 16
    · rw [hexL_lo ha]
      exact hexL_ne b
    · match k, hk with
      | 0, hk => omega
      | k + 1, hk =>
        rw [hexL_hi ha, hexL_hi (show ¬ b < 16 by omega), List.length_append, List.length_append]
        have := hexL_mono k (a / 16) (b / 16) (by omega) (Nat.div_le_div_right h)
        simpa using this
theorem less_snoc : ∀ (xs ys : List UInt8) (c d : UInt8), xs.length = ys.length → Op.bytesLess (xs ++ [c]) (ys ++ [d]) = (Op.bytesLess xs ys || (decide (xs = ys) && decide (c < d)))
  | [], [], c, d, _ => by
    show (decide (c < d) || (c == d && false)) = (false || (true && decide (c < d)))
    simp
  | x :: xs, y :: ys, c, d, h => by
    have := less_snoc xs ys c d (by simpa using h)
    show (decide (x < y) || (x == y && Op.bytesLess (xs ++ [c]) (ys ++ [d]))) = ((decide (x < y) || (x == y && Op.bytesLess xs ys)) || (decide (x :: xs = y :: ys) && decide (c < d)))
    rw [this]
    by_cases e : x = y
    · subst e
      simp
    · have hn : (x == y) = false := by simp [e]
      have hn2 : ¬ (x :: xs = y :: ys) := fun h => e (List.cons.inj h).1
      rw [hn, decide_eq_false hn2]
      simp
theorem hd_lt {a b : Nat} (ha : a < 16) (hb : b < 16) : decide (hd a < hd b) = decide (a < b) := by
  have h1 := hd_eq ha
  have h2 := hd_eq hb
  rw [decide_eq_decide]
  rw [UInt8.lt_iff_toNat_lt]
  omega
theorem hexL_less : ∀ (k a b : Nat), a ≤ k → (hexL a).length = (hexL b).length → Op.bytesLess (hexL a) (hexL b) = decide (a < b)
  | k, a, b, hk, h => by
    have la : ∀ n, ¬ n < 16 → 2 ≤ (hexL n).length := fun n hn => by
      rw [hexL_hi hn, List.length_append]
      have := hexL_ne (n / 16)
      simp only [List.length_cons, List.length_nil]
      omega
    by_cases h1 : a < 16
    · by_cases h2 : b < 16
      · rw [hexL_lo h1, hexL_lo h2]
        show (decide (hd a < hd b) || (hd a == hd b && false)) = _
        rw [hd_lt h1 h2]
        simp
      · have := la b h2
        rw [← h, hexL_lo h1] at this
        simp at this
    · by_cases h2 : b < 16
      · have := la a h1
        rw [h, hexL_lo h2] at this
        simp at this
      · match k, hk with
        | 0, hk => omega
        | k + 1, hk =>
          rw [hexL_hi h1, hexL_hi h2] at h ⊢
          have hl : (hexL (a / 16)).length = (hexL (b / 16)).length := by simpa using h
          rw [less_snoc _ _ _ _ hl, hexL_less k (a / 16) (b / 16) (by omega) hl, hd_lt (Nat.mod_lt _ (by decide)) (Nat.mod_lt _ (by decide))]
          by_cases e : a / 16 = b / 16
          · rw [e]
            simp only [decide_true, Bool.true_and, Nat.lt_irrefl, decide_false, Bool.false_or]
            rw [decide_eq_decide]
            omega
          · have hne : ¬ hexL (a / 16) = hexL (b / 16) := fun h => e (hexL_inj _ _ _ (Nat.le_refl _) h)
            rw [decide_eq_false hne, Bool.false_and, Bool.or_false, decide_eq_decide]
            omega
theorem hx_less {a b : Nat} (h : (hx a).length = (hx b).length) : Op.bytesLess (hx a) (hx b) = decide (a < b) := by
  unfold hx at h ⊢
  have hl : (hexL a).length = (hexL b).length := by simpa using h
  show ((decide ((48 : UInt8) < 48)) || ((48 : UInt8) == 48 && ((decide ((120 : UInt8) < 120)) || ((120 : UInt8) == 120 && Op.bytesLess (hexL a) (hexL b))))) = _
  rw [hexL_less a a b (Nat.le_refl _) hl]
  simp
theorem hx_mono {a b : Nat} (h : a ≤ b) : (hx a).length ≤ (hx b).length := by
  have := hexL_mono b a b (Nat.le_refl _) h
  unfold hx
  simpa using this
theorem hx_16 {a : Nat} (h : 0 < a) : hx a ++ [48] = hx (16 * a) := by
  unfold hx
  rw [hexL_hi (show ¬ 16 * a < 16 by omega), show 16 * a / 16 = a by omega, show 16 * a % 16 = 0 by omega]
  rfl
theorem hx_not {a : Nat} (h : ¬ (0 < a ∧ a < 1152921504606846976)) : ∀ n, n < 18446744073709551616 → hx a ++ [48] ≠ hx n := fun n hn e => by
  have e' : hexL a ++ [48] = hexL n := by
    unfold hx at e
    simpa using e
  by_cases h16 : n < 16
  · have := congrArg List.length e'
    rw [hexL_lo h16, List.length_append] at this
    have := hexL_ne a
    simp only [List.length_append, List.length_cons, List.length_nil] at *
    omega
  · rw [hexL_hi h16] at e'
    have e1 := (List.append_inj' e' rfl).1
    have := hexL_inj a a (n / 16) (Nat.le_refl _) e1
    omega
set_option maxRecDepth 10000 in
set_option maxHeartbeats 2000000 in
theorem numbers_con (n : Nat) (hn : n < 18446744073709551616) (s : List UInt8) (hs : s.length ≤ 9223372036854775807) : Con Tryd.prog 3 [.lit (.int .u64 (n : Int)), .lit (.string (strOf s))] [] (fun az hz => az = .lit (.bool (true)) ∧ hz = []) := by
  refine con_of hT Tryd.func3 rfl rfl rfl rfl rfl rfl ?_
  intro c
  have hT := hT
  have hZ := hZ
  have hsz := strOf_size s
  by_cases hex : ∃ m, m < 18446744073709551616 ∧ s = hx m
  · obtain ⟨m, hm, rfl⟩ := hex
    repeat' (first | refine a_seq ?_ | refine ar_step ?_ | refine a_block ?_ | refine a_skip ?_ | refine a_exit ?_ | refine a_ret ?_ | refine a_label ?_ | refine a_scope ?_ | refine a_region ?_ | refine a_region_U' rfl (by kernel_rfl) (by kernel_rfl) (by kernel_rfl) (by kernel_rfl) (by assumption) (by assumption) rfl ?_ | refine a_region_tailN rfl rfl (by kernel_rfl) (by kernel_rfl) (by kernel_rfl) (by kernel_rfl) (by assumption) rfl rfl ?_ | refine a_region_tailA rfl rfl (by kernel_rfl) (by kernel_rfl) (by kernel_rfl) (by kernel_rfl) (by assumption) rfl rfl rfl ?_ | refine a_region_tail rfl (by kernel_rfl) (by kernel_rfl) (by kernel_rfl) (by kernel_rfl) ?_ | refine a_region_tailR rfl (by kernel_rfl) (by kernel_rfl) (by kernel_rfl) (by kernel_rfl) ?_ | refine a_region_any (by kernel_rfl) (by kernel_rfl) (by kernel_rfl) ?_ | refine at_normal ?_ | refine at_exit ?_ | refine at_ret ?_ | refine ab_normal ?_ | refine ab_ret ?_ | refine ab_same ?_ | refine ab_other rfl ?_ | refine ao_nil ?_ | refine EvK.nil ?_ | refine EvU.nil ?_ | refine EvU.alloc rfl rfl ?_ | refine EvU.store rfl rfl rfl rfl rfl (by first | exact .un rfl (by first | assumption | exact And.left (by assumption)) | exact .of rfl) rfl rfl rfl rfl rfl ?_ | refine tailA_k rfl rfl ?_ | refine tailA_k trivial rfl ?_ | refine tailA_k trivial (by kernel_rfl) ?_ | (refine a_cond rfl (fun hb => ?_) (fun hb => ?_) <;> (try simp only [reduceCtorEq, bne_self_eq_false, not_true_eq_false, not_false_eq_true, or_self, and_false, false_and, or_true, true_or, or_false, false_or, and_true, true_and, and_self, decide_eq_true_eq, decide_eq_false_iff_not, Bool.and_eq_true, Bool.or_eq_true, Bool.or_eq_false_iff, Bool.and_eq_false_iff, Bool.not_eq_true', Bool.not_eq_false', Bool.not_true, Bool.not_false, ne_eq, Classical.not_not, Nat.not_lt, Int.not_lt, Int.not_le] at hb) <;> (try (exfalso; omega)) <;> (try exact (bool_ft hb (by assumption)).elim) <;> (try exact (bool_ft (by assumption) hb).elim)) | refine ao_alloc' (next := ?_) | refine ao_box' (next := ?_) | refine ao_store (next := ?_) | refine ao_store_own (next := ?_) | refine ao_store_ownR (next := ?_) | refine ao_append_same (next := ?_) | refine ao_append_nil (next := ?_) | refine ao_append_new (next := ?_) | refine ao_mkErr (next := ?_) | refine ao_clip (next := ?_) | refine ao_store_arr (next := ?_) | ((first | (apply ao_op rfl rfl (.plain rfl ?_) ?_; rotate_left) | (apply EvK.cons rfl (.plain rfl ?_) ?_; rotate_left) | (apply EvU.plain rfl rfl rfl ?_ ?_; rotate_left) | (apply ao_op rfl rfl (.guard rfl rfl rfl fun hg => ?_) ?_; rotate_right) | (apply ao_op rfl rfl (.guardw rfl rfl rfl fun hg => ?_) ?_; rotate_right) | (apply EvK.cons rfl (.guard rfl rfl rfl fun hg => ?_) ?_; rotate_right) | (apply EvK.cons rfl (.guardw rfl rfl rfl fun hg => ?_) ?_; rotate_right)); (try (have hg2 := hg; simp only [reduceCtorEq, bne_self_eq_false, not_true_eq_false, not_false_eq_true, or_self, and_false, false_and, or_true, true_or, or_false, false_or, and_true, true_and, and_self, decide_eq_true_eq, decide_eq_false_iff_not, Bool.and_eq_true, Bool.or_eq_true, Bool.or_eq_false_iff, Bool.and_eq_false_iff, Bool.not_eq_true', Bool.not_eq_false', Bool.not_true, Bool.not_false, ne_eq, Classical.not_not, Nat.not_lt, Int.not_lt, Int.not_le] at hg2)); (first | (apply sop_callC (awake_con) <;> first | exact sd) | (apply sop_callCM (num_ok n hn) <;> first | exact sd) | (apply sop_callC (hex_con n hn) <;> first | exact sd) | (apply sop_callC (rhex_con n hn) <;> first | exact sd) | (apply sop_callCM (num_ok m hm) <;> first | exact sd) | (apply sop_callCM (rnum_ok m hm) <;> first | exact sd) | (apply sop_callCM (num_no s ?_ hno) <;> first | exact sd) | (apply sop_callCM (rnum_no s ?_ hno) <;> first | exact sd) | exact sop_eql_str | exact sop_std | exact sop_false (by revert hg; decide) | fail)))
    · first | refine aend0 (by first | exact .inl rfl | exact .inr rfl) []  (by repeat (first | exact covL_nil | refine covL_dup rfl ?_ | refine covL_cons rfl rfl ?_)) ?_ | refine aend1 (by first | exact .inl rfl | exact .inr rfl) [] (by first | exact .tmp rfl | exact .cell rfl rfl rfl rfl rfl | exact .cellA rfl rfl rfl rfl rfl) (by repeat (first | exact covL_nil | refine covL_dup rfl ?_ | refine covL_cons rfl rfl ?_)) ?_ | refine aend2 (by first | exact .inl rfl | exact .inr rfl) [] (by first | exact .tmp rfl | exact .cell rfl rfl rfl rfl rfl | exact .cellA rfl rfl rfl rfl rfl) (by first | exact .tmp rfl | exact .cell rfl rfl rfl rfl rfl | exact .cellA rfl rfl rfl rfl rfl) (by repeat (first | exact covL_nil | refine covL_dup rfl ?_ | refine covL_cons rfl rfl ?_)) ?_ | refine aend3 (by first | exact .inl rfl | exact .inr rfl) [] (by first | exact .tmp rfl | exact .cell rfl rfl rfl rfl rfl | exact .cellA rfl rfl rfl rfl rfl) (by first | exact .tmp rfl | exact .cell rfl rfl rfl rfl rfl | exact .cellA rfl rfl rfl rfl rfl) (by first | exact .tmp rfl | exact .cell rfl rfl rfl rfl rfl | exact .cellA rfl rfl rfl rfl rfl) (by repeat (first | exact covL_nil | refine covL_dup rfl ?_ | refine covL_cons rfl rfl ?_)) ?_
      exact ⟨rfl, rfl⟩
    · first | refine aend0 (by first | exact .inl rfl | exact .inr rfl) []  (by repeat (first | exact covL_nil | refine covL_dup rfl ?_ | refine covL_cons rfl rfl ?_)) ?_ | refine aend1 (by first | exact .inl rfl | exact .inr rfl) [] (by first | exact .tmp rfl | exact .cell rfl rfl rfl rfl rfl | exact .cellA rfl rfl rfl rfl rfl) (by repeat (first | exact covL_nil | refine covL_dup rfl ?_ | refine covL_cons rfl rfl ?_)) ?_ | refine aend2 (by first | exact .inl rfl | exact .inr rfl) [] (by first | exact .tmp rfl | exact .cell rfl rfl rfl rfl rfl | exact .cellA rfl rfl rfl rfl rfl) (by first | exact .tmp rfl | exact .cell rfl rfl rfl rfl rfl | exact .cellA rfl rfl rfl rfl rfl) (by repeat (first | exact covL_nil | refine covL_dup rfl ?_ | refine covL_cons rfl rfl ?_)) ?_ | refine aend3 (by first | exact .inl rfl | exact .inr rfl) [] (by first | exact .tmp rfl | exact .cell rfl rfl rfl rfl rfl | exact .cellA rfl rfl rfl rfl rfl) (by first | exact .tmp rfl | exact .cell rfl rfl rfl rfl rfl | exact .cellA rfl rfl rfl rfl rfl) (by first | exact .tmp rfl | exact .cell rfl rfl rfl rfl rfl | exact .cellA rfl rfl rfl rfl rfl) (by repeat (first | exact covL_nil | refine covL_dup rfl ?_ | refine covL_cons rfl rfl ?_)) ?_
      refine ⟨congrArg (fun b => AV.lit (.bool b)) ?_, rfl⟩
      simp
  · have hno : ∀ m, m < 18446744073709551616 → s ≠ hx m := fun m hm e => hex ⟨m, hm, e⟩
    repeat' (first | refine a_seq ?_ | refine ar_step ?_ | refine a_block ?_ | refine a_skip ?_ | refine a_exit ?_ | refine a_ret ?_ | refine a_label ?_ | refine a_scope ?_ | refine a_region ?_ | refine a_region_U' rfl (by kernel_rfl) (by kernel_rfl) (by kernel_rfl) (by kernel_rfl) (by assumption) (by assumption) rfl ?_ | refine a_region_tailN rfl rfl (by kernel_rfl) (by kernel_rfl) (by kernel_rfl) (by kernel_rfl) (by assumption) rfl rfl ?_ | refine a_region_tailA rfl rfl (by kernel_rfl) (by kernel_rfl) (by kernel_rfl) (by kernel_rfl) (by assumption) rfl rfl rfl ?_ | refine a_region_tail rfl (by kernel_rfl) (by kernel_rfl) (by kernel_rfl) (by kernel_rfl) ?_ | refine a_region_tailR rfl (by kernel_rfl) (by kernel_rfl) (by kernel_rfl) (by kernel_rfl) ?_ | refine a_region_any (by kernel_rfl) (by kernel_rfl) (by kernel_rfl) ?_ | refine at_normal ?_ | refine at_exit ?_ | refine at_ret ?_ | refine ab_normal ?_ | refine ab_ret ?_ | refine ab_same ?_ | refine ab_other rfl ?_ | refine ao_nil ?_ | refine EvK.nil ?_ | refine EvU.nil ?_ | refine EvU.alloc rfl rfl ?_ | refine EvU.store rfl rfl rfl rfl rfl (by first | exact .un rfl (by first | assumption | exact And.left (by assumption)) | exact .of rfl) rfl rfl rfl rfl rfl ?_ | refine tailA_k rfl rfl ?_ | refine tailA_k trivial rfl ?_ | refine tailA_k trivial (by kernel_rfl) ?_ | (refine a_cond rfl (fun hb => ?_) (fun hb => ?_) <;> (try simp only [reduceCtorEq, bne_self_eq_false, not_true_eq_false, not_false_eq_true, or_self, and_false, false_and, or_true, true_or, or_false, false_or, and_true, true_and, and_self, decide_eq_true_eq, decide_eq_false_iff_not, Bool.and_eq_true, Bool.or_eq_true, Bool.or_eq_false_iff, Bool.and_eq_false_iff, Bool.not_eq_true', Bool.not_eq_false', Bool.not_true, Bool.not_false, ne_eq, Classical.not_not, Nat.not_lt, Int.not_lt, Int.not_le] at hb) <;> (try (exfalso; omega)) <;> (try exact (bool_ft hb (by assumption)).elim) <;> (try exact (bool_ft (by assumption) hb).elim)) | refine ao_alloc' (next := ?_) | refine ao_box' (next := ?_) | refine ao_store (next := ?_) | refine ao_store_own (next := ?_) | refine ao_store_ownR (next := ?_) | refine ao_append_same (next := ?_) | refine ao_append_nil (next := ?_) | refine ao_append_new (next := ?_) | refine ao_mkErr (next := ?_) | refine ao_clip (next := ?_) | refine ao_store_arr (next := ?_) | ((first | (apply ao_op rfl rfl (.plain rfl ?_) ?_; rotate_left) | (apply EvK.cons rfl (.plain rfl ?_) ?_; rotate_left) | (apply EvU.plain rfl rfl rfl ?_ ?_; rotate_left) | (apply ao_op rfl rfl (.guard rfl rfl rfl fun hg => ?_) ?_; rotate_right) | (apply ao_op rfl rfl (.guardw rfl rfl rfl fun hg => ?_) ?_; rotate_right) | (apply EvK.cons rfl (.guard rfl rfl rfl fun hg => ?_) ?_; rotate_right) | (apply EvK.cons rfl (.guardw rfl rfl rfl fun hg => ?_) ?_; rotate_right)); (try (have hg2 := hg; simp only [reduceCtorEq, bne_self_eq_false, not_true_eq_false, not_false_eq_true, or_self, and_false, false_and, or_true, true_or, or_false, false_or, and_true, true_and, and_self, decide_eq_true_eq, decide_eq_false_iff_not, Bool.and_eq_true, Bool.or_eq_true, Bool.or_eq_false_iff, Bool.and_eq_false_iff, Bool.not_eq_true', Bool.not_eq_false', Bool.not_true, Bool.not_false, ne_eq, Classical.not_not, Nat.not_lt, Int.not_lt, Int.not_le] at hg2)); (first | (apply sop_callC (awake_con) <;> first | exact sd) | (apply sop_callCM (num_ok n hn) <;> first | exact sd) | (apply sop_callC (hex_con n hn) <;> first | exact sd) | (apply sop_callC (rhex_con n hn) <;> first | exact sd) | (apply sop_callCM (num_ok m hm) <;> first | exact sd) | (apply sop_callCM (rnum_ok m hm) <;> first | exact sd) | (apply sop_callCM (num_no s ?_ hno) <;> first | exact sd) | (apply sop_callCM (rnum_no s ?_ hno) <;> first | exact sd) | exact sop_eql_str | exact sop_std | exact sop_false (by revert hg; decide) | fail)))
    · first | refine aend0 (by first | exact .inl rfl | exact .inr rfl) []  (by repeat (first | exact covL_nil | refine covL_dup rfl ?_ | refine covL_cons rfl rfl ?_)) ?_ | refine aend1 (by first | exact .inl rfl | exact .inr rfl) [] (by first | exact .tmp rfl | exact .cell rfl rfl rfl rfl rfl | exact .cellA rfl rfl rfl rfl rfl) (by repeat (first | exact covL_nil | refine covL_dup rfl ?_ | refine covL_cons rfl rfl ?_)) ?_ | refine aend2 (by first | exact .inl rfl | exact .inr rfl) [] (by first | exact .tmp rfl | exact .cell rfl rfl rfl rfl rfl | exact .cellA rfl rfl rfl rfl rfl) (by first | exact .tmp rfl | exact .cell rfl rfl rfl rfl rfl | exact .cellA rfl rfl rfl rfl rfl) (by repeat (first | exact covL_nil | refine covL_dup rfl ?_ | refine covL_cons rfl rfl ?_)) ?_ | refine aend3 (by first | exact .inl rfl | exact .inr rfl) [] (by first | exact .tmp rfl | exact .cell rfl rfl rfl rfl rfl | exact .cellA rfl rfl rfl rfl rfl) (by first | exact .tmp rfl | exact .cell rfl rfl rfl rfl rfl | exact .cellA rfl rfl rfl rfl rfl) (by first | exact .tmp rfl | exact .cell rfl rfl rfl rfl rfl | exact .cellA rfl rfl rfl rfl rfl) (by repeat (first | exact covL_nil | refine covL_dup rfl ?_ | refine covL_cons rfl rfl ?_)) ?_
      exact ⟨rfl, rfl⟩
    · first | refine aend0 (by first | exact .inl rfl | exact .inr rfl) []  (by repeat (first | exact covL_nil | refine covL_dup rfl ?_ | refine covL_cons rfl rfl ?_)) ?_ | refine aend1 (by first | exact .inl rfl | exact .inr rfl) [] (by first | exact .tmp rfl | exact .cell rfl rfl rfl rfl rfl | exact .cellA rfl rfl rfl rfl rfl) (by repeat (first | exact covL_nil | refine covL_dup rfl ?_ | refine covL_cons rfl rfl ?_)) ?_ | refine aend2 (by first | exact .inl rfl | exact .inr rfl) [] (by first | exact .tmp rfl | exact .cell rfl rfl rfl rfl rfl | exact .cellA rfl rfl rfl rfl rfl) (by first | exact .tmp rfl | exact .cell rfl rfl rfl rfl rfl | exact .cellA rfl rfl rfl rfl rfl) (by repeat (first | exact covL_nil | refine covL_dup rfl ?_ | refine covL_cons rfl rfl ?_)) ?_ | refine aend3 (by first | exact .inl rfl | exact .inr rfl) [] (by first | exact .tmp rfl | exact .cell rfl rfl rfl rfl rfl | exact .cellA rfl rfl rfl rfl rfl) (by first | exact .tmp rfl | exact .cell rfl rfl rfl rfl rfl | exact .cellA rfl rfl rfl rfl rfl) (by first | exact .tmp rfl | exact .cell rfl rfl rfl rfl rfl | exact .cellA rfl rfl rfl rfl rfl) (by repeat (first | exact covL_nil | refine covL_dup rfl ?_ | refine covL_cons rfl rfl ?_)) ?_
      refine ⟨congrArg (fun b => AV.lit (.bool b)) ?_, rfl⟩
      simp
set_option maxRecDepth 10000 in
set_option maxHeartbeats 2000000 in
theorem hexes_con (a b : Nat) (ha : a < 18446744073709551616) (hb0 : b < 18446744073709551616) : Con Tryd.prog 4 [.lit (.int .u64 (a : Int)), .lit (.int .u64 (b : Int))] [] (fun az hz => az = .lit (.bool (true)) ∧ hz = []) := by
  refine con_of hT Tryd.func4 rfl rfl rfl rfl rfl rfl ?_
  intro c
  have hT := hT
  have hZ := hZ
  have hla := hx_len ha
  have hlb := hx_len hb0
  have hsa := strOf_size (hx a)
  have hsb := strOf_size (hx b)
  have k1 : decide (hx a = hx b) = decide ((a : Int) = (b : Int)) := by
    rw [decide_eq_decide]
    exact ⟨fun h => by rw [hx_inj h], fun h => by rw [show a = b by omega]⟩
  have k2 : ((hx a).length : Int) < ((hx b).length : Int) → ¬ (b : Int) < (a : Int) := fun h h2 => by
    have := hx_mono (a := b) (b := a) (by omega)
    omega
  have k3 : ((hx a).length : Int) = ((hx b).length : Int) → Op.bytesLess (hx a) (hx b) = decide ((a : Int) < (b : Int)) := fun h => by
    rw [hx_less (by omega), decide_eq_decide]
    omega
  by_cases hs : 0 < a ∧ a < 1152921504606846976
  · have c1 := num_ok (16 * a) (by omega)
    rw [← hx_16 hs.1] at c1
    repeat' (first | refine a_seq ?_ | refine ar_step ?_ | refine a_block ?_ | refine a_skip ?_ | refine a_exit ?_ | refine a_ret ?_ | refine a_label ?_ | refine a_scope ?_ | refine a_region ?_ | refine a_region_U' rfl (by kernel_rfl) (by kernel_rfl) (by kernel_rfl) (by kernel_rfl) (by assumption) (by assumption) rfl ?_ | refine a_region_tailN rfl rfl (by kernel_rfl) (by kernel_rfl) (by kernel_rfl) (by kernel_rfl) (by assumption) rfl rfl ?_ | refine a_region_tailA rfl rfl (by kernel_rfl) (by kernel_rfl) (by kernel_rfl) (by kernel_rfl) (by assumption) rfl rfl rfl ?_ | refine a_region_tail rfl (by kernel_rfl) (by kernel_rfl) (by kernel_rfl) (by kernel_rfl) ?_ | refine a_region_tailR rfl (by kernel_rfl) (by kernel_rfl) (by kernel_rfl) (by kernel_rfl) ?_ | refine a_region_any (by kernel_rfl) (by kernel_rfl) (by kernel_rfl) ?_ | refine at_normal ?_ | refine at_exit ?_ | refine at_ret ?_ | refine ab_normal ?_ | refine ab_ret ?_ | refine ab_same ?_ | refine ab_other rfl ?_ | refine ao_nil ?_ | refine EvK.nil ?_ | refine EvU.nil ?_ | refine EvU.alloc rfl rfl ?_ | refine EvU.store rfl rfl rfl rfl rfl (by first | exact .un rfl (by first | assumption | exact And.left (by assumption)) | exact .of rfl) rfl rfl rfl rfl rfl ?_ | refine tailA_k rfl rfl ?_ | refine tailA_k trivial rfl ?_ | refine tailA_k trivial (by kernel_rfl) ?_ | (refine a_cond rfl (fun hb => ?_) (fun hb => ?_) <;> (try simp only [reduceCtorEq, bne_self_eq_false, not_true_eq_false, not_false_eq_true, or_self, and_false, false_and, or_true, true_or, or_false, false_or, and_true, true_and, and_self, decide_eq_true_eq, decide_eq_false_iff_not, Bool.and_eq_true, Bool.or_eq_true, Bool.or_eq_false_iff, Bool.and_eq_false_iff, Bool.not_eq_true', Bool.not_eq_false', Bool.not_true, Bool.not_false, ne_eq, Classical.not_not, Nat.not_lt, Int.not_lt, Int.not_le] at hb) <;> (try (exfalso; omega)) <;> (try exact (bool_ft hb (by assumption)).elim) <;> (try exact (bool_ft (by assumption) hb).elim)) | refine ao_alloc' (next := ?_) | refine ao_box' (next := ?_) | refine ao_store (next := ?_) | refine ao_store_own (next := ?_) | refine ao_store_ownR (next := ?_) | refine ao_append_same (next := ?_) | refine ao_append_nil (next := ?_) | refine ao_append_new (next := ?_) | refine ao_mkErr (next := ?_) | refine ao_clip (next := ?_) | refine ao_store_arr (next := ?_) | ((first | (apply ao_op rfl rfl (.plain rfl ?_) ?_; rotate_left) | (apply EvK.cons rfl (.plain rfl ?_) ?_; rotate_left) | (apply EvU.plain rfl rfl rfl ?_ ?_; rotate_left) | (apply ao_op rfl rfl (.guard rfl rfl rfl fun hg => ?_) ?_; rotate_right) | (apply ao_op rfl rfl (.guardw rfl rfl rfl fun hg => ?_) ?_; rotate_right) | (apply EvK.cons rfl (.guard rfl rfl rfl fun hg => ?_) ?_; rotate_right) | (apply EvK.cons rfl (.guardw rfl rfl rfl fun hg => ?_) ?_; rotate_right)); (try (have hg2 := hg; simp only [reduceCtorEq, bne_self_eq_false, not_true_eq_false, not_false_eq_true, or_self, and_false, false_and, or_true, true_or, or_false, false_or, and_true, true_and, and_self, decide_eq_true_eq, decide_eq_false_iff_not, Bool.and_eq_true, Bool.or_eq_true, Bool.or_eq_false_iff, Bool.and_eq_false_iff, Bool.not_eq_true', Bool.not_eq_false', Bool.not_true, Bool.not_false, ne_eq, Classical.not_not, Nat.not_lt, Int.not_lt, Int.not_le] at hg2)); (first | (apply sop_callC (awake_con) <;> first | exact sd) | (apply sop_callC (hex_con _ ?_) <;> first | exact sd) | (apply sop_callC (c1) <;> first | exact sd) | exact sop_eql_str | exact sop_lss_str | exact sop_cat | exact sop_std | exact sop_false (by revert hg; decide) | fail)))
    · exfalso
      rw [hsa, hsb] at hb
      rcases hb with (h | h) | h
      · rw [k1, bne_self_eq_false] at h
        cases h
      · exact k2 h.1 h.2
      · have h2 := h.2
        rw [k3 h.1, bne_self_eq_false] at h2
        cases h2
    · first | refine aend0 (by first | exact .inl rfl | exact .inr rfl) []  (by repeat (first | exact covL_nil | refine covL_dup rfl ?_ | refine covL_cons rfl rfl ?_)) ?_ | refine aend1 (by first | exact .inl rfl | exact .inr rfl) [] (by first | exact .tmp rfl | exact .cell rfl rfl rfl rfl rfl | exact .cellA rfl rfl rfl rfl rfl) (by repeat (first | exact covL_nil | refine covL_dup rfl ?_ | refine covL_cons rfl rfl ?_)) ?_ | refine aend2 (by first | exact .inl rfl | exact .inr rfl) [] (by first | exact .tmp rfl | exact .cell rfl rfl rfl rfl rfl | exact .cellA rfl rfl rfl rfl rfl) (by first | exact .tmp rfl | exact .cell rfl rfl rfl rfl rfl | exact .cellA rfl rfl rfl rfl rfl) (by repeat (first | exact covL_nil | refine covL_dup rfl ?_ | refine covL_cons rfl rfl ?_)) ?_ | refine aend3 (by first | exact .inl rfl | exact .inr rfl) [] (by first | exact .tmp rfl | exact .cell rfl rfl rfl rfl rfl | exact .cellA rfl rfl rfl rfl rfl) (by first | exact .tmp rfl | exact .cell rfl rfl rfl rfl rfl | exact .cellA rfl rfl rfl rfl rfl) (by first | exact .tmp rfl | exact .cell rfl rfl rfl rfl rfl | exact .cellA rfl rfl rfl rfl rfl) (by repeat (first | exact covL_nil | refine covL_dup rfl ?_ | refine covL_cons rfl rfl ?_)) ?_
      refine ⟨congrArg (fun b => AV.lit (.bool b)) ?_, rfl⟩
      have e1 : (0 : Int) < (a : Int) := by omega
      have e2 : (a : Int) < 1152921504606846976 := by omega
      have e3 : IntKind.u64.wrap (16 * (a : Int)) = 16 * (a : Int) := by rw [IntKind.wrap_u64]; omega
      have e4 : ((16 * a : Nat) : Int) = 16 * (a : Int) := by omega
      simp [e1, e2, e3, e4, hs.1, hs.2]
  · have c1 := num_no (hx a ++ [48]) (by rw [List.length_append, List.length_cons, List.length_nil]; omega) (hx_not hs)
    have hs' : ¬ ((0 : Int) < (a : Int) ∧ (a : Int) < 1152921504606846976) := by omega
    repeat' (first | refine a_seq ?_ | refine ar_step ?_ | refine a_block ?_ | refine a_skip ?_ | refine a_exit ?_ | refine a_ret ?_ | refine a_label ?_ | refine a_scope ?_ | refine a_region ?_ | refine a_region_U' rfl (by kernel_rfl) (by kernel_rfl) (by kernel_rfl) (by kernel_rfl) (by assumption) (by assumption) rfl ?_ | refine a_region_tailN rfl rfl (by kernel_rfl) (by kernel_rfl) (by kernel_rfl) (by kernel_rfl) (by assumption) rfl rfl ?_ | refine a_region_tailA rfl rfl (by kernel_rfl) (by kernel_rfl) (by kernel_rfl) (by kernel_rfl) (by assumption) rfl rfl rfl ?_ | refine a_region_tail rfl (by kernel_rfl) (by kernel_rfl) (by kernel_rfl) (by kernel_rfl) ?_ | refine a_region_tailR rfl (by kernel_rfl) (by kernel_rfl) (by kernel_rfl) (by kernel_rfl) ?_ | refine a_region_any (by kernel_rfl) (by kernel_rfl) (by kernel_rfl) ?_ | refine at_normal ?_ | refine at_exit ?_ | refine at_ret ?_ | refine ab_normal ?_ | refine ab_ret ?_ | refine ab_same ?_ | refine ab_other rfl ?_ | refine ao_nil ?_ | refine EvK.nil ?_ | refine EvU.nil ?_ | refine EvU.alloc rfl rfl ?_ | refine EvU.store rfl rfl rfl rfl rfl (by first | exact .un rfl (by first | assumption | exact And.left (by assumption)) | exact .of rfl) rfl rfl rfl rfl rfl ?_ | refine tailA_k rfl rfl ?_ | refine tailA_k trivial rfl ?_ | refine tailA_k trivial (by kernel_rfl) ?_ | (refine a_cond rfl (fun hb => ?_) (fun hb => ?_) <;> (try simp only [reduceCtorEq, bne_self_eq_false, not_true_eq_false, not_false_eq_true, or_self, and_false, false_and, or_true, true_or, or_false, false_or, and_true, true_and, and_self, decide_eq_true_eq, decide_eq_false_iff_not, Bool.and_eq_true, Bool.or_eq_true, Bool.or_eq_false_iff, Bool.and_eq_false_iff, Bool.not_eq_true', Bool.not_eq_false', Bool.not_true, Bool.not_false, ne_eq, Classical.not_not, Nat.not_lt, Int.not_lt, Int.not_le] at hb) <;> (try (exfalso; omega)) <;> (try exact (bool_ft hb (by assumption)).elim) <;> (try exact (bool_ft (by assumption) hb).elim)) | refine ao_alloc' (next := ?_) | refine ao_box' (next := ?_) | refine ao_store (next := ?_) | refine ao_store_own (next := ?_) | refine ao_store_ownR (next := ?_) | refine ao_append_same (next := ?_) | refine ao_append_nil (next := ?_) | refine ao_append_new (next := ?_) | refine ao_mkErr (next := ?_) | refine ao_clip (next := ?_) | refine ao_store_arr (next := ?_) | ((first | (apply ao_op rfl rfl (.plain rfl ?_) ?_; rotate_left) | (apply EvK.cons rfl (.plain rfl ?_) ?_; rotate_left) | (apply EvU.plain rfl rfl rfl ?_ ?_; rotate_left) | (apply ao_op rfl rfl (.guard rfl rfl rfl fun hg => ?_) ?_; rotate_right) | (apply ao_op rfl rfl (.guardw rfl rfl rfl fun hg => ?_) ?_; rotate_right) | (apply EvK.cons rfl (.guard rfl rfl rfl fun hg => ?_) ?_; rotate_right) | (apply EvK.cons rfl (.guardw rfl rfl rfl fun hg => ?_) ?_; rotate_right)); (try (have hg2 := hg; simp only [reduceCtorEq, bne_self_eq_false, not_true_eq_false, not_false_eq_true, or_self, and_false, false_and, or_true, true_or, or_false, false_or, and_true, true_and, and_self, decide_eq_true_eq, decide_eq_false_iff_not, Bool.and_eq_true, Bool.or_eq_true, Bool.or_eq_false_iff, Bool.and_eq_false_iff, Bool.not_eq_true', Bool.not_eq_false', Bool.not_true, Bool.not_false, ne_eq, Classical.not_not, Nat.not_lt, Int.not_lt, Int.not_le] at hg2)); (first | (apply sop_callC (awake_con) <;> first | exact sd) | (apply sop_callC (hex_con _ ?_) <;> first | exact sd) | (apply sop_callC (c1) <;> first | exact sd) | exact sop_eql_str | exact sop_lss_str | exact sop_cat | exact sop_std | exact sop_false (by revert hg; decide) | fail)))
    · exfalso
      rw [hsa, hsb] at hb
      rcases hb with (h | h) | h
      · rw [k1, bne_self_eq_false] at h
        cases h
      · exact k2 h.1 h.2
      · have h2 := h.2
        rw [k3 h.1, bne_self_eq_false] at h2
        cases h2
    · first | refine aend0 (by first | exact .inl rfl | exact .inr rfl) []  (by repeat (first | exact covL_nil | refine covL_dup rfl ?_ | refine covL_cons rfl rfl ?_)) ?_ | refine aend1 (by first | exact .inl rfl | exact .inr rfl) [] (by first | exact .tmp rfl | exact .cell rfl rfl rfl rfl rfl | exact .cellA rfl rfl rfl rfl rfl) (by repeat (first | exact covL_nil | refine covL_dup rfl ?_ | refine covL_cons rfl rfl ?_)) ?_ | refine aend2 (by first | exact .inl rfl | exact .inr rfl) [] (by first | exact .tmp rfl | exact .cell rfl rfl rfl rfl rfl | exact .cellA rfl rfl rfl rfl rfl) (by first | exact .tmp rfl | exact .cell rfl rfl rfl rfl rfl | exact .cellA rfl rfl rfl rfl rfl) (by repeat (first | exact covL_nil | refine covL_dup rfl ?_ | refine covL_cons rfl rfl ?_)) ?_ | refine aend3 (by first | exact .inl rfl | exact .inr rfl) [] (by first | exact .tmp rfl | exact .cell rfl rfl rfl rfl rfl | exact .cellA rfl rfl rfl rfl rfl) (by first | exact .tmp rfl | exact .cell rfl rfl rfl rfl rfl | exact .cellA rfl rfl rfl rfl rfl) (by first | exact .tmp rfl | exact .cell rfl rfl rfl rfl rfl | exact .cellA rfl rfl rfl rfl rfl) (by repeat (first | exact covL_nil | refine covL_dup rfl ?_ | refine covL_cons rfl rfl ?_)) ?_
      refine ⟨congrArg (fun b => AV.lit (.bool b)) ?_, rfl⟩
      have e : (decide ((0 : Int) < (a : Int)) && decide ((a : Int) < 1152921504606846976)) = false := by
        rw [Bool.eq_false_iff]
        intro h
        simp only [Bool.and_eq_true, decide_eq_true_eq] at h
        exact hs' h
      rw [e]
      simp
set_option maxRecDepth 10000 in
set_option maxHeartbeats 2000000 in
theorem runes_con (r k : Int) (hr : -2147483648 ≤ r ∧ r ≤ 2147483647) : Con Tryd.prog 5 [.lit (.int .i32 r), .lit (.int .i64 k)] [] (fun az hz => az = .lit (.bool (true)) ∧ hz = []) := by
  refine con_of hT Tryd.func5 rfl rfl rfl rfl rfl rfl ?_
  intro c
  have hT := hT
  have hZ := hZ
  have hlo := low_bd0 k (n := 20992) (by decide)
  by_cases hbad : r < 0 ∨ 1114111 < r ∨ (55296 ≤ r ∧ r ≤ 57343)
  · have hg := good_con r
    rw [bad_rune hbad] at hg
    repeat' (first | refine a_seq ?_ | refine ar_step ?_ | refine a_block ?_ | refine a_skip ?_ | refine a_exit ?_ | refine a_ret ?_ | refine a_label ?_ | refine a_scope ?_ | refine a_region ?_ | refine a_region_U' rfl (by kernel_rfl) (by kernel_rfl) (by kernel_rfl) (by kernel_rfl) (by assumption) (by assumption) rfl ?_ | refine a_region_tailN rfl rfl (by kernel_rfl) (by kernel_rfl) (by kernel_rfl) (by kernel_rfl) (by assumption) rfl rfl ?_ | refine a_region_tailA rfl rfl (by kernel_rfl) (by kernel_rfl) (by kernel_rfl) (by kernel_rfl) (by assumption) rfl rfl rfl ?_ | refine a_region_tail rfl (by kernel_rfl) (by kernel_rfl) (by kernel_rfl) (by kernel_rfl) ?_ | refine a_region_tailR rfl (by kernel_rfl) (by kernel_rfl) (by kernel_rfl) (by kernel_rfl) ?_ | refine a_region_any (by kernel_rfl) (by kernel_rfl) (by kernel_rfl) ?_ | refine at_normal ?_ | refine at_exit ?_ | refine at_ret ?_ | refine ab_normal ?_ | refine ab_ret ?_ | refine ab_same ?_ | refine ab_other rfl ?_ | refine ao_nil ?_ | refine EvK.nil ?_ | refine EvU.nil ?_ | refine EvU.alloc rfl rfl ?_ | refine EvU.store rfl rfl rfl rfl rfl (by first | exact .un rfl (by first | assumption | exact And.left (by assumption)) | exact .of rfl) rfl rfl rfl rfl rfl ?_ | refine tailA_k rfl rfl ?_ | refine tailA_k trivial rfl ?_ | refine tailA_k trivial (by kernel_rfl) ?_ | (refine a_cond rfl (fun hb => ?_) (fun hb => ?_) <;> (try simp only [reduceCtorEq, bne_self_eq_false, not_true_eq_false, not_false_eq_true, or_self, and_false, false_and, or_true, true_or, or_false, false_or, and_true, true_and, and_self, decide_eq_true_eq, decide_eq_false_iff_not, Bool.and_eq_true, Bool.or_eq_true, Bool.or_eq_false_iff, Bool.and_eq_false_iff, Bool.not_eq_true', Bool.not_eq_false', Bool.not_true, Bool.not_false, ne_eq, Classical.not_not, Nat.not_lt, Int.not_lt, Int.not_le] at hb) <;> (try (exfalso; omega)) <;> (try exact (bool_ft hb (by assumption)).elim) <;> (try exact (bool_ft (by assumption) hb).elim)) | refine ao_alloc' (next := ?_) | refine ao_box' (next := ?_) | refine ao_store (next := ?_) | refine ao_store_own (next := ?_) | refine ao_store_ownR (next := ?_) | refine ao_append_same (next := ?_) | refine ao_append_nil (next := ?_) | refine ao_append_new (next := ?_) | refine ao_mkErr (next := ?_) | refine ao_clip (next := ?_) | refine ao_store_arr (next := ?_) | ((first | (apply ao_op rfl rfl (.plain rfl ?_) ?_; rotate_left) | (apply EvK.cons rfl (.plain rfl ?_) ?_; rotate_left) | (apply EvU.plain rfl rfl rfl ?_ ?_; rotate_left) | (apply ao_op rfl rfl (.guard rfl rfl rfl fun hg => ?_) ?_; rotate_right) | (apply ao_op rfl rfl (.guardw rfl rfl rfl fun hg => ?_) ?_; rotate_right) | (apply EvK.cons rfl (.guard rfl rfl rfl fun hg => ?_) ?_; rotate_right) | (apply EvK.cons rfl (.guardw rfl rfl rfl fun hg => ?_) ?_; rotate_right)); (try (have hg2 := hg; simp only [reduceCtorEq, bne_self_eq_false, not_true_eq_false, not_false_eq_true, or_self, and_false, false_and, or_true, true_or, or_false, false_or, and_true, true_and, and_self, decide_eq_true_eq, decide_eq_false_iff_not, Bool.and_eq_true, Bool.or_eq_true, Bool.or_eq_false_iff, Bool.and_eq_false_iff, Bool.not_eq_true', Bool.not_eq_false', Bool.not_true, Bool.not_false, ne_eq, Classical.not_not, Nat.not_lt, Int.not_lt, Int.not_le] at hg2)); (first | (apply sop_callC (awake_con) <;> first | exact sd) | (apply sop_callCM (hg) <;> first | exact sd) | (apply sop_callC (low0_con _ _ ?_ ?_) <;> first | exact sd) | (apply sop_callC (c2) <;> first | exact sd) | (apply sop_callC (c3) <;> first | exact sd) | (apply sop_callC (c4) <;> first | exact sd) | (apply sop_callCM (c5) <;> first | exact sd) | (apply sop_callC (may_con (rb [r]) ?_) <;> first | exact sd) | (apply sop_callCM (good_con r) <;> first | exact sd) | exact sop_conv_i32in | exact sop_buildSlice (E := encR) | exact sop_runes | exact sop_eql_str | exact sop_std | exact sop_false (by revert hg; decide) | fail)))
    first | refine aend0 (by first | exact .inl rfl | exact .inr rfl) []  (by repeat (first | exact covL_nil | refine covL_dup rfl ?_ | refine covL_cons rfl rfl ?_)) ?_ | refine aend1 (by first | exact .inl rfl | exact .inr rfl) [] (by first | exact .tmp rfl | exact .cell rfl rfl rfl rfl rfl | exact .cellA rfl rfl rfl rfl rfl) (by repeat (first | exact covL_nil | refine covL_dup rfl ?_ | refine covL_cons rfl rfl ?_)) ?_ | refine aend2 (by first | exact .inl rfl | exact .inr rfl) [] (by first | exact .tmp rfl | exact .cell rfl rfl rfl rfl rfl | exact .cellA rfl rfl rfl rfl rfl) (by first | exact .tmp rfl | exact .cell rfl rfl rfl rfl rfl | exact .cellA rfl rfl rfl rfl rfl) (by repeat (first | exact covL_nil | refine covL_dup rfl ?_ | refine covL_cons rfl rfl ?_)) ?_ | refine aend3 (by first | exact .inl rfl | exact .inr rfl) [] (by first | exact .tmp rfl | exact .cell rfl rfl rfl rfl rfl | exact .cellA rfl rfl rfl rfl rfl) (by first | exact .tmp rfl | exact .cell rfl rfl rfl rfl rfl | exact .cellA rfl rfl rfl rfl rfl) (by first | exact .tmp rfl | exact .cell rfl rfl rfl rfl rfl | exact .cellA rfl rfl rfl rfl rfl) (by repeat (first | exact covL_nil | refine covL_dup rfl ?_ | refine covL_cons rfl rfl ?_)) ?_
    exact ⟨rfl, rfl⟩
  · have hsv : svR r := by unfold svR; omega
    obtain ⟨w1, w2, w3, w4, w5⟩ := wide_facts (r := 19968 + low k 20992) (by omega) (by omega)
    have hl1 := rb_len [r]
    have hl2 := rb_len [19968 + low k 20992]
    rw [List.length_cons, List.length_nil] at hl1 hl2
    have c2 := columns_con (rb [19968 + low k 20992]) (by omega)
    have c3 := fold_con (rb [19968 + low k 20992]) (by omega)
    have c4 := clip_con (rb [19968 + low k 20992]) (by omega) 1
    have c5 := good_con (19968 + low k 20992)
    rw [w3] at c2
    rw [w4] at c3
    rw [w5] at c4
    rw [w1] at c5
    repeat' (first | refine a_seq ?_ | refine ar_step ?_ | refine a_block ?_ | refine a_skip ?_ | refine a_exit ?_ | refine a_ret ?_ | refine a_label ?_ | refine a_scope ?_ | refine a_region ?_ | refine a_region_U' rfl (by kernel_rfl) (by kernel_rfl) (by kernel_rfl) (by kernel_rfl) (by assumption) (by assumption) rfl ?_ | refine a_region_tailN rfl rfl (by kernel_rfl) (by kernel_rfl) (by kernel_rfl) (by kernel_rfl) (by assumption) rfl rfl ?_ | refine a_region_tailA rfl rfl (by kernel_rfl) (by kernel_rfl) (by kernel_rfl) (by kernel_rfl) (by assumption) rfl rfl rfl ?_ | refine a_region_tail rfl (by kernel_rfl) (by kernel_rfl) (by kernel_rfl) (by kernel_rfl) ?_ | refine a_region_tailR rfl (by kernel_rfl) (by kernel_rfl) (by kernel_rfl) (by kernel_rfl) ?_ | refine a_region_any (by kernel_rfl) (by kernel_rfl) (by kernel_rfl) ?_ | refine at_normal ?_ | refine at_exit ?_ | refine at_ret ?_ | refine ab_normal ?_ | refine ab_ret ?_ | refine ab_same ?_ | refine ab_other rfl ?_ | refine ao_nil ?_ | refine EvK.nil ?_ | refine EvU.nil ?_ | refine EvU.alloc rfl rfl ?_ | refine EvU.store rfl rfl rfl rfl rfl (by first | exact .un rfl (by first | assumption | exact And.left (by assumption)) | exact .of rfl) rfl rfl rfl rfl rfl ?_ | refine tailA_k rfl rfl ?_ | refine tailA_k trivial rfl ?_ | refine tailA_k trivial (by kernel_rfl) ?_ | (refine a_cond rfl (fun hb => ?_) (fun hb => ?_) <;> (try simp only [reduceCtorEq, bne_self_eq_false, not_true_eq_false, not_false_eq_true, or_self, and_false, false_and, or_true, true_or, or_false, false_or, and_true, true_and, and_self, decide_eq_true_eq, decide_eq_false_iff_not, Bool.and_eq_true, Bool.or_eq_true, Bool.or_eq_false_iff, Bool.and_eq_false_iff, Bool.not_eq_true', Bool.not_eq_false', Bool.not_true, Bool.not_false, ne_eq, Classical.not_not, Nat.not_lt, Int.not_lt, Int.not_le] at hb) <;> (try (exfalso; omega)) <;> (try exact (bool_ft hb (by assumption)).elim) <;> (try exact (bool_ft (by assumption) hb).elim)) | refine ao_alloc' (next := ?_) | refine ao_box' (next := ?_) | refine ao_store (next := ?_) | refine ao_store_own (next := ?_) | refine ao_store_ownR (next := ?_) | refine ao_append_same (next := ?_) | refine ao_append_nil (next := ?_) | refine ao_append_new (next := ?_) | refine ao_mkErr (next := ?_) | refine ao_clip (next := ?_) | refine ao_store_arr (next := ?_) | ((first | (apply ao_op rfl rfl (.plain rfl ?_) ?_; rotate_left) | (apply EvK.cons rfl (.plain rfl ?_) ?_; rotate_left) | (apply EvU.plain rfl rfl rfl ?_ ?_; rotate_left) | (apply ao_op rfl rfl (.guard rfl rfl rfl fun hg => ?_) ?_; rotate_right) | (apply ao_op rfl rfl (.guardw rfl rfl rfl fun hg => ?_) ?_; rotate_right) | (apply EvK.cons rfl (.guard rfl rfl rfl fun hg => ?_) ?_; rotate_right) | (apply EvK.cons rfl (.guardw rfl rfl rfl fun hg => ?_) ?_; rotate_right)); (try (have hg2 := hg; simp only [reduceCtorEq, bne_self_eq_false, not_true_eq_false, not_false_eq_true, or_self, and_false, false_and, or_true, true_or, or_false, false_or, and_true, true_and, and_self, decide_eq_true_eq, decide_eq_false_iff_not, Bool.and_eq_true, Bool.or_eq_true, Bool.or_eq_false_iff, Bool.and_eq_false_iff, Bool.not_eq_true', Bool.not_eq_false', Bool.not_true, Bool.not_false, ne_eq, Classical.not_not, Nat.not_lt, Int.not_lt, Int.not_le] at hg2)); (first | (apply sop_callC (awake_con) <;> first | exact sd) | (apply sop_callCM (hg) <;> first | exact sd) | (apply sop_callC (low0_con _ _ ?_ ?_) <;> first | exact sd) | (apply sop_callC (c2) <;> first | exact sd) | (apply sop_callC (c3) <;> first | exact sd) | (apply sop_callC (c4) <;> first | exact sd) | (apply sop_callCM (c5) <;> first | exact sd) | (apply sop_callC (may_con (rb [r]) ?_) <;> first | exact sd) | (apply sop_callCM (good_con r) <;> first | exact sd) | exact sop_conv_i32in | exact sop_buildSlice (E := encR) | exact sop_runes | exact sop_eql_str | exact sop_std | exact sop_false (by revert hg; decide) | fail)))
    first | refine aend0 (by first | exact .inl rfl | exact .inr rfl) []  (by repeat (first | exact covL_nil | refine covL_dup rfl ?_ | refine covL_cons rfl rfl ?_)) ?_ | refine aend1 (by first | exact .inl rfl | exact .inr rfl) [] (by first | exact .tmp rfl | exact .cell rfl rfl rfl rfl rfl | exact .cellA rfl rfl rfl rfl rfl) (by repeat (first | exact covL_nil | refine covL_dup rfl ?_ | refine covL_cons rfl rfl ?_)) ?_ | refine aend2 (by first | exact .inl rfl | exact .inr rfl) [] (by first | exact .tmp rfl | exact .cell rfl rfl rfl rfl rfl | exact .cellA rfl rfl rfl rfl rfl) (by first | exact .tmp rfl | exact .cell rfl rfl rfl rfl rfl | exact .cellA rfl rfl rfl rfl rfl) (by repeat (first | exact covL_nil | refine covL_dup rfl ?_ | refine covL_cons rfl rfl ?_)) ?_ | refine aend3 (by first | exact .inl rfl | exact .inr rfl) [] (by first | exact .tmp rfl | exact .cell rfl rfl rfl rfl rfl | exact .cellA rfl rfl rfl rfl rfl) (by first | exact .tmp rfl | exact .cell rfl rfl rfl rfl rfl | exact .cellA rfl rfl rfl rfl rfl) (by first | exact .tmp rfl | exact .cell rfl rfl rfl rfl rfl | exact .cellA rfl rfl rfl rfl rfl) (by repeat (first | exact covL_nil | refine covL_dup rfl ?_ | refine covL_cons rfl rfl ?_)) ?_
    refine ⟨congrArg (fun b => AV.lit (.bool b)) ?_, rfl⟩
    rw [may_one hsv]
    simp
end Go.Proofs.YtfbgpjgfgnpahaaDoor
