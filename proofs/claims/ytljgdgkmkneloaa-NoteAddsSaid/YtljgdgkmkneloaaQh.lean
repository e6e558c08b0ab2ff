/- Numbers got out of bytes by the document. -/
import Derived.Test.YtljgdgkmkneloaaQg
import Derived.Test.YtljgdgkmkneloaaG5
namespace Go.Proofs.Ytljgdgkmkneloaa
open Go Go.RowKit
set_option linter.unusedVariables false
set_option linter.unusedSimpArgs false

theorem getL_ten : ∀ (i m : Nat) (l : List UInt8), 9 < i → getL i m l = none
  | _, _, [], _ => rfl
  | i, m, x :: l, h => by
    simp only [getL]
    rw [if_pos (.inl h)]
theorem u64_nat (z : Int) (a b : Int) (h : z = bits BinOp.or .u64 a b) : ∃ n : Nat, z = (n : Int) ∧ n < 18446744073709551616 := by
  have h1 := bits_within .or .u64 a b
  simp [IntKind.min, IntKind.max, IntKind.signed, IntKind.bits] at h1
  refine ⟨z.toNat, by omega, by omega⟩
/-- what the document's answer makes of the byte that ends a number -/
theorem ref_step {l : List UInt8} {k m n1 : Nat} {x : UInt8} (hk : k ≤ 9) (hd : l.drop k = x :: l.drop (k + 1)) (hlt : k < l.length) (hm : m < 2 ^ (7 * k)) (hg : getL k m (l.drop k) = getN l) (hx : x.toNat < 128)
    (hn : n1 < 18446744073709551616) (hn1 : k < 9 ∨ x.toNat % 128 ≤ 1 → n1 = m + x.toNat % 128 * 2 ^ (7 * k)) :
    getN l = if putN n1 = l.take (k + 1) then some (n1, l.drop (k + 1)) else none := by
  have htk : l.take (k + 1) ++ l.drop (k + 1) = l := List.take_append_drop _ _
  have hlen : (l.take (k + 1)).length = k + 1 := by simp; omega
  split
  · next h =>
    rw [← htk, ← h]
    rw [getN_put n1 _ hn]
    congr 2
    rw [h, hlen.symm]
    simp
  · next h =>
    cases hgl : getN l with
    | none => rfl
    | some p =>
      exfalso
      obtain ⟨n', r⟩ := p
      have hgl' := hgl
      rw [← hg, hd] at hgl
      simp only [getL] at hgl
      by_cases h9 : 9 < k ∨ (k = 9 ∧ 1 < x.toNat % 128)
      · rw [if_pos h9] at hgl; cases hgl
      · rw [if_neg h9, if_pos hx] at hgl
        by_cases h0 : x.toNat = 0 ∧ 0 < k
        · rw [if_pos h0] at hgl; cases hgl
        · rw [if_neg h0] at hgl
          injection hgl with hgl
          injection hgl with e1 e2
          have : n1 = n' := by rw [hn1 (by omega)]; exact e1
          subst this
          subst e2
          have h3 := (getN_iff l n1 (l.drop (k + 1))).1 hgl'
          have h4 := h3.2
          rw [← htk] at h4
          have := (List.append_inj h4 (by
            have := congrArg List.length h4
            simp at this ⊢
            omega)).1
          exact h this.symm
set_option maxRecDepth 10000 in
set_option maxHeartbeats 2000000 in
theorem rget_con (l : List UInt8) (hl : l.length ≤ 100000) : Con Try.prog 70 [.snap (slF encU l)] [] (fun az hz => az = getOut l ∧ hz = []) := by
  refine con_of hT Try.func70 rfl rfl rfl rfl rfl rfl ?_
  intro c
  have hT := hT
  have hZ := hZ
  repeat' (first | refine a_seq ?_ | refine ar_step ?_ | refine a_block ?_ | refine a_skip ?_ | refine a_exit ?_ | refine a_ret ?_ | refine a_label ?_ | refine a_scope ?_ | refine a_region ?_ | refine a_region_U' rfl (by kernel_rfl) (by kernel_rfl) (by kernel_rfl) (by kernel_rfl) (by assumption) (by assumption) rfl ?_ | refine a_region_tailN rfl rfl (by kernel_rfl) (by kernel_rfl) (by kernel_rfl) (by kernel_rfl) (by assumption) rfl rfl ?_ | refine a_region_tailA rfl rfl (by kernel_rfl) (by kernel_rfl) (by kernel_rfl) (by kernel_rfl) (by assumption) rfl rfl rfl ?_ | refine a_region_tail rfl (by kernel_rfl) (by kernel_rfl) (by kernel_rfl) (by kernel_rfl) ?_ | refine a_region_tailR rfl (by kernel_rfl) (by kernel_rfl) (by kernel_rfl) (by kernel_rfl) ?_ | refine a_region_any (by kernel_rfl) (by kernel_rfl) (by kernel_rfl) ?_ | refine at_normal ?_ | refine at_exit ?_ | refine at_ret ?_ | refine ab_normal ?_ | refine ab_ret ?_ | refine ab_same ?_ | refine ab_other rfl ?_ | refine ao_nil ?_ | refine EvK.nil ?_ | refine EvU.nil ?_ | refine EvU.alloc rfl rfl ?_ | refine EvU.store rfl rfl rfl rfl rfl (by first | exact .un rfl (by first | assumption | exact And.left (by assumption)) | exact .of rfl) rfl rfl rfl rfl rfl ?_ | refine tailA_k rfl rfl ?_ | refine tailA_k trivial rfl ?_ | refine tailA_k trivial (by kernel_rfl) ?_ | (refine a_cond rfl (fun hb => ?_) (fun hb => ?_) <;> (try simp only [reduceCtorEq, bne_self_eq_false, not_true_eq_false, not_false_eq_true, or_self, and_false, false_and, or_true, true_or, or_false, false_or, and_true, true_and, and_self, decide_eq_true_eq, decide_eq_false_iff_not, Bool.and_eq_true, Bool.or_eq_true, Bool.or_eq_false_iff, Bool.and_eq_false_iff, Bool.not_eq_true', Bool.not_eq_false', Bool.not_true, Bool.not_false, ne_eq, Classical.not_not, Nat.not_lt, Int.not_lt, Int.not_le] at hb) <;> (try (exfalso; omega)) <;> (try exact (bool_ft hb (by assumption)).elim) <;> (try exact (bool_ft (by assumption) hb).elim)) | ((apply ao_op rfl rfl (.plain rfl ?_) ?_; rotate_left); exact sop_appNil) | refine ao_alloc' (next := ?_) | refine ao_box' (next := ?_) | refine ao_store (next := ?_) | refine ao_store_own (next := ?_) | refine ao_store_ownR (next := ?_) | refine ao_append_same (next := ?_) | refine ao_append_nil (next := ?_) | refine ao_append_new (next := ?_) | refine ao_mkErr (next := ?_) | refine ao_clip (next := ?_) | refine ao_store_arr (next := ?_) | ((first | (apply ao_op rfl rfl (.plain rfl ?_) ?_; rotate_left) | (apply EvK.cons rfl (.plain rfl ?_) ?_; rotate_left) | (apply EvU.plain rfl rfl rfl ?_ ?_; rotate_left) | (apply ao_op rfl rfl (.guard rfl rfl rfl fun hg => ?_) ?_; rotate_right) | (apply ao_op rfl rfl (.guardw rfl rfl rfl fun hg => ?_) ?_; rotate_right) | (apply EvK.cons rfl (.guard rfl rfl rfl fun hg => ?_) ?_; rotate_right) | (apply EvK.cons rfl (.guardw rfl rfl rfl fun hg => ?_) ?_; rotate_right)); (first | (first | exact sop_bx | (apply sop_callOC (rput_con _ _ ?_ ?_ ?_) <;> first | exact sd | assumption) | exact sop_std | exact sop_false (by revert hg; decide) | fail) | ((have hg2 := hg; simp only [reduceCtorEq, bne_self_eq_false, not_true_eq_false, not_false_eq_true, or_self, and_false, false_and, or_true, true_or, or_false, false_or, and_true, true_and, and_self, decide_eq_true_eq, decide_eq_false_iff_not, Bool.and_eq_true, Bool.or_eq_true, Bool.or_eq_false_iff, Bool.and_eq_false_iff, Bool.not_eq_true', Bool.not_eq_false', Bool.not_true, Bool.not_false, ne_eq, Classical.not_not, Nat.not_lt, Int.not_lt, Int.not_le] at hg2); (first | exact sop_bx | (apply sop_callOC (rput_con _ _ ?_ ?_ ?_) <;> first | exact sd | assumption) | exact sop_std | exact sop_false (by revert hg; decide) | fail)) | fail)))
  refine a_loop (ι := Nat × Nat) (fun k => [(6, .lit (.int .i64 (k.1 : Int))), (5, .lit (.int .u64 ((k.2 : Nat) : Int)))]) (fun _ => []) (fun k => k.1 ≤ l.length ∧ k.1 ≤ 10 ∧ (k.1 ≤ 9 → k.2 < 2 ^ (7 * k.1) ∧ getL k.1 k.2 (l.drop k.1) = getN l) ∧ (k.1 = 10 → getN l = none)) (fun k => l.length - k.1) (0, 0) ⟨Nat.zero_le _, Nat.zero_le _, fun _ => ⟨by decide, rfl⟩, fun h => by cases h⟩ ?_ ?_
  · (refine ⟨?_, ?_⟩ <;> repeat (first | exact covL_nil | refine covL_dup rfl ?_ | refine covL_cons rfl rfl ?_ | refine covL_cons rfl (cov_int rfl (by omega)) ?_))
  rintro ⟨k, m⟩ ⟨hk, hk10, hm, hten⟩
  simp only at hk hk10 hm hten
  obtain ⟨n1, hn1, hn1b⟩ := u64_nat _ _ _ (rfl : bits BinOp.or .u64 (m : Int) (IntKind.u64.wrap ((((nth l k).toNat % 128 : Nat) : Int) * 2 ^ min (7 * (k : Int)).toNat IntKind.u64.bits)) = _)
  have hpl := putN_len (bits BinOp.or .u64 (m : Int) (IntKind.u64.wrap ((((nth l k).toNat % 128 : Nat) : Int) * 2 ^ min (7 * (k : Int)).toNat IntKind.u64.bits))).toNat
  have hval : k ≤ 9 → k < 9 ∨ (nth l k).toNat % 128 ≤ 1 → n1 = m + (nth l k).toNat % 128 * 2 ^ (7 * k) := fun h9 h => by
    have h3 := (get_or (y := (nth l k).toNat % 128) h9 (hm h9).1 (by omega) (by omega)).1
    rw [h3] at hn1
    omega
  have hx8 := (nth l k).toNat_lt
  repeat' (first | refine a_seq ?_ | refine ar_step ?_ | refine a_block ?_ | refine a_skip ?_ | refine a_exit ?_ | refine a_ret ?_ | refine a_label ?_ | refine a_scope ?_ | refine a_region ?_ | refine a_region_U' rfl (by kernel_rfl) (by kernel_rfl) (by kernel_rfl) (by kernel_rfl) (by assumption) (by assumption) rfl ?_ | refine a_region_tailN rfl rfl (by kernel_rfl) (by kernel_rfl) (by kernel_rfl) (by kernel_rfl) (by assumption) rfl rfl ?_ | refine a_region_tailA rfl rfl (by kernel_rfl) (by kernel_rfl) (by kernel_rfl) (by kernel_rfl) (by assumption) rfl rfl rfl ?_ | refine a_region_tail rfl (by kernel_rfl) (by kernel_rfl) (by kernel_rfl) (by kernel_rfl) ?_ | refine a_region_tailR rfl (by kernel_rfl) (by kernel_rfl) (by kernel_rfl) (by kernel_rfl) ?_ | refine a_region_any (by kernel_rfl) (by kernel_rfl) (by kernel_rfl) ?_ | refine at_normal ?_ | refine at_exit ?_ | refine at_ret ?_ | refine ab_normal ?_ | refine ab_ret ?_ | refine ab_same ?_ | refine ab_other rfl ?_ | refine ao_nil ?_ | refine EvK.nil ?_ | refine EvU.nil ?_ | refine EvU.alloc rfl rfl ?_ | refine EvU.store rfl rfl rfl rfl rfl (by first | exact .un rfl (by first | assumption | exact And.left (by assumption)) | exact .of rfl) rfl rfl rfl rfl rfl ?_ | refine tailA_k rfl rfl ?_ | refine tailA_k trivial rfl ?_ | refine tailA_k trivial (by kernel_rfl) ?_ | (refine a_cond rfl (fun hb => ?_) (fun hb => ?_) <;> (try simp only [reduceCtorEq, bne_self_eq_false, not_true_eq_false, not_false_eq_true, or_self, and_false, false_and, or_true, true_or, or_false, false_or, and_true, true_and, and_self, decide_eq_true_eq, decide_eq_false_iff_not, Bool.and_eq_true, Bool.or_eq_true, Bool.or_eq_false_iff, Bool.and_eq_false_iff, Bool.not_eq_true', Bool.not_eq_false', Bool.not_true, Bool.not_false, ne_eq, Classical.not_not, Nat.not_lt, Int.not_lt, Int.not_le] at hb) <;> (try (exfalso; omega)) <;> (try exact (bool_ft hb (by assumption)).elim) <;> (try exact (bool_ft (by assumption) hb).elim)) | ((apply ao_op rfl rfl (.plain rfl ?_) ?_; rotate_left); exact sop_appNil) | refine ao_alloc' (next := ?_) | refine ao_box' (next := ?_) | refine ao_store (next := ?_) | refine ao_store_own (next := ?_) | refine ao_store_ownR (next := ?_) | refine ao_append_same (next := ?_) | refine ao_append_nil (next := ?_) | refine ao_append_new (next := ?_) | refine ao_mkErr (next := ?_) | refine ao_clip (next := ?_) | refine ao_store_arr (next := ?_) | ((first | (apply ao_op rfl rfl (.plain rfl ?_) ?_; rotate_left) | (apply EvK.cons rfl (.plain rfl ?_) ?_; rotate_left) | (apply EvU.plain rfl rfl rfl ?_ ?_; rotate_left) | (apply ao_op rfl rfl (.guard rfl rfl rfl fun hg => ?_) ?_; rotate_right) | (apply ao_op rfl rfl (.guardw rfl rfl rfl fun hg => ?_) ?_; rotate_right) | (apply EvK.cons rfl (.guard rfl rfl rfl fun hg => ?_) ?_; rotate_right) | (apply EvK.cons rfl (.guardw rfl rfl rfl fun hg => ?_) ?_; rotate_right)); (first | (first | exact sop_bx | (apply sop_callOC (rput_con _ _ ?_ ?_ ?_) <;> first | exact sd | assumption) | exact sop_std | exact sop_false (by revert hg; decide) | fail) | ((have hg2 := hg; simp only [reduceCtorEq, bne_self_eq_false, not_true_eq_false, not_false_eq_true, or_self, and_false, false_and, or_true, true_or, or_false, false_or, and_true, true_and, and_self, decide_eq_true_eq, decide_eq_false_iff_not, Bool.and_eq_true, Bool.or_eq_true, Bool.or_eq_false_iff, Bool.and_eq_false_iff, Bool.not_eq_true', Bool.not_eq_false', Bool.not_true, Bool.not_false, ne_eq, Classical.not_not, Nat.not_lt, Int.not_lt, Int.not_le] at hg2); (first | exact sop_bx | (apply sop_callOC (rput_con _ _ ?_ ?_ ?_) <;> first | exact sd | assumption) | exact sop_std | exact sop_false (by revert hg; decide) | fail)) | fail)))
  · have hkl : k < l.length := by omega
    have hd := drop_nth' l k hkl
    refine ⟨(k + 1, n1), ⟨by show k + 1 ≤ _; omega, by show k + 1 ≤ 10; omega, fun h9 => ?_, fun h10 => ?_⟩, by show l.length - (k + 1) < l.length - k; omega, ?_⟩
    · have h9' : k + 1 ≤ 9 := h9
      have e := hval (by omega) (.inl (by omega))
      show n1 < 2 ^ (7 * (k + 1)) ∧ getL (k + 1) n1 (l.drop (k + 1)) = getN l
      rw [e]
      refine ⟨(get_step (hm (by omega)).1 (by omega) (by omega)).1, ?_⟩
      rw [← (hm (by omega)).2, hd, getL_cons, if_neg (by omega), if_neg (by omega)]
    · have h10' : k + 1 = 10 := h10
      rw [← (hm (by omega)).2, hd, getL_cons]
      by_cases hc9 : 9 < k ∨ (k = 9 ∧ 1 < (nth l k).toNat % 128)
      · rw [if_pos hc9]
      · rw [if_neg hc9, if_neg (by omega)]
        exact getL_ten _ _ _ (by omega)
    · rw [← hn1]
      (refine ⟨?_, ?_⟩ <;> repeat (first | exact covL_nil | refine covL_dup rfl ?_ | refine covL_cons rfl rfl ?_ | refine covL_cons rfl (cov_int rfl (by omega)) ?_))
  · have hkl : k < l.length := by omega
    have hs := ref_step (by omega) (drop_nth' l k hkl) hkl (hm (by omega)).1 (hm (by omega)).2 (by omega) hn1b (hval (by omega))
    have hb' : ¬ putN n1 = l.take (k + 1) := fun e => hb (by
      rw [List.nil_append, hn1, Int.toNat_natCast, e]
      congr 1; try omega)
    rw [if_neg hb'] at hs
    first | refine aend0 (by first | exact .inl rfl | exact .inr rfl) []  (by repeat (first | exact covL_nil | refine covL_dup rfl ?_ | refine covL_cons rfl rfl ?_)) ?_ | refine aend1 (by first | exact .inl rfl | exact .inr rfl) [] (by first | exact .tmp rfl | exact .cell rfl rfl rfl rfl rfl | exact .cellA rfl rfl rfl rfl rfl) (by repeat (first | exact covL_nil | refine covL_dup rfl ?_ | refine covL_cons rfl rfl ?_)) ?_ | refine aend2 (by first | exact .inl rfl | exact .inr rfl) [] (by first | exact .tmp rfl | exact .cell rfl rfl rfl rfl rfl | exact .cellA rfl rfl rfl rfl rfl) (by first | exact .tmp rfl | exact .cell rfl rfl rfl rfl rfl | exact .cellA rfl rfl rfl rfl rfl) (by repeat (first | exact covL_nil | refine covL_dup rfl ?_ | refine covL_cons rfl rfl ?_)) ?_ | refine aend3 (by first | exact .inl rfl | exact .inr rfl) [] (by first | exact .tmp rfl | exact .cell rfl rfl rfl rfl rfl | exact .cellA rfl rfl rfl rfl rfl) (by first | exact .tmp rfl | exact .cell rfl rfl rfl rfl rfl | exact .cellA rfl rfl rfl rfl rfl) (by first | exact .tmp rfl | exact .cell rfl rfl rfl rfl rfl | exact .cellA rfl rfl rfl rfl rfl) (by repeat (first | exact covL_nil | refine covL_dup rfl ?_ | refine covL_cons rfl rfl ?_)) ?_
    exact ⟨(getOut_none hs).symm, rfl⟩
  · have hkl : k < l.length := by omega
    have hs := ref_step (by omega) (drop_nth' l k hkl) hkl (hm (by omega)).1 (hm (by omega)).2 (by omega) hn1b (hval (by omega))
    have hb' : putN n1 = l.take (k + 1) := by
      rw [List.nil_append, hn1, Int.toNat_natCast] at hb
      rw [hb]
      congr 1; try omega
    rw [if_pos hb'] at hs
    first | refine aend0 (by first | exact .inl rfl | exact .inr rfl) []  (by repeat (first | exact covL_nil | refine covL_dup rfl ?_ | refine covL_cons rfl rfl ?_)) ?_ | refine aend1 (by first | exact .inl rfl | exact .inr rfl) [] (by first | exact .tmp rfl | exact .cell rfl rfl rfl rfl rfl | exact .cellA rfl rfl rfl rfl rfl) (by repeat (first | exact covL_nil | refine covL_dup rfl ?_ | refine covL_cons rfl rfl ?_)) ?_ | refine aend2 (by first | exact .inl rfl | exact .inr rfl) [] (by first | exact .tmp rfl | exact .cell rfl rfl rfl rfl rfl | exact .cellA rfl rfl rfl rfl rfl) (by first | exact .tmp rfl | exact .cell rfl rfl rfl rfl rfl | exact .cellA rfl rfl rfl rfl rfl) (by repeat (first | exact covL_nil | refine covL_dup rfl ?_ | refine covL_cons rfl rfl ?_)) ?_ | refine aend3 (by first | exact .inl rfl | exact .inr rfl) [] (by first | exact .tmp rfl | exact .cell rfl rfl rfl rfl rfl | exact .cellA rfl rfl rfl rfl rfl) (by first | exact .tmp rfl | exact .cell rfl rfl rfl rfl rfl | exact .cellA rfl rfl rfl rfl rfl) (by first | exact .tmp rfl | exact .cell rfl rfl rfl rfl rfl | exact .cellA rfl rfl rfl rfl rfl) (by repeat (first | exact covL_nil | refine covL_dup rfl ?_ | refine covL_cons rfl rfl ?_)) ?_
    refine ⟨?_, rfl⟩
    rw [getOut_some hs, hn1]
    rfl
  · have hno : getN l = none := by
      by_cases h10 : k = 10
      · exact hten h10
      · have hkl : k = l.length := by omega
        have h2 := (hm (by omega)).2
        rw [hkl, List.drop_length] at h2
        rw [← h2]; rfl
    first | refine aend0 (by first | exact .inl rfl | exact .inr rfl) []  (by repeat (first | exact covL_nil | refine covL_dup rfl ?_ | refine covL_cons rfl rfl ?_)) ?_ | refine aend1 (by first | exact .inl rfl | exact .inr rfl) [] (by first | exact .tmp rfl | exact .cell rfl rfl rfl rfl rfl | exact .cellA rfl rfl rfl rfl rfl) (by repeat (first | exact covL_nil | refine covL_dup rfl ?_ | refine covL_cons rfl rfl ?_)) ?_ | refine aend2 (by first | exact .inl rfl | exact .inr rfl) [] (by first | exact .tmp rfl | exact .cell rfl rfl rfl rfl rfl | exact .cellA rfl rfl rfl rfl rfl) (by first | exact .tmp rfl | exact .cell rfl rfl rfl rfl rfl | exact .cellA rfl rfl rfl rfl rfl) (by repeat (first | exact covL_nil | refine covL_dup rfl ?_ | refine covL_cons rfl rfl ?_)) ?_ | refine aend3 (by first | exact .inl rfl | exact .inr rfl) [] (by first | exact .tmp rfl | exact .cell rfl rfl rfl rfl rfl | exact .cellA rfl rfl rfl rfl rfl) (by first | exact .tmp rfl | exact .cell rfl rfl rfl rfl rfl | exact .cellA rfl rfl rfl rfl rfl) (by first | exact .tmp rfl | exact .cell rfl rfl rfl rfl rfl | exact .cellA rfl rfl rfl rfl rfl) (by repeat (first | exact covL_nil | refine covL_dup rfl ?_ | refine covL_cons rfl rfl ?_)) ?_
    exact ⟨(getOut_none hno).symm, rfl⟩
end Go.Proofs.Ytljgdgkmkneloaa
