/- Numbers got out of bytes. -/
import Derived.Test.YtljgdgkmkneloaaQf
namespace Go.Proofs.Ytljgdgkmkneloaa
open Go Go.RowKit
set_option linter.unusedVariables false
set_option linter.unusedSimpArgs false

theorem get_or {m y k : Nat} (hk : k ≤ 9) (hm : m < 2 ^ (7 * k)) (hy : y < 128) (h9 : k = 9 → y ≤ 1) : bits BinOp.or .u64 (m : Int) (IntKind.u64.wrap ((y : Int) * 2 ^ min (7 * (k : Int)).toNat IntKind.u64.bits)) = ((m + y * 2 ^ (7 * k) : Nat) : Int) ∧ m + y * 2 ^ (7 * k) < 2 ^ 64 := by
  have e0 : min (7 * (k : Int)).toNat IntKind.u64.bits = 7 * k := by
    show min _ 64 = _
    omega
  have h64 : m < 2 ^ 64 := Nat.lt_of_lt_of_le hm (Nat.pow_le_pow_right (by omega) (by omega))
  have h1 : y * 2 ^ (7 * k) < 2 ^ 64 ∧ m + y * 2 ^ (7 * k) < 2 ^ 64 := by
    by_cases h : k = 9
    · subst h
      have := h9 rfl
      have hm' : m < 2 ^ 63 := hm
      omega
    · have := get_step hm (show k < 9 by omega) hy
      have h2 : 2 ^ (7 * (k + 1)) ≤ 2 ^ 63 := Nat.pow_le_pow_right (by decide) (by omega)
      omega
  rw [e0]
  exact ⟨or_low m y (7 * k) hm h1.1 h64, h1.2⟩
def getOut (l : List UInt8) : AV := match getN l with
  | some (v, r) => .tup [.lit (.int .u64 (v : Int)), .snap (slF encU r), .lit (.bool true)]
  | none => .tup [.lit (.int .u64 0), .lit (.slice none 0 0), .lit (.bool false)]
theorem getL_cons (i n : Nat) (x : UInt8) (l : List UInt8) : getL i n (x :: l) = if 9 < i ∨ (i = 9 ∧ 1 < x.toNat % 128) then none else if x.toNat < 128 then (if x.toNat = 0 ∧ 0 < i then none else some (n + x.toNat % 128 * 2 ^ (7 * i), l)) else getL (i + 1) (n + x.toNat % 128 * 2 ^ (7 * i)) l := rfl
theorem drop_nth' (l : List UInt8) (k : Nat) (hk : k < l.length) : l.drop k = nth l k :: l.drop (k + 1) := by
  rw [nth_eq hk, List.drop_eq_getElem_cons hk]
theorem getOut_none {l : List UInt8} (h : getN l = none) : getOut l = .tup [.lit (.int .u64 0), .lit (.slice none 0 0), .lit (.bool false)] := by unfold getOut; rw [h]
theorem getOut_some {l r : List UInt8} {v : Nat} (h : getN l = some (v, r)) : getOut l = .tup [.lit (.int .u64 (v : Int)), .snap (slF encU r), .lit (.bool true)] := by unfold getOut; rw [h]
set_option maxRecDepth 10000 in
set_option maxHeartbeats 400000 in
theorem get_con (l : List UInt8) (hl : l.length ≤ 100000) : Con Try.prog 74 [.snap (slF encU l)] [] (fun az hz => az = getOut l ∧ hz = []) := by
  refine con_of hT Try.func74 rfl rfl rfl rfl rfl rfl ?_
  intro c
  have hT := hT
  have hZ := hZ
  repeat' (first | refine a_seq ?_ | refine ar_step ?_ | refine a_block ?_ | refine a_skip ?_ | refine a_exit ?_ | refine a_ret ?_ | refine a_label ?_ | refine a_scope ?_ | refine a_region ?_ | refine at_normal ?_ | refine at_exit ?_ | refine at_ret ?_ | refine ab_normal ?_ | refine ab_ret ?_ | refine ab_same ?_ | refine ab_other rfl ?_ | refine ao_nil ?_ | (refine a_cond rfl (fun hb => ?_) (fun hb => ?_) <;> (try simp only [reduceCtorEq, bne_self_eq_false, not_true_eq_false, not_false_eq_true, or_self, and_false, false_and, or_true, true_or, or_false, false_or, and_true, true_and, and_self, decide_eq_true_eq, decide_eq_false_iff_not, Bool.and_eq_true, Bool.or_eq_true, Bool.or_eq_false_iff, Bool.and_eq_false_iff, Bool.not_eq_true', Bool.not_eq_false', Bool.not_true, Bool.not_false, ne_eq, Classical.not_not, Nat.not_lt, Int.not_lt, Int.not_le] at hb) <;> (try (exfalso; omega)) <;> (try exact (bool_ft hb (by assumption)).elim) <;> (try exact (bool_ft (by assumption) hb).elim)) | refine ao_alloc' (next := ?_) | refine ao_box' (next := ?_) | refine ao_store (next := ?_) | refine ao_store_own (next := ?_) | refine ao_store_ownR (next := ?_) | refine ao_append_same (next := ?_) | refine ao_append_nil (next := ?_) | refine ao_append_new (next := ?_) | refine ao_mkErr (next := ?_) | refine ao_clip (next := ?_) | refine ao_store_arr (next := ?_) | ((first | (apply ao_op rfl rfl (.plain rfl ?_) ?_; rotate_left) | (apply ao_op rfl rfl (.guard rfl rfl rfl fun hg => ?_) ?_; rotate_right) | (apply ao_op rfl rfl (.guardw rfl rfl rfl fun hg => ?_) ?_; rotate_right)); (try (have hg2 := hg; simp only [reduceCtorEq, bne_self_eq_false, not_true_eq_false, not_false_eq_true, or_self, and_false, false_and, or_true, true_or, or_false, false_or, and_true, true_and, and_self, decide_eq_true_eq, decide_eq_false_iff_not, Bool.and_eq_true, Bool.or_eq_true, Bool.or_eq_false_iff, Bool.and_eq_false_iff, Bool.not_eq_true', Bool.not_eq_false', Bool.not_true, Bool.not_false, ne_eq, Classical.not_not, Nat.not_lt, Int.not_lt, Int.not_le] at hg2)); (first | exact sop_bx | (apply sop_callOC (clone_con _ ?_) <;> first | exact sd) | exact sop_std | exact sop_false (by revert hg; decide) | fail)))
  refine a_loop (ι := Nat × Nat) (fun k => [(11, .lit (.int .i64 (k.1 : Int))), (5, .lit (.int .u64 ((k.2 : Nat) : Int)))]) (fun _ => []) (fun k => k.1 ≤ l.length ∧ k.1 ≤ 10 ∧ k.2 < 2 ^ 64 ∧ (k.1 ≤ 9 → k.2 < 2 ^ (7 * k.1)) ∧ getL k.1 k.2 (l.drop k.1) = getN l) (fun k => l.length - k.1) (0, 0) ⟨Nat.zero_le _, Nat.zero_le _, by decide, by intro _; decide, rfl⟩ ?_ ?_
  · (refine ⟨?_, ?_⟩ <;> repeat (first | exact covL_nil | refine covL_dup rfl ?_ | refine covL_cons rfl rfl ?_ | refine covL_cons rfl (cov_int rfl (by omega)) ?_))
  rintro ⟨k, m⟩ ⟨hk, hk10, hm, hm7, hg⟩
  simp only at hk hk10 hm hm7 hg
  have hx8 := (nth l k).toNat_lt
  repeat' (first | refine a_seq ?_ | refine ar_step ?_ | refine a_block ?_ | refine a_skip ?_ | refine a_exit ?_ | refine a_ret ?_ | refine a_label ?_ | refine a_scope ?_ | refine a_region ?_ | refine at_normal ?_ | refine at_exit ?_ | refine at_ret ?_ | refine ab_normal ?_ | refine ab_ret ?_ | refine ab_same ?_ | refine ab_other rfl ?_ | refine ao_nil ?_ | (refine a_cond rfl (fun hb => ?_) (fun hb => ?_) <;> (try simp only [reduceCtorEq, bne_self_eq_false, not_true_eq_false, not_false_eq_true, or_self, and_false, false_and, or_true, true_or, or_false, false_or, and_true, true_and, and_self, decide_eq_true_eq, decide_eq_false_iff_not, Bool.and_eq_true, Bool.or_eq_true, Bool.or_eq_false_iff, Bool.and_eq_false_iff, Bool.not_eq_true', Bool.not_eq_false', Bool.not_true, Bool.not_false, ne_eq, Classical.not_not, Nat.not_lt, Int.not_lt, Int.not_le] at hb) <;> (try (exfalso; omega)) <;> (try exact (bool_ft hb (by assumption)).elim) <;> (try exact (bool_ft (by assumption) hb).elim)) | refine ao_alloc' (next := ?_) | refine ao_box' (next := ?_) | refine ao_store (next := ?_) | refine ao_store_own (next := ?_) | refine ao_store_ownR (next := ?_) | refine ao_append_same (next := ?_) | refine ao_append_nil (next := ?_) | refine ao_append_new (next := ?_) | refine ao_mkErr (next := ?_) | refine ao_clip (next := ?_) | refine ao_store_arr (next := ?_) | ((first | (apply ao_op rfl rfl (.plain rfl ?_) ?_; rotate_left) | (apply ao_op rfl rfl (.guard rfl rfl rfl fun hg => ?_) ?_; rotate_right) | (apply ao_op rfl rfl (.guardw rfl rfl rfl fun hg => ?_) ?_; rotate_right)); (try (have hg2 := hg; simp only [reduceCtorEq, bne_self_eq_false, not_true_eq_false, not_false_eq_true, or_self, and_false, false_and, or_true, true_or, or_false, false_or, and_true, true_and, and_self, decide_eq_true_eq, decide_eq_false_iff_not, Bool.and_eq_true, Bool.or_eq_true, Bool.or_eq_false_iff, Bool.and_eq_false_iff, Bool.not_eq_true', Bool.not_eq_false', Bool.not_true, Bool.not_false, ne_eq, Classical.not_not, Nat.not_lt, Int.not_lt, Int.not_le] at hg2)); (first | exact sop_bx | (apply sop_callOC (clone_con _ ?_) <;> first | exact sd) | exact sop_std | exact sop_false (by revert hg; decide) | fail)))
  · have hkl : k < l.length := by omega
    rw [drop_nth' l k hkl, getL_cons, if_pos (by omega)] at hg
    first | refine aend0 (by first | exact .inl rfl | exact .inr rfl) []  (by repeat (first | exact covL_nil | refine covL_dup rfl ?_ | refine covL_cons rfl rfl ?_)) ?_ | refine aend1 (by first | exact .inl rfl | exact .inr rfl) [] (by first | exact .tmp rfl | exact .cell rfl rfl rfl rfl rfl | exact .cellA rfl rfl rfl rfl rfl) (by repeat (first | exact covL_nil | refine covL_dup rfl ?_ | refine covL_cons rfl rfl ?_)) ?_ | refine aend2 (by first | exact .inl rfl | exact .inr rfl) [] (by first | exact .tmp rfl | exact .cell rfl rfl rfl rfl rfl | exact .cellA rfl rfl rfl rfl rfl) (by first | exact .tmp rfl | exact .cell rfl rfl rfl rfl rfl | exact .cellA rfl rfl rfl rfl rfl) (by repeat (first | exact covL_nil | refine covL_dup rfl ?_ | refine covL_cons rfl rfl ?_)) ?_ | refine aend3 (by first | exact .inl rfl | exact .inr rfl) [] (by first | exact .tmp rfl | exact .cell rfl rfl rfl rfl rfl | exact .cellA rfl rfl rfl rfl rfl) (by first | exact .tmp rfl | exact .cell rfl rfl rfl rfl rfl | exact .cellA rfl rfl rfl rfl rfl) (by first | exact .tmp rfl | exact .cell rfl rfl rfl rfl rfl | exact .cellA rfl rfl rfl rfl rfl) (by repeat (first | exact covL_nil | refine covL_dup rfl ?_ | refine covL_cons rfl rfl ?_)) ?_
    exact ⟨(getOut_none hg.symm).symm, rfl⟩
  · have hkl : k < l.length := by omega
    rw [drop_nth' l k hkl, getL_cons, if_neg (by omega), if_pos (by omega), if_pos (by omega)] at hg
    first | refine aend0 (by first | exact .inl rfl | exact .inr rfl) []  (by repeat (first | exact covL_nil | refine covL_dup rfl ?_ | refine covL_cons rfl rfl ?_)) ?_ | refine aend1 (by first | exact .inl rfl | exact .inr rfl) [] (by first | exact .tmp rfl | exact .cell rfl rfl rfl rfl rfl | exact .cellA rfl rfl rfl rfl rfl) (by repeat (first | exact covL_nil | refine covL_dup rfl ?_ | refine covL_cons rfl rfl ?_)) ?_ | refine aend2 (by first | exact .inl rfl | exact .inr rfl) [] (by first | exact .tmp rfl | exact .cell rfl rfl rfl rfl rfl | exact .cellA rfl rfl rfl rfl rfl) (by first | exact .tmp rfl | exact .cell rfl rfl rfl rfl rfl | exact .cellA rfl rfl rfl rfl rfl) (by repeat (first | exact covL_nil | refine covL_dup rfl ?_ | refine covL_cons rfl rfl ?_)) ?_ | refine aend3 (by first | exact .inl rfl | exact .inr rfl) [] (by first | exact .tmp rfl | exact .cell rfl rfl rfl rfl rfl | exact .cellA rfl rfl rfl rfl rfl) (by first | exact .tmp rfl | exact .cell rfl rfl rfl rfl rfl | exact .cellA rfl rfl rfl rfl rfl) (by first | exact .tmp rfl | exact .cell rfl rfl rfl rfl rfl | exact .cellA rfl rfl rfl rfl rfl) (by repeat (first | exact covL_nil | refine covL_dup rfl ?_ | refine covL_cons rfl rfl ?_)) ?_
    exact ⟨(getOut_none hg.symm).symm, rfl⟩
  · have hkl : k < l.length := by omega
    rw [drop_nth' l k hkl, getL_cons, if_neg (by omega), if_pos (by omega), if_neg (by omega)] at hg
    have hor := get_or (y := (nth l k).toNat % 128) (show k ≤ 9 by omega) (hm7 (by omega)) (by omega) (by omega)
    first | refine aend0 (by first | exact .inl rfl | exact .inr rfl) []  (by repeat (first | exact covL_nil | refine covL_dup rfl ?_ | refine covL_cons rfl rfl ?_)) ?_ | refine aend1 (by first | exact .inl rfl | exact .inr rfl) [] (by first | exact .tmp rfl | exact .cell rfl rfl rfl rfl rfl | exact .cellA rfl rfl rfl rfl rfl) (by repeat (first | exact covL_nil | refine covL_dup rfl ?_ | refine covL_cons rfl rfl ?_)) ?_ | refine aend2 (by first | exact .inl rfl | exact .inr rfl) [] (by first | exact .tmp rfl | exact .cell rfl rfl rfl rfl rfl | exact .cellA rfl rfl rfl rfl rfl) (by first | exact .tmp rfl | exact .cell rfl rfl rfl rfl rfl | exact .cellA rfl rfl rfl rfl rfl) (by repeat (first | exact covL_nil | refine covL_dup rfl ?_ | refine covL_cons rfl rfl ?_)) ?_ | refine aend3 (by first | exact .inl rfl | exact .inr rfl) [] (by first | exact .tmp rfl | exact .cell rfl rfl rfl rfl rfl | exact .cellA rfl rfl rfl rfl rfl) (by first | exact .tmp rfl | exact .cell rfl rfl rfl rfl rfl | exact .cellA rfl rfl rfl rfl rfl) (by first | exact .tmp rfl | exact .cell rfl rfl rfl rfl rfl | exact .cellA rfl rfl rfl rfl rfl) (by repeat (first | exact covL_nil | refine covL_dup rfl ?_ | refine covL_cons rfl rfl ?_)) ?_
    refine ⟨?_, rfl⟩
    rw [getOut_some hg.symm, hor.1]
    rfl
  · have hkl : k < l.length := by omega
    rw [drop_nth' l k hkl, getL_cons, if_neg (by omega), if_neg (by omega)] at hg
    have hor := get_or (y := (nth l k).toNat % 128) (show k ≤ 9 by omega) (hm7 (by omega)) (by omega) (by omega)
    refine ⟨(k + 1, m + (nth l k).toNat % 128 * 2 ^ (7 * k)), ⟨by show k + 1 ≤ _; omega, by show k + 1 ≤ 10; omega, hor.2, fun h => (get_step (hm7 (by omega)) (by show k < 9; have h' : k + 1 ≤ 9 := h; omega) (by omega)).1, hg⟩, by show l.length - (k + 1) < l.length - k; omega, ?_⟩
    rw [hor.1]
    (refine ⟨?_, ?_⟩ <;> repeat (first | exact covL_nil | refine covL_dup rfl ?_ | refine covL_cons rfl rfl ?_ | refine covL_cons rfl (cov_int rfl (by omega)) ?_))
  · have hkl : k = l.length := by omega
    rw [hkl, List.drop_length] at hg
    first | refine aend0 (by first | exact .inl rfl | exact .inr rfl) []  (by repeat (first | exact covL_nil | refine covL_dup rfl ?_ | refine covL_cons rfl rfl ?_)) ?_ | refine aend1 (by first | exact .inl rfl | exact .inr rfl) [] (by first | exact .tmp rfl | exact .cell rfl rfl rfl rfl rfl | exact .cellA rfl rfl rfl rfl rfl) (by repeat (first | exact covL_nil | refine covL_dup rfl ?_ | refine covL_cons rfl rfl ?_)) ?_ | refine aend2 (by first | exact .inl rfl | exact .inr rfl) [] (by first | exact .tmp rfl | exact .cell rfl rfl rfl rfl rfl | exact .cellA rfl rfl rfl rfl rfl) (by first | exact .tmp rfl | exact .cell rfl rfl rfl rfl rfl | exact .cellA rfl rfl rfl rfl rfl) (by repeat (first | exact covL_nil | refine covL_dup rfl ?_ | refine covL_cons rfl rfl ?_)) ?_ | refine aend3 (by first | exact .inl rfl | exact .inr rfl) [] (by first | exact .tmp rfl | exact .cell rfl rfl rfl rfl rfl | exact .cellA rfl rfl rfl rfl rfl) (by first | exact .tmp rfl | exact .cell rfl rfl rfl rfl rfl | exact .cellA rfl rfl rfl rfl rfl) (by first | exact .tmp rfl | exact .cell rfl rfl rfl rfl rfl | exact .cellA rfl rfl rfl rfl rfl) (by repeat (first | exact covL_nil | refine covL_dup rfl ?_ | refine covL_cons rfl rfl ?_)) ?_
    exact ⟨(getOut_none hg.symm).symm, rfl⟩
end Go.Proofs.Ytljgdgkmkneloaa
