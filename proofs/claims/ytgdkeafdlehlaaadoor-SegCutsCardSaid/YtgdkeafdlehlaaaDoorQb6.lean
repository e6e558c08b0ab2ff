/- Bytes lent, kept, written over; bytes of a number. -/
import Derived.Test.YtgdkeafdlehlaaaDoorQa
namespace Go.Proofs.YtgdkeafdlehlaaaDoor
open Go Go.RowKit
set_option linter.unusedVariables false
set_option linter.unusedSimpArgs false

section
variable {P : Program} {c : Ctx} {n : Nat} {Q : AQ} {fr : List (Nat × AV)} {H : List (Nat × Res)}
theorem a_reownC {code : Code} (j : Nat) {α : Type} {E : Enc α} {e : Nat} {xs ys : List α} (hj : look H j = some (.own e E xs)) (he : xs = ys) (h : ACode P c n code Q fr ((j, .own e E ys) :: H)) : ACode P c n code Q fr H := fun S γ tmps w hr => by
  subst he
  refine h S γ tmps w (hr.sub (fun _ _ h => h) fun i r hi => ?_)
  rw [look_cons] at hi
  split at hi
  · rename_i e; subst e; rw [← hi]; exact hj
  · exact hi
end
set_option maxRecDepth 10000 in
set_option maxHeartbeats 400000 in
theorem over_b (ms : List UInt8) (hl : ms.length ≤ 1000000) : Con Tryd.prog 18 [.own 0] [(0, .own 5 encU ms)] (fun a h => a = .tup [] ∧ h = []) := by
  refine con_of hT Tryd.func18 rfl rfl rfl rfl rfl rfl ?_
  intro c
  have hT := hT
  have hZ := hZ
  repeat' (first | refine a_seq ?_ | refine ar_step ?_ | refine a_block ?_ | refine a_skip ?_ | refine a_exit ?_ | refine a_ret ?_ | refine a_label ?_ | refine a_scope ?_ | refine a_region ?_ | refine at_normal ?_ | refine at_exit ?_ | refine at_ret ?_ | refine ab_normal ?_ | refine ab_ret ?_ | refine ab_same ?_ | refine ab_other rfl ?_ | refine ao_nil ?_ | (refine a_cond rfl (fun hb => ?_) (fun hb => ?_) <;> (try simp only [reduceCtorEq, bne_self_eq_false, not_true_eq_false, not_false_eq_true, or_self, and_false, false_and, or_true, true_or, or_false, false_or, and_true, true_and, and_self, decide_eq_true_eq, decide_eq_false_iff_not, Bool.and_eq_true, Bool.or_eq_true, Bool.or_eq_false_iff, Bool.and_eq_false_iff, Bool.not_eq_true', Bool.not_eq_false', Bool.not_true, Bool.not_false, ne_eq, Classical.not_not, Nat.not_lt, Int.not_lt, Int.not_le] at hb) <;> (try (exfalso; omega)) <;> (try exact (bool_ft hb (by assumption)).elim) <;> (try exact (bool_ft (by assumption) hb).elim)) | refine ao_store_own (x' := (238 : UInt8)) (next := ?_) | refine ao_alloc' (next := ?_) | refine ao_box' (next := ?_) | refine ao_store (next := ?_) | refine ao_store_own (next := ?_) | refine ao_store_ownR (next := ?_) | refine ao_append_same (next := ?_) | refine ao_append_nil (next := ?_) | refine ao_append_new (next := ?_) | refine ao_mkErr (next := ?_) | refine ao_clip (next := ?_) | refine ao_store_arr (next := ?_) | ((first | (apply ao_op rfl rfl (.plain rfl ?_) ?_; rotate_left)); (first | exact sop_buildSlice (E := encU) | exact sop_std | fail)))
  refine a_loop (ι := Nat × List UInt8) (fun k => [(2, .lit (.int .i64 (k.1 : Int)))]) (fun k => [(0, .own 5 encU k.2)]) (fun k => k.1 ≤ ms.length ∧ k.2.length = ms.length) (fun k => ms.length - k.1) (0, ms) ⟨by show 0 ≤ _; omega, rfl⟩ ?_ ?_
  · (refine ⟨?_, ?_⟩ <;> repeat (first | exact covL_nil | refine covL_dup rfl ?_ | refine covL_cons rfl rfl ?_ | refine covL_cons rfl (cov_int rfl (by omega)) ?_))
  rintro ⟨k, ys⟩ ⟨hk, hy⟩
  simp only at hk hy
  repeat' (first | refine a_seq ?_ | refine ar_step ?_ | refine a_block ?_ | refine a_skip ?_ | refine a_exit ?_ | refine a_ret ?_ | refine a_label ?_ | refine a_scope ?_ | refine a_region ?_ | refine at_normal ?_ | refine at_exit ?_ | refine at_ret ?_ | refine ab_normal ?_ | refine ab_ret ?_ | refine ab_same ?_ | refine ab_other rfl ?_ | refine ao_nil ?_ | (refine a_cond rfl (fun hb => ?_) (fun hb => ?_) <;> (try simp only [reduceCtorEq, bne_self_eq_false, not_true_eq_false, not_false_eq_true, or_self, and_false, false_and, or_true, true_or, or_false, false_or, and_true, true_and, and_self, decide_eq_true_eq, decide_eq_false_iff_not, Bool.and_eq_true, Bool.or_eq_true, Bool.or_eq_false_iff, Bool.and_eq_false_iff, Bool.not_eq_true', Bool.not_eq_false', Bool.not_true, Bool.not_false, ne_eq, Classical.not_not, Nat.not_lt, Int.not_lt, Int.not_le] at hb) <;> (try (exfalso; omega)) <;> (try exact (bool_ft hb (by assumption)).elim) <;> (try exact (bool_ft (by assumption) hb).elim)) | refine ao_store_own (x' := (238 : UInt8)) (next := ?_) | refine ao_alloc' (next := ?_) | refine ao_box' (next := ?_) | refine ao_store (next := ?_) | refine ao_store_own (next := ?_) | refine ao_store_ownR (next := ?_) | refine ao_append_same (next := ?_) | refine ao_append_nil (next := ?_) | refine ao_append_new (next := ?_) | refine ao_mkErr (next := ?_) | refine ao_clip (next := ?_) | refine ao_store_arr (next := ?_) | ((first | (apply ao_op rfl rfl (.plain rfl ?_) ?_; rotate_left)); (first | exact sop_buildSlice (E := encU) | exact sop_std | fail)))
  · refine ⟨(k + 1, ys.set k ((238 : UInt8))), ⟨?_, ?_⟩, ?_, ?_⟩
    · show k + 1 ≤ _
      omega
    · show (List.set _ _ _).length = _
      rw [List.length_set]; exact hy
    · show ms.length - (k + 1) < ms.length - k
      omega
    · (refine ⟨?_, ?_⟩ <;> repeat (first | exact covL_nil | refine covL_dup rfl ?_ | refine covL_cons rfl rfl ?_ | refine covL_cons rfl (cov_int rfl (by omega)) ?_))
  · first | refine aend0 (by first | exact .inl rfl | exact .inr rfl) []  (by repeat (first | exact covL_nil | refine covL_dup rfl ?_ | refine covL_cons rfl rfl ?_)) ?_ | refine aend1 (by first | exact .inl rfl | exact .inr rfl) [] (by first | exact .tmp rfl | exact .cell rfl rfl rfl rfl rfl | exact .cellA rfl rfl rfl rfl rfl) (by repeat (first | exact covL_nil | refine covL_dup rfl ?_ | refine covL_cons rfl rfl ?_)) ?_ | refine aend2 (by first | exact .inl rfl | exact .inr rfl) [] (by first | exact .tmp rfl | exact .cell rfl rfl rfl rfl rfl | exact .cellA rfl rfl rfl rfl rfl) (by first | exact .tmp rfl | exact .cell rfl rfl rfl rfl rfl | exact .cellA rfl rfl rfl rfl rfl) (by repeat (first | exact covL_nil | refine covL_dup rfl ?_ | refine covL_cons rfl rfl ?_)) ?_ | refine aend3 (by first | exact .inl rfl | exact .inr rfl) [] (by first | exact .tmp rfl | exact .cell rfl rfl rfl rfl rfl | exact .cellA rfl rfl rfl rfl rfl) (by first | exact .tmp rfl | exact .cell rfl rfl rfl rfl rfl | exact .cellA rfl rfl rfl rfl rfl) (by first | exact .tmp rfl | exact .cell rfl rfl rfl rfl rfl | exact .cellA rfl rfl rfl rfl rfl) (by repeat (first | exact covL_nil | refine covL_dup rfl ?_ | refine covL_cons rfl rfl ?_)) ?_
    exact ⟨rfl, rfl⟩
end Go.Proofs.YtgdkeafdlehlaaaDoor
