/- A part read; plain laws. -/
import Derived.Test.YtgdkeafdlehlaaaDoorY6
import Derived.Test.YtgdkeafdlehlaaaDoorDn
import Derived.Test.YtgdkeafdlehlaaaDoorBi
namespace Go.Proofs.YtgdkeafdlehlaaaDoor
open Go Go.RowKit
set_option linter.unusedVariables false
set_option linter.unusedSimpArgs false

theorem unfix2 (l : List UInt8) (hl : l.length ≤ 100000) (hml : 2 ≤ l.length) : Con Tryd.prog 42 [.snap (slF encU l), .lit (.int .i64 2)] [] (fun az hz => az = .tup [.lit (.int .u64 ((unfN 0 (l.take 2) : Nat))), .snap (slF encU (l.drop 2)), .lit (.bool (true))] ∧ hz = []) := unfix_con l 2 hl (by decide) (by decide) (by omega)
theorem unfix5 (l : List UInt8) (hl : l.length ≤ 100000) (hml : 5 ≤ l.length) : Con Tryd.prog 42 [.snap (slF encU l), .lit (.int .i64 5)] [] (fun az hz => az = .tup [.lit (.int .u64 ((unfN 0 (l.take 5) : Nat))), .snap (slF encU (l.drop 5)), .lit (.bool (true))] ∧ hz = []) := unfix_con l 5 hl (by decide) (by decide) (by omega)
theorem unfix8 (l : List UInt8) (hl : l.length ≤ 100000) (hml : 8 ≤ l.length) : Con Tryd.prog 42 [.snap (slF encU l), .lit (.int .i64 8)] [] (fun az hz => az = .tup [.lit (.int .u64 ((unfN 0 (l.take 8) : Nat))), .snap (slF encU (l.drop 8)), .lit (.bool (true))] ∧ hz = []) := unfix_con l 8 hl (by decide) (by decide) (by omega)

def encP : Enc (List UInt8) := ⟨1, fun l => [.snap (slF encU l)], fun _ => rfl, fun _ => rfl, fun _ => rfl, fun _ => []⟩
def restP (b : List UInt8) : List UInt8 := (b.drop 2).drop 2
def longP (b : List UInt8) : Nat := (nth (restP b) 1).toNat
def manyP (b : List UInt8) : Nat := (nth (restP b) 0).toNat
def entAt (b : List UInt8) (k : Nat) : Ent :=
  ⟨(unfN 0 ((b.drop (42 + 15 * k)).take 8) : Nat), ((unfN 0 ((((b.drop (42 + 15 * k)).drop 8).drop 5).take 2) : Nat) : Int) % 32768, decide (32768 ≤ unfN 0 ((((b.drop (42 + 15 * k)).drop 8).drop 5).take 2)), (unfN 0 (((b.drop (42 + 15 * k)).drop 8).take 5) : Nat)⟩
def prsP (b : List UInt8) : Prt := ⟨(unfN 0 (b.take 2) : Nat), (unfN 0 ((b.drop 2).take 2) : Nat), List.drop 2 (List.take (2 + (longP b : Int)).toNat (restP b)), gen (entAt b) (manyP b)⟩
def badP (b : List UInt8) : Bool := decide (eachS (b.length : Int) = 0) || decide (36 < longP b) || decide (eachS (b.length : Int) < (manyP b : Int))
theorem gen_succ {α : Type} (f : Nat → α) (k : Nat) : gen f (k + 1) = gen f k ++ [f k] := by
  unfold gen
  rw [List.range_succ, List.map_append]
  rfl
theorem unf_le (l : List UInt8) (k : Nat) : unfN 0 (l.take k) < 2 ^ (8 * k) := unfN_small l k k (Nat.le_refl _)
theorem each_len {b : List UInt8} (h : ¬ eachS (b.length : Int) = 0) : 128 ≤ b.length ∧ b.length ≤ 256 ∧ eachS (b.length : Int) = ((b.length : Int) - 42) / 15 := by
  unfold eachS at h ⊢
  by_cases hc : (b.length : Int) < 128 ∨ 256 < (b.length : Int)
  · rw [if_pos hc] at h
    exact absurd rfl h
  · rw [if_neg hc]
    omega
theorem ent_ok (b : List UInt8) (k : Nat) : (0 ≤ (entAt b k).addr ∧ (entAt b k).addr < 18446744073709551616) ∧ (0 ≤ (entAt b k).page ∧ (entAt b k).page < 32768) ∧ (0 ≤ (entAt b k).seq ∧ (entAt b k).seq ≤ 1099511627775) := by
  have h1 := unf_le (b.drop (42 + 15 * k)) 8
  have h2 := unf_le ((b.drop (42 + 15 * k)).drop 8) 5
  unfold entAt
  dsimp only
  omega
theorem may_ok {b : List UInt8} (h : mayP (prsP b) (eachS (b.length : Int)) = true) : ∀ k, k < (prsP b).es.length → okEnt (nth (prsP b).es k) := fun k hk => by
  unfold mayP at h
  simp only [Bool.and_eq_true] at h
  have hr := h.1.2
  unfold risesE at hr
  rw [List.all_eq_true] at hr
  have ho := hr k (List.mem_range.2 hk)
  unfold okE at ho
  simp only [Bool.and_eq_true] at ho
  have hf := (fitsE_iff _).1 ho.1.1
  have hl : (prsP b).es.length = manyP b := gen_len _ _
  have e : nth (prsP b).es k = entAt b k := nth_gen _ (by omega)
  have he := ent_ok b k
  rw [e] at hf ⊢
  exact ⟨he.1, ⟨hf.1.1, hf.1.2⟩, he.2.2⟩
set_option maxRecDepth 10000 in
set_option maxHeartbeats 400000 in
theorem equal_con (a b : List UInt8) : Con Tryd.prog 44 [.snap (slF encU a), .snap (slF encU b)] [] (fun az hz => az = .lit (.bool (decide (a = b))) ∧ hz = []) := by
  refine con_of hT Tryd.func44 rfl rfl rfl rfl rfl rfl ?_
  intro c
  have hT := hT
  have hZ := hZ
  repeat' (first | refine a_seq ?_ | refine ar_step ?_ | refine a_block ?_ | refine a_skip ?_ | refine a_exit ?_ | refine a_ret ?_ | refine a_label ?_ | refine a_scope ?_ | refine a_region ?_ | refine at_normal ?_ | refine at_exit ?_ | refine at_ret ?_ | refine ab_normal ?_ | refine ab_ret ?_ | refine ab_same ?_ | refine ab_other rfl ?_ | refine ao_nil ?_ | (refine a_cond rfl (fun hb => ?_) (fun hb => ?_) <;> (try simp only [reduceCtorEq, bne_self_eq_false, not_true_eq_false, not_false_eq_true, or_self, and_false, false_and, or_true, true_or, or_false, false_or, and_true, true_and, and_self, decide_eq_true_eq, decide_eq_false_iff_not, Bool.and_eq_true, Bool.or_eq_true, Bool.or_eq_false_iff, Bool.and_eq_false_iff, Bool.not_eq_true', Bool.not_eq_false', Bool.not_true, Bool.not_false, ne_eq, Classical.not_not, Nat.not_lt, Int.not_lt, Int.not_le] at hb) <;> (try (exfalso; omega)) <;> (try exact (bool_ft hb (by assumption)).elim) <;> (try exact (bool_ft (by assumption) hb).elim)) | refine ao_alloc' (next := ?_) | refine ao_box' (next := ?_) | refine ao_store (next := ?_) | refine ao_store_own (next := ?_) | refine ao_store_ownR (next := ?_) | refine ao_append_same (next := ?_) | refine ao_append_nil (next := ?_) | refine ao_append_new (next := ?_) | refine ao_mkErr (next := ?_) | refine ao_clip (next := ?_) | refine ao_store_arr (next := ?_) | ((first | (apply ao_op rfl rfl (.plain rfl ?_) ?_; rotate_left)); (first | exact sop_bx | exact sop_std | fail)))
  first | refine aend0 (by first | exact .inl rfl | exact .inr rfl) []  (by repeat (first | exact covL_nil | refine covL_dup rfl ?_ | refine covL_cons rfl rfl ?_)) ?_ | refine aend1 (by first | exact .inl rfl | exact .inr rfl) [] (by first | exact .tmp rfl | exact .cell rfl rfl rfl rfl rfl | exact .cellA rfl rfl rfl rfl rfl) (by repeat (first | exact covL_nil | refine covL_dup rfl ?_ | refine covL_cons rfl rfl ?_)) ?_ | refine aend2 (by first | exact .inl rfl | exact .inr rfl) [] (by first | exact .tmp rfl | exact .cell rfl rfl rfl rfl rfl | exact .cellA rfl rfl rfl rfl rfl) (by first | exact .tmp rfl | exact .cell rfl rfl rfl rfl rfl | exact .cellA rfl rfl rfl rfl rfl) (by repeat (first | exact covL_nil | refine covL_dup rfl ?_ | refine covL_cons rfl rfl ?_)) ?_ | refine aend3 (by first | exact .inl rfl | exact .inr rfl) [] (by first | exact .tmp rfl | exact .cell rfl rfl rfl rfl rfl | exact .cellA rfl rfl rfl rfl rfl) (by first | exact .tmp rfl | exact .cell rfl rfl rfl rfl rfl | exact .cellA rfl rfl rfl rfl rfl) (by first | exact .tmp rfl | exact .cell rfl rfl rfl rfl rfl | exact .cellA rfl rfl rfl rfl rfl) (by repeat (first | exact covL_nil | refine covL_dup rfl ?_ | refine covL_cons rfl rfl ?_)) ?_
  exact ⟨rfl, rfl⟩
set_option maxRecDepth 10000 in
set_option maxHeartbeats 400000 in
theorem swrong_con (k : Int) (hk : k ≠ 0) : Con Tryd.prog 24 [.lit (.int .i64 k)] [] (fun az hz => az = .snap (errF 68 (k)) ∧ hz = []) := by
  refine con_of hT Tryd.func24 rfl rfl rfl rfl rfl rfl ?_
  intro c
  have hT := hT
  have hZ := hZ
  repeat' (first | refine a_seq ?_ | refine ar_step ?_ | refine a_block ?_ | refine a_skip ?_ | refine a_exit ?_ | refine a_ret ?_ | refine a_label ?_ | refine a_scope ?_ | refine a_region ?_ | refine a_region_U' rfl (by kernel_rfl) (by kernel_rfl) (by kernel_rfl) (by kernel_rfl) (by assumption) (by assumption) rfl ?_ | refine a_region_tailN rfl rfl (by kernel_rfl) (by kernel_rfl) (by kernel_rfl) (by kernel_rfl) (by assumption) rfl rfl ?_ | refine a_region_tailA rfl rfl (by kernel_rfl) (by kernel_rfl) (by kernel_rfl) (by kernel_rfl) (by assumption) rfl rfl rfl ?_ | refine a_region_tail rfl (by kernel_rfl) (by kernel_rfl) (by kernel_rfl) (by kernel_rfl) ?_ | refine a_region_tailR rfl (by kernel_rfl) (by kernel_rfl) (by kernel_rfl) (by kernel_rfl) ?_ | refine a_region_any (by kernel_rfl) (by kernel_rfl) (by kernel_rfl) ?_ | refine at_normal ?_ | refine at_exit ?_ | refine at_ret ?_ | refine ab_normal ?_ | refine ab_ret ?_ | refine ab_same ?_ | refine ab_other rfl ?_ | refine ao_nil ?_ | refine EvK.nil ?_ | refine EvU.nil ?_ | refine EvU.alloc rfl rfl ?_ | refine EvU.store rfl rfl rfl rfl rfl (by first | exact .un rfl (by first | assumption | exact And.left (by assumption)) | exact .of rfl) rfl rfl rfl rfl rfl ?_ | refine tailA_k rfl rfl ?_ | refine tailA_k trivial rfl ?_ | refine tailA_k trivial (by kernel_rfl) ?_ | (refine a_cond rfl (fun hb => ?_) (fun hb => ?_) <;> (try simp only [reduceCtorEq, bne_self_eq_false, not_true_eq_false, not_false_eq_true, or_self, and_false, false_and, or_true, true_or, or_false, false_or, and_true, true_and, and_self, decide_eq_true_eq, decide_eq_false_iff_not, Bool.and_eq_true, Bool.or_eq_true, Bool.or_eq_false_iff, Bool.and_eq_false_iff, Bool.not_eq_true', Bool.not_eq_false', Bool.not_true, Bool.not_false, ne_eq, Classical.not_not, Nat.not_lt, Int.not_lt, Int.not_le] at hb) <;> (try (exfalso; omega)) <;> (try exact (bool_ft hb (by assumption)).elim) <;> (try exact (bool_ft (by assumption) hb).elim)) | refine ao_alloc' (next := ?_) | refine ao_box' (next := ?_) | refine ao_store (next := ?_) | refine ao_store_own (next := ?_) | refine ao_store_ownR (next := ?_) | refine ao_append_same (next := ?_) | refine ao_append_nil (next := ?_) | refine ao_append_new (next := ?_) | refine ao_mkErr (next := ?_) | refine ao_clip (next := ?_) | refine ao_store_arr (next := ?_) | ((first | (apply ao_op rfl rfl (.plain rfl ?_) ?_; rotate_left) | (apply EvK.cons rfl (.plain rfl ?_) ?_; rotate_left) | (apply EvU.plain rfl rfl rfl ?_ ?_; rotate_left) | (apply ao_op rfl rfl (.guard rfl rfl rfl fun hg => ?_) ?_; rotate_right) | (apply ao_op rfl rfl (.guardw rfl rfl rfl fun hg => ?_) ?_; rotate_right) | (apply EvK.cons rfl (.guard rfl rfl rfl fun hg => ?_) ?_; rotate_right) | (apply EvK.cons rfl (.guardw rfl rfl rfl fun hg => ?_) ?_; rotate_right)); (try (have hg2 := hg; simp only [reduceCtorEq, bne_self_eq_false, not_true_eq_false, not_false_eq_true, or_self, and_false, false_and, or_true, true_or, or_false, false_or, and_true, true_and, and_self, decide_eq_true_eq, decide_eq_false_iff_not, Bool.and_eq_true, Bool.or_eq_true, Bool.or_eq_false_iff, Bool.and_eq_false_iff, Bool.not_eq_true', Bool.not_eq_false', Bool.not_true, Bool.not_false, ne_eq, Classical.not_not, Nat.not_lt, Int.not_lt, Int.not_le] at hg2)); (first | exact sop_std | exact sop_false (by revert hg; decide) | fail)))
  first | refine aend0 (by first | exact .inl rfl | exact .inr rfl) []  (by repeat (first | exact covL_nil | refine covL_dup rfl ?_ | refine covL_cons rfl rfl ?_)) ?_ | refine aend1 (by first | exact .inl rfl | exact .inr rfl) [] (by first | exact .tmp rfl | exact .cell rfl rfl rfl rfl rfl | exact .cellA rfl rfl rfl rfl rfl) (by repeat (first | exact covL_nil | refine covL_dup rfl ?_ | refine covL_cons rfl rfl ?_)) ?_ | refine aend2 (by first | exact .inl rfl | exact .inr rfl) [] (by first | exact .tmp rfl | exact .cell rfl rfl rfl rfl rfl | exact .cellA rfl rfl rfl rfl rfl) (by first | exact .tmp rfl | exact .cell rfl rfl rfl rfl rfl | exact .cellA rfl rfl rfl rfl rfl) (by repeat (first | exact covL_nil | refine covL_dup rfl ?_ | refine covL_cons rfl rfl ?_)) ?_ | refine aend3 (by first | exact .inl rfl | exact .inr rfl) [] (by first | exact .tmp rfl | exact .cell rfl rfl rfl rfl rfl | exact .cellA rfl rfl rfl rfl rfl) (by first | exact .tmp rfl | exact .cell rfl rfl rfl rfl rfl | exact .cellA rfl rfl rfl rfl rfl) (by first | exact .tmp rfl | exact .cell rfl rfl rfl rfl rfl | exact .cellA rfl rfl rfl rfl rfl) (by repeat (first | exact covL_nil | refine covL_dup rfl ?_ | refine covL_cons rfl rfl ?_)) ?_
  exact ⟨rfl, rfl⟩
end Go.Proofs.YtgdkeafdlehlaaaDoor
