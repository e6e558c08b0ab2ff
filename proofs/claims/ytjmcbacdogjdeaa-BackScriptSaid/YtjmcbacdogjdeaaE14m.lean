/- Words for the script. -/
import Derived.Test.YtjmcbacdogjdeaaE14i
import Derived.Test.YtjmcbacdogjdeaaE14j
import Derived.Test.YtjmcbacdogjdeaaE14k
namespace Go.Proofs.Ytjmcbacdogjdeaa
open Go Go.RowKit
set_option linter.unusedVariables false
set_option linter.unusedSimpArgs false

section
variable {P : Program} {o : Oper} {fr : List (Nat × AV)} {H : List (Nat × Res)} {c : Ctx} {n : Nat} {Q : AQ} {ops : Array Oper} {rest : List Oper}
theorem eop_none {E : List (Nat × AV)} {d : Nat} {out : AV} {H' : List (Nat × Res)} (h : ∀ (rest : List (Nat × AV)) (ops : Array Oper) (Q : AQ), Q .normal ((d, out) :: (E ++ rest)) H' → AOps P c n ops [{ o with guard := none }] Q (E ++ rest) H) : EOp P c n o E H d out (fun _ => false) H' := fun rest ops Q hq => h rest ops Q (by rw [markF_none] at hq; exact hq)
theorem a_rebox (id j : Nat) {b : Bool} (cs' : List AV) {cs : List AV} (hj : look H j = some (.box cs)) (he : cs = cs') (h : ACode P c n (.region id ops b) Q fr ((j, .box cs') :: H)) : ACode P c n (.region id ops b) Q fr H := fun S γ tmps w hr => by
  subst he
  refine h S γ tmps w (hr.sub (fun _ _ h => h) fun i r hi => ?_)
  rw [look_cons] at hi
  split at hi
  · rename_i e; subst e; rw [← hi]; exact hj
  · exact hi
theorem a_reown (id j : Nat) {b : Bool} {α : Type} {E : Enc α} {e : Nat} {xs ys : List α} (hj : look H j = some (.own e E xs)) (he : xs = ys) (h : ACode P c n (.region id ops b) Q fr ((j, .own e E ys) :: H)) : ACode P c n (.region id ops b) Q fr H := fun S γ tmps w hr => by
  subst he
  refine h S γ tmps w (hr.sub (fun _ _ h => h) fun i r hi => ?_)
  rw [look_cons] at hi
  split at hi
  · rename_i e; subst e; rw [← hi]; exact hj
  · exact hi
/-- ahead of a region: go on with a shorter frame (only what is still wanted) -/
theorem a_weaken_at (id : Nat) {b : Bool} (fr' : List (Nat × AV)) (H' : List (Nat × Res)) (hs : Nat.blt fr'.length fr.length = true) (hc : Cov fr H fr' H') (h : ACode P c n (.region id ops b) Q fr' H') : ACode P c n (.region id ops b) Q fr H := a_weaken hc h
end
def encA : Enc (Int × Int × Bool) := ⟨3, fun p => [.lit (.int .i64 p.1), .lit (.int .u64 p.2.1), .lit (.bool p.2.2)], fun _ => rfl, fun _ => rfl, fun _ => rfl, fun l => match l with
  | [.lit (.int _ a), .lit (.int _ b), .lit (.bool c)] => (a, b, c)
  | _ => default⟩
set_option maxRecDepth 10000 in
set_option maxHeartbeats 400000 in
theorem num_nil  : Con Try.prog 9 [.lit .nilIface] [] (fun az hz => az = .lit (.int .i64 0) ∧ hz = []) := by
  refine con_of hT Try.func9 rfl rfl rfl rfl rfl rfl ?_
  intro c
  have hT := hT
  have hZ := hZ
  repeat' (first | refine a_seq ?_ | refine ar_step ?_ | refine a_block ?_ | refine a_skip ?_ | refine a_exit ?_ | refine a_ret ?_ | refine a_label ?_ | refine a_scope ?_ | refine a_region ?_ | refine at_normal ?_ | refine at_exit ?_ | refine at_ret ?_ | refine ab_normal ?_ | refine ab_ret ?_ | refine ab_same ?_ | refine ab_other rfl ?_ | refine ao_nil ?_ | (refine a_cond rfl (fun hb => ?_) (fun hb => ?_) <;> (try simp only [reduceCtorEq, bne_self_eq_false, not_true_eq_false, not_false_eq_true, or_self, and_false, false_and, or_true, true_or, or_false, false_or, and_true, true_and, and_self, decide_eq_true_eq, decide_eq_false_iff_not, Bool.and_eq_true, Bool.or_eq_true, Bool.or_eq_false_iff, Bool.and_eq_false_iff, Bool.not_eq_true', Bool.not_eq_false', Bool.not_true, Bool.not_false, ne_eq, Classical.not_not, Nat.not_lt, Int.not_lt, Int.not_le] at hb) <;> (try (exfalso; omega)) <;> (try exact (bool_ft hb (by assumption)).elim) <;> (try exact (bool_ft (by assumption) hb).elim)) | refine ao_alloc' (next := ?_) | refine ao_box' (next := ?_) | refine ao_store (next := ?_) | refine ao_store_own (next := ?_) | refine ao_store_ownR (next := ?_) | refine ao_append_same (next := ?_) | refine ao_append_nil (next := ?_) | refine ao_append_new (next := ?_) | refine ao_mkErr (next := ?_) | refine ao_clip (next := ?_) | refine ao_store_arr (next := ?_) | ((first | (apply ao_op rfl rfl (.plain rfl ?_) ?_; rotate_left)); (first | exact sop_std | fail)))
  first | refine aend0 (by first | exact .inl rfl | exact .inr rfl) []  (by repeat (first | exact covL_nil | refine covL_dup rfl ?_ | refine covL_cons rfl rfl ?_)) ?_ | refine aend1 (by first | exact .inl rfl | exact .inr rfl) [] (by first | exact .tmp rfl | exact .cell rfl rfl rfl rfl rfl | exact .cellA rfl rfl rfl rfl rfl) (by repeat (first | exact covL_nil | refine covL_dup rfl ?_ | refine covL_cons rfl rfl ?_)) ?_ | refine aend2 (by first | exact .inl rfl | exact .inr rfl) [] (by first | exact .tmp rfl | exact .cell rfl rfl rfl rfl rfl | exact .cellA rfl rfl rfl rfl rfl) (by first | exact .tmp rfl | exact .cell rfl rfl rfl rfl rfl | exact .cellA rfl rfl rfl rfl rfl) (by repeat (first | exact covL_nil | refine covL_dup rfl ?_ | refine covL_cons rfl rfl ?_)) ?_ | refine aend3 (by first | exact .inl rfl | exact .inr rfl) [] (by first | exact .tmp rfl | exact .cell rfl rfl rfl rfl rfl | exact .cellA rfl rfl rfl rfl rfl) (by first | exact .tmp rfl | exact .cell rfl rfl rfl rfl rfl | exact .cellA rfl rfl rfl rfl rfl) (by first | exact .tmp rfl | exact .cell rfl rfl rfl rfl rfl | exact .cellA rfl rfl rfl rfl rfl) (by repeat (first | exact covL_nil | refine covL_dup rfl ?_ | refine covL_cons rfl rfl ?_)) ?_
  exact ⟨rfl, rfl⟩
end Go.Proofs.Ytjmcbacdogjdeaa
