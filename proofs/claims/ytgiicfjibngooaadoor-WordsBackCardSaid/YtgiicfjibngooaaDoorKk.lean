/- WordsRead, walked. -/
import Derived.Test.YtgiicfjibngooaaDoorKj
namespace Go.Proofs.YtgiicfjibngooaaDoor
open Go Go.RowKit
set_option linter.unusedVariables false
set_option linter.unusedSimpArgs false
attribute [local irreducible] ACode AOps AThen ABlock ACut
theorem sop_falseL {P : Program} {fr : List (Nat × AV)} {H : List (Nat × Res)} {o : Oper} (h : False) : SOp P o fr H (.lit (.bool false)) := h.elim
/-- a command, whichever it is -/
theorem uses_cmd (p : Nat → Bool) (c : Cmd) : (cmdA c).uses p = true := by cases c <;> rfl
def cmdF (c : Cmd) : SFact where
  holds S w v := (cmdA c).holds S noγ w v
  mono := by
    intro S S' w w' v h hs hw
    exact AV.ext hs hw h
  one := by
    intro S w v h
    cases c with
    | no =>
      have : v = .nilIface := h
      rw [this]; rfl
    | dirty _ _ => exact SFact.one _ h
    | fill _ _ => exact SFact.one _ h
    | rd _ => exact SFact.one _ h
    | evict _ => exact SFact.one _ h
    | clean _ => exact SFact.one _ h
    | exi _ _ => exact SFact.one _ h
theorem cmd_to {S : Nat → Prop} {γ : Nat → Value} {w : World} {v : Value} {c : Cmd} (h : AV.holds S γ w (cmdA c) v) : AV.holds S γ w (.snap (cmdF c)) v := by
  show (cmdA c).holds S noγ w v
  exact plainA (uses_cmd _ c) h
theorem cmd_of {S : Nat → Prop} {γ : Nat → Value} {w : World} {v : Value} {c : Cmd} (h : AV.holds S γ w (.snap (cmdF c)) v) : AV.holds S γ w (cmdA c) v := plainA (uses_cmd _ c) (show (cmdA c).holds S noγ w v from h)
theorem tup_fst {S : Nat → Prop} {γ : Nat → Value} {w : World} {v : Value} {a a' b : AV} (hw : ∀ v, a.holds S γ w v → a'.holds S γ w v) (h : AV.holds S γ w (.tup [a, b]) v) : AV.holds S γ w (.tup [a', b]) v := by
  obtain ⟨vs, rfl, v1, r1, rfl, h1, h2⟩ := h
  exact ⟨_, rfl, v1, r1, rfl, hw _ h1, h2⟩
theorem con_cmd1 {P : Program} {f : FuncId} {Hin : List (Nat × Res)} {post : AV → List (Nat × Res) → Prop} {c : Cmd} (h : Con P f [cmdA c] Hin post) : Con P f [.snap (cmdF c)] Hin post := fun S γ w vs hst hh => h S γ w vs hst (by
  simp only [AV.holdsL] at hh ⊢
  obtain ⟨v, r, rfl, h1, h2⟩ := hh
  exact ⟨v, r, rfl, cmd_of h1, h2⟩)
theorem con_cmdR {P : Program} {f : FuncId} {qs0 : List AV} {Hin : List (Nat × Res)} {c : Cmd} (h : Con P f qs0 Hin (fun az hz => az = cmdA c ∧ hz = [])) : Con P f qs0 Hin (fun az hz => az = .snap (cmdF c) ∧ hz = []) := con_weak h (by rintro az hz ⟨rfl, rfl⟩; exact ⟨_, fun _ _ _ _ q => cmd_to q, rfl, rfl⟩)
theorem con_cmdT {P : Program} {f : FuncId} {qs0 : List AV} {Hin : List (Nat × Res)} {c : Cmd} {b : AV} (h : Con P f qs0 Hin (fun az hz => az = .tup [cmdA c, b] ∧ hz = [])) : Con P f qs0 Hin (fun az hz => az = .tup [.snap (cmdF c), b] ∧ hz = []) := con_weak h (by rintro az hz ⟨rfl, rfl⟩; exact ⟨_, fun _ _ _ _ q => tup_fst (fun _ => cmd_to) q, rfl, rfl⟩)
theorem rread_ok (c : Cmd) (h : okC c = true) (hA : okA c) (hl : (sayL c).length ≤ 1000000) : Con Tryd.prog 10 [.lit (.string (strOf (sayL c)))] [] (fun az hz => az = .tup [ordA (ordC c), .lit (.int .i64 0)] ∧ hz = []) := con_weak (rread_con _ hl) (by
  rintro az hz ⟨rfl, ⟨d, h1, h2, h3, rfl⟩ | ⟨h1, rfl⟩⟩
  · obtain rfl := sayL_inj c d h h1 h3
    exact ⟨_, fun _ _ _ _ q => q, rfl, rfl⟩
  · exact absurd rfl (h1 c h hA))
theorem rread_no (l : List UInt8) (hl : l.length ≤ 1000000) (h : ∀ c, okC c = true → okA c → l ≠ sayL c) : Con Tryd.prog 10 [.lit (.string (strOf l))] [] (fun az hz => az = .tup [.agg [.lit (.int .i64 0), .lit (.int .u64 0), .lit (.slice none 0 0), .lit (.int .i64 0)], .lit (.int .i64 3)] ∧ hz = []) := con_weak (rread_con _ hl) (by
  rintro az hz ⟨rfl, ⟨d, h1, h2, h3, rfl⟩ | ⟨h1, rfl⟩⟩
  · exact absurd h3 (h d h1 h2)
  · exact ⟨_, fun _ _ _ _ q => q, rfl, rfl⟩)
theorem read_okE (c : Cmd) (h : okC c = true) (hA : okA c) (hl : (sayL c).length ≤ 1000000) : Con Tryd.prog 9 [.lit (.string (strOf (sayL c)))] [] (fun az hz => az = .tup [cmdA c, .snap (errF 85 0)] ∧ hz = []) := con_weak (read_ok c h hA hl) (by rintro az hz ⟨rfl, rfl⟩; exact ⟨_, fun _ _ _ _ h => tup_wk (fun _ => err_nil) h, rfl, rfl⟩)
theorem isC_ok {c : Cmd} (h : okC c = true) : isC c = true := by cases c with
  | no => exact absurd h (by decide)
  | dirty _ _ => rfl
  | fill _ _ => rfl
  | rd _ => rfl
  | evict _ => rfl
  | clean _ => rfl
  | exi _ _ => rfl
theorem data_okC {c : Cmd} (h : okC c = true) : (ordC c).data.length ≤ 256 := by cases c with
  | no => exact absurd h (by decide)
  | dirty a d => exact of_decide_eq_true h
  | fill a d => exact of_decide_eq_true h
  | rd a => exact Nat.zero_le _
  | evict a => exact Nat.zero_le _
  | clean a => exact Nat.zero_le _
  | exi a m => exact Nat.zero_le _
set_option maxRecDepth 10000 in
set_option maxHeartbeats 400000 in
theorem words_read_big (l : List UInt8) (hb0 : ¬ l.length ≤ 700) (hl : l.length ≤ 9223372036854775807) : Con Tryd.prog 3 [.lit (.string (strOf l))] [] (fun az hz => az = .lit (.bool (true)) ∧ hz = []) := by
  refine con_of hT Tryd.func3 rfl rfl rfl rfl rfl rfl ?_
  intro c
  have hT := hT
  have hZ := hZ
  have hz1 := strOf_size l
  repeat' (first | refine a_seq ?_ | refine ar_step ?_ | refine a_block ?_ | refine a_skip ?_ | refine a_exit ?_ | refine a_ret ?_ | refine a_label ?_ | refine a_scope ?_ | refine a_region ?_ | refine rU (ev := ?_) | refine rN (ev := ?_) | refine rA (ev := ?_) | refine rT (ev := ?_) | refine rR (ev := ?_) | refine rO (ev := ?_) | refine at_normal ?_ | refine at_exit ?_ | refine at_ret ?_ | refine ab_normal ?_ | refine ab_ret ?_ | refine ab_same ?_ | refine ab_other rfl ?_ | refine ao_nil ?_ | refine EvK.nil ?_ | refine EvU.nil ?_ | refine EvU.alloc rfl rfl ?_ | refine EvU.store rfl rfl rfl rfl rfl (by first | exact .un rfl (by first | assumption | exact And.left (by assumption)) | exact .of rfl) rfl rfl rfl rfl rfl ?_ | refine tailA_k rfl rfl ?_ | refine tailA_k trivial rfl ?_ | refine tailA_k trivial (by kernel_rfl) ?_ | (refine a_cond rfl (fun hb => ?_) (fun hb => ?_) <;> (try simp only [reduceCtorEq, ne_eq, decs] at hb) <;> (try (exfalso; omega)) <;> (try exact (bool_ft hb (by assumption)).elim) <;> (try exact (bool_ft (by assumption) hb).elim)) | refine ao_alloc' (next := ?_) | refine ao_box' (next := ?_) | refine ao_store (next := ?_) | refine ao_store_own (next := ?_) | refine ao_store_ownR (next := ?_) | refine ao_append_same (next := ?_) | refine ao_append_nil (next := ?_) | refine ao_append_new (next := ?_) | refine ao_mkErr (next := ?_) | refine ao_clip (next := ?_) | refine ao_store_arr (next := ?_) | ((first | (apply ao_op rfl rfl (.plain rfl ?_) ?_; rotate_left) | (apply EvK.cons rfl (.plain rfl ?_) ?_; rotate_left) | (apply EvU.plain rfl rfl rfl ?_ ?_; rotate_left) | (apply ao_op rfl rfl (.guard rfl rfl rfl fun hg => ?_) ?_; rotate_right) | (apply ao_op rfl rfl (.guardw rfl rfl rfl fun hg => ?_) ?_; rotate_right) | (apply EvK.cons rfl (.guard rfl rfl rfl fun hg => ?_) ?_; rotate_right) | (apply EvK.cons rfl (.guardw rfl rfl rfl fun hg => ?_) ?_; rotate_right)); (first | exact sop_falseL (by first | (revert hg; decide) | (simp at hg; done) | fail) | ((try (have hg2 := hg; simp only [reduceCtorEq, ne_eq, decs] at hg2)); (first | (apply sop_callC (awake_con) <;> first | exact sd) | exact sop_std | exact sop_false (by revert hg; decide) | fail)) | fail)))
  first | refine aend0 (by first | exact .inl rfl | exact .inr rfl) []  (by repeat (first | exact covL_nil | refine covL_dup rfl ?_ | refine covL_cons rfl rfl ?_)) ?_ | refine aend1 (by first | exact .inl rfl | exact .inr rfl) [] (by first | exact .tmp rfl | exact .cell rfl rfl rfl rfl rfl | exact .cellA rfl rfl rfl rfl rfl) (by repeat (first | exact covL_nil | refine covL_dup rfl ?_ | refine covL_cons rfl rfl ?_)) ?_ | refine aend2 (by first | exact .inl rfl | exact .inr rfl) [] (by first | exact .tmp rfl | exact .cell rfl rfl rfl rfl rfl | exact .cellA rfl rfl rfl rfl rfl) (by first | exact .tmp rfl | exact .cell rfl rfl rfl rfl rfl | exact .cellA rfl rfl rfl rfl rfl) (by repeat (first | exact covL_nil | refine covL_dup rfl ?_ | refine covL_cons rfl rfl ?_)) ?_ | refine aend3 (by first | exact .inl rfl | exact .inr rfl) [] (by first | exact .tmp rfl | exact .cell rfl rfl rfl rfl rfl | exact .cellA rfl rfl rfl rfl rfl) (by first | exact .tmp rfl | exact .cell rfl rfl rfl rfl rfl | exact .cellA rfl rfl rfl rfl rfl) (by first | exact .tmp rfl | exact .cell rfl rfl rfl rfl rfl | exact .cellA rfl rfl rfl rfl rfl) (by repeat (first | exact covL_nil | refine covL_dup rfl ?_ | refine covL_cons rfl rfl ?_)) ?_
  exact ⟨rfl, rfl⟩
set_option maxRecDepth 10000 in
set_option maxHeartbeats 2000000 in
theorem words_read_yes (q : Cmd) (hc : okC q = true) (hA : okA q) (hl : (sayL q).length ≤ 700) : Con Tryd.prog 3 [.lit (.string (strOf (sayL q)))] [] (fun az hz => az = .lit (.bool (true)) ∧ hz = []) := by
  refine con_of hT Tryd.func3 rfl rfl rfl rfl rfl rfl ?_
  intro c
  have hT := hT
  have hZ := hZ
  have hz1 := strOf_size (sayL q)
  have h1 := con_cmdT (read_okE q hc hA (by omega))
  have h2 := rread_ok q hc hA (by omega)
  have h3 := con_cmd1 (order_con q)
  rw [isC_ok hc] at h3
  have h4 := num_con 0 (by decide)
  have hd := data_okC hc
  have h5 := same_o (ordC q) (ordC q) (by omega) (by omega)
  rw [decide_eq_true rfl] at h5
  have h6 := wsplit_con (sayL q) (by omega)
  have h7 := rsplit_con (sayL q) (by omega)
  have hm := spw_max (sayL q)
  unfold ordA at h2 h3 h5
  repeat' (first | refine a_seq ?_ | refine ar_step ?_ | refine a_block ?_ | refine a_skip ?_ | refine a_exit ?_ | refine a_ret ?_ | refine a_label ?_ | refine a_scope ?_ | refine a_region ?_ | refine rU (ev := ?_) | refine rN (ev := ?_) | refine rA (ev := ?_) | refine rT (ev := ?_) | refine rR (ev := ?_) | refine rO (ev := ?_) | refine at_normal ?_ | refine at_exit ?_ | refine at_ret ?_ | refine ab_normal ?_ | refine ab_ret ?_ | refine ab_same ?_ | refine ab_other rfl ?_ | refine ao_nil ?_ | refine EvK.nil ?_ | refine EvU.nil ?_ | refine EvU.alloc rfl rfl ?_ | refine EvU.store rfl rfl rfl rfl rfl (by first | exact .un rfl (by first | assumption | exact And.left (by assumption)) | exact .of rfl) rfl rfl rfl rfl rfl ?_ | refine tailA_k rfl rfl ?_ | refine tailA_k trivial rfl ?_ | refine tailA_k trivial (by kernel_rfl) ?_ | (refine a_cond rfl (fun hb => ?_) (fun hb => ?_) <;> (try simp only [reduceCtorEq, ne_eq, decs] at hb) <;> (try (exfalso; omega)) <;> (try exact (bool_ft hb (by assumption)).elim) <;> (try exact (bool_ft (by assumption) hb).elim)) | refine ao_alloc' (next := ?_) | refine ao_box' (next := ?_) | refine ao_store (next := ?_) | refine ao_store_own (next := ?_) | refine ao_store_ownR (next := ?_) | refine ao_append_same (next := ?_) | refine ao_append_nil (next := ?_) | refine ao_append_new (next := ?_) | refine ao_mkErr (next := ?_) | refine ao_clip (next := ?_) | refine ao_store_arr (next := ?_) | ((first | (apply ao_op rfl rfl (.plain rfl ?_) ?_; rotate_left) | (apply EvK.cons rfl (.plain rfl ?_) ?_; rotate_left) | (apply EvU.plain rfl rfl rfl ?_ ?_; rotate_left) | (apply ao_op rfl rfl (.guard rfl rfl rfl fun hg => ?_) ?_; rotate_right) | (apply ao_op rfl rfl (.guardw rfl rfl rfl fun hg => ?_) ?_; rotate_right) | (apply EvK.cons rfl (.guard rfl rfl rfl fun hg => ?_) ?_; rotate_right) | (apply EvK.cons rfl (.guardw rfl rfl rfl fun hg => ?_) ?_; rotate_right)); (first | exact sop_falseL (by first | (revert hg; decide) | (simp at hg; done) | fail) | ((try (have hg2 := hg; simp only [reduceCtorEq, ne_eq, decs] at hg2)); (first | (apply sop_callC (awake_con) <;> first | exact sd) | (apply sop_callNM (h1) <;> first | exact sd) | (apply sop_callNM (h2) <;> first | exact sd) | (apply sop_callNM (h3) <;> first | exact sd) | (apply sop_callC (h4) <;> first | exact sd) | (apply sop_callN (h5) <;> first | exact sd) | (apply sop_callNM (h6) <;> first | exact sd) | (apply sop_callNM (h7) <;> first | exact sd) | exact sop_neq_str | exact sop_std | exact sop_false (by revert hg; decide) | fail)) | fail)))
  refine a_loop (ι := Nat) (fun k => [(11, .lit (.int .i64 (k : Int)))]) (fun _ => []) (fun k => k ≤ (spw (sayL q)).length) (fun k => (spw (sayL q)).length - k) 0 (Nat.zero_le _) ?_ ?_
  · (refine ⟨?_, ?_⟩ <;> repeat (first | exact covL_nil | refine covL_dup rfl ?_ | refine covL_cons rfl rfl ?_ | refine covL_cons rfl (cov_int rfl (by omega)) ?_))
  intro k hk
  repeat' (first | refine a_seq ?_ | refine ar_step ?_ | refine a_block ?_ | refine a_skip ?_ | refine a_exit ?_ | refine a_ret ?_ | refine a_label ?_ | refine a_scope ?_ | refine a_region ?_ | refine rU (ev := ?_) | refine rN (ev := ?_) | refine rA (ev := ?_) | refine rT (ev := ?_) | refine rR (ev := ?_) | refine rO (ev := ?_) | refine at_normal ?_ | refine at_exit ?_ | refine at_ret ?_ | refine ab_normal ?_ | refine ab_ret ?_ | refine ab_same ?_ | refine ab_other rfl ?_ | refine ao_nil ?_ | refine EvK.nil ?_ | refine EvU.nil ?_ | refine EvU.alloc rfl rfl ?_ | refine EvU.store rfl rfl rfl rfl rfl (by first | exact .un rfl (by first | assumption | exact And.left (by assumption)) | exact .of rfl) rfl rfl rfl rfl rfl ?_ | refine tailA_k rfl rfl ?_ | refine tailA_k trivial rfl ?_ | refine tailA_k trivial (by kernel_rfl) ?_ | (refine a_cond rfl (fun hb => ?_) (fun hb => ?_) <;> (try simp only [reduceCtorEq, ne_eq, decs] at hb) <;> (try (exfalso; omega)) <;> (try exact (bool_ft hb (by assumption)).elim) <;> (try exact (bool_ft (by assumption) hb).elim)) | refine ao_alloc' (next := ?_) | refine ao_box' (next := ?_) | refine ao_store (next := ?_) | refine ao_store_own (next := ?_) | refine ao_store_ownR (next := ?_) | refine ao_append_same (next := ?_) | refine ao_append_nil (next := ?_) | refine ao_append_new (next := ?_) | refine ao_mkErr (next := ?_) | refine ao_clip (next := ?_) | refine ao_store_arr (next := ?_) | ((first | (apply ao_op rfl rfl (.plain rfl ?_) ?_; rotate_left) | (apply EvK.cons rfl (.plain rfl ?_) ?_; rotate_left) | (apply EvU.plain rfl rfl rfl ?_ ?_; rotate_left) | (apply ao_op rfl rfl (.guard rfl rfl rfl fun hg => ?_) ?_; rotate_right) | (apply ao_op rfl rfl (.guardw rfl rfl rfl fun hg => ?_) ?_; rotate_right) | (apply EvK.cons rfl (.guard rfl rfl rfl fun hg => ?_) ?_; rotate_right) | (apply EvK.cons rfl (.guardw rfl rfl rfl fun hg => ?_) ?_; rotate_right)); (first | exact sop_falseL (by first | (revert hg; decide) | (simp at hg; done) | fail) | ((try (have hg2 := hg; simp only [reduceCtorEq, ne_eq, decs] at hg2)); (first | (apply sop_callC (awake_con) <;> first | exact sd) | (apply sop_callNM (h1) <;> first | exact sd) | (apply sop_callNM (h2) <;> first | exact sd) | (apply sop_callNM (h3) <;> first | exact sd) | (apply sop_callC (h4) <;> first | exact sd) | (apply sop_callN (h5) <;> first | exact sd) | (apply sop_callNM (h6) <;> first | exact sd) | (apply sop_callNM (h7) <;> first | exact sd) | exact sop_neq_str | exact sop_std | exact sop_false (by revert hg; decide) | fail)) | fail)))
  · refine ⟨k + 1, by omega, by omega, ?_⟩
    (refine ⟨?_, ?_⟩ <;> repeat (first | exact covL_nil | refine covL_dup rfl ?_ | refine covL_cons rfl rfl ?_ | refine covL_cons rfl (cov_int rfl (by omega)) ?_))
  · first | refine aend0 (by first | exact .inl rfl | exact .inr rfl) []  (by repeat (first | exact covL_nil | refine covL_dup rfl ?_ | refine covL_cons rfl rfl ?_)) ?_ | refine aend1 (by first | exact .inl rfl | exact .inr rfl) [] (by first | exact .tmp rfl | exact .cell rfl rfl rfl rfl rfl | exact .cellA rfl rfl rfl rfl rfl) (by repeat (first | exact covL_nil | refine covL_dup rfl ?_ | refine covL_cons rfl rfl ?_)) ?_ | refine aend2 (by first | exact .inl rfl | exact .inr rfl) [] (by first | exact .tmp rfl | exact .cell rfl rfl rfl rfl rfl | exact .cellA rfl rfl rfl rfl rfl) (by first | exact .tmp rfl | exact .cell rfl rfl rfl rfl rfl | exact .cellA rfl rfl rfl rfl rfl) (by repeat (first | exact covL_nil | refine covL_dup rfl ?_ | refine covL_cons rfl rfl ?_)) ?_ | refine aend3 (by first | exact .inl rfl | exact .inr rfl) [] (by first | exact .tmp rfl | exact .cell rfl rfl rfl rfl rfl | exact .cellA rfl rfl rfl rfl rfl) (by first | exact .tmp rfl | exact .cell rfl rfl rfl rfl rfl | exact .cellA rfl rfl rfl rfl rfl) (by first | exact .tmp rfl | exact .cell rfl rfl rfl rfl rfl | exact .cellA rfl rfl rfl rfl rfl) (by repeat (first | exact covL_nil | refine covL_dup rfl ?_ | refine covL_cons rfl rfl ?_)) ?_
    exact ⟨rfl, rfl⟩
set_option maxRecDepth 10000 in
set_option maxHeartbeats 2000000 in
theorem words_read_no (l : List UInt8) (hl : l.length ≤ 700) (hno : ∀ c, okC c = true → okA c → l ≠ sayL c) : Con Tryd.prog 3 [.lit (.string (strOf l))] [] (fun az hz => az = .lit (.bool (true)) ∧ hz = []) := by
  refine con_of hT Tryd.func3 rfl rfl rfl rfl rfl rfl ?_
  intro c
  have hT := hT
  have hZ := hZ
  have hz1 := strOf_size l
  have h1 := read_no l (by omega) hno
  have h2 := rread_no l (by omega) hno
  have h3 := order_no0
  have h4 := num_con 3 (by decide)
  have h6 := wsplit_con l (by omega)
  have h7 := rsplit_con l (by omega)
  have hm := spw_max l
  repeat' (first | refine a_seq ?_ | refine ar_step ?_ | refine a_block ?_ | refine a_skip ?_ | refine a_exit ?_ | refine a_ret ?_ | refine a_label ?_ | refine a_scope ?_ | refine a_region ?_ | refine rU (ev := ?_) | refine rN (ev := ?_) | refine rA (ev := ?_) | refine rT (ev := ?_) | refine rR (ev := ?_) | refine rO (ev := ?_) | refine at_normal ?_ | refine at_exit ?_ | refine at_ret ?_ | refine ab_normal ?_ | refine ab_ret ?_ | refine ab_same ?_ | refine ab_other rfl ?_ | refine ao_nil ?_ | refine EvK.nil ?_ | refine EvU.nil ?_ | refine EvU.alloc rfl rfl ?_ | refine EvU.store rfl rfl rfl rfl rfl (by first | exact .un rfl (by first | assumption | exact And.left (by assumption)) | exact .of rfl) rfl rfl rfl rfl rfl ?_ | refine tailA_k rfl rfl ?_ | refine tailA_k trivial rfl ?_ | refine tailA_k trivial (by kernel_rfl) ?_ | (refine a_cond rfl (fun hb => ?_) (fun hb => ?_) <;> (try simp only [reduceCtorEq, ne_eq, decs] at hb) <;> (try (exfalso; omega)) <;> (try exact (bool_ft hb (by assumption)).elim) <;> (try exact (bool_ft (by assumption) hb).elim)) | refine ao_alloc' (next := ?_) | refine ao_box' (next := ?_) | refine ao_store (next := ?_) | refine ao_store_own (next := ?_) | refine ao_store_ownR (next := ?_) | refine ao_append_same (next := ?_) | refine ao_append_nil (next := ?_) | refine ao_append_new (next := ?_) | refine ao_mkErr (next := ?_) | refine ao_clip (next := ?_) | refine ao_store_arr (next := ?_) | ((first | (apply ao_op rfl rfl (.plain rfl ?_) ?_; rotate_left) | (apply EvK.cons rfl (.plain rfl ?_) ?_; rotate_left) | (apply EvU.plain rfl rfl rfl ?_ ?_; rotate_left) | (apply ao_op rfl rfl (.guard rfl rfl rfl fun hg => ?_) ?_; rotate_right) | (apply ao_op rfl rfl (.guardw rfl rfl rfl fun hg => ?_) ?_; rotate_right) | (apply EvK.cons rfl (.guard rfl rfl rfl fun hg => ?_) ?_; rotate_right) | (apply EvK.cons rfl (.guardw rfl rfl rfl fun hg => ?_) ?_; rotate_right)); (first | exact sop_falseL (by first | (revert hg; decide) | (simp at hg; done) | fail) | ((try (have hg2 := hg; simp only [reduceCtorEq, ne_eq, decs] at hg2)); (first | (apply sop_callC (awake_con) <;> first | exact sd) | (apply sop_callNM (h1) <;> first | exact sd) | (apply sop_callNM (h2) <;> first | exact sd) | (apply sop_callNM (h3) <;> first | exact sd) | (apply sop_callC (h4) <;> first | exact sd) | (apply sop_callNM (h6) <;> first | exact sd) | (apply sop_callNM (h7) <;> first | exact sd) | exact sop_neq_str | exact sop_std | exact sop_false (by revert hg; decide) | fail)) | fail)))
  refine a_loop (ι := Nat) (fun k => [(11, .lit (.int .i64 (k : Int)))]) (fun _ => []) (fun k => k ≤ (spw l).length) (fun k => (spw l).length - k) 0 (Nat.zero_le _) ?_ ?_
  · (refine ⟨?_, ?_⟩ <;> repeat (first | exact covL_nil | refine covL_dup rfl ?_ | refine covL_cons rfl rfl ?_ | refine covL_cons rfl (cov_int rfl (by omega)) ?_))
  intro k hk
  repeat' (first | refine a_seq ?_ | refine ar_step ?_ | refine a_block ?_ | refine a_skip ?_ | refine a_exit ?_ | refine a_ret ?_ | refine a_label ?_ | refine a_scope ?_ | refine a_region ?_ | refine rU (ev := ?_) | refine rN (ev := ?_) | refine rA (ev := ?_) | refine rT (ev := ?_) | refine rR (ev := ?_) | refine rO (ev := ?_) | refine at_normal ?_ | refine at_exit ?_ | refine at_ret ?_ | refine ab_normal ?_ | refine ab_ret ?_ | refine ab_same ?_ | refine ab_other rfl ?_ | refine ao_nil ?_ | refine EvK.nil ?_ | refine EvU.nil ?_ | refine EvU.alloc rfl rfl ?_ | refine EvU.store rfl rfl rfl rfl rfl (by first | exact .un rfl (by first | assumption | exact And.left (by assumption)) | exact .of rfl) rfl rfl rfl rfl rfl ?_ | refine tailA_k rfl rfl ?_ | refine tailA_k trivial rfl ?_ | refine tailA_k trivial (by kernel_rfl) ?_ | (refine a_cond rfl (fun hb => ?_) (fun hb => ?_) <;> (try simp only [reduceCtorEq, ne_eq, decs] at hb) <;> (try (exfalso; omega)) <;> (try exact (bool_ft hb (by assumption)).elim) <;> (try exact (bool_ft (by assumption) hb).elim)) | refine ao_alloc' (next := ?_) | refine ao_box' (next := ?_) | refine ao_store (next := ?_) | refine ao_store_own (next := ?_) | refine ao_store_ownR (next := ?_) | refine ao_append_same (next := ?_) | refine ao_append_nil (next := ?_) | refine ao_append_new (next := ?_) | refine ao_mkErr (next := ?_) | refine ao_clip (next := ?_) | refine ao_store_arr (next := ?_) | ((first | (apply ao_op rfl rfl (.plain rfl ?_) ?_; rotate_left) | (apply EvK.cons rfl (.plain rfl ?_) ?_; rotate_left) | (apply EvU.plain rfl rfl rfl ?_ ?_; rotate_left) | (apply ao_op rfl rfl (.guard rfl rfl rfl fun hg => ?_) ?_; rotate_right) | (apply ao_op rfl rfl (.guardw rfl rfl rfl fun hg => ?_) ?_; rotate_right) | (apply EvK.cons rfl (.guard rfl rfl rfl fun hg => ?_) ?_; rotate_right) | (apply EvK.cons rfl (.guardw rfl rfl rfl fun hg => ?_) ?_; rotate_right)); (first | exact sop_falseL (by first | (revert hg; decide) | (simp at hg; done) | fail) | ((try (have hg2 := hg; simp only [reduceCtorEq, ne_eq, decs] at hg2)); (first | (apply sop_callC (awake_con) <;> first | exact sd) | (apply sop_callNM (h1) <;> first | exact sd) | (apply sop_callNM (h2) <;> first | exact sd) | (apply sop_callNM (h3) <;> first | exact sd) | (apply sop_callC (h4) <;> first | exact sd) | (apply sop_callNM (h6) <;> first | exact sd) | (apply sop_callNM (h7) <;> first | exact sd) | exact sop_neq_str | exact sop_std | exact sop_false (by revert hg; decide) | fail)) | fail)))
  · refine ⟨k + 1, by omega, by omega, ?_⟩
    (refine ⟨?_, ?_⟩ <;> repeat (first | exact covL_nil | refine covL_dup rfl ?_ | refine covL_cons rfl rfl ?_ | refine covL_cons rfl (cov_int rfl (by omega)) ?_))
  · first | refine aend0 (by first | exact .inl rfl | exact .inr rfl) []  (by repeat (first | exact covL_nil | refine covL_dup rfl ?_ | refine covL_cons rfl rfl ?_)) ?_ | refine aend1 (by first | exact .inl rfl | exact .inr rfl) [] (by first | exact .tmp rfl | exact .cell rfl rfl rfl rfl rfl | exact .cellA rfl rfl rfl rfl rfl) (by repeat (first | exact covL_nil | refine covL_dup rfl ?_ | refine covL_cons rfl rfl ?_)) ?_ | refine aend2 (by first | exact .inl rfl | exact .inr rfl) [] (by first | exact .tmp rfl | exact .cell rfl rfl rfl rfl rfl | exact .cellA rfl rfl rfl rfl rfl) (by first | exact .tmp rfl | exact .cell rfl rfl rfl rfl rfl | exact .cellA rfl rfl rfl rfl rfl) (by repeat (first | exact covL_nil | refine covL_dup rfl ?_ | refine covL_cons rfl rfl ?_)) ?_ | refine aend3 (by first | exact .inl rfl | exact .inr rfl) [] (by first | exact .tmp rfl | exact .cell rfl rfl rfl rfl rfl | exact .cellA rfl rfl rfl rfl rfl) (by first | exact .tmp rfl | exact .cell rfl rfl rfl rfl rfl | exact .cellA rfl rfl rfl rfl rfl) (by first | exact .tmp rfl | exact .cell rfl rfl rfl rfl rfl | exact .cellA rfl rfl rfl rfl rfl) (by repeat (first | exact covL_nil | refine covL_dup rfl ?_ | refine covL_cons rfl rfl ?_)) ?_
    exact ⟨rfl, rfl⟩
theorem words_read (l : List UInt8) (hl : l.length ≤ 9223372036854775807) : Con Tryd.prog 3 [.lit (.string (strOf l))] [] (fun az hz => az = .lit (.bool true) ∧ hz = []) := by
  by_cases h : l.length ≤ 700
  · by_cases hc : ∃ c, okC c = true ∧ okA c ∧ l = sayL c
    · obtain ⟨c, h1, h2, rfl⟩ := hc
      exact words_read_yes c h1 h2 h
    · exact words_read_no l h (fun c h1 h2 h3 => hc ⟨c, h1, h2, h3⟩)
  · exact words_read_big l h hl
end Go.Proofs.YtgiicfjibngooaaDoor
