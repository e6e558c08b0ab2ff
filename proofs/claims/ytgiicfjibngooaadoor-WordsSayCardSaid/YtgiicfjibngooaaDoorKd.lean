/- The document's digits and numbers. -/
import Derived.Test.YtgiicfjibngooaaDoorKc
namespace Go.Proofs.YtgiicfjibngooaaDoor
open Go Go.RowKit
set_option linter.unusedVariables false
set_option linter.unusedSimpArgs false
attribute [local irreducible] ACode AOps AThen ABlock ACut

def NM7 : List (List UInt8) := [[], [100, 105, 114, 116, 121], [102, 105, 108, 108], [114, 101, 97, 100], [101, 118, 105, 99, 116], [99, 108, 101, 97, 110], [101, 120, 105, 115, 116, 115]]
theorem itoU_len (n : Int) (h0 : 0 ≤ n) (h1 : n ≤ 64) : 1 ≤ (itoU n).length ∧ (itoU n).length ≤ 10 := by
  have := itoU_small ⟨n.toNat, by omega⟩
  rw [show ((n.toNat : Nat) : Int) = n by omega] at this
  omega
def dgR (c : UInt8) : Int := if 48 ≤ (c.toNat : Int) ∧ (c.toNat : Int) ≤ 57 then (c.toNat : Int) - 48 else if 97 ≤ (c.toNat : Int) ∧ (c.toNat : Int) ≤ 102 then (c.toNat : Int) - 87 else 0
section
variable {P : Program} {T : List (Nat × TI)} {fr : List (Nat × AV)} {H : List (Nat × Res)} {o : Oper} {x y : Operand} {t t' s b : Nat} {l : List UInt8}
theorem sop_slice_strK {k1 k2 : IntKind} (lo hi : Nat) (ylo yhi : Operand) (ho : o.op = .slice t x (some ylo) (some yhi) none) (hT : TTOk P T) (ht : look T t = some ⟨.str, s, b⟩) (hx : Opv fr x (.lit (.string (strOf l)))) (hlo : Opv fr ylo (.lit (.int k1 (lo : Int)))) (hhi : Opv fr yhi (.lit (.int k2 (hi : Int)))) (h0 : lo ≤ hi) (h1 : hi ≤ l.length) : SOp P o fr H (.lit (.string (strOf ((l.drop lo).take (hi - lo))))) := fun S γ w ρ h => by
  have g1 := h.lit hx (by simp [ho, Op.operands])
  have g2 := h.lit hlo (by simp [ho, Op.operands])
  have g3 := h.lit hhi (by simp [ho, Op.operands])
  refine outl ?_
  have e1 := strOf_size l
  simp [execOp, ho, g1, g2, g3, Instr.sliceAt, Instr.slice, run_underlying (hT.str ht), Instr.sliceBounds, Instr.sliceBound, asIntOf, e1, h0, h1, strOf_extract]
theorem sop_slice_str1K {i j : Int} {ylo yhi : Operand} (ho : o.op = .slice t x (some ylo) (some yhi) none := by rfl) (hT : TTOk P T := by assumption) (ht : look T t = some ⟨.str, s, b⟩ := by rfl) (hx : Opv fr x (.lit (.string (strOf l))) := by exact opv_std) (hlo : Opv fr ylo (.lit (.int .u8 i)) := by exact opv_std) (hhi : Opv fr yhi (.lit (.int .u8 j)) := by exact opv_std) (hj : j = i + 1 := by first | rfl | omega) (h0 : 0 ≤ i := by omega) (h1 : i < (l.length : Int) := by first | omega | (simp only [List.length_cons, List.length_nil]; omega)) : SOp P o fr H (.lit (.string (strOf [nth l i.toNat]))) := by
  obtain ⟨k, rfl⟩ := Int.eq_ofNat_of_zero_le h0
  have hk : k < l.length := by omega
  have e : (l.drop k).take (k + 1 - k) = [nth l (Int.toNat (k : Int))] := by
    rw [Int.toNat_natCast, nth_eq hk, List.drop_eq_getElem_cons hk, Nat.add_sub_cancel_left]
    rfl
  have := sop_slice_strK k (k + 1) ylo yhi (P := P) (fr := fr) (H := H) ho hT ht hx hlo (by rw [hj] at hhi; exact_mod_cast hhi) (by omega) (by omega)
  rwa [e] at this
end
theorem b8_digit (m : Nat) : b8i (48 + (m : Int) % 10) = UInt8.ofNat (48 + m % 10) := by
  unfold b8i
  congr 1
  omega
theorem dig_step (m : Nat) (h : ¬ m < 10) : Lib.decDigits m = Lib.decDigits (m / 10) ++ [UInt8.ofNat (48 + m % 10)] := by
  rw [Lib.decDigits, dif_neg h]
/-- what is there, and what is to come, are the number -/
def numG (u m : Nat) (t : List UInt8) : Prop := (t = [] ∧ m = u) ∨ (t ≠ [] ∧ ((m = 0 ∧ t = Lib.decDigits u) ∨ (m ≠ 0 ∧ Lib.decDigits m ++ t = Lib.decDigits u)))
theorem numG_step {u m : Nat} {t : List UInt8} (h : numG u m t) (hg : 0 < m ∨ t = []) : numG u (m / 10) ([UInt8.ofNat (48 + m % 10)] ++ t) := by
  refine .inr ⟨by simp, ?_⟩
  have key : Lib.decDigits m ++ t = Lib.decDigits u := by
    rcases h with ⟨rfl, rfl⟩ | ⟨h1, ⟨rfl, h2⟩ | ⟨h2, h3⟩⟩
    · rw [List.append_nil]
    · rcases hg with h | h
      · omega
      · exact absurd h h1
    · exact h3
  by_cases h10 : m < 10
  · refine .inl ⟨by omega, ?_⟩
    rw [← key, Lib.decDigits_one h10, Nat.mod_eq_of_lt h10]
  · refine .inr ⟨by omega, ?_⟩
    rw [← key, dig_step m h10, List.append_assoc]
theorem numG_end {u m : Nat} {t : List UInt8} (h : numG u m t) (hm : m = 0) (ht : t ≠ []) : t = Lib.decDigits u := by
  rcases h with ⟨rfl, _⟩ | ⟨_, ⟨_, h2⟩ | ⟨h2, _⟩⟩
  · exact absurd rfl ht
  · exact h2
  · exact absurd hm h2
theorem numG_len {u m : Nat} {t : List UInt8} (h : numG u m t) : t.length ≤ (Lib.decDigits u).length := by
  rcases h with ⟨rfl, _⟩ | ⟨_, ⟨_, h2⟩ | ⟨_, h2⟩⟩
  · exact Nat.zero_le _
  · rw [h2]; exact Nat.le_refl _
  · rw [← h2, List.length_append]; omega
set_option maxRecDepth 10000 in
set_option maxHeartbeats 1000000 in
theorem decimal_con (u : Nat) (h1 : (u : Int) ≤ 64) : Con Tryd.prog 37 [.lit (.int .i64 (u : Int))] [] (fun az hz => az = .lit (.string (strOf (itoU (u : Int)))) ∧ hz = []) := by
  refine con_of hT Tryd.func37 rfl rfl rfl rfl rfl rfl ?_
  intro c
  have hT := hT
  have hZ := hZ
  have hil := (itoU_len (u : Int) (by omega) h1).2
  have hie : itoU (u : Int) = Lib.decDigits u := Lib.itoa_nonneg u
  rw [hie] at hil ⊢
  repeat' (first | refine a_seq ?_ | refine ar_step ?_ | refine a_block ?_ | refine a_skip ?_ | refine a_exit ?_ | refine a_ret ?_ | refine a_label ?_ | refine a_scope ?_ | refine a_region ?_ | refine rU (ev := ?_) | refine rN (ev := ?_) | refine rA (ev := ?_) | refine rT (ev := ?_) | refine rR (ev := ?_) | refine rO (ev := ?_) | refine at_normal ?_ | refine at_exit ?_ | refine at_ret ?_ | refine ab_normal ?_ | refine ab_ret ?_ | refine ab_same ?_ | refine ab_other rfl ?_ | refine ao_nil ?_ | refine EvK.nil ?_ | refine EvU.nil ?_ | refine EvU.alloc rfl rfl ?_ | refine EvU.store rfl rfl rfl rfl rfl (by first | exact .un rfl (by first | assumption | exact And.left (by assumption)) | exact .of rfl) rfl rfl rfl rfl rfl ?_ | refine tailA_k rfl rfl ?_ | refine tailA_k trivial rfl ?_ | refine tailA_k trivial (by kernel_rfl) ?_ | (refine a_cond rfl (fun hb => ?_) (fun hb => ?_) <;> (try simp only [reduceCtorEq, ne_eq, decs] at hb) <;> (try (exfalso; omega)) <;> (try exact (bool_ft hb (by assumption)).elim) <;> (try exact (bool_ft (by assumption) hb).elim)) | refine ao_alloc' (next := ?_) | refine ao_box' (next := ?_) | refine ao_store (next := ?_) | refine ao_store_own (next := ?_) | refine ao_store_ownR (next := ?_) | refine ao_append_same (next := ?_) | refine ao_append_nil (next := ?_) | refine ao_append_new (next := ?_) | refine ao_mkErr (next := ?_) | refine ao_clip (next := ?_) | refine ao_store_arr (next := ?_) | ((first | (apply ao_op rfl rfl (.plain rfl ?_) ?_; rotate_left) | (apply EvK.cons rfl (.plain rfl ?_) ?_; rotate_left) | (apply EvU.plain rfl rfl rfl ?_ ?_; rotate_left) | (apply ao_op rfl rfl (.guard rfl rfl rfl fun hg => ?_) ?_; rotate_right) | (apply ao_op rfl rfl (.guardw rfl rfl rfl fun hg => ?_) ?_; rotate_right) | (apply EvK.cons rfl (.guard rfl rfl rfl fun hg => ?_) ?_; rotate_right) | (apply EvK.cons rfl (.guardw rfl rfl rfl fun hg => ?_) ?_; rotate_right)); (try (have hg2 := hg; simp only [reduceCtorEq, ne_eq, decs] at hg2)); (first | exact sop_eql_str | exact sop_conv_b | exact sop_buildSlice (E := encU) | exact sop_str | exact sop_cat | exact sop_std | exact sop_false (by revert hg; decide) | fail)))
  refine a_loop (ι := Nat × List UInt8) (fun k => [(0, .lit (.int .i64 (k.1 : Int))), (3, .lit (.string (strOf k.2)))]) (fun k => []) (fun k => numG u k.1 k.2 ∧ (k.1 : Int) ≤ 64) (fun k => k.1 + if k.2 = [] then 1 else 0) (u, []) ⟨.inl ⟨rfl, rfl⟩, h1⟩ ?_ ?_
  · dsimp only
    (refine ⟨?_, ?_⟩ <;> repeat (first | exact covL_nil | refine covL_dup rfl ?_ | refine covL_cons rfl rfl ?_ | refine covL_cons rfl (cov_int rfl (by omega)) ?_))
  rintro ⟨m, t⟩ ⟨g1, g2⟩
  dsimp only at g1 g2 ⊢
  have hl := numG_len g1
  by_cases hg : 0 < m ∨ t = []
  · have hgi : 0 < (m : Int) ∨ t = [] := by rcases hg with h | h; exact .inl (by omega); exact .inr h
    have hbd := b8_digit m
    repeat' (first | refine a_seq ?_ | refine ar_step ?_ | refine a_block ?_ | refine a_skip ?_ | refine a_exit ?_ | refine a_ret ?_ | refine a_label ?_ | refine a_scope ?_ | refine a_region ?_ | refine rU (ev := ?_) | refine rN (ev := ?_) | refine rA (ev := ?_) | refine rT (ev := ?_) | refine rR (ev := ?_) | refine rO (ev := ?_) | refine at_normal ?_ | refine at_exit ?_ | refine at_ret ?_ | refine ab_normal ?_ | refine ab_ret ?_ | refine ab_same ?_ | refine ab_other rfl ?_ | refine ao_nil ?_ | refine EvK.nil ?_ | refine EvU.nil ?_ | refine EvU.alloc rfl rfl ?_ | refine EvU.store rfl rfl rfl rfl rfl (by first | exact .un rfl (by first | assumption | exact And.left (by assumption)) | exact .of rfl) rfl rfl rfl rfl rfl ?_ | refine tailA_k rfl rfl ?_ | refine tailA_k trivial rfl ?_ | refine tailA_k trivial (by kernel_rfl) ?_ | (refine a_cond rfl (fun hb => ?_) (fun hb => ?_) <;> (try simp only [reduceCtorEq, ne_eq, decs] at hb) <;> (try (exfalso; omega)) <;> (try exact (bool_ft hb (by assumption)).elim) <;> (try exact (bool_ft (by assumption) hb).elim)) | refine ao_alloc' (next := ?_) | refine ao_box' (next := ?_) | refine ao_store (next := ?_) | refine ao_store_own (next := ?_) | refine ao_store_ownR (next := ?_) | refine ao_append_same (next := ?_) | refine ao_append_nil (next := ?_) | refine ao_append_new (next := ?_) | refine ao_mkErr (next := ?_) | refine ao_clip (next := ?_) | refine ao_store_arr (next := ?_) | ((first | (apply ao_op rfl rfl (.plain rfl ?_) ?_; rotate_left) | (apply EvK.cons rfl (.plain rfl ?_) ?_; rotate_left) | (apply EvU.plain rfl rfl rfl ?_ ?_; rotate_left) | (apply ao_op rfl rfl (.guard rfl rfl rfl fun hg => ?_) ?_; rotate_right) | (apply ao_op rfl rfl (.guardw rfl rfl rfl fun hg => ?_) ?_; rotate_right) | (apply EvK.cons rfl (.guard rfl rfl rfl fun hg => ?_) ?_; rotate_right) | (apply EvK.cons rfl (.guardw rfl rfl rfl fun hg => ?_) ?_; rotate_right)); (try (have hg2 := hg; simp only [reduceCtorEq, ne_eq, decs] at hg2)); (first | exact sop_eql_str | exact sop_conv_b | exact sop_buildSlice (E := encU) | exact sop_str | exact sop_cat | exact sop_std | exact sop_false (by revert hg; decide) | fail)))
    · refine ⟨(m / 10, [UInt8.ofNat (48 + m % 10)] ++ t), ⟨numG_step g1 hg, by dsimp only; omega⟩, ?_, ?_⟩
      · dsimp only
        rw [if_neg (show ¬ [UInt8.ofNat (48 + m % 10)] ++ t = [] by simp)]
        rcases hg with h | h
        · split <;> omega
        · rw [if_pos h]
          omega
      · dsimp only
        rw [← hbd]
        (refine ⟨?_, ?_⟩ <;> repeat (first | exact covL_nil | refine covL_dup rfl ?_ | refine covL_cons rfl rfl ?_ | refine covL_cons rfl (cov_int rfl (by omega)) ?_))
    · exfalso
      rcases hgi with h | h
      · omega
      · exact hb.2 h
  · have hm : m = 0 := by omega
    have ht : t ≠ [] := fun h => hg (.inr h)
    have hgi : ¬ (0 < (m : Int)) ∧ ¬ t = [] := ⟨by omega, ht⟩
    rw [numG_end g1 hm ht]
    have hdn : Lib.decDigits u ≠ [] := by rw [← numG_end g1 hm ht]; exact ht
    repeat' (first | refine a_seq ?_ | refine ar_step ?_ | refine a_block ?_ | refine a_skip ?_ | refine a_exit ?_ | refine a_ret ?_ | refine a_label ?_ | refine a_scope ?_ | refine a_region ?_ | refine rU (ev := ?_) | refine rN (ev := ?_) | refine rA (ev := ?_) | refine rT (ev := ?_) | refine rR (ev := ?_) | refine rO (ev := ?_) | refine at_normal ?_ | refine at_exit ?_ | refine at_ret ?_ | refine ab_normal ?_ | refine ab_ret ?_ | refine ab_same ?_ | refine ab_other rfl ?_ | refine ao_nil ?_ | refine EvK.nil ?_ | refine EvU.nil ?_ | refine EvU.alloc rfl rfl ?_ | refine EvU.store rfl rfl rfl rfl rfl (by first | exact .un rfl (by first | assumption | exact And.left (by assumption)) | exact .of rfl) rfl rfl rfl rfl rfl ?_ | refine tailA_k rfl rfl ?_ | refine tailA_k trivial rfl ?_ | refine tailA_k trivial (by kernel_rfl) ?_ | (refine a_cond rfl (fun hb => ?_) (fun hb => ?_) <;> (try simp only [reduceCtorEq, ne_eq, decs] at hb) <;> (try (exfalso; omega)) <;> (try exact (bool_ft hb (by assumption)).elim) <;> (try exact (bool_ft (by assumption) hb).elim)) | refine ao_alloc' (next := ?_) | refine ao_box' (next := ?_) | refine ao_store (next := ?_) | refine ao_store_own (next := ?_) | refine ao_store_ownR (next := ?_) | refine ao_append_same (next := ?_) | refine ao_append_nil (next := ?_) | refine ao_append_new (next := ?_) | refine ao_mkErr (next := ?_) | refine ao_clip (next := ?_) | refine ao_store_arr (next := ?_) | ((first | (apply ao_op rfl rfl (.plain rfl ?_) ?_; rotate_left) | (apply EvK.cons rfl (.plain rfl ?_) ?_; rotate_left) | (apply EvU.plain rfl rfl rfl ?_ ?_; rotate_left) | (apply ao_op rfl rfl (.guard rfl rfl rfl fun hg => ?_) ?_; rotate_right) | (apply ao_op rfl rfl (.guardw rfl rfl rfl fun hg => ?_) ?_; rotate_right) | (apply EvK.cons rfl (.guard rfl rfl rfl fun hg => ?_) ?_; rotate_right) | (apply EvK.cons rfl (.guardw rfl rfl rfl fun hg => ?_) ?_; rotate_right)); (try (have hg2 := hg; simp only [reduceCtorEq, ne_eq, decs] at hg2)); (first | exact sop_eql_str | exact sop_conv_b | exact sop_buildSlice (E := encU) | exact sop_str | exact sop_cat | exact sop_std | exact sop_false (by revert hg; decide) | fail)))
    all_goals first | (exfalso; rcases hb with h | h; exact hgi.1 h; exact hdn h) | skip
    first | refine aend0 (by first | exact .inl rfl | exact .inr rfl) []  (by repeat (first | exact covL_nil | refine covL_dup rfl ?_ | refine covL_cons rfl rfl ?_)) ?_ | refine aend1 (by first | exact .inl rfl | exact .inr rfl) [] (by first | exact .tmp rfl | exact .cell rfl rfl rfl rfl rfl | exact .cellA rfl rfl rfl rfl rfl) (by repeat (first | exact covL_nil | refine covL_dup rfl ?_ | refine covL_cons rfl rfl ?_)) ?_ | refine aend2 (by first | exact .inl rfl | exact .inr rfl) [] (by first | exact .tmp rfl | exact .cell rfl rfl rfl rfl rfl | exact .cellA rfl rfl rfl rfl rfl) (by first | exact .tmp rfl | exact .cell rfl rfl rfl rfl rfl | exact .cellA rfl rfl rfl rfl rfl) (by repeat (first | exact covL_nil | refine covL_dup rfl ?_ | refine covL_cons rfl rfl ?_)) ?_ | refine aend3 (by first | exact .inl rfl | exact .inr rfl) [] (by first | exact .tmp rfl | exact .cell rfl rfl rfl rfl rfl | exact .cellA rfl rfl rfl rfl rfl) (by first | exact .tmp rfl | exact .cell rfl rfl rfl rfl rfl | exact .cellA rfl rfl rfl rfl rfl) (by first | exact .tmp rfl | exact .cell rfl rfl rfl rfl rfl | exact .cellA rfl rfl rfl rfl rfl) (by repeat (first | exact covL_nil | refine covL_dup rfl ?_ | refine covL_cons rfl rfl ?_)) ?_
    exact ⟨rfl, rfl⟩
set_option maxRecDepth 10000 in
set_option maxHeartbeats 400000 in
theorem names_con  : Con Tryd.prog 27 [] [] (fun az hz => az = .snap (slF encS NM7) ∧ hz = []) := by
  refine con_of hT Tryd.func27 rfl rfl rfl rfl rfl rfl ?_
  intro c
  have hT := hT
  have hZ := hZ
  repeat' (first | refine a_seq ?_ | refine ar_step ?_ | refine a_block ?_ | refine a_skip ?_ | refine a_exit ?_ | refine a_ret ?_ | refine a_label ?_ | refine a_scope ?_ | refine a_region ?_ | refine at_normal ?_ | refine at_exit ?_ | refine at_ret ?_ | refine ab_normal ?_ | refine ab_ret ?_ | refine ab_same ?_ | refine ab_other rfl ?_ | refine ao_nil ?_ | (refine a_cond rfl (fun hb => ?_) (fun hb => ?_) <;> (try simp only [reduceCtorEq, ne_eq, decs] at hb) <;> (try (exfalso; omega)) <;> (try exact (bool_ft hb (by assumption)).elim) <;> (try exact (bool_ft (by assumption) hb).elim)) | refine ao_alloc' (next := ?_) | refine ao_box' (next := ?_) | refine ao_store (next := ?_) | refine ao_store_own (next := ?_) | refine ao_store_ownR (next := ?_) | refine ao_append_same (next := ?_) | refine ao_append_nil (next := ?_) | refine ao_append_new (next := ?_) | refine ao_mkErr (next := ?_) | refine ao_clip (next := ?_) | refine ao_store_arr (next := ?_) | ((first | (apply ao_op rfl rfl (.plain rfl ?_) ?_; rotate_left)); (first | exact sop_buildSlice (E := encS) | exact sop_std | fail)))
  first | refine aend0 (by first | exact .inl rfl | exact .inr rfl) []  (by repeat (first | exact covL_nil | refine covL_dup rfl ?_ | refine covL_cons rfl rfl ?_)) ?_ | refine aend1 (by first | exact .inl rfl | exact .inr rfl) [] (by first | exact .tmp rfl | exact .cell rfl rfl rfl rfl rfl | exact .cellA rfl rfl rfl rfl rfl) (by repeat (first | exact covL_nil | refine covL_dup rfl ?_ | refine covL_cons rfl rfl ?_)) ?_ | refine aend2 (by first | exact .inl rfl | exact .inr rfl) [] (by first | exact .tmp rfl | exact .cell rfl rfl rfl rfl rfl | exact .cellA rfl rfl rfl rfl rfl) (by first | exact .tmp rfl | exact .cell rfl rfl rfl rfl rfl | exact .cellA rfl rfl rfl rfl rfl) (by repeat (first | exact covL_nil | refine covL_dup rfl ?_ | refine covL_cons rfl rfl ?_)) ?_ | refine aend3 (by first | exact .inl rfl | exact .inr rfl) [] (by first | exact .tmp rfl | exact .cell rfl rfl rfl rfl rfl | exact .cellA rfl rfl rfl rfl rfl) (by first | exact .tmp rfl | exact .cell rfl rfl rfl rfl rfl | exact .cellA rfl rfl rfl rfl rfl) (by first | exact .tmp rfl | exact .cell rfl rfl rfl rfl rfl | exact .cellA rfl rfl rfl rfl rfl) (by repeat (first | exact covL_nil | refine covL_dup rfl ?_ | refine covL_cons rfl rfl ?_)) ?_
  exact ⟨rfl, rfl⟩
set_option maxRecDepth 10000 in
set_option maxHeartbeats 400000 in
theorem digit_con (u : UInt8) : Con Tryd.prog 29 [.lit (.int .u8 (u.toNat : Int))] [] (fun az hz => az = .lit (.int .u8 (dgR u)) ∧ hz = []) := by
  refine con_of hT Tryd.func29 rfl rfl rfl rfl rfl rfl ?_
  intro c
  have hT := hT
  have hZ := hZ
  have hu := u.toNat_lt
  repeat' (first | refine a_seq ?_ | refine ar_step ?_ | refine a_block ?_ | refine a_skip ?_ | refine a_exit ?_ | refine a_ret ?_ | refine a_label ?_ | refine a_scope ?_ | refine a_region ?_ | refine at_normal ?_ | refine at_exit ?_ | refine at_ret ?_ | refine ab_normal ?_ | refine ab_ret ?_ | refine ab_same ?_ | refine ab_other rfl ?_ | refine ao_nil ?_ | (refine a_cond rfl (fun hb => ?_) (fun hb => ?_) <;> (try simp only [reduceCtorEq, ne_eq, decs] at hb) <;> (try (exfalso; omega)) <;> (try exact (bool_ft hb (by assumption)).elim) <;> (try exact (bool_ft (by assumption) hb).elim)) | refine ao_alloc' (next := ?_) | refine ao_box' (next := ?_) | refine ao_store (next := ?_) | refine ao_store_own (next := ?_) | refine ao_store_ownR (next := ?_) | refine ao_append_same (next := ?_) | refine ao_append_nil (next := ?_) | refine ao_append_new (next := ?_) | refine ao_mkErr (next := ?_) | refine ao_clip (next := ?_) | refine ao_store_arr (next := ?_) | ((first | (apply ao_op rfl rfl (.plain rfl ?_) ?_; rotate_left) | (apply ao_op rfl rfl (.guard rfl rfl rfl fun hg => ?_) ?_; rotate_right) | (apply ao_op rfl rfl (.guardw rfl rfl rfl fun hg => ?_) ?_; rotate_right)); (try (have hg2 := hg; simp only [reduceCtorEq, ne_eq, decs] at hg2)); (first | exact sop_sub_u8in | exact sop_add_u8in | exact sop_std | exact sop_false (by revert hg; decide) | fail)))
  all_goals (first | refine aend0 (by first | exact .inl rfl | exact .inr rfl) []  (by repeat (first | exact covL_nil | refine covL_dup rfl ?_ | refine covL_cons rfl rfl ?_)) ?_ | refine aend1 (by first | exact .inl rfl | exact .inr rfl) [] (by first | exact .tmp rfl | exact .cell rfl rfl rfl rfl rfl | exact .cellA rfl rfl rfl rfl rfl) (by repeat (first | exact covL_nil | refine covL_dup rfl ?_ | refine covL_cons rfl rfl ?_)) ?_ | refine aend2 (by first | exact .inl rfl | exact .inr rfl) [] (by first | exact .tmp rfl | exact .cell rfl rfl rfl rfl rfl | exact .cellA rfl rfl rfl rfl rfl) (by first | exact .tmp rfl | exact .cell rfl rfl rfl rfl rfl | exact .cellA rfl rfl rfl rfl rfl) (by repeat (first | exact covL_nil | refine covL_dup rfl ?_ | refine covL_cons rfl rfl ?_)) ?_ | refine aend3 (by first | exact .inl rfl | exact .inr rfl) [] (by first | exact .tmp rfl | exact .cell rfl rfl rfl rfl rfl | exact .cellA rfl rfl rfl rfl rfl) (by first | exact .tmp rfl | exact .cell rfl rfl rfl rfl rfl | exact .cellA rfl rfl rfl rfl rfl) (by first | exact .tmp rfl | exact .cell rfl rfl rfl rfl rfl | exact .cellA rfl rfl rfl rfl rfl) (by repeat (first | exact covL_nil | refine covL_dup rfl ?_ | refine covL_cons rfl rfl ?_)) ?_)
  all_goals (refine ⟨?_, rfl⟩; unfold dgR; congr 2; repeat' split)
  all_goals omega
end Go.Proofs.YtgiicfjibngooaaDoor
