/- The document's reading: plain; its saying of any order. -/
import Derived.Test.YtgiicfjibngooaaDoorKe
namespace Go.Proofs.YtgiicfjibngooaaDoor
open Go Go.RowKit
set_option linter.unusedVariables false
set_option linter.unusedSimpArgs false
attribute [local irreducible] ACode AOps AThen ABlock ACut

def kdS (w : List UInt8) : Nat → Nat
  | 0 => 0
  | k + 1 => if 1 ≤ k ∧ nth NM7 k = w then k else kdS w k
theorem kd_dirty : kdS [100, 105, 114, 116, 121] 7 = 1 := by decide +kernel
theorem kd_fill : kdS [102, 105, 108, 108] 7 = 2 := by decide +kernel
theorem kd_rd : kdS [114, 101, 97, 100] 7 = 3 := by decide +kernel
theorem kd_evict : kdS [101, 118, 105, 99, 116] 7 = 4 := by decide +kernel
theorem kd_clean : kdS [99, 108, 101, 97, 110] 7 = 5 := by decide +kernel
theorem kd_exi : kdS [101, 120, 105, 115, 116, 115] 7 = 6 := by decide +kernel
theorem dgR_bd (c : UInt8) : 0 ≤ dgR c ∧ dgR c ≤ 15 := by
  have := c.toNat_lt
  unfold dgR
  split
  · omega
  · split <;> omega
def mnS (w : List UInt8) : Nat → Int
  | 0 => 0
  | j + 1 => mnS w j * 10 + dgR (nth w j)
theorem mn_bd (w : List UInt8) : ∀ j, j ≤ 3 → 0 ≤ mnS w j ∧ mnS w j ≤ 10000
  | 0, _ => by unfold mnS; omega
  | 1, _ => by have := dgR_bd (nth w 0); simp only [mnS]; omega
  | 2, _ => by have := dgR_bd (nth w 0); have := dgR_bd (nth w 1); simp only [mnS]; omega
  | 3, _ => by have := dgR_bd (nth w 0); have := dgR_bd (nth w 1); have := dgR_bd (nth w 2); simp only [mnS]; omega
  | j + 4, h => by omega
theorem mn_itoU : ∀ m : Fin 65, mnS (itoU (m.val : Int)) (min (itoU (m.val : Int)).length 3) = (m.val : Int) := by decide +kernel
def byR (w : List UInt8) (j : Nat) : UInt8 := UInt8.ofNat (16 * (dgR (nth w (2 * j))).toNat + (dgR (nth w (2 * j + 1))).toNat)
def outR (w : List UInt8) (k : Nat) : List UInt8 := (List.range k).map (byR w)
theorem outR_succ (w : List UInt8) (k : Nat) : outR w (k + 1) = outR w k ++ [byR w k] := by unfold outR; rw [List.range_succ, List.map_append]; rfl
theorem outR_len (w : List UInt8) (k : Nat) : (outR w k).length = k := by simp [outR]
theorem dgR_hd : ∀ d : Fin 16, dgR (hd d.val) = (d.val : Int) := by decide +kernel
theorem outR_data (d : List UInt8) : outR (dgs d) d.length = d := by
  apply List.ext_getElem
  · rw [outR_len]
  · intro j h1 h2
    have hu := (nth d j).toNat_lt
    simp only [outR, List.getElem_map, List.getElem_range, byR]
    rw [(nth_dgs d j h2).1, (nth_dgs d j h2).2, dgR_hd ⟨(nth d j).toNat / 16, by omega⟩, dgR_hd ⟨(nth d j).toNat % 16, by omega⟩, Int.toNat_natCast, Int.toNat_natCast, show 16 * ((nth d j).toNat / 16) + (nth d j).toNat % 16 = (nth d j).toNat by omega, UInt8.ofNat_toNat, nth_eq h2]
/-- an order whose fields are those of its kind -/
structure Coh (o : Ord) : Prop where
  k0 : 0 ≤ o.kind
  k6 : o.kind ≤ 6
  ha : o.addr < 18446744073709551616
  hd : o.data.length ≤ 1000000
  hm : 0 ≤ o.many ∧ o.many ≤ 10000
  dn : ¬ (o.kind = 1 ∨ o.kind = 2) → o.data = []
  mn : o.kind ≠ 6 → o.many = 0
theorem coh_cmd {o : Ord} (h : Coh o) (hk : o.kind ≠ 0) : ordC (cmdO o) = o ∧ okA (cmdO o) := by
  obtain ⟨k, a, d, m⟩ := o
  obtain ⟨k0, k6, ha, hd, hm, dn, mn⟩ := h
  dsimp only at k0 k6 ha hd hm dn mn hk
  have : k = 1 ∨ k = 2 ∨ k = 3 ∨ k = 4 ∨ k = 5 ∨ k = 6 := by omega
  rcases this with rfl | rfl | rfl | rfl | rfl | rfl
  · have := mn (by omega); subst this; exact ⟨rfl, ha, hd⟩
  · have := mn (by omega); subst this; exact ⟨rfl, ha, hd⟩
  · have := mn (by omega); have := dn (by omega); subst_vars; exact ⟨rfl, ha⟩
  · have := mn (by omega); have := dn (by omega); subst_vars; exact ⟨rfl, ha⟩
  · have := mn (by omega); have := dn (by omega); subst_vars; exact ⟨rfl, ha⟩
  · have := dn (by omega); subst this; exact ⟨rfl, ha, (by omega : -9223372036854775808 ≤ m), (by omega : m ≤ 9223372036854775807)⟩
theorem coh_ord (c : Cmd) (h1 : okC c = true) (h2 : okA c) : cmdO (ordC c) = c ∧ (ordC c).kind ≠ 0 := by
  cases c <;> first | exact absurd h1 (by decide) | exact ⟨rfl, by simp [ordC]⟩
set_option maxRecDepth 10000 in
set_option maxHeartbeats 2000000 in
theorem rsay_zero (a : Nat) : Con Tryd.prog 18 [.agg [.lit (.int .i64 0), .lit (.int .u64 (a : Int)), .snap (slF encU ([])), .lit (.int .i64 0)]] [] (fun az hz => az = .tup [.lit (.string (strOf [])), .lit (.int .i64 2)] ∧ hz = []) := by
  refine con_of hT Tryd.func18 rfl rfl rfl rfl rfl rfl ?_
  intro c
  have hT := hT
  have hZ := hZ
  repeat' (first | refine a_seq ?_ | refine ar_step ?_ | refine a_block ?_ | refine a_skip ?_ | refine a_exit ?_ | refine a_ret ?_ | refine a_label ?_ | refine a_scope ?_ | refine a_region ?_ | refine rU (ev := ?_) | refine rN (ev := ?_) | refine rA (ev := ?_) | refine rT (ev := ?_) | refine rR (ev := ?_) | refine rO (ev := ?_) | refine at_normal ?_ | refine at_exit ?_ | refine at_ret ?_ | refine ab_normal ?_ | refine ab_ret ?_ | refine ab_same ?_ | refine ab_other rfl ?_ | refine ao_nil ?_ | refine EvK.nil ?_ | refine EvU.nil ?_ | refine EvU.alloc rfl rfl ?_ | refine EvU.store rfl rfl rfl rfl rfl (by first | exact .un rfl (by first | assumption | exact And.left (by assumption)) | exact .of rfl) rfl rfl rfl rfl rfl ?_ | refine tailA_k rfl rfl ?_ | refine tailA_k trivial rfl ?_ | refine tailA_k trivial (by kernel_rfl) ?_ | (refine a_cond rfl (fun hb => ?_) (fun hb => ?_) <;> (try simp only [reduceCtorEq, ne_eq, decs] at hb) <;> (try (exfalso; omega)) <;> (try exact (bool_ft hb (by assumption)).elim) <;> (try exact (bool_ft (by assumption) hb).elim)) | refine ao_alloc' (next := ?_) | refine ao_box' (next := ?_) | refine ao_store (next := ?_) | refine ao_store_own (next := ?_) | refine ao_store_ownR (next := ?_) | refine ao_append_same (next := ?_) | refine ao_append_nil (next := ?_) | refine ao_append_new (next := ?_) | refine ao_mkErr (next := ?_) | refine ao_clip (next := ?_) | refine ao_store_arr (next := ?_) | ((first | (apply ao_op rfl rfl (.plain rfl ?_) ?_; rotate_left) | (apply EvK.cons rfl (.plain rfl ?_) ?_; rotate_left) | (apply EvU.plain rfl rfl rfl ?_ ?_; rotate_left) | (apply ao_op rfl rfl (.guard rfl rfl rfl fun hg => ?_) ?_; rotate_right) | (apply ao_op rfl rfl (.guardw rfl rfl rfl fun hg => ?_) ?_; rotate_right) | (apply EvK.cons rfl (.guard rfl rfl rfl fun hg => ?_) ?_; rotate_right) | (apply EvK.cons rfl (.guardw rfl rfl rfl fun hg => ?_) ?_; rotate_right)); (try (have hg2 := hg; simp only [reduceCtorEq, ne_eq, decs] at hg2)); (first | (apply sop_callN (names_con) <;> first | exact sd) | (apply sop_callC (rhex_con _ ?_) <;> first | exact sd) | exact sop_cat | exact sop_std | exact sop_false (by revert hg; decide) | fail)))
  all_goals first | ((first | refine aend0 (by first | exact .inl rfl | exact .inr rfl) []  (by repeat (first | exact covL_nil | refine covL_dup rfl ?_ | refine covL_cons rfl rfl ?_)) ?_ | refine aend1 (by first | exact .inl rfl | exact .inr rfl) [] (by first | exact .tmp rfl | exact .cell rfl rfl rfl rfl rfl | exact .cellA rfl rfl rfl rfl rfl) (by repeat (first | exact covL_nil | refine covL_dup rfl ?_ | refine covL_cons rfl rfl ?_)) ?_ | refine aend2 (by first | exact .inl rfl | exact .inr rfl) [] (by first | exact .tmp rfl | exact .cell rfl rfl rfl rfl rfl | exact .cellA rfl rfl rfl rfl rfl) (by first | exact .tmp rfl | exact .cell rfl rfl rfl rfl rfl | exact .cellA rfl rfl rfl rfl rfl) (by repeat (first | exact covL_nil | refine covL_dup rfl ?_ | refine covL_cons rfl rfl ?_)) ?_ | refine aend3 (by first | exact .inl rfl | exact .inr rfl) [] (by first | exact .tmp rfl | exact .cell rfl rfl rfl rfl rfl | exact .cellA rfl rfl rfl rfl rfl) (by first | exact .tmp rfl | exact .cell rfl rfl rfl rfl rfl | exact .cellA rfl rfl rfl rfl rfl) (by first | exact .tmp rfl | exact .cell rfl rfl rfl rfl rfl | exact .cellA rfl rfl rfl rfl rfl) (by repeat (first | exact covL_nil | refine covL_dup rfl ?_ | refine covL_cons rfl rfl ?_)) ?_); exact ⟨rfl, rfl⟩) | (exfalso; simp at hb; done) | (exfalso; simp at hb; omega) | (exfalso; omega)
theorem rsay_con (o : Ord) (h : Coh o) : Con Tryd.prog 18 [ordA o] [] (fun az hz => az = .tup [.lit (.string (strOf (sayS (cmdO o)))), .lit (.int .i64 (sayE (cmdO o)))] ∧ hz = []) := by
  obtain ⟨k, a, d, m⟩ := o
  obtain ⟨k0, k6, ha, hd, hm, dn, mn⟩ := h
  dsimp only at k0 k6 ha hd hm dn mn
  have : k = 0 ∨ k = 1 ∨ k = 2 ∨ k = 3 ∨ k = 4 ∨ k = 5 ∨ k = 6 := by omega
  rcases this with rfl | rfl | rfl | rfl | rfl | rfl | rfl
  · have := mn (by omega); have := dn (by omega); subst_vars; exact rsay_zero a
  · have := mn (by omega); subst_vars
    have hc : cmdO ⟨1, a, d, 0⟩ = (.dirty a d) := rfl
    rw [hc]
    by_cases hk : d.length ≤ 256
    · have ho : okC (.dirty a d) = true := by simp [okC, hk]
      have e1 : sayS (.dirty a d) = sayL (.dirty a d) := by unfold sayS; rw [if_pos ho]
      have e2 : sayE (.dirty a d) = 0 := by unfold sayE; rw [if_pos ho]
      rw [e1, e2]
      exact rsay_dirty_ok a d ha hd hk
    · have ho : ¬ okC (.dirty a d) = true := by simp [okC]; omega
      have e1 : sayS (.dirty a d) = [] := by unfold sayS; rw [if_neg ho]
      have e2 : sayE (.dirty a d) = 2 := by unfold sayE; rw [if_neg ho]
      rw [e1, e2]
      exact rsay_dirty_no a d ha hd hk
  · have := mn (by omega); subst_vars
    have hc : cmdO ⟨2, a, d, 0⟩ = (.fill a d) := rfl
    rw [hc]
    by_cases hk : d.length ≤ 256
    · have ho : okC (.fill a d) = true := by simp [okC, hk]
      have e1 : sayS (.fill a d) = sayL (.fill a d) := by unfold sayS; rw [if_pos ho]
      have e2 : sayE (.fill a d) = 0 := by unfold sayE; rw [if_pos ho]
      rw [e1, e2]
      exact rsay_fill_ok a d ha hd hk
    · have ho : ¬ okC (.fill a d) = true := by simp [okC]; omega
      have e1 : sayS (.fill a d) = [] := by unfold sayS; rw [if_neg ho]
      have e2 : sayE (.fill a d) = 2 := by unfold sayE; rw [if_neg ho]
      rw [e1, e2]
      exact rsay_fill_no a d ha hd hk
  · have := mn (by omega); have := dn (by omega); subst_vars
    exact rsay_rd_ok a ha
  · have := mn (by omega); have := dn (by omega); subst_vars
    exact rsay_evict_ok a ha
  · have := mn (by omega); have := dn (by omega); subst_vars
    exact rsay_clean_ok a ha
  · have := dn (by omega); subst_vars
    have hc : cmdO ⟨6, a, [], m⟩ = (.exi a m) := rfl
    rw [hc]
    by_cases hk : 0 ≤ m ∧ m ≤ 64
    · have ho : okC (.exi a m) = true := by simp [okC, hk]
      have e1 : sayS (.exi a m) = sayL (.exi a m) := by unfold sayS; rw [if_pos ho]
      have e2 : sayE (.exi a m) = 0 := by unfold sayE; rw [if_pos ho]
      rw [e1, e2]
      exact rsay_exi_ok a m ha ⟨by omega, by omega⟩ hk
    · have ho : ¬ okC (.exi a m) = true := by simp [okC]; omega
      have e1 : sayS (.exi a m) = [] := by unfold sayS; rw [if_neg ho]
      have e2 : sayE (.exi a m) = 2 := by unfold sayE; rw [if_neg ho]
      rw [e1, e2]
      exact rsay_exi_no a m ha ⟨by omega, by omega⟩ hk
end Go.Proofs.YtgiicfjibngooaaDoor
