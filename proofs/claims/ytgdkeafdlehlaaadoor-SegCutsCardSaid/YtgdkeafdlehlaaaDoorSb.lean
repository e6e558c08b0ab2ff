/- Words of our own for walks over abstract values, laid together. Nothing of the program stands here. -/
import Derived.Test.YtgdkeafdlehlaaaDoorYa
import Derived.Test.YtgdkeafdlehlaaaDoorOe
import Derived.Test.YtgdkeafdlehlaaaDoorYe
import Derived.Test.YtgdkeafdlehlaaaDoorSa
/- A checkpoint cut: parts that may be had back. -/
namespace Go.Proofs.YtgdkeafdlehlaaaDoor
open Go Go.RowKit
set_option linter.unusedVariables false
set_option linter.unusedSimpArgs false
set_option maxRecDepth 10000 in
set_option maxHeartbeats 2000000 in
theorem cut_okO (size : Int) (name : List UInt8) (es : List Ent) (ha : ∀ k, k < es.length → 0 ≤ (nth es k).addr ∧ (nth es k).addr < 18446744073709551616) (hok : okC size name es = true) (N : Nat) : Con Tryd.prog 8 [.lit (.int .i64 size), .lit (.string (strOf name)), .snap (oldF N (slF encEn es))] [] (fun az hz => az = .tup [.own 1009, .lit .nilIface] ∧ hz = [(1009, .own 38 (encOw N 5) (cutL size name es))]) := by
  refine con_of hT Tryd.func8 rfl rfl rfl rfl rfl rfl ?_
  intro c
  have hT := hT
  have hZ := hZ
  have hsz := strOf_size name
  unfold okC at hok
  simp only [Bool.and_eq_true, Bool.not_eq_true', decide_eq_false_iff_not] at hok
  obtain ⟨⟨c1, c2⟩, c3⟩ := hok
  have c4 : es.length ≤ 256 := by
    unfold mayE at c3
    simp only [Bool.and_eq_true, decide_eq_true_eq] at c3
    exact c3.1
  have hn := may_36 c2
  obtain ⟨p1, p2, p3, p4, p5, p6, p7, p8, p9⟩ := parts_all (n := es.length) c1 (by omega) (by omega)
  have hoe := may_okE c3 ha
  repeat' (first | refine a_seq ?_ | refine ar_step ?_ | refine a_block ?_ | refine a_skip ?_ | refine a_exit ?_ | refine a_ret ?_ | refine a_label ?_ | refine a_scope ?_ | refine a_region ?_ | refine rU (ev := ?_) | refine rN (ev := ?_) | refine rA (ev := ?_) | refine rT (ev := ?_) | refine rR (ev := ?_) | refine rO (ev := ?_) | refine at_normal ?_ | refine at_exit ?_ | refine at_ret ?_ | refine ab_normal ?_ | refine ab_ret ?_ | refine ab_same ?_ | refine ab_other rfl ?_ | refine ao_nil ?_ | refine EvK.nil ?_ | refine EvU.nil ?_ | refine EvU.alloc rfl rfl ?_ | refine EvU.store rfl rfl rfl rfl rfl (by first | exact .un rfl (by first | assumption | exact And.left (by assumption)) | exact .of rfl) rfl rfl rfl rfl rfl ?_ | refine tailA_k rfl rfl ?_ | refine tailA_k trivial rfl ?_ | refine tailA_k trivial (by kernel_rfl) ?_ | (refine a_cond rfl (fun hb => ?_) (fun hb => ?_) <;> (try simp only [reduceCtorEq, ne_eq, decs] at hb) <;> (try (exfalso; omega)) <;> (try exact (bool_ft hb (by assumption)).elim) <;> (try exact (bool_ft (by assumption) hb).elim)) | refine ao_alloc' (next := ?_) | refine ao_box' (next := ?_) | refine ao_store (next := ?_) | refine ao_store_own (next := ?_) | refine ao_store_ownR (next := ?_) | refine ao_append_same (next := ?_) | refine ao_append_nil (next := ?_) | refine ao_append_new (next := ?_) | refine ao_mkErr (next := ?_) | refine ao_clip (next := ?_) | refine ao_store_arr (next := ?_) | ((first | (apply ao_op rfl rfl (.plain rfl ?_) ?_; rotate_left) | (apply EvK.cons rfl (.plain rfl ?_) ?_; rotate_left) | (apply EvU.plain rfl rfl rfl ?_ ?_; rotate_left) | (apply ao_op rfl rfl (.guard rfl rfl rfl fun hg => ?_) ?_; rotate_right) | (apply ao_op rfl rfl (.guardw rfl rfl rfl fun hg => ?_) ?_; rotate_right) | (apply EvK.cons rfl (.guard rfl rfl rfl fun hg => ?_) ?_; rotate_right) | (apply EvK.cons rfl (.guardw rfl rfl rfl fun hg => ?_) ?_; rotate_right)); (try (have hg2 := hg; simp only [reduceCtorEq, ne_eq, decs] at hg2)); (first | exact sop_move_keep 52 | exact sop_move_old | exact sop_slice_old | exact sop_bx | (apply sop_callC (each_con _) <;> first | exact sd | (simp only [List.length_append, List.length_cons, List.length_nil, List.length_set, List.length_replicate, List.length_take, List.length_drop, List.length_map, fixN_len]; omega)) | (apply sop_callC (may_con _ ?_) <;> first | exact sd | (simp only [List.length_append, List.length_cons, List.length_nil, List.length_set, List.length_replicate, List.length_take, List.length_drop, List.length_map, fixN_len]; omega)) | (apply sop_callC (may_e _ ?_) <;> first | exact sd | (simp only [List.length_append, List.length_cons, List.length_nil, List.length_set, List.length_replicate, List.length_take, List.length_drop, List.length_map, fixN_len]; omega)) | (apply sop_callC (parts_con _ _ ?_ ?_) <;> first | exact sd | (simp only [List.length_append, List.length_cons, List.length_nil, List.length_set, List.length_replicate, List.length_take, List.length_drop, List.length_map, fixN_len]; omega)) | (apply sop_callN (hld2) <;> first | exact sd | (simp only [List.length_append, List.length_cons, List.length_nil, List.length_set, List.length_replicate, List.length_take, List.length_drop, List.length_map, fixN_len]; omega)) | exact sop_buildSlice (E := encOw N 5) | exact sop_std | exact sop_false (by revert hg; decide) | fail)))
  · exfalso
    rcases hb with (h | h) | h
    · exact c1 h
    · rw [c2] at h; cases h
    · rw [c3] at h; cases h
  refine a_ownNil 9 38 (encOw N 5) 1009 rfl rfl rfl ?_
  refine a_loop (ι := Nat) (fun k => [(32, .lit (.int .i64 (k : Int))), (9, .own 1009)]) (fun k => [(1009, .own 38 (encOw N 5) (gen (cutP size name es) k))]) (fun k => (k : Int) ≤ partsS size es.length) (fun k => (partsS size es.length).toNat - k) 0 (by omega) ?_ ?_
  · (refine ⟨?_, ?_⟩ <;> repeat (first | exact covL_nil | refine covL_dup rfl ?_ | refine covL_cons rfl rfl ?_ | refine covL_cons rfl (cov_int rfl (by omega)) ?_))
  intro k hk
  have hgl := gen_len (cutP size name es) k
  by_cases hkl : (k : Int) < partsS size es.length
  · have m1 : (k : Int) * eachS size ≤ (partsS size es.length - 1) * eachS size := Int.mul_le_mul_of_nonneg_right (by omega) (by omega)
    have m0 : 0 ≤ (k : Int) * eachS size := Int.mul_nonneg (by omega) (by omega)
    have m2 : ((k : Int) + 1) * eachS size = (k : Int) * eachS size + eachS size := by rw [Int.add_mul, Int.one_mul]
    have m3 : ((k * eS size : Nat) : Int) = (k : Int) * eachS size := by
      unfold eS
      rw [Int.natCast_mul, Int.toNat_of_nonneg (by omega)]
    have hsl : (segE size es k).length ≤ eS size := by unfold segE; rw [List.length_take]; omega
    have hse : (eS size : Int) = eachS size := by unfold eS; omega
    have eeq := each_pos (n := size) (by omega)
    have hld0 := laid_con size (k : Int) (partsS size es.length) name (segE size es k) (by omega) (by omega) hn (by omega) (by omega) (fun j hj => by
      obtain ⟨n1, n2⟩ := nth_seg hj
      rw [n1]
      exact hoe _ n2)
    have hsg : List.drop ((k : Int) * eachS size).toNat (List.take (if (es.length : Int) < ((k : Int) + 1) * eachS size then (es.length : Int) else ((k : Int) + 1) * eachS size).toNat es) = segE size es k := by
      unfold segE
      rw [show ((k : Int) * eachS size).toNat = k * eS size by omega, List.drop_take]
      split
      · rw [List.take_of_length_le (by rw [List.length_drop]; omega), List.take_of_length_le (by rw [List.length_drop]; omega)]
      · congr 1
        omega
    have hld := con_frzN (N := N) (args' := [.lit (.int .i64 size), .lit (.int .i64 (k : Int)), .lit (.int .i64 (partsS size es.length)), .lit (.string (strOf name)), .snap (oldF N (slF encEn (segE size es k)))]) hld0 (by
      rw [partL_len _ _ hn (by omega)]
      omega) (fun S γ w vs hsz hv => by
      simp only [AV.holdsL, AV.holds] at hv ⊢
      obtain ⟨v1, r1, rfl, h1, v2, r2, rfl, h2, v3, r3, rfl, h3, v4, r4, rfl, h4, v5, r5, rfl, h5, rfl⟩ := hv
      exact ⟨⟨v1, _, rfl, h1, v2, _, rfl, h2, v3, _, rfl, h3, v4, _, rfl, h4, v5, _, rfl, oldF_wk h5, rfl⟩, oldF_le h5 hsz⟩)
    have hld2 : Con Tryd.prog 25 [.lit (.int .i64 size), .lit (.int .i64 (k : Int)), .lit (.int .i64 (partsS size es.length)), .lit (.string (strOf name)), .snap (oldF N (slF encEn (List.drop ((k : Int) * eachS size).toNat (List.take (if (es.length : Int) < ((k : Int) + 1) * eachS size then (es.length : Int) else ((k : Int) + 1) * eachS size).toNat es))))] [] (fun a h => a = .snap (ownF N 5 (cutP size name es k)) ∧ h = []) := by
      rw [hsg]
      exact hld
    repeat' (first | refine a_seq ?_ | refine ar_step ?_ | refine a_block ?_ | refine a_skip ?_ | refine a_exit ?_ | refine a_ret ?_ | refine a_label ?_ | refine a_scope ?_ | refine a_region ?_ | refine rU (ev := ?_) | refine rN (ev := ?_) | refine rA (ev := ?_) | refine rT (ev := ?_) | refine rR (ev := ?_) | refine rO (ev := ?_) | refine at_normal ?_ | refine at_exit ?_ | refine at_ret ?_ | refine ab_normal ?_ | refine ab_ret ?_ | refine ab_same ?_ | refine ab_other rfl ?_ | refine ao_nil ?_ | refine EvK.nil ?_ | refine EvU.nil ?_ | refine EvU.alloc rfl rfl ?_ | refine EvU.store rfl rfl rfl rfl rfl (by first | exact .un rfl (by first | assumption | exact And.left (by assumption)) | exact .of rfl) rfl rfl rfl rfl rfl ?_ | refine tailA_k rfl rfl ?_ | refine tailA_k trivial rfl ?_ | refine tailA_k trivial (by kernel_rfl) ?_ | (refine a_cond rfl (fun hb => ?_) (fun hb => ?_) <;> (try simp only [reduceCtorEq, ne_eq, decs] at hb) <;> (try (exfalso; omega)) <;> (try exact (bool_ft hb (by assumption)).elim) <;> (try exact (bool_ft (by assumption) hb).elim)) | refine ao_alloc' (next := ?_) | refine ao_box' (next := ?_) | refine ao_store (next := ?_) | refine ao_store_own (next := ?_) | refine ao_store_ownR (next := ?_) | refine ao_append_same (next := ?_) | refine ao_append_nil (next := ?_) | refine ao_append_new (next := ?_) | refine ao_mkErr (next := ?_) | refine ao_clip (next := ?_) | refine ao_store_arr (next := ?_) | ((first | (apply ao_op rfl rfl (.plain rfl ?_) ?_; rotate_left) | (apply EvK.cons rfl (.plain rfl ?_) ?_; rotate_left) | (apply EvU.plain rfl rfl rfl ?_ ?_; rotate_left) | (apply ao_op rfl rfl (.guard rfl rfl rfl fun hg => ?_) ?_; rotate_right) | (apply ao_op rfl rfl (.guardw rfl rfl rfl fun hg => ?_) ?_; rotate_right) | (apply EvK.cons rfl (.guard rfl rfl rfl fun hg => ?_) ?_; rotate_right) | (apply EvK.cons rfl (.guardw rfl rfl rfl fun hg => ?_) ?_; rotate_right)); (try (have hg2 := hg; simp only [reduceCtorEq, ne_eq, decs] at hg2)); (first | exact sop_move_keep 52 | exact sop_move_old | exact sop_slice_old | exact sop_bx | (apply sop_callC (each_con _) <;> first | exact sd | (simp only [List.length_append, List.length_cons, List.length_nil, List.length_set, List.length_replicate, List.length_take, List.length_drop, List.length_map, fixN_len]; omega)) | (apply sop_callC (may_con _ ?_) <;> first | exact sd | (simp only [List.length_append, List.length_cons, List.length_nil, List.length_set, List.length_replicate, List.length_take, List.length_drop, List.length_map, fixN_len]; omega)) | (apply sop_callC (may_e _ ?_) <;> first | exact sd | (simp only [List.length_append, List.length_cons, List.length_nil, List.length_set, List.length_replicate, List.length_take, List.length_drop, List.length_map, fixN_len]; omega)) | (apply sop_callC (parts_con _ _ ?_ ?_) <;> first | exact sd | (simp only [List.length_append, List.length_cons, List.length_nil, List.length_set, List.length_replicate, List.length_take, List.length_drop, List.length_map, fixN_len]; omega)) | (apply sop_callN (hld2) <;> first | exact sd | (simp only [List.length_append, List.length_cons, List.length_nil, List.length_set, List.length_replicate, List.length_take, List.length_drop, List.length_map, fixN_len]; omega)) | exact sop_buildSlice (E := encOw N 5) | exact sop_std | exact sop_false (by revert hg; decide) | fail)))
    refine ⟨k + 1, by omega, by omega, ?_⟩
    rw [gen_succ]
    (refine ⟨?_, ?_⟩ <;> repeat (first | exact covL_nil | refine covL_dup rfl ?_ | refine covL_cons rfl rfl ?_ | refine covL_cons rfl (cov_int rfl (by omega)) ?_))
  · have ek : (partsS size es.length).toNat = k := by omega
    repeat' (first | refine a_seq ?_ | refine ar_step ?_ | refine a_block ?_ | refine a_skip ?_ | refine a_exit ?_ | refine a_ret ?_ | refine a_label ?_ | refine a_scope ?_ | refine a_region ?_ | refine rU (ev := ?_) | refine rN (ev := ?_) | refine rA (ev := ?_) | refine rT (ev := ?_) | refine rR (ev := ?_) | refine rO (ev := ?_) | refine at_normal ?_ | refine at_exit ?_ | refine at_ret ?_ | refine ab_normal ?_ | refine ab_ret ?_ | refine ab_same ?_ | refine ab_other rfl ?_ | refine ao_nil ?_ | refine EvK.nil ?_ | refine EvU.nil ?_ | refine EvU.alloc rfl rfl ?_ | refine EvU.store rfl rfl rfl rfl rfl (by first | exact .un rfl (by first | assumption | exact And.left (by assumption)) | exact .of rfl) rfl rfl rfl rfl rfl ?_ | refine tailA_k rfl rfl ?_ | refine tailA_k trivial rfl ?_ | refine tailA_k trivial (by kernel_rfl) ?_ | (refine a_cond rfl (fun hb => ?_) (fun hb => ?_) <;> (try simp only [reduceCtorEq, ne_eq, decs] at hb) <;> (try (exfalso; omega)) <;> (try exact (bool_ft hb (by assumption)).elim) <;> (try exact (bool_ft (by assumption) hb).elim)) | refine ao_alloc' (next := ?_) | refine ao_box' (next := ?_) | refine ao_store (next := ?_) | refine ao_store_own (next := ?_) | refine ao_store_ownR (next := ?_) | refine ao_append_same (next := ?_) | refine ao_append_nil (next := ?_) | refine ao_append_new (next := ?_) | refine ao_mkErr (next := ?_) | refine ao_clip (next := ?_) | refine ao_store_arr (next := ?_) | ((first | (apply ao_op rfl rfl (.plain rfl ?_) ?_; rotate_left) | (apply EvK.cons rfl (.plain rfl ?_) ?_; rotate_left) | (apply EvU.plain rfl rfl rfl ?_ ?_; rotate_left) | (apply ao_op rfl rfl (.guard rfl rfl rfl fun hg => ?_) ?_; rotate_right) | (apply ao_op rfl rfl (.guardw rfl rfl rfl fun hg => ?_) ?_; rotate_right) | (apply EvK.cons rfl (.guard rfl rfl rfl fun hg => ?_) ?_; rotate_right) | (apply EvK.cons rfl (.guardw rfl rfl rfl fun hg => ?_) ?_; rotate_right)); (try (have hg2 := hg; simp only [reduceCtorEq, ne_eq, decs] at hg2)); (first | exact sop_move_keep 52 | exact sop_move_old | exact sop_slice_old | exact sop_bx | (apply sop_callC (each_con _) <;> first | exact sd | (simp only [List.length_append, List.length_cons, List.length_nil, List.length_set, List.length_replicate, List.length_take, List.length_drop, List.length_map, fixN_len]; omega)) | (apply sop_callC (may_con _ ?_) <;> first | exact sd | (simp only [List.length_append, List.length_cons, List.length_nil, List.length_set, List.length_replicate, List.length_take, List.length_drop, List.length_map, fixN_len]; omega)) | (apply sop_callC (may_e _ ?_) <;> first | exact sd | (simp only [List.length_append, List.length_cons, List.length_nil, List.length_set, List.length_replicate, List.length_take, List.length_drop, List.length_map, fixN_len]; omega)) | (apply sop_callC (parts_con _ _ ?_ ?_) <;> first | exact sd | (simp only [List.length_append, List.length_cons, List.length_nil, List.length_set, List.length_replicate, List.length_take, List.length_drop, List.length_map, fixN_len]; omega)) | (apply sop_callN (hld2) <;> first | exact sd | (simp only [List.length_append, List.length_cons, List.length_nil, List.length_set, List.length_replicate, List.length_take, List.length_drop, List.length_map, fixN_len]; omega)) | exact sop_buildSlice (E := encOw N 5) | exact sop_std | exact sop_false (by revert hg; decide) | fail)))
    first | refine aend0 (by first | exact .inl rfl | exact .inr rfl) [(1009, .own 38 (encOw N 5) (gen (cutP size name es) k))]  (by repeat (first | exact covL_nil | refine covL_dup rfl ?_ | refine covL_cons rfl rfl ?_)) ?_ | refine aend1 (by first | exact .inl rfl | exact .inr rfl) [(1009, .own 38 (encOw N 5) (gen (cutP size name es) k))] (by first | exact .tmp rfl | exact .cell rfl rfl rfl rfl rfl | exact .cellA rfl rfl rfl rfl rfl) (by repeat (first | exact covL_nil | refine covL_dup rfl ?_ | refine covL_cons rfl rfl ?_)) ?_ | refine aend2 (by first | exact .inl rfl | exact .inr rfl) [(1009, .own 38 (encOw N 5) (gen (cutP size name es) k))] (by first | exact .tmp rfl | exact .cell rfl rfl rfl rfl rfl | exact .cellA rfl rfl rfl rfl rfl) (by first | exact .tmp rfl | exact .cell rfl rfl rfl rfl rfl | exact .cellA rfl rfl rfl rfl rfl) (by repeat (first | exact covL_nil | refine covL_dup rfl ?_ | refine covL_cons rfl rfl ?_)) ?_ | refine aend3 (by first | exact .inl rfl | exact .inr rfl) [(1009, .own 38 (encOw N 5) (gen (cutP size name es) k))] (by first | exact .tmp rfl | exact .cell rfl rfl rfl rfl rfl | exact .cellA rfl rfl rfl rfl rfl) (by first | exact .tmp rfl | exact .cell rfl rfl rfl rfl rfl | exact .cellA rfl rfl rfl rfl rfl) (by first | exact .tmp rfl | exact .cell rfl rfl rfl rfl rfl | exact .cellA rfl rfl rfl rfl rfl) (by repeat (first | exact covL_nil | refine covL_dup rfl ?_ | refine covL_cons rfl rfl ?_)) ?_
    refine ⟨rfl, ?_⟩
    unfold cutL
    rw [ek]
end Go.Proofs.YtgdkeafdlehlaaaDoor

/- SegCuts: plain laws; parts compared. -/
namespace Go.Proofs.YtgdkeafdlehlaaaDoor
open Go Go.RowKit
set_option linter.unusedVariables false
set_option linter.unusedSimpArgs false

theorem nth_some {α : Type} [Inhabited α] {l : List α} {i : Nat} {x : α} (h : l[i]? = some x) : i < l.length ∧ nth l i = x := by
  refine ⟨(List.getElem?_eq_some_iff.1 h).1, ?_⟩
  unfold nth
  rw [List.getD_eq_getElem?_getD, h]
  rfl
/-- the parts from the k-th on are still known -/
def restL (ls : List (List UInt8)) (k : Nat) : List (Option (List UInt8)) := List.replicate k none ++ (ls.drop k).map some
theorem restL_0 (ls : List (List UInt8)) : restL ls 0 = ls.map some := rfl
theorem restL_len {ls : List (List UInt8)} {k : Nat} (h : k ≤ ls.length) : (restL ls k).length = ls.length := by
  simp [restL]; omega
theorem restL_get {ls : List (List UInt8)} {k : Nat} (i : Nat) : (restL ls k)[i]? = if i < k then some none else (ls[i]?).map some := by
  unfold restL
  rw [List.getElem?_append]
  by_cases h : i < k
  · rw [if_pos (by simpa using h), if_pos h, List.getElem?_replicate, if_pos h]
  · rw [if_neg (by simpa using h), if_neg h, List.getElem?_map, List.getElem?_drop, List.length_replicate, show k + (i - k) = i by omega]
theorem restL_at {ls : List (List UInt8)} {k : Nat} (h : k < ls.length) : nth (restL ls k) k = some (nth ls k) := by
  have h1 : (restL ls k)[k]? = some (some (nth ls k)) := by
    rw [restL_get, if_neg (Nat.lt_irrefl _), List.getElem?_eq_getElem h, nth_eq h]
    rfl
  exact (nth_some h1).2
theorem restL_ok {ls : List (List UInt8)} {k m : Nat} (h : k < ls.length) (hinj : ∀ i j, i < ls.length → j < ls.length → nth ls i = nth ls j → i = j) (hlen : ∀ i, i < ls.length → (nth ls i).length = m) : RestOk (nth ls k) (restL ls k) (restL ls (k + 1)) := by
  refine ⟨by rw [restL_len (by omega), restL_len (by omega)], fun i l' hi => ?_⟩
  rw [restL_get] at hi
  split at hi
  · cases hi
  · rename_i hik
    obtain ⟨x, hx, e⟩ := Option.map_eq_some_iff.1 hi
    injection e with e
    subst e
    obtain ⟨hl, hn⟩ := nth_some hx
    refine ⟨by rw [restL_get, if_neg (by omega), hx]; rfl, fun e1 => ?_, ?_⟩
    · rw [← hn] at e1
      have := hinj i k hl h e1
      omega
    · rw [← hn, hlen i hl, hlen k h]
theorem cut_inj {size : Int} {name : List UInt8} {es : List Ent} (ha : ∀ k, k < es.length → 0 ≤ (nth es k).addr ∧ (nth es k).addr < 18446744073709551616) (hok : okC size name es = true) : ∀ i j, i < (cutL size name es).length → j < (cutL size name es).length → nth (cutL size name es) i = nth (cutL size name es) j → i = j := fun i j hi hj h => by
  rw [cutL_len] at hi hj
  rw [cutL_nth hi, cutL_nth hj] at h
  have h1 := (cut_rd hok ha (k := i) (by omega)).2.1
  have h2 := (cut_rd hok ha (k := j) (by omega)).2.1
  rw [h, h2] at h1
  have e : ((j : Nat) : Int) = ((i : Nat) : Int) := congrArg Prt.num h1
  exact (Int.ofNat.inj e).symm
set_option maxRecDepth 10000 in
set_option maxHeartbeats 400000 in
theorem same_pp (a b : List (List UInt8)) (ha : a.length ≤ 9223372036854775807) (hb : b.length ≤ 9223372036854775807) (hina : ∀ k, (nth a k).length ≤ 9223372036854775807) (hinb : ∀ k, (nth b k).length ≤ 9223372036854775807) : Con Tryd.prog 10 [.snap (slF encP a), .snap (slF encP b)] [] (fun az hz => az = .lit (.bool (decide (a = b))) ∧ hz = []) := by
  refine con_of hT Tryd.func10 rfl rfl rfl rfl rfl rfl ?_
  intro c
  have hT := hT
  have hZ := hZ
  have hla := ha
  repeat' (first | refine a_seq ?_ | refine ar_step ?_ | refine a_block ?_ | refine a_skip ?_ | refine a_exit ?_ | refine a_ret ?_ | refine a_label ?_ | refine a_scope ?_ | refine a_region ?_ | refine rU (ev := ?_) | refine rN (ev := ?_) | refine rA (ev := ?_) | refine rT (ev := ?_) | refine rR (ev := ?_) | refine rO (ev := ?_) | refine at_normal ?_ | refine at_exit ?_ | refine at_ret ?_ | refine ab_normal ?_ | refine ab_ret ?_ | refine ab_same ?_ | refine ab_other rfl ?_ | refine ao_nil ?_ | refine EvK.nil ?_ | refine EvU.nil ?_ | refine EvU.alloc rfl rfl ?_ | refine EvU.store rfl rfl rfl rfl rfl (by first | exact .un rfl (by first | assumption | exact And.left (by assumption)) | exact .of rfl) rfl rfl rfl rfl rfl ?_ | refine tailA_k rfl rfl ?_ | refine tailA_k trivial rfl ?_ | refine tailA_k trivial (by kernel_rfl) ?_ | (refine a_cond rfl (fun hb => ?_) (fun hb => ?_) <;> (try simp only [reduceCtorEq, ne_eq, decs] at hb) <;> (try (exfalso; omega)) <;> (try exact (bool_ft hb (by assumption)).elim) <;> (try exact (bool_ft (by assumption) hb).elim)) | refine ao_alloc' (next := ?_) | refine ao_box' (next := ?_) | refine ao_store (next := ?_) | refine ao_store_own (next := ?_) | refine ao_store_ownR (next := ?_) | refine ao_append_same (next := ?_) | refine ao_append_nil (next := ?_) | refine ao_append_new (next := ?_) | refine ao_mkErr (next := ?_) | refine ao_clip (next := ?_) | refine ao_store_arr (next := ?_) | ((first | (apply ao_op rfl rfl (.plain rfl ?_) ?_; rotate_left) | (apply EvK.cons rfl (.plain rfl ?_) ?_; rotate_left) | (apply EvU.plain rfl rfl rfl ?_ ?_; rotate_left) | (apply ao_op rfl rfl (.guard rfl rfl rfl fun hg => ?_) ?_; rotate_right) | (apply ao_op rfl rfl (.guardw rfl rfl rfl fun hg => ?_) ?_; rotate_right) | (apply EvK.cons rfl (.guard rfl rfl rfl fun hg => ?_) ?_; rotate_right) | (apply EvK.cons rfl (.guardw rfl rfl rfl fun hg => ?_) ?_; rotate_right)); (try (have hg2 := hg; simp only [reduceCtorEq, ne_eq, decs] at hg2)); (first | (apply sop_callC (same_b _ _ (hina _) (hinb _)) <;> first | exact sd | (simp only [List.length_append, List.length_cons, List.length_nil, List.length_set, List.length_replicate, List.length_take, List.length_drop, List.length_map, fixN_len]; omega)) | exact sop_std | exact sop_false (by revert hg; decide) | fail)))
  · first | refine aend0 (by first | exact .inl rfl | exact .inr rfl) []  (by repeat (first | exact covL_nil | refine covL_dup rfl ?_ | refine covL_cons rfl rfl ?_)) ?_ | refine aend1 (by first | exact .inl rfl | exact .inr rfl) [] (by first | exact .tmp rfl | exact .cell rfl rfl rfl rfl rfl | exact .cellA rfl rfl rfl rfl rfl) (by repeat (first | exact covL_nil | refine covL_dup rfl ?_ | refine covL_cons rfl rfl ?_)) ?_ | refine aend2 (by first | exact .inl rfl | exact .inr rfl) [] (by first | exact .tmp rfl | exact .cell rfl rfl rfl rfl rfl | exact .cellA rfl rfl rfl rfl rfl) (by first | exact .tmp rfl | exact .cell rfl rfl rfl rfl rfl | exact .cellA rfl rfl rfl rfl rfl) (by repeat (first | exact covL_nil | refine covL_dup rfl ?_ | refine covL_cons rfl rfl ?_)) ?_ | refine aend3 (by first | exact .inl rfl | exact .inr rfl) [] (by first | exact .tmp rfl | exact .cell rfl rfl rfl rfl rfl | exact .cellA rfl rfl rfl rfl rfl) (by first | exact .tmp rfl | exact .cell rfl rfl rfl rfl rfl | exact .cellA rfl rfl rfl rfl rfl) (by first | exact .tmp rfl | exact .cell rfl rfl rfl rfl rfl | exact .cellA rfl rfl rfl rfl rfl) (by repeat (first | exact covL_nil | refine covL_dup rfl ?_ | refine covL_cons rfl rfl ?_)) ?_
    refine ⟨?_, rfl⟩
    have : decide (a = b) = false := decide_eq_false (fun e => by subst e; omega)
    rw [this]
  · have hab : a.length = b.length := by omega
    refine a_loop (ι := Nat) (fun k => [(5, .lit (.int .i64 (k : Int)))]) (fun _ => []) (fun k => k ≤ a.length ∧ a.take k = b.take k) (fun k => a.length - k) 0 ⟨by omega, rfl⟩ ?_ ?_
    · (refine ⟨?_, ?_⟩ <;> repeat (first | exact covL_nil | refine covL_dup rfl ?_ | refine covL_cons rfl rfl ?_ | refine covL_cons rfl (cov_int rfl (by omega)) ?_))
    rintro k ⟨hk, hm⟩
    repeat' (first | refine a_seq ?_ | refine ar_step ?_ | refine a_block ?_ | refine a_skip ?_ | refine a_exit ?_ | refine a_ret ?_ | refine a_label ?_ | refine a_scope ?_ | refine a_region ?_ | refine rU (ev := ?_) | refine rN (ev := ?_) | refine rA (ev := ?_) | refine rT (ev := ?_) | refine rR (ev := ?_) | refine rO (ev := ?_) | refine at_normal ?_ | refine at_exit ?_ | refine at_ret ?_ | refine ab_normal ?_ | refine ab_ret ?_ | refine ab_same ?_ | refine ab_other rfl ?_ | refine ao_nil ?_ | refine EvK.nil ?_ | refine EvU.nil ?_ | refine EvU.alloc rfl rfl ?_ | refine EvU.store rfl rfl rfl rfl rfl (by first | exact .un rfl (by first | assumption | exact And.left (by assumption)) | exact .of rfl) rfl rfl rfl rfl rfl ?_ | refine tailA_k rfl rfl ?_ | refine tailA_k trivial rfl ?_ | refine tailA_k trivial (by kernel_rfl) ?_ | (refine a_cond rfl (fun hb => ?_) (fun hb => ?_) <;> (try simp only [reduceCtorEq, ne_eq, decs] at hb) <;> (try (exfalso; omega)) <;> (try exact (bool_ft hb (by assumption)).elim) <;> (try exact (bool_ft (by assumption) hb).elim)) | refine ao_alloc' (next := ?_) | refine ao_box' (next := ?_) | refine ao_store (next := ?_) | refine ao_store_own (next := ?_) | refine ao_store_ownR (next := ?_) | refine ao_append_same (next := ?_) | refine ao_append_nil (next := ?_) | refine ao_append_new (next := ?_) | refine ao_mkErr (next := ?_) | refine ao_clip (next := ?_) | refine ao_store_arr (next := ?_) | ((first | (apply ao_op rfl rfl (.plain rfl ?_) ?_; rotate_left) | (apply EvK.cons rfl (.plain rfl ?_) ?_; rotate_left) | (apply EvU.plain rfl rfl rfl ?_ ?_; rotate_left) | (apply ao_op rfl rfl (.guard rfl rfl rfl fun hg => ?_) ?_; rotate_right) | (apply ao_op rfl rfl (.guardw rfl rfl rfl fun hg => ?_) ?_; rotate_right) | (apply EvK.cons rfl (.guard rfl rfl rfl fun hg => ?_) ?_; rotate_right) | (apply EvK.cons rfl (.guardw rfl rfl rfl fun hg => ?_) ?_; rotate_right)); (try (have hg2 := hg; simp only [reduceCtorEq, ne_eq, decs] at hg2)); (first | (apply sop_callC (same_b _ _ (hina _) (hinb _)) <;> first | exact sd | (simp only [List.length_append, List.length_cons, List.length_nil, List.length_set, List.length_replicate, List.length_take, List.length_drop, List.length_map, fixN_len]; omega)) | exact sop_std | exact sop_false (by revert hg; decide) | fail)))
    · first | refine aend0 (by first | exact .inl rfl | exact .inr rfl) []  (by repeat (first | exact covL_nil | refine covL_dup rfl ?_ | refine covL_cons rfl rfl ?_)) ?_ | refine aend1 (by first | exact .inl rfl | exact .inr rfl) [] (by first | exact .tmp rfl | exact .cell rfl rfl rfl rfl rfl | exact .cellA rfl rfl rfl rfl rfl) (by repeat (first | exact covL_nil | refine covL_dup rfl ?_ | refine covL_cons rfl rfl ?_)) ?_ | refine aend2 (by first | exact .inl rfl | exact .inr rfl) [] (by first | exact .tmp rfl | exact .cell rfl rfl rfl rfl rfl | exact .cellA rfl rfl rfl rfl rfl) (by first | exact .tmp rfl | exact .cell rfl rfl rfl rfl rfl | exact .cellA rfl rfl rfl rfl rfl) (by repeat (first | exact covL_nil | refine covL_dup rfl ?_ | refine covL_cons rfl rfl ?_)) ?_ | refine aend3 (by first | exact .inl rfl | exact .inr rfl) [] (by first | exact .tmp rfl | exact .cell rfl rfl rfl rfl rfl | exact .cellA rfl rfl rfl rfl rfl) (by first | exact .tmp rfl | exact .cell rfl rfl rfl rfl rfl | exact .cellA rfl rfl rfl rfl rfl) (by first | exact .tmp rfl | exact .cell rfl rfl rfl rfl rfl | exact .cellA rfl rfl rfl rfl rfl) (by repeat (first | exact covL_nil | refine covL_dup rfl ?_ | refine covL_cons rfl rfl ?_)) ?_
      refine ⟨?_, rfl⟩
      have : decide (a = b) = false := decide_eq_false (fun e => by
        subst e
        simp at hb)
      rw [this]
    · refine ⟨k + 1, ⟨by omega, ?_⟩, by omega, ?_⟩
      · rw [take_eq a b k (by omega) (by omega) hm]
        simpa using hb
      · (refine ⟨?_, ?_⟩ <;> repeat (first | exact covL_nil | refine covL_dup rfl ?_ | refine covL_cons rfl rfl ?_ | refine covL_cons rfl (cov_int rfl (by omega)) ?_))
    · obtain rfl : k = a.length := by omega
      have : a = b := by
        rw [List.take_length, List.take_of_length_le (by omega)] at hm
        exact hm
      first | refine aend0 (by first | exact .inl rfl | exact .inr rfl) []  (by repeat (first | exact covL_nil | refine covL_dup rfl ?_ | refine covL_cons rfl rfl ?_)) ?_ | refine aend1 (by first | exact .inl rfl | exact .inr rfl) [] (by first | exact .tmp rfl | exact .cell rfl rfl rfl rfl rfl | exact .cellA rfl rfl rfl rfl rfl) (by repeat (first | exact covL_nil | refine covL_dup rfl ?_ | refine covL_cons rfl rfl ?_)) ?_ | refine aend2 (by first | exact .inl rfl | exact .inr rfl) [] (by first | exact .tmp rfl | exact .cell rfl rfl rfl rfl rfl | exact .cellA rfl rfl rfl rfl rfl) (by first | exact .tmp rfl | exact .cell rfl rfl rfl rfl rfl | exact .cellA rfl rfl rfl rfl rfl) (by repeat (first | exact covL_nil | refine covL_dup rfl ?_ | refine covL_cons rfl rfl ?_)) ?_ | refine aend3 (by first | exact .inl rfl | exact .inr rfl) [] (by first | exact .tmp rfl | exact .cell rfl rfl rfl rfl rfl | exact .cellA rfl rfl rfl rfl rfl) (by first | exact .tmp rfl | exact .cell rfl rfl rfl rfl rfl | exact .cellA rfl rfl rfl rfl rfl) (by first | exact .tmp rfl | exact .cell rfl rfl rfl rfl rfl | exact .cellA rfl rfl rfl rfl rfl) (by repeat (first | exact covL_nil | refine covL_dup rfl ?_ | refine covL_cons rfl rfl ?_)) ?_
      exact ⟨by rw [decide_eq_true this], rfl⟩

theorem nth_in {ls : List (List UInt8)} {m : Nat} (h : ∀ k, k < ls.length → (nth ls k).length ≤ m) : ∀ k, (nth ls k).length ≤ m := fun k => by
  by_cases hk : k < ls.length
  · exact h k hk
  · unfold nth
    rw [List.getD_eq_getElem?_getD, List.getElem?_eq_none (by omega)]
    exact Nat.zero_le _
theorem same_pO (N : Nat) (a b : List (List UInt8)) (ha : a.length ≤ 9223372036854775807) (hb : b.length ≤ 9223372036854775807) (hina : ∀ k, (nth a k).length ≤ 9223372036854775807) (hinb : ∀ k, (nth b k).length ≤ 9223372036854775807) : Con Tryd.prog 10 [.snap (slF (encOw N 5) a), .snap (slF encP b)] [] (fun az hz => az = .lit (.bool (decide (a = b))) ∧ hz = []) := fun S γ w vs hst hh => same_pp a b ha hb hina hinb S γ w vs hst (by
  simp only [AV.holdsL, AV.holds] at hh ⊢
  obtain ⟨v1, r1, rfl, h1, v2, r2, rfl, h2, rfl⟩ := hh
  refine ⟨v1, _, rfl, slF_wk (fun x us h => ?_) h1, v2, _, rfl, h2, rfl⟩
  have e1 : (encOw N 5).cells x = [AV.snap (ownF N 5 x)] := rfl
  have e2 : encP.cells x = [AV.snap (slF encU x)] := rfl
  rw [e1] at h
  rw [e2]
  simp only [AV.holdsL, AV.holds] at h ⊢
  obtain ⟨u, r, rfl, hu, hr⟩ := h
  exact ⟨u, r, rfl, ownF_sl hu, hr⟩)
end Go.Proofs.YtgdkeafdlehlaaaDoor
