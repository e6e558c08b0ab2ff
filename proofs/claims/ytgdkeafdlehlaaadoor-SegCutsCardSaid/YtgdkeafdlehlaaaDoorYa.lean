/- A checkpoint cut in parts. -/
import Derived.Test.YtgdkeafdlehlaaaDoorY9
import Derived.Test.YtgdkeafdlehlaaaDoorM0
namespace Go.Proofs.YtgdkeafdlehlaaaDoor
open Go Go.RowKit
set_option linter.unusedVariables false
set_option linter.unusedSimpArgs false

def eS (size : Int) : Nat := (eachS size).toNat
def segE (size : Int) (es : List Ent) (k : Nat) : List Ent := (es.drop (k * eS size)).take (eS size)
def cutP (size : Int) (name : List UInt8) (es : List Ent) (k : Nat) : List UInt8 := partL size (k : Int) (partsS size es.length) name (segE size es k)
def cutL (size : Int) (name : List UInt8) (es : List Ent) : List (List UInt8) := gen (cutP size name es) (partsS size es.length).toNat
def okC (size : Int) (name : List UInt8) (es : List Ent) : Bool := !decide (eachS size = 0) && mayL name && mayE es
theorem encode_three {r : Int} (h : goodR r = true) : (rb [r]).length ≤ 3 := by
  have := good_bd h
  rw [rb_one]
  unfold Lib.encodeRune Lib.encodeRuneZ
  rw [List.length_map]
  repeat' split
  all_goals simp
  all_goals omega
theorem rb_three : ∀ {xs : List Int}, xs.all goodR = true → (rb xs).length ≤ 3 * xs.length
  | [], _ => by rw [show rb ([] : List Int) = [] from rfl]; exact Nat.zero_le _
  | x :: xs, h => by
    rw [List.all_cons, Bool.and_eq_true] at h
    have h1 := encode_three h.1
    have h2 := rb_three h.2
    have e : rb (x :: xs) = rb [x] ++ rb xs := by
      rw [show x :: xs = [x] ++ xs from rfl, rb_app]
    rw [e, List.length_append, List.length_cons]
    omega
theorem may_36 {l : List UInt8} (h : mayL l = true) : l.length ≤ 36 := by
  obtain ⟨h1, h2, h3, h4, h5, h6⟩ := may_parts h
  have e : rb (rns l) = l := rb_rns_valid _ _ (Nat.le_refl _) h1
  have := rb_three h6
  rw [e] at this
  omega
theorem may_okE {es : List Ent} (h : mayE es = true) (ha : ∀ k, k < es.length → 0 ≤ (nth es k).addr ∧ (nth es k).addr < 18446744073709551616) : ∀ k, k < es.length → okEnt (nth es k) := fun k hk => by
  unfold mayE at h
  simp only [Bool.and_eq_true] at h
  have hr := h.2
  unfold risesE at hr
  rw [List.all_eq_true] at hr
  have ho := hr k (List.mem_range.2 hk)
  unfold okE at ho
  simp only [Bool.and_eq_true] at ho
  have hf := (fitsE_iff _).1 ho.1.1
  exact ⟨ha k hk, ⟨hf.1.1, hf.1.2⟩, by omega⟩
theorem nth_seg {size : Int} {es : List Ent} {k j : Nat} (h : j < (segE size es k).length) : nth (segE size es k) j = nth es (k * eS size + j) ∧ k * eS size + j < es.length := by
  unfold segE at h ⊢
  rw [List.length_take, List.length_drop] at h
  refine ⟨?_, by omega⟩
  unfold nth
  rw [List.getD_eq_getElem?_getD, List.getD_eq_getElem?_getD, List.getElem?_take, if_pos (by omega), List.getElem?_drop]
/-- so many parts are needed -/
theorem parts_all {size n : Int} (h : ¬ eachS size = 0) (h0 : 0 ≤ n) (h1 : n ≤ 256) : 1 ≤ partsS size n ∧ partsS size n ≤ 60 ∧ n ≤ partsS size n * eachS size ∧ (partsS size n - 1) * eachS size ≤ n ∧ (0 < n → (partsS size n - 1) * eachS size < n) ∧ 5 ≤ eachS size ∧ eachS size ≤ 14 ∧ 128 ≤ size ∧ size ≤ 256 := by
  have hb := eachS_bd size
  have hs : ¬ (size < 128 ∨ 256 < size) := fun hc => h (by unfold eachS; rw [if_pos hc])
  obtain ⟨e1, e2⟩ := each_pos hs
  rw [← e1] at e2
  unfold partsS
  rw [if_neg (show ¬ (eachS size = 0 ∨ n < 0) by omega)]
  generalize eachS size = e at *
  have hd := Int.emod_add_mul_ediv n e
  have hm0 := Int.emod_nonneg n (show e ≠ 0 by omega)
  have hm1 := Int.emod_lt_of_pos n (show 0 < e by omega)
  have hq0 := Int.ediv_nonneg h0 (show 0 ≤ e by omega)
  have hq1 : 5 * (n / e) ≤ e * (n / e) := Int.mul_le_mul_of_nonneg_right e2 hq0
  have c1 : e * (n / e) = (n / e) * e := Int.mul_comm _ _
  split
  · rename_i hc
    have x1 : (n / e + 1) * e = (n / e) * e + e := by rw [Int.add_mul, Int.one_mul]
    rw [show n / e + 1 - 1 = n / e by omega, x1]
    have hpos : 0 < n → n / e * e < n := fun hn => by
      rcases hc with h2 | h2
      · omega
      · rw [h2] at c1 hd ⊢
        omega
    exact ⟨by omega, by omega, by omega, by omega, hpos, by omega, by omega, by omega, by omega⟩
  · rename_i hc
    have hc : n % e = 0 ∧ ¬ n / e = 0 := by
      constructor
      · rcases Classical.em (n % e = 0) with h2 | h2
        · exact h2
        · exact absurd (.inl h2) hc
      · exact fun h2 => hc (.inr h2)
    have x1 : (n / e - 1) * e = (n / e) * e - e := by rw [Int.sub_mul, Int.one_mul]
    rw [x1]
    exact ⟨by omega, by omega, by omega, by omega, fun _ => by omega, by omega, by omega, by omega, by omega⟩
set_option maxRecDepth 10000 in
set_option maxHeartbeats 1000000 in
theorem cut_no (size : Int) (name : List UInt8) (es : List Ent) (hn : name.length ≤ 1000) (he : es.length ≤ 1000) (hok : okC size name es = false) : Con Tryd.prog 8 [.lit (.int .i64 size), .lit (.string (strOf name)), .snap (slF encEn es)] [] (fun az hz => az = .tup [.lit (.slice none 0 0), .snap (errF 68 (2))] ∧ hz = []) := by
  refine con_of hT Tryd.func8 rfl rfl rfl rfl rfl rfl ?_
  intro c
  have hT := hT
  have hZ := hZ
  have hsz := strOf_size name
  repeat' (first | refine a_seq ?_ | refine ar_step ?_ | refine a_block ?_ | refine a_skip ?_ | refine a_exit ?_ | refine a_ret ?_ | refine a_label ?_ | refine a_scope ?_ | refine a_region ?_ | refine a_region_U' rfl (by kernel_rfl) (by kernel_rfl) (by kernel_rfl) (by kernel_rfl) (by assumption) (by assumption) rfl ?_ | refine a_region_tailN rfl rfl (by kernel_rfl) (by kernel_rfl) (by kernel_rfl) (by kernel_rfl) (by assumption) rfl rfl ?_ | refine a_region_tailA rfl rfl (by kernel_rfl) (by kernel_rfl) (by kernel_rfl) (by kernel_rfl) (by assumption) rfl rfl rfl ?_ | refine a_region_tail rfl (by kernel_rfl) (by kernel_rfl) (by kernel_rfl) (by kernel_rfl) ?_ | refine a_region_tailR rfl (by kernel_rfl) (by kernel_rfl) (by kernel_rfl) (by kernel_rfl) ?_ | refine a_region_any (by kernel_rfl) (by kernel_rfl) (by kernel_rfl) ?_ | refine at_normal ?_ | refine at_exit ?_ | refine at_ret ?_ | refine ab_normal ?_ | refine ab_ret ?_ | refine ab_same ?_ | refine ab_other rfl ?_ | refine ao_nil ?_ | refine EvK.nil ?_ | refine EvU.nil ?_ | refine EvU.alloc rfl rfl ?_ | refine EvU.store rfl rfl rfl rfl rfl (by first | exact .un rfl (by first | assumption | exact And.left (by assumption)) | exact .of rfl) rfl rfl rfl rfl rfl ?_ | refine tailA_k rfl rfl ?_ | refine tailA_k trivial rfl ?_ | refine tailA_k trivial (by kernel_rfl) ?_ | (refine a_cond rfl (fun hb => ?_) (fun hb => ?_) <;> (try simp only [reduceCtorEq, bne_self_eq_false, not_true_eq_false, not_false_eq_true, or_self, and_false, false_and, or_true, true_or, or_false, false_or, and_true, true_and, and_self, decide_eq_true_eq, decide_eq_false_iff_not, Bool.and_eq_true, Bool.or_eq_true, Bool.or_eq_false_iff, Bool.and_eq_false_iff, Bool.not_eq_true', Bool.not_eq_false', Bool.not_true, Bool.not_false, ne_eq, Classical.not_not, Nat.not_lt, Int.not_lt, Int.not_le] at hb) <;> (try (exfalso; omega)) <;> (try exact (bool_ft hb (by assumption)).elim) <;> (try exact (bool_ft (by assumption) hb).elim)) | refine ao_alloc' (next := ?_) | refine ao_box' (next := ?_) | refine ao_store (next := ?_) | refine ao_store_own (next := ?_) | refine ao_store_ownR (next := ?_) | refine ao_append_same (next := ?_) | refine ao_append_nil (next := ?_) | refine ao_append_new (next := ?_) | refine ao_mkErr (next := ?_) | refine ao_clip (next := ?_) | refine ao_store_arr (next := ?_) | ((first | (apply ao_op rfl rfl (.plain rfl ?_) ?_; rotate_left) | (apply EvK.cons rfl (.plain rfl ?_) ?_; rotate_left) | (apply EvU.plain rfl rfl rfl ?_ ?_; rotate_left) | (apply ao_op rfl rfl (.guard rfl rfl rfl fun hg => ?_) ?_; rotate_right) | (apply ao_op rfl rfl (.guardw rfl rfl rfl fun hg => ?_) ?_; rotate_right) | (apply EvK.cons rfl (.guard rfl rfl rfl fun hg => ?_) ?_; rotate_right) | (apply EvK.cons rfl (.guardw rfl rfl rfl fun hg => ?_) ?_; rotate_right)); (try (have hg2 := hg; simp only [reduceCtorEq, bne_self_eq_false, not_true_eq_false, not_false_eq_true, or_self, and_false, false_and, or_true, true_or, or_false, false_or, and_true, true_and, and_self, decide_eq_true_eq, decide_eq_false_iff_not, Bool.and_eq_true, Bool.or_eq_true, Bool.or_eq_false_iff, Bool.and_eq_false_iff, Bool.not_eq_true', Bool.not_eq_false', Bool.not_true, Bool.not_false, ne_eq, Classical.not_not, Nat.not_lt, Int.not_lt, Int.not_le] at hg2)); (first | exact sop_bx | (apply sop_callC (each_con _) <;> first | exact sd | (simp only [List.length_append, List.length_cons, List.length_nil, List.length_set, List.length_replicate, List.length_take, List.length_drop, List.length_map, List.length_drop, List.length_take]; omega)) | (apply sop_callC (may_con _ ?_) <;> first | exact sd | (simp only [List.length_append, List.length_cons, List.length_nil, List.length_set, List.length_replicate, List.length_take, List.length_drop, List.length_map, List.length_drop, List.length_take]; omega)) | (apply sop_callC (may_e _ ?_) <;> first | exact sd | (simp only [List.length_append, List.length_cons, List.length_nil, List.length_set, List.length_replicate, List.length_take, List.length_drop, List.length_map, List.length_drop, List.length_take]; omega)) | (apply sop_callN (swrong_con _ ?_) <;> first | exact sd | (simp only [List.length_append, List.length_cons, List.length_nil, List.length_set, List.length_replicate, List.length_take, List.length_drop, List.length_map, List.length_drop, List.length_take]; omega)) | exact sop_std | exact sop_false (by revert hg; decide) | fail)))
  · first | refine aend0 (by first | exact .inl rfl | exact .inr rfl) []  (by repeat (first | exact covL_nil | refine covL_dup rfl ?_ | refine covL_cons rfl rfl ?_)) ?_ | refine aend1 (by first | exact .inl rfl | exact .inr rfl) [] (by first | exact .tmp rfl | exact .cell rfl rfl rfl rfl rfl | exact .cellA rfl rfl rfl rfl rfl) (by repeat (first | exact covL_nil | refine covL_dup rfl ?_ | refine covL_cons rfl rfl ?_)) ?_ | refine aend2 (by first | exact .inl rfl | exact .inr rfl) [] (by first | exact .tmp rfl | exact .cell rfl rfl rfl rfl rfl | exact .cellA rfl rfl rfl rfl rfl) (by first | exact .tmp rfl | exact .cell rfl rfl rfl rfl rfl | exact .cellA rfl rfl rfl rfl rfl) (by repeat (first | exact covL_nil | refine covL_dup rfl ?_ | refine covL_cons rfl rfl ?_)) ?_ | refine aend3 (by first | exact .inl rfl | exact .inr rfl) [] (by first | exact .tmp rfl | exact .cell rfl rfl rfl rfl rfl | exact .cellA rfl rfl rfl rfl rfl) (by first | exact .tmp rfl | exact .cell rfl rfl rfl rfl rfl | exact .cellA rfl rfl rfl rfl rfl) (by first | exact .tmp rfl | exact .cell rfl rfl rfl rfl rfl | exact .cellA rfl rfl rfl rfl rfl) (by repeat (first | exact covL_nil | refine covL_dup rfl ?_ | refine covL_cons rfl rfl ?_)) ?_
    exact ⟨rfl, rfl⟩
  · exfalso
    unfold okC at hok
    rw [decide_eq_false hb.1.1, hb.1.2, hb.2] at hok
    cases hok
set_option maxRecDepth 10000 in
set_option maxHeartbeats 2000000 in
theorem cut_ok (size : Int) (name : List UInt8) (es : List Ent) (ha : ∀ k, k < es.length → 0 ≤ (nth es k).addr ∧ (nth es k).addr < 18446744073709551616) (hok : okC size name es = true) : Con Tryd.prog 8 [.lit (.int .i64 size), .lit (.string (strOf name)), .snap (slF encEn es)] [] (fun az hz => az = .tup [.own 1009, .lit .nilIface] ∧ hz = [(1009, .own 38 encP (cutL size name es))]) := by
  refine con_of hT Tryd.func8 rfl rfl rfl rfl rfl rfl ?_
  intro c
  have hT := hT
  have hZ := hZ
  have hsz := strOf_size name
  unfold okC at hok
  simp only [Bool.and_eq_true, Bool.not_eq_true', decide_eq_false_iff_not] at hok
  obtain ⟨⟨c1, c2⟩, c3⟩ := hok
  have c4 : es.length ≤ 256 := by
    unfold mayE at c3
    simp only [Bool.and_eq_true, decide_eq_true_eq] at c3
    exact c3.1
  have hn := may_36 c2
  obtain ⟨p1, p2, p3, p4, p5, p6, p7, p8, p9⟩ := parts_all (n := es.length) c1 (by omega) (by omega)
  have hoe := may_okE c3 ha
  repeat' (first | refine a_seq ?_ | refine ar_step ?_ | refine a_block ?_ | refine a_skip ?_ | refine a_exit ?_ | refine a_ret ?_ | refine a_label ?_ | refine a_scope ?_ | refine a_region ?_ | refine a_region_U' rfl (by kernel_rfl) (by kernel_rfl) (by kernel_rfl) (by kernel_rfl) (by assumption) (by assumption) rfl ?_ | refine a_region_tailN rfl rfl (by kernel_rfl) (by kernel_rfl) (by kernel_rfl) (by kernel_rfl) (by assumption) rfl rfl ?_ | refine a_region_tailA rfl rfl (by kernel_rfl) (by kernel_rfl) (by kernel_rfl) (by kernel_rfl) (by assumption) rfl rfl rfl ?_ | refine a_region_tail rfl (by kernel_rfl) (by kernel_rfl) (by kernel_rfl) (by kernel_rfl) ?_ | refine a_region_tailR rfl (by kernel_rfl) (by kernel_rfl) (by kernel_rfl) (by kernel_rfl) ?_ | refine a_region_any (by kernel_rfl) (by kernel_rfl) (by kernel_rfl) ?_ | refine at_normal ?_ | refine at_exit ?_ | refine at_ret ?_ | refine ab_normal ?_ | refine ab_ret ?_ | refine ab_same ?_ | refine ab_other rfl ?_ | refine ao_nil ?_ | refine EvK.nil ?_ | refine EvU.nil ?_ | refine EvU.alloc rfl rfl ?_ | refine EvU.store rfl rfl rfl rfl rfl (by first | exact .un rfl (by first | assumption | exact And.left (by assumption)) | exact .of rfl) rfl rfl rfl rfl rfl ?_ | refine tailA_k rfl rfl ?_ | refine tailA_k trivial rfl ?_ | refine tailA_k trivial (by kernel_rfl) ?_ | (refine a_cond rfl (fun hb => ?_) (fun hb => ?_) <;> (try simp only [reduceCtorEq, bne_self_eq_false, not_true_eq_false, not_false_eq_true, or_self, and_false, false_and, or_true, true_or, or_false, false_or, and_true, true_and, and_self, decide_eq_true_eq, decide_eq_false_iff_not, Bool.and_eq_true, Bool.or_eq_true, Bool.or_eq_false_iff, Bool.and_eq_false_iff, Bool.not_eq_true', Bool.not_eq_false', Bool.not_true, Bool.not_false, ne_eq, Classical.not_not, Nat.not_lt, Int.not_lt, Int.not_le] at hb) <;> (try (exfalso; omega)) <;> (try exact (bool_ft hb (by assumption)).elim) <;> (try exact (bool_ft (by assumption) hb).elim)) | refine ao_alloc' (next := ?_) | refine ao_box' (next := ?_) | refine ao_store (next := ?_) | refine ao_store_own (next := ?_) | refine ao_store_ownR (next := ?_) | refine ao_append_same (next := ?_) | refine ao_append_nil (next := ?_) | refine ao_append_new (next := ?_) | refine ao_mkErr (next := ?_) | refine ao_clip (next := ?_) | refine ao_store_arr (next := ?_) | ((first | (apply ao_op rfl rfl (.plain rfl ?_) ?_; rotate_left) | (apply EvK.cons rfl (.plain rfl ?_) ?_; rotate_left) | (apply EvU.plain rfl rfl rfl ?_ ?_; rotate_left) | (apply ao_op rfl rfl (.guard rfl rfl rfl fun hg => ?_) ?_; rotate_right) | (apply ao_op rfl rfl (.guardw rfl rfl rfl fun hg => ?_) ?_; rotate_right) | (apply EvK.cons rfl (.guard rfl rfl rfl fun hg => ?_) ?_; rotate_right) | (apply EvK.cons rfl (.guardw rfl rfl rfl fun hg => ?_) ?_; rotate_right)); (try (have hg2 := hg; simp only [reduceCtorEq, bne_self_eq_false, not_true_eq_false, not_false_eq_true, or_self, and_false, false_and, or_true, true_or, or_false, false_or, and_true, true_and, and_self, decide_eq_true_eq, decide_eq_false_iff_not, Bool.and_eq_true, Bool.or_eq_true, Bool.or_eq_false_iff, Bool.and_eq_false_iff, Bool.not_eq_true', Bool.not_eq_false', Bool.not_true, Bool.not_false, ne_eq, Classical.not_not, Nat.not_lt, Int.not_lt, Int.not_le] at hg2)); (first | exact sop_bx | (apply sop_callC (each_con _) <;> first | exact sd | (simp only [List.length_append, List.length_cons, List.length_nil, List.length_set, List.length_replicate, List.length_take, List.length_drop, List.length_map, List.length_drop, List.length_take]; omega)) | (apply sop_callC (may_con _ ?_) <;> first | exact sd | (simp only [List.length_append, List.length_cons, List.length_nil, List.length_set, List.length_replicate, List.length_take, List.length_drop, List.length_map, List.length_drop, List.length_take]; omega)) | (apply sop_callC (may_e _ ?_) <;> first | exact sd | (simp only [List.length_append, List.length_cons, List.length_nil, List.length_set, List.length_replicate, List.length_take, List.length_drop, List.length_map, List.length_drop, List.length_take]; omega)) | (apply sop_callC (parts_con _ _ ?_ ?_) <;> first | exact sd | (simp only [List.length_append, List.length_cons, List.length_nil, List.length_set, List.length_replicate, List.length_take, List.length_drop, List.length_map, List.length_drop, List.length_take]; omega)) | (apply sop_callN (hld2) <;> first | exact sd | (simp only [List.length_append, List.length_cons, List.length_nil, List.length_set, List.length_replicate, List.length_take, List.length_drop, List.length_map, List.length_drop, List.length_take]; omega)) | exact sop_buildSlice (E := encP) | exact sop_std | exact sop_false (by revert hg; decide) | fail)))
  · exfalso
    rcases hb with (h | h) | h
    · exact c1 h
    · rw [c2] at h; cases h
    · rw [c3] at h; cases h
  refine a_ownNil 9 38 encP 1009 rfl rfl rfl ?_
  refine a_loop (ι := Nat) (fun k => [(32, .lit (.int .i64 (k : Int))), (9, .own 1009)]) (fun k => [(1009, .own 38 encP (gen (cutP size name es) k))]) (fun k => (k : Int) ≤ partsS size es.length) (fun k => (partsS size es.length).toNat - k) 0 (by omega) ?_ ?_
  · (refine ⟨?_, ?_⟩ <;> repeat (first | exact covL_nil | refine covL_dup rfl ?_ | refine covL_cons rfl rfl ?_ | refine covL_cons rfl (cov_int rfl (by omega)) ?_))
  intro k hk
  have hgl := gen_len (cutP size name es) k
  by_cases hkl : (k : Int) < partsS size es.length
  · have m1 : (k : Int) * eachS size ≤ (partsS size es.length - 1) * eachS size := Int.mul_le_mul_of_nonneg_right (by omega) (by omega)
    have m0 : 0 ≤ (k : Int) * eachS size := Int.mul_nonneg (by omega) (by omega)
    have m2 : ((k : Int) + 1) * eachS size = (k : Int) * eachS size + eachS size := by rw [Int.add_mul, Int.one_mul]
    have m3 : ((k * eS size : Nat) : Int) = (k : Int) * eachS size := by
      unfold eS
      rw [Int.natCast_mul, Int.toNat_of_nonneg (by omega)]
    have hsl : (segE size es k).length ≤ eS size := by unfold segE; rw [List.length_take]; omega
    have hse : (eS size : Int) = eachS size := by unfold eS; omega
    have eeq := each_pos (n := size) (by omega)
    have hld := con_frz (laid_con size (k : Int) (partsS size es.length) name (segE size es k) (by omega) (by omega) hn (by omega) (by omega) (fun j hj => by
      obtain ⟨n1, n2⟩ := nth_seg hj
      rw [n1]
      exact hoe _ n2)) _ rfl
    have hsg : List.drop ((k : Int) * eachS size).toNat (List.take (if (es.length : Int) < ((k : Int) + 1) * eachS size then (es.length : Int) else ((k : Int) + 1) * eachS size).toNat es) = segE size es k := by
      unfold segE
      rw [show ((k : Int) * eachS size).toNat = k * eS size by omega, List.drop_take]
      split
      · rw [List.take_of_length_le (by rw [List.length_drop]; omega), List.take_of_length_le (by rw [List.length_drop]; omega)]
      · congr 1
        omega
    have hld2 : Con Tryd.prog 25 [.lit (.int .i64 size), .lit (.int .i64 (k : Int)), .lit (.int .i64 (partsS size es.length)), .lit (.string (strOf name)), .snap (slF encEn (List.drop ((k : Int) * eachS size).toNat (List.take (if (es.length : Int) < ((k : Int) + 1) * eachS size then (es.length : Int) else ((k : Int) + 1) * eachS size).toNat es)))] [] (fun a h => a = .snap (slF encU (cutP size name es k)) ∧ h = []) := by
      rw [hsg]
      exact hld
    repeat' (first | refine a_seq ?_ | refine ar_step ?_ | refine a_block ?_ | refine a_skip ?_ | refine a_exit ?_ | refine a_ret ?_ | refine a_label ?_ | refine a_scope ?_ | refine a_region ?_ | refine a_region_U' rfl (by kernel_rfl) (by kernel_rfl) (by kernel_rfl) (by kernel_rfl) (by assumption) (by assumption) rfl ?_ | refine a_region_tailN rfl rfl (by kernel_rfl) (by kernel_rfl) (by kernel_rfl) (by kernel_rfl) (by assumption) rfl rfl ?_ | refine a_region_tailA rfl rfl (by kernel_rfl) (by kernel_rfl) (by kernel_rfl) (by kernel_rfl) (by assumption) rfl rfl rfl ?_ | refine a_region_tail rfl (by kernel_rfl) (by kernel_rfl) (by kernel_rfl) (by kernel_rfl) ?_ | refine a_region_tailR rfl (by kernel_rfl) (by kernel_rfl) (by kernel_rfl) (by kernel_rfl) ?_ | refine a_region_any (by kernel_rfl) (by kernel_rfl) (by kernel_rfl) ?_ | refine at_normal ?_ | refine at_exit ?_ | refine at_ret ?_ | refine ab_normal ?_ | refine ab_ret ?_ | refine ab_same ?_ | refine ab_other rfl ?_ | refine ao_nil ?_ | refine EvK.nil ?_ | refine EvU.nil ?_ | refine EvU.alloc rfl rfl ?_ | refine EvU.store rfl rfl rfl rfl rfl (by first | exact .un rfl (by first | assumption | exact And.left (by assumption)) | exact .of rfl) rfl rfl rfl rfl rfl ?_ | refine tailA_k rfl rfl ?_ | refine tailA_k trivial rfl ?_ | refine tailA_k trivial (by kernel_rfl) ?_ | (refine a_cond rfl (fun hb => ?_) (fun hb => ?_) <;> (try simp only [reduceCtorEq, bne_self_eq_false, not_true_eq_false, not_false_eq_true, or_self, and_false, false_and, or_true, true_or, or_false, false_or, and_true, true_and, and_self, decide_eq_true_eq, decide_eq_false_iff_not, Bool.and_eq_true, Bool.or_eq_true, Bool.or_eq_false_iff, Bool.and_eq_false_iff, Bool.not_eq_true', Bool.not_eq_false', Bool.not_true, Bool.not_false, ne_eq, Classical.not_not, Nat.not_lt, Int.not_lt, Int.not_le] at hb) <;> (try (exfalso; omega)) <;> (try exact (bool_ft hb (by assumption)).elim) <;> (try exact (bool_ft (by assumption) hb).elim)) | refine ao_alloc' (next := ?_) | refine ao_box' (next := ?_) | refine ao_store (next := ?_) | refine ao_store_own (next := ?_) | refine ao_store_ownR (next := ?_) | refine ao_append_same (next := ?_) | refine ao_append_nil (next := ?_) | refine ao_append_new (next := ?_) | refine ao_mkErr (next := ?_) | refine ao_clip (next := ?_) | refine ao_store_arr (next := ?_) | ((first | (apply ao_op rfl rfl (.plain rfl ?_) ?_; rotate_left) | (apply EvK.cons rfl (.plain rfl ?_) ?_; rotate_left) | (apply EvU.plain rfl rfl rfl ?_ ?_; rotate_left) | (apply ao_op rfl rfl (.guard rfl rfl rfl fun hg => ?_) ?_; rotate_right) | (apply ao_op rfl rfl (.guardw rfl rfl rfl fun hg => ?_) ?_; rotate_right) | (apply EvK.cons rfl (.guard rfl rfl rfl fun hg => ?_) ?_; rotate_right) | (apply EvK.cons rfl (.guardw rfl rfl rfl fun hg => ?_) ?_; rotate_right)); (try (have hg2 := hg; simp only [reduceCtorEq, bne_self_eq_false, not_true_eq_false, not_false_eq_true, or_self, and_false, false_and, or_true, true_or, or_false, false_or, and_true, true_and, and_self, decide_eq_true_eq, decide_eq_false_iff_not, Bool.and_eq_true, Bool.or_eq_true, Bool.or_eq_false_iff, Bool.and_eq_false_iff, Bool.not_eq_true', Bool.not_eq_false', Bool.not_true, Bool.not_false, ne_eq, Classical.not_not, Nat.not_lt, Int.not_lt, Int.not_le] at hg2)); (first | exact sop_bx | (apply sop_callC (each_con _) <;> first | exact sd | (simp only [List.length_append, List.length_cons, List.length_nil, List.length_set, List.length_replicate, List.length_take, List.length_drop, List.length_map, List.length_drop, List.length_take]; omega)) | (apply sop_callC (may_con _ ?_) <;> first | exact sd | (simp only [List.length_append, List.length_cons, List.length_nil, List.length_set, List.length_replicate, List.length_take, List.length_drop, List.length_map, List.length_drop, List.length_take]; omega)) | (apply sop_callC (may_e _ ?_) <;> first | exact sd | (simp only [List.length_append, List.length_cons, List.length_nil, List.length_set, List.length_replicate, List.length_take, List.length_drop, List.length_map, List.length_drop, List.length_take]; omega)) | (apply sop_callC (parts_con _ _ ?_ ?_) <;> first | exact sd | (simp only [List.length_append, List.length_cons, List.length_nil, List.length_set, List.length_replicate, List.length_take, List.length_drop, List.length_map, List.length_drop, List.length_take]; omega)) | (apply sop_callN (hld2) <;> first | exact sd | (simp only [List.length_append, List.length_cons, List.length_nil, List.length_set, List.length_replicate, List.length_take, List.length_drop, List.length_map, List.length_drop, List.length_take]; omega)) | exact sop_buildSlice (E := encP) | exact sop_std | exact sop_false (by revert hg; decide) | fail)))
    refine ⟨k + 1, by omega, by omega, ?_⟩
    rw [gen_succ]
    (refine ⟨?_, ?_⟩ <;> repeat (first | exact covL_nil | refine covL_dup rfl ?_ | refine covL_cons rfl rfl ?_ | refine covL_cons rfl (cov_int rfl (by omega)) ?_))
  · have ek : (partsS size es.length).toNat = k := by omega
    repeat' (first | refine a_seq ?_ | refine ar_step ?_ | refine a_block ?_ | refine a_skip ?_ | refine a_exit ?_ | refine a_ret ?_ | refine a_label ?_ | refine a_scope ?_ | refine a_region ?_ | refine a_region_U' rfl (by kernel_rfl) (by kernel_rfl) (by kernel_rfl) (by kernel_rfl) (by assumption) (by assumption) rfl ?_ | refine a_region_tailN rfl rfl (by kernel_rfl) (by kernel_rfl) (by kernel_rfl) (by kernel_rfl) (by assumption) rfl rfl ?_ | refine a_region_tailA rfl rfl (by kernel_rfl) (by kernel_rfl) (by kernel_rfl) (by kernel_rfl) (by assumption) rfl rfl rfl ?_ | refine a_region_tail rfl (by kernel_rfl) (by kernel_rfl) (by kernel_rfl) (by kernel_rfl) ?_ | refine a_region_tailR rfl (by kernel_rfl) (by kernel_rfl) (by kernel_rfl) (by kernel_rfl) ?_ | refine a_region_any (by kernel_rfl) (by kernel_rfl) (by kernel_rfl) ?_ | refine at_normal ?_ | refine at_exit ?_ | refine at_ret ?_ | refine ab_normal ?_ | refine ab_ret ?_ | refine ab_same ?_ | refine ab_other rfl ?_ | refine ao_nil ?_ | refine EvK.nil ?_ | refine EvU.nil ?_ | refine EvU.alloc rfl rfl ?_ | refine EvU.store rfl rfl rfl rfl rfl (by first | exact .un rfl (by first | assumption | exact And.left (by assumption)) | exact .of rfl) rfl rfl rfl rfl rfl ?_ | refine tailA_k rfl rfl ?_ | refine tailA_k trivial rfl ?_ | refine tailA_k trivial (by kernel_rfl) ?_ | (refine a_cond rfl (fun hb => ?_) (fun hb => ?_) <;> (try simp only [reduceCtorEq, bne_self_eq_false, not_true_eq_false, not_false_eq_true, or_self, and_false, false_and, or_true, true_or, or_false, false_or, and_true, true_and, and_self, decide_eq_true_eq, decide_eq_false_iff_not, Bool.and_eq_true, Bool.or_eq_true, Bool.or_eq_false_iff, Bool.and_eq_false_iff, Bool.not_eq_true', Bool.not_eq_false', Bool.not_true, Bool.not_false, ne_eq, Classical.not_not, Nat.not_lt, Int.not_lt, Int.not_le] at hb) <;> (try (exfalso; omega)) <;> (try exact (bool_ft hb (by assumption)).elim) <;> (try exact (bool_ft (by assumption) hb).elim)) | refine ao_alloc' (next := ?_) | refine ao_box' (next := ?_) | refine ao_store (next := ?_) | refine ao_store_own (next := ?_) | refine ao_store_ownR (next := ?_) | refine ao_append_same (next := ?_) | refine ao_append_nil (next := ?_) | refine ao_append_new (next := ?_) | refine ao_mkErr (next := ?_) | refine ao_clip (next := ?_) | refine ao_store_arr (next := ?_) | ((first | (apply ao_op rfl rfl (.plain rfl ?_) ?_; rotate_left) | (apply EvK.cons rfl (.plain rfl ?_) ?_; rotate_left) | (apply EvU.plain rfl rfl rfl ?_ ?_; rotate_left) | (apply ao_op rfl rfl (.guard rfl rfl rfl fun hg => ?_) ?_; rotate_right) | (apply ao_op rfl rfl (.guardw rfl rfl rfl fun hg => ?_) ?_; rotate_right) | (apply EvK.cons rfl (.guard rfl rfl rfl fun hg => ?_) ?_; rotate_right) | (apply EvK.cons rfl (.guardw rfl rfl rfl fun hg => ?_) ?_; rotate_right)); (try (have hg2 := hg; simp only [reduceCtorEq, bne_self_eq_false, not_true_eq_false, not_false_eq_true, or_self, and_false, false_and, or_true, true_or, or_false, false_or, and_true, true_and, and_self, decide_eq_true_eq, decide_eq_false_iff_not, Bool.and_eq_true, Bool.or_eq_true, Bool.or_eq_false_iff, Bool.and_eq_false_iff, Bool.not_eq_true', Bool.not_eq_false', Bool.not_true, Bool.not_false, ne_eq, Classical.not_not, Nat.not_lt, Int.not_lt, Int.not_le] at hg2)); (first | exact sop_bx | (apply sop_callC (each_con _) <;> first | exact sd | (simp only [List.length_append, List.length_cons, List.length_nil, List.length_set, List.length_replicate, List.length_take, List.length_drop, List.length_map, List.length_drop, List.length_take]; omega)) | (apply sop_callC (may_con _ ?_) <;> first | exact sd | (simp only [List.length_append, List.length_cons, List.length_nil, List.length_set, List.length_replicate, List.length_take, List.length_drop, List.length_map, List.length_drop, List.length_take]; omega)) | (apply sop_callC (may_e _ ?_) <;> first | exact sd | (simp only [List.length_append, List.length_cons, List.length_nil, List.length_set, List.length_replicate, List.length_take, List.length_drop, List.length_map, List.length_drop, List.length_take]; omega)) | (apply sop_callC (parts_con _ _ ?_ ?_) <;> first | exact sd | (simp only [List.length_append, List.length_cons, List.length_nil, List.length_set, List.length_replicate, List.length_take, List.length_drop, List.length_map, List.length_drop, List.length_take]; omega)) | (apply sop_callN (hld2) <;> first | exact sd | (simp only [List.length_append, List.length_cons, List.length_nil, List.length_set, List.length_replicate, List.length_take, List.length_drop, List.length_map, List.length_drop, List.length_take]; omega)) | exact sop_buildSlice (E := encP) | exact sop_std | exact sop_false (by revert hg; decide) | fail)))
    first | refine aend0 (by first | exact .inl rfl | exact .inr rfl) [(1009, .own 38 encP (gen (cutP size name es) k))]  (by repeat (first | exact covL_nil | refine covL_dup rfl ?_ | refine covL_cons rfl rfl ?_)) ?_ | refine aend1 (by first | exact .inl rfl | exact .inr rfl) [(1009, .own 38 encP (gen (cutP size name es) k))] (by first | exact .tmp rfl | exact .cell rfl rfl rfl rfl rfl | exact .cellA rfl rfl rfl rfl rfl) (by repeat (first | exact covL_nil | refine covL_dup rfl ?_ | refine covL_cons rfl rfl ?_)) ?_ | refine aend2 (by first | exact .inl rfl | exact .inr rfl) [(1009, .own 38 encP (gen (cutP size name es) k))] (by first | exact .tmp rfl | exact .cell rfl rfl rfl rfl rfl | exact .cellA rfl rfl rfl rfl rfl) (by first | exact .tmp rfl | exact .cell rfl rfl rfl rfl rfl | exact .cellA rfl rfl rfl rfl rfl) (by repeat (first | exact covL_nil | refine covL_dup rfl ?_ | refine covL_cons rfl rfl ?_)) ?_ | refine aend3 (by first | exact .inl rfl | exact .inr rfl) [(1009, .own 38 encP (gen (cutP size name es) k))] (by first | exact .tmp rfl | exact .cell rfl rfl rfl rfl rfl | exact .cellA rfl rfl rfl rfl rfl) (by first | exact .tmp rfl | exact .cell rfl rfl rfl rfl rfl | exact .cellA rfl rfl rfl rfl rfl) (by first | exact .tmp rfl | exact .cell rfl rfl rfl rfl rfl | exact .cellA rfl rfl rfl rfl rfl) (by repeat (first | exact covL_nil | refine covL_dup rfl ?_ | refine covL_cons rfl rfl ?_)) ?_
    refine ⟨rfl, ?_⟩
    unfold cutL
    rw [ek]
end Go.Proofs.YtgdkeafdlehlaaaDoor
