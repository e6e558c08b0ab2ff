/- MishapCounts, walked. -/
import Derived.Test.YthingfifkiphnaaA7g
namespace Go.Proofs.Ythingfifkiphnaa
open Go Go.RowKit
set_option linter.unusedVariables false
set_option linter.unusedSimpArgs false

def encI : Enc Int := ⟨1, fun n => [.lit (.int .i64 n)], fun _ => rfl, fun _ => rfl, fun _ => rfl, fun l => match l with
  | [.lit (.int _ a)] => a
  | _ => 0⟩
def bitk (x : Int) (k : Nat) : Int := bits .and .i64 (x.fdiv (2 ^ (min ((k : Int)).toNat IntKind.i64.bits))) 1
theorem i64_and1 (n : Int) : bits .and .i64 n 1 = n % 2 := by
  have h1 : (BitVec.ofInt 64 1).toNat = 2 ^ 1 - 1 := by decide
  have key : (BitVec.ofInt 64 n &&& BitVec.ofInt 64 1).toNat = (n % ((2 ^ 64 : Nat) : Int)).toNat % 2 ^ 1 := by
    rw [BitVec.toNat_and, BitVec.toNat_ofInt, h1, Nat.and_two_pow_sub_one_eq_mod]
  show IntKind.i64.wrap ((BitVec.ofInt 64 n &&& BitVec.ofInt 64 1).toNat : Nat) = n % 2
  rw [key, IntKind.wrap_i64]
  omega
theorem bitk_bd (x : Int) (k : Nat) : 0 ≤ bitk x k ∧ bitk x k ≤ 1 := by
  unfold bitk
  rw [i64_and1]
  omega
structure CSt where
  k : Nat
  ys : List Mis
  at_ : Int
  upto : Int
  dk : Int
structure CGood (gaps : List Int) (n : Int) (s : CSt) : Prop where
  k : s.k ≤ gaps.length
  len : s.ys.length = s.k
  at0 : 0 ≤ s.at_
  at1 : s.at_ ≤ 20 * s.k
  one : ∀ m ∈ s.ys, m.one = true ∧ m.at_ ≤ s.at_
  inc : s.ys.Pairwise (fun a b => a.at_ < b.at_)
  last : s.k = 0 ∧ s.at_ = 0 ∨ ∃ x ∈ s.ys, x.at_ = s.at_
  upto : s.upto + (afterM n s.ys).length = s.ys.length
  up0 : 0 ≤ s.upto
  dk : s.dk = (darks s.ys : Int)
def cnext (n : Int) (s : CSt) (g b : Int) : CSt := ⟨s.k + 1, s.ys ++ [⟨s.at_ + 1 + g, 1 + b, 0, 0⟩], s.at_ + 1 + g, if s.at_ + 1 + g ≤ n then s.upto + 1 else s.upto, s.dk + b⟩
theorem cgood_next {gaps : List Int} {n : Int} {s : CSt} (h : CGood gaps n s) (hk : s.k < gaps.length) (hl : gaps.length ≤ 20) {g b : Int} (hg : 0 ≤ g ∧ g < 20) (hb : 0 ≤ b ∧ b ≤ 1) : CGood gaps n (cnext n s g b) := by
  have h1 := h.at1
  have h0 := h.at0
  refine ⟨hk, by simp [cnext, h.len], by show 0 ≤ s.at_ + 1 + g; omega, by show s.at_ + 1 + g ≤ 20 * ((s.k + 1 : Nat) : Int); omega, ?_, ?_, .inr ⟨_, List.mem_append_right _ (List.mem_singleton.2 rfl), rfl⟩, ?_, ?_, ?_⟩
  · intro m hm
    rcases List.mem_append.1 hm with hm | hm
    · have := h.one m hm
      refine ⟨this.1, ?_⟩
      have := this.2
      show m.at_ ≤ s.at_ + 1 + g
      omega
    · rw [List.mem_singleton] at hm
      subst hm
      refine ⟨?_, Int.le_refl _⟩
      simp only [Mis.one, Bool.and_eq_true, Bool.or_eq_true, decide_eq_true_eq]
      omega
  · show (s.ys ++ [_]).Pairwise _
    rw [List.pairwise_append]
    refine ⟨h.inc, by simp, ?_⟩
    intro x hx y hy
    rw [List.mem_singleton] at hy
    subst hy
    have := (h.one x hx).2
    show x.at_ < s.at_ + 1 + g
    omega
  · have hu := h.upto
    show (if s.at_ + 1 + g ≤ n then s.upto + 1 else s.upto) + ((afterM n (s.ys ++ [_])).length : Int) = ((s.ys ++ [_]).length : Int)
    unfold afterM at hu ⊢
    rw [List.filter_append, List.length_append, List.length_append]
    by_cases hn : s.at_ + 1 + g ≤ n
    · have : ¬ n < s.at_ + 1 + g := by omega
      simp [hn, this]
      omega
    · have : n < s.at_ + 1 + g := by omega
      simp [hn, this]
      omega
  · have := h.up0
    show 0 ≤ (if s.at_ + 1 + g ≤ n then s.upto + 1 else s.upto)
    split <;> omega
  · have hd := h.dk
    show s.dk + b = (darks (s.ys ++ [_]) : Int)
    rw [darks_append, hd]
    have : (darks [(⟨s.at_ + 1 + g, 1 + b, 0, 0⟩ : Mis)] : Int) = b := by
      unfold darks
      rcases (show b = 0 ∨ b = 1 by omega) with rfl | rfl <;> simp
    omega
theorem cgood_may {gaps : List Int} {n : Int} {s : CSt} (h : CGood gaps n s) (hl : gaps.length ≤ 20) : may s.ys = true := by
  rw [may_iff]
  have := h.k; have := h.len
  exact ⟨fun m hm => (h.one m hm).1, h.inc, by omega⟩
theorem cgood_more {gaps : List Int} {n : Int} {s : CSt} (h : CGood gaps n s) (v : Int) (hv : v ≤ s.at_) : may (s.ys ++ [⟨v, 2, 0, 0⟩]) = false := by
  rw [Bool.eq_false_iff]
  intro hm
  rw [may_iff] at hm
  obtain ⟨h1, h2, _⟩ := hm
  rw [List.pairwise_append] at h2
  have h3 := h1 ⟨v, 2, 0, 0⟩ (List.mem_append_right _ (List.mem_singleton.2 rfl))
  simp only [Mis.one, Bool.and_eq_true, Bool.or_eq_true, decide_eq_true_eq] at h3
  rcases h.last with ⟨_, h0⟩ | ⟨x, hx, h0⟩
  · omega
  · have := h2.2.2 x hx ⟨v, 2, 0, 0⟩ (List.mem_singleton.2 rfl)
    simp only at this
    omega
theorem cgood_behind {gaps : List Int} {n : Int} {s : CSt} (h : CGood gaps n s) (hl : gaps.length ≤ 20) : may (s.ys ++ [⟨s.at_ + 1, 1, 65536, 0⟩]) = true := by
  have := h.k; have := h.len; have h0 := h.at0; have h1 := h.at1
  rw [may_iff]
  refine ⟨?_, ?_, by simp; omega⟩
  · intro m hm
    rcases List.mem_append.1 hm with hm | hm
    · exact (h.one m hm).1
    · rw [List.mem_singleton] at hm
      subst hm
      simp [Mis.one]
      omega
  · rw [List.pairwise_append]
    refine ⟨h.inc, by simp, ?_⟩
    intro x hx y hy
    rw [List.mem_singleton] at hy
    subst hy
    have := (h.one x hx).2
    show x.at_ < s.at_ + 1
    omega
set_option maxRecDepth 10000 in
set_option maxHeartbeats 1000000 in
theorem counts_con (gaps : List Int) (kinds n : Int) (hl : gaps.length ≤ 9223372036854775807) : Con Try.prog 5 [.snap (slF encI gaps), .lit (.int .i64 kinds), .lit (.int .i64 n)] [] (fun az hz => az = .lit (.bool true) ∧ hz = []) := by
  refine con_of hT Try.func5 rfl rfl rfl rfl rfl rfl ?_
  intro c
  have hT := hT
  have hZ := hZ
  repeat' (first | refine a_seq ?_ | refine a_block ?_ | refine a_skip ?_ | refine a_exit ?_ | refine a_ret ?_ | refine a_label ?_ | refine a_scope ?_ | refine a_region ?_ | refine a_region_any (by kernel_rfl) (by kernel_rfl) (by kernel_rfl) ?_ | refine at_normal ?_ | refine at_exit ?_ | refine at_ret ?_ | refine ab_normal ?_ | refine ab_ret ?_ | refine ab_same ?_ | refine ab_other rfl ?_ | refine ao_nil ?_ | refine EvK.nil ?_ | (refine a_cond rfl (fun hb => ?_) (fun hb => ?_) <;> (try simp only [decide_eq_true_eq, decide_eq_false_iff_not, Bool.and_eq_true, Bool.or_eq_true, Bool.or_eq_false_iff, Bool.and_eq_false_iff, Bool.not_eq_true', Bool.not_eq_false', Bool.not_true, Bool.not_false, ne_eq, Classical.not_not, Nat.not_lt, Int.not_lt, Int.not_le] at hb) <;> (try (exfalso; omega))) | (apply ao_callO (after_con _ _ ?_) <;> first | omega | (simp only [List.length_append, List.length_cons, List.length_nil]; omega) | skip) | refine ao_alloc' (next := ?_) | refine ao_box' (next := ?_) | refine ao_store (next := ?_) | refine ao_store_own (next := ?_) | refine ao_store_ownR (next := ?_) | refine ao_append_same (next := ?_) | refine ao_append_nil (next := ?_) | refine ao_append_new (next := ?_) | ((first | (apply ao_op rfl rfl (.plain rfl ?_) ?_; rotate_left) | (apply EvK.cons rfl (.plain rfl ?_) ?_; rotate_left) | (apply ao_op rfl rfl (.guard rfl rfl rfl fun hg => ?_) ?_; rotate_right; try (have hg2 := hg; simp only [decide_eq_true_eq, decide_eq_false_iff_not, Bool.and_eq_true, Bool.or_eq_true, Bool.or_eq_false_iff, Bool.and_eq_false_iff, Bool.not_eq_true', Bool.not_eq_false', Bool.not_true, Bool.not_false, ne_eq, Classical.not_not, Nat.not_lt, Int.not_lt, Int.not_le] at hg2)) | (apply ao_op rfl rfl (.guardw rfl rfl rfl fun hg => ?_) ?_; rotate_right; try (have hg2 := hg; simp only [decide_eq_true_eq, decide_eq_false_iff_not, Bool.and_eq_true, Bool.or_eq_true, Bool.or_eq_false_iff, Bool.and_eq_false_iff, Bool.not_eq_true', Bool.not_eq_false', Bool.not_true, Bool.not_false, ne_eq, Classical.not_not, Nat.not_lt, Int.not_lt, Int.not_le] at hg2)) | (apply EvK.cons rfl (.guard rfl rfl rfl fun hg => ?_) ?_; rotate_right; try (have hg2 := hg; simp only [decide_eq_true_eq, decide_eq_false_iff_not, Bool.and_eq_true, Bool.or_eq_true, Bool.or_eq_false_iff, Bool.and_eq_false_iff, Bool.not_eq_true', Bool.not_eq_false', Bool.not_true, Bool.not_false, ne_eq, Classical.not_not, Nat.not_lt, Int.not_lt, Int.not_le] at hg2)) | (apply EvK.cons rfl (.guardw rfl rfl rfl fun hg => ?_) ?_; rotate_right; try (have hg2 := hg; simp only [decide_eq_true_eq, decide_eq_false_iff_not, Bool.and_eq_true, Bool.or_eq_true, Bool.or_eq_false_iff, Bool.and_eq_false_iff, Bool.not_eq_true', Bool.not_eq_false', Bool.not_true, Bool.not_false, ne_eq, Classical.not_not, Nat.not_lt, Int.not_lt, Int.not_le] at hg2))); (first | (apply sop_callC (same_con _ _ ?_ ?_) <;> first | rfl | omega | (simp only [List.length_append, List.length_cons, List.length_nil]; omega)) | (apply sop_callC (may_con _ ?_) <;> first | rfl | omega | (simp only [List.length_append, List.length_cons, List.length_nil]; omega)) | (apply sop_callC (rmay_con _ ?_) <;> first | rfl | omega | (simp only [List.length_append, List.length_cons, List.length_nil]; omega)) | (apply sop_callC (darks_con _ ?_) <;> first | rfl | omega | (simp only [List.length_append, List.length_cons, List.length_nil]; omega)) | (apply sop_callC (rdarks_con _ ?_) <;> first | rfl | omega | (simp only [List.length_append, List.length_cons, List.length_nil]; omega)) | (apply sop_callC (at_con _ _ ?_) <;> first | rfl | omega | (simp only [List.length_append, List.length_cons, List.length_nil]; omega)) | (apply sop_callC (rat_con _ _ ?_) <;> first | rfl | omega | (simp only [List.length_append, List.length_cons, List.length_nil]; omega)) | (apply sop_callOC (after_con _ _ ?_) <;> first | rfl | omega | (simp only [List.length_append, List.length_cons, List.length_nil]; omega)) | (apply sop_callOC (rafter_con _ _ ?_) <;> first | rfl | omega | (simp only [List.length_append, List.length_cons, List.length_nil]; omega)) | (apply sop_callC (low_con _ _ ?_ ?_) <;> first | rfl | omega | (simp only [List.length_append, List.length_cons, List.length_nil]; omega)) | exact sop_eql_struct (ks := [.int .i64, .int .i64, .int .i64, .int .u8]) | exact sop_neq_struct (ks := [.int .i64, .int .i64, .int .i64, .int .u8]) | exact sop_buildSlice (E := encMis) | (apply sop_callC (awake_con) <;> first | rfl | omega | (simp only [List.length_append, List.length_cons, List.length_nil]; omega)) | exact sop_move | exact sop_assign | exact sop_pick_or | exact sop_pick_and | exact sop_add_in | exact sop_sub_in | exact sop_mul_in | exact sop_add_u64in | exact sop_sub_u64in | exact sop_add_u8 | exact sop_add | exact sop_sub | exact sop_mul | exact sop_lss | exact sop_leq | exact sop_gtr | exact sop_geq | exact sop_eql | exact sop_neq | exact sop_eqlb | exact sop_neqb | exact sop_not | exact sop_conv_i64 | exact sop_conv_u64in | exact sop_conv_u64 | exact sop_conv_u8in | exact sop_conv_u8 | exact sop_conv_u32in | exact sop_conv | exact sop_len_snap | exact sop_len_own | exact sop_len_lit | exact sop_len_str | exact sop_field_ptr | exact sop_field_place | exact sop_load_place | exact sop_load_place_agg | exact sop_load_box | exact sop_load_box_agg | exact sop_index_snap | exact sop_index_snapZ | exact sop_index_own | exact sop_index_ownZ | exact sop_load_own | exact sop_load_own1 | exact sop_load_own_agg | exact sop_extract | exact sop_rem_in | exact sop_quo_in | exact sop_rem | exact sop_quo | exact sop_shr_in | exact sop_shr | exact sop_shl | exact sop_and | exact sop_or | exact sop_xor | exact sop_neg | exact sop_min2 | exact sop_max2 | exact sop_build | exact sop_fieldv | exact sop_fieldv_agg | exact sop_eql_struct | exact sop_neq_struct | exact sop_buildSlice | exact sop_slice_snap)))
  · first | refine aend0 (by first | exact .inl rfl | exact .inr rfl) []  (by repeat (first | exact covL_nil | refine covL_dup rfl ?_ | refine covL_cons rfl rfl ?_)) ?_ | refine aend1 (by first | exact .inl rfl | exact .inr rfl) [] (by first | exact .tmp rfl | exact .cell rfl rfl rfl rfl rfl | exact .cellA rfl rfl rfl rfl rfl) (by repeat (first | exact covL_nil | refine covL_dup rfl ?_ | refine covL_cons rfl rfl ?_)) ?_ | refine aend2 (by first | exact .inl rfl | exact .inr rfl) [] (by first | exact .tmp rfl | exact .cell rfl rfl rfl rfl rfl | exact .cellA rfl rfl rfl rfl rfl) (by first | exact .tmp rfl | exact .cell rfl rfl rfl rfl rfl | exact .cellA rfl rfl rfl rfl rfl) (by repeat (first | exact covL_nil | refine covL_dup rfl ?_ | refine covL_cons rfl rfl ?_)) ?_ | refine aend3 (by first | exact .inl rfl | exact .inr rfl) [] (by first | exact .tmp rfl | exact .cell rfl rfl rfl rfl rfl | exact .cellA rfl rfl rfl rfl rfl) (by first | exact .tmp rfl | exact .cell rfl rfl rfl rfl rfl | exact .cellA rfl rfl rfl rfl rfl) (by first | exact .tmp rfl | exact .cell rfl rfl rfl rfl rfl | exact .cellA rfl rfl rfl rfl rfl) (by repeat (first | exact covL_nil | refine covL_dup rfl ?_ | refine covL_cons rfl rfl ?_)) ?_
    exact ⟨rfl, rfl⟩
  · refine a_ownNil 7 25 encMis 1007 rfl rfl rfl ?_
    refine a_loop (ι := CSt) (fun s => [(11, .lit (.int .i64 (s.k : Int))), (10, .lit (.int .i64 s.dk)), (9, .lit (.int .i64 s.upto)), (8, .lit (.int .i64 s.at_)), (7, .own 1007)]) (fun s => [(1007, .own 25 encMis s.ys)]) (CGood gaps (low n 300)) (fun s => gaps.length - s.k) ⟨0, [], 0, 0, 0⟩ ⟨by show 0 ≤ _; omega, rfl, Int.le_refl _, by show (0 : Int) ≤ 20 * 0; omega, by simp, by simp, .inl ⟨rfl, rfl⟩, rfl, Int.le_refl _, rfl⟩ ?_ ?_
    · (refine ⟨?_, ?_⟩ <;> repeat (first | exact covL_nil | refine covL_dup rfl ?_ | refine covL_cons rfl rfl ?_ | refine covL_cons rfl (cov_int rfl (by omega)) ?_))
    rintro s hs
    have h1 := hs.k; have h2 := hs.len; have h3 := hs.at0; have h4 := hs.at1; have h5 := hs.upto; have h6 := hs.up0; have h7 := hs.dk
    have h8 := darks_le s.ys
    have hbk := bitk_bd kinds s.k
    have hlo := low_bd (nth gaps s.k) (show (1 : Int) ≤ 20 by omega)
    have hn := low_bd n (show (1 : Int) ≤ 300 by omega)
    have hnx := fun h hl => cgood_next hs (g := low (nth gaps s.k) 20) (b := bitk kinds s.k) h hl hlo hbk
    unfold bitk at hbk
    repeat' (first | refine a_seq ?_ | refine a_block ?_ | refine a_skip ?_ | refine a_exit ?_ | refine a_ret ?_ | refine a_label ?_ | refine a_scope ?_ | refine a_region ?_ | refine a_region_any (by kernel_rfl) (by kernel_rfl) (by kernel_rfl) ?_ | refine at_normal ?_ | refine at_exit ?_ | refine at_ret ?_ | refine ab_normal ?_ | refine ab_ret ?_ | refine ab_same ?_ | refine ab_other rfl ?_ | refine ao_nil ?_ | refine EvK.nil ?_ | (refine a_cond rfl (fun hb => ?_) (fun hb => ?_) <;> (try simp only [decide_eq_true_eq, decide_eq_false_iff_not, Bool.and_eq_true, Bool.or_eq_true, Bool.or_eq_false_iff, Bool.and_eq_false_iff, Bool.not_eq_true', Bool.not_eq_false', Bool.not_true, Bool.not_false, ne_eq, Classical.not_not, Nat.not_lt, Int.not_lt, Int.not_le] at hb) <;> (try (exfalso; omega))) | (apply ao_callO (after_con _ _ ?_) <;> first | omega | (simp only [List.length_append, List.length_cons, List.length_nil]; omega) | skip) | refine ao_alloc' (next := ?_) | refine ao_box' (next := ?_) | refine ao_store (next := ?_) | refine ao_store_own (next := ?_) | refine ao_store_ownR (next := ?_) | refine ao_append_same (next := ?_) | refine ao_append_nil (next := ?_) | refine ao_append_new (next := ?_) | ((first | (apply ao_op rfl rfl (.plain rfl ?_) ?_; rotate_left) | (apply EvK.cons rfl (.plain rfl ?_) ?_; rotate_left) | (apply ao_op rfl rfl (.guard rfl rfl rfl fun hg => ?_) ?_; rotate_right; try (have hg2 := hg; simp only [decide_eq_true_eq, decide_eq_false_iff_not, Bool.and_eq_true, Bool.or_eq_true, Bool.or_eq_false_iff, Bool.and_eq_false_iff, Bool.not_eq_true', Bool.not_eq_false', Bool.not_true, Bool.not_false, ne_eq, Classical.not_not, Nat.not_lt, Int.not_lt, Int.not_le] at hg2)) | (apply ao_op rfl rfl (.guardw rfl rfl rfl fun hg => ?_) ?_; rotate_right; try (have hg2 := hg; simp only [decide_eq_true_eq, decide_eq_false_iff_not, Bool.and_eq_true, Bool.or_eq_true, Bool.or_eq_false_iff, Bool.and_eq_false_iff, Bool.not_eq_true', Bool.not_eq_false', Bool.not_true, Bool.not_false, ne_eq, Classical.not_not, Nat.not_lt, Int.not_lt, Int.not_le] at hg2)) | (apply EvK.cons rfl (.guard rfl rfl rfl fun hg => ?_) ?_; rotate_right; try (have hg2 := hg; simp only [decide_eq_true_eq, decide_eq_false_iff_not, Bool.and_eq_true, Bool.or_eq_true, Bool.or_eq_false_iff, Bool.and_eq_false_iff, Bool.not_eq_true', Bool.not_eq_false', Bool.not_true, Bool.not_false, ne_eq, Classical.not_not, Nat.not_lt, Int.not_lt, Int.not_le] at hg2)) | (apply EvK.cons rfl (.guardw rfl rfl rfl fun hg => ?_) ?_; rotate_right; try (have hg2 := hg; simp only [decide_eq_true_eq, decide_eq_false_iff_not, Bool.and_eq_true, Bool.or_eq_true, Bool.or_eq_false_iff, Bool.and_eq_false_iff, Bool.not_eq_true', Bool.not_eq_false', Bool.not_true, Bool.not_false, ne_eq, Classical.not_not, Nat.not_lt, Int.not_lt, Int.not_le] at hg2))); (first | (apply sop_callC (same_con _ _ ?_ ?_) <;> first | rfl | omega | (simp only [List.length_append, List.length_cons, List.length_nil]; omega)) | (apply sop_callC (may_con _ ?_) <;> first | rfl | omega | (simp only [List.length_append, List.length_cons, List.length_nil]; omega)) | (apply sop_callC (rmay_con _ ?_) <;> first | rfl | omega | (simp only [List.length_append, List.length_cons, List.length_nil]; omega)) | (apply sop_callC (darks_con _ ?_) <;> first | rfl | omega | (simp only [List.length_append, List.length_cons, List.length_nil]; omega)) | (apply sop_callC (rdarks_con _ ?_) <;> first | rfl | omega | (simp only [List.length_append, List.length_cons, List.length_nil]; omega)) | (apply sop_callC (at_con _ _ ?_) <;> first | rfl | omega | (simp only [List.length_append, List.length_cons, List.length_nil]; omega)) | (apply sop_callC (rat_con _ _ ?_) <;> first | rfl | omega | (simp only [List.length_append, List.length_cons, List.length_nil]; omega)) | (apply sop_callOC (after_con _ _ ?_) <;> first | rfl | omega | (simp only [List.length_append, List.length_cons, List.length_nil]; omega)) | (apply sop_callOC (rafter_con _ _ ?_) <;> first | rfl | omega | (simp only [List.length_append, List.length_cons, List.length_nil]; omega)) | (apply sop_callC (low_con _ _ ?_ ?_) <;> first | rfl | omega | (simp only [List.length_append, List.length_cons, List.length_nil]; omega)) | exact sop_eql_struct (ks := [.int .i64, .int .i64, .int .i64, .int .u8]) | exact sop_neq_struct (ks := [.int .i64, .int .i64, .int .i64, .int .u8]) | exact sop_buildSlice (E := encMis) | (apply sop_callC (awake_con) <;> first | rfl | omega | (simp only [List.length_append, List.length_cons, List.length_nil]; omega)) | exact sop_move | exact sop_assign | exact sop_pick_or | exact sop_pick_and | exact sop_add_in | exact sop_sub_in | exact sop_mul_in | exact sop_add_u64in | exact sop_sub_u64in | exact sop_add_u8 | exact sop_add | exact sop_sub | exact sop_mul | exact sop_lss | exact sop_leq | exact sop_gtr | exact sop_geq | exact sop_eql | exact sop_neq | exact sop_eqlb | exact sop_neqb | exact sop_not | exact sop_conv_i64 | exact sop_conv_u64in | exact sop_conv_u64 | exact sop_conv_u8in | exact sop_conv_u8 | exact sop_conv_u32in | exact sop_conv | exact sop_len_snap | exact sop_len_own | exact sop_len_lit | exact sop_len_str | exact sop_field_ptr | exact sop_field_place | exact sop_load_place | exact sop_load_place_agg | exact sop_load_box | exact sop_load_box_agg | exact sop_index_snap | exact sop_index_snapZ | exact sop_index_own | exact sop_index_ownZ | exact sop_load_own | exact sop_load_own1 | exact sop_load_own_agg | exact sop_extract | exact sop_rem_in | exact sop_quo_in | exact sop_rem | exact sop_quo | exact sop_shr_in | exact sop_shr | exact sop_shl | exact sop_and | exact sop_or | exact sop_xor | exact sop_neg | exact sop_min2 | exact sop_max2 | exact sop_build | exact sop_fieldv | exact sop_fieldv_agg | exact sop_eql_struct | exact sop_neq_struct | exact sop_buildSlice | exact sop_slice_snap)))
    · refine ⟨_, hnx (by omega) (by omega), by show gaps.length - (s.k + 1) < _; omega, ?_⟩
      unfold cnext bitk
      rw [if_pos (by assumption)]
      (refine ⟨?_, ?_⟩ <;> repeat (first | exact covL_nil | refine covL_dup rfl ?_ | refine covL_cons rfl rfl ?_ | refine covL_cons rfl (cov_int rfl (by omega)) ?_))
    · refine ⟨_, hnx (by omega) (by omega), by show gaps.length - (s.k + 1) < _; omega, ?_⟩
      unfold cnext bitk
      rw [if_neg (by omega)]
      (refine ⟨?_, ?_⟩ <;> repeat (first | exact covL_nil | refine covL_dup rfl ?_ | refine covL_cons rfl rfl ?_ | refine covL_cons rfl (cov_int rfl (by omega)) ?_))
    · have hlw := low_bd (low n 300) (show (1 : Int) ≤ s.at_ + 1 by omega)
      have e1 := cgood_may hs (by omega)
      have e2 := cgood_more hs (low (low n 300) (s.at_ + 1)) (by omega)
      have e3 := cgood_behind hs (by omega)
      have e4 := darks_after (low n 300) s.ys
      have e5 : darks (s.ys ++ [⟨low (low n 300) (s.at_ + 1), 2, 0, 0⟩]) = darks s.ys + 1 := by
        rw [darks_append]; simp [darks]
      have d1 : decide (((afterM (low n 300) s.ys).length : Int) = (s.ys.length : Int) - s.upto) = true := decide_eq_true (by omega)
      have d2 : decide ((darks s.ys : Int) = s.dk) = true := decide_eq_true (by omega)
      have d3 : decide ((darks (afterM (low n 300) s.ys) : Int) ≤ s.dk) = true := decide_eq_true (by omega)
      have d4 : decide ((darks (s.ys ++ [⟨low (low n 300) (s.at_ + 1), 2, 0, 0⟩]) : Int) = s.dk + 1) = true := decide_eq_true (by omega)
      first | refine aend0 (by first | exact .inl rfl | exact .inr rfl) []  (by repeat (first | exact covL_nil | refine covL_dup rfl ?_ | refine covL_cons rfl rfl ?_)) ?_ | refine aend1 (by first | exact .inl rfl | exact .inr rfl) [] (by first | exact .tmp rfl | exact .cell rfl rfl rfl rfl rfl | exact .cellA rfl rfl rfl rfl rfl) (by repeat (first | exact covL_nil | refine covL_dup rfl ?_ | refine covL_cons rfl rfl ?_)) ?_ | refine aend2 (by first | exact .inl rfl | exact .inr rfl) [] (by first | exact .tmp rfl | exact .cell rfl rfl rfl rfl rfl | exact .cellA rfl rfl rfl rfl rfl) (by first | exact .tmp rfl | exact .cell rfl rfl rfl rfl rfl | exact .cellA rfl rfl rfl rfl rfl) (by repeat (first | exact covL_nil | refine covL_dup rfl ?_ | refine covL_cons rfl rfl ?_)) ?_ | refine aend3 (by first | exact .inl rfl | exact .inr rfl) [] (by first | exact .tmp rfl | exact .cell rfl rfl rfl rfl rfl | exact .cellA rfl rfl rfl rfl rfl) (by first | exact .tmp rfl | exact .cell rfl rfl rfl rfl rfl | exact .cellA rfl rfl rfl rfl rfl) (by first | exact .tmp rfl | exact .cell rfl rfl rfl rfl rfl | exact .cellA rfl rfl rfl rfl rfl) (by repeat (first | exact covL_nil | refine covL_dup rfl ?_ | refine covL_cons rfl rfl ?_)) ?_
      refine ⟨?_, rfl⟩
      show AV.lit (.bool (may s.ys && !may (s.ys ++ [⟨low (low n 300) (s.at_ + 1), 2, 0, 0⟩]) && may (s.ys ++ [⟨s.at_ + 1, 1, 65536, 0⟩]) && decide (((afterM (low n 300) s.ys).length : Int) = (s.ys.length : Int) - s.upto) && decide ((darks s.ys : Int) = s.dk) && decide ((darks (afterM (low n 300) s.ys) : Int) ≤ s.dk) && decide ((darks (s.ys ++ [⟨low (low n 300) (s.at_ + 1), 2, 0, 0⟩]) : Int) = s.dk + 1) && true)) = _
      rw [e1, e2, e3, d1, d2, d3, d4]
      rfl
end Go.Proofs.Ythingfifkiphnaa
