/- WordsBack, walked. -/
import Derived.Test.YtgiicfjibngooaaDoorKq
import Derived.Test.YtgiicfjibngooaaDoorEb
import Derived.Test.YtgiicfjibngooaaDoorKg
namespace Go.Proofs.YtgiicfjibngooaaDoor
open Go Go.RowKit
set_option linter.unusedVariables false
set_option linter.unusedSimpArgs false
attribute [local irreducible] ACode AOps AThen ABlock ACut
def okB (b : UInt8) : Bool := b == 32 || b == 45 || (decide (48 ≤ b.toNat) && decide (b.toNat ≤ 57)) || (decide (97 ≤ b.toNat) && decide (b.toNat ≤ 122))
theorem okB_hd : ∀ d : Fin 16, okB (hd d.val) = true := by decide +kernel
theorem okB_great : ∀ n : Fin 256, 65 ≤ n.val → n.val ≤ 90 → okB (UInt8.ofNat n.val) = false := by decide +kernel
theorem okB_hx (n : Nat) : ∀ b ∈ hx n, okB b = true := by
  intro b hb
  unfold hx at hb
  simp only [List.mem_cons] at hb
  rcases hb with rfl | rfl | hb
  · decide
  · decide
  · obtain ⟨d, hd', rfl⟩ := hexL_mem n n (Nat.le_refl _) b hb
    exact okB_hd ⟨d, hd'⟩
theorem okB_data (d : List UInt8) : ∀ b ∈ dataL d, okB b = true := by
  intro b hb
  unfold dataL at hb
  split at hb
  · simp at hb; subst hb; decide
  · unfold dgs at hb
    obtain ⟨x, _, hx2⟩ := List.mem_flatMap.1 hb
    have := x.toNat_lt
    simp only [List.mem_cons, List.not_mem_nil, or_false] at hx2
    rcases hx2 with rfl | rfl
    · exact okB_hd ⟨x.toNat / 16, by omega⟩
    · exact okB_hd ⟨x.toNat % 16, by omega⟩
theorem okB_ito : ∀ m : Fin 65, ∀ b ∈ itoU (m.val : Int), okB b = true := by decide +kernel
theorem okB_say (c : Cmd) (h : okC c = true) : ∀ b ∈ sayL c, okB b = true := by
  intro b hb
  cases c with
  | no => exact absurd h (by decide)
  | dirty a d =>
    simp only [sayL, List.mem_append] at hb
    rcases hb with ((hb | hb) | hb) | hb | hb
    · exact (show ∀ b ∈ ([100, 105, 114, 116, 121] : List UInt8), okB b = true by decide) b hb
    · exact (show ∀ b ∈ ([32] : List UInt8), okB b = true by decide) b hb
    · exact okB_hx a b hb
    · exact (show ∀ b ∈ ([32] : List UInt8), okB b = true by decide) b hb
    · exact okB_data d b hb
  | fill a d =>
    simp only [sayL, List.mem_append] at hb
    rcases hb with ((hb | hb) | hb) | hb | hb
    · exact (show ∀ b ∈ ([102, 105, 108, 108] : List UInt8), okB b = true by decide) b hb
    · exact (show ∀ b ∈ ([32] : List UInt8), okB b = true by decide) b hb
    · exact okB_hx a b hb
    · exact (show ∀ b ∈ ([32] : List UInt8), okB b = true by decide) b hb
    · exact okB_data d b hb
  | rd a =>
    simp only [sayL, List.mem_append] at hb
    rcases hb with ((hb | hb) | hb)
    · exact (show ∀ b ∈ ([114, 101, 97, 100] : List UInt8), okB b = true by decide) b hb
    · exact (show ∀ b ∈ ([32] : List UInt8), okB b = true by decide) b hb
    · exact okB_hx a b hb
  | evict a =>
    simp only [sayL, List.mem_append] at hb
    rcases hb with ((hb | hb) | hb)
    · exact (show ∀ b ∈ ([101, 118, 105, 99, 116] : List UInt8), okB b = true by decide) b hb
    · exact (show ∀ b ∈ ([32] : List UInt8), okB b = true by decide) b hb
    · exact okB_hx a b hb
  | clean a =>
    simp only [sayL, List.mem_append] at hb
    rcases hb with ((hb | hb) | hb)
    · exact (show ∀ b ∈ ([99, 108, 101, 97, 110] : List UInt8), okB b = true by decide) b hb
    · exact (show ∀ b ∈ ([32] : List UInt8), okB b = true by decide) b hb
    · exact okB_hx a b hb
  | exi a m =>
    simp only [sayL, List.mem_append] at hb
    rcases hb with ((hb | hb) | hb) | hb | hb
    · exact (show ∀ b ∈ ([101, 120, 105, 115, 116, 115] : List UInt8), okB b = true by decide) b hb
    · exact (show ∀ b ∈ ([32] : List UInt8), okB b = true by decide) b hb
    · exact okB_hx a b hb
    · exact (show ∀ b ∈ ([32] : List UInt8), okB b = true by decide) b hb
    · have h5 : 0 ≤ m ∧ m ≤ 64 := by simpa [okC] using h
      have := okB_ito ⟨m.toNat, by omega⟩
      simp only [show ((m.toNat : Nat) : Int) = m by omega] at this
      exact this b hb
/-- with a letter turned great it is not said -/
theorem great_no (l : List UInt8) (k : Nat) (hk : k < l.length) (h0 : 97 ≤ (nth l k).toNat) (h1 : (nth l k).toNat ≤ 122) : ∀ c, okC c = true → okA c → l.set k (nth l k - 32) ≠ sayL c := by
  intro c hc _ e
  have hm : (nth l k - 32) ∈ l.set k (nth l k - 32) := List.mem_set hk _
  rw [e] at hm
  have h2 := okB_say c hc _ hm
  have hs : (nth l k - 32).toNat = (nth l k).toNat - 32 := by
    have hle : (32 : UInt8) ≤ nth l k := by show (32 : Nat) ≤ (nth l k).toNat; omega
    rw [UInt8.toNat_sub_of_le _ _ hle]; rfl
  have h3 := okB_great ⟨(nth l k).toNat - 32, by omega⟩ (by show 65 ≤ _ - 32; omega) (by show _ - 32 ≤ 90; omega)
  rw [show UInt8.ofNat ((nth l k).toNat - 32) = nth l k - 32 by rw [← hs]; simp] at h3
  rw [h3] at h2
  cases h2
theorem cnt_0 {l : List UInt8} (h : ∀ b ∈ l, b ≠ 32) : l.count 32 = 0 := List.count_eq_zero.2 (fun hm => h 32 hm rfl)
theorem cnt_say (c : Cmd) (h : okC c = true) : (sayL c).count 32 = (wordsC c).length - 1 := by
  cases c with
  | no => exact absurd h (by decide)
  | dirty a d =>
    simp only [sayL, List.count_append, cnt_0 (hx_no a), cnt_0 (data_no d)]
    rfl
  | fill a d =>
    simp only [sayL, List.count_append, cnt_0 (hx_no a), cnt_0 (data_no d)]
    rfl
  | rd a =>
    simp only [sayL, List.count_append, cnt_0 (hx_no a)]
    rfl
  | evict a =>
    simp only [sayL, List.count_append, cnt_0 (hx_no a)]
    rfl
  | clean a =>
    simp only [sayL, List.count_append, cnt_0 (hx_no a)]
    rfl
  | exi a m =>
    have h5 : 0 ≤ m ∧ m ≤ 64 := by simpa [okC] using h
    have hi := itoU_no ⟨m.toNat, by omega⟩
    simp only [show ((m.toNat : Nat) : Int) = m by omega] at hi
    simp only [sayL, List.count_append, cnt_0 (hx_no a), cnt_0 hi]
    rfl
theorem blank_hd {x y x' y' : UInt8} {r r' : List UInt8} (k : Nat) (e : (x :: y :: r).take k ++ [32] ++ (x :: y :: r).drop k = x' :: y' :: r') : 32 = x' ∨ (x = x' ∧ (32 = y' ∨ y = y')) := by
  match k, e with
  | 0, e => exact .inl (List.cons.inj e).1
  | 1, e => exact .inr ⟨(List.cons.inj e).1, .inl (List.cons.inj (List.cons.inj e).2).1⟩
  | k + 2, e => exact .inr ⟨(List.cons.inj e).1, .inr (List.cons.inj (List.cons.inj e).2).1⟩
/-- with a blank more it is not said -/
theorem blank_no (c : Cmd) (h : okC c = true) (k : Nat) : ∀ c', okC c' = true → okA c' → (sayL c).take k ++ [32] ++ (sayL c).drop k ≠ sayL c' := by
  intro c' h' _ e
  have h1 := congrArg (List.count (32 : UInt8)) e
  rw [List.count_append, List.count_append, cnt_say c' h', show List.count (32 : UInt8) [32] = 1 by decide] at h1
  have h2 : ((sayL c).take k).count 32 + ((sayL c).drop k).count 32 = (wordsC c).length - 1 := by
    rw [← List.count_append, List.take_append_drop, cnt_say c h]
  have h3 : (wordsC c').length - 1 = (wordsC c).length - 1 + 1 := by omega
  cases c with
  | no => exact absurd h (by decide)
  | dirty a1 d1 =>
    cases c' with
    | no => exact absurd h' (by decide)
    | dirty a2 d2 => exact absurd (show 3 - 1 = 3 - 1 + 1 from h3) (by decide)
    | fill a2 d2 => exact absurd (show 3 - 1 = 3 - 1 + 1 from h3) (by decide)
    | rd a2 => exact absurd (show 2 - 1 = 3 - 1 + 1 from h3) (by decide)
    | evict a2 => exact absurd (show 2 - 1 = 3 - 1 + 1 from h3) (by decide)
    | clean a2 => exact absurd (show 2 - 1 = 3 - 1 + 1 from h3) (by decide)
    | exi a2 m2 => exact absurd (show 3 - 1 = 3 - 1 + 1 from h3) (by decide)
  | fill a1 d1 =>
    cases c' with
    | no => exact absurd h' (by decide)
    | dirty a2 d2 => exact absurd (show 3 - 1 = 3 - 1 + 1 from h3) (by decide)
    | fill a2 d2 => exact absurd (show 3 - 1 = 3 - 1 + 1 from h3) (by decide)
    | rd a2 => exact absurd (show 2 - 1 = 3 - 1 + 1 from h3) (by decide)
    | evict a2 => exact absurd (show 2 - 1 = 3 - 1 + 1 from h3) (by decide)
    | clean a2 => exact absurd (show 2 - 1 = 3 - 1 + 1 from h3) (by decide)
    | exi a2 m2 => exact absurd (show 3 - 1 = 3 - 1 + 1 from h3) (by decide)
  | rd a1 =>
    cases c' with
    | no => exact absurd h' (by decide)
    | dirty a2 d2 => exact absurd (blank_hd (x := 114) (y := 101) (x' := 100) (y' := 105) k e) (by decide)
    | fill a2 d2 => exact absurd (blank_hd (x := 114) (y := 101) (x' := 102) (y' := 105) k e) (by decide)
    | rd a2 => exact absurd (show 2 - 1 = 2 - 1 + 1 from h3) (by decide)
    | evict a2 => exact absurd (show 2 - 1 = 2 - 1 + 1 from h3) (by decide)
    | clean a2 => exact absurd (show 2 - 1 = 2 - 1 + 1 from h3) (by decide)
    | exi a2 m2 => exact absurd (blank_hd (x := 114) (y := 101) (x' := 101) (y' := 120) k e) (by decide)
  | evict a1 =>
    cases c' with
    | no => exact absurd h' (by decide)
    | dirty a2 d2 => exact absurd (blank_hd (x := 101) (y := 118) (x' := 100) (y' := 105) k e) (by decide)
    | fill a2 d2 => exact absurd (blank_hd (x := 101) (y := 118) (x' := 102) (y' := 105) k e) (by decide)
    | rd a2 => exact absurd (show 2 - 1 = 2 - 1 + 1 from h3) (by decide)
    | evict a2 => exact absurd (show 2 - 1 = 2 - 1 + 1 from h3) (by decide)
    | clean a2 => exact absurd (show 2 - 1 = 2 - 1 + 1 from h3) (by decide)
    | exi a2 m2 => exact absurd (blank_hd (x := 101) (y := 118) (x' := 101) (y' := 120) k e) (by decide)
  | clean a1 =>
    cases c' with
    | no => exact absurd h' (by decide)
    | dirty a2 d2 => exact absurd (blank_hd (x := 99) (y := 108) (x' := 100) (y' := 105) k e) (by decide)
    | fill a2 d2 => exact absurd (blank_hd (x := 99) (y := 108) (x' := 102) (y' := 105) k e) (by decide)
    | rd a2 => exact absurd (show 2 - 1 = 2 - 1 + 1 from h3) (by decide)
    | evict a2 => exact absurd (show 2 - 1 = 2 - 1 + 1 from h3) (by decide)
    | clean a2 => exact absurd (show 2 - 1 = 2 - 1 + 1 from h3) (by decide)
    | exi a2 m2 => exact absurd (blank_hd (x := 99) (y := 108) (x' := 101) (y' := 120) k e) (by decide)
  | exi a1 m1 =>
    cases c' with
    | no => exact absurd h' (by decide)
    | dirty a2 d2 => exact absurd (show 3 - 1 = 3 - 1 + 1 from h3) (by decide)
    | fill a2 d2 => exact absurd (show 3 - 1 = 3 - 1 + 1 from h3) (by decide)
    | rd a2 => exact absurd (show 2 - 1 = 3 - 1 + 1 from h3) (by decide)
    | evict a2 => exact absurd (show 2 - 1 = 3 - 1 + 1 from h3) (by decide)
    | clean a2 => exact absurd (show 2 - 1 = 3 - 1 + 1 from h3) (by decide)
    | exi a2 m2 => exact absurd (show 3 - 1 = 3 - 1 + 1 from h3) (by decide)
theorem say_pos (c : Cmd) (h : okC c = true) : 1 ≤ (sayL c).length := by
  cases c with
  | no => exact absurd h (by decide)
  | dirty a d => simp only [sayL, List.length_append, List.length_cons, List.length_nil]; omega
  | fill a d => simp only [sayL, List.length_append, List.length_cons, List.length_nil]; omega
  | rd a => simp only [sayL, List.length_append, List.length_cons, List.length_nil]; omega
  | evict a => simp only [sayL, List.length_append, List.length_cons, List.length_nil]; omega
  | clean a => simp only [sayL, List.length_append, List.length_cons, List.length_nil]; omega
  | exi a m => simp only [sayL, List.length_append, List.length_cons, List.length_nil]; omega
theorem up_all : ∀ a : Fin 256, 97 ≤ a.val → a.val ≤ 122 → IntKind.u8.wrap ((a.val : Int) - 32) = ((UInt8.ofNat a.val - 32).toNat : Int) := by decide +kernel
theorem sop_up {P : Program} {fr : List (Nat × AV)} {H : List (Nat × Res)} {o : Oper} {x y : Operand} {t t' : TypeId} {u : UInt8} (ho : o.op = .binOp .sub t x y t' := by rfl) (hx : Opv fr x (.lit (.int .u8 (u.toNat : Int))) := by exact opv_std) (hy : Opv fr y (.lit (.int .u8 32)) := by exact opv_std) (h0 : 97 ≤ u.toNat := by omega) (h1 : u.toNat ≤ 122 := by omega) : SOp P o fr H (.lit (.int .u8 ((u - 32).toNat : Int))) :=
  sop_cast (sop_sub ho hx hy) (congrArg (fun r => Value.int .u8 r) (by
    have := up_all ⟨u.toNat, u.toNat_lt⟩ h0 h1
    simpa using this))
set_option maxRecDepth 10000 in
set_option maxHeartbeats 400000 in
theorem order_ptr (a : Nat) (ha : a < 18446744073709551616) : Con Tryd.prog 12 [.snap (ifF 53 (.snap (placeF [.lit (.int .u64 (a : Int))])))] [] (fun az hz => az = .tup [.agg [.lit (.int .i64 0), .lit (.int .u64 0), .lit (.slice none 0 0), .lit (.int .i64 0)], .lit (.bool (false))] ∧ hz = []) := by
  refine con_of hT Tryd.func12 rfl rfl rfl rfl rfl rfl ?_
  intro c
  have hT := hT
  have hZ := hZ
  repeat' (first | refine a_seq ?_ | refine ar_step ?_ | refine a_block ?_ | refine a_skip ?_ | refine a_exit ?_ | refine a_ret ?_ | refine a_label ?_ | refine a_scope ?_ | refine a_region ?_ | refine at_normal ?_ | refine at_exit ?_ | refine at_ret ?_ | refine ab_normal ?_ | refine ab_ret ?_ | refine ab_same ?_ | refine ab_other rfl ?_ | refine ao_nil ?_ | (refine a_cond rfl (fun hb => ?_) (fun hb => ?_) <;> (try simp only [reduceCtorEq, ne_eq, decs] at hb) <;> (try (exfalso; omega)) <;> (try exact (bool_ft hb (by assumption)).elim) <;> (try exact (bool_ft (by assumption) hb).elim)) | refine ao_alloc' (next := ?_) | refine ao_box' (next := ?_) | refine ao_store (next := ?_) | refine ao_store_own (next := ?_) | refine ao_store_ownR (next := ?_) | refine ao_append_same (next := ?_) | refine ao_append_nil (next := ?_) | refine ao_append_new (next := ?_) | refine ao_mkErr (next := ?_) | refine ao_clip (next := ?_) | refine ao_store_arr (next := ?_) | ((first | (apply ao_op rfl rfl (.plain rfl ?_) ?_; rotate_left)); (first | exact sop_ta_no | exact sop_std | fail)))
  first | refine aend0 (by first | exact .inl rfl | exact .inr rfl) []  (by repeat (first | exact covL_nil | refine covL_dup rfl ?_ | refine covL_cons rfl rfl ?_)) ?_ | refine aend1 (by first | exact .inl rfl | exact .inr rfl) [] (by first | exact .tmp rfl | exact .cell rfl rfl rfl rfl rfl | exact .cellA rfl rfl rfl rfl rfl) (by repeat (first | exact covL_nil | refine covL_dup rfl ?_ | refine covL_cons rfl rfl ?_)) ?_ | refine aend2 (by first | exact .inl rfl | exact .inr rfl) [] (by first | exact .tmp rfl | exact .cell rfl rfl rfl rfl rfl | exact .cellA rfl rfl rfl rfl rfl) (by first | exact .tmp rfl | exact .cell rfl rfl rfl rfl rfl | exact .cellA rfl rfl rfl rfl rfl) (by repeat (first | exact covL_nil | refine covL_dup rfl ?_ | refine covL_cons rfl rfl ?_)) ?_ | refine aend3 (by first | exact .inl rfl | exact .inr rfl) [] (by first | exact .tmp rfl | exact .cell rfl rfl rfl rfl rfl | exact .cellA rfl rfl rfl rfl rfl) (by first | exact .tmp rfl | exact .cell rfl rfl rfl rfl rfl | exact .cellA rfl rfl rfl rfl rfl) (by first | exact .tmp rfl | exact .cell rfl rfl rfl rfl rfl | exact .cellA rfl rfl rfl rfl rfl) (by repeat (first | exact covL_nil | refine covL_dup rfl ?_ | refine covL_cons rfl rfl ?_)) ?_
  exact ⟨rfl, rfl⟩
set_option maxRecDepth 10000 in
set_option maxHeartbeats 400000 in
theorem say_ptr (a : Nat) (ha : a < 18446744073709551616) : Con Tryd.prog 17 [.snap (ifF 53 (.snap (placeF [.lit (.int .u64 (a : Int))])))] [] (fun az hz => az = .tup [.lit (.string (strOf [])), .snap (errF 85 (2))] ∧ hz = []) := by
  refine con_of hT Tryd.func17 rfl rfl rfl rfl rfl rfl ?_
  intro c
  have hT := hT
  have hZ := hZ
  repeat' (first | refine a_seq ?_ | refine ar_step ?_ | refine a_block ?_ | refine a_skip ?_ | refine a_exit ?_ | refine a_ret ?_ | refine a_label ?_ | refine a_scope ?_ | refine a_region ?_ | refine rU (ev := ?_) | refine rN (ev := ?_) | refine rA (ev := ?_) | refine rT (ev := ?_) | refine rR (ev := ?_) | refine rO (ev := ?_) | refine at_normal ?_ | refine at_exit ?_ | refine at_ret ?_ | refine ab_normal ?_ | refine ab_ret ?_ | refine ab_same ?_ | refine ab_other rfl ?_ | refine ao_nil ?_ | refine EvK.nil ?_ | refine EvU.nil ?_ | refine EvU.alloc rfl rfl ?_ | refine EvU.store rfl rfl rfl rfl rfl (by first | exact .un rfl (by first | assumption | exact And.left (by assumption)) | exact .of rfl) rfl rfl rfl rfl rfl ?_ | refine tailA_k rfl rfl ?_ | refine tailA_k trivial rfl ?_ | refine tailA_k trivial (by kernel_rfl) ?_ | (refine a_cond rfl (fun hb => ?_) (fun hb => ?_) <;> (try simp only [reduceCtorEq, ne_eq, decs] at hb) <;> (try (exfalso; omega)) <;> (try exact (bool_ft hb (by assumption)).elim) <;> (try exact (bool_ft (by assumption) hb).elim)) | refine ao_alloc' (next := ?_) | refine ao_box' (next := ?_) | refine ao_store (next := ?_) | refine ao_store_own (next := ?_) | refine ao_store_ownR (next := ?_) | refine ao_append_same (next := ?_) | refine ao_append_nil (next := ?_) | refine ao_append_new (next := ?_) | refine ao_mkErr (next := ?_) | refine ao_clip (next := ?_) | refine ao_store_arr (next := ?_) | ((first | (apply ao_op rfl rfl (.plain rfl ?_) ?_; rotate_left) | (apply EvK.cons rfl (.plain rfl ?_) ?_; rotate_left) | (apply EvU.plain rfl rfl rfl ?_ ?_; rotate_left) | (apply ao_op rfl rfl (.guard rfl rfl rfl fun hg => ?_) ?_; rotate_right) | (apply ao_op rfl rfl (.guardw rfl rfl rfl fun hg => ?_) ?_; rotate_right) | (apply EvK.cons rfl (.guard rfl rfl rfl fun hg => ?_) ?_; rotate_right) | (apply EvK.cons rfl (.guardw rfl rfl rfl fun hg => ?_) ?_; rotate_right)); (first | exact sop_falseL (by first | (revert hg; decide) | (simp at hg; done) | fail) | ((try (have hg2 := hg; simp only [reduceCtorEq, ne_eq, decs] at hg2)); (first | exact sop_ta_no | (apply sop_callNM (order_ptr _ ha) <;> first | exact sd) | (apply sop_callN (wrong_con _ ?_) <;> first | exact sd) | exact sop_std | exact sop_false (by revert hg; decide) | fail)) | fail)))
  all_goals first | ((first | refine aend0 (by first | exact .inl rfl | exact .inr rfl) []  (by repeat (first | exact covL_nil | refine covL_dup rfl ?_ | refine covL_cons rfl rfl ?_)) ?_ | refine aend1 (by first | exact .inl rfl | exact .inr rfl) [] (by first | exact .tmp rfl | exact .cell rfl rfl rfl rfl rfl | exact .cellA rfl rfl rfl rfl rfl) (by repeat (first | exact covL_nil | refine covL_dup rfl ?_ | refine covL_cons rfl rfl ?_)) ?_ | refine aend2 (by first | exact .inl rfl | exact .inr rfl) [] (by first | exact .tmp rfl | exact .cell rfl rfl rfl rfl rfl | exact .cellA rfl rfl rfl rfl rfl) (by first | exact .tmp rfl | exact .cell rfl rfl rfl rfl rfl | exact .cellA rfl rfl rfl rfl rfl) (by repeat (first | exact covL_nil | refine covL_dup rfl ?_ | refine covL_cons rfl rfl ?_)) ?_ | refine aend3 (by first | exact .inl rfl | exact .inr rfl) [] (by first | exact .tmp rfl | exact .cell rfl rfl rfl rfl rfl | exact .cellA rfl rfl rfl rfl rfl) (by first | exact .tmp rfl | exact .cell rfl rfl rfl rfl rfl | exact .cellA rfl rfl rfl rfl rfl) (by first | exact .tmp rfl | exact .cell rfl rfl rfl rfl rfl | exact .cellA rfl rfl rfl rfl rfl) (by repeat (first | exact covL_nil | refine covL_dup rfl ?_ | refine covL_cons rfl rfl ?_)) ?_); exact ⟨rfl, rfl⟩) | (exfalso; simp at hb; done) | (exfalso; simp at hb; omega) | (exfalso; omega)
set_option maxRecDepth 10000 in
set_option maxHeartbeats 4000000 in
theorem words_back_great (ok : Int) (oa : Nat) (od : List UInt8) (om : Int) (at0 : Int) (ha : oa < 18446744073709551616) (hm : -9223372036854775808 ≤ om ∧ om ≤ 9223372036854775807) (hol : od.length ≤ 400) (hO : okC (cmdO ⟨ok, oa, od, om⟩) = true) (k1 k2 : Nat) (hk1 : low at0 (((sayL (cmdO ⟨ok, oa, od, om⟩)).length : Int) + 1) = (k1 : Int)) (hk2 : low (k1 : Int) ((sayL (cmdO ⟨ok, oa, od, om⟩)).length : Int) = (k2 : Int)) (hg : (97 ≤ (nth (sayL (cmdO ⟨ok, oa, od, om⟩)) k2).toNat ∧ (nth (sayL (cmdO ⟨ok, oa, od, om⟩)) k2).toNat ≤ 122)) : Con Tryd.prog 5 [.agg [.lit (.int .i64 ok), .lit (.int .u64 (oa : Int)), .snap (slF encU od), .lit (.int .i64 om)], .lit (.int .i64 at0)] [] (fun az hz => az = .lit (.bool (true)) ∧ hz = []) := by
  refine con_of hT Tryd.func5 rfl rfl rfl rfl rfl rfl ?_
  intro c
  have hT := hT
  have hZ := hZ
  have h1 := con_cmdR (make_con ⟨ok, oa, od, om⟩)
  have hA := okA_cmdO (o := ⟨ok, oa, od, om⟩) ha (by show od.length ≤ _; omega) hm
  have h2 := con_cmd1 (say_ok _ hO hA)
  have hle := say_len _ hO hA
  have hpo := say_pos _ hO
  have h3 := con_cmdT (read_ok _ hO hA (by omega))
  have h4 := con_cmd1 (order_con (cmdO ⟨ok, oa, od, om⟩))
  rw [isC_ok hO] at h4
  have hdl := data_okC hO
  have h5 := as_con ⟨ok, oa, od, om⟩
  rw [asO_cmd] at h5
  have h6 := same_o (ordC (cmdO ⟨ok, oa, od, om⟩)) (ordC (cmdO ⟨ok, oa, od, om⟩)) (by omega) (by omega)
  rw [decide_eq_true rfl] at h6
  have hb1 := low_bd at0 (n := ((sayL (cmdO ⟨ok, oa, od, om⟩)).length : Int) + 1) (by omega)
  have hb2 := low_bd (k1 : Int) (n := ((sayL (cmdO ⟨ok, oa, od, om⟩)).length : Int)) (by omega)
  have hz := strOf_size (sayL (cmdO ⟨ok, oa, od, om⟩))
  have hl1 := low0_con at0 (((strOf (sayL (cmdO ⟨ok, oa, od, om⟩))).size : Int) + 1) (by omega) (by omega)
  have hl2 := low0_con (k1 : Int) ((strOf (sayL (cmdO ⟨ok, oa, od, om⟩))).size : Int) (by omega) (by omega)
  rw [hz, hk1] at hl1
  rw [hz, hk2] at hl2
  rw [hk1] at hb1
  rw [hk2] at hb2
  have h7 := read_no ((sayL (cmdO ⟨ok, oa, od, om⟩)).take k1 ++ [32] ++ (sayL (cmdO ⟨ok, oa, od, om⟩)).drop k1) (by simp only [List.length_append, List.length_take, List.length_drop, List.length_cons, List.length_nil]; omega) (blank_no _ hO k1)
  have h8 := read_no ((sayL (cmdO ⟨ok, oa, od, om⟩)).set k2 (nth (sayL (cmdO ⟨ok, oa, od, om⟩)) k2 - 32)) (by rw [List.length_set]; omega) (great_no _ k2 (by omega) hg.1 hg.2)
  have h9 := num_con 2 (by decide)
  generalize cmdO ⟨ok, oa, od, om⟩ = co at *
  generalize sayL co = sl at *
  generalize ordC co = oc at *
  unfold ordA at h1 h4 h5 h6
  repeat' (first | refine a_seq ?_ | refine ar_step ?_ | refine a_block ?_ | refine a_skip ?_ | refine a_exit ?_ | refine a_ret ?_ | refine a_label ?_ | refine a_scope ?_ | refine a_region ?_ | refine rU (ev := ?_) | refine rN (ev := ?_) | refine rA (ev := ?_) | refine rT (ev := ?_) | refine rR (ev := ?_) | refine rO (ev := ?_) | refine at_normal ?_ | refine at_exit ?_ | refine at_ret ?_ | refine ab_normal ?_ | refine ab_ret ?_ | refine ab_same ?_ | refine ab_other rfl ?_ | refine ao_nil ?_ | refine EvK.nil ?_ | refine EvU.nil ?_ | refine EvU.alloc rfl rfl ?_ | refine EvU.store rfl rfl rfl rfl rfl (by first | exact .un rfl (by first | assumption | exact And.left (by assumption)) | exact .of rfl) rfl rfl rfl rfl rfl ?_ | refine tailA_k rfl rfl ?_ | refine tailA_k trivial rfl ?_ | refine tailA_k trivial (by kernel_rfl) ?_ | (refine a_cond rfl (fun hb => ?_) (fun hb => ?_) <;> (try simp only [reduceCtorEq, ne_eq, decs] at hb) <;> (try (exfalso; omega)) <;> (try exact (bool_ft hb (by assumption)).elim) <;> (try exact (bool_ft (by assumption) hb).elim)) | refine ao_bytes (next := ?_) | refine ao_mkIfP (next := ?_) | refine ao_alloc' (next := ?_) | refine ao_box' (next := ?_) | refine ao_store (next := ?_) | refine ao_store_own (next := ?_) | refine ao_store_ownR (next := ?_) | refine ao_append_same (next := ?_) | refine ao_append_nil (next := ?_) | refine ao_append_new (next := ?_) | refine ao_mkErr (next := ?_) | refine ao_clip (next := ?_) | refine ao_store_arr (next := ?_) | ((first | (apply ao_op rfl rfl (.plain rfl ?_) ?_; rotate_left) | (apply EvK.cons rfl (.plain rfl ?_) ?_; rotate_left) | (apply EvU.plain rfl rfl rfl ?_ ?_; rotate_left) | (apply ao_op rfl rfl (.guard rfl rfl rfl fun hg => ?_) ?_; rotate_right) | (apply ao_op rfl rfl (.guardw rfl rfl rfl fun hg => ?_) ?_; rotate_right) | (apply EvK.cons rfl (.guard rfl rfl rfl fun hg => ?_) ?_; rotate_right) | (apply EvK.cons rfl (.guardw rfl rfl rfl fun hg => ?_) ?_; rotate_right)); (first | exact sop_falseL (by first | (revert hg; decide) | (simp at hg; done) | fail) | ((try (have hg2 := hg; simp only [reduceCtorEq, ne_eq, decs] at hg2)); (first | (apply sop_callC (awake_con) <;> first | exact sd) | (apply sop_callNM (h1) <;> first | exact sd) | (apply sop_callNM (h2) <;> first | exact sd) | (apply sop_callNM (h3) <;> first | exact sd) | (apply sop_callNM (h4) <;> first | exact sd) | (apply sop_callNM (h5) <;> first | exact sd) | (apply sop_callN (h6) <;> first | exact sd) | (apply sop_callNM (h7) <;> first | exact sd) | (apply sop_callNM (h8) <;> first | exact sd) | (apply sop_callC (h9) <;> first | exact sd) | (apply sop_callNM (hl1) <;> first | exact sd) | (apply sop_callNM (hl2) <;> first | exact sd) | (apply sop_callNM (say_ptr _ (by assumption)) <;> first | exact sd) | exact sop_slice_str_hi | exact sop_slice_str_lo | exact sop_cat | exact sop_up | exact sop_str_own | exact sop_eqlb | exact sop_eql_str | exact sop_std | exact sop_false (by revert hg; decide) | fail)) | fail)))
  first | refine aend0 (by first | exact .inl rfl | exact .inr rfl) []  (by repeat (first | exact covL_nil | refine covL_dup rfl ?_ | refine covL_cons rfl rfl ?_)) ?_ | refine aend1 (by first | exact .inl rfl | exact .inr rfl) [] (by first | exact .tmp rfl | exact .cell rfl rfl rfl rfl rfl | exact .cellA rfl rfl rfl rfl rfl) (by repeat (first | exact covL_nil | refine covL_dup rfl ?_ | refine covL_cons rfl rfl ?_)) ?_ | refine aend2 (by first | exact .inl rfl | exact .inr rfl) [] (by first | exact .tmp rfl | exact .cell rfl rfl rfl rfl rfl | exact .cellA rfl rfl rfl rfl rfl) (by first | exact .tmp rfl | exact .cell rfl rfl rfl rfl rfl | exact .cellA rfl rfl rfl rfl rfl) (by repeat (first | exact covL_nil | refine covL_dup rfl ?_ | refine covL_cons rfl rfl ?_)) ?_ | refine aend3 (by first | exact .inl rfl | exact .inr rfl) [] (by first | exact .tmp rfl | exact .cell rfl rfl rfl rfl rfl | exact .cellA rfl rfl rfl rfl rfl) (by first | exact .tmp rfl | exact .cell rfl rfl rfl rfl rfl | exact .cellA rfl rfl rfl rfl rfl) (by first | exact .tmp rfl | exact .cell rfl rfl rfl rfl rfl | exact .cellA rfl rfl rfl rfl rfl) (by repeat (first | exact covL_nil | refine covL_dup rfl ?_ | refine covL_cons rfl rfl ?_)) ?_
  refine ⟨congrArg (fun b => AV.lit (.bool b)) ?_, rfl⟩
  simp
  omega
set_option maxRecDepth 10000 in
set_option maxHeartbeats 4000000 in
theorem words_back_small (ok : Int) (oa : Nat) (od : List UInt8) (om : Int) (at0 : Int) (ha : oa < 18446744073709551616) (hm : -9223372036854775808 ≤ om ∧ om ≤ 9223372036854775807) (hol : od.length ≤ 400) (hO : okC (cmdO ⟨ok, oa, od, om⟩) = true) (k1 k2 : Nat) (hk1 : low at0 (((sayL (cmdO ⟨ok, oa, od, om⟩)).length : Int) + 1) = (k1 : Int)) (hk2 : low (k1 : Int) ((sayL (cmdO ⟨ok, oa, od, om⟩)).length : Int) = (k2 : Int)) (hg : ¬ (97 ≤ (nth (sayL (cmdO ⟨ok, oa, od, om⟩)) k2).toNat ∧ (nth (sayL (cmdO ⟨ok, oa, od, om⟩)) k2).toNat ≤ 122)) : Con Tryd.prog 5 [.agg [.lit (.int .i64 ok), .lit (.int .u64 (oa : Int)), .snap (slF encU od), .lit (.int .i64 om)], .lit (.int .i64 at0)] [] (fun az hz => az = .lit (.bool (true)) ∧ hz = []) := by
  refine con_of hT Tryd.func5 rfl rfl rfl rfl rfl rfl ?_
  intro c
  have hT := hT
  have hZ := hZ
  have h1 := con_cmdR (make_con ⟨ok, oa, od, om⟩)
  have hA := okA_cmdO (o := ⟨ok, oa, od, om⟩) ha (by show od.length ≤ _; omega) hm
  have h2 := con_cmd1 (say_ok _ hO hA)
  have hle := say_len _ hO hA
  have hpo := say_pos _ hO
  have h3 := con_cmdT (read_ok _ hO hA (by omega))
  have h4 := con_cmd1 (order_con (cmdO ⟨ok, oa, od, om⟩))
  rw [isC_ok hO] at h4
  have hdl := data_okC hO
  have h5 := as_con ⟨ok, oa, od, om⟩
  rw [asO_cmd] at h5
  have h6 := same_o (ordC (cmdO ⟨ok, oa, od, om⟩)) (ordC (cmdO ⟨ok, oa, od, om⟩)) (by omega) (by omega)
  rw [decide_eq_true rfl] at h6
  have hb1 := low_bd at0 (n := ((sayL (cmdO ⟨ok, oa, od, om⟩)).length : Int) + 1) (by omega)
  have hb2 := low_bd (k1 : Int) (n := ((sayL (cmdO ⟨ok, oa, od, om⟩)).length : Int)) (by omega)
  have hz := strOf_size (sayL (cmdO ⟨ok, oa, od, om⟩))
  have hl1 := low0_con at0 (((strOf (sayL (cmdO ⟨ok, oa, od, om⟩))).size : Int) + 1) (by omega) (by omega)
  have hl2 := low0_con (k1 : Int) ((strOf (sayL (cmdO ⟨ok, oa, od, om⟩))).size : Int) (by omega) (by omega)
  rw [hz, hk1] at hl1
  rw [hz, hk2] at hl2
  rw [hk1] at hb1
  rw [hk2] at hb2
  have h7 := read_no ((sayL (cmdO ⟨ok, oa, od, om⟩)).take k1 ++ [32] ++ (sayL (cmdO ⟨ok, oa, od, om⟩)).drop k1) (by simp only [List.length_append, List.length_take, List.length_drop, List.length_cons, List.length_nil]; omega) (blank_no _ hO k1)
  have h9 := num_con 2 (by decide)
  generalize cmdO ⟨ok, oa, od, om⟩ = co at *
  generalize sayL co = sl at *
  generalize ordC co = oc at *
  unfold ordA at h1 h4 h5 h6
  repeat' (first | refine a_seq ?_ | refine ar_step ?_ | refine a_block ?_ | refine a_skip ?_ | refine a_exit ?_ | refine a_ret ?_ | refine a_label ?_ | refine a_scope ?_ | refine a_region ?_ | refine rU (ev := ?_) | refine rN (ev := ?_) | refine rA (ev := ?_) | refine rT (ev := ?_) | refine rR (ev := ?_) | refine rO (ev := ?_) | refine at_normal ?_ | refine at_exit ?_ | refine at_ret ?_ | refine ab_normal ?_ | refine ab_ret ?_ | refine ab_same ?_ | refine ab_other rfl ?_ | refine ao_nil ?_ | refine EvK.nil ?_ | refine EvU.nil ?_ | refine EvU.alloc rfl rfl ?_ | refine EvU.store rfl rfl rfl rfl rfl (by first | exact .un rfl (by first | assumption | exact And.left (by assumption)) | exact .of rfl) rfl rfl rfl rfl rfl ?_ | refine tailA_k rfl rfl ?_ | refine tailA_k trivial rfl ?_ | refine tailA_k trivial (by kernel_rfl) ?_ | (refine a_cond rfl (fun hb => ?_) (fun hb => ?_) <;> (try simp only [reduceCtorEq, ne_eq, decs] at hb) <;> (try (exfalso; omega)) <;> (try exact (bool_ft hb (by assumption)).elim) <;> (try exact (bool_ft (by assumption) hb).elim)) | refine ao_bytes (next := ?_) | refine ao_mkIfP (next := ?_) | refine ao_alloc' (next := ?_) | refine ao_box' (next := ?_) | refine ao_store (next := ?_) | refine ao_store_own (next := ?_) | refine ao_store_ownR (next := ?_) | refine ao_append_same (next := ?_) | refine ao_append_nil (next := ?_) | refine ao_append_new (next := ?_) | refine ao_mkErr (next := ?_) | refine ao_clip (next := ?_) | refine ao_store_arr (next := ?_) | ((first | (apply ao_op rfl rfl (.plain rfl ?_) ?_; rotate_left) | (apply EvK.cons rfl (.plain rfl ?_) ?_; rotate_left) | (apply EvU.plain rfl rfl rfl ?_ ?_; rotate_left) | (apply ao_op rfl rfl (.guard rfl rfl rfl fun hg => ?_) ?_; rotate_right) | (apply ao_op rfl rfl (.guardw rfl rfl rfl fun hg => ?_) ?_; rotate_right) | (apply EvK.cons rfl (.guard rfl rfl rfl fun hg => ?_) ?_; rotate_right) | (apply EvK.cons rfl (.guardw rfl rfl rfl fun hg => ?_) ?_; rotate_right)); (first | exact sop_falseL (by first | (revert hg; decide) | (simp at hg; done) | fail) | ((try (have hg2 := hg; simp only [reduceCtorEq, ne_eq, decs] at hg2)); (first | (apply sop_callC (awake_con) <;> first | exact sd) | (apply sop_callNM (h1) <;> first | exact sd) | (apply sop_callNM (h2) <;> first | exact sd) | (apply sop_callNM (h3) <;> first | exact sd) | (apply sop_callNM (h4) <;> first | exact sd) | (apply sop_callNM (h5) <;> first | exact sd) | (apply sop_callN (h6) <;> first | exact sd) | (apply sop_callNM (h7) <;> first | exact sd) | (apply sop_callC (h9) <;> first | exact sd) | (apply sop_callNM (hl1) <;> first | exact sd) | (apply sop_callNM (hl2) <;> first | exact sd) | (apply sop_callNM (say_ptr _ (by assumption)) <;> first | exact sd) | exact sop_slice_str_hi | exact sop_slice_str_lo | exact sop_cat | exact sop_up | exact sop_str_own | exact sop_eqlb | exact sop_eql_str | exact sop_std | exact sop_false (by revert hg; decide) | fail)) | fail)))
  first | refine aend0 (by first | exact .inl rfl | exact .inr rfl) []  (by repeat (first | exact covL_nil | refine covL_dup rfl ?_ | refine covL_cons rfl rfl ?_)) ?_ | refine aend1 (by first | exact .inl rfl | exact .inr rfl) [] (by first | exact .tmp rfl | exact .cell rfl rfl rfl rfl rfl | exact .cellA rfl rfl rfl rfl rfl) (by repeat (first | exact covL_nil | refine covL_dup rfl ?_ | refine covL_cons rfl rfl ?_)) ?_ | refine aend2 (by first | exact .inl rfl | exact .inr rfl) [] (by first | exact .tmp rfl | exact .cell rfl rfl rfl rfl rfl | exact .cellA rfl rfl rfl rfl rfl) (by first | exact .tmp rfl | exact .cell rfl rfl rfl rfl rfl | exact .cellA rfl rfl rfl rfl rfl) (by repeat (first | exact covL_nil | refine covL_dup rfl ?_ | refine covL_cons rfl rfl ?_)) ?_ | refine aend3 (by first | exact .inl rfl | exact .inr rfl) [] (by first | exact .tmp rfl | exact .cell rfl rfl rfl rfl rfl | exact .cellA rfl rfl rfl rfl rfl) (by first | exact .tmp rfl | exact .cell rfl rfl rfl rfl rfl | exact .cellA rfl rfl rfl rfl rfl) (by first | exact .tmp rfl | exact .cell rfl rfl rfl rfl rfl | exact .cellA rfl rfl rfl rfl rfl) (by repeat (first | exact covL_nil | refine covL_dup rfl ?_ | refine covL_cons rfl rfl ?_)) ?_
  refine ⟨congrArg (fun b => AV.lit (.bool b)) ?_, rfl⟩
  simp
  omega
set_option maxRecDepth 10000 in
set_option maxHeartbeats 2000000 in
theorem words_back_no (ok : Int) (oa : Nat) (od : List UInt8) (om : Int) (at0 : Int) (ha : oa < 18446744073709551616) (hm : -9223372036854775808 ≤ om ∧ om ≤ 9223372036854775807) (hol : od.length ≤ 400) (hO : ¬ okC (cmdO ⟨ok, oa, od, om⟩) = true) : Con Tryd.prog 5 [.agg [.lit (.int .i64 ok), .lit (.int .u64 (oa : Int)), .snap (slF encU od), .lit (.int .i64 om)], .lit (.int .i64 at0)] [] (fun az hz => az = .lit (.bool (true)) ∧ hz = []) := by
  refine con_of hT Tryd.func5 rfl rfl rfl rfl rfl rfl ?_
  intro c
  have hT := hT
  have hZ := hZ
  have h1 := con_cmdR (make_con ⟨ok, oa, od, om⟩)
  have hA := okA_cmdO (o := ⟨ok, oa, od, om⟩) ha (by show od.length ≤ _; omega) hm
  have h2 := con_cmd1 (say_con _ hA)
  have e1 : sayS (cmdO ⟨ok, oa, od, om⟩) = [] := by unfold sayS; rw [if_neg hO]
  have e2 : sayE (cmdO ⟨ok, oa, od, om⟩) = 2 := by unfold sayE; rw [if_neg hO]
  rw [e1, e2] at h2
  generalize cmdO ⟨ok, oa, od, om⟩ = co at *
  unfold ordA at h1
  repeat' (first | refine a_seq ?_ | refine ar_step ?_ | refine a_block ?_ | refine a_skip ?_ | refine a_exit ?_ | refine a_ret ?_ | refine a_label ?_ | refine a_scope ?_ | refine a_region ?_ | refine rU (ev := ?_) | refine rN (ev := ?_) | refine rA (ev := ?_) | refine rT (ev := ?_) | refine rR (ev := ?_) | refine rO (ev := ?_) | refine at_normal ?_ | refine at_exit ?_ | refine at_ret ?_ | refine ab_normal ?_ | refine ab_ret ?_ | refine ab_same ?_ | refine ab_other rfl ?_ | refine ao_nil ?_ | refine EvK.nil ?_ | refine EvU.nil ?_ | refine EvU.alloc rfl rfl ?_ | refine EvU.store rfl rfl rfl rfl rfl (by first | exact .un rfl (by first | assumption | exact And.left (by assumption)) | exact .of rfl) rfl rfl rfl rfl rfl ?_ | refine tailA_k rfl rfl ?_ | refine tailA_k trivial rfl ?_ | refine tailA_k trivial (by kernel_rfl) ?_ | (refine a_cond rfl (fun hb => ?_) (fun hb => ?_) <;> (try simp only [reduceCtorEq, ne_eq, decs] at hb) <;> (try (exfalso; omega)) <;> (try exact (bool_ft hb (by assumption)).elim) <;> (try exact (bool_ft (by assumption) hb).elim)) | refine ao_alloc' (next := ?_) | refine ao_box' (next := ?_) | refine ao_store (next := ?_) | refine ao_store_own (next := ?_) | refine ao_store_ownR (next := ?_) | refine ao_append_same (next := ?_) | refine ao_append_nil (next := ?_) | refine ao_append_new (next := ?_) | refine ao_mkErr (next := ?_) | refine ao_clip (next := ?_) | refine ao_store_arr (next := ?_) | ((first | (apply ao_op rfl rfl (.plain rfl ?_) ?_; rotate_left) | (apply EvK.cons rfl (.plain rfl ?_) ?_; rotate_left) | (apply EvU.plain rfl rfl rfl ?_ ?_; rotate_left) | (apply ao_op rfl rfl (.guard rfl rfl rfl fun hg => ?_) ?_; rotate_right) | (apply ao_op rfl rfl (.guardw rfl rfl rfl fun hg => ?_) ?_; rotate_right) | (apply EvK.cons rfl (.guard rfl rfl rfl fun hg => ?_) ?_; rotate_right) | (apply EvK.cons rfl (.guardw rfl rfl rfl fun hg => ?_) ?_; rotate_right)); (first | exact sop_falseL (by first | (revert hg; decide) | (simp at hg; done) | fail) | ((try (have hg2 := hg; simp only [reduceCtorEq, ne_eq, decs] at hg2)); (first | (apply sop_callC (awake_con) <;> first | exact sd) | (apply sop_callNM (h1) <;> first | exact sd) | (apply sop_callNM (h2) <;> first | exact sd) | exact sop_eql_str | exact sop_std | exact sop_false (by revert hg; decide) | fail)) | fail)))
  first | refine aend0 (by first | exact .inl rfl | exact .inr rfl) []  (by repeat (first | exact covL_nil | refine covL_dup rfl ?_ | refine covL_cons rfl rfl ?_)) ?_ | refine aend1 (by first | exact .inl rfl | exact .inr rfl) [] (by first | exact .tmp rfl | exact .cell rfl rfl rfl rfl rfl | exact .cellA rfl rfl rfl rfl rfl) (by repeat (first | exact covL_nil | refine covL_dup rfl ?_ | refine covL_cons rfl rfl ?_)) ?_ | refine aend2 (by first | exact .inl rfl | exact .inr rfl) [] (by first | exact .tmp rfl | exact .cell rfl rfl rfl rfl rfl | exact .cellA rfl rfl rfl rfl rfl) (by first | exact .tmp rfl | exact .cell rfl rfl rfl rfl rfl | exact .cellA rfl rfl rfl rfl rfl) (by repeat (first | exact covL_nil | refine covL_dup rfl ?_ | refine covL_cons rfl rfl ?_)) ?_ | refine aend3 (by first | exact .inl rfl | exact .inr rfl) [] (by first | exact .tmp rfl | exact .cell rfl rfl rfl rfl rfl | exact .cellA rfl rfl rfl rfl rfl) (by first | exact .tmp rfl | exact .cell rfl rfl rfl rfl rfl | exact .cellA rfl rfl rfl rfl rfl) (by first | exact .tmp rfl | exact .cell rfl rfl rfl rfl rfl | exact .cellA rfl rfl rfl rfl rfl) (by repeat (first | exact covL_nil | refine covL_dup rfl ?_ | refine covL_cons rfl rfl ?_)) ?_
  refine ⟨congrArg (fun b => AV.lit (.bool b)) ?_, rfl⟩
  decide
set_option maxRecDepth 10000 in
set_option maxHeartbeats 400000 in
theorem words_back_big (ok : Int) (oa : Nat) (od : List UInt8) (om : Int) (at0 : Int) (hol : ¬ od.length ≤ 400) (hol2 : od.length ≤ 9223372036854775807) : Con Tryd.prog 5 [.agg [.lit (.int .i64 ok), .lit (.int .u64 (oa : Int)), .snap (slF encU od), .lit (.int .i64 om)], .lit (.int .i64 at0)] [] (fun az hz => az = .lit (.bool (true)) ∧ hz = []) := by
  refine con_of hT Tryd.func5 rfl rfl rfl rfl rfl rfl ?_
  intro c
  have hT := hT
  have hZ := hZ
  repeat' (first | refine a_seq ?_ | refine ar_step ?_ | refine a_block ?_ | refine a_skip ?_ | refine a_exit ?_ | refine a_ret ?_ | refine a_label ?_ | refine a_scope ?_ | refine a_region ?_ | refine rU (ev := ?_) | refine rN (ev := ?_) | refine rA (ev := ?_) | refine rT (ev := ?_) | refine rR (ev := ?_) | refine rO (ev := ?_) | refine at_normal ?_ | refine at_exit ?_ | refine at_ret ?_ | refine ab_normal ?_ | refine ab_ret ?_ | refine ab_same ?_ | refine ab_other rfl ?_ | refine ao_nil ?_ | refine EvK.nil ?_ | refine EvU.nil ?_ | refine EvU.alloc rfl rfl ?_ | refine EvU.store rfl rfl rfl rfl rfl (by first | exact .un rfl (by first | assumption | exact And.left (by assumption)) | exact .of rfl) rfl rfl rfl rfl rfl ?_ | refine tailA_k rfl rfl ?_ | refine tailA_k trivial rfl ?_ | refine tailA_k trivial (by kernel_rfl) ?_ | (refine a_cond rfl (fun hb => ?_) (fun hb => ?_) <;> (try simp only [reduceCtorEq, ne_eq, decs] at hb) <;> (try (exfalso; omega)) <;> (try exact (bool_ft hb (by assumption)).elim) <;> (try exact (bool_ft (by assumption) hb).elim)) | refine ao_alloc' (next := ?_) | refine ao_box' (next := ?_) | refine ao_store (next := ?_) | refine ao_store_own (next := ?_) | refine ao_store_ownR (next := ?_) | refine ao_append_same (next := ?_) | refine ao_append_nil (next := ?_) | refine ao_append_new (next := ?_) | refine ao_mkErr (next := ?_) | refine ao_clip (next := ?_) | refine ao_store_arr (next := ?_) | ((first | (apply ao_op rfl rfl (.plain rfl ?_) ?_; rotate_left) | (apply EvK.cons rfl (.plain rfl ?_) ?_; rotate_left) | (apply EvU.plain rfl rfl rfl ?_ ?_; rotate_left) | (apply ao_op rfl rfl (.guard rfl rfl rfl fun hg => ?_) ?_; rotate_right) | (apply ao_op rfl rfl (.guardw rfl rfl rfl fun hg => ?_) ?_; rotate_right) | (apply EvK.cons rfl (.guard rfl rfl rfl fun hg => ?_) ?_; rotate_right) | (apply EvK.cons rfl (.guardw rfl rfl rfl fun hg => ?_) ?_; rotate_right)); (first | exact sop_falseL (by first | (revert hg; decide) | (simp at hg; done) | fail) | ((try (have hg2 := hg; simp only [reduceCtorEq, ne_eq, decs] at hg2)); (first | (apply sop_callC (awake_con) <;> first | exact sd) | exact sop_std | exact sop_false (by revert hg; decide) | fail)) | fail)))
  first | refine aend0 (by first | exact .inl rfl | exact .inr rfl) []  (by repeat (first | exact covL_nil | refine covL_dup rfl ?_ | refine covL_cons rfl rfl ?_)) ?_ | refine aend1 (by first | exact .inl rfl | exact .inr rfl) [] (by first | exact .tmp rfl | exact .cell rfl rfl rfl rfl rfl | exact .cellA rfl rfl rfl rfl rfl) (by repeat (first | exact covL_nil | refine covL_dup rfl ?_ | refine covL_cons rfl rfl ?_)) ?_ | refine aend2 (by first | exact .inl rfl | exact .inr rfl) [] (by first | exact .tmp rfl | exact .cell rfl rfl rfl rfl rfl | exact .cellA rfl rfl rfl rfl rfl) (by first | exact .tmp rfl | exact .cell rfl rfl rfl rfl rfl | exact .cellA rfl rfl rfl rfl rfl) (by repeat (first | exact covL_nil | refine covL_dup rfl ?_ | refine covL_cons rfl rfl ?_)) ?_ | refine aend3 (by first | exact .inl rfl | exact .inr rfl) [] (by first | exact .tmp rfl | exact .cell rfl rfl rfl rfl rfl | exact .cellA rfl rfl rfl rfl rfl) (by first | exact .tmp rfl | exact .cell rfl rfl rfl rfl rfl | exact .cellA rfl rfl rfl rfl rfl) (by first | exact .tmp rfl | exact .cell rfl rfl rfl rfl rfl | exact .cellA rfl rfl rfl rfl rfl) (by repeat (first | exact covL_nil | refine covL_dup rfl ?_ | refine covL_cons rfl rfl ?_)) ?_
  exact ⟨rfl, rfl⟩
theorem words_back (ok : Int) (oa : Nat) (od : List UInt8) (om : Int) (at0 : Int) (ha : oa < 18446744073709551616) (hm : -9223372036854775808 ≤ om ∧ om ≤ 9223372036854775807) (hol : od.length ≤ 9223372036854775807) : Con Tryd.prog 5 [.agg [.lit (.int .i64 ok), .lit (.int .u64 (oa : Int)), .snap (slF encU od), .lit (.int .i64 om)], .lit (.int .i64 at0)] [] (fun az hz => az = .lit (.bool true) ∧ hz = []) := by
  by_cases hl : od.length ≤ 400
  · by_cases hO : okC (cmdO ⟨ok, oa, od, om⟩) = true
    · have hpo := say_pos _ hO
      have hb1 := low_bd at0 (n := ((sayL (cmdO ⟨ok, oa, od, om⟩)).length : Int) + 1) (by omega)
      have hk1 : low at0 (((sayL (cmdO ⟨ok, oa, od, om⟩)).length : Int) + 1) = ((low at0 (((sayL (cmdO ⟨ok, oa, od, om⟩)).length : Int) + 1)).toNat : Int) := by omega
      generalize (low at0 (((sayL (cmdO ⟨ok, oa, od, om⟩)).length : Int) + 1)).toNat = k1 at hk1
      have hb2 := low_bd (k1 : Int) (n := ((sayL (cmdO ⟨ok, oa, od, om⟩)).length : Int)) (by omega)
      have hk2 : low (k1 : Int) ((sayL (cmdO ⟨ok, oa, od, om⟩)).length : Int) = ((low (k1 : Int) ((sayL (cmdO ⟨ok, oa, od, om⟩)).length : Int)).toNat : Int) := by omega
      generalize (low (k1 : Int) ((sayL (cmdO ⟨ok, oa, od, om⟩)).length : Int)).toNat = k2 at hk2
      by_cases hg : 97 ≤ (nth (sayL (cmdO ⟨ok, oa, od, om⟩)) k2).toNat ∧ (nth (sayL (cmdO ⟨ok, oa, od, om⟩)) k2).toNat ≤ 122
      · exact words_back_great ok oa od om at0 ha hm hl hO k1 k2 hk1 hk2 hg
      · exact words_back_small ok oa od om at0 ha hm hl hO k1 k2 hk1 hk2 hg
    · exact words_back_no ok oa od om at0 ha hm hl hO
  · exact words_back_big ok oa od om at0 hl hol
end Go.Proofs.YtgiicfjibngooaaDoor
