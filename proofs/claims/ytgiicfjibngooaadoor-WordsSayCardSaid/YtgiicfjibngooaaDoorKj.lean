/- What is said, told apart; a look at the whole. -/
import Derived.Test.YtgiicfjibngooaaDoorKi
namespace Go.Proofs.YtgiicfjibngooaaDoor
open Go Go.RowKit
set_option linter.unusedVariables false
set_option linter.unusedSimpArgs false
attribute [local irreducible] ACode AOps AThen ABlock ACut
theorem dataL_inj {d e : List UInt8} (h : dataL d = dataL e) : d = e := by
  have := congrArg (fun x => (rdX x).1) h
  simp only [rd_data] at this
  exact this
theorem itoU_inj {m n : Int} (h0 : 0 ≤ m ∧ m ≤ 64) (h1 : 0 ≤ n ∧ n ≤ 64) (h : itoU m = itoU n) : m = n := by
  have e1 := ati_all ⟨m.toNat, by omega⟩
  have e2 := ati_all ⟨n.toNat, by omega⟩
  simp only [show ((m.toNat : Nat) : Int) = m by omega, show ((n.toNat : Nat) : Int) = n by omega] at e1 e2
  rw [h, e2] at e1
  injection e1 with e1
  exact e1.symm
/-- what is said alike is the same command -/
theorem sayL_inj (c d : Cmd) (hc : okC c = true) (hd : okC d = true) (e : sayL c = sayL d) : c = d := by
  have w : wordsC c = wordsC d := by rw [← spl_say c hc, ← spl_say d hd, e]
  have w0 : nth (wordsC c) 0 = nth (wordsC d) 0 := by rw [w]
  have w1 : nth (wordsC c) 1 = nth (wordsC d) 1 := by rw [w]
  have w2 : nth (wordsC c) 2 = nth (wordsC d) 2 := by rw [w]
  cases c with
  | no => exact absurd hc (by decide)
  | dirty a1 d1 =>
    cases d with
    | no => exact absurd hd (by decide)
    | dirty a2 d2 =>
      obtain rfl : a1 = a2 := hx_inj w1
      obtain rfl : d1 = d2 := dataL_inj w2
      rfl
    | fill a2 d2 => exact absurd (show ([100, 105, 114, 116, 121] : List UInt8) = [102, 105, 108, 108] from w0) (by decide)
    | rd a2 => exact absurd (show ([100, 105, 114, 116, 121] : List UInt8) = [114, 101, 97, 100] from w0) (by decide)
    | evict a2 => exact absurd (show ([100, 105, 114, 116, 121] : List UInt8) = [101, 118, 105, 99, 116] from w0) (by decide)
    | clean a2 => exact absurd (show ([100, 105, 114, 116, 121] : List UInt8) = [99, 108, 101, 97, 110] from w0) (by decide)
    | exi a2 m2 => exact absurd (show ([100, 105, 114, 116, 121] : List UInt8) = [101, 120, 105, 115, 116, 115] from w0) (by decide)
  | fill a1 d1 =>
    cases d with
    | no => exact absurd hd (by decide)
    | dirty a2 d2 => exact absurd (show ([102, 105, 108, 108] : List UInt8) = [100, 105, 114, 116, 121] from w0) (by decide)
    | fill a2 d2 =>
      obtain rfl : a1 = a2 := hx_inj w1
      obtain rfl : d1 = d2 := dataL_inj w2
      rfl
    | rd a2 => exact absurd (show ([102, 105, 108, 108] : List UInt8) = [114, 101, 97, 100] from w0) (by decide)
    | evict a2 => exact absurd (show ([102, 105, 108, 108] : List UInt8) = [101, 118, 105, 99, 116] from w0) (by decide)
    | clean a2 => exact absurd (show ([102, 105, 108, 108] : List UInt8) = [99, 108, 101, 97, 110] from w0) (by decide)
    | exi a2 m2 => exact absurd (show ([102, 105, 108, 108] : List UInt8) = [101, 120, 105, 115, 116, 115] from w0) (by decide)
  | rd a1 =>
    cases d with
    | no => exact absurd hd (by decide)
    | dirty a2 d2 => exact absurd (show ([114, 101, 97, 100] : List UInt8) = [100, 105, 114, 116, 121] from w0) (by decide)
    | fill a2 d2 => exact absurd (show ([114, 101, 97, 100] : List UInt8) = [102, 105, 108, 108] from w0) (by decide)
    | rd a2 =>
      obtain rfl : a1 = a2 := hx_inj w1
      rfl
    | evict a2 => exact absurd (show ([114, 101, 97, 100] : List UInt8) = [101, 118, 105, 99, 116] from w0) (by decide)
    | clean a2 => exact absurd (show ([114, 101, 97, 100] : List UInt8) = [99, 108, 101, 97, 110] from w0) (by decide)
    | exi a2 m2 => exact absurd (show ([114, 101, 97, 100] : List UInt8) = [101, 120, 105, 115, 116, 115] from w0) (by decide)
  | evict a1 =>
    cases d with
    | no => exact absurd hd (by decide)
    | dirty a2 d2 => exact absurd (show ([101, 118, 105, 99, 116] : List UInt8) = [100, 105, 114, 116, 121] from w0) (by decide)
    | fill a2 d2 => exact absurd (show ([101, 118, 105, 99, 116] : List UInt8) = [102, 105, 108, 108] from w0) (by decide)
    | rd a2 => exact absurd (show ([101, 118, 105, 99, 116] : List UInt8) = [114, 101, 97, 100] from w0) (by decide)
    | evict a2 =>
      obtain rfl : a1 = a2 := hx_inj w1
      rfl
    | clean a2 => exact absurd (show ([101, 118, 105, 99, 116] : List UInt8) = [99, 108, 101, 97, 110] from w0) (by decide)
    | exi a2 m2 => exact absurd (show ([101, 118, 105, 99, 116] : List UInt8) = [101, 120, 105, 115, 116, 115] from w0) (by decide)
  | clean a1 =>
    cases d with
    | no => exact absurd hd (by decide)
    | dirty a2 d2 => exact absurd (show ([99, 108, 101, 97, 110] : List UInt8) = [100, 105, 114, 116, 121] from w0) (by decide)
    | fill a2 d2 => exact absurd (show ([99, 108, 101, 97, 110] : List UInt8) = [102, 105, 108, 108] from w0) (by decide)
    | rd a2 => exact absurd (show ([99, 108, 101, 97, 110] : List UInt8) = [114, 101, 97, 100] from w0) (by decide)
    | evict a2 => exact absurd (show ([99, 108, 101, 97, 110] : List UInt8) = [101, 118, 105, 99, 116] from w0) (by decide)
    | clean a2 =>
      obtain rfl : a1 = a2 := hx_inj w1
      rfl
    | exi a2 m2 => exact absurd (show ([99, 108, 101, 97, 110] : List UInt8) = [101, 120, 105, 115, 116, 115] from w0) (by decide)
  | exi a1 m1 =>
    cases d with
    | no => exact absurd hd (by decide)
    | dirty a2 d2 => exact absurd (show ([101, 120, 105, 115, 116, 115] : List UInt8) = [100, 105, 114, 116, 121] from w0) (by decide)
    | fill a2 d2 => exact absurd (show ([101, 120, 105, 115, 116, 115] : List UInt8) = [102, 105, 108, 108] from w0) (by decide)
    | rd a2 => exact absurd (show ([101, 120, 105, 115, 116, 115] : List UInt8) = [114, 101, 97, 100] from w0) (by decide)
    | evict a2 => exact absurd (show ([101, 120, 105, 115, 116, 115] : List UInt8) = [101, 118, 105, 99, 116] from w0) (by decide)
    | clean a2 => exact absurd (show ([101, 120, 105, 115, 116, 115] : List UInt8) = [99, 108, 101, 97, 110] from w0) (by decide)
    | exi a2 m2 =>
      obtain rfl : a1 = a2 := hx_inj w1
      obtain rfl : m1 = m2 := itoU_inj (by simpa [okC] using hc) (by simpa [okC] using hd) w2
      rfl
theorem read_ok (c : Cmd) (h : okC c = true) (hA : okA c) (hl : (sayL c).length ≤ 1000000) : Con Tryd.prog 9 [.lit (.string (strOf (sayL c)))] [] (fun az hz => az = .tup [cmdA c, .lit .nilIface] ∧ hz = []) := con_weak (read_con _ hl) (by
  rintro az hz ⟨rfl, ⟨d, h1, h2, h3, rfl⟩ | ⟨h1, rfl⟩⟩
  · obtain rfl := sayL_inj c d h h1 h3
    exact ⟨_, fun _ _ _ _ q => q, rfl, rfl⟩
  · exact absurd rfl (h1 c h hA))
theorem read_no (l : List UInt8) (hl : l.length ≤ 1000000) (h : ∀ c, okC c = true → okA c → l ≠ sayL c) : Con Tryd.prog 9 [.lit (.string (strOf l))] [] (fun az hz => az = .tup [.lit .nilIface, .snap (errF 85 (3))] ∧ hz = []) := con_weak (read_con _ hl) (by
  rintro az hz ⟨rfl, ⟨d, h1, h2, h3, rfl⟩ | ⟨h1, rfl⟩⟩
  · exact absurd h3 (h d h1 h2)
  · exact ⟨_, fun _ _ _ _ q => q, rfl, rfl⟩)
theorem say255 : Con Tryd.prog 17 [.snap (ifF 52 (.agg [.lit (.int .u64 255)]))] [] (fun az hz => az = .tup [.lit (.string ⟨#[114, 101, 97, 100, 32, 48, 120, 102, 102]⟩), .lit .nilIface] ∧ hz = []) := by
  have e : (⟨#[114, 101, 97, 100, 32, 48, 120, 102, 102]⟩ : ByteArray) = strOf (sayL (.rd 255)) := by decide +kernel
  rw [e]; exact say_rd_ok 255 (by decide)
theorem readE : Con Tryd.prog 9 [.lit (.string ⟨#[101, 120, 105, 115, 116, 115, 32, 48, 120, 48, 32, 53]⟩)] [] (fun az hz => az = .tup [.snap (ifF 73 (.agg [.lit (.int .u64 0), .lit (.int .i64 5)])), .lit .nilIface] ∧ hz = []) := by
  have e : (⟨#[101, 120, 105, 115, 116, 115, 32, 48, 120, 48, 32, 53]⟩ : ByteArray) = strOf (sayL (.exi 0 5)) := by decide +kernel
  rw [e]; exact read_ok (.exi 0 5) (by decide) ⟨by decide, by decide, by decide⟩ (by decide +kernel)
theorem orderE : Con Tryd.prog 12 [.snap (ifF 73 (.agg [.lit (.int .u64 0), .lit (.int .i64 5)]))] [] (fun az hz => az = .tup [.agg [.lit (.int .i64 6), .lit (.int .u64 0), .snap (slF encU []), .lit (.int .i64 5)], .lit (.bool true)] ∧ hz = []) := order_con (.exi 0 5)
theorem readN : Con Tryd.prog 9 [.lit (.string ⟨#[]⟩)] [] (fun az hz => az = .tup [.lit .nilIface, .snap (errF 85 (3))] ∧ hz = []) := by
  have e : (⟨#[]⟩ : ByteArray) = strOf [] := by decide +kernel
  rw [e]; exact read_no [] (by decide) (fun c h _ e => by
    have := spl_say c h
    rw [← e] at this
    cases c with
    | no => exact absurd h (by decide)
    | dirty a1 d1 => exact absurd (congrArg List.length this) (by show ¬ ((spl []).length = (wordsC _).length); rw [show (spl []).length = 1 by decide]; simp [wordsC])
    | fill a1 d1 => exact absurd (congrArg List.length this) (by show ¬ ((spl []).length = (wordsC _).length); rw [show (spl []).length = 1 by decide]; simp [wordsC])
    | rd a1 => exact absurd (congrArg List.length this) (by show ¬ ((spl []).length = (wordsC _).length); rw [show (spl []).length = 1 by decide]; simp [wordsC])
    | evict a1 => exact absurd (congrArg List.length this) (by show ¬ ((spl []).length = (wordsC _).length); rw [show (spl []).length = 1 by decide]; simp [wordsC])
    | clean a1 => exact absurd (congrArg List.length this) (by show ¬ ((spl []).length = (wordsC _).length); rw [show (spl []).length = 1 by decide]; simp [wordsC])
    | exi a1 m1 => exact absurd (congrArg List.length this) (by show ¬ ((spl []).length = (wordsC _).length); rw [show (spl []).length = 1 by decide]; simp [wordsC])
    )
theorem splitE : Con Tryd.prog 14 [.lit (.string ⟨#[32, 97, 32, 32, 98, 32]⟩)] [] (fun az hz => az = .snap (slF encS [[97], [98]]) ∧ hz = []) := by
  have e : (⟨#[32, 97, 32, 32, 98, 32]⟩ : ByteArray) = strOf [32, 97, 32, 32, 98, 32] := by decide +kernel
  have e2 : spw [32, 97, 32, 32, 98, 32] = [[97], [98]] := by decide +kernel
  rw [e, ← e2]; exact wsplit_con _ (by decide)
set_option maxRecDepth 10000 in
set_option maxHeartbeats 2000000 in
theorem awake_con  : Con Tryd.prog 8 [] [] (fun az hz => az = .lit (.bool (true)) ∧ hz = []) := by
  refine con_of hT Tryd.func8 rfl rfl rfl rfl rfl rfl ?_
  intro c
  have hT := hT
  have hZ := hZ
  have hnum := num_con 3 (by decide)
  repeat' (first | refine a_seq ?_ | refine ar_step ?_ | refine a_block ?_ | refine a_skip ?_ | refine a_exit ?_ | refine a_ret ?_ | refine a_label ?_ | refine a_scope ?_ | refine a_region ?_ | refine at_normal ?_ | refine at_exit ?_ | refine at_ret ?_ | refine ab_normal ?_ | refine ab_ret ?_ | refine ab_same ?_ | refine ab_other rfl ?_ | refine ao_nil ?_ | (refine a_cond rfl (fun hb => ?_) (fun hb => ?_) <;> (try simp only [reduceCtorEq, ne_eq, decs] at hb) <;> (try (exfalso; omega)) <;> (try exact (bool_ft hb (by assumption)).elim) <;> (try exact (bool_ft (by assumption) hb).elim)) | refine ao_alloc' (next := ?_) | refine ao_box' (next := ?_) | refine ao_store (next := ?_) | refine ao_store_own (next := ?_) | refine ao_store_ownR (next := ?_) | refine ao_append_same (next := ?_) | refine ao_append_nil (next := ?_) | refine ao_append_new (next := ?_) | refine ao_mkErr (next := ?_) | refine ao_clip (next := ?_) | refine ao_store_arr (next := ?_) | ((first | (apply ao_op rfl rfl (.plain rfl ?_) ?_; rotate_left) | (apply ao_op rfl rfl (.guard rfl rfl rfl fun hg => ?_) ?_; rotate_right) | (apply ao_op rfl rfl (.guardw rfl rfl rfl fun hg => ?_) ?_; rotate_right)); (try (have hg2 := hg; simp only [reduceCtorEq, ne_eq, decs] at hg2)); (first | exact sop_mkIfaceA | (apply sop_callNM (say255) <;> first | exact sd) | (apply sop_callNM (readE) <;> first | exact sd) | (apply sop_callNM (readN) <;> first | exact sd) | (apply sop_callNM (orderE) <;> first | exact sd) | (apply sop_callNM (order_no) <;> first | exact sd) | (apply sop_callNM (splitE) <;> first | exact sd) | (apply sop_callC (hnum) <;> first | exact sd) | exact sop_eql_str | exact sop_std | exact sop_false (by revert hg; decide) | fail)))
  first | refine aend0 (by first | exact .inl rfl | exact .inr rfl) []  (by repeat (first | exact covL_nil | refine covL_dup rfl ?_ | refine covL_cons rfl rfl ?_)) ?_ | refine aend1 (by first | exact .inl rfl | exact .inr rfl) [] (by first | exact .tmp rfl | exact .cell rfl rfl rfl rfl rfl | exact .cellA rfl rfl rfl rfl rfl) (by repeat (first | exact covL_nil | refine covL_dup rfl ?_ | refine covL_cons rfl rfl ?_)) ?_ | refine aend2 (by first | exact .inl rfl | exact .inr rfl) [] (by first | exact .tmp rfl | exact .cell rfl rfl rfl rfl rfl | exact .cellA rfl rfl rfl rfl rfl) (by first | exact .tmp rfl | exact .cell rfl rfl rfl rfl rfl | exact .cellA rfl rfl rfl rfl rfl) (by repeat (first | exact covL_nil | refine covL_dup rfl ?_ | refine covL_cons rfl rfl ?_)) ?_ | refine aend3 (by first | exact .inl rfl | exact .inr rfl) [] (by first | exact .tmp rfl | exact .cell rfl rfl rfl rfl rfl | exact .cellA rfl rfl rfl rfl rfl) (by first | exact .tmp rfl | exact .cell rfl rfl rfl rfl rfl | exact .cellA rfl rfl rfl rfl rfl) (by first | exact .tmp rfl | exact .cell rfl rfl rfl rfl rfl | exact .cellA rfl rfl rfl rfl rfl) (by repeat (first | exact covL_nil | refine covL_dup rfl ?_ | refine covL_cons rfl rfl ?_)) ?_
  refine ⟨congrArg (fun b => AV.lit (.bool b)) ?_, rfl⟩
  decide
end Go.Proofs.YtgiicfjibngooaaDoor
