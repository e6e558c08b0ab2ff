/- Reading a line, walked. -/
import Derived.Test.YtgiicfjibngooaaDoorK7
namespace Go.Proofs.YtgiicfjibngooaaDoor
open Go Go.RowKit
set_option linter.unusedVariables false
set_option linter.unusedSimpArgs false
attribute [local irreducible] ACode AOps AThen ABlock ACut
theorem say0 {c : Cmd} (h : okC c = true) : sayS c = sayL c ∧ sayE c = 0 := by unfold sayS sayE; rw [if_pos h, if_pos h]; exact ⟨rfl, rfl⟩
theorem say1 {c : Cmd} (h : sayE c = 0) : okC c = true := by
  unfold sayE at h
  split at h
  · assumption
  · omega
section
variable {l : List UInt8} {n : Nat} {b : Bool} (hps : ∀ c, okC c = true → okA c → l = sayL c → spl l = wordsC c) (hNp : ∀ a, a < 18446744073709551616 → nth (spl l) 1 = hx a → n = a ∧ b = true)
include hps hNp in
theorem cand_dirty (h0 : nth (spl l) 0 = [100, 105, 114, 116, 121]) : ∀ c, okC c = true → okA c → l = sayL c → Cmd.dirty n (rdX (nth (spl l) (((spl l).length : Int) - 1).toNat)).1 = c ∧ (b && (rdX (nth (spl l) (((spl l).length : Int) - 1).toNat)).2) = true := by
  intro c q1 q2 q3
  have hw := hps c q1 q2 q3
  have e0 : nth (spl l) 0 = nth (wordsC c) 0 := by rw [hw]
  have e1 : nth (spl l) 1 = nth (wordsC c) 1 := by rw [hw]
  have e2 : nth (spl l) (((spl l).length : Int) - 1).toNat = nth (wordsC c) ((((wordsC c).length : Nat) : Int) - 1).toNat := by rw [hw]
  rw [h0] at e0
  cases c with
  | no => exact absurd q1 (by decide)
  | dirty a d =>
    obtain ⟨rfl, rfl⟩ := hNp a q2.1 e1
    have e3 : (nth (spl l) (((spl l).length : Int) - 1).toNat) = dataL d := e2
    rw [e3, rd_data]
    exact ⟨rfl, rfl⟩
  | fill a d => exact absurd (show ([100, 105, 114, 116, 121] : List UInt8) = [102, 105, 108, 108] from e0) (by decide)
  | rd a => exact absurd (show ([100, 105, 114, 116, 121] : List UInt8) = [114, 101, 97, 100] from e0) (by decide)
  | evict a => exact absurd (show ([100, 105, 114, 116, 121] : List UInt8) = [101, 118, 105, 99, 116] from e0) (by decide)
  | clean a => exact absurd (show ([100, 105, 114, 116, 121] : List UInt8) = [99, 108, 101, 97, 110] from e0) (by decide)
  | exi a m => exact absurd (show ([100, 105, 114, 116, 121] : List UInt8) = [101, 120, 105, 115, 116, 115] from e0) (by decide)
include hps hNp in
theorem cand_fill (h0 : nth (spl l) 0 = [102, 105, 108, 108]) : ∀ c, okC c = true → okA c → l = sayL c → Cmd.fill n (rdX (nth (spl l) (((spl l).length : Int) - 1).toNat)).1 = c ∧ (b && (rdX (nth (spl l) (((spl l).length : Int) - 1).toNat)).2) = true := by
  intro c q1 q2 q3
  have hw := hps c q1 q2 q3
  have e0 : nth (spl l) 0 = nth (wordsC c) 0 := by rw [hw]
  have e1 : nth (spl l) 1 = nth (wordsC c) 1 := by rw [hw]
  have e2 : nth (spl l) (((spl l).length : Int) - 1).toNat = nth (wordsC c) ((((wordsC c).length : Nat) : Int) - 1).toNat := by rw [hw]
  rw [h0] at e0
  cases c with
  | no => exact absurd q1 (by decide)
  | dirty a d => exact absurd (show ([102, 105, 108, 108] : List UInt8) = [100, 105, 114, 116, 121] from e0) (by decide)
  | fill a d =>
    obtain ⟨rfl, rfl⟩ := hNp a q2.1 e1
    have e3 : (nth (spl l) (((spl l).length : Int) - 1).toNat) = dataL d := e2
    rw [e3, rd_data]
    exact ⟨rfl, rfl⟩
  | rd a => exact absurd (show ([102, 105, 108, 108] : List UInt8) = [114, 101, 97, 100] from e0) (by decide)
  | evict a => exact absurd (show ([102, 105, 108, 108] : List UInt8) = [101, 118, 105, 99, 116] from e0) (by decide)
  | clean a => exact absurd (show ([102, 105, 108, 108] : List UInt8) = [99, 108, 101, 97, 110] from e0) (by decide)
  | exi a m => exact absurd (show ([102, 105, 108, 108] : List UInt8) = [101, 120, 105, 115, 116, 115] from e0) (by decide)
include hps hNp in
theorem cand_rd (h0 : nth (spl l) 0 = [114, 101, 97, 100]) : ∀ c, okC c = true → okA c → l = sayL c → Cmd.rd n = c ∧ (b) = true := by
  intro c q1 q2 q3
  have hw := hps c q1 q2 q3
  have e0 : nth (spl l) 0 = nth (wordsC c) 0 := by rw [hw]
  have e1 : nth (spl l) 1 = nth (wordsC c) 1 := by rw [hw]
  have e2 : nth (spl l) (((spl l).length : Int) - 1).toNat = nth (wordsC c) ((((wordsC c).length : Nat) : Int) - 1).toNat := by rw [hw]
  rw [h0] at e0
  cases c with
  | no => exact absurd q1 (by decide)
  | dirty a d => exact absurd (show ([114, 101, 97, 100] : List UInt8) = [100, 105, 114, 116, 121] from e0) (by decide)
  | fill a d => exact absurd (show ([114, 101, 97, 100] : List UInt8) = [102, 105, 108, 108] from e0) (by decide)
  | rd a =>
    obtain ⟨rfl, rfl⟩ := hNp a q2 e1
    exact ⟨rfl, rfl⟩
  | evict a => exact absurd (show ([114, 101, 97, 100] : List UInt8) = [101, 118, 105, 99, 116] from e0) (by decide)
  | clean a => exact absurd (show ([114, 101, 97, 100] : List UInt8) = [99, 108, 101, 97, 110] from e0) (by decide)
  | exi a m => exact absurd (show ([114, 101, 97, 100] : List UInt8) = [101, 120, 105, 115, 116, 115] from e0) (by decide)
include hps hNp in
theorem cand_evict (h0 : nth (spl l) 0 = [101, 118, 105, 99, 116]) : ∀ c, okC c = true → okA c → l = sayL c → Cmd.evict n = c ∧ (b) = true := by
  intro c q1 q2 q3
  have hw := hps c q1 q2 q3
  have e0 : nth (spl l) 0 = nth (wordsC c) 0 := by rw [hw]
  have e1 : nth (spl l) 1 = nth (wordsC c) 1 := by rw [hw]
  have e2 : nth (spl l) (((spl l).length : Int) - 1).toNat = nth (wordsC c) ((((wordsC c).length : Nat) : Int) - 1).toNat := by rw [hw]
  rw [h0] at e0
  cases c with
  | no => exact absurd q1 (by decide)
  | dirty a d => exact absurd (show ([101, 118, 105, 99, 116] : List UInt8) = [100, 105, 114, 116, 121] from e0) (by decide)
  | fill a d => exact absurd (show ([101, 118, 105, 99, 116] : List UInt8) = [102, 105, 108, 108] from e0) (by decide)
  | rd a => exact absurd (show ([101, 118, 105, 99, 116] : List UInt8) = [114, 101, 97, 100] from e0) (by decide)
  | evict a =>
    obtain ⟨rfl, rfl⟩ := hNp a q2 e1
    exact ⟨rfl, rfl⟩
  | clean a => exact absurd (show ([101, 118, 105, 99, 116] : List UInt8) = [99, 108, 101, 97, 110] from e0) (by decide)
  | exi a m => exact absurd (show ([101, 118, 105, 99, 116] : List UInt8) = [101, 120, 105, 115, 116, 115] from e0) (by decide)
include hps hNp in
theorem cand_clean (h0 : nth (spl l) 0 = [99, 108, 101, 97, 110]) : ∀ c, okC c = true → okA c → l = sayL c → Cmd.clean n = c ∧ (b) = true := by
  intro c q1 q2 q3
  have hw := hps c q1 q2 q3
  have e0 : nth (spl l) 0 = nth (wordsC c) 0 := by rw [hw]
  have e1 : nth (spl l) 1 = nth (wordsC c) 1 := by rw [hw]
  have e2 : nth (spl l) (((spl l).length : Int) - 1).toNat = nth (wordsC c) ((((wordsC c).length : Nat) : Int) - 1).toNat := by rw [hw]
  rw [h0] at e0
  cases c with
  | no => exact absurd q1 (by decide)
  | dirty a d => exact absurd (show ([99, 108, 101, 97, 110] : List UInt8) = [100, 105, 114, 116, 121] from e0) (by decide)
  | fill a d => exact absurd (show ([99, 108, 101, 97, 110] : List UInt8) = [102, 105, 108, 108] from e0) (by decide)
  | rd a => exact absurd (show ([99, 108, 101, 97, 110] : List UInt8) = [114, 101, 97, 100] from e0) (by decide)
  | evict a => exact absurd (show ([99, 108, 101, 97, 110] : List UInt8) = [101, 118, 105, 99, 116] from e0) (by decide)
  | clean a =>
    obtain ⟨rfl, rfl⟩ := hNp a q2 e1
    exact ⟨rfl, rfl⟩
  | exi a m => exact absurd (show ([99, 108, 101, 97, 110] : List UInt8) = [101, 120, 105, 115, 116, 115] from e0) (by decide)
include hps hNp in
theorem cand_exi {v : Int} {e : Bool} (hAp : ∀ m : Int, 0 ≤ m → m ≤ 64 → (nth (spl l) (((spl l).length : Int) - 1).toNat) = itoU m → v = m ∧ e = true) (h0 : nth (spl l) 0 = [101, 120, 105, 115, 116, 115]) : ∀ c, okC c = true → okA c → l = sayL c → Cmd.exi n v = c ∧ (b && e) = true := by
  intro c q1 q2 q3
  have hw := hps c q1 q2 q3
  have e0 : nth (spl l) 0 = nth (wordsC c) 0 := by rw [hw]
  have e1 : nth (spl l) 1 = nth (wordsC c) 1 := by rw [hw]
  have e2 : nth (spl l) (((spl l).length : Int) - 1).toNat = nth (wordsC c) ((((wordsC c).length : Nat) : Int) - 1).toNat := by rw [hw]
  rw [h0] at e0
  cases c with
  | no => exact absurd q1 (by decide)
  | dirty a d => exact absurd (show ([101, 120, 105, 115, 116, 115] : List UInt8) = [100, 105, 114, 116, 121] from e0) (by decide)
  | fill a d => exact absurd (show ([101, 120, 105, 115, 116, 115] : List UInt8) = [102, 105, 108, 108] from e0) (by decide)
  | rd a => exact absurd (show ([101, 120, 105, 115, 116, 115] : List UInt8) = [114, 101, 97, 100] from e0) (by decide)
  | evict a => exact absurd (show ([101, 120, 105, 115, 116, 115] : List UInt8) = [101, 118, 105, 99, 116] from e0) (by decide)
  | clean a => exact absurd (show ([101, 120, 105, 115, 116, 115] : List UInt8) = [99, 108, 101, 97, 110] from e0) (by decide)
  | exi a m =>
    obtain ⟨rfl, rfl⟩ := hNp a q2.1 e1
    have q5 : 0 ≤ m ∧ m ≤ 64 := by simpa [okC] using q1
    obtain ⟨rfl, rfl⟩ := hAp m q5.1 q5.2 e2
    exact ⟨rfl, rfl⟩
include hps in
theorem cand_no (h1 : ¬ nth (spl l) 0 = [100, 105, 114, 116, 121]) (h2 : ¬ nth (spl l) 0 = [102, 105, 108, 108]) (h3 : ¬ nth (spl l) 0 = [114, 101, 97, 100]) (h4 : ¬ nth (spl l) 0 = [101, 118, 105, 99, 116]) (h5 : ¬ nth (spl l) 0 = [99, 108, 101, 97, 110]) (h6 : ¬ nth (spl l) 0 = [101, 120, 105, 115, 116, 115]) : ∀ c, okC c = true → okA c → l = sayL c → Cmd.no = c ∧ b = true := by
  intro c q1 q2 q3
  have hw := hps c q1 q2 q3
  have e0 : nth (spl l) 0 = nth (wordsC c) 0 := by rw [hw]
  cases c with
  | no => exact absurd q1 (by decide)
  | dirty a d => exact absurd e0 h1
  | fill a d => exact absurd e0 h2
  | rd a => exact absurd e0 h3
  | evict a => exact absurd e0 h4
  | clean a => exact absurd e0 h5
  | exi a m => exact absurd e0 h6
end
set_option maxRecDepth 10000 in
set_option maxHeartbeats 2000000 in
theorem read_con (l : List UInt8) (hl : l.length ≤ 1000000) : Con Tryd.prog 9 [.lit (.string (strOf l))] [] (fun az hz => hz = [] ∧ ((∃ c, okC c = true ∧ okA c ∧ l = sayL c ∧ az = .tup [cmdA c, .lit .nilIface]) ∨ ((∀ c, okC c = true → okA c → l ≠ sayL c) ∧ az = .tup [.lit .nilIface, .snap (errF 85 (3))]))) := by
  refine con_of hT Tryd.func9 rfl rfl rfl rfl rfl rfl ?_
  intro c
  have hT := hT
  have hZ := hZ
  have hpos := spl_pos l
  have hmax := spl_max l
  have hps : ∀ c, okC c = true → okA c → l = sayL c → spl l = wordsC c := fun c h1 _ e => by rw [e]; exact spl_say c h1
  have hsp := split_con l (by omega) (by omega)
  have hw2 : ∀ c, okC c = true → 2 ≤ (wordsC c).length := fun c h => by cases c <;> first | (exact absurd h (by decide)) | simp [wordsC]
  refine a_cutAt 0 25 (fun p : Cmd × Bool => okA p.1 ∧ ∀ c, okC c = true → okA c → l = sayL c → p.1 = c ∧ p.2 = true) (fun p => [(2, .lit .nilIface), (3, .lit .nilIface), (0, .lit (.string (strOf l))), (6, .lit (.bool p.2)), (8, cmdA p.1)]) (fun _ => []) (hx := ?_) (hy := ?_)
  · refine .mk ?_
    by_cases h2 : (spl l).length < 2
    · repeat' (first | refine acut_at rfl ?_ | refine acut_go rfl ?_ | refine a_seq ?_ | refine ar_step ?_ | refine a_block ?_ | refine a_skip ?_ | refine a_exit ?_ | refine a_ret ?_ | refine a_label ?_ | refine a_scope ?_ | refine a_region ?_ | refine at_normal ?_ | refine at_exit ?_ | refine at_ret ?_ | refine ab_normal ?_ | refine ab_ret ?_ | refine ab_same ?_ | refine ab_other rfl ?_ | refine ao_nil ?_ | (refine a_cond rfl (fun hb => ?_) (fun hb => ?_) <;> (try simp only [reduceCtorEq, ne_eq, decs] at hb) <;> (try (exfalso; omega)) <;> (try exact (bool_ft hb (by assumption)).elim) <;> (try exact (bool_ft (by assumption) hb).elim)) | refine ao_alloc' (next := ?_) | refine ao_box' (next := ?_) | refine ao_store (next := ?_) | refine ao_store_own (next := ?_) | refine ao_store_ownR (next := ?_) | refine ao_append_same (next := ?_) | refine ao_append_nil (next := ?_) | refine ao_append_new (next := ?_) | refine ao_mkErr (next := ?_) | refine ao_clip (next := ?_) | refine ao_store_arr (next := ?_) | ((first | (apply ao_op rfl rfl (.plain rfl ?_) ?_; rotate_left) | (apply ao_op rfl rfl (.guard rfl rfl rfl fun hg => ?_) ?_; rotate_right) | (apply ao_op rfl rfl (.guardw rfl rfl rfl fun hg => ?_) ?_; rotate_right)); (try (have hg2 := hg; simp only [reduceCtorEq, ne_eq, decs] at hg2)); (first | (apply sop_callN (hsp) <;> first | exact sd) | (apply sop_callN (wrong_con _ ?_) <;> first | exact sd) | (apply sop_callNM (hN) <;> first | exact sd) | (apply sop_callNM (hD) <;> first | exact sd) | (apply sop_callNM (hA) <;> first | exact sd) | exact sop_eql_str | exact sop_eql_ni | exact sop_mkIfaceA | exact sop_std | exact sop_false (by revert hg; decide) | fail)))
      first | refine aend0 (by first | exact .inl rfl | exact .inr rfl) []  (by repeat (first | exact covL_nil | refine covL_dup rfl ?_ | refine covL_cons rfl rfl ?_)) ?_ | refine aend1 (by first | exact .inl rfl | exact .inr rfl) [] (by first | exact .tmp rfl | exact .cell rfl rfl rfl rfl rfl | exact .cellA rfl rfl rfl rfl rfl) (by repeat (first | exact covL_nil | refine covL_dup rfl ?_ | refine covL_cons rfl rfl ?_)) ?_ | refine aend2 (by first | exact .inl rfl | exact .inr rfl) [] (by first | exact .tmp rfl | exact .cell rfl rfl rfl rfl rfl | exact .cellA rfl rfl rfl rfl rfl) (by first | exact .tmp rfl | exact .cell rfl rfl rfl rfl rfl | exact .cellA rfl rfl rfl rfl rfl) (by repeat (first | exact covL_nil | refine covL_dup rfl ?_ | refine covL_cons rfl rfl ?_)) ?_ | refine aend3 (by first | exact .inl rfl | exact .inr rfl) [] (by first | exact .tmp rfl | exact .cell rfl rfl rfl rfl rfl | exact .cellA rfl rfl rfl rfl rfl) (by first | exact .tmp rfl | exact .cell rfl rfl rfl rfl rfl | exact .cellA rfl rfl rfl rfl rfl) (by first | exact .tmp rfl | exact .cell rfl rfl rfl rfl rfl | exact .cellA rfl rfl rfl rfl rfl) (by repeat (first | exact covL_nil | refine covL_dup rfl ?_ | refine covL_cons rfl rfl ?_)) ?_
      refine ⟨rfl, .inr ⟨fun c q1 q2 q3 => ?_, rfl⟩⟩
      have := hw2 c q1
      rw [← hps c q1 q2 q3] at this
      omega
    · obtain ⟨n, b, hn, hN, _, hNp⟩ := numX (nth (spl l) 1) (by have := spl_len l (k := 1) (by omega); omega)
      have hla := spl_len l (k := (spl l).length - 1) (by omega)
      have hlast : (((spl l).length : Int) - 1).toNat = (spl l).length - 1 := by omega
      rw [← hlast] at hla
      have hD := rd_con (nth (spl l) (((spl l).length : Int) - 1).toNat) (by omega)
      have hDl := rdX_len (nth (spl l) (((spl l).length : Int) - 1).toNat)
      obtain ⟨v, e, hv, hA, hAp⟩ := atX (nth (spl l) (((spl l).length : Int) - 1).toNat) (by omega)
      repeat' (first | refine acut_at rfl ?_ | refine acut_go rfl ?_ | refine a_seq ?_ | refine ar_step ?_ | refine a_block ?_ | refine a_skip ?_ | refine a_exit ?_ | refine a_ret ?_ | refine a_label ?_ | refine a_scope ?_ | refine a_region ?_ | refine at_normal ?_ | refine at_exit ?_ | refine at_ret ?_ | refine ab_normal ?_ | refine ab_ret ?_ | refine ab_same ?_ | refine ab_other rfl ?_ | refine ao_nil ?_ | (refine a_cond rfl (fun hb => ?_) (fun hb => ?_) <;> (try simp only [reduceCtorEq, ne_eq, decs] at hb) <;> (try (exfalso; omega)) <;> (try exact (bool_ft hb (by assumption)).elim) <;> (try exact (bool_ft (by assumption) hb).elim)) | refine ao_alloc' (next := ?_) | refine ao_box' (next := ?_) | refine ao_store (next := ?_) | refine ao_store_own (next := ?_) | refine ao_store_ownR (next := ?_) | refine ao_append_same (next := ?_) | refine ao_append_nil (next := ?_) | refine ao_append_new (next := ?_) | refine ao_mkErr (next := ?_) | refine ao_clip (next := ?_) | refine ao_store_arr (next := ?_) | ((first | (apply ao_op rfl rfl (.plain rfl ?_) ?_; rotate_left) | (apply ao_op rfl rfl (.guard rfl rfl rfl fun hg => ?_) ?_; rotate_right) | (apply ao_op rfl rfl (.guardw rfl rfl rfl fun hg => ?_) ?_; rotate_right)); (try (have hg2 := hg; simp only [reduceCtorEq, ne_eq, decs] at hg2)); (first | (apply sop_callN (hsp) <;> first | exact sd) | (apply sop_callN (wrong_con _ ?_) <;> first | exact sd) | (apply sop_callNM (hN) <;> first | exact sd) | (apply sop_callNM (hD) <;> first | exact sd) | (apply sop_callNM (hA) <;> first | exact sd) | exact sop_eql_str | exact sop_eql_ni | exact sop_mkIfaceA | exact sop_std | exact sop_false (by revert hg; decide) | fail)))
      all_goals first | contradiction | (refine amid (Cmd.dirty n (rdX (nth (spl l) (((spl l).length : Int) - 1).toNat)).1, b && (rdX (nth (spl l) (((spl l).length : Int) - 1).toNat)).2) ⟨⟨hn, by omega⟩, cand_dirty hps hNp (by assumption)⟩ ⟨?_, ?_⟩ <;> (repeat (first | exact covL_nil | refine covL_dup rfl ?_ | refine covL_cons rfl rfl ?_)) <;> fail) | (refine amid (Cmd.fill n (rdX (nth (spl l) (((spl l).length : Int) - 1).toNat)).1, b && (rdX (nth (spl l) (((spl l).length : Int) - 1).toNat)).2) ⟨⟨hn, by omega⟩, cand_fill hps hNp (by assumption)⟩ ⟨?_, ?_⟩ <;> (repeat (first | exact covL_nil | refine covL_dup rfl ?_ | refine covL_cons rfl rfl ?_)) <;> fail) | (refine amid (Cmd.rd n, b) ⟨hn, cand_rd hps hNp (by assumption)⟩ ⟨?_, ?_⟩ <;> (repeat (first | exact covL_nil | refine covL_dup rfl ?_ | refine covL_cons rfl rfl ?_)) <;> fail) | (refine amid (Cmd.evict n, b) ⟨hn, cand_evict hps hNp (by assumption)⟩ ⟨?_, ?_⟩ <;> (repeat (first | exact covL_nil | refine covL_dup rfl ?_ | refine covL_cons rfl rfl ?_)) <;> fail) | (refine amid (Cmd.clean n, b) ⟨hn, cand_clean hps hNp (by assumption)⟩ ⟨?_, ?_⟩ <;> (repeat (first | exact covL_nil | refine covL_dup rfl ?_ | refine covL_cons rfl rfl ?_)) <;> fail) | (refine amid (Cmd.exi n v, b && e) ⟨⟨hn, hv⟩, cand_exi hps hNp hAp (by assumption)⟩ ⟨?_, ?_⟩ <;> (repeat (first | exact covL_nil | refine covL_dup rfl ?_ | refine covL_cons rfl rfl ?_)) <;> fail) | (refine amid (Cmd.no, b) ⟨trivial, cand_no hps (by assumption) (by assumption) (by assumption) (by assumption) (by assumption) (by assumption)⟩ ⟨?_, ?_⟩ <;> (repeat (first | exact covL_nil | refine covL_dup rfl ?_ | refine covL_cons rfl rfl ?_)) <;> fail) | trace_state
  · rintro ⟨c0, b0⟩ ⟨hok, hg⟩
    dsimp only at hok hg ⊢
    repeat' (first | refine a_seq ?_ | refine ar_step ?_ | refine a_block ?_ | refine a_skip ?_ | refine a_exit ?_ | refine a_ret ?_ | refine a_label ?_ | refine a_scope ?_ | refine a_region ?_ | refine at_normal ?_ | refine at_exit ?_ | refine at_ret ?_ | refine ab_normal ?_ | refine ab_ret ?_ | refine ab_same ?_ | refine ab_other rfl ?_ | refine ao_nil ?_ | (refine a_cond rfl (fun hb => ?_) (fun hb => ?_) <;> (try simp only [reduceCtorEq, ne_eq, decs] at hb) <;> (try (exfalso; omega)) <;> (try exact (bool_ft hb (by assumption)).elim) <;> (try exact (bool_ft (by assumption) hb).elim)) | refine ao_alloc' (next := ?_) | refine ao_box' (next := ?_) | refine ao_store (next := ?_) | refine ao_store_own (next := ?_) | refine ao_store_ownR (next := ?_) | refine ao_append_same (next := ?_) | refine ao_append_nil (next := ?_) | refine ao_append_new (next := ?_) | refine ao_mkErr (next := ?_) | refine ao_clip (next := ?_) | refine ao_store_arr (next := ?_) | ((first | (apply ao_op rfl rfl (.plain rfl ?_) ?_; rotate_left) | (apply ao_op rfl rfl (.guard rfl rfl rfl fun hg => ?_) ?_; rotate_right) | (apply ao_op rfl rfl (.guardw rfl rfl rfl fun hg => ?_) ?_; rotate_right)); (try (have hg2 := hg; simp only [reduceCtorEq, ne_eq, decs] at hg2)); (first | (apply sop_callN (say_con _ hok) <;> first | exact sd) | (apply sop_callN (wrong_con _ ?_) <;> first | exact sd) | exact sop_neq_str | exact sop_std | exact sop_false (by revert hg; decide) | fail)))
    · first | refine aend0 (by first | exact .inl rfl | exact .inr rfl) []  (by repeat (first | exact covL_nil | refine covL_dup rfl ?_ | refine covL_cons rfl rfl ?_)) ?_ | refine aend1 (by first | exact .inl rfl | exact .inr rfl) [] (by first | exact .tmp rfl | exact .cell rfl rfl rfl rfl rfl | exact .cellA rfl rfl rfl rfl rfl) (by repeat (first | exact covL_nil | refine covL_dup rfl ?_ | refine covL_cons rfl rfl ?_)) ?_ | refine aend2 (by first | exact .inl rfl | exact .inr rfl) [] (by first | exact .tmp rfl | exact .cell rfl rfl rfl rfl rfl | exact .cellA rfl rfl rfl rfl rfl) (by first | exact .tmp rfl | exact .cell rfl rfl rfl rfl rfl | exact .cellA rfl rfl rfl rfl rfl) (by repeat (first | exact covL_nil | refine covL_dup rfl ?_ | refine covL_cons rfl rfl ?_)) ?_ | refine aend3 (by first | exact .inl rfl | exact .inr rfl) [] (by first | exact .tmp rfl | exact .cell rfl rfl rfl rfl rfl | exact .cellA rfl rfl rfl rfl rfl) (by first | exact .tmp rfl | exact .cell rfl rfl rfl rfl rfl | exact .cellA rfl rfl rfl rfl rfl) (by first | exact .tmp rfl | exact .cell rfl rfl rfl rfl rfl | exact .cellA rfl rfl rfl rfl rfl) (by repeat (first | exact covL_nil | refine covL_dup rfl ?_ | refine covL_cons rfl rfl ?_)) ?_
      refine ⟨rfl, .inr ⟨fun c q1 q2 q3 => ?_, rfl⟩⟩
      obtain ⟨rfl, rfl⟩ := hg c q1 q2 q3
      have := say0 q1
      rcases hb with (h | h) | h
      · cases h
      · exact h this.2
      · exact h (this.1.trans q3.symm)
    · first | refine aend0 (by first | exact .inl rfl | exact .inr rfl) []  (by repeat (first | exact covL_nil | refine covL_dup rfl ?_ | refine covL_cons rfl rfl ?_)) ?_ | refine aend1 (by first | exact .inl rfl | exact .inr rfl) [] (by first | exact .tmp rfl | exact .cell rfl rfl rfl rfl rfl | exact .cellA rfl rfl rfl rfl rfl) (by repeat (first | exact covL_nil | refine covL_dup rfl ?_ | refine covL_cons rfl rfl ?_)) ?_ | refine aend2 (by first | exact .inl rfl | exact .inr rfl) [] (by first | exact .tmp rfl | exact .cell rfl rfl rfl rfl rfl | exact .cellA rfl rfl rfl rfl rfl) (by first | exact .tmp rfl | exact .cell rfl rfl rfl rfl rfl | exact .cellA rfl rfl rfl rfl rfl) (by repeat (first | exact covL_nil | refine covL_dup rfl ?_ | refine covL_cons rfl rfl ?_)) ?_ | refine aend3 (by first | exact .inl rfl | exact .inr rfl) [] (by first | exact .tmp rfl | exact .cell rfl rfl rfl rfl rfl | exact .cellA rfl rfl rfl rfl rfl) (by first | exact .tmp rfl | exact .cell rfl rfl rfl rfl rfl | exact .cellA rfl rfl rfl rfl rfl) (by first | exact .tmp rfl | exact .cell rfl rfl rfl rfl rfl | exact .cellA rfl rfl rfl rfl rfl) (by repeat (first | exact covL_nil | refine covL_dup rfl ?_ | refine covL_cons rfl rfl ?_)) ?_
      have hc := say1 hb.1.2
      exact ⟨rfl, .inl ⟨c0, hc, hok, hb.2.symm.trans (say0 hc).1, rfl⟩⟩
end Go.Proofs.YtgiicfjibngooaaDoor
