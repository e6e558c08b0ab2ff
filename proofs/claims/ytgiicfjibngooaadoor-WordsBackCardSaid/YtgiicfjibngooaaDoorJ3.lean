/- Words of our own for walks over abstract values, laid together. Nothing of the program stands here. -/
import Derived.Test.YtgiicfjibngooaaDoorTT24
import Derived.Test.YtgiicfjibngooaaDoorJ1
import Derived.Test.YtgiicfjibngooaaDoorSh24
import Derived.Test.YtgiicfjibngooaaDoorJ2
/- Runes that are good. -/
namespace Go.Proofs.YtgiicfjibngooaaDoor
open Go Go.RowKit
set_option linter.unusedVariables false
set_option linter.unusedSimpArgs false

end Go.Proofs.YtgiicfjibngooaaDoor

/- Names: what may be one; plain laws. -/
namespace Go.Proofs.YtgiicfjibngooaaDoor
open Go Go.RowKit
set_option linter.unusedVariables false
set_option linter.unusedSimpArgs false

end Go.Proofs.YtgiicfjibngooaaDoor

/- Names, walked. -/
namespace Go.Proofs.YtgiicfjibngooaaDoor
open Go Go.RowKit
set_option linter.unusedVariables false
set_option linter.unusedSimpArgs false

end Go.Proofs.YtgiicfjibngooaaDoor

/- Columns, beginnings, small letters of names; plain laws. -/
namespace Go.Proofs.YtgiicfjibngooaaDoor
open Go Go.RowKit
set_option linter.unusedVariables false
set_option linter.unusedSimpArgs false

end Go.Proofs.YtgiicfjibngooaaDoor

/- Columns and beginnings of names, walked. -/
namespace Go.Proofs.YtgiicfjibngooaaDoor
open Go Go.RowKit
set_option linter.unusedVariables false
set_option linter.unusedSimpArgs false
theorem clone_con (l : List UInt8) (hl : l.length ≤ 70368744177664) : Con Tryd.prog 44 [.lit (.string (strOf l))] [] (fun az hz => az = .lit (.string (strOf l)) ∧ hz = []) :=
  con_lit (us := [.string (strOf l)]) fun S w hs => Tryd.stringslite_Clone (strOf l) w (by rw [strOf_size]; omega)
set_option maxRecDepth 10000 in
set_option maxHeartbeats 400000 in
theorem clone_s (l : List UInt8) (hl : l.length ≤ 70368744177664) : Con Tryd.prog 32 [.lit (.string (strOf l))] [] (fun az hz => az = .lit (.string (strOf l)) ∧ hz = []) := by
  refine con_of hT Tryd.func32 rfl rfl rfl rfl rfl rfl ?_
  intro c
  have hT := hT
  have hZ := hZ
  repeat' (first | refine a_seq ?_ | refine ar_step ?_ | refine a_block ?_ | refine a_skip ?_ | refine a_exit ?_ | refine a_ret ?_ | refine a_label ?_ | refine a_scope ?_ | refine a_region ?_ | refine a_region_U' rfl (by kernel_rfl) (by kernel_rfl) (by kernel_rfl) (by kernel_rfl) (by assumption) (by assumption) rfl ?_ | refine a_region_tailN rfl rfl (by kernel_rfl) (by kernel_rfl) (by kernel_rfl) (by kernel_rfl) (by assumption) rfl rfl ?_ | refine a_region_tailA rfl rfl (by kernel_rfl) (by kernel_rfl) (by kernel_rfl) (by kernel_rfl) (by assumption) rfl rfl rfl ?_ | refine a_region_tail rfl (by kernel_rfl) (by kernel_rfl) (by kernel_rfl) (by kernel_rfl) ?_ | refine a_region_tailR rfl (by kernel_rfl) (by kernel_rfl) (by kernel_rfl) (by kernel_rfl) ?_ | refine a_region_any (by kernel_rfl) (by kernel_rfl) (by kernel_rfl) ?_ | refine at_normal ?_ | refine at_exit ?_ | refine at_ret ?_ | refine ab_normal ?_ | refine ab_ret ?_ | refine ab_same ?_ | refine ab_other rfl ?_ | refine ao_nil ?_ | refine EvK.nil ?_ | refine EvU.nil ?_ | refine EvU.alloc rfl rfl ?_ | refine EvU.store rfl rfl rfl rfl rfl (by first | exact .un rfl (by first | assumption | exact And.left (by assumption)) | exact .of rfl) rfl rfl rfl rfl rfl ?_ | refine tailA_k rfl rfl ?_ | refine tailA_k trivial rfl ?_ | refine tailA_k trivial (by kernel_rfl) ?_ | (refine a_cond rfl (fun hb => ?_) (fun hb => ?_) <;> (try simp only [reduceCtorEq, bne_self_eq_false, not_true_eq_false, not_false_eq_true, or_self, and_false, false_and, or_true, true_or, or_false, false_or, and_true, true_and, and_self, decide_eq_true_eq, decide_eq_false_iff_not, Bool.and_eq_true, Bool.or_eq_true, Bool.or_eq_false_iff, Bool.and_eq_false_iff, Bool.not_eq_true', Bool.not_eq_false', Bool.not_true, Bool.not_false, ne_eq, Classical.not_not, Nat.not_lt, Int.not_lt, Int.not_le] at hb) <;> (try (exfalso; omega)) <;> (try exact (bool_ft hb (by assumption)).elim) <;> (try exact (bool_ft (by assumption) hb).elim)) | refine ao_alloc' (next := ?_) | refine ao_box' (next := ?_) | refine ao_store (next := ?_) | refine ao_store_own (next := ?_) | refine ao_store_ownR (next := ?_) | refine ao_append_same (next := ?_) | refine ao_append_nil (next := ?_) | refine ao_append_new (next := ?_) | refine ao_mkErr (next := ?_) | refine ao_clip (next := ?_) | refine ao_store_arr (next := ?_) | ((first | (apply ao_op rfl rfl (.plain rfl ?_) ?_; rotate_left) | (apply EvK.cons rfl (.plain rfl ?_) ?_; rotate_left) | (apply EvU.plain rfl rfl rfl ?_ ?_; rotate_left) | (apply ao_op rfl rfl (.guard rfl rfl rfl fun hg => ?_) ?_; rotate_right) | (apply ao_op rfl rfl (.guardw rfl rfl rfl fun hg => ?_) ?_; rotate_right) | (apply EvK.cons rfl (.guard rfl rfl rfl fun hg => ?_) ?_; rotate_right) | (apply EvK.cons rfl (.guardw rfl rfl rfl fun hg => ?_) ?_; rotate_right)); (try (have hg2 := hg; simp only [reduceCtorEq, bne_self_eq_false, not_true_eq_false, not_false_eq_true, or_self, and_false, false_and, or_true, true_or, or_false, false_or, and_true, true_and, and_self, decide_eq_true_eq, decide_eq_false_iff_not, Bool.and_eq_true, Bool.or_eq_true, Bool.or_eq_false_iff, Bool.and_eq_false_iff, Bool.not_eq_true', Bool.not_eq_false', Bool.not_true, Bool.not_false, ne_eq, Classical.not_not, Nat.not_lt, Int.not_lt, Int.not_le] at hg2)); (first | (apply sop_callC (clone_con _ ?_) <;> first | exact sd) | exact sop_std | exact sop_false (by revert hg; decide) | fail)))
  first | refine aend0 (by first | exact .inl rfl | exact .inr rfl) []  (by repeat (first | exact covL_nil | refine covL_dup rfl ?_ | refine covL_cons rfl rfl ?_)) ?_ | refine aend1 (by first | exact .inl rfl | exact .inr rfl) [] (by first | exact .tmp rfl | exact .cell rfl rfl rfl rfl rfl | exact .cellA rfl rfl rfl rfl rfl) (by repeat (first | exact covL_nil | refine covL_dup rfl ?_ | refine covL_cons rfl rfl ?_)) ?_ | refine aend2 (by first | exact .inl rfl | exact .inr rfl) [] (by first | exact .tmp rfl | exact .cell rfl rfl rfl rfl rfl | exact .cellA rfl rfl rfl rfl rfl) (by first | exact .tmp rfl | exact .cell rfl rfl rfl rfl rfl | exact .cellA rfl rfl rfl rfl rfl) (by repeat (first | exact covL_nil | refine covL_dup rfl ?_ | refine covL_cons rfl rfl ?_)) ?_ | refine aend3 (by first | exact .inl rfl | exact .inr rfl) [] (by first | exact .tmp rfl | exact .cell rfl rfl rfl rfl rfl | exact .cellA rfl rfl rfl rfl rfl) (by first | exact .tmp rfl | exact .cell rfl rfl rfl rfl rfl | exact .cellA rfl rfl rfl rfl rfl) (by first | exact .tmp rfl | exact .cell rfl rfl rfl rfl rfl | exact .cellA rfl rfl rfl rfl rfl) (by repeat (first | exact covL_nil | refine covL_dup rfl ?_ | refine covL_cons rfl rfl ?_)) ?_
  exact ⟨rfl, rfl⟩
end Go.Proofs.YtgiicfjibngooaaDoor

/- Numbers to base 16; plain laws. -/
namespace Go.Proofs.YtgiicfjibngooaaDoor
open Go Go.RowKit
set_option linter.unusedVariables false
set_option linter.unusedSimpArgs false

/-- a digit -/
def hd (d : Nat) : UInt8 := nth ([48, 49, 50, 51, 52, 53, 54, 55, 56, 57, 97, 98, 99, 100, 101, 102, 103, 104, 105, 106, 107, 108, 109, 110, 111, 112, 113, 114, 115, 116, 117, 118, 119, 120, 121, 122] : List UInt8) d
def hexG : Nat → Nat → List UInt8
  | 0, n => [hd n]
  | f + 1, n => if n < 16 then [hd n] else hexG f (n / 16) ++ [hd (n % 16)]
/-- a number's digits -/
def hexL (n : Nat) : List UInt8 := hexG n n
theorem hexG_fuel : ∀ (f g n : Nat), n ≤ f → n ≤ g → hexG f n = hexG g n
  | 0, 0, n, _, _ => rfl
  | 0, g + 1, n, h, _ => by
    obtain rfl : n = 0 := by omega
    rfl
  | f + 1, 0, n, _, h => by
    obtain rfl : n = 0 := by omega
    rfl
  | f + 1, g + 1, n, h1, h2 => by
    show (if n < 16 then [hd n] else hexG f (n / 16) ++ [hd (n % 16)]) = (if n < 16 then [hd n] else hexG g (n / 16) ++ [hd (n % 16)])
    split
    · rfl
    · rw [hexG_fuel f g (n / 16) (by omega) (by omega)]
theorem hexL_lo {n : Nat} (h : n < 16) : hexL n = [hd n] := by
  unfold hexL
  cases n with
  | zero => rfl
  | succ k =>
    show (if k + 1 < 16 then _ else _) = _
    rw [if_pos h]
theorem hexL_hi {n : Nat} (h : ¬ n < 16) : hexL n = hexL (n / 16) ++ [hd (n % 16)] := by
  unfold hexL
  cases n with
  | zero => omega
  | succ k =>
    show (if k + 1 < 16 then _ else hexG k ((k + 1) / 16) ++ _) = _
    rw [if_neg h, hexG_fuel k ((k + 1) / 16) ((k + 1) / 16) (by omega) (Nat.le_refl _)]
theorem hexL_ne (n : Nat) : 1 ≤ (hexL n).length := by
  by_cases h : n < 16
  · rw [hexL_lo h]; simp
  · rw [hexL_hi h]; simp
theorem hexL_le : ∀ (k n : Nat), n < 16 ^ (k + 1) → (hexL n).length ≤ k + 1
  | 0, n, h => by
    rw [hexL_lo (by simpa using h)]; simp
  | k + 1, n, h => by
    by_cases h16 : n < 16
    · rw [hexL_lo h16]; simp
    · rw [hexL_hi h16, List.length_append, List.length_cons, List.length_nil]
      have := hexL_le k (n / 16) (by rw [Nat.div_lt_iff_lt_mul (by omega)]; rwa [Nat.pow_succ] at h)
      omega
theorem hexL_16 {n : Nat} (h : n < 18446744073709551616) : (hexL n).length ≤ 16 := hexL_le 15 n (by exact h)
theorem set_drop {α : Type} (xs : List α) (k : Nat) (v : α) (h : k < xs.length) : (xs.set k v).drop k = v :: xs.drop (k + 1) := by
  rw [List.drop_eq_getElem_cons (by rw [List.length_set]; exact h), List.getElem_set_self, List.drop_set_of_lt (by omega)]
def hx (n : Nat) : List UInt8 := 48 :: 120 :: hexL n
theorem hx_len {n : Nat} (h : n < 18446744073709551616) : 3 ≤ (hx n).length ∧ (hx n).length ≤ 18 := by
  have h1 := hexL_ne n
  have h2 := hexL_16 h
  unfold hx
  simp only [List.length_cons]
  omega
theorem hd_at : ∀ d : Fin 16, (d.val < 10 → (hd d.val).toNat = 48 + d.val) ∧ (10 ≤ d.val → (hd d.val).toNat = 87 + d.val) := by decide
theorem hd_eq {d : Nat} (h : d < 16) : (d < 10 ∧ (hd d).toNat = 48 + d) ∨ (10 ≤ d ∧ (hd d).toNat = 87 + d) := by
  have := hd_at ⟨d, h⟩
  dsimp only at this
  by_cases h10 : d < 10
  · exact .inl ⟨h10, this.1 h10⟩
  · exact .inr ⟨by omega, this.2 (by omega)⟩
theorem hd16_all : ∀ d : Fin 16, nth [48, 49, 50, 51, 52, 53, 54, 55, 56, 57, 97, 98, 99, 100, 101, 102] d.val = hd d.val := by decide
theorem hd_16 {d : Nat} (h : d < 16) : nth [48, 49, 50, 51, 52, 53, 54, 55, 56, 57, 97, 98, 99, 100, 101, 102] d = hd d := hd16_all ⟨d, h⟩
theorem hd_inj {a b : Nat} (ha : a < 16) (hb : b < 16) (h : hd a = hd b) : a = b := by
  have h1 := hd_eq ha
  have h2 := hd_eq hb
  rw [h] at h1
  omega
theorem hexL_inj : ∀ (k a b : Nat), a ≤ k → hexL a = hexL b → a = b
  | k, a, b, hk, h => by
    have la : ∀ n, ¬ n < 16 → 2 ≤ (hexL n).length := fun n hn => by
      rw [hexL_hi hn, List.length_append]
      have := hexL_ne (n / 16)
      simp only [List.length_cons, List.length_nil]
      omega
    by_cases h1 : a < 16
    · by_cases h2 : b < 16
      · rw [hexL_lo h1, hexL_lo h2] at h
        injection h with h _
        exact hd_inj h1 h2 h
      · have := la b h2
        rw [← h, hexL_lo h1] at this
        simp at this
    · by_cases h2 : b < 16
      · have := la a h1
        rw [h, hexL_lo h2] at this
        simp at this
      · rw [hexL_hi h1, hexL_hi h2] at h
        obtain ⟨e1, e2⟩ := List.append_inj' h rfl
        injection e2 with e2 _
        have := hd_inj (Nat.mod_lt _ (by decide)) (Nat.mod_lt _ (by decide)) e2
        match k, hk with
        | 0, hk => omega
        | k + 1, hk =>
          have := hexL_inj k (a / 16) (b / 16) (by omega) e1
          omega
theorem hx_inj {a b : Nat} (h : hx a = hx b) : a = b := by
  unfold hx at h
  injection h with _ h
  injection h with _ h
  exact hexL_inj a a b (Nat.le_refl _) h
/-- the bit 32 set -/
def lowS (c : Int) : Int := bits .or .u8 c 32
theorem lowS_all : ∀ c : Fin 256, (c.val / 32 % 2 = 1 ∧ lowS (c.val : Int) = (c.val : Int)) ∨ (c.val / 32 % 2 = 0 ∧ lowS (c.val : Int) = (c.val : Int) + 32) := by decide +kernel
theorem lowS_eq (c : UInt8) : (c.toNat / 32 % 2 = 1 ∧ lowS (c.toNat : Int) = (c.toNat : Int)) ∨ (c.toNat / 32 % 2 = 0 ∧ lowS (c.toNat : Int) = (c.toNat : Int) + 32) := lowS_all ⟨c.toNat, c.toNat_lt⟩
/-- a letter's digit, to any base up to 36 -/
def dgS (c : UInt8) : Option Nat :=
  if 48 ≤ c.toNat ∧ c.toNat ≤ 57 then some (c.toNat - 48) else if 97 ≤ lowS (c.toNat : Int) ∧ lowS (c.toNat : Int) ≤ 122 then some ((lowS (c.toNat : Int)).toNat - 87) else none
/-- a text's number: its value, and what is wrong (2: a letter, 1: too great) -/
def puF : List UInt8 → Nat → Nat × Nat
  | [], n => (n, 0)
  | c :: r, n => match dgS c with
    | none => (0, 2)
    | some d => if 16 ≤ d then (0, 2) else if 1152921504606846976 ≤ n then (18446744073709551615, 1) else puF r (n * 16 + d)
def puR (l : List UInt8) : Nat × Nat := if l = [] then (0, 2) else puF l 0
theorem puF_bd : ∀ (l : List UInt8) (n : Nat), n < 18446744073709551616 → (puF l n).1 < 18446744073709551616 ∧ (puF l n).2 ≤ 2
  | [], n, h => ⟨h, Nat.zero_le _⟩
  | c :: r, n, h => by
    unfold puF
    split
    · exact ⟨by decide, Nat.le_refl _⟩
    · split
      · exact ⟨by decide, Nat.le_refl _⟩
      · split
        · exact ⟨by decide, by decide⟩
        · exact puF_bd r _ (by omega)
theorem puR_bd (l : List UInt8) : (puR l).1 < 18446744073709551616 ∧ (puR l).2 ≤ 2 := by
  unfold puR
  split
  · exact ⟨by decide, Nat.le_refl _⟩
  · exact puF_bd l 0 (by decide)
theorem dg_hd {d : Nat} (h : d < 16) : dgS (hd d) = some d := by
  have hl := lowS_eq (hd d)
  have he := hd_eq h
  unfold dgS
  by_cases h10 : d < 10
  · rw [if_pos (by omega)]
    congr 1
    omega
  · rw [if_neg (by omega), if_pos (by omega)]
    congr 1
    omega
theorem puF_hex : ∀ (k n : Nat), n ≤ k → n < 18446744073709551616 → ∀ r, puF (hexL n ++ r) 0 = puF r n
  | k, n, hk, hn, r => by
    have step : ∀ (q d : Nat) (r : List UInt8), d < 16 → q < 1152921504606846976 → puF (hd d :: r) q = puF r (q * 16 + d) := fun q d r hd hq => by
      show (match dgS (Go.Proofs.YtgiicfjibngooaaDoor.hd d) with | none => (0, 2) | some d => if 16 ≤ d then (0, 2) else if 1152921504606846976 ≤ q then (18446744073709551615, 1) else puF r (q * 16 + d)) = _
      rw [dg_hd hd]
      show (if 16 ≤ d then (0, 2) else if 1152921504606846976 ≤ q then (18446744073709551615, 1) else puF r (q * 16 + d)) = _
      rw [if_neg (by omega), if_neg (by omega)]
    by_cases h16 : n < 16
    · rw [hexL_lo h16, List.cons_append, List.nil_append, step 0 n r h16 (by decide), Nat.zero_mul, Nat.zero_add]
    · match k, hk with
      | 0, hk => omega
      | k + 1, hk =>
        rw [hexL_hi h16, List.append_assoc, puF_hex k (n / 16) (by omega) (by omega), List.cons_append, List.nil_append, step _ _ _ (Nat.mod_lt _ (by decide)) (by omega)]
        congr 1
        omega
theorem puR_hex {n : Nat} (h : n < 18446744073709551616) : puR (hexL n) = (n, 0) := by
  unfold puR
  rw [if_neg (by intro e; have := hexL_ne n; rw [e] at this; simp at this)]
  have := puF_hex n n (Nat.le_refl _) h []
  rwa [List.append_nil] at this
/-- the document's: a lenient reading -/
def rdS (c : UInt8) (n : Nat) : Nat := if 48 ≤ c.toNat ∧ c.toNat ≤ 57 then (n * 16 + (c.toNat - 48)) % 18446744073709551616 else if 97 ≤ c.toNat ∧ c.toNat ≤ 102 then (n * 16 + (c.toNat - 87)) % 18446744073709551616 else n
def rdF : List UInt8 → Nat → Nat
  | [], n => n
  | c :: r, n => rdF r (rdS c n)
theorem rdS_lt (c : UInt8) {n : Nat} (h : n < 18446744073709551616) : rdS c n < 18446744073709551616 := by
  unfold rdS
  split
  · exact Nat.mod_lt _ (by decide)
  · split
    · exact Nat.mod_lt _ (by decide)
    · exact h
theorem rdF_app : ∀ (l : List UInt8) (c : UInt8) (n : Nat), rdF (l ++ [c]) n = rdS c (rdF l n)
  | [], c, n => rfl
  | d :: l, c, n => rdF_app l c (rdS d n)
theorem rdF_lt : ∀ (l : List UInt8) {n : Nat}, n < 18446744073709551616 → rdF l n < 18446744073709551616
  | [], n, h => h
  | c :: l, n, h => rdF_lt l (rdS_lt c h)
theorem rd_hd {d n : Nat} (h : d < 16) : rdS (hd d) n = (n * 16 + d) % 18446744073709551616 := by
  have he := hd_eq h
  unfold rdS
  by_cases h10 : d < 10
  · rw [if_pos (by omega), show (hd d).toNat - 48 = d by omega]
  · rw [if_neg (by omega), if_pos (by omega), show (hd d).toNat - 87 = d by omega]
theorem rdF_hex : ∀ (k n : Nat), n ≤ k → n < 18446744073709551616 → rdF (hexL n) 0 = n
  | k, n, hk, hn => by
    by_cases h16 : n < 16
    · rw [hexL_lo h16]
      show rdS (hd n) 0 = n
      rw [rd_hd h16]
      omega
    · match k, hk with
      | 0, hk => omega
      | k + 1, hk =>
        rw [hexL_hi h16, rdF_app, rdF_hex k (n / 16) (by omega) (by omega), rd_hd (Nat.mod_lt _ (by decide))]
        omega
/-- the document's: what stands when j digits are to come -/
def sK (n j : Nat) : List UInt8 := if j = 0 then hexL n else if n / 16 ^ j = 0 then [] else hexL (n / 16 ^ j)
theorem sK_16 {n : Nat} (h : n < 18446744073709551616) : sK n 16 = [] := by
  unfold sK
  rw [if_neg (by decide), if_pos (Nat.div_eq_of_lt (by exact h))]
theorem pow_div (n j : Nat) : n / 16 ^ (j + 1) = n / 16 ^ j / 16 := by
  rw [Nat.pow_succ, Nat.div_div_eq_div_mul]
theorem sK_step (n j : Nat) : sK n j = if sK n (j + 1) ≠ [] ∨ n / 16 ^ j % 16 ≠ 0 ∨ j = 0 then sK n (j + 1) ++ [hd (n / 16 ^ j % 16)] else sK n (j + 1) := by
  have hp := pow_div n j
  have e1 : sK n (j + 1) = if n / 16 ^ j / 16 = 0 then [] else hexL (n / 16 ^ j / 16) := by
    unfold sK
    rw [if_neg (by omega), hp]
  rw [e1]
  have e0 : sK n j = if j = 0 then hexL (n / 16 ^ j) else if n / 16 ^ j = 0 then [] else hexL (n / 16 ^ j) := by
    unfold sK
    by_cases hj : j = 0
    · subst hj
      rw [if_pos rfl, if_pos rfl, Nat.pow_zero, Nat.div_one]
    · rw [if_neg hj, if_neg hj]
  rw [e0]
  generalize n / 16 ^ j = p
  by_cases hq : p / 16 = 0
  · rw [if_pos hq]
    have hlt : p < 16 := by omega
    have hm : p % 16 = p := Nat.mod_eq_of_lt hlt
    rw [hm]
    by_cases hj : j = 0
    · rw [if_pos hj, if_pos (Or.inr (Or.inr hj)), hexL_lo hlt, List.nil_append]
    · rw [if_neg hj]
      by_cases h0 : p = 0
      · rw [if_pos h0, if_neg]
        rintro (h | h | h)
        · exact h rfl
        · exact h h0
        · exact hj h
      · rw [if_neg h0, if_pos (Or.inr (Or.inl h0)), hexL_lo hlt, List.nil_append]
  · rw [if_neg hq]
    have h16 : ¬ p < 16 := by omega
    have hne : hexL (p / 16) ≠ [] := by
      intro e
      have := hexL_ne (p / 16)
      rw [e] at this
      simp at this
    rw [if_neg (show ¬ p = 0 by omega), ite_self, if_pos (Or.inl hne), hexL_hi h16]
end Go.Proofs.YtgiicfjibngooaaDoor
