/- Percents, bars, columns, numbers: plain laws. -/
import Derived.Test.YtgcihcpojjifmaaDoorM0
import Derived.Test.YtgcihcpojjifmaaDoorL2
namespace Go.Proofs.YtgcihcpojjifmaaDoor
open Go Go.RowKit
set_option linter.unusedVariables false
set_option linter.unusedSimpArgs false

/-- how many of a hundred -/
def pctS (n of : Int) : Int := if of < 1 ∨ n < 0 then 0 else if of ≤ n then 100 else 100 * n / of
theorem share_end {n of o r : Int} (h0 : 0 ≤ r) (h1 : r < of) (h : o * of + r = 100 * n) : 100 * n / of = o := by
  have := (Int.ediv_emod_unique (a := 100 * n) (b := of) (q := o) (r := r) (by omega)).2 ⟨by rw [← h, Int.mul_comm]; omega, h0, h1⟩
  exact this.1
theorem pct_in {n of : Int} (h0 : 0 ≤ n) (h1 : n < of) : 0 ≤ 100 * n / of ∧ 100 * n / of < 100 :=
  ⟨Int.ediv_nonneg (by omega) (by omega), Int.ediv_lt_of_lt_mul (by omega) (by omega)⟩
theorem pct_bd (n of : Int) : 0 ≤ pctS n of ∧ pctS n of ≤ 100 := by
  unfold pctS
  split
  · omega
  · split
    · omega
    · have := pct_in (n := n) (of := of) (by omega) (by omega)
      omega
theorem add_one_mul (a b : Int) : (a + 1) * b = a * b + b := by rw [Int.add_mul, Int.one_mul]
/-- a text again and again -/
def repU (s : List UInt8) (k : Int) : List UInt8 := Lib.repeatL s k.toNat
theorem repU_len (s : List UInt8) (k : Int) : (repU s k).length = k.toNat * s.length := Lib.repeatL_length s _
def BLK : List UInt8 := [226, 150, 136]
def DOT : List UInt8 := [194, 183]
def barL (n of c : Int) : List UInt8 := if c < 0 ∨ 200 < c then [] else repU [226, 150, 136] (c * pctS n of / 100) ++ repU [194, 183] (c - c * pctS n of / 100)
theorem bar_full {n of c : Int} (h0 : 0 ≤ c) (h1 : c ≤ 200) : 0 ≤ c * pctS n of ∧ c * pctS n of ≤ 20000 ∧ 0 ≤ c * pctS n of / 100 ∧ c * pctS n of / 100 ≤ c := by
  have hp := pct_bd n of
  have a0 : 0 ≤ c * pctS n of := Int.mul_nonneg h0 hp.1
  have a1 : c * pctS n of ≤ c * 100 := Int.mul_le_mul_of_nonneg_left hp.2 h0
  omega
def itoU (n : Int) : List UInt8 := Lib.itoa n
/-- blanks ahead -/
def rightL (n c : Int) : List UInt8 := repU [32] (if c - ((itoU n).length : Int) < 0 then 0 else c - ((itoU n).length : Int)) ++ itoU n
def inB (n : Int) : Bool := decide (0 ≤ n) && decide (n ≤ 1073741824)
theorem may_one' {r : Int} (h : svR r) : mayL (rb [r]) = (goodR r && decide (r ≠ 45)) := by
  have hs : ∀ x ∈ [r], svR x := fun x hx => by rw [List.mem_singleton.1 hx]; exact h
  have e := rns_rb hs
  unfold mayL
  rw [validD_rb hs, e]
  show (true && true && true && decide (r ≠ 45) && decide (r ≠ 45) && (goodR r && true)) = _
  cases goodR r <;> simp
theorem col_max {r : Int} (h : svR r) : (if colL (rb [r]) < 1 then 1 else colL (rb [r])) = colR r := by
  have hs : ∀ x ∈ [r], svR x := fun x hx => by rw [List.mem_singleton.1 hx]; exact h
  have e := rns_rb hs
  have hc := colR_bd r
  have hm := may_one' h
  cases hmm : mayL (rb [r]) with
  | true =>
    have : colL (rb [r]) = colR r := by
      unfold colL
      rw [if_pos hmm, e, sumC_one]
    rw [this, if_neg (by omega)]
  | false =>
    have h0 : colL (rb [r]) = 0 := by
      unfold colL
      rw [if_neg (by rw [hmm]; exact Bool.false_ne_true)]
    rw [h0, if_pos (by omega)]
    have hw : ¬ wdR r = true := fun hw => by
      have hw' : 19968 ≤ r ∧ r ≤ 40959 := by
        unfold wdR at hw
        simpa using hw
      have hg : goodR r = true := by
        unfold goodR
        rw [decide_eq_true_eq]
        omega
      rw [hm, hg, decide_eq_true (show r ≠ 45 by omega)] at hmm
      cases hmm
    unfold colR
    rw [if_neg hw]
theorem rb_len' (r : Int) : (rb [r]).length ≤ 4 := by
  rw [rb_one]
  unfold Lib.encodeRune Lib.encodeRuneZ
  rw [List.length_map]
  repeat' split
  all_goals simp
theorem sv_dec (l : List UInt8) (i : Nat) : svR ((Utf8.decode (strOf l) i).1 : Int) := by
  have := Lib.decodeL_drop (strOf l) i
  rw [← this, Lib.decodeL_N]
  exact decN_sv _ _ _ _ _
end Go.Proofs.YtgcihcpojjifmaaDoor
