/- Lines: what they are. -/
import Derived.Test.YtgcihcpojjifmaaDoorU5
namespace Go.Proofs.YtgcihcpojjifmaaDoor
open Go Go.RowKit
set_option linter.unusedVariables false
set_option linter.unusedSimpArgs false

def okL (l : List UInt8) (d c m w : Int) : Bool := mayL l && inB d && inB c && inB m && decide (30 ≤ w) && decide (w ≤ 200)
/-- a name, qs0 far qs0 twelve columns go, and blanks up to them -/
def shortL (l : List UInt8) : List UInt8 := clipL l 12 ++ repU [32] (12 - sumC (rns (clipL l 12)))
def lineT (l : List UInt8) (d c m w : Int) : List UInt8 := shortL l ++ [32] ++ barL d m (w - 30) ++ [32] ++ rightL (pctS d m) 3 ++ [37, 32] ++ rightL c 10 ++ [43]
def lineL (l : List UInt8) (d c m w : Int) : List UInt8 := if okL l d c m w = true then lineT l d c m w else []
theorem okL_iff (l : List UInt8) (d c m w : Int) : okL l d c m w = true ↔ ((((mayL l = true ∧ inB d = true) ∧ inB c = true) ∧ inB m = true) ∧ 30 ≤ w) ∧ w ≤ 200 := by
  unfold okL
  simp only [Bool.and_eq_true, decide_eq_true_eq]
theorem inB_iff (n : Int) : inB n = true ↔ 0 ≤ n ∧ n ≤ 1073741824 := by
  unfold inB
  simp
theorem clip_12 {l : List UInt8} (h : mayL l = true) : 0 ≤ sumC (rns (clipL l 12)) ∧ sumC (rns (clipL l 12)) ≤ 12 := by
  have := sumC_bd (rns (clipL l 12))
  rw [clip_rns 12 h] at this ⊢
  have := clipG_sum (c := 12) (n := 0) (rns l) (by decide)
  omega
theorem barL_len (n of c : Int) : (barL n of c).length ≤ 1000 := by
  unfold barL
  split
  · simp
  · have hb := bar_full (n := n) (of := of) (c := c) (by omega) (by omega)
    rw [List.length_append, repU_len, repU_len]
    simp only [List.length_cons, List.length_nil]
    omega
theorem rightL_len (n c : Int) (h0 : 0 ≤ n) (h1 : n ≤ 1073741824) (h2 : c ≤ 100) : (rightL n c).length ≤ 110 := by
  have := itoU_len n h0 h1
  unfold rightL
  rw [List.length_append, repU_len]
  simp only [List.length_cons, List.length_nil]
  split <;> omega
theorem right_blk (n c : Int) : rightL n c = blk (c - ((itoU n).length : Int)).toNat ++ itoU n := by
  unfold rightL repU blk
  congr 2
  split <;> omega
theorem rns_blk (k : Nat) : Lib.validD (blk k) = true ∧ rns (blk k) = List.replicate k 32 := by
  have e : blk k = rb (List.replicate k 32) := by
    unfold blk
    induction k with
    | zero => rfl
    | succ k ih =>
      rw [List.replicate_succ, rb_cons, ← ih]
      rfl
  have hs : ∀ r ∈ List.replicate k (32 : Int), svR r := fun r hr => by
    rw [List.eq_of_mem_replicate hr]
    exact .inl (by decide)
  rw [e]
  exact ⟨validD_rb hs, rns_rb hs⟩
theorem sumC_rep (k : Nat) : sumC (List.replicate k 32) = (k : Int) := by
  induction k with
  | zero => rfl
  | succ k ih =>
    rw [List.replicate_succ, sumC_cons, ih]
    have : colR 32 = 1 := by decide
    omega
theorem clip_valid {l : List UInt8} (c : Int) (h : mayL l = true) : Lib.validD (clipL l c) = true := by
  unfold clipL
  rw [if_pos h]
  obtain ⟨ys, hy⟩ := clipG_split c 0 (rns l)
  exact validD_rb fun r hr => sv_of l r (by rw [hy]; exact List.mem_append_left _ hr)
theorem sum_clip_blk {l : List UInt8} (h : mayL l = true) (k : Nat) : sumC (rns (clipL l 12 ++ blk k)) = sumC (rns (clipL l 12)) + (k : Int) := by
  rw [rns_app (clip_valid 12 h), sumC_app, (rns_blk k).2, sumC_rep]
end Go.Proofs.YtgcihcpojjifmaaDoor
