/- WearPicks: what stands in the order; plain laws. -/
import Derived.Test.YtbahngmjbpaglaaW11
namespace Go.Proofs.Ytbahngmjbpaglaa
open Go Go.RowKit
set_option linter.unusedVariables false
set_option linter.unusedSimpArgs false
def bitk (x : Int) (k : Nat) : Int := bits .and .i64 (x.fdiv (2 ^ (min ((k : Int)).toNat IntKind.i64.bits))) 1
theorem i64_and1 (n : Int) : bits .and .i64 n 1 = n % 2 := by
  have h1 : (BitVec.ofInt 64 1).toNat = 2 ^ 1 - 1 := by decide
  have key : (BitVec.ofInt 64 n &&& BitVec.ofInt 64 1).toNat = (n % ((2 ^ 64 : Nat) : Int)).toNat % 2 ^ 1 := by
    rw [BitVec.toNat_and, BitVec.toNat_ofInt, h1, Nat.and_two_pow_sub_one_eq_mod]
  show IntKind.i64.wrap ((BitVec.ofInt 64 n &&& BitVec.ofInt 64 1).toNat : Nat) = n % 2
  rw [key, IntKind.wrap_i64]
  omega
theorem bitk_bd (x : Int) (k : Nat) : 0 ≤ bitk x k ∧ bitk x k ≤ 1 := by
  unfold bitk
  rw [i64_and1]
  omega
def msum (x : Int) : Nat → Int
  | 0 => 0
  | k + 1 => msum x k + bitk x k
theorem msum_bd (x : Int) : ∀ k : Nat, 0 ≤ msum x k ∧ msum x k ≤ (k : Int)
  | 0 => ⟨Int.le_refl _, Int.le_refl _⟩
  | k + 1 => by
    have := msum_bd x k
    have := bitk_bd x k
    show 0 ≤ msum x k + bitk x k ∧ msum x k + bitk x k ≤ ((k + 1 : Nat) : Int)
    omega
theorem msum_ix {cs : List Bool} {n : Nat} {x : Int} (hcs : cs = gen (fun i => decide (bitk x i = 1)) n) : ∀ k, k ≤ n → (((ix cs k).length : Nat) : Int) = msum x k
  | 0, _ => rfl
  | k + 1, hk => by
    have ih := msum_ix hcs k (by omega)
    have hn : nth cs k = decide (bitk x k = 1) := by rw [hcs, nth_gen _ (by omega)]
    have hb := bitk_bd x k
    show _ = msum x k + bitk x k
    by_cases e : bitk x k = 1
    · rw [ix_yes (by rw [hn]; simp [e]), List.length_append]
      simp only [List.length_cons, List.length_nil]
      omega
    · rw [ix_no (by rw [hn]; simp [e])]
      omega

theorem msum_ord {ws : List Int} {cs : List Bool} {n : Nat} {x : Int} (hcs : cs = gen (fun i => decide (bitk x i = 1)) n) (hw : ws.length = n) : (((ordW ws cs).length : Nat) : Int) = msum x n := by
  have hl : cs.length = n := by rw [hcs, gen_len]
  rw [ordW_eq (by omega), srt_len, hl, msum_ix hcs n (Nat.le_refl _)]
theorem ord_nodup (ws : List Int) (cs : List Bool) : (ordW ws cs).Nodup := by
  unfold ordW
  split
  · refine (srt_perm _).symm.nodup ?_
    exact (ix_pw cs _).imp (fun {a b} h => by have h : a < b := h; omega)
  · exact List.nodup_nil
theorem ord_next {ws : List Int} {cs : List Bool} {k : Nat} (h0 : 0 < k) (hk : k < (ordW ws cs).length) : wf ws (nth (ordW ws cs) (k - 1)) < wf ws (nth (ordW ws cs) k) ∨ (wf ws (nth (ordW ws cs) (k - 1)) = wf ws (nth (ordW ws cs) k) ∧ nth (ordW ws cs) (k - 1) < nth (ordW ws cs) k) := by
  have h1 := (ordW_sd ws cs).le_nth (leW_lo ws) (i := k - 1) (j := k) (by omega) hk
  have h2 : nth (ordW ws cs) (k - 1) ≠ nth (ordW ws cs) k := by
    rw [nth_eq (show k - 1 < (ordW ws cs).length by omega), nth_eq hk]
    intro e
    exact (List.pairwise_iff_getElem.1 (ord_nodup ws cs) (k - 1) k (by omega) hk (by omega)) e
  simp only [leW, decide_eq_true_eq] at h1
  omega
theorem picks_at {ws : List Int} {cs : List Bool} {n : Nat} (hw : ws.length = n) (hb : ∀ i, i < n → 0 ≤ nth ws i ∧ nth ws i < 50) {k : Nat} (hk : k < (ordW ws cs).length) : 0 ≤ nth (ordW ws cs) k ∧ nth (ordW ws cs) k < (n : Int) ∧ nth cs (nth (ordW ws cs) k).toNat = true ∧ wf ws (nth (ordW ws cs) k) = nth ws (nth (ordW ws cs) k).toNat ∧ 0 ≤ nth ws (nth (ordW ws cs) k).toNat ∧ nth ws (nth (ordW ws cs) k).toNat < 50 := by
  obtain ⟨h1, h2, h3⟩ := ordW_at (ws := ws) (cs := cs) hk
  have h4 := hb (nth (ordW ws cs) k).toNat (by omega)
  exact ⟨h1, by omega, h3, wf_nth h4.1 (by omega), h4.1, h4.2⟩
theorem picks_end {ws : List Int} {cs : List Bool} {n : Nat} (hw : ws.length = n) (hb : ∀ i, i < n → 0 ≤ nth ws i ∧ nth ws i < 50) (h0 : 0 < (ordW ws cs).length) : leastW ws cs = nth (ordW ws cs) 0 ∧ 0 ≤ greatW ws cs ∧ greatW ws cs < (n : Int) ∧ nth cs (greatW ws cs).toNat = true ∧ 0 ≤ nth ws (greatW ws cs).toNat ∧ nth ws (greatW ws cs).toNat < 50 ∧ nth ws (greatW ws cs).toNat = nth ws (nth (ordW ws cs) ((ordW ws cs).length - 1)).toNat ∧ spreadW ws cs = nth ws (greatW ws cs).toNat - nth ws (nth (ordW ws cs) 0).toNat := by
  have e1 : leastW ws cs = nth (ordW ws cs) 0 := by unfold leastW; rw [if_neg (by omega)]
  have e2 : greatW ws cs = nth (ordW ws cs) (topW ws (ordW ws cs)) := by unfold greatW; rw [if_neg (by omega)]
  have ht := topW_lt (ws := ws) h0
  obtain ⟨p1, p2, p3, p4, p5, p6⟩ := picks_at hw hb ht
  obtain ⟨q1, q2, q3, q4, q5, q6⟩ := picks_at (cs := cs) hw hb (k := (ordW ws cs).length - 1) (by omega)
  obtain ⟨r1, r2, r3, r4, r5, r6⟩ := picks_at (cs := cs) hw hb h0
  have e3 := topW_wf (ws := ws) h0
  have e4 := spread_eq (ws := ws) (cs := cs) (by omega)
  rw [e1, e2, p4, r4] at e4
  rw [p4, q4] at e3
  rw [← e2] at p1 p2 p3 p5 p6 e3 e4
  exact ⟨e1, p1, p2, p3, p5, p6, e3, e4⟩
end Go.Proofs.Ytbahngmjbpaglaa
