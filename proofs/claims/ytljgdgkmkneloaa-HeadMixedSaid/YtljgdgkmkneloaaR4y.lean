/- Plain laws: a beginning with bytes 255 behind; equal bytes. -/
import Derived.Test.YtljgdgkmkneloaaR4n
namespace Go.Proofs.Ytljgdgkmkneloaa
open Go
set_option linter.unusedVariables false
def cutAt (r : List UInt8) (c k : Nat) : List UInt8 := r.take (min c k) ++ (List.replicate (k - c) 255 ++ r.drop k)
def fillTo (m : Nat) (v : UInt8) (k : Nat) : List UInt8 := List.replicate k v ++ List.replicate (m - k) 0
theorem fillTo_0 (m : Nat) (v : UInt8) : fillTo m v 0 = List.replicate m 0 := by simp [fillTo]
theorem fillTo_end (m : Nat) (v : UInt8) : fillTo m v m = List.replicate m v := by simp [fillTo]
theorem fillTo_len {m k : Nat} (v : UInt8) (h : k ≤ m) : (fillTo m v k).length = m := by simp [fillTo]; omega
theorem fillTo_step {m k : Nat} (v : UInt8) (h : k < m) : (fillTo m v k).set k v = fillTo m v (k + 1) := by
  unfold fillTo
  obtain ⟨j, hj⟩ : ∃ j, m - k = j + 1 := ⟨m - k - 1, by omega⟩
  rw [List.set_append_right _ _ (by simp), List.length_replicate, Nat.sub_self, hj, List.replicate_succ, List.set_cons_zero, show m - (k + 1) = j from by omega, List.replicate_succ', List.append_assoc]
  rfl
theorem cutAt_0 (r : List UInt8) (c : Nat) : cutAt r c 0 = r := by simp [cutAt]
theorem cutAt_len {r : List UInt8} {c k : Nat} (h : k ≤ r.length) : (cutAt r c k).length = r.length := by
  simp [cutAt]; omega
theorem cutAt_lo {r : List UInt8} {c k : Nat} (h : k < c) (hk : k < r.length) : cutAt r c (k + 1) = cutAt r c k := by
  unfold cutAt
  rw [show min c (k + 1) = k + 1 from by omega, show min c k = k from by omega, show k + 1 - c = 0 from by omega, show k - c = 0 from by omega]
  simp
theorem cutAt_hi {r : List UInt8} {c k : Nat} (h : c ≤ k) (hk : k < r.length) : (cutAt r c k).set k 255 = cutAt r c (k + 1) := by
  unfold cutAt
  have e : min c k = c := by omega
  have e2 : min c (k + 1) = c := by omega
  rw [e, e2]
  have hl : (r.take c).length = c := by simp; omega
  rw [List.set_append_right _ _ (by omega), hl, List.set_append_right _ _ (by simp), List.length_replicate, Nat.sub_self, drop_nth r k hk, List.set_cons_zero, show k + 1 - c = (k - c) + 1 from by omega, List.replicate_succ', List.append_assoc]
  rfl
theorem cutAt_end {r : List UInt8} {c : Nat} (h : c ≤ r.length) : cutAt r c r.length = r.take c ++ List.replicate (r.length - c) 255 := by
  unfold cutAt
  rw [show min c r.length = c from by omega, List.drop_length, List.append_nil]
theorem cut_no {r : List UInt8} {c : Nat} (h : c < r.length) (hl : 0 < r.length) : okR (cutAt r c r.length) = false := by
  cases hok : okR (cutAt r c r.length) with
  | false => rfl
  | true =>
    exfalso
    obtain ⟨n, h1, _, h3⟩ := okR_zeros hok
    rw [cutAt_len (Nat.le_refl _)] at h1
    rw [cutAt_end (by omega)] at h3
    unfold nth at h3
    rw [List.getD_eq_getElem?_getD, List.getElem?_append_right (by simp; omega)] at h3
    have e : n + 5 - (r.take c).length < r.length - c := by simp; omega
    rw [List.getElem?_replicate, if_pos e] at h3
    cases h3
theorem cut_0 (r : List UInt8) : cutAt r 0 r.length = List.replicate r.length 255 := by
  rw [cutAt_end (by omega)]; simp
theorem eq_no (m : Nat) (v : UInt8) : okR (List.replicate m v) = false := by
  cases hok : okR (List.replicate m v) with
  | false => rfl
  | true =>
    exfalso
    obtain ⟨n, h1, h2, _⟩ := okR_zeros hok
    rw [List.length_replicate] at h1
    have hv : v = 0 := by
      unfold nth at h2
      rw [List.getD_eq_getElem?_getD, List.getElem?_replicate, if_pos (by omega)] at h2
      exact h2
    subst hv
    simp only [okR, Bool.and_eq_true, mayH, hdAt] at hok
    have := (of_decide_eq_true hok.1.2).1
    have hz : nth (List.replicate m (0 : UInt8)) (((List.replicate m (0 : UInt8)).length : Int) - 28).toNat = 0 := by
      unfold nth
      rw [List.getD_eq_getElem?_getD, List.getElem?_replicate]
      split <;> rfl
    rw [hz] at this
    revert this
    decide
theorem eq_st {m : Nat} (v : UInt8) (h1 : 156 ≤ m) (h2 : m ≤ 284) : stR (List.replicate m v) = if v = 255 then 0 else 2 := by
  unfold stR
  have hs : szd (((List.replicate m v).length : Int) - 28) = true := by simp only [szd, decide_eq_true_eq, List.length_replicate]; omega
  rw [hs]
  by_cases hv : v = 255
  · subst hv
    have : all255 (List.replicate m 255) = true := by simp [all255]
    rw [this, if_pos ⟨rfl, rfl⟩, if_pos rfl]
  · have : all255 (List.replicate m v) = false := by
      obtain ⟨j, rfl⟩ : ∃ j, m = j + 1 := ⟨m - 1, by omega⟩
      simp [all255, List.replicate_succ, hv]
    rw [this, if_neg (by simp), if_neg hv]
theorem stR_cases (r : List UInt8) : stR r = 0 ∨ stR r = 2 := by unfold stR; split <;> simp
end Go.Proofs.Ytljgdgkmkneloaa
