/- Plain laws: the data of one page with the head of another one; two neighbours the other way round. -/
import Derived.Test.YtljgdgkmkneloaaR4n
namespace Go.Proofs.Ytljgdgkmkneloaa
open Go
set_option linter.unusedVariables false
def tailH (l : List UInt8) (h : Hd) : List UInt8 := [b8i h.kind] ++ (fixN 8 h.addr.toNat ++ (fixN 5 h.seq.toNat ++ (fixN 3 h.gen.toNat ++ (fixN 6 0 ++ (fixN 4 (sumOf (layB l h)).toNat ++ [0])))))
theorem tailH_len (l : List UInt8) (h : Hd) : (tailH l h).length = 28 := by simp [tailH, fixN_len]
theorem layM_tail (l : List UInt8) (h : Hd) : layM l h = l ++ tailH l h := layM_split l h
theorem drop_lay {l : List UInt8} {S : Nat} (h : Hd) (hl : l.length = S) : (layM l h).drop S = tailH l h := by
  rw [layM_tail]; exact List.drop_left' hl
theorem take_layS {l : List UInt8} {S : Nat} (h : Hd) (hl : l.length = S) : (layM l h).take S = l := by
  rw [layM_tail]; exact List.take_left' hl
theorem take_B {l : List UInt8} {S : Nat} (h : Hd) (hl : l.length = S) : (layM l h).take (S + 23) = layB l h := by
  unfold layM; rw [List.append_assoc]; exact List.take_left' (by rw [layB_len, hl])
def mixM (A B : List UInt8) (h : Hd) : List UInt8 := A ++ tailH B h
theorem mixM_len (A B : List UInt8) (h : Hd) : (mixM A B h).length = A.length + 28 := by simp [mixM, tailH_len]
theorem mix_form (A B : List UInt8) (h : Hd) : mixM A B h = layB A h ++ fixN 4 (sumOf (layB B h)).toNat ++ [0] := by
  simp [mixM, tailH, layB, List.append_assoc]
theorem mix_take {A B : List UInt8} {S : Nat} (h : Hd) (hl : A.length = S) : (mixM A B h).take (S + 23) = layB A h := by
  rw [mix_form, List.append_assoc]; exact List.take_left' (by rw [layB_len, hl])
theorem hdAt_tail (A B : List UInt8) (t : List UInt8) (hA : t.length = 28) (hl : A.length = B.length) : hdAt (A ++ t) = hdAt (B ++ t) := by
  have e : ∀ (X : List UInt8), ((((X ++ t).length : Nat) : Int) - 28).toNat = X.length := fun X => by simp [hA]
  have e1 : ∀ (X : List UInt8), ((((X ++ t).length : Nat) : Int) - 28 + 1).toNat = X.length + 1 := fun X => by simp [hA]
  have d : ∀ (X : List UInt8), (X ++ t).drop (X.length + 1) = t.drop 1 := fun X => by
    rw [← List.drop_drop, List.drop_left]
  have q : ∀ (X : List UInt8), nth (X ++ t) X.length = nth t 0 := fun X => by
    unfold nth
    rw [List.getD_eq_getElem?_getD, List.getD_eq_getElem?_getD, List.getElem?_append_right (Nat.le_refl _), Nat.sub_self]
  unfold hdAt
  rw [e, e, e1, e1, d, d, q, q]
theorem okR_mix {A B : List UInt8} {h : Hd} (hl : A.length = B.length) (hs : szd (A.length : Int) = true) (hm : mayH h = true) (ha0 : 0 ≤ h.addr) (ha : h.addr < 18446744073709551616) : okR (mixM A B h) = decide (sumOf (layB A h) = sumOf (layB B h)) := by
  have hh : hdAt (mixM A B h) = h := by
    unfold mixM
    rw [hdAt_tail A B _ (tailH_len B h) hl, ← layM_tail, hdAt_lay B h hm ha0 ha]
  have e : (((mixM A B h).length : Int) - 28).toNat = A.length := by rw [mixM_len]; omega
  have e' : ((mixM A B h).length : Int) - 28 = (A.length : Int) := by rw [mixM_len]; omega
  have et : (mixM A B h).take A.length = A := List.take_left
  unfold okR
  rw [hh, e, e', hs, hm, et, Bool.true_and, Bool.true_and]
  refine decide_eq_decide.2 ⟨fun q => ?_, fun q => ?_⟩
  · rw [mix_form] at q
    unfold layM at q
    rw [List.append_assoc, List.append_assoc] at q
    exact fix4_inj (List.append_inj_left' (List.append_cancel_left q) rfl)
  · rw [mix_form, ← q]; rfl
/-- two neighbours the other way round -/
def swapN (r : List UInt8) (k : Nat) : List UInt8 := (r.set k (nth r (k + 1))).set (k + 1) (nth r k)
theorem swapN_len (r : List UInt8) (k : Nat) : (swapN r k).length = r.length := by simp [swapN]
theorem xor_mid (x y : UInt8) : x ^^^ (x ^^^ y) = y := by rw [← UInt8.xor_assoc, UInt8.xor_self, UInt8.zero_xor]
theorem okR_swap {r : List UInt8} (hok : okR r = true) {k : Nat} (hk : k + 1 < r.length) : okR (swapN r k) = decide (nth r k = nth r (k + 1)) := by
  have h1 := self_split r k (by omega)
  rw [drop_nth r (k + 1) hk] at h1
  have hl : (r.take k).length = k := by simp; omega
  have h2 : swapN r k = r.take k ++ nth r (k + 1) :: nth r k :: r.drop (k + 1 + 1) := by
    unfold swapN
    generalize hx : nth r k = x at h1 ⊢
    generalize hy : nth r (k + 1) = y at h1 ⊢
    conv => lhs; rw [h1]
    rw [List.set_append_right _ _ (by omega), hl, Nat.sub_self, List.set_cons_zero, List.set_append_right _ _ (by omega), hl, show k + 1 - k = 0 + 1 from by omega, List.set_cons_succ, List.set_cons_zero]
  by_cases hxy : nth r k = nth r (k + 1)
  · rw [h2, decide_eq_true hxy]
    rw [← hxy] at h1 ⊢
    rw [← h1]; exact hok
  · rw [decide_eq_false hxy]
    cases hok' : okR (swapN r k) with
    | false => rfl
    | true =>
      exfalso
      have := no_two (bx := nth r k ^^^ nth r (k + 1)) (yb := nth r (k + 1) ^^^ nth r k) hok hok' h1 (by rw [xor_mid, xor_mid]; exact h2)
      exact hxy (by
        have e := this.1
        have e2 := xor_mid (nth r k) (nth r (k + 1))
        rw [e, UInt8.xor_zero] at e2
        exact e2)
end Go.Proofs.Ytljgdgkmkneloaa
