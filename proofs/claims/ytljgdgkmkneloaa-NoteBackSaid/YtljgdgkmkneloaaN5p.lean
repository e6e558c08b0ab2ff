/- Notes laid are read again: plain laws. -/
import Derived.Test.YtljgdgkmkneloaaN5g
import Derived.Test.YtljgdgkmkneloaaN5m
namespace Go.Proofs.Ytljgdgkmkneloaa
open Go
set_option linter.unusedVariables false
theorem catN_drop (ns : List Nt) (k : Nat) (h : k < ns.length) : catN (ns.drop k) = laidN (nth ns k) ++ catN (ns.drop (k + 1)) := by
  unfold catN
  rw [List.drop_eq_getElem_cons h, nth_eq h]; rfl
def padN (size : Int) (ns : List Nt) : List UInt8 := List.replicate (size - (bytesN ns).length).toNat 0
theorem layN_get (size : Int) (ns : List Nt) (h : ns.length ≤ 1000) : getN (layN size ns) = some (ns.length, catN ns ++ padN size ns) := by
  unfold layN bytesN padN
  rw [List.append_assoc]
  exact getN_put ns.length _ (by omega)
theorem layN_len (size : Int) (ns : List Nt) (h : ((bytesN ns).length : Int) ≤ size) : ((layN size ns).length : Int) = size := by
  unfold layN
  rw [List.length_append, List.length_replicate]; omega
/-- the notes that a page holds -/
def Page (b : List UInt8) (ns : List Nt) : Prop := ns.length ≤ 1000 ∧ WfN ns ∧ ns.all mayN = true ∧ szn (b.length : Int) = true ∧ ((bytesN ns).length : Int) ≤ (b.length : Int) ∧ b = layN (b.length : Int) ns
theorem page_many {b : List UInt8} {ns : List Nt} (h : Page b ns) : numO b false = (ns.length, catN ns ++ padN (b.length : Int) ns, false) := by
  obtain ⟨h1, h2, h3, h4, h5, h6⟩ := h
  apply numO_some
  generalize hs : (b.length : Int) = s at *
  rw [h6, layN_get s ns h1]
theorem page_step {ns : List Nt} (hw : WfN ns) (hm : ns.all mayN = true) (z : List UInt8) (k : Nat) (h : k < ns.length) : noteO (catN (ns.drop k) ++ z) false = (nth ns k, catN (ns.drop (k + 1)) ++ z, false) := by
  rw [catN_drop ns k h, List.append_assoc]
  exact noteO_laid _ _ ((allM_iff ns).1 hm k h) (hw k h).1 (hw k h).2
theorem wf_snoc {xs : List Nt} {n : Nt} (h : WfN xs) (h2 : 0 ≤ n.addr ∧ n.addr < 18446744073709551616) : WfN (xs ++ [n]) := fun k hk => by
  rw [List.length_append, List.length_singleton] at hk
  rcases Nat.lt_or_ge k xs.length with h3 | h3
  · have : nth (xs ++ [n]) k = nth xs k := by unfold nth; rw [List.getD_eq_getElem?_getD, List.getD_eq_getElem?_getD, List.getElem?_append_left h3]
    rw [this]; exact h k h3
  · have : nth (xs ++ [n]) k = n := by
      obtain rfl : k = xs.length := by omega
      unfold nth; rw [List.getD_eq_getElem?_getD, List.getElem?_append_right (Nat.le_refl _), Nat.sub_self]; rfl
    rw [this]; exact h2
end Go.Proofs.Ytljgdgkmkneloaa
