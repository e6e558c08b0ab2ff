/- Words for the script: pages without an owner bear no address. -/
import Derived.Test.YtjmcbacdogjdeaaE14m
import Derived.Test.YtjmcbacdogjdeaaEa
namespace Go.Proofs.Ytjmcbacdogjdeaa
open Go Go.RowKit
set_option linter.unusedVariables false
set_option linter.unusedSimpArgs false

def okO (xs : List (Int × Bool)) : Prop := ∀ i : Nat, (nth xs i).2 = false → (nth xs i).1 = 0
theorem okO_set {xs : List (Int × Bool)} {k : Nat} {v : Int × Bool} (h : okO xs) (hv : v.2 = false → v.1 = 0) : okO (xs.set k v) := by
  intro i
  have h2 := h i
  unfold nth at h2 ⊢
  rw [List.getD_eq_getElem?_getD] at h2 ⊢
  rw [List.getElem?_set]
  by_cases hk : k = i
  · subst hk
    by_cases hl : k < xs.length
    · rw [if_pos rfl, if_pos hl]; exact hv
    · rw [if_pos rfl, if_neg hl]; intro _; rfl
  · rw [if_neg hk]; exact h2
theorem okO_rep (n : Nat) : okO (List.replicate n (0, false)) := by
  intro i _
  unfold nth
  rw [List.getD_eq_getElem?_getD, List.getElem?_replicate]
  split <;> rfl
end Go.Proofs.Ytjmcbacdogjdeaa
