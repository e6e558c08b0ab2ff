/- The bytes of notes: plain laws. -/
import Derived.Test.YtljgdgkmkneloaaN5b
namespace Go.Proofs.Ytljgdgkmkneloaa
open Go
set_option linter.unusedVariables false
def catN (ns : List Nt) : List UInt8 := (ns.map laidN).flatten
def bytesN (ns : List Nt) : List UInt8 := putN ns.length ++ catN ns
theorem catN_take (ns : List Nt) (k : Nat) (h : k < ns.length) : catN (ns.take (k + 1)) = catN (ns.take k) ++ laidN (nth ns k) := by
  rw [take_nth ns k h]; simp [catN]
theorem laidN_len (n : Nt) : 3 ≤ (laidN n).length ∧ (laidN n).length ≤ 31 := by
  have h1 := putN_len n.addr.toNat
  have h2 := putN_len n.seq.toNat
  have h3 := putN_len n.page.toNat
  unfold laidN
  cases n.gone <;> cases n.dirty <;> simp <;> omega
theorem catN_len (ns : List Nt) : (catN ns).length ≤ 31 * ns.length := by
  induction ns with
  | nil => simp [catN]
  | cons n ns ih =>
    have := laidN_len n
    simp only [catN, List.map_cons, List.flatten_cons, List.length_append, List.length_cons] at ih ⊢
    omega
theorem catN_take_len (ns : List Nt) (k : Nat) (hk : k ≤ ns.length) : (catN (ns.take k)).length ≤ 31 * k := by
  have := catN_len (ns.take k)
  rwa [List.length_take, Nat.min_eq_left hk] at this
theorem allM_iff (ns : List Nt) : ns.all mayN = true ↔ ∀ i, i < ns.length → mayN (nth ns i) = true := by
  rw [List.all_eq_true]
  constructor
  · intro h i hi
    rw [nth_eq hi]
    exact h _ (List.getElem_mem hi)
  · intro h x hx
    obtain ⟨i, hi, rfl⟩ := List.getElem_of_mem hx
    rw [← nth_eq hi]
    exact h i hi
theorem allM_take {ns : List Nt} (h : ns.all mayN = true) (k : Nat) : (ns.take k).all mayN = true := by
  rw [List.all_eq_true] at h ⊢
  exact fun x hx => h x (List.mem_of_mem_take hx)
def lenB (ns : List Nt) (k : Nat) : Nat := (bytesN (ns.take k)).length
theorem lenB_eq (ns : List Nt) (k : Nat) (h : k ≤ ns.length) : lenB ns k = (putN k).length + (catN (ns.take k)).length := by
  unfold lenB bytesN
  rw [List.length_append, List.length_take, Nat.min_eq_left h]
theorem lenB_mono {ns : List Nt} {j k : Nat} (h : j ≤ k) (hk : k ≤ ns.length) : lenB ns j ≤ lenB ns k := by
  induction k with
  | zero => rw [Nat.le_zero.1 h]; exact Nat.le_refl _
  | succ k ih =>
    rcases Nat.lt_or_ge j (k + 1) with h1 | h1
    · refine Nat.le_trans (ih (by omega) (by omega)) ?_
      rw [lenB_eq ns k (by omega), lenB_eq ns (k + 1) hk, catN_take ns k (by omega), List.length_append]
      have := putN_mono (show k ≤ k + 1 by omega)
      omega
    · rw [show j = k + 1 from by omega]; exact Nat.le_refl _
theorem lenB_lt {ns : List Nt} {k : Nat} (hk : k < ns.length) : lenB ns k + 3 ≤ lenB ns (k + 1) := by
  rw [lenB_eq ns k (by omega), lenB_eq ns (k + 1) hk, catN_take ns k hk, List.length_append]
  have := putN_mono (show k ≤ k + 1 by omega)
  have := laidN_len (nth ns k)
  omega
/-- the greatest number up to n whose bytes have room -/
def fitD (size : Int) (ns : List Nt) : Nat → Nat
  | 0 => 0
  | k + 1 => if (lenB ns (k + 1) : Int) ≤ size then k + 1 else fitD size ns k
def fitN (size : Int) (ns : List Nt) : Nat := fitD size ns ns.length
theorem fitD_is (size : Int) (ns : List Nt) : ∀ (n k : Nat), n ≤ ns.length → k ≤ n → (k = 0 ∨ (lenB ns k : Int) ≤ size) → (k = n ∨ size < (lenB ns (k + 1) : Int)) → fitD size ns n = k
  | 0, k, _, hk, _, _ => by simp [fitD]; omega
  | n + 1, k, hn, hk, h1, h2 => by
    unfold fitD
    by_cases hb : (lenB ns (n + 1) : Int) ≤ size
    · rw [if_pos hb]
      rcases h2 with h2 | h2
      · exact h2.symm
      · rcases Nat.lt_or_ge k (n + 1) with h3 | h3
        · have := lenB_mono (ns := ns) (show k + 1 ≤ n + 1 by omega) hn
          omega
        · omega
    · rw [if_neg hb]
      refine fitD_is size ns n k (by omega) ?_ h1 ?_
      · rcases h1 with h1 | h1
        · omega
        · have : k ≠ n + 1 := by rintro rfl; exact hb h1
          omega
      · rcases h2 with h2 | h2
        · rcases h1 with h1 | h1
          · omega
          · subst h2; exact absurd h1 hb
        · exact .inr h2
theorem fitD_spec (size : Int) (ns : List Nt) : ∀ (n : Nat), fitD size ns n ≤ n ∧ (fitD size ns n = 0 ∨ (lenB ns (fitD size ns n) : Int) ≤ size) ∧ (∀ j, fitD size ns n < j → j ≤ n → size < (lenB ns j : Int))
  | 0 => ⟨Nat.le_refl _, .inl rfl, fun j h1 h2 => by simp [fitD] at h1; omega⟩
  | n + 1 => by
    have ih := fitD_spec size ns n
    unfold fitD
    by_cases hb : (lenB ns (n + 1) : Int) ≤ size
    · rw [if_pos hb]
      exact ⟨Nat.le_refl _, .inr hb, fun j h1 h2 => by omega⟩
    · rw [if_neg hb]
      refine ⟨by omega, ih.2.1, fun j h1 h2 => ?_⟩
      rcases Nat.lt_or_ge j (n + 1) with h3 | h3
      · exact ih.2.2 j h1 (by omega)
      · have : j = n + 1 := by omega
        subst this; omega
def layN (size : Int) (ns : List Nt) : List UInt8 := bytesN ns ++ List.replicate (size - (bytesN ns).length).toNat 0
end Go.Proofs.Ytljgdgkmkneloaa
