/- Notes: plain laws. -/
import Derived.Test.YtljgdgkmkneloaaN5p
import Derived.Test.YtljgdgkmkneloaaQc
namespace Go.Proofs.Ytljgdgkmkneloaa
open Go
set_option linter.unusedVariables false

theorem fit_spec (size : Int) (ns : List Nt) : fitN size ns ≤ ns.length ∧ (fitN size ns = 0 ∨ (lenB ns (fitN size ns) : Int) ≤ size) ∧ (fitN size ns < ns.length → size < (lenB ns (fitN size ns + 1) : Int)) := by
  have h := fitD_spec size ns ns.length
  exact ⟨h.1, h.2.1, fun hk => h.2.2 _ (Nat.lt_succ_self _) hk⟩
theorem lenB0 (ns : List Nt) : lenB ns 0 = 1 := by
  rw [lenB_eq ns 0 (Nat.zero_le _)]; rfl
theorem fit_room {size : Int} {ns : List Nt} (h : 1 ≤ size) : (lenB ns (fitN size ns) : Int) ≤ size := by
  rcases (fit_spec size ns).2.1 with h1 | h1
  · rw [h1, lenB0]; omega
  · exact h1
theorem szn_low (size : Int) : szn (128 + low size 129) = true := by
  have := low_bd size (show (1 : Int) ≤ 129 by omega)
  simp only [szn, decide_eq_true_eq]; omega
def goodN (ns : List Nt) : List Nt := ns.filter mayN
theorem goodN_step (ns : List Nt) (k : Nat) (hk : k < ns.length) : goodN (ns.take (k + 1)) = goodN (ns.take k) ++ (if mayN (nth ns k) = true then [nth ns k] else []) := by
  unfold goodN
  rw [take_nth ns k hk, List.filter_append]
  congr 1
  cases h : mayN (nth ns k) <;> simp [h]
theorem goodN_yes {ns : List Nt} {k : Nat} (hk : k < ns.length) (h : mayN (nth ns k) = true) : goodN (ns.take (k + 1)) = goodN (ns.take k) ++ [nth ns k] := by
  rw [goodN_step ns k hk, if_pos h]
theorem goodN_no {ns : List Nt} {k : Nat} (hk : k < ns.length) (h : mayN (nth ns k) = false) : goodN (ns.take (k + 1)) = goodN (ns.take k) := by
  rw [goodN_step ns k hk, if_neg (by rw [h]; decide), List.append_nil]
theorem goodN_len (ns : List Nt) (k : Nat) : (goodN (ns.take k)).length ≤ k := by
  refine Nat.le_trans (List.length_filter_le _ _) ?_
  rw [List.length_take]; omega
theorem goodN_all (ns : List Nt) : (goodN ns).all mayN = true := by
  rw [List.all_eq_true]
  exact fun x hx => (List.mem_filter.1 hx).2
theorem wf_mem {ns : List Nt} (h : WfN ns) {x : Nt} (hx : x ∈ ns) : 0 ≤ x.addr ∧ x.addr < 18446744073709551616 := by
  obtain ⟨i, hi, rfl⟩ := List.getElem_of_mem hx
  rw [← nth_eq hi]; exact h i hi
theorem wf_of5 {ns : List Nt} (h : ∀ x ∈ ns, 0 ≤ x.addr ∧ x.addr < 18446744073709551616) : WfN ns := fun k hk => by
  rw [nth_eq hk]; exact h _ (List.getElem_mem hk)
theorem goodN_wf {ns : List Nt} (h : WfN ns) : WfN (goodN ns) := wf_of5 fun x hx => wf_mem h (List.mem_filter.1 hx).1
theorem wf_drop {ns : List Nt} (h : WfN ns) (k : Nat) : WfN (ns.drop k) := wf_of5 fun x hx => wf_mem h (List.mem_of_mem_drop hx)
theorem allM_drop {ns : List Nt} (h : ns.all mayN = true) (k : Nat) : (ns.drop k).all mayN = true := by
  rw [List.all_eq_true] at h ⊢
  exact fun x hx => h x (List.mem_of_mem_drop hx)
theorem fit_pos {size : Int} {ns : List Nt} (h : 32 ≤ size) (hn : 0 < ns.length) : 1 ≤ fitN size ns := by
  have h1 := fit_spec size ns
  rcases Nat.eq_zero_or_pos (fitN size ns) with h0 | h0
  · exfalso
    have h2 := h1.2.2 (by omega)
    rw [h0] at h2
    have h3 : lenB ns (0 + 1) ≤ 32 := by
      rw [lenB_eq ns 1 hn]
      have := catN_take_len ns 1 hn
      have h4 : (putN 1).length = 1 := rfl
      omega
    omega
  · exact h0
theorem take_more {α : Type} (l : List α) (m n : Nat) : l.take (m + n) = l.take m ++ (l.drop m).take n := List.take_add
end Go.Proofs.Ytljgdgkmkneloaa
