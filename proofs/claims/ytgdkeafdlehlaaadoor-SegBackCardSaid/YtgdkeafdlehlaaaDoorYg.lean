/- SegBack: plain laws. -/
import Derived.Test.YtgdkeafdlehlaaaDoorYe
import Derived.Test.YtgdkeafdlehlaaaDoorLow6
import Derived.Test.YtgdkeafdlehlaaaDoorDg
namespace Go.Proofs.YtgdkeafdlehlaaaDoor
open Go Go.RowKit
set_option linter.unusedVariables false
set_option linter.unusedSimpArgs false

theorem cutP_rd {size : Int} {name : List UInt8} {es : List Ent} (hok : okC size name es = true) (ha : ∀ k, k < es.length → 0 ≤ (nth es k).addr ∧ (nth es k).addr < 18446744073709551616) {k : Nat} (hk : k < (cutL size name es).length) : rdB (nth (cutL size name es) k) = true ∧ rdP (nth (cutL size name es) k) = ⟨(k : Int), partsS size es.length, name, segE size es k⟩ ∧ (nth (cutL size name es) k).length = size.toNat := by
  rw [cutL_len] at hk
  rw [cutL_nth hk]
  exact cut_rd hok ha (by omega)
/-- of fewer parts none are joined -/
theorem less_no {size : Int} {name : List UInt8} {es : List Ent} (hok : okC size name es = true) (ha : ∀ k, k < es.length → 0 ≤ (nth es k).addr ∧ (nth es k).addr < 18446744073709551616) {a : Nat} (h : a < (cutL size name es).length) : (cutL size name es).take a ++ (cutL size name es).drop (a + 1) = [] ∨ ∃ k, k < ((cutL size name es).take a ++ (cutL size name es).drop (a + 1)).length ∧ ¬ okJ ((cutL size name es).take a ++ (cutL size name es).drop (a + 1)) k := by
  have hlen : ((cutL size name es).take a ++ (cutL size name es).drop (a + 1)).length = (cutL size name es).length - 1 := by
    rw [List.length_append, List.length_take, List.length_drop]
    omega
  by_cases h1 : (cutL size name es).length = 1
  · left
    exact List.eq_nil_of_length_eq_zero (by omega)
  · right
    refine ⟨0, by omega, fun hok0 => ?_⟩
    have h3 := hok0.2.2.1
    rw [hlen] at h3
    have e : ∃ j, j < (cutL size name es).length ∧ nth ((cutL size name es).take a ++ (cutL size name es).drop (a + 1)) 0 = nth (cutL size name es) j := by
      by_cases ha0 : a = 0
      · subst ha0
        refine ⟨1, by omega, ?_⟩
        unfold nth
        rw [List.getD_eq_getElem?_getD, List.getD_eq_getElem?_getD, List.take_zero, List.nil_append, List.getElem?_drop]
      · refine ⟨0, by omega, ?_⟩
        unfold nth
        rw [List.getD_eq_getElem?_getD, List.getD_eq_getElem?_getD, List.getElem?_append_left (by rw [List.length_take]; omega), List.getElem?_take, if_pos (by omega)]
    obtain ⟨j, hj, e⟩ := e
    rw [e, (cutP_rd hok ha hj).2.1] at h3
    have hl := cutL_len size name es
    have hl2 : ((cutL size name es).length : Int) = partsS size es.length := by omega
    dsimp only at h3
    omega
/-- of parts in another order none are joined -/
theorem turned_no {size : Int} {name : List UInt8} {es : List Ent} (hok : okC size name es = true) (ha : ∀ k, k < es.length → 0 ≤ (nth es k).addr ∧ (nth es k).addr < 18446744073709551616) {a b : Nat} (h : a < (cutL size name es).length) (hb : b < (cutL size name es).length) (hab : a ≠ b) (y : List UInt8) : ∃ k, k < (((cutL size name es).set a (nth (cutL size name es) b)).set b y).length ∧ ¬ okJ (((cutL size name es).set a (nth (cutL size name es) b)).set b y) k := by
  refine ⟨a, by rw [List.length_set, List.length_set]; exact h, fun hk => ?_⟩
  have h2 := hk.2.1
  rw [nth_set _ _ _ _ (by rw [List.length_set]; exact hb), if_neg hab, nth_set _ _ _ _ h, if_pos rfl, (cutP_rd hok ha hb).2.1] at h2
  dsimp only at h2
  omega
theorem less_in {size : Int} {name : List UInt8} {es : List Ent} (hok : okC size name es = true) (ha : ∀ k, k < es.length → 0 ≤ (nth es k).addr ∧ (nth es k).addr < 18446744073709551616) {a : Nat} : ∀ k, k < ((cutL size name es).take a ++ (cutL size name es).drop (a + 1)).length → (nth ((cutL size name es).take a ++ (cutL size name es).drop (a + 1)) k).length ≤ 1000000 := fun k hk => by
  obtain ⟨b1, b2, b3⟩ := cut_bd hok
  have hall : ∀ x ∈ cutL size name es, x.length ≤ 1000000 := fun x hx => by
    obtain ⟨j, hj, rfl⟩ := List.getElem_of_mem hx
    have := cut_in hok ha j hj
    rw [nth_eq hj] at this
    omega
  have hm : nth ((cutL size name es).take a ++ (cutL size name es).drop (a + 1)) k ∈ (cutL size name es).take a ++ (cutL size name es).drop (a + 1) := by
    rw [nth_eq hk]; exact List.getElem_mem hk
  rcases List.mem_append.1 hm with h | h
  · exact hall _ (List.mem_of_mem_take h)
  · exact hall _ (List.mem_of_mem_drop h)
theorem turned_in {size : Int} {name : List UInt8} {es : List Ent} (hok : okC size name es = true) (ha : ∀ k, k < es.length → 0 ≤ (nth es k).addr ∧ (nth es k).addr < 18446744073709551616) {a b c d : Nat} (hc : c < (cutL size name es).length) (hd : d < (cutL size name es).length) : ∀ k, k < (((cutL size name es).set a (nth (cutL size name es) c)).set b (nth (cutL size name es) d)).length → (nth (((cutL size name es).set a (nth (cutL size name es) c)).set b (nth (cutL size name es) d)) k).length ≤ 1000000 := fun k hk => by
  obtain ⟨b1, b2, b3⟩ := cut_bd hok
  have hall : ∀ x ∈ cutL size name es, x.length ≤ 1000000 := fun x hx => by
    obtain ⟨j, hj, rfl⟩ := List.getElem_of_mem hx
    have := cut_in hok ha j hj
    rw [nth_eq hj] at this
    omega
  have hm : nth (((cutL size name es).set a (nth (cutL size name es) c)).set b (nth (cutL size name es) d)) k ∈ (((cutL size name es).set a (nth (cutL size name es) c)).set b (nth (cutL size name es) d)) := by
    rw [nth_eq hk]; exact List.getElem_mem hk
  rcases List.mem_or_eq_of_mem_set hm with h | h
  · rcases List.mem_or_eq_of_mem_set h with h | h
    · exact hall _ h
    · rw [h, nth_eq hc]; exact hall _ (List.getElem_mem hc)
  · rw [h, nth_eq hd]; exact hall _ (List.getElem_mem hd)
end Go.Proofs.YtgdkeafdlehlaaaDoor
