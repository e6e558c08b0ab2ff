/- A region whose operations may run in many orders, by any invariant. Nothing of the program stands here. -/
import Derived.Test.YtjmcbacdogjdeaaAm
namespace Go.Proofs.Ytjmcbacdogjdeaa
open Go Go.RowKit
set_option linter.unusedVariables false
section
variable {P : Program} {ops : Array Oper} {Q : Exit → Act → World → Prop}
def backB (ops : Array Oper) : Bool := (List.range ops.size).all fun i => (needsAt ops i).all fun j => decide (j < i)
theorem backB_at (h : backB ops = true) {i : Nat} {o : Oper} (ho : ops[i]? = some o) : ∀ j ∈ needs o, j < i := fun j hj => by
  have hlt : i < ops.size := (Array.getElem?_eq_some_iff.1 ho).1
  have := List.all_eq_true.1 h i (List.mem_range.2 hlt)
  unfold needsAt at this
  rw [ho] at this
  simpa using List.all_eq_true.1 this j hj
theorem none_ready (h : backB ops = true) {listed : Array Bool} (hs : listed.size = ops.size) (hr : Region.ready .any ops listed = []) : ∀ i, i < ops.size → listed.getD i false = true := by
  intro i
  induction i using Nat.strongRecOn with
  | ind i ih =>
    intro hi
    cases hl : listed.getD i false with
    | true => rfl
    | false =>
      exfalso
      have ho := Array.getElem?_eq_getElem hi
      have hm : i ∈ Region.ready .any ops listed := (ready_iff hs).2 ⟨ops[i], ho, hl, fun k hk => by
        have := backB_at h ho k hk
        exact ih k this (by omega)⟩
      rw [hr] at hm
      cases hm
theorem region_inv {id : Nat} {a0 : Act} {w0 : World} {Inv : Array Bool → Act → World → Prop} (hm : P.follows .mixedOrders = true) (hb : backB ops = true)
    (h0 : Inv (Array.replicate ops.size false) a0 { w0 with drawn := w0.drawn + 1 })
    (hstep : ∀ i o listed a w, listed.size = ops.size → ops[i]? = some o → listed.getD i false = false → (∀ j ∈ needs o, listed.getD j false = true) → Inv listed a w → wpOp P ops Q i (fun a' w' => Inv (listed.setIfInBounds i true) a' w') a w)
    (hend : ∀ listed a w, (∀ i, i < ops.size → listed.getD i false = true) → Inv listed a w → Q .normal a w) : (Code.region id ops true).wp P Q a0 w0 := by
  refine wp_region_any hm ?_
  suffices H : ∀ (fuel : Nat) (listed : Array Bool) (a : Act) (w : World), listed.size = ops.size → (listed.toList.countP (fun b => !b)) ≤ fuel → Inv listed a w → wpAny P .any ops Q fuel listed a w from
    H _ _ _ _ (by simp) (by have := List.countP_le_length (p := fun b : Bool => !b) (l := List.replicate ops.size false); simpa using this) h0
  intro fuel
  induction fuel with
  | zero =>
    intro listed a w hs hf h
    have hr : Region.ready .any ops listed = [] := by
      rw [List.eq_nil_iff_forall_not_mem]
      intro i hi
      obtain ⟨o, ho, hl, _⟩ := (ready_iff hs).1 hi
      have hlt : i < listed.size := by rw [hs]; exact (Array.getElem?_eq_some_iff.1 ho).1
      have h0 : listed.toList.countP (fun b => !b) = 0 := by omega
      rw [List.countP_eq_zero] at h0
      have := h0 listed[i] (by simp)
      simp only [Array.getD_eq_getD_getElem?, Array.getElem?_eq_getElem hlt, Option.getD_some] at hl
      simp [hl] at this
    exact ⟨hr, hend listed a w (none_ready hb hs hr) h⟩
  | succ fuel ih =>
    intro listed a w hs hf h
    refine ⟨fun hr => hend listed a w (none_ready hb hs hr) h, ?_⟩
    intro i hi
    obtain ⟨o, ho, hl, hneed⟩ := (ready_iff hs).1 hi
    have hlt : i < listed.size := by rw [hs]; exact (Array.getElem?_eq_some_iff.1 ho).1
    have hcount : (listed.setIfInBounds i true).toList.countP (fun b => !b) ≤ fuel := by
      simp only [Array.getD_eq_getD_getElem?, Array.getElem?_eq_getElem hlt, Option.getD_some] at hl
      have hl' : listed.toList[i] = false := by simpa using hl
      have hlt' : i < listed.toList.length := by simpa using hlt
      have e1 : (listed.setIfInBounds i true).toList = listed.toList.set i true := by simp
      rw [e1]
      have := List.countP_set (p := fun b => !b) (l := listed.toList) (i := i) (a := true) hlt'
      have hpos : 0 < listed.toList.countP (fun b => !b) := List.countP_pos_iff.2 ⟨listed.toList[i], List.getElem_mem _, by rw [hl']; rfl⟩
      rw [this, hl']
      simp only [Bool.not_false, Bool.not_true, if_true, Bool.false_eq_true, if_false]
      omega
    have hs1 := hstep i o listed a w hs ho hl hneed h
    have next : ∀ a' w', Inv (listed.setIfInBounds i true) a' w' → wpAny P .any ops Q fuel (listed.setIfInBounds i true) a' w' := fun a' w' hI => ih _ _ _ (by simpa using hs) hcount hI
    unfold wpOp at hs1 ⊢
    simp only [ho] at hs1 ⊢
    split
    · rename_i hw
      rw [if_pos hw] at hs1
      exact hs1.imp (Oper.wp_mono next) (fun h => h)
    · rename_i hw
      rw [if_neg hw] at hs1
      exact next _ _ hs1
end
end Go.Proofs.Ytjmcbacdogjdeaa
