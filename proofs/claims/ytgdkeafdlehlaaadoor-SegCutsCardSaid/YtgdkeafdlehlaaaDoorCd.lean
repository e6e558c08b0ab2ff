/- Contracts told of worlds whose answer is one literal. Nothing of the program stands here. -/
import Derived.Test.YtgdkeafdlehlaaaDoorCc
namespace Go.Proofs.YtgdkeafdlehlaaaDoor
open Go Go.RowKit
set_option linter.unusedVariables false
theorem holdsL_lits {S : Nat → Prop} {γ : Nat → Value} {w : World} : ∀ {us vs : List Value}, AV.holdsL S γ w (us.map AV.lit) vs → vs = us
  | [], vs, h => by simpa [AV.holdsL] using h
  | u :: us, vs, h => by
    simp only [List.map_cons, AV.holdsL, AV.holds] at h
    obtain ⟨v, vs', rfl, rfl, h⟩ := h
    rw [holdsL_lits h]
theorem con_lit {P : Program} {f : FuncId} {us : List Value} {v : Value} (h : ∀ (S : Nat → Prop) (w : World), SzA S w → Calls P f us.toArray w fun e w' => e = .returned v ∧ Ext w w') : Con P f (us.map AV.lit) [] fun a hz => a = .lit v ∧ hz = [] := fun S γ w vs hst hargs => by
  have := holdsL_lits hargs
  subst this
  refine (h S w hst.sz).mono ?_
  rintro e w' ⟨rfl, hx⟩
  refine ⟨v, .lit v, [], FreshS S w w', γ, rfl, ⟨rfl, rfl⟩, ⟨hx.os, hx.tape, hx.output, hx.size, fun b hb _ => hx.block b hb⟩, ?_, by simp only [AV.holds], ⟨fun j r h => by simp [look] at h, fun i j ri rj b h => by simp [look] at h, fun j r b h => by simp [look] at h, ?_, hst.one⟩, fun j r b h => by simp [look] at h, fun _ _ _ => rfl⟩
  · rintro b (h | ⟨h, _⟩)
    · exact .inl h
    · exact .inr (.inl h)
  · refine hst.sz.to freshS_sub (same_of_ext hst.sz hx) ?_
    rintro b (h | ⟨_, h⟩)
    · have := hst.sz b h; have := hx.size; omega
    · exact h
end Go.Proofs.YtgdkeafdlehlaaaDoor
