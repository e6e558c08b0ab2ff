/- Weaker answers of contracts. -/
import Derived.Test.YtgdkeafdlehlaaaDoorG3
namespace Go.Proofs.YtgdkeafdlehlaaaDoor
open Go Go.RowKit
set_option linter.unusedVariables false
set_option linter.unusedSimpArgs false

theorem con_weak {P : Program} {f : FuncId} {args : List AV} {Hin : List (Nat × Res)} {post post' : AV → List (Nat × Res) → Prop} (h : Con P f args Hin post) (hw : ∀ a hz, post a hz → ∃ a', (∀ (S : Nat → Prop) (γ : Nat → Value) (w : World) (v : Value), AV.holds S γ w a v → AV.holds S γ w a' v) ∧ post' a' hz) : Con P f args Hin post' := fun S γ w vs hst hargs => by
  refine (h S γ w vs hst hargs).mono ?_
  rintro e w' ⟨v, out, Hout, S', γ', rfl, hpost, hp⟩
  obtain ⟨a', hwk, hp'⟩ := hw out Hout hpost
  exact ⟨v, a', Hout, S', γ', rfl, hp', hp.keep, hp.up, hwk _ _ _ _ hp.val, hp.st, hp.own, hp.same⟩
theorem nil_sl {α : Type} (E : Enc α) (S : Nat → Prop) (w : World) : (slF E []).holds S w (.slice none 0 0) := ⟨none, 0, [], rfl, Nat.le_refl _, fun h => absurd rfl h, by simp [Enc.all, AV.holdsL], by simp⟩
end Go.Proofs.YtgdkeafdlehlaaaDoor
