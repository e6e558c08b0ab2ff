/- A nil slice in a slot, read qs0 an empty one. Nothing of the program stands here. -/
import Derived.Test.YtgdkeafdlehlaaaDoorBf
namespace Go.Proofs.YtgdkeafdlehlaaaDoor
open Go Go.RowKit
set_option linter.unusedVariables false
section
variable {P : Program} {fr : List (Nat × AV)} {H : List (Nat × Res)} {c : Ctx} {n : Nat} {Q : AQ}
theorem a_nilS {code : Code} (x : Nat) {α : Type} (E : Enc α) (hx : look fr x = some (.lit (.slice none 0 0)) := by rfl) (h : ACode P c n code Q ((x, .snap (slF E [])) :: fr) H) : ACode P c n code Q fr H := fun S γ tmps w hr => h S γ tmps w ⟨hr.st, fun y a hy => by
    rw [look_cons] at hy
    split at hy
    · rename_i e
      injection hy with hy
      subst hy; subst e
      have := hr.fr x _ hx
      simp only [AV.holds] at this ⊢
      rw [this]
      exact ⟨none, 0, [], rfl, Nat.le_refl _, fun hne => absurd rfl hne, by simp [Enc.all, AV.holdsL], by simp⟩
    · exact hr.fr y a hy, hr.up, hr.own, hr.ids, hr.size, hr.keep⟩
theorem a_nilAt (id x : Nat) {α : Type} (E : Enc α) {l : Array Oper} {d : Bool} (hx : look fr x = some (.lit (.slice none 0 0)) := by rfl) (h : ACode P c n (.region id l d) Q ((x, .snap (slF E [])) :: fr) H) : ACode P c n (.region id l d) Q fr H := a_nilS x E hx h
end
end Go.Proofs.YtgdkeafdlehlaaaDoor
