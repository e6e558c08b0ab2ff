/- Frames weakened; a nil slice reads qs0 none. -/
import Derived.Test.YtgiicfjibngooaaDoorKf
namespace Go.Proofs.YtgiicfjibngooaaDoor
open Go Go.RowKit
set_option linter.unusedVariables false
set_option linter.unusedSimpArgs false

theorem a_wk {P : Program} {c : Ctx} {n : Nat} {Q : AQ} {fr : List (Nat × AV)} {H : List (Nat × Res)} {code : Code} (x : Nat) {a a' : AV} (hl : look fr x = some a) (hw : ∀ (S : Nat → Prop) (γ : Nat → Value) (w : World) (v : Value), AV.holds S γ w a v → AV.holds S γ w a' v) (h : ACode P c n code Q ((x, a') :: fr) H) : ACode P c n code Q fr H := fun S γ tmps w hr => h S γ tmps w ⟨hr.st, fun y av hy => by
  rw [look_cons] at hy
  split at hy
  · rename_i e
    subst e
    simp only [Option.some.injEq] at hy
    subst hy
    exact hw _ _ _ _ (hr.fr x a hl)
  · exact hr.fr y av hy, hr.up, hr.own, hr.ids, hr.size, hr.keep⟩
theorem nil_place {x y z : AV} (S : Nat → Prop) (γ : Nat → Value) (w : World) (v : Value) (h : AV.holds S γ w (.snap (placeF [x, y, .lit (.slice none 0 0), z])) v) : AV.holds S γ w (.snap (placeF [x, y, .snap (slF encU []), z])) v := by
  simp only [AV.holds] at h ⊢
  obtain ⟨ad, vs, rfl, hr, v1, r1, rfl, h1, v2, r2, rfl, h2, v3, r3, rfl, h3, h4⟩ := h
  exact ⟨ad, _, rfl, hr, v1, _, rfl, h1, v2, _, rfl, h2, v3, _, rfl, by rw [show v3 = .slice none 0 0 from h3]; exact nil_sl encU S w, h4⟩
end Go.Proofs.YtgiicfjibngooaaDoor
