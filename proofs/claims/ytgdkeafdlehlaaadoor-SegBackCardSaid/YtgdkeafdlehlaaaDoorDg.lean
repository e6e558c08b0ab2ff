/- A call that is lent one's own slice, which is then given up. Nothing of the program stands here. -/
import Derived.Test.YtgdkeafdlehlaaaDoorDn
namespace Go.Proofs.YtgdkeafdlehlaaaDoor
open Go Go.RowKit
set_option linter.unusedVariables false
section
variable {P : Program} {T : List (Nat × TI)} {c : Ctx} {n : Nat} {Q : AQ} {fr : List (Nat × AV)} {H : List (Nat × Res)} {o : Oper} {ops : Array Oper} {rest : List Oper}
theorem look_frzO_of {α : Type} (j : Nat) (E : Enc α) (xs : List α) : ∀ (fr : List (Nat × AV)) (x : Nat) (b : AV), look fr x = some b → b.uses (fun i => !(one1 j i)) = true → look (frzO j E xs fr) x = some b
  | [], x, b, h, _ => by simp [look] at h
  | (k, a) :: fr, x, b, h, hu => by
    have ih := look_frzO_of j E xs fr x b
    rw [look_cons] at h
    show look ((k, _) :: frzO j E xs fr) x = some b
    rw [look_cons]
    split at h
    · rename_i e
      rw [if_pos e]
      simp only [Option.some.injEq] at h
      subst h
      cases a with
      | own i =>
        dsimp only
        have : ¬ Nat.beq i j = true := fun hb => by
          have e := Nat.eq_of_beq_eq_true hb
          subst e
          simp [AV.uses, one1] at hu
        rw [if_neg this]
      | _ => dsimp only; rw [if_pos hu]
    · rename_i e
      rw [if_neg e]
      exact ih h hu
theorem ao_give {d e : Nat} {α : Type} {E : Enc α} {xs : List α} {out : AV} (j : Nat) (hj : look H j = some (.own e E xs) := by rfl) (hg : o.guard = none := by rfl) (hd : o.dst = some d := by rfl) (hn : Nat.blt d n = true := by rfl) (hS : SOp P o (frzO j E xs fr) (dropH (one1 j) H) out)
    (next : AOps P c n ops rest Q ((d, out) :: markF (one1 j) fr) (dropH (one1 j) H)) : AOps P c n ops (o :: rest) Q fr H := by
  refine ao_freezeOwn j hj (ao_op hd hn (.plain hg hS) fun S γ tmps w hr => ?_)
  refine next S γ tmps w ⟨hr.st, fun x av hx => ?_, hr.up, hr.own, hr.ids, hr.size, hr.keep⟩
  rw [look_cons] at hx
  split at hx
  · rename_i e
    exact hr.fr x av (by rw [look_cons, if_pos e]; exact hx)
  · rename_i e
    rw [look_markF] at hx
    cases hb : look fr x with
    | none => rw [hb] at hx; simp at hx
    | some b =>
      rw [hb] at hx
      simp only [Option.map_some, Option.some.injEq] at hx
      cases hu : b.uses (fun i => !(one1 j i)) with
      | true =>
        rw [hu] at hx
        dsimp only at hx
        subst hx
        exact hr.fr x b (by rw [look_cons, if_neg e]; exact look_frzO_of j E xs fr x b hb hu)
      | false =>
        rw [hu] at hx
        dsimp only at hx
        subst hx
        simp only [AV.holds]
end
end Go.Proofs.YtgdkeafdlehlaaaDoor
