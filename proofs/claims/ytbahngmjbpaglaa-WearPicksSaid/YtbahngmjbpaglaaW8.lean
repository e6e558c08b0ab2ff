/- Numbers and answers as they come in. -/
import Derived.Test.YtbahngmjbpaglaaW1
import Derived.Test.YtbahngmjbpaglaaG2
namespace Go.Proofs.Ytbahngmjbpaglaa
open Go Go.RowKit Go.Deep Go.ChangeShapes
set_option linter.unusedVariables false
set_option linter.unusedSimpArgs false

theorem int_read {H : Type} {enc : TypeId × Value → H} {W : World} {base : Nat} {sp : Nat → Bool} {hd : Bool} (n : Nat) (cs : List Value) (x : DataW H × List MemPlace) (h : DataW.trod enc Try.prog W base sp hd n 3 cs = some x) : ∃ y : Int, (-9223372036854775808 ≤ y ∧ y ≤ 9223372036854775807) ∧ AV.holdsL (Was W) noγ W (encI.cells y) cs ∧ ∀ u ∈ cs, u.oneCell' = true := by
  obtain ⟨i0, rfl, _, w0⟩ := DataW.trod_int Try.underlying3 h
  refine ⟨i0, i64_of_wf w0, ?_, ?_⟩
  · simp only [encI, AV.holdsL, AV.holds]
    exact ⟨_, _, rfl, rfl, rfl⟩
  · intro u hu
    simp only [List.mem_singleton] at hu
    subst hu; rfl
theorem bool_read {H : Type} {enc : TypeId × Value → H} {W : World} {base : Nat} {sp : Nat → Bool} {hd : Bool} (n : Nat) (cs : List Value) (x : DataW H × List MemPlace) (h : DataW.trod enc Try.prog W base sp hd n 4 cs = some x) : ∃ y : Bool, True ∧ AV.holdsL (Was W) noγ W (encT.cells y) cs ∧ ∀ u ∈ cs, u.oneCell' = true := by
  obtain ⟨i0, rfl, _⟩ := DataW.trod_bool Try.underlying4 h
  refine ⟨i0, trivial, ?_, ?_⟩
  · simp only [encT, AV.holdsL, AV.holds]
    exact ⟨_, _, rfl, rfl, rfl⟩
  · intro u hu
    simp only [List.mem_singleton] at hu
    subst hu; rfl
end Go.Proofs.Ytbahngmjbpaglaa
