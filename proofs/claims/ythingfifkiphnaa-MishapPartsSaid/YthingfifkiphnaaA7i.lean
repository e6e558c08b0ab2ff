/- Mishaps as they come in. -/
import Derived.Test.YthingfifkiphnaaA7a
import Derived.Test.YthingfifkiphnaaArg
namespace Go.Proofs.Ythingfifkiphnaa
open Go Go.RowKit Go.Deep Go.ChangeShapes
set_option linter.unusedVariables false
set_option linter.unusedSimpArgs false

theorem mis_read {H : Type} {enc : TypeId × Value → H} {W : World} {base : Nat} {sp : Nat → Bool} {hd : Bool} (n : Nat) (cs : List Value) (x : DataW H × List MemPlace) (h : DataW.trod enc Try.prog W base sp hd n 25 cs = some x) : ∃ y : Mis, True ∧ AV.holdsL (Was W) noγ W (encMis.cells y) cs ∧ ∀ u ∈ cs, u.oneCell' = true := by
  obtain ⟨hl, hf⟩ := read_struct Try.underlying25 (by kernel_rfl) (by kernel_rfl) h
  obtain ⟨v0, n0, y0, h0, t0⟩ := hf 0 _ rfl
  obtain ⟨v1, n1, y1, h1, t1⟩ := hf 1 _ rfl
  obtain ⟨v2, n2, y2, h2, t2⟩ := hf 2 _ rfl
  obtain ⟨v3, n3, y3, h3, t3⟩ := hf 3 _ rfl
  obtain ⟨i0, e0, _, w0⟩ := DataW.trod_int Try.underlying3 t0
  obtain ⟨i1, e1, _, w1⟩ := DataW.trod_int Try.underlying3 t1
  obtain ⟨i2, e2, _, w2⟩ := DataW.trod_int Try.underlying3 t2
  obtain ⟨i3, e3, _, w3⟩ := DataW.trod_int Try.underlying5 t3
  obtain ⟨b3, rfl⟩ := u8_of_wf w3
  injection e0 with e0; injection e1 with e1; injection e2 with e2; injection e3 with e3
  subst e0 e1 e2 e3
  have hcs : cs = [.int .i64 i0, .int .i64 i1, .int .i64 i2, .int .u8 (b3.toNat : Int)] := by
    match cs, hl with
    | [c0, c1, c2, c3], _ => simp_all
  subst hcs
  refine ⟨⟨i0, i1, i2, b3⟩, trivial, ?_, ?_⟩
  · simp only [encMis, AV.holdsL, AV.holds]
    exact ⟨_, _, rfl, rfl, _, _, rfl, rfl, _, _, rfl, rfl, _, _, rfl, rfl, rfl⟩
  · intro u hu
    simp only [List.mem_cons, List.not_mem_nil, or_false] at hu
    rcases hu with rfl | rfl | rfl | rfl <;> rfl
end Go.Proofs.Ythingfifkiphnaa
