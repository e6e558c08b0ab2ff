/- Blocks as they come in. -/
import Derived.Test.YtbahngmjbpaglaaS0
import Derived.Test.YtbahngmjbpaglaaG2
namespace Go.Proofs.Ytbahngmjbpaglaa
open Go Go.RowKit Go.Deep Go.ChangeShapes
set_option linter.unusedVariables false
set_option linter.unusedSimpArgs false

theorem blk_read {H : Type} {enc : TypeId × Value → H} {W : World} {base : Nat} {sp : Nat → Bool} {hd : Bool} (n : Nat) (cs : List Value) (x : DataW H × List MemPlace) (h : DataW.trod enc Try.prog W base sp hd n 42 cs = some x) : ∃ y : Blk, True ∧ AV.holdsL (Was W) noγ W (encB.cells y) cs ∧ ∀ u ∈ cs, u.oneCell' = true := by
  obtain ⟨hl, hf⟩ := read_struct Try.underlying42 (by kernel_rfl) (by kernel_rfl) h
  obtain ⟨v0, n0, y0, h0, t0⟩ := hf 0 _ rfl
  obtain ⟨v1, n1, y1, h1, t1⟩ := hf 1 _ rfl
  obtain ⟨v2, n2, y2, h2, t2⟩ := hf 2 _ rfl
  obtain ⟨v3, n3, y3, h3, t3⟩ := hf 3 _ rfl
  obtain ⟨v4, n4, y4, h4, t4⟩ := hf 4 _ rfl
  obtain ⟨i0, e0, _, w0⟩ := DataW.trod_int Try.underlying3 t0
  obtain ⟨i1, e1, _, w1⟩ := DataW.trod_int Try.underlying3 t1
  obtain ⟨i2, e2, _, w2⟩ := DataW.trod_int Try.underlying3 t2
  obtain ⟨i3, e3, _, w3⟩ := DataW.trod_int Try.underlying3 t3
  obtain ⟨i4, e4, _, w4⟩ := DataW.trod_int Try.underlying3 t4
  injection e0 with e0; injection e1 with e1; injection e2 with e2; injection e3 with e3; injection e4 with e4
  subst e0 e1 e2 e3 e4
  have hcs : cs = [.int .i64 i0, .int .i64 i1, .int .i64 i2, .int .i64 i3, .int .i64 i4] := by
    match cs, hl with
    | [c0, c1, c2, c3, c4], _ => simp_all
  subst hcs
  refine ⟨⟨i0, i1, i2, i3, i4⟩, trivial, ?_, ?_⟩
  · simp only [encB, AV.holdsL, AV.holds]
    exact ⟨_, _, rfl, rfl, _, _, rfl, rfl, _, _, rfl, rfl, _, _, rfl, rfl, _, _, rfl, rfl, rfl⟩
  · intro u hu
    simp only [List.mem_cons, List.not_mem_nil, or_false] at hu
    rcases hu with rfl | rfl | rfl | rfl | rfl <;> rfl
end Go.Proofs.Ytbahngmjbpaglaa
