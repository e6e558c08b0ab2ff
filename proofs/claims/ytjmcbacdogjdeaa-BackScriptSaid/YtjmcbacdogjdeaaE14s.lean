/- Acts as they come in. -/
import Derived.Test.YtjmcbacdogjdeaaE14m
import Derived.Test.YtjmcbacdogjdeaaG2
namespace Go.Proofs.Ytjmcbacdogjdeaa
open Go Go.RowKit Go.Deep Go.ChangeShapes
set_option linter.unusedVariables false
set_option linter.unusedSimpArgs false

set_option maxRecDepth 10000 in
theorem act_read {H : Type} {enc : TypeId × Value → H} {W : World} {base : Nat} {sp : Nat → Bool} {hd : Bool} (n : Nat) (cs : List Value) (x : DataW H × List MemPlace) (h : DataW.trod enc Try.prog W base sp hd n 30 cs = some x) : ∃ y : Int × Int × Bool, True ∧ AV.holdsL (Was W) noγ W (encA.cells y) cs ∧ ∀ u ∈ cs, u.oneCell' = true := by
  obtain ⟨_, hf'⟩ := read_struct Try.underlying30 (by kernel_rfl) (by kernel_rfl) h
  obtain ⟨ys, n', _, _, hlen, hyl, hf⟩ := DataW.trod_struct Try.underlying30 h
  have hlen3 : cs.length = 3 := hlen.trans (by kernel_rfl)
  obtain ⟨c1, c2, c3, rfl⟩ : ∃ c1 c2 c3, cs = [c1, c2, c3] := by
    match cs, hlen3 with
    | [c1, c2, c3], _ => exact ⟨c1, c2, c3, rfl⟩
  obtain ⟨v0, n0, y0, k0, t0⟩ := hf' 0 _ rfl
  obtain ⟨v1, n1, y1, k1, t1⟩ := hf' 1 _ rfl
  obtain ⟨v2, n2, y2, k2, t2⟩ := hf' 2 _ rfl
  obtain ⟨i0, e1, _, w0⟩ := DataW.trod_int Try.underlying3 t0
  obtain ⟨i1, e2, _, w1⟩ := DataW.trod_int Try.underlying28 t1
  obtain ⟨b2, e3, _⟩ := DataW.trod_bool Try.underlying4 t2
  injection e1 with e1; injection e2 with e2; injection e3 with e3
  subst e1 e2 e3
  have q0 : c1 = .int .i64 i0 := by simpa using k0
  have q1 : c2 = .int .u64 i1 := by simpa using k1
  have q2 : c3 = .bool b2 := by simpa using k2
  subst q0 q1 q2
  refine ⟨(i0, i1, b2), trivial, ?_, ?_⟩
  · simp only [encA, AV.holdsL, AV.holds]
    exact ⟨_, _, rfl, rfl, _, _, rfl, rfl, _, _, rfl, rfl, rfl⟩
  · intro u hu
    simp only [List.mem_cons, List.not_mem_nil, or_false] at hu
    rcases hu with rfl | rfl | rfl <;> rfl
end Go.Proofs.Ytjmcbacdogjdeaa
