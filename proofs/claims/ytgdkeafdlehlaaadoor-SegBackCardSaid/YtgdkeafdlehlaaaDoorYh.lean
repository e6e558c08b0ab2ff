/- Arguments of the statements on entries. -/
import Derived.Test.YtgdkeafdlehlaaaDoorY0
import Derived.Test.YtgdkeafdlehlaaaDoorG2
namespace Go.Proofs.YtgdkeafdlehlaaaDoor
open Go Go.RowKit Go.Deep Go.ChangeShapes
set_option linter.unusedVariables false
set_option linter.unusedSimpArgs false

theorem u64_bd_wf {n : Int} (h : (Lit.int .u64 n).wf = true) : 0 ≤ n ∧ n < 18446744073709551616 := by
  obtain ⟨r, rfl⟩ := u64_of_wf h
  have := r.isLt
  omega
set_option maxRecDepth 10000 in
theorem ent_read {H : Type} {enc : TypeId × Value → H} {W : World} {base : Nat} {sp : Nat → Bool} {hd : Bool} (n : Nat) (cs : List Value) (x : DataW H × List MemPlace) (h : DataW.trod enc Tryd.prog W base sp hd n 44 cs = some x) : ∃ y : Ent, (0 ≤ y.addr ∧ y.addr < 18446744073709551616) ∧ AV.holdsL (Was W) noγ W (encEn.cells y) cs ∧ ∀ u ∈ cs, u.oneCell' = true := by
  obtain ⟨_, hf'⟩ := read_struct Tryd.underlying44 (by kernel_rfl) (by kernel_rfl) h
  obtain ⟨ys, n', _, _, hlen, hyl, hf⟩ := DataW.trod_struct Tryd.underlying44 h
  have hlen4 : cs.length = 4 := hlen.trans (by kernel_rfl)
  obtain ⟨c1, c2, c3, c4, rfl⟩ : ∃ c1 c2 c3 c4, cs = [c1, c2, c3, c4] := by
    match cs, hlen4 with
    | [c1, c2, c3, c4], _ => exact ⟨c1, c2, c3, c4, rfl⟩
  obtain ⟨v0, n0, y0, k0, t0⟩ := hf' 0 _ rfl
  obtain ⟨v1, n1, y1, k1, t1⟩ := hf' 1 _ rfl
  obtain ⟨v2, n2, y2, k2, t2⟩ := hf' 2 _ rfl
  obtain ⟨v3, n3, y3, k3, t3⟩ := hf' 3 _ rfl
  obtain ⟨i0, e1, _, w0⟩ := DataW.trod_int Tryd.underlying41 t0
  obtain ⟨i1, e2, _, w1⟩ := DataW.trod_int Tryd.underlying3 t1
  obtain ⟨b2, e3, _⟩ := DataW.trod_bool Tryd.underlying4 t2
  obtain ⟨i3, e4, _, w3⟩ := DataW.trod_int Tryd.underlying3 t3
  injection e1 with e1; injection e2 with e2; injection e3 with e3; injection e4 with e4
  subst e1 e2 e3 e4
  have q0 : c1 = .int .u64 i0 := by simpa using k0
  have q1 : c2 = .int .i64 i1 := by simpa using k1
  have q2 : c3 = .bool b2 := by simpa using k2
  have q3 : c4 = .int .i64 i3 := by simpa using k3
  subst q0 q1 q2 q3
  refine ⟨⟨i0, i1, b2, i3⟩, u64_bd_wf w0, ?_, ?_⟩
  · simp only [encEn, AV.holdsL, AV.holds]
    exact ⟨_, _, rfl, rfl, _, _, rfl, rfl, _, _, rfl, rfl, _, _, rfl, rfl, rfl⟩
  · intro u hu
    simp only [List.mem_cons, List.not_mem_nil, or_false] at hu
    rcases hu with rfl | rfl | rfl | rfl <;> rfl
theorem wfE_of {es : List Ent} (h : ∀ x ∈ es, 0 ≤ x.addr ∧ x.addr < 18446744073709551616) : ∀ k, k < es.length → 0 ≤ (nth es k).addr ∧ (nth es k).addr < 18446744073709551616 := fun k hk => by
  rw [nth_eq hk]; exact h _ (List.getElem_mem hk)
end Go.Proofs.YtgdkeafdlehlaaaDoor
