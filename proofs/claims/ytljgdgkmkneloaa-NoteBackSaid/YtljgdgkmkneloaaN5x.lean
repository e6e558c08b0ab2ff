/- Arguments of the statements on notes. -/
import Derived.Test.YtljgdgkmkneloaaN5g
import Derived.Test.YtljgdgkmkneloaaN5j
import Derived.Test.YtljgdgkmkneloaaG2
namespace Go.Proofs.Ytljgdgkmkneloaa
open Go Go.RowKit Go.Deep Go.ChangeShapes
set_option linter.unusedVariables false
set_option linter.unusedSimpArgs false

theorem row_sl {W : World} {a : Option Addr} {l : List UInt8} {cap : Nat} (hl : l.length ≤ cap) (hr : Row W a (bvs l)) : (slF encU l).holds (Was W) W (.slice a l.length cap) := by
  refine ⟨a, cap, bvs l, rfl, hl, fun hne => ?_, encU_bvs l, bvs_one l⟩
  obtain ⟨ad, hA, hc⟩ := hr hne
  refine ⟨ad, hA, ?_, hc⟩
  cases hb : bvs l with
  | nil => exact absurd hb hne
  | cons v vs =>
    have := World.block_lt_of_cell? W _ (hc 0 v (by rw [hb]; rfl))
    rwa [addr_block] at this
theorem u64_bd_wf {n : Int} (h : (Lit.int .u64 n).wf = true) : 0 ≤ n ∧ n < 18446744073709551616 := by
  obtain ⟨r, rfl⟩ := u64_of_wf h
  have := r.isLt
  omega
set_option maxRecDepth 10000 in
theorem note_read {H : Type} {enc : TypeId × Value → H} {W : World} {base : Nat} {sp : Nat → Bool} {hd : Bool} (n : Nat) (cs : List Value) (x : DataW H × List MemPlace) (h : DataW.trod enc Try.prog W base sp hd n 60 cs = some x) : ∃ y : Nt, (0 ≤ y.addr ∧ y.addr < 18446744073709551616) ∧ AV.holdsL (Was W) noγ W (encN.cells y) cs ∧ ∀ u ∈ cs, u.oneCell' = true := by
  obtain ⟨ys, n', _, _, hlen, hyl, hf⟩ := DataW.trod_struct Try.underlying60 h
  have hlen5 : cs.length = 5 := hlen.trans (by kernel_rfl)
  have h0 := hf 0 _ rfl
  have h1 := hf 1 _ rfl
  obtain ⟨c0, c1, c2, c3, c4, rfl⟩ : ∃ c0 c1 c2 c3 c4, cs = [c0, c1, c2, c3, c4] := by
    match cs, hlen5 with
    | [c0, c1, c2, c3, c4], _ => exact ⟨c0, c1, c2, c3, c4, rfl⟩
  have h0' : DataW.trod enc Try.prog W base sp hd n' 4 [c0] = ys[0]? := h0
  rw [List.getElem?_eq_getElem (show 0 < ys.length by rw [hyl]; decide)] at h0'
  have h1' : DataW.trod enc Try.prog W base sp hd n' 58 [c1, c2, c3, c4] = ys[1]? := h1
  rw [List.getElem?_eq_getElem (show 1 < ys.length by rw [hyl]; decide)] at h1'
  obtain ⟨b0, e0, _⟩ := DataW.trod_bool Try.underlying4 h0'
  obtain ⟨_, hf'⟩ := read_struct Try.underlying58 (by kernel_rfl) (by kernel_rfl) h1'
  obtain ⟨v0, n0, y0, k0, t0⟩ := hf' 0 _ rfl
  obtain ⟨v1, n1, y1, k1, t1⟩ := hf' 1 _ rfl
  obtain ⟨v2, n2, y2, k2, t2⟩ := hf' 2 _ rfl
  obtain ⟨v3, n3, y3, k3, t3⟩ := hf' 3 _ rfl
  obtain ⟨i0, e1, _, w0⟩ := DataW.trod_int Try.underlying23 t0
  obtain ⟨i1, e2, _, w1⟩ := DataW.trod_int Try.underlying3 t1
  obtain ⟨b2, e3, _⟩ := DataW.trod_bool Try.underlying4 t2
  obtain ⟨i3, e4, _, w3⟩ := DataW.trod_int Try.underlying3 t3
  injection e0 with e0; injection e1 with e1; injection e2 with e2; injection e3 with e3; injection e4 with e4
  subst e0 e1 e2 e3 e4
  have q0 : c1 = .int .u64 i0 := by simpa using k0
  have q1 : c2 = .int .i64 i1 := by simpa using k1
  have q2 : c3 = .bool b2 := by simpa using k2
  have q3 : c4 = .int .i64 i3 := by simpa using k3
  subst q0 q1 q2 q3
  refine ⟨⟨b0, i0, i1, b2, i3⟩, u64_bd_wf w0, ?_, ?_⟩
  · simp only [encN, AV.holdsL, AV.holds]
    exact ⟨_, _, rfl, rfl, _, _, rfl, rfl, _, _, rfl, rfl, _, _, rfl, rfl, _, _, rfl, rfl, rfl⟩
  · intro u hu
    simp only [List.mem_cons, List.not_mem_nil, or_false] at hu
    rcases hu with rfl | rfl | rfl | rfl | rfl <;> rfl
theorem wf_of {ns : List Nt} (h : ∀ x ∈ ns, 0 ≤ x.addr ∧ x.addr < 18446744073709551616) : WfN ns := fun k hk => by
  rw [nth_eq hk]; exact h _ (List.getElem_mem hk)
end Go.Proofs.Ytljgdgkmkneloaa
