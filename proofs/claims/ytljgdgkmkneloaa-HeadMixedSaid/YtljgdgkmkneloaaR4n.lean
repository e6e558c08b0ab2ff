/- Laying is one to one. -/
import Derived.Test.YtljgdgkmkneloaaR4m
namespace Go.Proofs.Ytljgdgkmkneloaa
open Go Go.RowKit
set_option linter.unusedVariables false
set_option linter.unusedSimpArgs false

theorem lay_inj {x y : List UInt8} {h i : Hd} (hm : mayH h = true) (hm' : mayH i = true) (hl : x.length = y.length) (h0 : 0 ≤ h.addr) (h1 : h.addr < 18446744073709551616) (i0 : 0 ≤ i.addr) (i1 : i.addr < 18446744073709551616) : layM x h = layM y i ↔ (h = i ∧ x = y) := by
  constructor
  · intro e
    have e1 := hdAt_lay x h hm h0 h1
    have e2 := hdAt_lay y i hm' i0 i1
    rw [e, e2] at e1
    have e3 := take_lay x h
    rw [e, hl, take_lay] at e3
    exact ⟨e1.symm, e3.symm⟩
  · rintro ⟨rfl, rfl⟩; rfl
theorem hd_eq (a b : Hd) : (decide (a.kind = b.kind) && (decide (a.addr = b.addr) && (decide (a.seq = b.seq) && (decide (a.gen = b.gen) && true)))) = decide (a = b) := by
  rw [Bool.eq_iff_iff]
  simp only [Bool.and_eq_true, decide_eq_true_eq, and_true]
  constructor
  · rintro ⟨h1, h2, h3, h4⟩
    cases a; cases b; simp_all
  · rintro rfl; exact ⟨rfl, rfl, rfl, rfl⟩
end Go.Proofs.Ytljgdgkmkneloaa
