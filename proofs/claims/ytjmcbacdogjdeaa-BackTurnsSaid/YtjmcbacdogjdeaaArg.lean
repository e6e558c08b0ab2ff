/- Arguments as they come in, read as abstract values; a contract as a row asks for it. Nothing of the program stands here. -/
import Derived.Test.YtjmcbacdogjdeaaAk
import Derived.Test.YtjmcbacdogjdeaaOpen
import Derived.Deep.Fields
namespace Go.Proofs.Ytjmcbacdogjdeaa
open Go Go.RowKit Go.Deep Go.ChangeShapes
set_option linter.unusedVariables false
section
variable {H : Type} {enc : TypeId × Value → H} {P : Program} {W : World} {base : Nat} {sp : Nat → Bool} {hd : Bool}
/-- the blocks that were there -/
def Was (W : World) : Nat → Prop := fun b => b < W.heap.size
theorem open_sl {α : Type} (E : Enc α) (good : α → Prop) {t e : TypeId} {a : Option Addr} {len cap : Nat} {d : DataW H} {p : List MemPlace} (ht : P.underlying t = some (.slice e)) (hc : P.cellsOf e = E.size) (h0 : 0 < E.size)
    (hread : ∀ (n : Nat) (cs : List Value) (x : DataW H × List MemPlace), DataW.trod enc P W base sp hd n e cs = some x → ∃ y : α, good y ∧ AV.holdsL (Was W) noγ W (E.cells y) cs ∧ ∀ u ∈ cs, u.oneCell' = true)
    (h : DataW.Trod enc P W base sp hd t (.slice a len cap) d p) : ∃ xs : List α, xs.length = len ∧ len ≤ cap ∧ cap ≤ maxLen ∧ (slF E xs).holds (Was W) W (.slice a len cap) ∧ ∀ x ∈ xs, good x := by
  obtain ⟨fuel, hf⟩ := h
  rcases open_slice ht (show DataW.trod enc P W base sp hd fuel t [.slice a len cap] = some (d, p) from hf) with ⟨hcs, _⟩ | ⟨a', len', cap', m, n, D, Pl, hcs, _, hl, hm, hmm, _, hi⟩
  · injection hcs with hcs
    injection hcs with h1 h2 h3
    subst h1 h2 h3
    exact ⟨[], rfl, Nat.le_refl _, by simp [maxLen], ⟨none, 0, [], rfl, Nat.le_refl _, fun h => absurd rfl h, by simp [Enc.all, AV.holdsL], by simp⟩, by simp⟩
  · injection hcs with hcs
    injection hcs with h1 h2 h3
    subst h1 h2 h3
    have hlm : len ≤ m := by rw [hmm]; split <;> omega
    have key : ∀ k, k ≤ len → ∃ (xs : List α) (vs : List Value), xs.length = k ∧ AV.holdsL (Was W) noγ W (E.all xs) vs ∧ (∀ u ∈ vs, u.oneCell' = true) ∧ (∀ x ∈ xs, good x) ∧ ∀ j u, vs[j]? = some u → W.cell? (a'.add j) = some u := by
      intro k
      induction k with
      | zero => intro _; exact ⟨[], [], rfl, by simp [Enc.all, AV.holdsL], by simp, by simp, by simp⟩
      | succ k ih =>
        intro hk
        obtain ⟨xs, vs, h1, h2, h3, h4, h5⟩ := ih (by omega)
        obtain ⟨cs, hcells, ht'⟩ := hi k (by omega)
        obtain ⟨y, hg, hh, ho⟩ := hread _ _ _ ht'
        obtain ⟨_, hcl, hat⟩ := World.cells?_some hcells
        rw [hc] at hcl hat
        have hvl : vs.length = k * E.size := by rw [AV.holdsL_len h2, Enc.all_len, h1]
        refine ⟨xs ++ [y], vs ++ cs, by simp [h1], by rw [Enc.all_append, Enc.all_one]; exact AV.holdsL_app h2 hh, fun u hu => (List.mem_append.1 hu).elim (h3 u) (ho u), fun x hx => (List.mem_append.1 hx).elim (h4 x) (fun hx => by rw [List.mem_singleton] at hx; subst hx; exact hg), ?_⟩
        intro j u hu
        by_cases hj : j < vs.length
        · rw [List.getElem?_append_left hj] at hu
          exact h5 j u hu
        · rw [List.getElem?_append_right (by omega)] at hu
          have hjl := (List.getElem?_eq_some_iff.1 hu).1
          have := hat (j - vs.length) (by omega)
          rw [addr_add2, ← hvl, show vs.length + (j - vs.length) = j from by omega] at this
          rw [this, hu]
    obtain ⟨xs, vs, h1, h2, h3, h4, h5⟩ := key len (Nat.le_refl _)
    refine ⟨xs, h1, hl, hm, ⟨some a', cap, vs, by rw [h1], by omega, ?_, h2, h3⟩, h4⟩
    intro hne
    refine ⟨a', rfl, ?_, h5⟩
    cases vs with
    | nil => exact absurd rfl hne
    | cons v vs =>
      have := World.block_lt_of_cell? W _ (h5 0 v rfl)
      rwa [addr_block] at this
/-- a struct of fields of one cell -/
theorem read_struct {e : TypeId} {fs : Array Field} {n : Nat} {cs : List Value} {x : DataW H × List MemPlace} (he : P.underlying e = some (.struct fs)) (hone : oneCellFields P fs = true) (hC : P.cellsOf e = fs.size)
    (h : DataW.trod enc P W base sp hd n e cs = some x) : cs.length = fs.size ∧ ∀ (j : Nat) (f : Field), fs[j]? = some f → ∃ v n' y, cs[j]? = some v ∧ DataW.trod enc P W base sp hd n' f.type [v] = some y := by
  obtain ⟨ys, n', _, _, hlen, hyl, hf⟩ := DataW.trod_struct he h
  rw [hC] at hlen
  refine ⟨hlen, fun j f hj => ?_⟩
  obtain ⟨ho, hk⟩ := hone_of hone j f hj
  have hjl : j < fs.size := (Array.getElem?_eq_some_iff.1 hj).1
  have h1 := hf j f hj
  rw [ho, hk, List.drop_eq_getElem_cons (by omega), List.getElem?_eq_getElem (by omega)] at h1
  exact ⟨cs[j]'(by omega), n', _, List.getElem?_eq_getElem (by omega), h1⟩
theorem con_ext {f : FuncId} {args : List AV} (h : Con P f args [] fun a hz => a = .lit (.bool true) ∧ hz = []) {vs : List Value} (hv : AV.holdsL (Was W) noγ W args vs) : Calls P f vs.toArray W fun e w' => e = .returned (.bool true) ∧ Ext W w' := by
  refine (h (Was W) noγ W vs (St.nil (fun b h => h) (fun _ => rfl)) hv).mono ?_
  rintro e w' ⟨v, out, Hout, S', γ', rfl, ⟨rfl, rfl⟩, hp⟩
  have hval := hp.val
  simp only [AV.holds] at hval
  subst hval
  exact ⟨rfl, ⟨hp.keep.os, hp.keep.tape, hp.keep.output, hp.keep.size, fun b hb => hp.keep.block b hb (by rintro ⟨j, r, hj, _⟩; simp [look] at hj)⟩⟩
end
end Go.Proofs.Ytjmcbacdogjdeaa
