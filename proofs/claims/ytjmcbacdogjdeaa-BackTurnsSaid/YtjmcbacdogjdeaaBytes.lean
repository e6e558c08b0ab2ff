/- Slices that read as bytes, and as parts. Nothing of the program stands here. -/
import Derived.Test.YtjmcbacdogjdeaaMem
namespace Go.Proofs.Ytjmcbacdogjdeaa
open Go Go.RowKit
set_option linter.unusedVariables false
/-- bytes as cells -/
def bv (b : UInt8) : Value := .int .u8 (b.toNat : Int)
def bvs (l : List UInt8) : List Value := l.map bv
theorem bvs_len (l : List UInt8) : (bvs l).length = l.length := by simp [bvs]
theorem bvs_append (l m : List UInt8) : bvs (l ++ m) = bvs l ++ bvs m := by simp [bvs]
theorem bvs_one (l : List UInt8) : ∀ u ∈ bvs l, u.oneCell' = true := by
  intro u hu
  simp only [bvs, List.mem_map] at hu
  obtain ⟨b, _, rfl⟩ := hu
  rfl
theorem bvs_len1 (l : List UInt8) : (bvs l).length = l.length * 1 := by simp [bvs]
theorem one_single {v : Value} (h : v.oneCell' = true) : ∀ u ∈ [v], u.oneCell' = true := by
  intro u hu
  rw [List.mem_singleton] at hu
  rw [hu]
  exact h
theorem Row.byte {w : World} {A : Option Addr} {l : List UInt8} (h : Row w A (bvs l)) {k : Nat} (hk : k < l.length) :
    ∃ ad, A = some ad ∧ w.cell? (ad.add k) = some (.int .u8 ((l[k]).toNat : Int)) := by
  obtain ⟨ad, hA, hc⟩ := h.at_ (k := k) (by simpa [bvs] using hk)
  exact ⟨ad, hA, by simpa [bvs, bv] using hc⟩
/-- the value reads as these bytes -/
def RB (w : World) (v : Value) (l : List UInt8) : Prop := ∃ A c, v = .slice A l.length c ∧ l.length ≤ c ∧ Row w A (bvs l)
theorem RB.ext {w w' : World} {v : Value} {l : List UInt8} (h : RB w v l) (e : Ext w w') : RB w' v l := by
  obtain ⟨A, c, hv, hc, hr⟩ := h
  exact ⟨A, c, hv, hc, hr.ext e⟩
theorem RB.nil (w : World) : RB w (.slice none 0 0) [] := ⟨none, 0, rfl, Nat.le_refl _, Row.nil _ _⟩
/-- the values read as these parts -/
def RBs (w : World) (vs : List Value) (ls : List (List UInt8)) : Prop := vs.length = ls.length ∧ ∀ (i : Nat) (h : i < vs.length) (h' : i < ls.length), RB w vs[i] ls[i]
theorem RBs.nil (w : World) : RBs w [] [] := ⟨rfl, fun i h => absurd h (by simp)⟩
theorem RBs.cons {w : World} {v : Value} {l : List UInt8} {vs : List Value} {ls : List (List UInt8)} (h : RB w v l) (hs : RBs w vs ls) : RBs w (v :: vs) (l :: ls) := by
  refine ⟨by simp [hs.1], fun i hi hi' => ?_⟩
  cases i with
  | zero => exact h
  | succ i => exact hs.2 i (by simpa using hi) (by simpa using hi')
theorem RBs.ext {w w' : World} {vs : List Value} {ls : List (List UInt8)} (h : RBs w vs ls) (e : Ext w w') : RBs w' vs ls :=
  ⟨h.1, fun i hi hi' => (h.2 i hi hi').ext e⟩
/-- the value reads as a list of parts -/
def RP (w : World) (v : Value) (ls : List (List UInt8)) : Prop := ∃ A c vs, v = .slice A ls.length c ∧ ls.length ≤ c ∧ Row w A vs ∧ RBs w vs ls
theorem RP.ext {w w' : World} {v : Value} {ls : List (List UInt8)} (h : RP w v ls) (e : Ext w w') : RP w' v ls := by
  obtain ⟨A, c, vs, hv, hc, hr, hs⟩ := h
  exact ⟨A, c, vs, hv, hc, hr.ext e, hs.ext e⟩
theorem RP.nil (w : World) : RP w (.slice none 0 0) [] := ⟨none, 0, [], rfl, Nat.le_refl _, Row.nil _ _, RBs.nil _⟩
theorem Row.new (w : World) (cs : List Value) (e : TypeId) (fr : Nat × Nat) : Row (w.alloc (.cells cs.toArray e fr)) (some ⟨w.heap.size, 0, none⟩) cs := fun _ => ⟨_, rfl, fun j u hu => by
  have hadd : (⟨w.heap.size, 0, none⟩ : Addr).add j = ⟨w.heap.size, j, none⟩ := by unfold Addr.add; split <;> simp_all
  rw [hadd, cell_of_row _ _ j _ _ _ (heap_alloc_new w _)]
  simpa using hu⟩
theorem Row.newAt {w : World} {g : Nat} (cs : List Value) (e : TypeId) (fr : Nat × Nat) (h : g = w.heap.size) : Row (w.alloc (.cells cs.toArray e fr)) (some ⟨g, 0, none⟩) cs := by
  subst h
  exact Row.new w cs e fr
theorem RP.new {w : World} {g : Nat} {vs : List Value} {ls : List (List UInt8)} {e : TypeId} (hs : RBs w vs ls) (h : g = w.heap.size) {n : Nat} (hn : n = ls.length) : RP (w.alloc (.cells vs.toArray e)) (.slice (some ⟨g, 0, none⟩) n n) ls := by
  subst hn
  exact ⟨_, _, vs, rfl, Nat.le_refl _, Row.newAt vs e _ h, hs.ext (Ext.alloc _ _)⟩
/-- cells of a lent copy: the bytes, some marks, some zeros -/
def lentCells (l : List UInt8) (k j : Nat) : List Value := bvs l ++ (List.replicate k (Value.int .u8 119) ++ List.replicate j (Value.int .u8 0))
/-- what was lent: a copy of the bytes, three marks behind -/
def Lent (w : World) (v : Value) (l : List UInt8) : Prop := ∃ g e, v = .slice (some ⟨g, 0, none⟩) l.length (l.length + 3) ∧ w.heap[g]? = some (.cells (lentCells l 3 0).toArray e (0, 0))
theorem Lent.ext {w w' : World} {v : Value} {l : List UInt8} (h : Lent w v l) (x : Ext w w') : Lent w' v l := by
  obtain ⟨g, e, hv, hg⟩ := h
  exact ⟨g, e, hv, (x.block g (Array.getElem?_eq_some_iff.1 hg).1).trans hg⟩
theorem lent_row {w : World} {g : Nat} {e : TypeId} {l : List UInt8} (hg : w.heap[g]? = some (.cells (lentCells l 3 0).toArray e (0, 0))) : Row w (some ⟨g, 0, none⟩) (bvs l) := fun _ => ⟨_, rfl, fun j u hu => by
  have hadd : (⟨g, 0, none⟩ : Addr).add j = ⟨g, j, none⟩ := by unfold Addr.add; split <;> simp_all
  rw [hadd, cell_of_row w g j _ _ _ hg]
  simp only [List.getElem?_toArray, lentCells]
  have hj := (List.getElem?_eq_some_iff.1 hu).1
  rw [List.getElem?_append_left hj]; exact hu⟩
theorem Lent.rb {w : World} {v : Value} {l : List UInt8} (h : Lent w v l) : RB w v l := by
  obtain ⟨g, e, hv, hg⟩ := h
  exact ⟨_, _, hv, by omega, lent_row hg⟩
end Go.Proofs.Ytjmcbacdogjdeaa
