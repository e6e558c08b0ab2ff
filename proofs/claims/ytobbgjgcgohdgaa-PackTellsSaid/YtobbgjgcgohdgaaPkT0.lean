/- What Get, Unfix, Fix and their references return, told alike. Conditions: at most 900000 bytes. -/
import Derived.Test.YtobbgjgcgohdgaaPkRG
namespace Go.Proofs.Ytobbgjgcgohdgaa
open Go Go.RowKit
set_option linter.unusedVariables false

def gN : Option (Nat × List UInt8) → Nat
  | none => 0
  | some p => p.1
def gL : Option (Nat × List UInt8) → List UInt8
  | none => []
  | some p => p.2
theorem getV_t {w w' : World} {e : Ending} {o : Option (Nat × List UInt8)} (h : getV w w' e o) :
    ∃ v, e = .returned (.tuple #[.int .u64 (gN o : Int), v, .bool o.isSome]) ∧ Own w' w.heap.size 5 1 v (gL o).length (bvs (gL o)) := by
  cases o with
  | none => exact ⟨_, h, Own.nil _ _ _ _ _⟩
  | some p => exact h
/-- a call that returns such three -/
def Three (w : World) (o : Option (Nat × List UInt8)) : Ending → World → Prop := fun e w' =>
  ∃ v, e = .returned (.tuple #[.int .u64 (gN o : Int), v, .bool o.isSome]) ∧ Ext w w' ∧ Own w' w.heap.size 5 1 v (gL o).length (bvs (gL o))
theorem get_t (A : Option Addr) (c : Nat) (l : List UInt8) (w : World) (hl : l.length ≤ 900000) (hc : l.length ≤ c) (hc2 : c ≤ maxLen) (ha : Row w A (bvs l)) :
    Calls Try.prog 10 #[.slice A l.length c] w (Three w (getN l)) := by
  refine (get_any A c l w hl hc hc2 ha).mono ?_
  rintro e w' ⟨hx, h⟩
  obtain ⟨v, he, ho⟩ := getV_t h
  exact ⟨v, he, hx, ho⟩
theorem rget_t (A : Option Addr) (c : Nat) (l : List UInt8) (w : World) (hl : l.length ≤ 900000) (hc : l.length ≤ c) (hc2 : c ≤ maxLen) (ha : Row w A (bvs l)) :
    Calls Try.prog 16 #[.slice A l.length c] w (Three w (getN l)) := by
  refine (rget_any A c l w hl hc hc2 ha).mono ?_
  rintro e w' ⟨hx, h⟩
  obtain ⟨v, he, ho⟩ := getV_t h
  exact ⟨v, he, hx, ho⟩
/-- what Unfix comes to -/
def unfZ (l : List UInt8) (many : Int) : Option (Nat × List UInt8) :=
  if many < 0 ∨ 8 < many ∨ (l.length : Int) < many then none else some (unfN 0 (l.take many.toNat), l.drop many.toNat)
theorem unfix_t (A : Option Addr) (c : Nat) (l : List UInt8) (many : Int) (w : World) (hl : l.length ≤ 900000) (hc : l.length ≤ c) (hc2 : c ≤ maxLen) (ha : Row w A (bvs l)) :
    Calls Try.prog 15 #[.slice A l.length c, .int .i64 many] w (Three w (unfZ l many)) := by
  unfold unfZ
  split
  · next h =>
    refine (unfix_out A c l many w hl h).mono ?_
    rintro e w' ⟨rfl, rfl⟩
    exact ⟨_, rfl, Ext.refl _, Own.nil _ _ _ _ _⟩
  · next h =>
    obtain ⟨m, rfl⟩ : ∃ m : Nat, many = (m : Int) := ⟨many.toNat, by omega⟩
    refine (unfix_in A c l m w hl hc hc2 (by omega) (by omega) ha).mono ?_
    rintro e w' ⟨v, he, hx, ho⟩
    exact ⟨v, he, hx, ho⟩
theorem runfix_t (A : Option Addr) (c : Nat) (l : List UInt8) (many : Int) (w : World) (hl : l.length ≤ 900000) (hc : l.length ≤ c) (hc2 : c ≤ maxLen) (ha : Row w A (bvs l)) :
    Calls Try.prog 17 #[.slice A l.length c, .int .i64 many] w (Three w (unfZ l many)) := by
  unfold unfZ
  split
  · next h =>
    refine (runfix_out A c l many w hl h).mono ?_
    rintro e w' ⟨rfl, rfl⟩
    exact ⟨_, rfl, Ext.refl _, Own.nil _ _ _ _ _⟩
  · next h =>
    obtain ⟨m, rfl⟩ : ∃ m : Nat, many = (m : Int) := ⟨many.toNat, by omega⟩
    refine (runfix_in A c l m w hl hc hc2 (by omega) (by omega) ha).mono ?_
    rintro e w' ⟨v, he, hx, ho⟩
    exact ⟨v, he, hx, ho⟩
/-- what Fix comes to -/
def fixZ (n : Nat) (many : Int) : List UInt8 := if many < 0 ∨ 8 < many then [] else fixN many.toNat n
theorem fixZ_len (n : Nat) (many : Int) : (fixZ n many).length ≤ 8 := by
  unfold fixZ
  split
  · simp
  · rw [fixN_len]; omega
theorem fix_t (A : Option Addr) (c : Nat) (l : List UInt8) (n : Nat) (many : Int) (w : World) (hl : l.length ≤ 900000) (hn : n < 18446744073709551616) (ha : Row w A (bvs l)) :
    Calls Try.prog 12 #[.slice A l.length c, .int .u64 (n : Int), .int .i64 many] w fun e w' => ∃ v, e = .returned v ∧ Ext w w' ∧ Own w' w.heap.size 5 1 v (l ++ fixZ n many).length (bvs (l ++ fixZ n many)) := by
  unfold fixZ
  split
  · next h => rw [List.append_nil]; exact fix_out A c l n many w hl h ha
  · next h =>
    obtain ⟨m, rfl⟩ : ∃ m : Nat, many = (m : Int) := ⟨many.toNat, by omega⟩
    exact fix_any A c l n m w hl hn (by omega) ha
theorem rfix_t (A : Option Addr) (c : Nat) (l : List UInt8) (n : Nat) (many : Int) (w : World) (hl : l.length ≤ 900000) (hn : n < 18446744073709551616) (ha : Row w A (bvs l)) :
    Calls Try.prog 19 #[.slice A l.length c, .int .u64 (n : Int), .int .i64 many] w fun e w' => ∃ v, e = .returned v ∧ Ext w w' ∧ Own w' w.heap.size 5 1 v (l ++ fixZ n many).length (bvs (l ++ fixZ n many)) := by
  unfold fixZ
  split
  · next h => rw [List.append_nil]; exact rfix_out A c l n many w hl h ha
  · next h =>
    obtain ⟨m, rfl⟩ : ∃ m : Nat, many = (m : Int) := ⟨many.toNat, by omega⟩
    exact rfix_any A c l n m w hl hn (by omega) ha
theorem gL_len {l : List UInt8} : (gL (getN l)).length ≤ l.length := by
  cases h : getN l with
  | none => simp [gL]
  | some p =>
    obtain ⟨n, r⟩ := p
    have := ((getN_iff l n r).1 h).2
    rw [this]
    simp [gL]
theorem gL_len2 {l : List UInt8} {many : Int} : (gL (unfZ l many)).length ≤ l.length := by
  unfold unfZ
  split
  · simp [gL]
  · simp [gL]
theorem Own.apart {w w' : World} {b b' : Nat} {e e' : TypeId} {u v : Value} {n n' : Nat} {xs ys : List Value} (hu : Own w b e 1 u n xs) (hb : w.heap.size ≤ b') {w2 : World} (hv : Own w2 b' e' 1 v n' ys) : wblk v = none ∨ wblk v ≠ wblk u := by
  cases hw : wblk v with
  | none => exact .inl rfl
  | some g =>
    right
    intro h
    have h1 := (hu.lt h.symm).2
    have h2 := (hv.lt hw).1
    omega
theorem Own.apart' {w w' : World} {b b' : Nat} {e e' : TypeId} {u v : Value} {n n' : Nat} {xs ys : List Value} (hu : Own w b e 1 u n xs) (hb : w.heap.size ≤ b') {w2 : World} (hv : Own w2 b' e' 1 v n' ys) : wblk u = none ∨ wblk u ≠ wblk v := by
  cases hw : wblk u with
  | none => exact .inl rfl
  | some g =>
    right
    intro h
    have h1 := (hu.lt hw).2
    have h2 := (hv.lt h.symm).1
    omega
end Go.Proofs.Ytobbgjgcgohdgaa
