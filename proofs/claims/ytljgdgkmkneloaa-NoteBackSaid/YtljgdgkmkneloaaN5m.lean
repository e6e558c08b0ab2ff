/- Reading notes: what is read. Plain laws. -/
import Derived.Test.YtljgdgkmkneloaaN5d
import Derived.Test.YtljgdgkmkneloaaQg
namespace Go.Proofs.Ytljgdgkmkneloaa
open Go
set_option linter.unusedVariables false
def numO (o : List UInt8) (b : Bool) : Nat × List UInt8 × Bool := match getN (o) with
  | some (v, r) => (v, r, b)
  | none => (0, [], true)
def oneO (o : List UInt8) (b : Bool) : UInt8 × List UInt8 × Bool := match o with
  | x :: r => (x, r, b)
  | [] => (0, [], true)
theorem numO_some {o : List UInt8} {b : Bool} {v : Nat} {r : List UInt8} (h : getN (o) = some (v, r)) : numO o b = (v, r, b) := by unfold numO; rw [h]
theorem numO_none {o : List UInt8} {b : Bool} (h : getN (o) = none) : numO o b = (0, [], true) := by unfold numO; rw [h]
theorem getN_len {l r : List UInt8} {v : Nat} (h : getN l = some (v, r)) : v < 18446744073709551616 ∧ r.length + 1 ≤ l.length := by
  obtain ⟨h1, h2⟩ := (getN_iff l v r).1 h
  have := (putN_len v).1
  subst h2
  simp only [List.length_append]
  exact ⟨h1, by omega⟩
theorem numO_bd (o : List UInt8) (b : Bool) : (numO o b).1 < 18446744073709551616 := by
  unfold numO
  cases h : getN (o) with
  | none => show 0 < _; omega
  | some p => exact (getN_len h).1
theorem numO_len (o : List UInt8) (b : Bool) : ((numO o b).2.1).length ≤ (o).length := by
  unfold numO
  cases h : getN (o) with
  | none => exact Nat.zero_le _
  | some p => have := (getN_len h).2; show p.2.length ≤ _; omega
theorem numO_less (o : List UInt8) (b : Bool) (h : (numO o b).2.2 = false) : b = false ∧ ((numO o b).2.1).length + 1 ≤ (o).length := by
  unfold numO at h ⊢
  cases hg : getN (o) with
  | none => rw [hg] at h; cases h
  | some p => rw [hg] at h; exact ⟨h, (getN_len hg).2⟩
theorem oneO_len (o : List UInt8) (b : Bool) : ((oneO o b).2.1).length ≤ (o).length := by
  rcases o with _ | ⟨x, r⟩ <;> simp [oneO]
theorem oneO_less (o : List UInt8) (b : Bool) (h : (oneO o b).2.2 = false) : b = false := by
  rcases o with _ | ⟨x, r⟩ <;> simp [oneO] at h
  exact h
def zeroN : Nt := ⟨false, 0, 0, false, 0⟩
def pageO (k : UInt8) (o : List UInt8) (b : Bool) : Nat × List UInt8 × Bool := if (k.toNat : Int) = 0 then (0, o, b) else numO o b
theorem pageO_bd (k : UInt8) (o : List UInt8) (b : Bool) : (pageO k o b).1 < 18446744073709551616 := by
  unfold pageO; split
  · show 0 < _; omega
  · exact numO_bd o b
theorem pageO_len (k : UInt8) (o : List UInt8) (b : Bool) : ((pageO k o b).2.1).length ≤ (o).length := by
  unfold pageO; split
  · exact Nat.le_refl _
  · exact numO_len o b
theorem pageO_less (k : UInt8) (o : List UInt8) (b : Bool) (h : (pageO k o b).2.2 = false) : b = false := by
  unfold pageO at h; split at h
  · exact h
  · exact (numO_less o b h).1
/-- a note, read -/
def noteO (o : List UInt8) (b : Bool) : Nt × List UInt8 × Bool :=
  let a := numO o b
  let s := numO a.2.1 a.2.2
  let k := oneO s.2.1 s.2.2
  let p := pageO k.1 k.2.1 k.2.2
  if (1099511627775 : Int) < (s.1 : Int) ∨ (255 : Int) < (p.1 : Int) ∨ (2 : Int) < (k.1.toNat : Int) then (zeroN, p.2.1, true)
  else (⟨decide ((k.1.toNat : Int) = 0), (a.1 : Int), (p.1 : Int), decide ((k.1.toNat : Int) = 2), (s.1 : Int)⟩, p.2.1, p.2.2)
theorem noteO_len (o : List UInt8) (b : Bool) : ((noteO o b).2.1).length ≤ (o).length := by
  have h1 := numO_len o b
  have h2 := numO_len (numO o b).2.1 (numO o b).2.2
  have h3 := oneO_len (numO (numO o b).2.1 (numO o b).2.2).2.1 (numO (numO o b).2.1 (numO o b).2.2).2.2
  have h4 := pageO_len (oneO (numO (numO o b).2.1 (numO o b).2.2).2.1 (numO (numO o b).2.1 (numO o b).2.2).2.2).1 (oneO (numO (numO o b).2.1 (numO o b).2.2).2.1 (numO (numO o b).2.1 (numO o b).2.2).2.2).2.1 (oneO (numO (numO o b).2.1 (numO o b).2.2).2.1 (numO (numO o b).2.1 (numO o b).2.2).2.2).2.2
  unfold noteO
  simp only
  split <;> simp only <;> omega
theorem noteO_less (o : List UInt8) (b : Bool) (h : (noteO o b).2.2 = false) : b = false ∧ ((noteO o b).2.1).length + 1 ≤ (o).length := by
  have h2 := numO_len (numO o b).2.1 (numO o b).2.2
  have h3 := oneO_len (numO (numO o b).2.1 (numO o b).2.2).2.1 (numO (numO o b).2.1 (numO o b).2.2).2.2
  have h4 := pageO_len (oneO (numO (numO o b).2.1 (numO o b).2.2).2.1 (numO (numO o b).2.1 (numO o b).2.2).2.2).1 (oneO (numO (numO o b).2.1 (numO o b).2.2).2.1 (numO (numO o b).2.1 (numO o b).2.2).2.2).2.1 (oneO (numO (numO o b).2.1 (numO o b).2.2).2.1 (numO (numO o b).2.1 (numO o b).2.2).2.2).2.2
  unfold noteO at h ⊢
  simp only at h ⊢
  split at h
  · cases h
  · rename_i hc
    rw [if_neg hc]
    simp only at h ⊢
    have g1 := (numO_less _ _ (oneO_less _ _ (pageO_less _ _ _ h)))
    have g2 := numO_less _ _ g1.1
    exact ⟨g2.1, by omega⟩
theorem noteO_wf (o : List UInt8) (b : Bool) : 0 ≤ (noteO o b).1.addr ∧ (noteO o b).1.addr < 18446744073709551616 := by
  have h1 := numO_bd o b
  unfold noteO
  simp only
  split
  · show (0 : Int) ≤ 0 ∧ (0 : Int) < _; omega
  · simp only; omega
theorem noteO_laid (n : Nt) (r : List UInt8) (hm : mayN n = true) (ha0 : 0 ≤ n.addr) (ha : n.addr < 18446744073709551616) : noteO (laidN n ++ r) false = (n, r, false) := by
  obtain ⟨g, a, p, d, s⟩ := n
  simp only at ha0 ha
  simp only [mayN, Bool.and_eq_true, decide_eq_true_eq] at hm
  obtain ⟨⟨hs1, hs2⟩, hp⟩ := hm
  obtain ⟨A, rfl⟩ := Int.eq_ofNat_of_zero_le ha0
  obtain ⟨S, rfl⟩ := Int.eq_ofNat_of_zero_le (show 0 ≤ s by omega)
  have e1 : ∀ q, numO (putN A ++ q) false = (A, q, false) := fun q => numO_some (getN_put A q (by omega))
  have e2 : ∀ q, numO (putN S ++ q) false = (S, q, false) := fun q => numO_some (getN_put S q (by omega))
  cases g with
  | true =>
    simp at hp
    obtain ⟨rfl, rfl⟩ := hp
    have hl : laidN ⟨true, (A : Int), 0, false, (S : Int)⟩ ++ r = putN A ++ (putN S ++ (0 :: r)) := by simp [laidN]
    rw [hl]
    unfold noteO
    rw [e1]
    simp only [e2, oneO, pageO]
    have h3 : ¬ ((1099511627775 : Int) < (S : Int) ∨ (255 : Int) < ((0 : Nat) : Int) ∨ (2 : Int) < (((0 : UInt8).toNat : Nat) : Int)) := by
      simp; omega
    simp only [show ((((0 : UInt8).toNat : Nat) : Int) = 0) from rfl, if_true] at h3 ⊢
    rw [if_neg h3]
    simp
  | false =>
    simp only [Bool.false_eq_true, if_false, decide_eq_true_eq] at hp
    obtain ⟨Pg, rfl⟩ := Int.eq_ofNat_of_zero_le hp.1
    have e3 : ∀ q, numO (putN Pg ++ q) false = (Pg, q, false) := fun q => numO_some (getN_put Pg q (by omega))
    cases d with
    | true =>
      have hl : laidN ⟨false, (A : Int), (Pg : Int), true, (S : Int)⟩ ++ r = putN A ++ (putN S ++ (2 :: (putN Pg ++ r))) := by simp [laidN]
      rw [hl]
      unfold noteO
      rw [e1]
      simp only [e2, oneO, pageO]
      have h2 : ¬ ((((2 : UInt8).toNat : Nat) : Int) = 0) := by decide
      simp only [if_neg h2, e3]
      have h3 : ¬ ((1099511627775 : Int) < (S : Int) ∨ (255 : Int) < (Pg : Int) ∨ (2 : Int) < (((2 : UInt8).toNat : Nat) : Int)) := by
        simp; omega
      rw [if_neg h3]
      simp
    | false =>
      have hl : laidN ⟨false, (A : Int), (Pg : Int), false, (S : Int)⟩ ++ r = putN A ++ (putN S ++ (1 :: (putN Pg ++ r))) := by simp [laidN]
      rw [hl]
      unfold noteO
      rw [e1]
      simp only [e2, oneO, pageO]
      have h2 : ¬ ((((1 : UInt8).toNat : Nat) : Int) = 0) := by decide
      simp only [if_neg h2, e3]
      have h3 : ¬ ((1099511627775 : Int) < (S : Int) ∨ (255 : Int) < (Pg : Int) ∨ (2 : Int) < (((1 : UInt8).toNat : Nat) : Int)) := by
        simp; omega
      rw [if_neg h3]
      simp
end Go.Proofs.Ytljgdgkmkneloaa
