/- Names: what may be one; plain laws. -/
import Derived.Test.YtgdkeafdlehlaaaDoorL0
namespace Go.Proofs.YtgdkeafdlehlaaaDoor
open Go Go.RowKit
set_option linter.unusedVariables false
set_option linter.unusedSimpArgs false

def mayL (l : List UInt8) : Bool := Lib.validD l && decide (1 ≤ (rns l).length) && decide ((rns l).length ≤ 12) && decide (nth (rns l) 0 ≠ 45) && decide (nth (rns l) ((rns l).length - 1) ≠ 45) && (rns l).all goodR
theorem rns_ne {l : List UInt8} (h : l ≠ []) : rns l ≠ [] := by rw [rns_step h]; simp
theorem enc45 : Lib.encodeRune 45 = [45] := by decide
theorem pre45 {l : List UInt8} (hv : Lib.validD l = true) (hne : l ≠ []) : Lib.hasPrefix l [45] = true ↔ nth (rns l) 0 = 45 := by
  rcases l with _ | ⟨b, t⟩
  · exact absurd rfl hne
  rw [rns_step hne]
  show _ ↔ ((Lib.decodeL (b :: t)).1 : Int) = 45
  have e1 : Lib.hasPrefix (b :: t) [45] = true ↔ b = 45 := by
    show ((45 : UInt8) == b && true) = true ↔ b = 45
    rw [Bool.and_true, beq_iff_eq]
    exact eq_comm
  rw [e1]
  constructor
  · rintro rfl
    rw [Lib.decodeL_ascii _ _ (by decide)]
    rfl
  · intro h
    have hb : ¬ ((Lib.decodeL (b :: t)).1 = 65533 ∧ (Lib.decodeL (b :: t)).2 = 1) := by
      rw [Lib.validD_step _ hne] at hv
      intro hb
      rw [if_pos hb] at hv; cases hv
    have h2 := Lib.encode_decode _ hne hb
    rw [h, enc45] at h2
    have hw := Lib.decodeL_width (b :: t)
    obtain ⟨k, hk⟩ : ∃ k, (Lib.decodeL (b :: t)).2 = k + 1 := ⟨(Lib.decodeL (b :: t)).2 - 1, by omega⟩
    rw [hk, List.take_succ_cons] at h2
    injection h2 with h2 _
    exact h2.symm
theorem enc_last (r : Int) : ∃ ys b, Lib.encodeRune r = ys ++ [b] ∧ (b = 45 ↔ r = 45) := by
  unfold Lib.encodeRune
  by_cases h1 : 0 ≤ r ∧ r ≤ 127
  · rw [Lib.encodeRuneZ_one h1.1 h1.2]
    refine ⟨[], r.toNat.toUInt8, rfl, ?_⟩
    obtain ⟨k, rfl⟩ := Int.eq_ofNat_of_zero_le h1.1
    rw [Int.toNat_natCast]
    constructor
    · intro h
      have := congrArg UInt8.toNat h
      simp at this
      omega
    · intro h
      have : k = 45 := by omega
      subst this; rfl
  have hi : ∀ m : Int, 0 ≤ m → m < 64 → ¬ (128 + m).toNat.toUInt8 = 45 := fun m h0 h1 h => by
    have := congrArg UInt8.toNat h
    simp at this
    omega
  by_cases h2 : 128 ≤ r ∧ r ≤ 2047
  · rw [Lib.encodeRuneZ_two h2.1 h2.2]
    exact ⟨[_], _, rfl, fun h => absurd h (hi _ (by omega) (by omega)), fun h => by omega⟩
  by_cases h3 : (2048 ≤ r ∧ r < 55296) ∨ (57343 < r ∧ r ≤ 65535)
  · rw [Lib.encodeRuneZ_three h3]
    exact ⟨[_, _], _, rfl, fun h => absurd h (hi _ (by omega) (by omega)), fun h => by omega⟩
  by_cases h4 : 65536 ≤ r ∧ r ≤ 1114111
  · rw [Lib.encodeRuneZ_four h4.1 h4.2]
    exact ⟨[_, _, _], _, rfl, fun h => absurd h (hi _ (by omega) (by omega)), fun h => by omega⟩
  · rw [Lib.encodeRuneZ_bad (by omega)]
    exact ⟨[239, 191], 189, rfl, fun h => absurd h (by decide), fun h => by omega⟩
theorem suf45 {l : List UInt8} (hv : Lib.validD l = true) (hne : l ≠ []) : Lib.hasSuffix l [45] = true ↔ nth (rns l) ((rns l).length - 1) = 45 := by
  have hx := rns_ne hne
  have hl := (valid_rb l).2 hv
  obtain ⟨xs, r, hr⟩ : ∃ xs r, rns l = xs ++ [r] := ⟨_, _, (List.dropLast_concat_getLast hx).symm⟩
  have e1 : nth (rns l) ((rns l).length - 1) = r := by
    rw [hr, nth_eq (by simp)]
    simp
  obtain ⟨ys, b, hb, hbr⟩ := enc_last r
  have e2 : l = (rb xs ++ ys) ++ [b] := by
    rw [← hl, hr, rb_app, rb_cons, rb_nil, hb, List.append_nil, List.append_assoc]
  rw [e1, ← hbr, e2]
  unfold Lib.hasSuffix List.isSuffixOf
  rw [List.reverse_append]
  show ((45 : UInt8) == b && true) = true ↔ b = 45
  rw [Bool.and_true, beq_iff_eq]
  exact eq_comm
theorem may_bad {l : List UInt8} (h : ((l = [] ∨ Lib.hasPrefix l [45] = true) ∨ Lib.hasSuffix l [45] = true) ∨ Lib.validD l = false) : mayL l = false := by
  unfold mayL
  cases hv : Lib.validD l with
  | false => rfl
  | true =>
    rw [hv] at h
    by_cases hne : l = []
    · subst hne; rfl
    · rcases h with ((h | h) | h) | h
      · exact absurd h hne
      · rw [(pre45 hv hne).1 h]; simp
      · rw [(suf45 hv hne).1 h]; simp
      · cases h
theorem may_rest {l : List UInt8} (h0 : ¬ l = []) (h1 : Lib.hasPrefix l [45] = false) (h2 : Lib.hasSuffix l [45] = false) (h3 : Lib.validD l = true) : mayL l = (decide ((rns l).length ≤ 12) && (rns l).all goodR) := by
  have hx := rns_ne h0
  have hl : 1 ≤ (rns l).length := List.length_pos_iff.2 hx
  have e1 : ¬ nth (rns l) 0 = 45 := fun h => by rw [(pre45 h3 h0).2 h] at h1; cases h1
  have e2 : ¬ nth (rns l) ((rns l).length - 1) = 45 := fun h => by rw [(suf45 h3 h0).2 h] at h2; cases h2
  unfold mayL
  rw [h3, decide_eq_true hl, decide_eq_true e1, decide_eq_true e2]
  simp
theorem rmay_bad {l : List UInt8} (h : (((((rns l).length : Int) < 1 ∨ 12 < ((rns l).length : Int)) ∨ ¬ rb (rns l) = l) ∨ nth (rns l) 0 = 45) ∨ nth (rns l) (((rns l).length : Int) - 1).toNat = 45) : mayL l = false := by
  unfold mayL
  rcases h with (((h | h) | h) | h) | h
  · rw [decide_eq_false (show ¬ 1 ≤ (rns l).length by omega)]; simp
  · rw [decide_eq_false (show ¬ (rns l).length ≤ 12 by omega)]; simp
  · have : Lib.validD l = false := by
      cases hv : Lib.validD l with
      | false => rfl
      | true => exact absurd ((valid_rb l).2 hv) h
    rw [this]; rfl
  · rw [h]; simp
  · rw [show (((rns l).length : Int) - 1).toNat = (rns l).length - 1 from by omega] at h
    rw [h]; simp
theorem rmay_rest {l : List UInt8} (h : (((1 ≤ ((rns l).length : Int) ∧ ((rns l).length : Int) ≤ 12) ∧ rb (rns l) = l) ∧ ¬ nth (rns l) 0 = 45) ∧ ¬ nth (rns l) (((rns l).length : Int) - 1).toNat = 45) : mayL l = (rns l).all goodR := by
  obtain ⟨⟨⟨⟨h1, h2⟩, h3⟩, h4⟩, h5⟩ := h
  rw [show (((rns l).length : Int) - 1).toNat = (rns l).length - 1 from by omega] at h5
  unfold mayL
  rw [(valid_rb l).1 h3, decide_eq_true (show 1 ≤ (rns l).length by omega), decide_eq_true (show (rns l).length ≤ 12 by omega), decide_eq_true h4, decide_eq_true h5]
  simp
theorem all_nth {xs : List Int} {p : Int → Bool} (h : ∀ i, i < xs.length → p (nth xs i) = true) : xs.all p = true := by
  rw [List.all_eq_true]
  intro x hx
  obtain ⟨i, hi, rfl⟩ := List.getElem_of_mem hx
  have := h i hi
  rwa [nth_eq hi] at this
theorem all_not {xs : List Int} {p : Int → Bool} {i : Nat} (hi : i < xs.length) (h : p (nth xs i) = false) : xs.all p = false := by
  cases ha : xs.all p with
  | false => rfl
  | true =>
    rw [List.all_eq_true] at ha
    have := ha (nth xs i) (by rw [nth_eq hi]; exact List.getElem_mem hi)
    rw [this] at h; cases h
end Go.Proofs.YtgdkeafdlehlaaaDoor
