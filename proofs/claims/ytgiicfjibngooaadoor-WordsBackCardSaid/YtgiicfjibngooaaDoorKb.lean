/- Cutting, rune by rune: plain. -/
import Derived.Test.YtgiicfjibngooaaDoorKa
namespace Go.Proofs.YtgiicfjibngooaaDoor
open Go Go.RowKit
set_option linter.unusedVariables false
set_option linter.unusedSimpArgs false
attribute [local irreducible] ACode AOps AThen ABlock ACut

theorem decN32 (n b1 b2 b3 : Nat) : Lib.decodeN n 32 b1 b2 b3 = (32, 1) := by simp [Lib.decodeN]
theorem decN_no (n b0 b1 b2 b3 : Nat) (hn : 1 ≤ n) (h : b0 ≠ 32) : (Lib.decodeN n b0 b1 b2 b3).1 ≠ 32 ∧ 1 ≤ (Lib.decodeN n b0 b1 b2 b3).2 ∧ (Lib.decodeN n b0 b1 b2 b3).2 ≤ n ∧ (Lib.decodeN n b0 b1 b2 b3).2 ≤ 4 ∧ (1 < (Lib.decodeN n b0 b1 b2 b3).2 → b1 ≠ 32) ∧ (2 < (Lib.decodeN n b0 b1 b2 b3).2 → b2 ≠ 32) ∧ (3 < (Lib.decodeN n b0 b1 b2 b3).2 → b3 ≠ 32) := by
  unfold Lib.decodeN
  repeat' split
  all_goals (refine ⟨?_, ?_, ?_, ?_, ?_, ?_, ?_⟩ <;> first | omega | (intro _; omega))
theorem get_nth (l : List UInt8) (i : Nat) : (strOf l).get! i = nth l i := by
  show (strOf l).data[i]! = l.getD i default
  rw [Array.getElem!_eq_getD, Array.getD_eq_getD_getElem?, List.getD_eq_getElem?_getD, show (strOf l).data = l.toArray from rfl, List.getElem?_toArray]
theorem nth_blank (l : List UInt8) {i : Nat} (h : i ≤ l.length) : (i = l.length ∧ nth (l ++ [32]) i = 32) ∨ (i < l.length ∧ nth (l ++ [32]) i = nth l i) := by
  unfold nth
  rw [List.getD_eq_getElem?_getD, List.getD_eq_getElem?_getD]
  by_cases hi : i < l.length
  · exact .inr ⟨hi, by rw [List.getElem?_append_left hi]⟩
  · obtain rfl : i = l.length := by omega
    exact .inl ⟨rfl, by simp⟩
theorem dec_blank {l : List UInt8} {i : Nat} (h : nth l i = 32) : Utf8.decode (strOf l) i = (32, 1) := by
  rw [Lib.decode_at, get_nth, h]
  exact decN32 _ _ _ _
/-- a rune that is no blank: all its bytes are none -/
theorem dec_word {l : List UInt8} {i : Nat} (hi : i < l.length) (h : ¬ nth (l ++ [32]) i = 32) : (Utf8.decode (strOf (l ++ [32])) i).1 ≠ 32 ∧ 1 ≤ (Utf8.decode (strOf (l ++ [32])) i).2 ∧ i + (Utf8.decode (strOf (l ++ [32])) i).2 ≤ l.length ∧ ∀ j, i ≤ j → j < i + (Utf8.decode (strOf (l ++ [32])) i).2 → ¬ nth (l ++ [32]) j = 32 := by
  have e := Lib.decode_at (strOf (l ++ [32])) i
  rw [get_nth, get_nth, get_nth, get_nth, strOf_size, List.length_append, List.length_cons, List.length_nil] at e
  have hb : ∀ j, (nth (l ++ [32]) j).toNat ≠ 32 → ¬ nth (l ++ [32]) j = 32 := fun j hj e => hj (by rw [e]; rfl)
  have h0 : (nth (l ++ [32]) i).toNat ≠ 32 := fun e => h (UInt8.toNat_inj.1 (by rw [e]; rfl))
  obtain ⟨d1, d2, d3, d4, d5, d6, d7⟩ := decN_no (l.length + (0 + 1) - i) _ (nth (l ++ [32]) (i + 1)).toNat (nth (l ++ [32]) (i + 2)).toNat (nth (l ++ [32]) (i + 3)).toNat (by omega) h0
  rw [← e] at d1 d2 d3 d4 d5 d6 d7
  have hall : ∀ j, i ≤ j → j < i + (Utf8.decode (strOf (l ++ [32])) i).2 → ¬ nth (l ++ [32]) j = 32 := fun j h1 h2 => by
    rcases Nat.lt_or_ge i j with hj | hj
    · rcases Nat.lt_or_ge (i + 1) j with hj2 | hj2
      · rcases Nat.lt_or_ge (i + 2) j with hj3 | hj3
        · obtain rfl : j = i + 3 := by omega
          exact hb _ (d7 (by omega))
        · obtain rfl : j = i + 2 := by omega
          exact hb _ (d6 (by omega))
      · obtain rfl : j = i + 1 := by omega
        exact hb _ (d5 (by omega))
    · obtain rfl : j = i := by omega
      exact h
  refine ⟨d1, d2, ?_, hall⟩
  rcases Nat.lt_or_ge l.length (i + (Utf8.decode (strOf (l ++ [32])) i).2) with hl | hl
  · have := hall l.length (by omega) hl
    rcases nth_blank l (Nat.le_refl l.length) with ⟨_, h1⟩ | ⟨h1, _⟩
    · exact absurd h1 this
    · omega
  · exact hl
theorem take_u {l : List UInt8} {i : Nat} (h : i ≤ l.length) : (l ++ [32]).take i = l.take i := List.take_append_of_le_length h
theorem stL_seg {l : List UInt8} {i w : Nat} (hi : i + w ≤ l.length) (h : ∀ j, i ≤ j → j < i + w → ¬ nth l j = 32) : stL (l.take (i + w)) = ((stL (l.take i)).1, (stL (l.take i)).2 ++ (l.drop i).take w) := by
  have e : l.take (i + w) = l.take i ++ (l.drop i).take w := List.take_add
  rw [e]
  unfold stL
  rw [List.foldl_append, stL_word]
  intro b hb
  obtain ⟨j, hj, rfl⟩ := List.getElem_of_mem hb
  rw [List.length_take, List.length_drop] at hj
  have := h (i + j) (by omega) (by omega)
  rw [nth_eq (by omega)] at this
  simpa using this
def frS (l : List UInt8) (i : Nat) : Int := if (stL (l.take i)).2.length = 0 then -1 else (i : Int) - ((stL (l.take i)).2.length : Int)
theorem spw_u (l : List UInt8) : (stL (l ++ [32])).1 = spw l := by rw [stL_snoc]; rfl
end Go.Proofs.YtgiicfjibngooaaDoor
