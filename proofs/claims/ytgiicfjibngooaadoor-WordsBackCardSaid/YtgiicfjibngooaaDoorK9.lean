/- The words of a text: plain. -/
import Derived.Test.YtgiicfjibngooaaDoorK7
namespace Go.Proofs.YtgiicfjibngooaaDoor
open Go Go.RowKit
set_option linter.unusedVariables false
set_option linter.unusedSimpArgs false
attribute [local irreducible] ACode AOps AThen ABlock ACut

/-- the words of a text, byte by byte: those that are done, and the one under way -/
def wst (p : List (List UInt8) × List UInt8) (b : UInt8) : List (List UInt8) × List UInt8 := if b = 32 then (if p.2 = [] then p.1 else p.1 ++ [p.2], []) else (p.1, p.2 ++ [b])
def stL (l : List UInt8) : List (List UInt8) × List UInt8 := l.foldl wst ([], [])
def fin (p : List (List UInt8) × List UInt8) : List (List UInt8) := if p.2 = [] then p.1 else p.1 ++ [p.2]
def spw (l : List UInt8) : List (List UInt8) := fin (stL l)
theorem stL_snoc (l : List UInt8) (b : UInt8) : stL (l ++ [b]) = wst (stL l) b := by unfold stL; rw [List.foldl_append]; rfl
theorem stL_take (l : List UInt8) (k : Nat) (h : k < l.length) : stL (l.take (k + 1)) = wst (stL (l.take k)) (nth l k) := by rw [take_nth l k h, stL_snoc]
/-- the word under way is what stands last -/
theorem stL_cur : ∀ (k : Nat) (l : List UInt8), l.length = k → (stL l).2.length ≤ k ∧ l.drop (k - (stL l).2.length) = (stL l).2 ∧ (stL l).1.length ≤ k
  | 0, l, h => by
    obtain rfl : l = [] := List.eq_nil_of_length_eq_zero h
    exact ⟨Nat.le_refl _, rfl, Nat.le_refl _⟩
  | k + 1, l, h => by
    obtain ⟨m, b, rfl⟩ : ∃ m b, l = m ++ [b] := ⟨l.dropLast, l.getLast (by intro e; subst e; simp at h), (List.dropLast_concat_getLast _).symm⟩
    have hm : m.length = k := by simpa using h
    obtain ⟨h1, h2, h3⟩ := stL_cur k m hm
    rw [stL_snoc]
    unfold wst
    split
    · refine ⟨Nat.zero_le _, ?_, ?_⟩
      · rw [List.drop_of_length_le (by simp; omega)]
      · show (if (stL m).2 = [] then (stL m).1 else (stL m).1 ++ [(stL m).2]).length ≤ _
        split
        · omega
        · rw [List.length_append, List.length_cons, List.length_nil]; omega
    · refine ⟨by rw [List.length_append, List.length_cons, List.length_nil]; omega, ?_, Nat.le_succ_of_le h3⟩
      dsimp only
      rw [List.length_append, List.length_cons, List.length_nil, show k + 1 - ((stL m).2.length + (0 + 1)) = k - (stL m).2.length by omega, List.drop_append_of_le_length (by omega), h2]
theorem stL_word {w : List UInt8} (h : ∀ b ∈ w, b ≠ 32) : ∀ (p : List (List UInt8) × List UInt8), w.foldl wst p = (p.1, p.2 ++ w) := by
  induction w with
  | nil => intro p; simp
  | cons x w ih =>
    intro p
    rw [List.foldl_cons, ih (fun b hb => h b (List.mem_cons_of_mem _ hb))]
    unfold wst
    rw [if_neg (h x List.mem_cons_self)]
    simp
theorem spw_cons {w : List UInt8} (r : List UInt8) (h : ∀ b ∈ w, b ≠ 32) (hw : w ≠ []) : ∀ d, fin ((w ++ 32 :: r).foldl wst (d, [])) = fin (r.foldl wst (d ++ [w], [])) := by
  intro d
  rw [List.foldl_append, stL_word h, List.foldl_cons]
  congr 2
  unfold wst
  rw [if_pos rfl]
  simp [hw]
theorem spw_one {w : List UInt8} (h : ∀ b ∈ w, b ≠ 32) (hw : w ≠ []) (d : List (List UInt8)) : fin (w.foldl wst (d, [])) = d ++ [w] := by
  rw [stL_word h]
  unfold fin
  simp [hw]
theorem hx_nn (a : Nat) : hx a ≠ [] := by unfold hx; simp
theorem data_nn (d : List UInt8) : dataL d ≠ [] := fun e => by have := (dataL_len d).2; rw [e] at this; simp at this
theorem spw_say (c : Cmd) (h : okC c = true) : spw (sayL c) = wordsC c := by
  unfold spw stL
  cases c with
  | no => simp [okC] at h
  | dirty a d =>
    have e : sayL (.dirty a d) = [100, 105, 114, 116, 121] ++ 32 :: (hx a ++ 32 :: dataL d) := by simp [sayL]
    rw [e, spw_cons _ (by decide) (by decide), spw_cons _ (hx_no a) (hx_nn a), spw_one (data_no d) (data_nn d)]
    rfl
  | fill a d =>
    have e : sayL (.fill a d) = [102, 105, 108, 108] ++ 32 :: (hx a ++ 32 :: dataL d) := by simp [sayL]
    rw [e, spw_cons _ (by decide) (by decide), spw_cons _ (hx_no a) (hx_nn a), spw_one (data_no d) (data_nn d)]
    rfl
  | rd a =>
    have e : sayL (.rd a) = [114, 101, 97, 100] ++ 32 :: hx a := by simp [sayL]
    rw [e, spw_cons _ (by decide) (by decide), spw_one (hx_no a) (hx_nn a)]
    rfl
  | evict a =>
    have e : sayL (.evict a) = [101, 118, 105, 99, 116] ++ 32 :: hx a := by simp [sayL]
    rw [e, spw_cons _ (by decide) (by decide), spw_one (hx_no a) (hx_nn a)]
    rfl
  | clean a =>
    have e : sayL (.clean a) = [99, 108, 101, 97, 110] ++ 32 :: hx a := by simp [sayL]
    rw [e, spw_cons _ (by decide) (by decide), spw_one (hx_no a) (hx_nn a)]
    rfl
  | exi a m =>
    have e : sayL (.exi a m) = [101, 120, 105, 115, 116, 115] ++ 32 :: (hx a ++ 32 :: itoU m) := by simp [sayL]
    rw [e, spw_cons _ (by decide) (by decide), spw_cons _ (hx_no a) (hx_nn a), spw_one (by have := itoU_no ⟨m.toNat, by simp [okC] at h; omega⟩; rwa [show ((m.toNat : Nat) : Int) = m by simp [okC] at h; omega] at this) (fun e => by have := (itoU_small ⟨m.toNat, by simp [okC] at h; omega⟩).1; rw [show ((m.toNat : Nat) : Int) = m by simp [okC] at h; omega, e] at this; simp at this)]
    rfl
def stS (l : List UInt8) (k : Nat) : List (List UInt8) × Nat := if k ≤ l.length then ((stL (l.take k)).1, k - (stL (l.take k)).2.length) else (spw l, k)
theorem stL_len (l : List UInt8) : (stL l).1.length ≤ l.length := (stL_cur _ l rfl).2.2
theorem spw_max (l : List UInt8) : (spw l).length ≤ l.length + 1 := by
  have := stL_len l
  unfold spw fin
  split
  · omega
  · rw [List.length_append, List.length_cons, List.length_nil]; omega
theorem u8_32 {b : UInt8} : ((b.toNat : Int) = 32) ↔ b = 32 := by
  constructor
  · intro h
    apply UInt8.toNat_inj.1
    have : b.toNat = 32 := by omega
    rw [this]; rfl
  · rintro rfl; rfl
theorem stS_end {l : List UInt8} {k : Nat} (hk : k ≤ l.length) (h : k = l.length ∨ nth l k = 32) : stS l (k + 1) = (if (stL (l.take k)).2 = [] then (stL (l.take k)).1 else (stL (l.take k)).1 ++ [(stL (l.take k)).2], k + 1) := by
  by_cases hl : k = l.length
  · subst hl
    unfold stS
    rw [if_neg (by omega), List.take_length]
    rfl
  · rcases h with h | h
    · exact absurd h hl
    · unfold stS
      rw [if_pos (by omega), stL_take l k (by omega)]
      unfold wst
      rw [if_pos h]
      rfl
theorem stS_mid {l : List UInt8} {k : Nat} (hk : k < l.length) (h : ¬ nth l k = 32) : stS l (k + 1) = ((stL (l.take k)).1, k - (stL (l.take k)).2.length) := by
  unfold stS
  rw [if_pos (by omega), stL_take l k hk]
  unfold wst
  rw [if_neg h]
  dsimp only
  rw [List.length_append, List.length_cons, List.length_nil]
  congr 1
  omega
end Go.Proofs.YtgiicfjibngooaaDoor
