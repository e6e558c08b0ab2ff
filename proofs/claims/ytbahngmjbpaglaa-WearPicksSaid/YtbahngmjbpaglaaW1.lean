/- Chapter 12: what counts, in which order; plain laws. -/
import Derived.Test.YtbahngmjbpaglaaS0
namespace Go.Proofs.Ytbahngmjbpaglaa
open Go Go.RowKit
set_option linter.unusedVariables false
set_option linter.unusedSimpArgs false

def encT : Enc Bool := ⟨1, fun b => [.lit (.bool b)], fun _ => rfl, fun _ => rfl, fun _ => rfl, fun l => match l with
  | [.lit (.bool b)] => b
  | _ => default⟩
/-- a number of erases as it counts -/
def rd (n : Int) : Int := if n < 0 ∨ 1073741824 < n then 0 else n
theorem rd_bd (n : Int) : 0 ≤ rd n ∧ rd n ≤ 1073741824 := by
  unfold rd; split <;> omega
def wf (ws : List Int) (i : Int) : Int := rd (nth ws i.toNat)
theorem wf_bd (ws : List Int) (i : Int) : 0 ≤ wf ws i ∧ wf ws i ≤ 1073741824 := rd_bd _
def leW (ws : List Int) (a b : Int) : Bool := decide (wf ws a < wf ws b ∨ (wf ws a = wf ws b ∧ a ≤ b))
theorem leW_lo (ws : List Int) : LO (leW ws) := by
  constructor
  · intro a b
    simp only [leW, Bool.or_eq_true, decide_eq_true_eq]
    omega
  · intro a b c h1 h2
    simp only [leW, decide_eq_true_eq] at *
    omega
  · intro a b h1 h2
    simp only [leW, decide_eq_true_eq] at *
    omega
def cmp3 (x y : Int) : Int := if x < y then -1 else if y < x then 1 else 0
def cmpW (ws : List Int) (a b : Int) : Int := cmp3 (wf ws a) (wf ws b)
/-- the numbers below k that count -/
def ix (cs : List Bool) : Nat → List Int
  | 0 => []
  | k + 1 => if nth cs k = true then ix cs k ++ [(k : Int)] else ix cs k
theorem ix_yes {cs : List Bool} {k : Nat} (h : nth cs k = true) : ix cs (k + 1) = ix cs k ++ [(k : Int)] := by
  show (if nth cs k = true then _ else _) = _
  rw [if_pos h]
theorem ix_no {cs : List Bool} {k : Nat} (h : nth cs k = false) : ix cs (k + 1) = ix cs k := by
  show (if nth cs k = true then _ else _) = _
  rw [if_neg (by rw [h]; decide)]
theorem ix_len (cs : List Bool) : ∀ k, (ix cs k).length ≤ k
  | 0 => Nat.le_refl _
  | k + 1 => by
    have := ix_len cs k
    cases h : nth cs k with
    | true => rw [ix_yes h, List.length_append]; simp only [List.length_cons, List.length_nil]; omega
    | false => rw [ix_no h]; omega
theorem ix_mem {cs : List Bool} {x : Int} : ∀ {k : Nat}, x ∈ ix cs k ↔ 0 ≤ x ∧ x < (k : Int) ∧ nth cs x.toNat = true
  | 0 => by
    constructor
    · intro h; cases h
    · rintro ⟨h1, h2, _⟩; exact absurd h2 (by omega)
  | k + 1 => by
    cases h : nth cs k with
    | true =>
      rw [ix_yes h, List.mem_append, ix_mem, List.mem_singleton]
      constructor
      · rintro (⟨h1, h2, h3⟩ | rfl)
        · exact ⟨h1, by omega, h3⟩
        · exact ⟨by omega, by omega, by rw [Int.toNat_natCast]; exact h⟩
      · rintro ⟨h1, h2, h3⟩
        by_cases e : x = (k : Int)
        · exact .inr e
        · exact .inl ⟨h1, by omega, h3⟩
    | false =>
      rw [ix_no h, ix_mem]
      constructor
      · rintro ⟨h1, h2, h3⟩; exact ⟨h1, by omega, h3⟩
      · rintro ⟨h1, h2, h3⟩
        refine ⟨h1, ?_, h3⟩
        by_cases e : x = (k : Int)
        · rw [e, Int.toNat_natCast, h] at h3; cases h3
        · omega
theorem ix_pw (cs : List Bool) : ∀ k, (ix cs k).Pairwise (· < ·)
  | 0 => List.Pairwise.nil
  | k + 1 => by
    cases h : nth cs k with
    | true =>
      rw [ix_yes h, List.pairwise_append]
      refine ⟨ix_pw cs k, List.pairwise_singleton _ _, fun a ha b hb => ?_⟩
      rw [List.mem_singleton] at hb
      have := (ix_mem.1 ha).2.1
      omega
    | false => rw [ix_no h]; exact ix_pw cs k
theorem ix_agp (ws : List Int) (cs : List Bool) (k : Nat) : Agp (cmpW ws) (leW ws) (ix cs k) := (ix_pw cs k).imp fun {l r} h => by
  have h : l < r := h
  show cmp3 _ _ < 0 ↔ leW ws l r = false
  simp only [leW, decide_eq_false_iff_not, cmp3]
  split <;> (try split) <;> omega
def ordW (ws : List Int) (cs : List Bool) : List Int := if ws.length = cs.length then srt (leW ws) (ix cs cs.length) else []
theorem ordW_eq {ws : List Int} {cs : List Bool} (h : ws.length = cs.length) : ordW ws cs = srt (leW ws) (ix cs cs.length) := if_pos h
theorem ordW_ne {ws : List Int} {cs : List Bool} (h : ¬ ws.length = cs.length) : ordW ws cs = [] := if_neg h
theorem ordW_len (ws : List Int) (cs : List Bool) : (ordW ws cs).length ≤ cs.length := by
  unfold ordW
  split
  · rw [srt_len]; exact ix_len cs _
  · exact Nat.zero_le _
theorem ordW_mem {ws : List Int} {cs : List Bool} {x : Int} (h : x ∈ ordW ws cs) : ws.length = cs.length ∧ 0 ≤ x ∧ x < (ws.length : Int) ∧ nth cs x.toNat = true := by
  by_cases e : ws.length = cs.length
  · rw [ordW_eq e, srt_mem, ix_mem] at h
    exact ⟨e, h.1, by omega, h.2.2⟩
  · rw [ordW_ne e] at h; cases h
theorem ordW_sd (ws : List Int) (cs : List Bool) : Sd (leW ws) (ordW ws cs) := by
  unfold ordW
  split
  · exact srt_sd (leW_lo ws) _
  · exact Sd.nil
theorem nth_mem {α : Type} [Inhabited α] {l : List α} {k : Nat} (h : k < l.length) : nth l k ∈ l := by rw [nth_eq h]; exact List.getElem_mem h
theorem ordW_at {ws : List Int} {cs : List Bool} {k : Nat} (h : k < (ordW ws cs).length) : 0 ≤ nth (ordW ws cs) k ∧ nth (ordW ws cs) k < (ws.length : Int) ∧ nth cs (nth (ordW ws cs) k).toNat = true := (ordW_mem (nth_mem h)).2
def leastW (ws : List Int) (cs : List Bool) : Int := if (ordW ws cs).length = 0 then -1 else nth (ordW ws cs) 0
/-- the first of the list whose number of erases is that of its last -/
def topW (ws : List Int) (l : List Int) : Nat := l.findIdx fun b => decide (wf ws b = wf ws (nth l (l.length - 1)))
def greatW (ws : List Int) (cs : List Bool) : Int := if (ordW ws cs).length = 0 then -1 else nth (ordW ws cs) (topW ws (ordW ws cs))
def spreadW (ws : List Int) (cs : List Bool) : Int := if leastW ws cs < 0 then 0 else wf ws (greatW ws cs) - wf ws (leastW ws cs)
theorem topW_lt {ws l : List Int} (h : 0 < l.length) : topW ws l < l.length := by
  unfold topW
  rw [List.findIdx_lt_length]
  exact ⟨nth l (l.length - 1), nth_mem (by omega), by simp⟩
theorem topW_at {ws l : List Int} {k : Nat} (hk : k < l.length) (h1 : wf ws (nth l k) = wf ws (nth l (l.length - 1))) (h2 : ∀ i, i < k → wf ws (nth l i) ≠ wf ws (nth l (l.length - 1))) : topW ws l = k := by
  unfold topW
  rw [List.findIdx_eq hk]
  refine ⟨by rw [← nth_eq hk]; simpa using h1, fun j hj => ?_⟩
  have := h2 j hj
  rw [nth_eq (by omega)] at this
  simpa using this
theorem topW_wf {ws l : List Int} (h : 0 < l.length) : wf ws (nth l (topW ws l)) = wf ws (nth l (l.length - 1)) := by
  have h1 := topW_lt (ws := ws) h
  have := List.findIdx_getElem (xs := l) (p := fun b => decide (wf ws b = wf ws (nth l (l.length - 1)))) (w := h1)
  rw [nth_eq h1]
  exact of_decide_eq_true this
theorem topW_first {ws l : List Int} {k : Nat} (h : k < topW ws l) (h0 : 0 < l.length) : wf ws (nth l k) ≠ wf ws (nth l (l.length - 1)) := by
  have h1 := topW_lt (ws := ws) h0
  have := List.not_of_lt_findIdx (xs := l) (p := fun b => decide (wf ws b = wf ws (nth l (l.length - 1)))) h
  rw [nth_eq (by omega)]
  simpa using this
end Go.Proofs.Ytbahngmjbpaglaa
