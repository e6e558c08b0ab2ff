/- Chapter 15: which blocks count, and in which order; plain laws. -/
import Derived.Test.YtbahngmjbpaglaaS0
namespace Go.Proofs.Ytbahngmjbpaglaa
open Go Go.RowKit
set_option linter.unusedVariables false
set_option linter.unusedSimpArgs false

def cmp3 (x y : Int) : Int := if x < y then -1 else if y < x then 1 else 0
theorem cmp3_cases (x y : Int) : (x < y ∧ cmp3 x y = -1) ∨ (y < x ∧ cmp3 x y = 1) ∨ (x = y ∧ cmp3 x y = 0) := by
  unfold cmp3
  split
  · exact .inl ⟨by assumption, rfl⟩
  · split
    · exact .inr (.inl ⟨by assumption, rfl⟩)
    · exact .inr (.inr ⟨by omega, rfl⟩)
def orL : List Int → Int
  | [] => 0
  | x :: l => if x = 0 then orL l else x
theorem orL_at : ∀ {l : List Int} {k : Nat}, k < l.length → (∀ i, i < k → nth l i = 0) → nth l k ≠ 0 → orL l = nth l k
  | x :: l, 0, _, _, h => by
    show (if x = 0 then orL l else x) = x
    rw [if_neg (show ¬ x = 0 from h)]
  | x :: l, k + 1, hk, h0, h => by
    show (if x = 0 then orL l else x) = nth l k
    rw [if_pos (show x = 0 from h0 0 (by omega))]
    exact orL_at (l := l) (k := k) (by simpa using hk) (fun i hi => h0 (i + 1) (by omega)) h
  | [], k, hk, _, _ => absurd hk (Nat.not_lt_zero _)
theorem orL_no : ∀ {l : List Int}, (∀ i, i < l.length → nth l i = 0) → orL l = 0
  | [], _ => rfl
  | x :: l, h0 => by
    show (if x = 0 then orL l else x) = 0
    rw [if_pos (show x = 0 from h0 0 (by simp))]
    exact orL_no (l := l) (fun i hi => h0 (i + 1) (by simpa using hi))
def fine (n : Int) : Bool := decide (0 ≤ n) && decide (n ≤ 1073741824)
def bad (n : Int) : Bool := decide (n < 0) || decide (1073741824 < n)
theorem bad_fine (n : Int) : bad n = !fine n := by
  unfold bad fine
  rw [Bool.eq_iff_iff]
  simp only [Bool.or_eq_true, Bool.not_eq_true', Bool.and_eq_false_iff, decide_eq_true_eq, decide_eq_false_iff_not]
  omega
/-- may a block be, and count? -/
def mayB (b : Blk) : Bool := fine b.id && fine b.clean && fine b.dirty && fine b.other && fine b.wear
theorem mayB_iff (b : Blk) : mayB b = true ↔ (0 ≤ b.id ∧ b.id ≤ 1073741824) ∧ (0 ≤ b.clean ∧ b.clean ≤ 1073741824) ∧ (0 ≤ b.dirty ∧ b.dirty ≤ 1073741824) ∧ (0 ≤ b.other ∧ b.other ≤ 1073741824) ∧ (0 ≤ b.wear ∧ b.wear ≤ 1073741824) := by
  unfold mayB fine
  simp only [Bool.and_eq_true, decide_eq_true_eq]
  constructor
  · rintro ⟨⟨⟨⟨a, b⟩, c⟩, d⟩, e⟩; exact ⟨a, b, c, d, e⟩
  · rintro ⟨a, b, c, d, e⟩; exact ⟨⟨⟨⟨a, b⟩, c⟩, d⟩, e⟩
theorem any_may (b : Blk) : ([b.id, b.clean, b.dirty, b.other, b.wear].any bad) = !mayB b := by
  unfold mayB
  simp only [List.any_cons, List.any_nil, bad_fine]
  cases fine b.id <;> cases fine b.clean <;> cases fine b.dirty <;> cases fine b.other <;> cases fine b.wear <;> rfl
def leB (x y : Blk) : Bool := decide (x.dirty < y.dirty ∨ (x.dirty = y.dirty ∧ (y.clean < x.clean ∨ (x.clean = y.clean ∧ (x.wear < y.wear ∨ (x.wear = y.wear ∧ (x.id < y.id ∨ (x.id = y.id ∧ x.other ≤ y.other))))))))
theorem leB_lo : LO leB := by
  constructor
  · intro a b
    simp only [leB, Bool.or_eq_true, decide_eq_true_eq]
    omega
  · intro a b c h1 h2
    simp only [leB, decide_eq_true_eq] at *
    omega
  · intro a b h1 h2
    simp only [leB, decide_eq_true_eq] at h1 h2
    obtain ⟨a1, a2, a3, a4, a5⟩ := a
    obtain ⟨b1, b2, b3, b4, b5⟩ := b
    simp only at h1 h2
    have e1 : a1 = b1 := by omega
    have e2 : a2 = b2 := by omega
    have e3 : a3 = b3 := by omega
    have e4 : a4 = b4 := by omega
    have e5 : a5 = b5 := by omega
    rw [e1, e2, e3, e4, e5]
def cmpB (x y : Blk) : Int := orL [cmp3 x.dirty y.dirty, cmp3 y.clean x.clean, cmp3 x.wear y.wear, cmp3 x.id y.id]
theorem cmpB_le {l r : Blk} (hl : l.other = 0) (hr : r.other = 0) : cmpB r l < 0 ↔ leB l r = false := by
  unfold cmpB leB orL orL orL orL orL
  rw [decide_eq_false_iff_not]
  rcases cmp3_cases r.dirty l.dirty with ⟨h1, e1⟩ | ⟨h1, e1⟩ | ⟨h1, e1⟩
  · rw [e1, if_neg (by decide)]; omega
  · rw [e1, if_neg (by decide)]; omega
  rw [e1, if_pos rfl]
  rcases cmp3_cases l.clean r.clean with ⟨h2, e2⟩ | ⟨h2, e2⟩ | ⟨h2, e2⟩
  · rw [e2, if_neg (by decide)]; omega
  · rw [e2, if_neg (by decide)]; omega
  rw [e2, if_pos rfl]
  rcases cmp3_cases r.wear l.wear with ⟨h3, e3⟩ | ⟨h3, e3⟩ | ⟨h3, e3⟩
  · rw [e3, if_neg (by decide)]; omega
  · rw [e3, if_neg (by decide)]; omega
  rw [e3, if_pos rfl]
  rcases cmp3_cases r.id l.id with ⟨h4, e4⟩ | ⟨h4, e4⟩ | ⟨h4, e4⟩
  · rw [e4, if_neg (by decide)]; omega
  · rw [e4, if_neg (by decide)]; omega
  rw [e4, if_pos rfl]
  omega
def aheadB (x y : Blk) : Bool := !leB y x
def keepB (b : Blk) : Bool := mayB b && decide (b.other = 0)
theorem keepB_other {b : Blk} (h : keepB b = true) : b.other = 0 := by
  unfold keepB at h
  simp only [Bool.and_eq_true, decide_eq_true_eq] at h
  exact h.2
def kept (bs : List Blk) : List Blk := bs.filter keepB
theorem kept_yes {bs : List Blk} {k : Nat} (hk : k < bs.length) (h : keepB (nth bs k) = true) : kept (bs.take (k + 1)) = kept (bs.take k) ++ [nth bs k] := by
  unfold kept
  rw [take_nth bs k hk, List.filter_append, List.filter_cons_of_pos h, List.filter_nil]
theorem kept_no {bs : List Blk} {k : Nat} (hk : k < bs.length) (h : keepB (nth bs k) = false) : kept (bs.take (k + 1)) = kept (bs.take k) := by
  unfold kept
  rw [take_nth bs k hk, List.filter_append, List.filter_cons_of_neg (by rw [h]; decide), List.filter_nil, List.append_nil]
theorem kept_len (bs : List Blk) : (kept bs).length ≤ bs.length := List.length_filter_le _ _
theorem kept_agp (bs : List Blk) : Agp cmpB leB (kept bs) := by
  refine List.Pairwise.imp_of_mem (fun {a b} ha hb _ => cmpB_le (keepB_other (List.mem_filter.1 ha).2) (keepB_other (List.mem_filter.1 hb).2)) (List.pairwise_of_forall (R := fun _ _ => True) (fun _ _ => trivial))
def ordB (bs : List Blk) : List Blk := srt leB (kept bs)
theorem ordB_len (bs : List Blk) : (ordB bs).length ≤ bs.length := by
  unfold ordB
  rw [srt_len]; exact kept_len bs
def idsB (bs : List Blk) : List Int := (ordB bs).map Blk.id
theorem idsB_len (bs : List Blk) : (idsB bs).length = (ordB bs).length := List.length_map _
theorem idsB_len_le (bs : List Blk) : (idsB bs).length ≤ bs.length := by rw [idsB_len]; exact ordB_len bs
theorem map_take_id {l : List Blk} {k : Nat} (hk : k < l.length) : (l.take (k + 1)).map Blk.id = (l.take k).map Blk.id ++ [(nth l k).id] := by
  rw [take_nth l k hk, List.map_append]; rfl
def gainB (p : Int) (b : Blk) : Int := if mayB b = false ∨ 0 < b.other ∨ p < 0 ∨ 1073741824 < p then 0 else if p - b.dirty < 0 then 0 else p - b.dirty
end Go.Proofs.Ytbahngmjbpaglaa
