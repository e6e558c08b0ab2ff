/- Sorting: plain laws. Nothing of the program stands here. -/
import Derived.Test.YtbahngmjbpaglaaG1
namespace Go.Proofs.Ytbahngmjbpaglaa
open Go
set_option linter.unusedVariables false
set_option linter.unusedSectionVars false
structure LO {α : Type} (le : α → α → Bool) : Prop where
  total : ∀ a b, (le a b || le b a) = true
  trans : ∀ a b c, le a b = true → le b c = true → le a c = true
  anti : ∀ a b, le a b = true → le b a = true → a = b
section
variable {α : Type} [Inhabited α] {le : α → α → Bool}
theorem LO.of_not (h : LO le) {a b : α} (hn : le a b = false) : le b a = true := by
  have := h.total a b
  rw [hn] at this; simpa using this
/-- sorted, as there is just one way to be so -/
def srt (le : α → α → Bool) (l : List α) : List α := l.mergeSort le
def Sd (le : α → α → Bool) (l : List α) : Prop := l.Pairwise fun a b => le a b = true
theorem srt_perm (l : List α) : (srt le l).Perm l := List.mergeSort_perm l le
theorem srt_len (l : List α) : (srt le l).length = l.length := (srt_perm l).length_eq
theorem srt_sd (h : LO le) (l : List α) : Sd le (srt le l) := List.pairwise_mergeSort h.trans h.total l
theorem srt_uniq (h : LO le) {l m : List α} (hp : m.Perm l) (hs : Sd le m) : m = srt le l :=
  List.Perm.eq_of_pairwise (fun a b _ _ => h.anti a b) hs (srt_sd h l) (hp.trans (srt_perm l).symm)
theorem srt_id (h : LO le) {l : List α} (hs : Sd le l) : srt le l = l := (srt_uniq h (List.Perm.refl l) hs).symm
theorem srt_eq (h : LO le) {l m : List α} (hp : l.Perm m) : srt le l = srt le m := srt_uniq h ((srt_perm l).trans hp) (srt_sd h l)
theorem srt_mem {l : List α} {x : α} : x ∈ srt le l ↔ x ∈ l := (srt_perm l).mem_iff
theorem Sd.app {l m : List α} (h1 : Sd le l) (h2 : Sd le m) (hc : ∀ a ∈ l, ∀ b ∈ m, le a b = true) : Sd le (l ++ m) := List.pairwise_append.2 ⟨h1, h2, hc⟩
theorem Sd.left {l m : List α} (h : Sd le (l ++ m)) : Sd le l := (List.pairwise_append.1 h).1
theorem Sd.right {l m : List α} (h : Sd le (l ++ m)) : Sd le m := (List.pairwise_append.1 h).2.1
theorem Sd.cross {l m : List α} (h : Sd le (l ++ m)) : ∀ a ∈ l, ∀ b ∈ m, le a b = true := (List.pairwise_append.1 h).2.2
theorem Sd.nil : Sd le [] := List.Pairwise.nil
theorem Sd.one (x : α) : Sd le [x] := List.pairwise_singleton _ _
/-- what is put where it belongs -/
theorem put_in (h : LO le) {A B : List α} {x : α} (hs : Sd le (A ++ B)) (ha : ∀ s ∈ A, le s x = true) (hb : ∀ s ∈ B, le x s = true) : A ++ x :: B = srt le ((A ++ B) ++ [x]) := by
  refine srt_uniq h ?_ ?_
  · have : (x :: B).Perm (B ++ [x]) := (List.perm_append_singleton x B).symm
    rw [List.append_assoc]
    exact this.append_left A
  · refine Sd.app hs.left ?_ ?_
    · exact List.pairwise_cons.2 ⟨hb, hs.right⟩
    · intro a hA b hB
      rcases List.mem_cons.1 hB with rfl | hB
      · exact ha a hA
      · exact hs.cross a hA b hB
theorem put_in' (h : LO le) {A B : List α} {x : α} (hs : Sd le (A ++ B)) (ha : ∀ s ∈ A, le s x = true) (hb : ∀ s ∈ B, le x s = true) : A ++ x :: B = srt le (x :: (A ++ B)) := by
  rw [put_in h hs ha hb]
  exact srt_eq h (List.perm_append_singleton x (A ++ B))
/-- two halves, each sorted by itself -/
theorem srt_halves (h : LO le) {L1 L2 R1 R2 : List α} (hL : Sd le (L1 ++ L2)) (hR : Sd le (R1 ++ R2)) (h1 : ∀ a ∈ L1, ∀ b ∈ R2, le a b = true) (h2 : ∀ a ∈ R1, ∀ b ∈ L2, le a b = true) : srt le (L1 ++ R1) ++ srt le (L2 ++ R2) = srt le ((L1 ++ L2) ++ (R1 ++ R2)) := by
  refine srt_uniq h ?_ ?_
  · refine ((srt_perm (L1 ++ R1)).append (srt_perm (L2 ++ R2))).trans ?_
    simp only [List.append_assoc]
    refine List.Perm.append_left L1 ?_
    rw [← List.append_assoc, ← List.append_assoc]
    exact List.perm_append_comm.append_right R2
  · refine Sd.app (srt_sd h _) (srt_sd h _) ?_
    intro a hA b hB
    rw [srt_mem, List.mem_append] at hA hB
    rcases hA with hA | hA <;> rcases hB with hB | hB
    · exact hL.cross a hA b hB
    · exact h1 a hA b hB
    · exact h2 a hA b hB
    · exact hR.cross a hA b hB
theorem Sd.le_nth (h : LO le) {l : List α} (hs : Sd le l) {i j : Nat} (hij : i ≤ j) (hj : j < l.length) : le (nth l i) (nth l j) = true := by
  rw [nth_eq (by omega), nth_eq hj]
  rcases Nat.lt_or_ge i j with h1 | h1
  · exact (List.pairwise_iff_getElem.1 hs) i j (by omega) hj h1
  · have : i = j := by omega
    subst this
    have := h.total l[i] l[i]
    simpa using this
theorem mem_take_nth {l : List α} {k : Nat} {x : α} (h : x ∈ l.take k) : ∃ i, i < k ∧ i < l.length ∧ x = nth l i := by
  obtain ⟨i, hi, rfl⟩ := List.getElem_of_mem h
  rw [List.length_take] at hi
  exact ⟨i, by omega, by omega, by rw [nth_eq (by omega), List.getElem_take]⟩
theorem mem_drop_nth {l : List α} {k : Nat} {x : α} (h : x ∈ l.drop k) : ∃ i, k ≤ i ∧ i < l.length ∧ x = nth l i := by
  obtain ⟨i, hi, rfl⟩ := List.getElem_of_mem h
  rw [List.length_drop] at hi
  exact ⟨k + i, by omega, by omega, by rw [nth_eq (by omega), List.getElem_drop]⟩
theorem nth_app_r (P R : List α) (k : Nat) : nth (P ++ R) (P.length + k) = nth R k := by
  unfold nth
  rw [List.getD_eq_getElem?_getD, List.getD_eq_getElem?_getD, List.getElem?_append_right (by omega)]
  congr 2; omega
theorem nth_app_l (P R : List α) (k : Nat) (h : k < P.length) : nth (P ++ R) k = nth P k := by
  unfold nth
  rw [List.getD_eq_getElem?_getD, List.getD_eq_getElem?_getD, List.getElem?_append_left h]
/-- two of them change places -/
def swp (l : List α) (i j : Nat) : List α := (l.set i (nth l j)).set j (nth l i)
theorem swp_len (l : List α) (i j : Nat) : (swp l i j).length = l.length := by simp [swp]
theorem swp_adj (A B : List α) (x y : α) (i : Nat) (hi : i = A.length) : ((A ++ x :: y :: B).set i y).set (i + 1) x = A ++ y :: x :: B := by
  subst hi
  rw [List.set_append_right _ _ (Nat.le_refl _), Nat.sub_self, List.set_cons_zero, List.set_append_right _ _ (by omega)]
  congr 1
  rw [show A.length + 1 - A.length = 1 from by omega]; rfl
theorem swp_adj' (A B : List α) (x y : α) (i : Nat) (hi : i = A.length) : ((A ++ x :: y :: B).set (i + 1) x).set i y = A ++ y :: x :: B := by
  subst hi
  rw [List.set_append_right _ _ (by omega), List.set_append_right _ _ (Nat.le_refl _), Nat.sub_self]
  congr 1
  rw [show A.length + 1 - A.length = 1 from by omega]; rfl
theorem nth_swp (l : List α) (i j k : Nat) (hi : i < l.length) (hj : j < l.length) : nth (swp l i j) k = if k = j then nth l i else if k = i then nth l j else nth l k := by
  unfold swp
  by_cases h1 : k = j
  · subst h1
    rw [if_pos rfl, nth_eq (by simpa using hj)]
    simp
  · rw [if_neg h1]
    unfold nth
    rw [List.getD_eq_getElem?_getD, List.getElem?_set_ne (fun h => h1 h.symm)]
    by_cases h2 : k = i
    · subst h2
      rw [if_pos rfl]
      simp [hi]
    · rw [if_neg h2, List.getElem?_set_ne (fun h => h2 h.symm), List.getD_eq_getElem?_getD]
/-- n of them change places with n others -/
def swr (l : List α) (a b : Nat) : Nat → List α
  | 0 => l
  | n + 1 => swp (swr l a b n) (a + n) (b + n)
theorem swr_len (l : List α) (a b n : Nat) : (swr l a b n).length = l.length := by
  induction n with
  | zero => rfl
  | succ n ih => rw [swr, swp_len, ih]
theorem nth_swr (l : List α) (a b n k : Nat) (h1 : a + n ≤ b) (h2 : b + n ≤ l.length) : nth (swr l a b n) k = if a ≤ k ∧ k < a + n then nth l (k - a + b) else if b ≤ k ∧ k < b + n then nth l (k - b + a) else nth l k := by
  induction n generalizing k with
  | zero => rw [if_neg (by omega), if_neg (by omega)]; rfl
  | succ n ih =>
    rw [swr, nth_swp _ _ _ _ (by rw [swr_len]; omega) (by rw [swr_len]; omega)]
    by_cases hk1 : k = b + n
    · subst hk1
      rw [if_pos rfl, ih _ (by omega) (by omega), if_neg (by omega), if_neg (by omega), if_neg (by omega), if_pos (by omega)]
      congr 1; omega
    · rw [if_neg hk1]
      by_cases hk2 : k = a + n
      · subst hk2
        rw [if_pos rfl, ih _ (by omega) (by omega), if_neg (by omega), if_neg (by omega), if_pos (by omega)]
        congr 1; omega
      · rw [if_neg hk2, ih _ (by omega) (by omega)]
        by_cases c1 : a ≤ k ∧ k < a + n
        · rw [if_pos c1, if_pos (by omega)]
        · rw [if_neg c1, if_neg (show ¬ (a ≤ k ∧ k < a + (n + 1)) by omega)]
          by_cases c2 : b ≤ k ∧ k < b + n
          · rw [if_pos c2, if_pos (by omega)]
          · rw [if_neg c2, if_neg (by omega)]
theorem ext_nth {l m : List α} (hl : l.length = m.length) (h : ∀ k, k < l.length → nth l k = nth m k) : l = m := by
  apply List.ext_getElem hl
  intro k h1 h2
  have := h k h1
  rwa [nth_eq h1, nth_eq h2] at this
theorem swr_app (P U M V Q : List α) (h : U.length = V.length) : swr (P ++ U ++ M ++ V ++ Q) P.length (P.length + U.length + M.length) U.length = P ++ V ++ M ++ U ++ Q := by
  apply ext_nth
  · rw [swr_len]; simp only [List.length_append]; omega
  intro k hk
  rw [swr_len] at hk
  simp only [List.length_append] at hk
  rw [nth_swr _ _ _ _ _ (by omega) (by simp only [List.length_append]; omega)]
  simp only [List.append_assoc]
  by_cases c1 : P.length ≤ k ∧ k < P.length + U.length
  · rw [if_pos c1]
    obtain ⟨j, rfl⟩ : ∃ j, k = P.length + j := ⟨k - P.length, by omega⟩
    rw [show P.length + j - P.length + (P.length + U.length + M.length) = P.length + (U.length + (M.length + j)) from by omega, nth_app_r, nth_app_r, nth_app_r, nth_app_r, nth_app_l _ _ _ (by omega), nth_app_l _ _ _ (by omega)]
  · rw [if_neg c1]
    by_cases c2 : P.length + U.length + M.length ≤ k ∧ k < P.length + U.length + M.length + U.length
    · rw [if_pos c2]
      obtain ⟨j, rfl⟩ : ∃ j, k = P.length + (U.length + (M.length + j)) := ⟨k - P.length - U.length - M.length, by omega⟩
      rw [show P.length + (U.length + (M.length + j)) - (P.length + U.length + M.length) + P.length = P.length + j from by omega, nth_app_r, nth_app_l _ _ _ (by omega), nth_app_r, h, nth_app_r, nth_app_r, nth_app_l _ _ _ (by omega)]
    · rw [if_neg c2]
      rcases Nat.lt_or_ge k P.length with c3 | c3
      · rw [nth_app_l _ _ _ c3, nth_app_l _ _ _ c3]
      · obtain ⟨j, rfl⟩ : ∃ j, k = P.length + (U.length + j) := ⟨k - P.length - U.length, by omega⟩
        rw [nth_app_r, nth_app_r, nth_app_r, h, nth_app_r]
        rcases Nat.lt_or_ge j M.length with c4 | c4
        · rw [nth_app_l _ _ _ c4, nth_app_l _ _ _ c4]
        · obtain ⟨i, rfl⟩ : ∃ i, j = M.length + (V.length + i) := ⟨j - M.length - V.length, by omega⟩
          rw [nth_app_r, nth_app_r, nth_app_r, ← h, nth_app_r]
theorem sm_cross (h : LO le) {L R : List α} (hL : Sd le L) (hR : Sd le R) {u v : Nat} (hu : u ≤ L.length) (hv : v ≤ R.length) (c1 : u = 0 ∨ v = R.length ∨ le (nth L (u - 1)) (nth R v) = true) (c2 : v = 0 ∨ u = L.length ∨ le (nth L u) (nth R (v - 1)) = false) :
    srt le (L.take u ++ R.take v) ++ srt le (L.drop u ++ R.drop v) = srt le (L ++ R) := by
  have h1 : ∀ a ∈ L.take u, ∀ b ∈ R.drop v, le a b = true := by
    intro a ha b hb
    obtain ⟨i, hi, hil, rfl⟩ := mem_take_nth ha
    obtain ⟨j, hj, hjl, rfl⟩ := mem_drop_nth hb
    rcases c1 with c1 | c1 | c1
    · omega
    · omega
    · exact h.trans _ _ _ (h.trans _ _ _ (hL.le_nth h (show i ≤ u - 1 by omega) (by omega)) c1) (hR.le_nth h hj hjl)
  have h2 : ∀ a ∈ R.take v, ∀ b ∈ L.drop u, le a b = true := by
    intro a ha b hb
    obtain ⟨i, hi, hil, rfl⟩ := mem_take_nth ha
    obtain ⟨j, hj, hjl, rfl⟩ := mem_drop_nth hb
    rcases c2 with c2 | c2 | c2
    · omega
    · omega
    · exact h.trans _ _ _ (h.trans _ _ _ (hR.le_nth h (show i ≤ v - 1 by omega) (by omega)) (h.of_not c2)) (hL.le_nth h hj hjl)
  rw [srt_halves h (by rw [List.take_append_drop]; exact hL) (by rw [List.take_append_drop]; exact hR) h1 h2, List.take_append_drop, List.take_append_drop]
theorem m1_done (h : LO le) {R : List α} {x : α} (hR : Sd le R) {c : Nat} (hc : c ≤ R.length) (c1 : c = 0 ∨ le x (nth R (c - 1)) = false) (c2 : c = R.length ∨ le x (nth R c) = true) : R.take c ++ x :: R.drop c = srt le (x :: R) := by
  have := put_in' h (A := R.take c) (B := R.drop c) (x := x) (by rw [List.take_append_drop]; exact hR) (by
    intro a ha
    obtain ⟨i, hi, hil, rfl⟩ := mem_take_nth ha
    rcases c1 with c1 | c1
    · omega
    · exact h.trans _ _ _ (hR.le_nth h (show i ≤ c - 1 by omega) (by omega)) (h.of_not c1)) (by
    intro b hb
    obtain ⟨j, hj, hjl, rfl⟩ := mem_drop_nth hb
    rcases c2 with c2 | c2
    · omega
    · exact h.trans _ _ _ c2 (hR.le_nth h hj hjl))
  rwa [List.take_append_drop] at this
theorem mr_done (h : LO le) {L : List α} {y : α} (hL : Sd le L) {c : Nat} (hc : c ≤ L.length) (c1 : c = 0 ∨ le (nth L (c - 1)) y = true) (c2 : c = L.length ∨ le (nth L c) y = false) : L.take c ++ y :: L.drop c = srt le (L ++ [y]) := by
  have := put_in h (A := L.take c) (B := L.drop c) (x := y) (by rw [List.take_append_drop]; exact hL) (by
    intro a ha
    obtain ⟨i, hi, hil, rfl⟩ := mem_take_nth ha
    rcases c1 with c1 | c1
    · omega
    · exact h.trans _ _ _ (hL.le_nth h (show i ≤ c - 1 by omega) (by omega)) c1) (by
    intro b hb
    obtain ⟨j, hj, hjl, rfl⟩ := mem_drop_nth hb
    rcases c2 with c2 | c2
    · omega
    · exact h.trans _ _ _ (h.of_not c2) (hL.le_nth h hj hjl))
  rwa [List.take_append_drop] at this
/-- does what is compared go by that order, an earlier one and a later one? -/
def Agr (cmp : α → α → Int) (le : α → α → Bool) (L R : List α) : Prop := ∀ l ∈ L, ∀ r ∈ R, (cmp r l < 0 ↔ le l r = false)
theorem Agr.sub {cmp : α → α → Int} {L R L' R' : List α} (h : Agr cmp le L R) (h1 : ∀ x ∈ L', x ∈ L) (h2 : ∀ x ∈ R', x ∈ R) : Agr cmp le L' R' := fun l hl r hr => h l (h1 l hl) r (h2 r hr)
/-- of each two, the earlier one and the later one -/
def Agp (cmp : α → α → Int) (le : α → α → Bool) (L : List α) : Prop := L.Pairwise fun l r => (cmp r l < 0 ↔ le l r = false)
theorem Agp.app {cmp : α → α → Int} {L R : List α} (h : Agp cmp le (L ++ R)) : Agp cmp le L ∧ Agp cmp le R ∧ Agr cmp le L R := List.pairwise_append.1 h
theorem Agr.srt {cmp : α → α → Int} {L R : List α} (h : Agr cmp le L R) : Agr cmp le (srt le L) (srt le R) := h.sub (fun x hx => srt_mem.1 hx) (fun x hx => srt_mem.1 hx)
theorem Agr.at {cmp : α → α → Int} {L R : List α} (h : Agr cmp le L R) {i j : Nat} (hi : i < L.length) (hj : j < R.length) : cmp (nth R j) (nth L i) < 0 ↔ le (nth L i) (nth R j) = false := by
  rw [nth_eq hi, nth_eq hj]
  exact h _ (List.getElem_mem hi) _ (List.getElem_mem hj)
theorem srt_step (h : LO le) (L : List α) (t : Nat) (ht : t < L.length) : srt le (srt le (L.take t) ++ [nth L t]) = srt le (L.take (t + 1)) := by
  refine srt_eq h ?_
  rw [List.take_succ_eq_append_getElem ht, nth_eq ht]
  exact (srt_perm _).append_right _
theorem srt_app (h : LO le) (L R : List α) : srt le (srt le L ++ srt le R) = srt le (L ++ R) := srt_eq h ((srt_perm L).append (srt_perm R))
end
end Go.Proofs.Ytbahngmjbpaglaa
