/- Names: plain laws of columns, beginnings and small letters. -/
import Derived.Test.YtgcihcpojjifmaaDoorM3
namespace Go.Proofs.YtgcihcpojjifmaaDoor
open Go Go.RowKit
set_option linter.unusedVariables false
set_option linter.unusedSimpArgs false

theorem clipG_sum {c : Int} : ∀ {n : Int} (xs : List Int), n ≤ c → n + sumC (clipG c n xs) ≤ c
  | n, [], h => by
    show n + sumC [] ≤ c
    rw [sumC_nil]; omega
  | n, x :: xs, h => by
    by_cases hc : c < n + colR x
    · rw [clipG_stop hc, sumC_nil]; omega
    · rw [clipG_go hc, sumC_cons]
      have := clipG_sum (c := c) (n := n + colR x) xs (by omega)
      omega
theorem clipG_all {c : Int} : ∀ {n : Int} (xs : List Int), n + sumC xs ≤ c → clipG c n xs = xs
  | n, [], h => rfl
  | n, x :: xs, h => by
    rw [sumC_cons] at h
    have hb := sumC_bd xs
    have hl : (0 : Int) ≤ (xs.length : Int) := by omega
    rw [clipG_go (by omega), clipG_all xs (by omega)]
theorem clipG_max {c : Int} : ∀ {n : Int} (xs : List Int), (clipG c n xs).length < xs.length → c < n + sumC (clipG c n xs) + colR (nth xs (clipG c n xs).length)
  | n, [], h => by cases h
  | n, x :: xs, h => by
    by_cases hc : c < n + colR x
    · rw [clipG_stop hc, sumC_nil]
      show c < n + 0 + colR x
      omega
    · rw [clipG_go hc] at h ⊢
      have := clipG_max (c := c) (n := n + colR x) xs (by simpa using h)
      rw [sumC_cons, List.length_cons]
      have e : nth (x :: xs) ((clipG c (n + colR x) xs).length + 1) = nth xs (clipG c (n + colR x) xs).length := rfl
      rw [e]
      omega
theorem clipG_pre {a b : Int} (hab : a ≤ b) : ∀ {n : Int} (xs : List Int), ∃ zs, clipG b n xs = clipG a n xs ++ zs
  | n, [] => ⟨[], rfl⟩
  | n, x :: xs => by
    by_cases ha : a < n + colR x
    · rw [clipG_stop ha]; exact ⟨_, rfl⟩
    · rw [clipG_go ha, clipG_go (by omega)]
      obtain ⟨zs, h⟩ := clipG_pre hab (n := n + colR x) xs
      exact ⟨zs, by rw [h]; rfl⟩
theorem good_all {l : List UInt8} (h : mayL l = true) : ∀ r ∈ rns l, svR r := sv_of l
theorem clip_rns {l : List UInt8} (c : Int) (h : mayL l = true) : rns (clipL l c) = clipG c 0 (rns l) := by
  unfold clipL
  rw [if_pos h]
  obtain ⟨ys, hy⟩ := clipG_split c 0 (rns l)
  exact rns_rb fun r hr => sv_of l r (by rw [hy]; exact List.mem_append_left _ hr)
theorem clip_split {l : List UInt8} (c : Int) (h : mayL l = true) : ∃ m, l = clipL l c ++ m := by
  obtain ⟨ys, hy⟩ := clipG_split c 0 (rns l)
  refine ⟨rb ys, ?_⟩
  have e := (valid_rb l).2 (may_parts h).1
  unfold clipL
  rw [if_pos h, ← rb_app, ← hy, e]
theorem clip_pre {l : List UInt8} {a b : Int} (hab : a ≤ b) (h : mayL l = true) : ∃ m, clipL l b = clipL l a ++ m := by
  obtain ⟨zs, hz⟩ := clipG_pre hab (n := 0) (rns l)
  refine ⟨rb zs, ?_⟩
  unfold clipL
  rw [if_pos h, if_pos h, ← rb_app, hz]
theorem pre_len {l m a : List UInt8} (h : l = a ++ m) : a.length ≤ l.length ∧ l.take a.length = a := by
  subst h
  exact ⟨by rw [List.length_append]; omega, List.take_left⟩
theorem clip_full {l : List UInt8} {c : Int} (h : mayL l = true) (hc : colL l ≤ c) : clipL l c = l := by
  unfold colL at hc
  rw [if_pos h] at hc
  unfold clipL
  rw [if_pos h, clipG_all _ (by omega)]
  exact (valid_rb l).2 (may_parts h).1
theorem colL_pos {l : List UInt8} (h : mayL l = true) : 1 ≤ colL l ∧ colL l ≤ 24 := by
  have h1 := (may_parts h).2.1
  have h2 := (may_parts h).2.2.1
  have hb := sumC_bd (rns l)
  unfold colL
  rw [if_pos h]
  omega
theorem clip_less {l : List UInt8} {c : Int} (h : mayL l = true) (h0 : 0 ≤ c) (hc : c < colL l) : clipL l c ≠ l := fun e => by
  have h1 := clip_rns c h
  rw [e] at h1
  have := clipG_sum (c := c) (n := 0) (rns l) h0
  rw [← h1] at this
  unfold colL at hc
  rw [if_pos h] at hc
  omega
theorem clip_zero {l : List UInt8} (h : mayL l = true) : clipL l 0 = [] := by
  unfold clipL
  rw [if_pos h]
  cases hx : rns l with
  | nil => rfl
  | cons x xs =>
    have := colR_bd x
    rw [clipG_stop (by omega)]
    rfl
theorem small_idem (r : Int) : smallR (smallR r) = smallR r := by
  have hg : ∀ x, grt x = true ↔ ((65 ≤ x ∧ x ≤ 90) ∨ (192 ≤ x ∧ x ≤ 222 ∧ x ≠ 215) ∨ (913 ≤ x ∧ x ≤ 937 ∧ x ≠ 930)) := fun x => by
    unfold grt
    rw [decide_eq_true_eq]
  unfold smallR
  simp only [hg]
  split
  · rw [if_neg (by omega), if_neg (by omega)]
  · split
    · rfl
    · first | rfl | rw [if_neg (by omega), if_neg (by omega)]
theorem small_good {r : Int} (h : goodR r = true) : goodR (smallR r) = true := by
  unfold goodR at h ⊢
  rw [decide_eq_true_eq] at h ⊢
  have hg : grt r = true ↔ ((65 ≤ r ∧ r ≤ 90) ∨ (192 ≤ r ∧ r ≤ 222 ∧ r ≠ 215) ∨ (913 ≤ r ∧ r ≤ 937 ∧ r ≠ 930)) := by
    unfold grt
    rw [decide_eq_true_eq]
  unfold smallR
  simp only [hg]
  split
  · omega
  · split
    · omega
    · exact h
theorem small_45 {r : Int} (h : r ≠ 45) : smallR r ≠ 45 := by
  have hg : grt r = true ↔ ((65 ≤ r ∧ r ≤ 90) ∨ (192 ≤ r ∧ r ≤ 222 ∧ r ≠ 215) ∨ (913 ≤ r ∧ r ≤ 937 ∧ r ≠ 930)) := by
    unfold grt
    rw [decide_eq_true_eq]
  unfold smallR
  simp only [hg]
  split
  · omega
  · split
    · omega
    · exact h
theorem small_col (r : Int) : colR (smallR r) = colR r := by
  have hg : grt r = true ↔ ((65 ≤ r ∧ r ≤ 90) ∨ (192 ≤ r ∧ r ≤ 222 ∧ r ≠ 215) ∨ (913 ≤ r ∧ r ≤ 937 ∧ r ≠ 930)) := by
    unfold grt
    rw [decide_eq_true_eq]
  have hw : ∀ x, wdR x = true ↔ 19968 ≤ x ∧ x ≤ 40959 := fun x => by
    unfold wdR
    simp
  unfold colR smallR
  simp only [hg, hw]
  split
  · rw [if_neg (by omega), if_neg (by omega)]
  · split
    · rw [if_neg (by omega), if_neg (by omega)]
    · rfl
theorem sumC_small (xs : List Int) : sumC (xs.map smallR) = sumC xs := by
  induction xs with
  | nil => rfl
  | cons x xs ih => rw [List.map_cons, sumC_cons, sumC_cons, ih, small_col]
theorem map_small (xs : List Int) : (xs.map smallR).map smallR = xs.map smallR := by
  rw [List.map_map]
  exact List.map_congr_left fun r _ => small_idem r
theorem nth_map {xs : List Int} {k : Nat} (f : Int → Int) (h : k < xs.length) : nth (xs.map f) k = f (nth xs k) := by
  rw [nth_eq (by rw [List.length_map]; exact h), nth_eq h, List.getElem_map]
/-- runes that make a name -/
def okRs (xs : List Int) : Prop := 1 ≤ xs.length ∧ xs.length ≤ 12 ∧ nth xs 0 ≠ 45 ∧ nth xs (xs.length - 1) ≠ 45 ∧ xs.all goodR = true
theorem all_sv {xs : List Int} (h : xs.all goodR = true) : ∀ r ∈ xs, svR r := fun r hr => good_sv (List.all_eq_true.1 h r hr)
theorem may_rb {xs : List Int} (h : okRs xs) : mayL (rb xs) = true ∧ rns (rb xs) = xs := by
  have hs := all_sv h.2.2.2.2
  have e := rns_rb hs
  exact ⟨may_of ⟨validD_rb hs, by rw [e]; exact h⟩, e⟩
theorem may_ok {l : List UInt8} (h : mayL l = true) : okRs (rns l) := (may_parts h).2
theorem ok_small {xs : List Int} (h : okRs xs) : okRs (xs.map smallR) := by
  obtain ⟨h1, h2, h3, h4, h5⟩ := h
  refine ⟨by rw [List.length_map]; exact h1, by rw [List.length_map]; exact h2, ?_, ?_, ?_⟩
  · rw [nth_map _ (by omega)]; exact small_45 h3
  · rw [List.length_map, nth_map _ (by omega)]; exact small_45 h4
  · rw [List.all_eq_true] at h5 ⊢
    intro x hx
    obtain ⟨y, hy, rfl⟩ := List.mem_map.1 hx
    exact small_good (h5 y hy)
theorem fold_rns {l : List UInt8} (h : mayL l = true) : mayL (foldL l) = true ∧ rns (foldL l) = (rns l).map smallR := by
  unfold foldL
  rw [if_pos h]
  exact may_rb (ok_small (may_ok h))
theorem fold_fold {l : List UInt8} (h : mayL l = true) : foldL (foldL l) = foldL l := by
  obtain ⟨h1, h2⟩ := fold_rns h
  have e : foldL (foldL l) = rb ((rns (foldL l)).map smallR) := by
    show (if mayL (foldL l) = true then _ else _) = _
    rw [if_pos h1]
  rw [e, h2, map_small]
  unfold foldL
  rw [if_pos h]
theorem col_fold {l : List UInt8} (h : mayL l = true) : colL (foldL l) = colL l := by
  obtain ⟨h1, h2⟩ := fold_rns h
  unfold colL
  rw [if_pos h1, if_pos h, h2, sumC_small]
theorem same_fold {l : List UInt8} (h : mayL l = true) : sameL l (foldL l) = true ∧ sameL (foldL l) l = true := by
  have h1 := (fold_rns h).1
  have h2 := fold_fold h
  unfold sameL
  rw [h, h1, h2]
  simp
/-- two names side by side -/
theorem join_rns {s t : List UInt8} (hs : mayL s = true) : rns (s ++ t) = rns s ++ rns t := rns_app (may_parts hs).1 t
theorem join_col {s t : List UInt8} (hs : mayL s = true) (ht : mayL t = true) (hj : mayL (s ++ t) = true) : colL (s ++ t) = colL s + colL t := by
  unfold colL
  rw [if_pos hs, if_pos ht, if_pos hj, join_rns hs, sumC_app]
theorem join_fold {s t : List UInt8} (hs : mayL s = true) (ht : mayL t = true) (hj : mayL (s ++ t) = true) : foldL (s ++ t) = foldL s ++ foldL t := by
  unfold foldL
  rw [if_pos hs, if_pos ht, if_pos hj, join_rns hs, List.map_append, rb_app]
theorem clipG_join (c : Int) : ∀ {n : Int} (xs ys : List Int), n + sumC xs = c → clipG c n (xs ++ ys) = xs
  | n, [], ys, h => by
    rw [sumC_nil] at h
    cases ys with
    | nil => rfl
    | cons y ys =>
      have := colR_bd y
      exact clipG_stop (by omega)
  | n, x :: xs, ys, h => by
    rw [sumC_cons] at h
    have hb := sumC_bd xs
    rw [List.cons_append, clipG_go (by omega), clipG_join c xs ys (by omega)]
theorem join_clip {s t : List UInt8} (hs : mayL s = true) (hj : mayL (s ++ t) = true) : clipL (s ++ t) (colL s) = s := by
  unfold clipL
  rw [if_pos hj, join_rns hs, clipG_join _ _ _ (by unfold colL; rw [if_pos hs]; omega)]
  exact (valid_rb s).2 (may_parts hs).1
theorem nth_app_l {xs ys : List Int} {k : Nat} (h : k < xs.length) : nth (xs ++ ys) k = nth xs k := by
  rw [nth_eq (by rw [List.length_append]; omega), nth_eq h, List.getElem_append_left]
theorem nth_app_r {xs ys : List Int} {k : Nat} (h1 : xs.length ≤ k) (h : k < xs.length + ys.length) : nth (xs ++ ys) k = nth ys (k - xs.length) := by
  rw [nth_eq (by rw [List.length_append]; omega), nth_eq (by omega), List.getElem_append_right h1]
theorem join_same {s t : List UInt8} (hs : mayL s = true) (ht : mayL t = true) (hj : mayL (s ++ t) = true) : sameL (s ++ t) (foldL s ++ t) = true := by
  obtain ⟨f1, f2⟩ := fold_rns hs
  have e := join_rns (t := t) f1
  rw [f2] at e
  obtain ⟨a1, a2, a3, a4, a5⟩ := may_ok hs
  obtain ⟨b1, b2, b3, b4, b5⟩ := may_ok ht
  obtain ⟨c1, c2, c3, c4, c5⟩ := may_ok hj
  have ej := join_rns (t := t) hs
  rw [ej, List.length_append] at c2
  have hm : ((rns s).map smallR).length = (rns s).length := List.length_map _
  have hok : mayL (foldL s ++ t) = true := by
    refine may_of ⟨?_, ?_⟩
    · rw [validD_app (may_parts f1).1]; exact (may_parts ht).1
    · rw [e]
      refine ⟨by rw [List.length_append]; omega, by rw [List.length_append]; omega, ?_, ?_, ?_⟩
      · rw [nth_app_l (by omega), nth_map _ (by omega)]
        exact small_45 a3
      · rw [List.length_append, nth_app_r (by omega) (by omega), show ((rns s).map smallR).length + (rns t).length - 1 - ((rns s).map smallR).length = (rns t).length - 1 by omega]
        exact b4
      · rw [List.all_append, (ok_small (may_ok hs)).2.2.2.2, b5]; rfl
  unfold sameL
  rw [hj, hok]
  have : foldL (s ++ t) = foldL (foldL s ++ t) := by
    unfold foldL
    rw [if_pos hj, if_pos hs]
    have hok' : mayL (rb ((rns s).map smallR) ++ t) = true := by
      have := hok
      unfold foldL at this
      rwa [if_pos hs] at this
    have e' : rns (rb ((rns s).map smallR) ++ t) = (rns s).map smallR ++ rns t := by
      have := e
      unfold foldL at this
      rwa [if_pos hs] at this
    rw [if_pos hok', e', ej, List.map_append, List.map_append, map_small]
  rw [this]
  simp
theorem rb_len (xs : List Int) : (rb xs).length ≤ 4 * xs.length := by
  induction xs with
  | nil => rw [rb_nil]; simp
  | cons x xs ih =>
    rw [rb_cons, List.length_append, List.length_cons]
    have : (Lib.encodeRune x).length ≤ 4 := by
      unfold Lib.encodeRune Lib.encodeRuneZ
      rw [List.length_map]
      repeat' split
      all_goals simp
    omega
theorem fold_len (l : List UInt8) : (foldL l).length ≤ 48 := by
  unfold foldL
  split
  · rename_i h
    have := rb_len ((rns l).map smallR)
    rw [List.length_map] at this
    have := may_12 h
    omega
  · simp
theorem clip_len (l : List UInt8) (c : Int) : (clipL l c).length ≤ 48 := by
  unfold clipL
  split
  · rename_i h
    have := rb_len (clipG c 0 (rns l))
    obtain ⟨ys, hy⟩ := clipG_split c 0 (rns l)
    have h2 := congrArg List.length hy
    rw [List.length_append] at h2
    have := may_12 h
    omega
  · simp
theorem may_one {r : Int} (h : svR r) : mayL (rb [r]) = (goodR r && decide (r ≠ 45)) := by
  have hs : ∀ x ∈ [r], svR x := fun x hx => by rw [List.mem_singleton.1 hx]; exact h
  have e := rns_rb hs
  unfold mayL
  rw [validD_rb hs, e]
  show (true && true && true && decide (r ≠ 45) && decide (r ≠ 45) && (goodR r && true)) = _
  cases goodR r <;> simp
theorem wide_facts {r : Int} (h0 : 19968 ≤ r) (h1 : r ≤ 40959) : goodR r = true ∧ mayL (rb [r]) = true ∧ colL (rb [r]) = 2 ∧ foldL (rb [r]) = rb [r] ∧ clipL (rb [r]) 1 = [] := by
  have hg : goodR r = true := by
    unfold goodR
    rw [decide_eq_true_eq]
    omega
  have hw : wdR r = true := by
    unfold wdR
    simp
    omega
  have hc : colR r = 2 := by
    unfold colR
    rw [if_pos hw]
  have hm : mayL (rb [r]) = true := by
    rw [may_one (good_sv hg), hg, decide_eq_true (show r ≠ 45 by omega)]
    rfl
  have e := rns_rb (xs := [r]) (fun x hx => by rw [List.mem_singleton.1 hx]; exact good_sv hg)
  refine ⟨hg, hm, ?_, ?_, ?_⟩
  · unfold colL
    rw [if_pos hm, e, sumC_one, hc]
  · have hgr : ¬ grt r = true := by
      unfold grt
      rw [decide_eq_true_eq]
      omega
    unfold foldL
    rw [if_pos hm, e]
    show rb [smallR r] = _
    unfold smallR
    rw [if_neg hgr, if_neg (by omega)]
  · unfold clipL
    rw [if_pos hm, e, clipG_stop (by omega)]
    rfl
theorem bad_rune {r : Int} (h : r < 0 ∨ 1114111 < r ∨ (55296 ≤ r ∧ r ≤ 57343)) : goodR r = false := by
  unfold goodR
  rw [decide_eq_false_iff_not]
  omega
/-- a rune between two letters -/
theorem col_mid {r : Int} (h : goodR r = true) : colL ([97] ++ rb [r] ++ [97]) = 2 + colR r := by
  have e0 : ([97] ++ rb [r] ++ [97] : List UInt8) = rb [97, r, 97] := by
    rw [show ([97, r, 97] : List Int) = [97] ++ [r] ++ [97] from rfl, rb_app, rb_app]
    rfl
  have hok : okRs [97, r, 97] := ⟨by show 1 ≤ 3; decide, by show 3 ≤ 12; decide, by show (97 : Int) ≠ 45; decide, by show (97 : Int) ≠ 45; decide, by
    show (goodR 97 && (goodR r && (goodR 97 && true))) = true
    rw [h]; decide⟩
  obtain ⟨h1, h2⟩ := may_rb hok
  rw [e0]
  unfold colL
  rw [if_pos h1, h2, sumC_cons, sumC_cons, sumC_one]
  have : colR 97 = 1 := by decide
  omega
end Go.Proofs.YtgcihcpojjifmaaDoor
