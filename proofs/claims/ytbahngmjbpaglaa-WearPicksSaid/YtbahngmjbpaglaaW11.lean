/- Chapter 12: counts that are shifted; plain laws. -/
import Derived.Test.YtbahngmjbpaglaaW9
namespace Go.Proofs.Ytbahngmjbpaglaa
open Go Go.RowKit
set_option linter.unusedVariables false
set_option linter.unusedSimpArgs false
def gen {α : Type} (f : Nat → α) (k : Nat) : List α := (List.range k).map f
theorem gen_succ {α : Type} (f : Nat → α) (k : Nat) : gen f (k + 1) = gen f k ++ [f k] := by
  unfold gen
  rw [List.range_succ, List.map_append]; rfl
theorem gen_len {α : Type} (f : Nat → α) (k : Nat) : (gen f k).length = k := by
  unfold gen
  rw [List.length_map, List.length_range]
theorem nth_gen {α : Type} [Inhabited α] (f : Nat → α) {k i : Nat} (h : i < k) : nth (gen f k) i = f i := by
  rw [nth_eq (by rw [gen_len]; exact h)]
  simp [gen]
theorem gen_zero {α : Type} (f : Nat → α) : gen f 0 = [] := rfl

theorem srt_congr {α : Type} [Inhabited α] {le le' : α → α → Bool} (h : LO le) (h' : LO le') {l : List α} (hc : ∀ x ∈ l, ∀ y ∈ l, le x y = le' x y) : srt le l = srt le' l := by
  refine srt_uniq h' (srt_perm l) ?_
  refine List.Pairwise.imp_of_mem (fun {a b} ha hb hab => ?_) (srt_sd h l)
  rw [← hc a (srt_mem.1 ha) b (srt_mem.1 hb)]
  exact hab
theorem ordW_congr {ws ws' : List Int} {cs : List Bool} (he : ws.length = cs.length) (he' : ws'.length = cs.length) (d : Int) (hc : ∀ i, cnt cs i → wf ws' i = wf ws i + d) : ordW ws' cs = ordW ws cs := by
  rw [ordW_eq he, ordW_eq he']
  refine srt_congr (leW_lo _) (leW_lo _) fun x hx y hy => ?_
  have h1 := hc x (ix_mem.1 hx)
  have h2 := hc y (ix_mem.1 hy)
  unfold leW
  rw [h1, h2]
  apply decide_eq_decide.2
  omega
theorem least_congr {ws ws' : List Int} {cs : List Bool} (h : ordW ws' cs = ordW ws cs) : leastW ws' cs = leastW ws cs := by
  unfold leastW
  rw [h]
theorem spread_congr {ws ws' : List Int} {cs : List Bool} (he : ws.length = cs.length) (he' : ws'.length = cs.length) (d : Int) (hc : ∀ i, cnt cs i → wf ws' i = wf ws i + d) : spreadW ws' cs = spreadW ws cs := by
  have h1 := least_congr (ordW_congr he he' d hc)
  by_cases h0 : leastW ws cs < 0
  · rw [(least_none h0).2, (least_none (by omega)).2]
  · obtain ⟨a1, a2⟩ := least_spec he (by omega)
    obtain ⟨b1, b2⟩ := great_spec he (by omega)
    obtain ⟨c1, c2⟩ := least_spec he' (by omega)
    obtain ⟨d1, d2⟩ := great_spec he' (by omega)
    rw [spread_eq (by omega), spread_eq (by omega)]
    have e1 := hc _ a1
    have e2 := hc _ b1
    have e3 := hc _ c1
    have e4 := hc _ d1
    have e5 := a2 _ c1
    have e6 := b2 _ d1
    have e7 := c2 _ a1
    have e8 := d2 _ b1
    omega
theorem ix_out {cs : List Bool} {n : Nat} {o : Int} (hcs : cs = gen (fun i => decide ((i : Int) ≠ o)) n) (h0 : 0 ≤ o) : ∀ k, k ≤ n → (((ix cs k).length : Nat) : Int) = if o < (k : Int) then (k : Int) - 1 else (k : Int)
  | 0, _ => by
    rw [if_neg (by omega)]; rfl
  | k + 1, hk => by
    have ih := ix_out hcs h0 k (by omega)
    have hn : nth cs k = decide ((k : Int) ≠ o) := by rw [hcs, nth_gen _ (by omega)]
    by_cases e : (k : Int) = o
    · rw [ix_no (by rw [hn]; simp [e]), ih, if_neg (by omega), if_pos (by omega)]
      omega
    · rw [ix_yes (by rw [hn]; simp [e]), List.length_append]
      simp only [List.length_cons, List.length_nil]
      by_cases e2 : o < (k : Int)
      · rw [if_pos e2] at ih
        rw [if_pos (by omega)]; omega
      · rw [if_neg e2] at ih
        rw [if_neg (by omega)]; omega
theorem ord_out {ws : List Int} {cs : List Bool} {n : Nat} {o : Int} (hcs : cs = gen (fun i => decide ((i : Int) ≠ o)) n) (h0 : 0 ≤ o) (h1 : o < (n : Int)) (hw : ws.length = n) : (((ordW ws cs).length : Nat) : Int) = (n : Int) - 1 := by
  have hl : cs.length = n := by rw [hcs, gen_len]
  rw [ordW_eq (by omega), srt_len, hl, ix_out hcs h0 n (Nat.le_refl _), if_pos h1]
theorem cnt_out {cs : List Bool} {n : Nat} {o : Int} (hcs : cs = gen (fun i => decide ((i : Int) ≠ o)) n) {i : Int} (h : cnt cs i) : i ≠ o := by
  obtain ⟨h0, h1, h2⟩ := h
  have hl : cs.length = n := by rw [hcs, gen_len]
  rw [hcs, nth_gen _ (by omega)] at h2
  have := of_decide_eq_true h2
  omega
theorem shift_all {n : Nat} {a b c : List Int} {cs : List Bool} {f : Nat → Int} {y o m : Int} (ha : a = gen f n) (hb : b = gen (fun i => f i + y) n) (hcs : cs = gen (fun i => decide ((i : Int) ≠ o)) n) (hc : c = a.set o.toNat m) (hf : ∀ i, 0 ≤ f i ∧ f i < 1000) (hy : 0 ≤ y ∧ y < 1000) (h0 : 0 ≤ o) (h1 : o < (n : Int)) : spreadW a cs = spreadW b cs ∧ ordW a cs = ordW b cs ∧ spreadW a cs = spreadW c cs ∧ leastW a cs = leastW c cs ∧ (((ordW a cs).length : Nat) : Int) = (n : Int) - 1 := by
  have la : a.length = n := by rw [ha, gen_len]
  have lb : b.length = n := by rw [hb, gen_len]
  have ls : cs.length = n := by rw [hcs, gen_len]
  have lc : c.length = n := by rw [hc, List.length_set, la]
  have hab : ∀ i, cnt cs i → wf b i = wf a i + y := fun i hi => by
    have := hi.1
    have := hi.2.1
    have hfi := hf i.toNat
    unfold wf
    rw [ha, hb, nth_gen _ (by omega), nth_gen _ (by omega), rd_id (by omega) (by omega), rd_id (by omega) (by omega)]
  have hac : ∀ i, cnt cs i → wf c i = wf a i + 0 := fun i hi => by
    have h3 := cnt_out hcs hi
    have := hi.1
    unfold wf
    rw [hc, nth_set _ _ _ _ (by omega), if_neg (by omega), Int.add_zero]
  have hoc := ordW_congr (by omega) (by omega) 0 hac
  exact ⟨(spread_congr (by omega) (by omega) y hab).symm, (ordW_congr (by omega) (by omega) y hab).symm, (spread_congr (by omega) (by omega) 0 hac).symm, (least_congr hoc).symm, ord_out hcs h0 h1 la⟩
end Go.Proofs.Ytbahngmjbpaglaa
