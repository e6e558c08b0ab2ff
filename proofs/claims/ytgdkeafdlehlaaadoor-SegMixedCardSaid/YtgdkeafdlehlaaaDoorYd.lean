/- What is cut is joined: plain laws. -/
import Derived.Test.YtgdkeafdlehlaaaDoorYc
namespace Go.Proofs.YtgdkeafdlehlaaaDoor
open Go Go.RowKit
set_option linter.unusedVariables false
set_option linter.unusedSimpArgs false

theorem okC_iff {size : Int} {name : List UInt8} {es : List Ent} : okC size name es = true ↔ (¬ eachS size = 0 ∧ mayL name = true) ∧ mayE es = true := by
  unfold okC
  simp only [Bool.and_eq_true, Bool.not_eq_true', decide_eq_false_iff_not]
theorem mayE_iff {es : List Ent} : mayE es = true ↔ es.length ≤ 256 ∧ ∀ i, i < es.length → okE es i = true := by
  unfold mayE risesE
  simp only [Bool.and_eq_true, decide_eq_true_eq, List.all_eq_true, List.mem_range]
theorem tkn_iff {es : List Ent} {k p : Nat} : tkn es k p = true ↔ ∃ j, j < k ∧ (nth es j).page = (p : Int) := by
  unfold tkn
  simp only [List.any_eq_true, List.mem_range, decide_eq_true_eq]
theorem tkn_no {es : List Ent} {k p : Nat} : tkn es k p = false ↔ ∀ j, j < k → ¬ (nth es j).page = (p : Int) := by
  rw [← Bool.not_eq_true, tkn_iff]
  constructor
  · intro h j hj he; exact h ⟨j, hj, he⟩
  · rintro h ⟨j, hj, he⟩; exact h j hj he
theorem okE_iff {es : List Ent} {k : Nat} : okE es k = true ↔ fitsE (nth es k) = true ∧ (∀ j, j < k → ¬ (nth es j).page = ((nth es k).page.toNat : Int)) ∧ (k = 0 ∨ (nth es (k - 1)).addr < (nth es k).addr) := by
  unfold okE
  simp only [Bool.and_eq_true, Bool.not_eq_true', Bool.or_eq_true, decide_eq_true_eq, tkn_no]
  constructor
  · rintro ⟨⟨a, b⟩, c⟩; exact ⟨a, b, c⟩
  · rintro ⟨a, b, c⟩; exact ⟨⟨a, b⟩, c⟩
/-- a piece of what may be may be -/
theorem rises_seg {es : List Ent} (h : mayE es = true) (size : Int) (k : Nat) : risesE (segE size es k) = true := by
  obtain ⟨_, h2⟩ := mayE_iff.1 h
  refine rises_all fun j hj => ?_
  obtain ⟨n1, n2⟩ := nth_seg hj
  obtain ⟨g1, g2, g3⟩ := okE_iff.1 (h2 _ n2)
  rw [okE_iff]
  rw [n1]
  refine ⟨g1, fun i hi => ?_, ?_⟩
  · rw [(nth_seg (show i < (segE size es k).length by omega)).1]
    exact g2 _ (by omega)
  · by_cases h0 : j = 0
    · exact .inl h0
    · right
      rw [(nth_seg (show j - 1 < (segE size es k).length by omega)).1]
      rcases g3 with g3 | g3
      · omega
      · rw [show k * eS size + j - 1 = k * eS size + (j - 1) by omega] at g3
        exact g3
theorem cut_rd {size : Int} {name : List UInt8} {es : List Ent} (hok : okC size name es = true) (ha : ∀ k, k < es.length → 0 ≤ (nth es k).addr ∧ (nth es k).addr < 18446744073709551616) {k : Nat} (hk : (k : Int) < partsS size es.length) : rdB (cutP size name es k) = true ∧ rdP (cutP size name es k) = ⟨(k : Int), partsS size es.length, name, segE size es k⟩ ∧ (cutP size name es k).length = size.toNat := by
  obtain ⟨⟨c1, c2⟩, c3⟩ := okC_iff.1 hok
  have c4 := (mayE_iff.1 c3).1
  obtain ⟨p1, p2, p3, p4, p5, p6, p7, p8, p9⟩ := parts_all (n := es.length) c1 (by omega) (by omega)
  have hoe := may_okE c3 ha
  have hse : (eS size : Int) = eachS size := by unfold eS; omega
  have hsl : (segE size es k).length ≤ eS size := by unfold segE; rw [List.length_take]; omega
  refine rd_part c1 ⟨by omega, hk⟩ (by omega) c2 (rises_seg c3 size k) (by omega) (fun j hj => ?_) ?_
  · obtain ⟨n1, n2⟩ := nth_seg hj
    rw [n1]
    exact hoe _ n2
  · have m3 : ((k * eS size : Nat) : Int) = (k : Int) * eachS size := by rw [Int.natCast_mul, hse]
    have hlen : (segE size es k).length = min (eS size) (es.length - k * eS size) := by unfold segE; rw [List.length_take, List.length_drop]
    by_cases hl : (k : Int) = partsS size es.length - 1
    · refine .inr ⟨hl, ?_⟩
      rw [← hl] at p5
      by_cases h0 : 0 < es.length
      · left
        have := p5 (by omega)
        omega
      · right
        rw [← hl] at p4
        have hz : (k : Int) * eachS size ≤ 0 := by omega
        by_cases hk0 : k = 0
        · omega
        · have := Int.mul_le_mul_of_nonneg_right (show (1 : Int) ≤ (k : Int) by omega) (show 0 ≤ eachS size by omega)
          omega
    · refine .inl ⟨hl, ?_⟩
      have m1 : ((k : Int) + 1) * eachS size ≤ (partsS size es.length - 1) * eachS size := Int.mul_le_mul_of_nonneg_right (by omega) (by omega)
      have m2 : ((k : Int) + 1) * eachS size = (k : Int) * eachS size + eachS size := by rw [Int.add_mul, Int.one_mul]
      omega
/-- pieces side by side -/
theorem esJ_segs {bss : List (List UInt8)} {size : Int} {gs : List Ent} (h : ∀ j, j < bss.length → (rdP (nth bss j)).es = segE size gs j) : ∀ k, k ≤ bss.length → esJ bss k = gs.take (k * eS size)
  | 0, _ => by simp [esJ]
  | k + 1, hk => by
    rw [esJ_succ (by omega), esJ_segs h k (by omega), h k (by omega)]
    unfold segE
    rw [Nat.add_mul, Nat.one_mul, List.take_add]
theorem cutL_len (size : Int) (name : List UInt8) (es : List Ent) : (cutL size name es).length = (partsS size es.length).toNat := gen_len _ _
theorem cutL_nth {size : Int} {name : List UInt8} {es : List Ent} {k : Nat} (h : k < (partsS size es.length).toNat) : nth (cutL size name es) k = cutP size name es k := nth_gen _ h
theorem take_parts {size : Int} {gs : List Ent} (c1 : ¬ eachS size = 0) (h : gs.length ≤ 256) : gs.take ((partsS size gs.length).toNat * eS size) = gs := by
  obtain ⟨p1, p2, p3, p4, p5, p6, p7, p8, p9⟩ := parts_all (n := gs.length) c1 (by omega) (by omega)
  refine List.take_of_length_le ?_
  have e1 : ((partsS size gs.length).toNat : Int) = partsS size gs.length := by omega
  have e2 : (eS size : Int) = eachS size := by unfold eS; omega
  have : (((partsS size gs.length).toNat * eS size : Nat) : Int) = partsS size gs.length * eachS size := by rw [Int.natCast_mul, e1, e2]
  omega
/-- the parts of a checkpoint, joined -/
theorem cut_join {size : Int} {name : List UInt8} {es : List Ent} (hok : okC size name es = true) (ha : ∀ k, k < es.length → 0 ≤ (nth es k).addr ∧ (nth es k).addr < 18446744073709551616) : 0 < (cutL size name es).length ∧ (∀ k, k < (cutL size name es).length → okJ (cutL size name es) k) ∧ esJ (cutL size name es) (cutL size name es).length = es ∧ nmJ (cutL size name es) (cutL size name es).length = name := by
  obtain ⟨⟨c1, c2⟩, c3⟩ := okC_iff.1 hok
  have c4 := (mayE_iff.1 c3).1
  obtain ⟨p1, p2, p3, p4, p5, p6, p7, p8, p9⟩ := parts_all (n := es.length) c1 (by omega) (by omega)
  have hl := cutL_len size name es
  have hp : ((cutL size name es).length : Int) = partsS size es.length := by omega
  have hr : ∀ k, k < (cutL size name es).length → rdB (nth (cutL size name es) k) = true ∧ rdP (nth (cutL size name es) k) = ⟨(k : Int), partsS size es.length, name, segE size es k⟩ ∧ (nth (cutL size name es) k).length = size.toNat := fun k hk => by
    rw [cutL_nth (by omega)]
    exact cut_rd hok ha (by omega)
  have hnm : ∀ k, 0 < k → k ≤ (cutL size name es).length → nmJ (cutL size name es) k = name := fun k h0 hk => by
    unfold nmJ
    rw [if_neg (by omega), (hr (k - 1) (by omega)).2.1]
  refine ⟨by omega, fun k hk => ?_, ?_, hnm _ (by omega) (Nat.le_refl _)⟩
  · obtain ⟨r1, r2, r3⟩ := hr k hk
    refine ⟨r1, by rw [r2], by rw [r2]; exact hp.symm, by rw [r3, (hr 0 (by omega)).2.2], ?_⟩
    by_cases h0 : k = 0
    · exact .inl h0
    · right
      rw [r2, hnm k (by omega) (by omega)]
  · rw [esJ_segs (gs := es) (size := size) (fun j hj => by rw [(hr j hj).2.1]) _ (Nat.le_refl _), hl]
    exact take_parts c1 c4
end Go.Proofs.YtgdkeafdlehlaaaDoor
