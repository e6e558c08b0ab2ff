/- Words of our own for walks over abstract values, laid together. Nothing of the program stands here. -/
import Derived.Test.YtgdkeafdlehlaaaDoorYa
import Derived.Test.YtgdkeafdlehlaaaDoorYb
/- What is laid is read: plain laws. -/
namespace Go.Proofs.YtgdkeafdlehlaaaDoor
open Go Go.RowKit
set_option linter.unusedVariables false
set_option linter.unusedSimpArgs false

theorem unf_take (k n : Nat) (r : List UInt8) : unfN 0 ((fixN k n ++ r).take k) = n % 256 ^ k := by
  rw [List.take_append_of_le_length (by rw [fixN_len]; exact Nat.le_refl _), List.take_of_length_le (by rw [fixN_len]; exact Nat.le_refl _), unf_fix]
  simp
theorem drop_fix (k n : Nat) (r : List UInt8) : (fixN k n ++ r).drop k = r := by
  have h := List.drop_left (l₁ := fixN k n) (l₂ := r)
  rwa [fixN_len] at h
theorem ent_of {b : List UInt8} {k : Nat} {e : Ent} {r : List UInt8} (hb : b.drop (42 + 15 * k) = entB e ++ r) (he : okEnt e) : entAt b k = e := by
  obtain ⟨⟨a1, a2⟩, ⟨a3, a4⟩, a5, a6⟩ := he
  have hp : pgN e = if e.dirty = true then e.page + 32768 else e.page := rfl
  have hb2 : b.drop (42 + 15 * k) = fixN 8 e.addr.toNat ++ (fixN 5 e.seq.toNat ++ (fixN 2 (pgN e).toNat ++ r)) := by
    rw [hb]
    unfold entB
    simp only [List.append_assoc]
  have h5 : (256 : Nat) ^ 5 = 1099511627776 := by decide
  have h8 : (256 : Nat) ^ 8 = 18446744073709551616 := by decide
  have h2 : (256 : Nat) ^ 2 = 65536 := by decide
  unfold entAt
  rw [hb2, unf_take, drop_fix, unf_take, drop_fix, unf_take, h5, h8, h2]
  rw [Nat.mod_eq_of_lt (show e.addr.toNat < 18446744073709551616 by omega), Nat.mod_eq_of_lt (show e.seq.toNat < 1099511627776 by omega), Int.toNat_of_nonneg a1, Int.toNat_of_nonneg a5]
  obtain ⟨ad, pg, dt, sq⟩ := e
  dsimp only at *
  cases dt with
  | true =>
    rw [if_pos rfl] at hp
    rw [hp, Nat.mod_eq_of_lt (show (pg + 32768).toNat < 65536 by omega), decide_eq_true (show 32768 ≤ (pg + 32768).toNat by omega)]
    congr 1
    omega
  | false =>
    rw [if_neg (by decide)] at hp
    rw [hp, Nat.mod_eq_of_lt (show pg.toNat < 65536 by omega), decide_eq_false (show ¬ 32768 ≤ pg.toNat by omega)]
    congr 1
    omega
theorem entsB_app (xs ys : List Ent) : entsB (xs ++ ys) = entsB xs ++ entsB ys := by
  unfold entsB
  rw [List.map_append, List.flatten_append]
theorem entsB_drop {es : List Ent} {k : Nat} (h : k < es.length) (Z : List UInt8) : (entsB es ++ Z).drop (15 * k) = entB (nth es k) ++ (entsB (es.drop (k + 1)) ++ Z) := by
  have e1 : entsB es = entsB (es.take k) ++ (entB (nth es k) ++ entsB (es.drop (k + 1))) := by
    conv => lhs; rw [← List.take_append_drop k es, entsB_app, List.drop_eq_getElem_cons h]
    rw [nth_eq h]
    unfold entsB
    rw [List.map_cons, List.flatten_cons]
  have hl : (entsB (es.take k)).length = 15 * k := by rw [entsB_len, List.length_take]; omega
  rw [e1, List.append_assoc, List.append_assoc, ← hl, List.drop_left]
theorem part_drop (size i many : Int) {name : List UInt8} (es : List Ent) (hn : name.length ≤ 36) {k : Nat} (h : k < es.length) : ∃ r, (partL size i many name es).drop (42 + 15 * k) = entB (nth es k) ++ r := by
  unfold partL
  rw [List.append_assoc, ← List.drop_drop]
  have hl := headB_len i many es.length hn
  have := List.drop_left (l₁ := headB i many name es.length) (l₂ := entsB es ++ List.replicate (size.toNat - 42 - 15 * es.length) 0)
  rw [hl] at this
  rw [this, entsB_drop h]
  exact ⟨_, rfl⟩
theorem b8_lt256 {n : Nat} (h : n < 256) : (b8 n).toNat = n := by rw [b8_toNat]; omega
/-- what a part says is what was laid -/
theorem prs_part {size i many : Int} {name : List UInt8} {es : List Ent} (hi : 0 ≤ i ∧ i ≤ 65535) (hm : 0 ≤ many ∧ many ≤ 65535) (hn : name.length ≤ 36) (hs : 42 + 15 * (es.length : Int) ≤ size) (hz : size ≤ 256) (he : ∀ k, k < es.length → okEnt (nth es k)) :
    prsP (partL size i many name es) = ⟨i, many, name, es⟩ ∧ longP (partL size i many name es) = name.length ∧ manyP (partL size i many name es) = es.length := by
  have h2 : (256 : Nat) ^ 2 = 65536 := by decide
  have hr : restP (partL size i many name es) = b8 es.length :: b8 name.length :: (name ++ (List.replicate (36 - name.length) 0 ++ (entsB es ++ List.replicate (size.toNat - 42 - 15 * es.length) 0))) := by
    unfold restP partL headB
    simp only [List.append_assoc]
    rw [drop_fix, drop_fix]
    rfl
  have hl : longP (partL size i many name es) = name.length := by
    unfold longP
    rw [hr]
    exact b8_lt256 (by omega)
  have hy : manyP (partL size i many name es) = es.length := by
    unfold manyP
    rw [hr]
    exact b8_lt256 (by omega)
  refine ⟨?_, hl, hy⟩
  unfold prsP
  rw [hl, hy, hr]
  have e1 : unfN 0 ((partL size i many name es).take 2) = i.toNat := by
    unfold partL headB
    simp only [List.append_assoc]
    rw [unf_take, h2]
    exact Nat.mod_eq_of_lt (by omega)
  have e2 : unfN 0 (((partL size i many name es).drop 2).take 2) = many.toNat := by
    unfold partL headB
    simp only [List.append_assoc]
    rw [drop_fix, unf_take, h2]
    exact Nat.mod_eq_of_lt (by omega)
  have e3 : gen (entAt (partL size i many name es)) es.length = es := by
    refine ext_nth (gen_len _ _) fun k hk => ?_
    rw [gen_len] at hk
    rw [nth_gen _ hk]
    obtain ⟨r, h⟩ := part_drop size i many es hn hk
    exact ent_of h (he k hk)
  have e4 : List.drop 2 (List.take (2 + (name.length : Int)).toNat (b8 es.length :: b8 name.length :: (name ++ (List.replicate (36 - name.length) 0 ++ (entsB es ++ List.replicate (size.toNat - 42 - 15 * es.length) 0))))) = name := by
    rw [show (2 + (name.length : Int)).toNat = name.length + 1 + 1 by omega, List.take_succ_cons, List.take_succ_cons, List.drop_succ_cons, List.drop_succ_cons, List.drop_zero, List.take_left]
  rw [e1, e2, e3, e4, Int.toNat_of_nonneg hi.1, Int.toNat_of_nonneg hm.1]
theorem rd_part {size i many : Int} {name : List UInt8} {es : List Ent} (hsz : ¬ eachS size = 0) (hi : 0 ≤ i ∧ i < many) (hm : many ≤ 65535) (hname : mayL name = true) (hr : risesE es = true) (hl : (es.length : Int) ≤ eachS size) (he : ∀ k, k < es.length → okEnt (nth es k)) (hlast : (¬ i = many - 1 ∧ (es.length : Int) = eachS size) ∨ (i = many - 1 ∧ (0 < es.length ∨ i = 0))) :
    rdB (partL size i many name es) = true ∧ rdP (partL size i many name es) = ⟨i, many, name, es⟩ ∧ (partL size i many name es).length = size.toNat := by
  have hn := may_36 hname
  have hsz' : ¬ (size < 128 ∨ 256 < size) := fun hc => hsz (by unfold eachS; rw [if_pos hc])
  obtain ⟨q1, q2⟩ := each_pos hsz'
  have hs : 42 + 15 * (es.length : Int) ≤ size := by omega
  obtain ⟨p1, p2, p3⟩ := prs_part (size := size) (i := i) (many := many) (name := name) (es := es) ⟨hi.1, by omega⟩ ⟨by omega, hm⟩ hn hs (by omega) he
  have hlen := partL_len i many (size := size) hn hs
  have hsn : ((partL size i many name es).length : Int) = size := by rw [hlen]; omega
  have hbad : badP (partL size i many name es) = false := by
    unfold badP
    rw [p2, p3, hsn]
    simp only [Bool.or_eq_false_iff, decide_eq_false_iff_not]
    exact ⟨⟨hsz, by omega⟩, by omega⟩
  have hmay : mayP ⟨i, many, name, es⟩ (eachS size) = true := by
    unfold mayP
    dsimp only
    rw [decide_eq_true hi.2, hname, hr]
    rcases hlast with ⟨a, b⟩ | ⟨a, b⟩
    · rw [decide_eq_false a, decide_eq_true b]; rfl
    · rw [decide_eq_true a]
      rcases b with b | b
      · rw [decide_eq_true (show (0 : Int) < (es.length : Int) by omega)]; rfl
      · rw [decide_eq_true b]; simp
  refine ⟨?_, ?_, hlen⟩
  · unfold rdB
    rw [hbad, p1, hsn, hmay]
    simp
  · unfold rdP
    rw [hbad, if_neg Bool.false_ne_true, p1]
end Go.Proofs.YtgdkeafdlehlaaaDoor

/- What is cut is joined: plain laws. -/
namespace Go.Proofs.YtgdkeafdlehlaaaDoor
open Go Go.RowKit
set_option linter.unusedVariables false
set_option linter.unusedSimpArgs false

theorem okC_iff {size : Int} {name : List UInt8} {es : List Ent} : okC size name es = true ↔ (¬ eachS size = 0 ∧ mayL name = true) ∧ mayE es = true := by
  unfold okC
  simp only [Bool.and_eq_true, Bool.not_eq_true', decide_eq_false_iff_not]
theorem mayE_iff {es : List Ent} : mayE es = true ↔ es.length ≤ 256 ∧ ∀ i, i < es.length → okE es i = true := by
  unfold mayE risesE
  simp only [Bool.and_eq_true, decide_eq_true_eq, List.all_eq_true, List.mem_range]
theorem tkn_iff {es : List Ent} {k p : Nat} : tkn es k p = true ↔ ∃ j, j < k ∧ (nth es j).page = (p : Int) := by
  unfold tkn
  simp only [List.any_eq_true, List.mem_range, decide_eq_true_eq]
theorem tkn_no {es : List Ent} {k p : Nat} : tkn es k p = false ↔ ∀ j, j < k → ¬ (nth es j).page = (p : Int) := by
  rw [← Bool.not_eq_true, tkn_iff]
  constructor
  · intro h j hj he; exact h ⟨j, hj, he⟩
  · rintro h ⟨j, hj, he⟩; exact h j hj he
theorem okE_iff {es : List Ent} {k : Nat} : okE es k = true ↔ fitsE (nth es k) = true ∧ (∀ j, j < k → ¬ (nth es j).page = ((nth es k).page.toNat : Int)) ∧ (k = 0 ∨ (nth es (k - 1)).addr < (nth es k).addr) := by
  unfold okE
  simp only [Bool.and_eq_true, Bool.not_eq_true', Bool.or_eq_true, decide_eq_true_eq, tkn_no]
  constructor
  · rintro ⟨⟨a, b⟩, c⟩; exact ⟨a, b, c⟩
  · rintro ⟨a, b, c⟩; exact ⟨⟨a, b⟩, c⟩
/-- a piece of what may be may be -/
theorem rises_seg {es : List Ent} (h : mayE es = true) (size : Int) (k : Nat) : risesE (segE size es k) = true := by
  obtain ⟨_, h2⟩ := mayE_iff.1 h
  refine rises_all fun j hj => ?_
  obtain ⟨n1, n2⟩ := nth_seg hj
  obtain ⟨g1, g2, g3⟩ := okE_iff.1 (h2 _ n2)
  rw [okE_iff]
  rw [n1]
  refine ⟨g1, fun i hi => ?_, ?_⟩
  · rw [(nth_seg (show i < (segE size es k).length by omega)).1]
    exact g2 _ (by omega)
  · by_cases h0 : j = 0
    · exact .inl h0
    · right
      rw [(nth_seg (show j - 1 < (segE size es k).length by omega)).1]
      rcases g3 with g3 | g3
      · omega
      · rw [show k * eS size + j - 1 = k * eS size + (j - 1) by omega] at g3
        exact g3
theorem cut_rd {size : Int} {name : List UInt8} {es : List Ent} (hok : okC size name es = true) (ha : ∀ k, k < es.length → 0 ≤ (nth es k).addr ∧ (nth es k).addr < 18446744073709551616) {k : Nat} (hk : (k : Int) < partsS size es.length) : rdB (cutP size name es k) = true ∧ rdP (cutP size name es k) = ⟨(k : Int), partsS size es.length, name, segE size es k⟩ ∧ (cutP size name es k).length = size.toNat := by
  obtain ⟨⟨c1, c2⟩, c3⟩ := okC_iff.1 hok
  have c4 := (mayE_iff.1 c3).1
  obtain ⟨p1, p2, p3, p4, p5, p6, p7, p8, p9⟩ := parts_all (n := es.length) c1 (by omega) (by omega)
  have hoe := may_okE c3 ha
  have hse : (eS size : Int) = eachS size := by unfold eS; omega
  have hsl : (segE size es k).length ≤ eS size := by unfold segE; rw [List.length_take]; omega
  refine rd_part c1 ⟨by omega, hk⟩ (by omega) c2 (rises_seg c3 size k) (by omega) (fun j hj => ?_) ?_
  · obtain ⟨n1, n2⟩ := nth_seg hj
    rw [n1]
    exact hoe _ n2
  · have m3 : ((k * eS size : Nat) : Int) = (k : Int) * eachS size := by rw [Int.natCast_mul, hse]
    have hlen : (segE size es k).length = min (eS size) (es.length - k * eS size) := by unfold segE; rw [List.length_take, List.length_drop]
    by_cases hl : (k : Int) = partsS size es.length - 1
    · refine .inr ⟨hl, ?_⟩
      rw [← hl] at p5
      by_cases h0 : 0 < es.length
      · left
        have := p5 (by omega)
        omega
      · right
        rw [← hl] at p4
        have hz : (k : Int) * eachS size ≤ 0 := by omega
        by_cases hk0 : k = 0
        · omega
        · have := Int.mul_le_mul_of_nonneg_right (show (1 : Int) ≤ (k : Int) by omega) (show 0 ≤ eachS size by omega)
          omega
    · refine .inl ⟨hl, ?_⟩
      have m1 : ((k : Int) + 1) * eachS size ≤ (partsS size es.length - 1) * eachS size := Int.mul_le_mul_of_nonneg_right (by omega) (by omega)
      have m2 : ((k : Int) + 1) * eachS size = (k : Int) * eachS size + eachS size := by rw [Int.add_mul, Int.one_mul]
      omega
/-- pieces side by side -/
theorem esJ_segs {bss : List (List UInt8)} {size : Int} {gs : List Ent} (h : ∀ j, j < bss.length → (rdP (nth bss j)).es = segE size gs j) : ∀ k, k ≤ bss.length → esJ bss k = gs.take (k * eS size)
  | 0, _ => by simp [esJ]
  | k + 1, hk => by
    rw [esJ_succ (by omega), esJ_segs h k (by omega), h k (by omega)]
    unfold segE
    rw [Nat.add_mul, Nat.one_mul, List.take_add]
theorem cutL_len (size : Int) (name : List UInt8) (es : List Ent) : (cutL size name es).length = (partsS size es.length).toNat := gen_len _ _
theorem cutL_nth {size : Int} {name : List UInt8} {es : List Ent} {k : Nat} (h : k < (partsS size es.length).toNat) : nth (cutL size name es) k = cutP size name es k := nth_gen _ h
theorem take_parts {size : Int} {gs : List Ent} (c1 : ¬ eachS size = 0) (h : gs.length ≤ 256) : gs.take ((partsS size gs.length).toNat * eS size) = gs := by
  obtain ⟨p1, p2, p3, p4, p5, p6, p7, p8, p9⟩ := parts_all (n := gs.length) c1 (by omega) (by omega)
  refine List.take_of_length_le ?_
  have e1 : ((partsS size gs.length).toNat : Int) = partsS size gs.length := by omega
  have e2 : (eS size : Int) = eachS size := by unfold eS; omega
  have : (((partsS size gs.length).toNat * eS size : Nat) : Int) = partsS size gs.length * eachS size := by rw [Int.natCast_mul, e1, e2]
  omega
/-- the parts of a checkpoint, joined -/
theorem cut_join {size : Int} {name : List UInt8} {es : List Ent} (hok : okC size name es = true) (ha : ∀ k, k < es.length → 0 ≤ (nth es k).addr ∧ (nth es k).addr < 18446744073709551616) : 0 < (cutL size name es).length ∧ (∀ k, k < (cutL size name es).length → okJ (cutL size name es) k) ∧ esJ (cutL size name es) (cutL size name es).length = es ∧ nmJ (cutL size name es) (cutL size name es).length = name := by
  obtain ⟨⟨c1, c2⟩, c3⟩ := okC_iff.1 hok
  have c4 := (mayE_iff.1 c3).1
  obtain ⟨p1, p2, p3, p4, p5, p6, p7, p8, p9⟩ := parts_all (n := es.length) c1 (by omega) (by omega)
  have hl := cutL_len size name es
  have hp : ((cutL size name es).length : Int) = partsS size es.length := by omega
  have hr : ∀ k, k < (cutL size name es).length → rdB (nth (cutL size name es) k) = true ∧ rdP (nth (cutL size name es) k) = ⟨(k : Int), partsS size es.length, name, segE size es k⟩ ∧ (nth (cutL size name es) k).length = size.toNat := fun k hk => by
    rw [cutL_nth (by omega)]
    exact cut_rd hok ha (by omega)
  have hnm : ∀ k, 0 < k → k ≤ (cutL size name es).length → nmJ (cutL size name es) k = name := fun k h0 hk => by
    unfold nmJ
    rw [if_neg (by omega), (hr (k - 1) (by omega)).2.1]
  refine ⟨by omega, fun k hk => ?_, ?_, hnm _ (by omega) (Nat.le_refl _)⟩
  · obtain ⟨r1, r2, r3⟩ := hr k hk
    refine ⟨r1, by rw [r2], by rw [r2]; exact hp.symm, by rw [r3, (hr 0 (by omega)).2.2], ?_⟩
    by_cases h0 : k = 0
    · exact .inl h0
    · right
      rw [r2, hnm k (by omega) (by omega)]
  · rw [esJ_segs (gs := es) (size := size) (fun j hj => by rw [(hr j hj).2.1]) _ (Nat.le_refl _), hl]
    exact take_parts c1 c4
end Go.Proofs.YtgdkeafdlehlaaaDoor
