/- What is laid is read: plain laws. -/
import Derived.Test.YtgdkeafdlehlaaaDoorYa
import Derived.Test.YtgdkeafdlehlaaaDoorYb
namespace Go.Proofs.YtgdkeafdlehlaaaDoor
open Go Go.RowKit
set_option linter.unusedVariables false
set_option linter.unusedSimpArgs false

theorem unf_take (k n : Nat) (r : List UInt8) : unfN 0 ((fixN k n ++ r).take k) = n % 256 ^ k := by
  rw [List.take_append_of_le_length (by rw [fixN_len]; exact Nat.le_refl _), List.take_of_length_le (by rw [fixN_len]; exact Nat.le_refl _), unf_fix]
  simp
theorem drop_fix (k n : Nat) (r : List UInt8) : (fixN k n ++ r).drop k = r := by
  have h := List.drop_left (l₁ := fixN k n) (l₂ := r)
  rwa [fixN_len] at h
theorem ent_of {b : List UInt8} {k : Nat} {e : Ent} {r : List UInt8} (hb : b.drop (42 + 15 * k) = entB e ++ r) (he : okEnt e) : entAt b k = e := by
  obtain ⟨⟨a1, a2⟩, ⟨a3, a4⟩, a5, a6⟩ := he
  have hp : pgN e = if e.dirty = true then e.page + 32768 else e.page := rfl
  have hb2 : b.drop (42 + 15 * k) = fixN 8 e.addr.toNat ++ (fixN 5 e.seq.toNat ++ (fixN 2 (pgN e).toNat ++ r)) := by
    rw [hb]
    unfold entB
    simp only [List.append_assoc]
  have h5 : (256 : Nat) ^ 5 = 1099511627776 := by decide
  have h8 : (256 : Nat) ^ 8 = 18446744073709551616 := by decide
  have h2 : (256 : Nat) ^ 2 = 65536 := by decide
  unfold entAt
  rw [hb2, unf_take, drop_fix, unf_take, drop_fix, unf_take, h5, h8, h2]
  rw [Nat.mod_eq_of_lt (show e.addr.toNat < 18446744073709551616 by omega), Nat.mod_eq_of_lt (show e.seq.toNat < 1099511627776 by omega), Int.toNat_of_nonneg a1, Int.toNat_of_nonneg a5]
  obtain ⟨ad, pg, dt, sq⟩ := e
  dsimp only at *
  cases dt with
  | true =>
    rw [if_pos rfl] at hp
    rw [hp, Nat.mod_eq_of_lt (show (pg + 32768).toNat < 65536 by omega), decide_eq_true (show 32768 ≤ (pg + 32768).toNat by omega)]
    congr 1
    omega
  | false =>
    rw [if_neg (by decide)] at hp
    rw [hp, Nat.mod_eq_of_lt (show pg.toNat < 65536 by omega), decide_eq_false (show ¬ 32768 ≤ pg.toNat by omega)]
    congr 1
    omega
theorem entsB_app (xs ys : List Ent) : entsB (xs ++ ys) = entsB xs ++ entsB ys := by
  unfold entsB
  rw [List.map_append, List.flatten_append]
theorem entsB_drop {es : List Ent} {k : Nat} (h : k < es.length) (Z : List UInt8) : (entsB es ++ Z).drop (15 * k) = entB (nth es k) ++ (entsB (es.drop (k + 1)) ++ Z) := by
  have e1 : entsB es = entsB (es.take k) ++ (entB (nth es k) ++ entsB (es.drop (k + 1))) := by
    conv => lhs; rw [← List.take_append_drop k es, entsB_app, List.drop_eq_getElem_cons h]
    rw [nth_eq h]
    unfold entsB
    rw [List.map_cons, List.flatten_cons]
  have hl : (entsB (es.take k)).length = 15 * k := by rw [entsB_len, List.length_take]; omega
  rw [e1, List.append_assoc, List.append_assoc, ← hl, List.drop_left]
theorem part_drop (size i many : Int) {name : List UInt8} (es : List Ent) (hn : name.length ≤ 36) {k : Nat} (h : k < es.length) : ∃ r, (partL size i many name es).drop (42 + 15 * k) = entB (nth es k) ++ r := by
  unfold partL
  rw [List.append_assoc, ← List.drop_drop]
  have hl := headB_len i many es.length hn
  have := List.drop_left (l₁ := headB i many name es.length) (l₂ := entsB es ++ List.replicate (size.toNat - 42 - 15 * es.length) 0)
  rw [hl] at this
  rw [this, entsB_drop h]
  exact ⟨_, rfl⟩
theorem b8_lt256 {n : Nat} (h : n < 256) : (b8 n).toNat = n := by rw [b8_toNat]; omega
/-- what a part says is what was laid -/
theorem prs_part {size i many : Int} {name : List UInt8} {es : List Ent} (hi : 0 ≤ i ∧ i ≤ 65535) (hm : 0 ≤ many ∧ many ≤ 65535) (hn : name.length ≤ 36) (hs : 42 + 15 * (es.length : Int) ≤ size) (hz : size ≤ 256) (he : ∀ k, k < es.length → okEnt (nth es k)) :
    prsP (partL size i many name es) = ⟨i, many, name, es⟩ ∧ longP (partL size i many name es) = name.length ∧ manyP (partL size i many name es) = es.length := by
  have h2 : (256 : Nat) ^ 2 = 65536 := by decide
  have hr : restP (partL size i many name es) = b8 es.length :: b8 name.length :: (name ++ (List.replicate (36 - name.length) 0 ++ (entsB es ++ List.replicate (size.toNat - 42 - 15 * es.length) 0))) := by
    unfold restP partL headB
    simp only [List.append_assoc]
    rw [drop_fix, drop_fix]
    rfl
  have hl : longP (partL size i many name es) = name.length := by
    unfold longP
    rw [hr]
    exact b8_lt256 (by omega)
  have hy : manyP (partL size i many name es) = es.length := by
    unfold manyP
    rw [hr]
    exact b8_lt256 (by omega)
  refine ⟨?_, hl, hy⟩
  unfold prsP
  rw [hl, hy, hr]
  have e1 : unfN 0 ((partL size i many name es).take 2) = i.toNat := by
    unfold partL headB
    simp only [List.append_assoc]
    rw [unf_take, h2]
    exact Nat.mod_eq_of_lt (by omega)
  have e2 : unfN 0 (((partL size i many name es).drop 2).take 2) = many.toNat := by
    unfold partL headB
    simp only [List.append_assoc]
    rw [drop_fix, unf_take, h2]
    exact Nat.mod_eq_of_lt (by omega)
  have e3 : gen (entAt (partL size i many name es)) es.length = es := by
    refine ext_nth (gen_len _ _) fun k hk => ?_
    rw [gen_len] at hk
    rw [nth_gen _ hk]
    obtain ⟨r, h⟩ := part_drop size i many es hn hk
    exact ent_of h (he k hk)
  have e4 : List.drop 2 (List.take (2 + (name.length : Int)).toNat (b8 es.length :: b8 name.length :: (name ++ (List.replicate (36 - name.length) 0 ++ (entsB es ++ List.replicate (size.toNat - 42 - 15 * es.length) 0))))) = name := by
    rw [show (2 + (name.length : Int)).toNat = name.length + 1 + 1 by omega, List.take_succ_cons, List.take_succ_cons, List.drop_succ_cons, List.drop_succ_cons, List.drop_zero, List.take_left]
  rw [e1, e2, e3, e4, Int.toNat_of_nonneg hi.1, Int.toNat_of_nonneg hm.1]
theorem rd_part {size i many : Int} {name : List UInt8} {es : List Ent} (hsz : ¬ eachS size = 0) (hi : 0 ≤ i ∧ i < many) (hm : many ≤ 65535) (hname : mayL name = true) (hr : risesE es = true) (hl : (es.length : Int) ≤ eachS size) (he : ∀ k, k < es.length → okEnt (nth es k)) (hlast : (¬ i = many - 1 ∧ (es.length : Int) = eachS size) ∨ (i = many - 1 ∧ (0 < es.length ∨ i = 0))) :
    rdB (partL size i many name es) = true ∧ rdP (partL size i many name es) = ⟨i, many, name, es⟩ ∧ (partL size i many name es).length = size.toNat := by
  have hn := may_36 hname
  have hsz' : ¬ (size < 128 ∨ 256 < size) := fun hc => hsz (by unfold eachS; rw [if_pos hc])
  obtain ⟨q1, q2⟩ := each_pos hsz'
  have hs : 42 + 15 * (es.length : Int) ≤ size := by omega
  obtain ⟨p1, p2, p3⟩ := prs_part (size := size) (i := i) (many := many) (name := name) (es := es) ⟨hi.1, by omega⟩ ⟨by omega, hm⟩ hn hs (by omega) he
  have hlen := partL_len i many (size := size) hn hs
  have hsn : ((partL size i many name es).length : Int) = size := by rw [hlen]; omega
  have hbad : badP (partL size i many name es) = false := by
    unfold badP
    rw [p2, p3, hsn]
    simp only [Bool.or_eq_false_iff, decide_eq_false_iff_not]
    exact ⟨⟨hsz, by omega⟩, by omega⟩
  have hmay : mayP ⟨i, many, name, es⟩ (eachS size) = true := by
    unfold mayP
    dsimp only
    rw [decide_eq_true hi.2, hname, hr]
    rcases hlast with ⟨a, b⟩ | ⟨a, b⟩
    · rw [decide_eq_false a, decide_eq_true b]; rfl
    · rw [decide_eq_true a]
      rcases b with b | b
      · rw [decide_eq_true (show (0 : Int) < (es.length : Int) by omega)]; rfl
      · rw [decide_eq_true b]; simp
  refine ⟨?_, ?_, hlen⟩
  · unfold rdB
    rw [hbad, p1, hsn, hmay]
    simp
  · unfold rdP
    rw [hbad, if_neg Bool.false_ne_true, p1]
end Go.Proofs.YtgdkeafdlehlaaaDoor
