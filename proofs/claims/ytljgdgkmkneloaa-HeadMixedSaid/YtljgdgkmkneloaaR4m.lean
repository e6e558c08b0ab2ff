/- Plain laws of heads: what a valid page looks like; a byte, or two bytes side by side, others. -/
import Derived.Test.YtljgdgkmkneloaaR4j
namespace Go.Proofs.Ytljgdgkmkneloaa
open Go
set_option linter.unusedVariables false
theorem fix6 : fixN 6 0 = [0, 0, 0, 0, 0] ++ [0] := rfl
theorem okR_form {r : List UInt8} (hok : okR r = true) : ∃ C, r = (C ++ [0]) ++ (fixN 4 (sumOf (C ++ [0])).toNat ++ [0]) ∧ C.length + 6 = r.length ∧ 150 ≤ C.length := by
  simp only [okR, Bool.and_eq_true, decide_eq_true_eq] at hok
  obtain ⟨⟨hs, hm⟩, he⟩ := hok
  simp only [szd, decide_eq_true_eq] at hs
  generalize hdAt r = h at he
  generalize r.take ((r.length : Int) - 28).toNat = l at he
  have hl := layM_len l h
  rw [he] at hl
  obtain ⟨C, hC⟩ : ∃ C, layB l h = C ++ [0] := ⟨l ++ [b8i h.kind] ++ fixN 8 h.addr.toNat ++ fixN 5 h.seq.toNat ++ fixN 3 h.gen.toNat ++ [0, 0, 0, 0, 0], by unfold layB; rw [fix6]; simp only [List.append_assoc]⟩
  have hlB := layB_len l h
  rw [hC, List.length_append] at hlB
  simp only [List.length_singleton] at hlB
  refine ⟨C, ?_, by omega, by omega⟩
  rw [← he, layM, hC, List.append_assoc]
theorem xor_zero {x b : UInt8} (h : x ^^^ b = x) : b = 0 := by
  have := congrArg (x ^^^ ·) h
  simpa [← UInt8.xor_assoc] using this
theorem fix4_inj {a b : R} (h : fixN 4 a.toNat = fixN 4 b.toNat) : a = b := by
  have := fix_inj h
  have h1 := a.isLt
  have h2 := b.isLt
  apply BitVec.eq_of_toNat_eq
  omega
theorem take_mid {α : Type} (p q : List α) (x y : α) (m : Nat) (h : p.length + 2 ≤ m) : (p ++ x :: y :: q).take m = p ++ x :: y :: q.take (m - (p.length + 2)) := by
  rw [List.take_append, List.take_of_length_le (by omega)]
  congr 1
  obtain ⟨j, hj⟩ : ∃ j, m - p.length = j + 2 := ⟨m - p.length - 2, by omega⟩
  rw [hj, List.take_succ_cons, List.take_succ_cons]
  congr 3
  omega
theorem drop_mid {α : Type} (p q : List α) (x y : α) (m : Nat) (h : p.length + 2 ≤ m) : (p ++ x :: y :: q).drop m = q.drop (m - (p.length + 2)) := by
  rw [List.drop_append, List.drop_of_length_le (by omega), List.nil_append]
  obtain ⟨j, hj⟩ : ∃ j, m - p.length = j + 2 := ⟨m - p.length - 2, by omega⟩
  rw [hj, List.drop_succ_cons, List.drop_succ_cons]
  congr 1
  omega
theorem no_two {r r' p q : List UInt8} {x y bx yb : UInt8} (hok : okR r = true) (hok' : okR r' = true) (hr : r = p ++ x :: y :: q) (hr' : r' = p ++ (x ^^^ bx) :: (y ^^^ yb) :: q) : bx = 0 ∧ yb = 0 := by
  obtain ⟨C, h1, h2, _⟩ := okR_form hok
  obtain ⟨C', h1', h2', _⟩ := okR_form hok'
  have hlen : r.length = r'.length := by rw [hr, hr']; simp
  have hCC : C.length = C'.length := by omega
  have t1 : r.take (C.length + 1) = C ++ [0] := by
    rw [h1]; exact List.take_left' (by simp)
  have t1' : r'.take (C.length + 1) = C' ++ [0] := by
    rw [h1']; exact List.take_left' (by simp; omega)
  have d1 : r.drop (C.length + 1) = fixN 4 (sumOf (C ++ [0])).toNat ++ [0] := by
    conv => lhs; rw [h1]
    exact List.drop_left' (by simp)
  have d1' : r'.drop (C.length + 1) = fixN 4 (sumOf (C' ++ [0])).toNat ++ [0] := by
    conv => lhs; rw [h1']
    exact List.drop_left' (by simp; omega)
  by_cases hk : p.length < C.length
  · have e1 : r.drop (C.length + 1) = r'.drop (C.length + 1) := by
      rw [hr, hr', drop_mid _ _ _ _ _ (by omega), drop_mid _ _ _ _ _ (by omega)]
    rw [d1, d1'] at e1
    have e2 := fix4_inj (List.append_inj_left' e1 rfl)
    rw [← t1, ← t1', hr, hr', take_mid _ _ _ _ _ (by omega), take_mid _ _ _ _ _ (by omega)] at e2
    by_cases hz : bx = 0 ∧ yb = 0
    · exact hz
    · exact absurd e2.symm (sum_finds _ _ _ _ _ _ hz)
  · have e1 : r.take C.length = r'.take C.length := by
      rw [hr, hr', List.take_append_of_le_length (by omega), List.take_append_of_le_length (by omega)]
    have e2 : C = C' := by
      have a1 : r.take C.length = C := by rw [h1, List.append_assoc]; exact List.take_left
      have a2 : r'.take C.length = C' := by rw [h1', List.append_assoc]; exact List.take_left' hCC.symm
      rw [← a1, e1, a2]
    have e3 : r = r' := by rw [h1, h1', e2]
    rw [hr, hr'] at e3
    have e4 := List.append_cancel_left e3
    injection e4 with e5 e6
    injection e6 with e7 _
    exact ⟨xor_zero e5.symm, xor_zero e7.symm⟩
theorem set_split {α : Type} [Inhabited α] (r : List α) (k : Nat) (v : α) (hk : k < r.length) : r.set k v = r.take k ++ v :: r.drop (k + 1) := List.set_eq_take_append_cons_drop.trans (if_pos hk)
theorem self_split {α : Type} [Inhabited α] (r : List α) (k : Nat) (hk : k < r.length) : r = r.take k ++ nth r k :: r.drop (k + 1) := by
  rw [nth_eq hk, ← List.drop_eq_getElem_cons hk, List.take_append_drop]
theorem drop_nth {α : Type} [Inhabited α] (r : List α) (k : Nat) (hk : k < r.length) : r.drop k = nth r k :: r.drop (k + 1) := by
  rw [nth_eq hk, List.drop_eq_getElem_cons hk]
theorem one_byte {r : List UInt8} (hok : okR r = true) {k : Nat} (hk : k < r.length) {b : UInt8} (hb : b ≠ 0) : okR (r.set k (nth r k ^^^ b)) = false := by
  cases hok' : okR (r.set k (nth r k ^^^ b)) with
  | false => rfl
  | true =>
    exfalso
    by_cases hl : k + 1 < r.length
    · have h1 := self_split r k hk
      rw [drop_nth r (k + 1) hl] at h1
      have h2 := set_split r k (nth r k ^^^ b) hk
      rw [drop_nth r (k + 1) hl] at h2
      have := no_two (bx := b) (yb := 0) hok hok' h1 (by rw [h2]; simp)
      exact hb this.1
    · obtain ⟨j, rfl⟩ : ∃ j, k = j + 1 := by
        obtain ⟨C, _, h2, h3⟩ := okR_form hok
        exact ⟨k - 1, by omega⟩
      have hd : r.drop (j + 1 + 1) = [] := List.drop_of_length_le (by omega)
      have h1 := self_split r j (by omega)
      rw [drop_nth r (j + 1) hk, hd] at h1
      have h2 := set_split r (j + 1) (nth r (j + 1) ^^^ b) hk
      have h3 : r.take (j + 1) = r.take j ++ [nth r j] := take_nth r j (by omega)
      rw [hd, h3, List.append_assoc] at h2
      have := no_two (bx := 0) (yb := b) hok hok' h1 (by rw [h2]; simp)
      exact hb this.2
theorem okR_zeros {r : List UInt8} (hok : okR r = true) : ∃ n, n + 6 = r.length ∧ nth r n = 0 ∧ nth r (n + 5) = 0 := by
  obtain ⟨C, h1, h2, _⟩ := okR_form hok
  refine ⟨C.length, h2, ?_, ?_⟩
  · rw [h1]; simp [nth]
  · rw [h1, ← List.append_assoc]
    unfold nth
    rw [List.getD_eq_getElem?_getD, List.getElem?_append_right (by simp [fixN_len])]
    simp [fixN_len]
theorem nth_setn {α : Type} [Inhabited α] (r : List α) (k i : Nat) (v : α) (h : i ≠ k) : nth (r.set k v) i = nth r i := by
  unfold nth
  rw [List.getD_eq_getElem?_getD, List.getD_eq_getElem?_getD, List.getElem?_set_ne (by omega)]
theorem set_torn {r : List UInt8} (hok : okR r = true) (k : Nat) (v : UInt8) : stR (r.set k v) = 2 := by
  obtain ⟨n, h1, h2, h3⟩ := okR_zeros hok
  apply stR_b
  cases ha : all255 (r.set k v) with
  | false => rfl
  | true =>
    exfalso
    have ha' := (all255_iff _).1 ha
    rw [List.length_set] at ha'
    by_cases hk : n = k
    · have := ha' (n + 5) (by omega)
      rw [nth_setn _ _ _ _ (by omega), h3] at this
      cases this
    · have := ha' n (by omega)
      rw [nth_setn _ _ _ _ hk, h2] at this
      cases this
theorem set_self {α : Type} [Inhabited α] (r : List α) (k : Nat) (hk : k < r.length) : r.set k (nth r k) = r := by
  rw [set_split r k _ hk, ← self_split r k hk]
end Go.Proofs.Ytljgdgkmkneloaa
