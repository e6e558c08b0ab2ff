/- Columns, beginnings, small letters of names; plain laws. -/
import Derived.Test.YtgdkeafdlehlaaaDoorL2
import Derived.Test.YtgdkeafdlehlaaaDoorCe
import Derived.Test.YtgdkeafdlehlaaaDoorDa
namespace Go.Proofs.YtgdkeafdlehlaaaDoor
open Go Go.RowKit
set_option linter.unusedVariables false
set_option linter.unusedSimpArgs false

def colR (r : Int) : Int := if wdR r = true then 2 else 1
def sumC (xs : List Int) : Int := (xs.map colR).sum
theorem colR_bd (r : Int) : 1 ≤ colR r ∧ colR r ≤ 2 := by
  unfold colR
  split <;> omega
theorem sumC_nil : sumC [] = 0 := rfl
theorem sumC_cons (x : Int) (xs : List Int) : sumC (x :: xs) = colR x + sumC xs := by
  unfold sumC
  rw [List.map_cons, List.sum_cons]
theorem sumC_app (xs ys : List Int) : sumC (xs ++ ys) = sumC xs + sumC ys := by
  unfold sumC
  rw [List.map_append, List.sum_append]
theorem sumC_one (x : Int) : sumC [x] = colR x := by rw [sumC_cons, sumC_nil, Int.add_zero]
theorem sumC_bd (xs : List Int) : (xs.length : Int) ≤ sumC xs ∧ sumC xs ≤ 2 * (xs.length : Int) := by
  induction xs with
  | nil => rw [sumC_nil]; simp
  | cons x xs ih =>
    rw [sumC_cons, List.length_cons]
    have := colR_bd x
    omega
def colL (l : List UInt8) : Int := if mayL l = true then sumC (rns l) else 0
/-- the longest beginning that has room, n columns being taken -/
def clipG (c : Int) : Int → List Int → List Int
  | _, [] => []
  | n, x :: xs => if c < n + colR x then [] else x :: clipG c (n + colR x) xs
def clipL (l : List UInt8) (c : Int) : List UInt8 := if mayL l = true then rb (clipG c 0 (rns l)) else []
def smallR (r : Int) : Int := if grt r = true then r + 32 else if r = 962 then 963 else r
def foldL (l : List UInt8) : List UInt8 := if mayL l = true then rb ((rns l).map smallR) else []
def sameL (a b : List UInt8) : Bool := mayL a && mayL b && decide (foldL a = foldL b)
theorem may_parts {l : List UInt8} (h : mayL l = true) : Lib.validD l = true ∧ 1 ≤ (rns l).length ∧ (rns l).length ≤ 12 ∧ nth (rns l) 0 ≠ 45 ∧ nth (rns l) ((rns l).length - 1) ≠ 45 ∧ (rns l).all goodR = true := by
  unfold mayL at h
  simp only [Bool.and_eq_true, decide_eq_true_eq] at h
  obtain ⟨⟨⟨⟨⟨a, b⟩, c⟩, d⟩, e⟩, f⟩ := h
  exact ⟨a, b, c, d, e, f⟩
theorem may_of {l : List UInt8} (h : Lib.validD l = true ∧ 1 ≤ (rns l).length ∧ (rns l).length ≤ 12 ∧ nth (rns l) 0 ≠ 45 ∧ nth (rns l) ((rns l).length - 1) ≠ 45 ∧ (rns l).all goodR = true) : mayL l = true := by
  unfold mayL
  simp only [Bool.and_eq_true, decide_eq_true_eq]
  exact ⟨⟨⟨⟨⟨h.1, h.2.1⟩, h.2.2.1⟩, h.2.2.2.1⟩, h.2.2.2.2.1⟩, h.2.2.2.2.2⟩
theorem may_12 {l : List UInt8} (h : mayL l = true) : (rns l).length ≤ 12 := (may_parts h).2.2.1
theorem good_bd {r : Int} (h : goodR r = true) : 45 ≤ r ∧ r ≤ 40959 := by
  unfold goodR at h
  rw [decide_eq_true_eq] at h
  omega
theorem good_sv {r : Int} (h : goodR r = true) : svR r := by
  have := good_bd h
  exact .inl (by omega)
theorem nth_mem {xs : List Int} {k : Nat} (h : k < xs.length) : nth xs k ∈ xs := by
  rw [nth_eq h]
  exact List.getElem_mem h
theorem good_nth {l : List UInt8} (h : mayL l = true) {k : Nat} (hk : k < (rns l).length) : goodR (nth (rns l) k) = true :=
  List.all_eq_true.1 (may_parts h).2.2.2.2.2 _ (nth_mem hk)
theorem grt_bd {r : Int} (h : grt r = true) : 65 ≤ r ∧ r ≤ 937 := by
  unfold grt at h
  rw [decide_eq_true_eq] at h
  omega
theorem clipG_split (c : Int) : ∀ (n : Int) (xs : List Int), ∃ ys, xs = clipG c n xs ++ ys
  | n, [] => ⟨[], rfl⟩
  | n, x :: xs => by
    unfold clipG
    split
    · exact ⟨x :: xs, rfl⟩
    · obtain ⟨ys, h⟩ := clipG_split c (n + colR x) xs
      exact ⟨ys, by rw [List.cons_append, ← h]⟩
/-- what a round of the clipping meets -/
theorem clipG_go {c n x : Int} {xs : List Int} (h : ¬ c < n + colR x) : clipG c n (x :: xs) = x :: clipG c (n + colR x) xs := by
  show (if c < n + colR x then [] else x :: clipG c (n + colR x) xs) = _
  rw [if_neg h]
theorem clipG_stop {c n x : Int} {xs : List Int} (h : c < n + colR x) : clipG c n (x :: xs) = [] := by
  show (if c < n + colR x then [] else x :: clipG c (n + colR x) xs) = _
  rw [if_pos h]
theorem drop_nth {xs : List Int} {k : Nat} (h : k < xs.length) : xs.drop k = nth xs k :: xs.drop (k + 1) := by
  rw [nth_eq h]
  exact List.drop_eq_getElem_cons h
/-- the first k small -/
def smK (xs : List Int) (k : Nat) : List Int := (xs.take k).map smallR ++ xs.drop k
theorem smK_len (xs : List Int) (k : Nat) : (smK xs k).length = xs.length := by
  unfold smK
  rw [List.length_append, List.length_map, List.length_take, List.length_drop]
  omega
theorem smK_zero (xs : List Int) : smK xs 0 = xs := rfl
theorem smK_all (xs : List Int) {k : Nat} (h : xs.length ≤ k) : smK xs k = xs.map smallR := by
  unfold smK
  rw [List.take_of_length_le h, List.drop_of_length_le h, List.append_nil]
theorem smK_at (xs : List Int) {k : Nat} (h : k < xs.length) : nth (smK xs k) k = nth xs k := by
  have hl : ((xs.take k).map smallR).length = k := by
    rw [List.length_map, List.length_take]
    omega
  rw [nth_eq (by rw [smK_len]; exact h), nth_eq h]
  unfold smK
  rw [List.getElem_append_right (by omega)]
  simp only [hl, Nat.sub_self, List.getElem_drop, Nat.add_zero]
theorem smK_set (xs : List Int) {k : Nat} (h : k < xs.length) : (smK xs k).set k (smallR (nth xs k)) = smK xs (k + 1) := by
  have hl : ((xs.take k).map smallR).length = k := by
    rw [List.length_map, List.length_take]
    omega
  unfold smK
  rw [List.set_append_right _ _ (by omega), hl, Nat.sub_self, drop_nth h, List.set_cons_zero, take_nth xs k h, List.map_append, List.append_assoc]
  rfl
end Go.Proofs.YtgdkeafdlehlaaaDoor
