/- Runes of a text, plain laws: a text is valid just if its runes are written qs0 it is. Nothing of the program stands here. -/
import Derived.Test.YtgdkeafdlehlaaaDoorCb
import Derived.Lib.MapLaws
import Derived.Lib.ValidLaws
namespace Go.Proofs.YtgdkeafdlehlaaaDoor
open Go Go.RowKit
set_option linter.unusedVariables false
set_option linter.unusedSimpArgs false
theorem enc_eq (r : Int) : (Utf8.encode r).data.toList = Lib.encodeRune r := by
  unfold Lib.encodeRune
  by_cases h1 : 0 ≤ r ∧ r ≤ 127
  · obtain ⟨k, rfl⟩ := Int.eq_ofNat_of_zero_le h1.1
    have hv : Utf8.valid (k : Int) = true := by unfold Utf8.valid; simp; omega
    rw [Lib.encodeRuneZ_one (by omega) (by omega)]
    unfold Utf8.encode
    simp only [hv, if_true, Int.toNat_natCast]
    rw [if_pos (by omega)]
    rfl
  by_cases h2 : 128 ≤ r ∧ r ≤ 2047
  · obtain ⟨k, rfl⟩ := Int.eq_ofNat_of_zero_le (show 0 ≤ r by omega)
    have hv : Utf8.valid (k : Int) = true := by unfold Utf8.valid; simp; omega
    rw [Lib.encodeRuneZ_two (by omega) (by omega)]
    unfold Utf8.encode
    simp only [hv, if_true, Int.toNat_natCast]
    rw [if_neg (by omega), if_pos (by omega)]
    have e1 : (192 + (k : Int) / 64).toNat = 192 + k / 64 := by omega
    have e2 : (128 + (k : Int) % 64).toNat = 128 + k % 64 := by omega
    simp only [List.map_cons, List.map_nil, e1, e2]
  by_cases h3 : (2048 ≤ r ∧ r < 55296) ∨ (57343 < r ∧ r ≤ 65535)
  · obtain ⟨k, rfl⟩ := Int.eq_ofNat_of_zero_le (show 0 ≤ r by omega)
    have hv : Utf8.valid (k : Int) = true := by unfold Utf8.valid; simp; omega
    rw [Lib.encodeRuneZ_three h3]
    unfold Utf8.encode
    simp only [hv, if_true, Int.toNat_natCast]
    rw [if_neg (by omega), if_neg (by omega), if_pos (by omega)]
    have e1 : (224 + (k : Int) / 4096).toNat = 224 + k / 4096 := by omega
    have e2 : (128 + (k : Int) / 64 % 64).toNat = 128 + k / 64 % 64 := by omega
    have e3 : (128 + (k : Int) % 64).toNat = 128 + k % 64 := by omega
    simp only [List.map_cons, List.map_nil, e1, e2, e3]
  by_cases h4 : 65536 ≤ r ∧ r ≤ 1114111
  · obtain ⟨k, rfl⟩ := Int.eq_ofNat_of_zero_le (show 0 ≤ r by omega)
    have hv : Utf8.valid (k : Int) = true := by unfold Utf8.valid; simp; omega
    rw [Lib.encodeRuneZ_four (by omega) (by omega)]
    unfold Utf8.encode
    simp only [hv, if_true, Int.toNat_natCast]
    rw [if_neg (by omega), if_neg (by omega), if_neg (by omega)]
    have e1 : (240 + (k : Int) / 262144).toNat = 240 + k / 262144 := by omega
    have e2 : (128 + (k : Int) / 4096 % 64).toNat = 128 + k / 4096 % 64 := by omega
    have e3 : (128 + (k : Int) / 64 % 64).toNat = 128 + k / 64 % 64 := by omega
    have e4 : (128 + (k : Int) % 64).toNat = 128 + k % 64 := by omega
    simp only [List.map_cons, List.map_nil, e1, e2, e3, e4]
  · have hv : Utf8.valid r = false := by
      unfold Utf8.valid
      simp
      omega
    rw [Lib.encodeRuneZ_bad (by omega)]
    unfold Utf8.encode
    simp only [hv, Bool.false_eq_true, if_false]
    rfl
/-- runes, by what is left of the text -/
def rnsG : Nat → List UInt8 → List Int
  | 0, _ => []
  | f + 1, l => if l = [] then [] else ((Lib.decodeL l).1 : Int) :: rnsG f (l.drop (Lib.decodeL l).2)
theorem rnsF_G (l : List UInt8) : ∀ (f i : Nat), rnsF (strOf l) f i = rnsG f (l.drop i)
  | 0, _ => rfl
  | f + 1, i => by
    unfold rnsF rnsG
    have hd : Lib.decodeL (l.drop i) = Utf8.decode (strOf l) i := by
      have := Lib.decodeL_drop (strOf l) i
      rwa [strOf_data] at this
    rw [strOf_size]
    by_cases h : i < l.length
    · rw [if_pos h, if_neg (by intro e; rw [List.drop_eq_nil_iff] at e; omega), rnsF_G l f, hd, List.drop_drop]
    · rw [if_neg h, if_pos (List.drop_eq_nil_iff.2 (by omega))]
theorem rnsG_nil : ∀ f, rnsG f [] = []
  | 0 => rfl
  | _ + 1 => by unfold rnsG; rw [if_pos rfl]
theorem rnsG_fuel : ∀ (n m : Nat) (l : List UInt8), l.length ≤ n → l.length ≤ m → rnsG n l = rnsG m l
  | 0, m, l, hn, _ => by
    have : l = [] := List.eq_nil_of_length_eq_zero (by omega)
    subst this
    rw [rnsG_nil, rnsG_nil]
  | n + 1, 0, l, _, hm => by
    have : l = [] := List.eq_nil_of_length_eq_zero (by omega)
    subst this
    rw [rnsG_nil, rnsG_nil]
  | n + 1, m + 1, l, hn, hm => by
    unfold rnsG
    by_cases h : l = []
    · rw [if_pos h, if_pos h]
    · have hw := Lib.decodeL_width l
      have hl : 0 < l.length := List.length_pos_iff.2 h
      rw [if_neg h, if_neg h, rnsG_fuel n m _ (by rw [List.length_drop]; omega) (by rw [List.length_drop]; omega)]
theorem rns_nil : rns [] = [] := rfl
theorem rns_step {l : List UInt8} (h : l ≠ []) : rns l = ((Lib.decodeL l).1 : Int) :: rns (l.drop (Lib.decodeL l).2) := by
  have hw := Lib.decodeL_width l
  have hl : 0 < l.length := List.length_pos_iff.2 h
  obtain ⟨n, hn⟩ : ∃ n, l.length = n + 1 := ⟨l.length - 1, by omega⟩
  unfold rns
  rw [rnsF_G, rnsF_G, List.drop_zero, List.drop_zero, hn]
  show (if l = [] then _ else _) = _
  rw [if_neg h, rnsG_fuel n _ _ (by rw [List.length_drop]; omega) (Nat.le_refl _)]
theorem foldl_enc : ∀ (xs : List Int) (s : ByteArray), (xs.foldl (fun r n => r ++ Utf8.encode n) s).data.toList = s.data.toList ++ (xs.map Lib.encodeRune).flatten
  | [], s => by simp
  | x :: xs, s => by
    rw [List.foldl_cons, foldl_enc xs]
    simp only [List.map_cons, List.flatten_cons, ByteArray.data_append, Array.toList_append, enc_eq, List.append_assoc]
theorem rb_eq (xs : List Int) : rb xs = (xs.map Lib.encodeRune).flatten := by
  unfold rb runesBytes
  rw [foldl_enc]
  rfl
theorem rb_nil : rb [] = [] := rfl
theorem rb_cons (x : Int) (xs : List Int) : rb (x :: xs) = Lib.encodeRune x ++ rb xs := by rw [rb_eq, rb_eq]; rfl
theorem rb_app (xs ys : List Int) : rb (xs ++ ys) = rb xs ++ rb ys := by rw [rb_eq, rb_eq, rb_eq, List.map_append, List.flatten_append]
theorem rb_rns_valid : ∀ (n : Nat) (l : List UInt8), l.length ≤ n → Lib.validD l = true → rb (rns l) = l
  | 0, l, hn, _ => by
    have : l = [] := List.eq_nil_of_length_eq_zero (by omega)
    subst this; rfl
  | n + 1, l, hn, hv => by
    by_cases h : l = []
    · subst h; rfl
    · have hw := Lib.decodeL_width l
      have hl : 0 < l.length := List.length_pos_iff.2 h
      rw [Lib.validD_step l h] at hv
      by_cases hb : (Lib.decodeL l).1 = 65533 ∧ (Lib.decodeL l).2 = 1
      · rw [if_pos hb] at hv; cases hv
      · rw [if_neg hb] at hv
        rw [rns_step h, rb_cons, Lib.encode_decode l h hb, rb_rns_valid n _ (by rw [List.length_drop]; omega) hv, List.take_append_drop]
theorem rb_rns_len : ∀ (n : Nat) (l : List UInt8), l.length ≤ n → l.length ≤ (rb (rns l)).length ∧ (Lib.validD l = false → l.length < (rb (rns l)).length)
  | 0, l, hn => by
    have : l = [] := List.eq_nil_of_length_eq_zero (by omega)
    subst this
    exact ⟨Nat.le_refl _, fun h => by cases h⟩
  | n + 1, l, hn => by
    by_cases h : l = []
    · subst h
      exact ⟨Nat.le_refl _, fun h => by cases h⟩
    · have hw := Lib.decodeL_width l
      have hl : 0 < l.length := List.length_pos_iff.2 h
      obtain ⟨i1, i2⟩ := rb_rns_len n (l.drop (Lib.decodeL l).2) (by rw [List.length_drop]; omega)
      rw [List.length_drop] at i1 i2
      rw [Lib.validD_step l h, rns_step h, rb_cons, List.length_append]
      by_cases hb : (Lib.decodeL l).1 = 65533 ∧ (Lib.decodeL l).2 = 1
      · have e : (Lib.encodeRune (((Lib.decodeL l).1 : Nat) : Int)).length = 3 := by rw [hb.1]; decide
        have e2 := hb.2
        rw [e]
        exact ⟨by omega, fun _ => by omega⟩
      · rw [if_neg hb, Lib.encode_decode l h hb, List.length_take]
        have := Lib.decodeL_le l h
        exact ⟨by omega, fun hv => by have := i2 hv; omega⟩
theorem valid_rb (l : List UInt8) : rb (rns l) = l ↔ Lib.validD l = true := by
  constructor
  · intro h
    cases hv : Lib.validD l with
    | true => rfl
    | false =>
      have := (rb_rns_len l.length l (Nat.le_refl _)).2 hv
      rw [h] at this; omega
  · exact rb_rns_valid l.length l (Nat.le_refl _)
end Go.Proofs.YtgdkeafdlehlaaaDoor
