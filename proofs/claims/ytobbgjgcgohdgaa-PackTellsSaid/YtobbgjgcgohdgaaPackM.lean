/- The plain law of numbers laid into bytes: as few bytes as there may be, seven bits each; or so many bytes, the highest first. Nothing of the program stands here. -/
namespace Go.Proofs.Ytobbgjgcgohdgaa
def b8 (n : Nat) : UInt8 := UInt8.ofNat n
theorem b8_toNat (n : Nat) : (b8 n).toNat = n % 256 := by simp [b8, UInt8.toNat_ofNat']
theorem b8_small {n : Nat} (h : n < 256) : (b8 n).toNat = n := by rw [b8_toNat]; omega
theorem u8_eq {a b : UInt8} (h : a.toNat = b.toNat) : a = b := UInt8.toNat.inj h

/-- a number as few bytes as there may be; f bounds how many more there are -/
def putF : Nat → Nat → List UInt8
  | 0, n => [b8 n]
  | f + 1, n => if n < 128 then [b8 n] else b8 (n % 128 + 128) :: putF f (n / 128)
def putN (n : Nat) : List UInt8 := putF 9 n
theorem putF_lt {f n : Nat} (h : n < 128) : putF f n = [b8 n] := by
  cases f with
  | zero => rfl
  | succ f => simp [putF, h]
theorem putF_ge {f n : Nat} (h : ¬ n < 128) : putF (f + 1) n = b8 (n % 128 + 128) :: putF f (n / 128) := by simp [putF, h]
theorem pow_step (f : Nat) : 2 ^ (7 * (f + 1) + 1) = 128 * 2 ^ (7 * f + 1) := by
  rw [show 7 * (f + 1) + 1 = 7 + (7 * f + 1) from by omega, Nat.pow_add]
theorem putF_len : ∀ (f n : Nat), 1 ≤ (putF f n).length ∧ (putF f n).length ≤ f + 1
  | 0, n => by simp [putF]
  | f + 1, n => by
    by_cases h : n < 128
    · rw [putF_lt h]; simp
    · rw [putF_ge h]
      have := putF_len f (n / 128)
      simp; omega
theorem putN_len (n : Nat) : 1 ≤ (putN n).length ∧ (putN n).length ≤ 10 := putF_len 9 n

/-- what reading comes to: the number that stands first, and what is behind it -/
def getL (i n : Nat) : List UInt8 → Option (Nat × List UInt8)
  | [] => none
  | x :: l => if 9 < i ∨ (i = 9 ∧ 1 < x.toNat % 128) then none
    else if x.toNat < 128 then (if x.toNat = 0 ∧ 0 < i then none else some (n + x.toNat % 128 * 2 ^ (7 * i), l))
    else getL (i + 1) (n + x.toNat % 128 * 2 ^ (7 * i)) l
def getN (l : List UInt8) : Option (Nat × List UInt8) := getL 0 0 l

theorem getL_put (r : List UInt8) : ∀ (f i n m : Nat), f + i = 9 → n < 2 ^ (7 * f + 1) → (0 < i → 0 < n) → getL i m (putF f n ++ r) = some (m + n * 2 ^ (7 * i), r)
  | 0, i, n, m, hi, hn, hp => by
    have hn2 : n < 2 := by simpa using hn
    have hb := b8_small (n := n) (by omega)
    simp only [putF, List.singleton_append, getL, hb]
    rw [if_neg (by omega), if_pos (by omega), if_neg (by omega)]
    rw [Nat.mod_eq_of_lt (by omega)]
  | f + 1, i, n, m, hi, hn, hp => by
    by_cases h : n < 128
    · have hb := b8_small (n := n) (by omega)
      rw [putF_lt h]
      simp only [List.singleton_append, getL, hb]
      rw [if_neg (by omega), if_pos (by omega), if_neg (by omega)]
      rw [Nat.mod_eq_of_lt (by omega)]
    · have hb := b8_small (n := n % 128 + 128) (by omega)
      rw [putF_ge h]
      simp only [List.cons_append, getL, hb]
      rw [if_neg (by omega), if_neg (by omega)]
      rw [pow_step] at hn
      rw [getL_put r f (i + 1) (n / 128) _ (by omega) (by omega) (by omega)]
      congr 2
      rw [show (n % 128 + 128) % 128 = n % 128 from by omega, show 7 * (i + 1) = 7 + 7 * i from by omega, Nat.pow_add, ← Nat.mul_assoc, Nat.add_assoc, ← Nat.add_mul]
      congr 2
      omega
theorem getN_put (n : Nat) (r : List UInt8) (h : n < 2 ^ 64) : getN (putN n ++ r) = some (n, r) := by
  have := getL_put r 9 0 n 0 rfl h (by omega)
  simpa [getN, putN] using this
theorem getL_inv : ∀ (l : List UInt8) (i m v : Nat) (r : List UInt8), i ≤ 9 → getL i m l = some (v, r) →
    ∃ n, v = m + n * 2 ^ (7 * i) ∧ n < 2 ^ (7 * (9 - i) + 1) ∧ (0 < i → 0 < n) ∧ l = putF (9 - i) n ++ r
  | [], i, m, v, r, hi, h => by simp [getL] at h
  | x :: l, i, m, v, r, hi, h => by
    have hx := x.toNat_lt
    unfold getL at h
    by_cases h1 : 9 < i ∨ (i = 9 ∧ 1 < x.toNat % 128)
    · rw [if_pos h1] at h; cases h
    · rw [if_neg h1] at h
      by_cases h2 : x.toNat < 128
      · rw [if_pos h2] at h
        by_cases h3 : x.toNat = 0 ∧ 0 < i
        · rw [if_pos h3] at h; cases h
        · rw [if_neg h3] at h
          injection h with h
          injection h with ha hb
          subst hb
          refine ⟨x.toNat, by rw [← ha, Nat.mod_eq_of_lt h2], ?_, by omega, ?_⟩
          · by_cases h9 : i = 9
            · subst h9; simp; omega
            · have : 2 ^ 8 ≤ 2 ^ (7 * (9 - i) + 1) := Nat.pow_le_pow_right (by decide) (by omega)
              omega
          · rw [putF_lt h2, List.singleton_append]
            congr 1
            exact u8_eq (by rw [b8_small (by omega)])
      · rw [if_neg h2] at h
        by_cases h9 : i = 9
        · subst h9
          cases l with
          | nil => simp [getL] at h
          | cons y l => simp [getL] at h
        · obtain ⟨n, hv, hn, hp, rfl⟩ := getL_inv l (i + 1) _ v r (by omega) h
          refine ⟨x.toNat % 128 + 128 * n, ?_, ?_, by omega, ?_⟩
          · rw [hv, show 7 * (i + 1) = 7 + 7 * i from by omega, Nat.pow_add, ← Nat.mul_assoc, Nat.add_assoc, ← Nat.add_mul]
            congr 2
            omega
          · rw [show 9 - i = (9 - (i + 1)) + 1 from by omega, pow_step]
            omega
          · have hn0 := hp (by omega)
            rw [show 9 - i = (9 - (i + 1)) + 1 from by omega, putF_ge (by omega), List.cons_append]
            congr 1
            · exact u8_eq (by rw [b8_small (by omega)]; omega)
            · congr 2
              omega
theorem getN_iff (l : List UInt8) (n : Nat) (r : List UInt8) : getN l = some (n, r) ↔ n < 2 ^ 64 ∧ l = putN n ++ r := by
  constructor
  · intro h
    obtain ⟨k, hv, hn, _, hl⟩ := getL_inv l 0 0 n r (by omega) h
    have : n = k := by simpa using hv
    subst this
    exact ⟨by simpa using hn, hl⟩
  · rintro ⟨h, rfl⟩
    exact getN_put n r h
theorem putN_inj {m n : Nat} {r s : List UInt8} (hm : m < 2 ^ 64) (hn : n < 2 ^ 64) (h : putN m ++ r = putN n ++ s) : m = n ∧ r = s := by
  have := getN_put m r hm
  rw [h, getN_put n s hn] at this
  injection this with this
  injection this with h1 h2
  exact ⟨h1.symm, h2.symm⟩
/-- a byte less is none -/
theorem getL_less (r : List UInt8) : ∀ (f i n m : Nat), f + i = 9 → n < 2 ^ (7 * f + 1) → getL i m ((putF f n).take ((putF f n).length - 1)) = none
  | 0, i, n, m, _, _ => by simp [putF, getL]
  | f + 1, i, n, m, hi, hn => by
    by_cases h : n < 128
    · rw [putF_lt h]; simp [getL]
    · rw [putF_ge h]
      have hl := (putF_len f (n / 128)).1
      have hb := b8_small (n := n % 128 + 128) (by omega)
      rw [List.length_cons, show (putF f (n / 128)).length + 1 - 1 = ((putF f (n / 128)).length - 1) + 1 from by omega, List.take_succ_cons]
      simp only [getL, hb]
      rw [if_neg (by omega), if_neg (by omega)]
      rw [pow_step] at hn
      exact getL_less r f (i + 1) (n / 128) _ (by omega) (by omega)
theorem getN_less (n : Nat) (h : n < 2 ^ 64) : getN ((putN n).take ((putN n).length - 1)) = none := getL_less [] 9 0 n 0 rfl h
/-- a last byte of nothing is none -/
theorem getL_long : ∀ (f i n m : Nat), f + i = 9 → n < 2 ^ (7 * f + 1) → ∀ x, (putF f n).getLast? = some x → getL i m ((putF f n).take ((putF f n).length - 1) ++ [x ||| 128, 0]) = none
  | 0, i, n, m, hi, hn, x, hx => by
    have hi9 : i = 9 := by omega
    subst hi9
    simp only [putF, List.length_singleton, Nat.sub_self, List.take_zero, List.nil_append, getL]
    split
    · rfl
    · split
      · rename_i h1 h2
        exfalso
        have : ((x ||| 128) : UInt8).toNat < 128 := h2
        rw [UInt8.toNat_or] at this
        have h3 : (128 : UInt8).toNat ≤ x.toNat ||| (128 : UInt8).toNat := Nat.right_le_or
        simp at h3 this
        omega
      · simp
  | f + 1, i, n, m, hi, hn, x, hx => by
    have h128 : ∀ y : UInt8, 128 ≤ ((y ||| 128) : UInt8).toNat := by
      intro y
      rw [UInt8.toNat_or]
      exact Nat.right_le_or
    by_cases h : n < 128
    · rw [putF_lt h]
      have := h128 x
      simp only [List.length_singleton, Nat.sub_self, List.take_zero, List.nil_append, getL]
      rw [if_neg (by omega), if_neg (by omega)]
      split
      · rfl
      · simp
    · rw [putF_ge h] at hx ⊢
      have hl := (putF_len f (n / 128)).1
      have hb := b8_small (n := n % 128 + 128) (by omega)
      rw [List.length_cons, show (putF f (n / 128)).length + 1 - 1 = ((putF f (n / 128)).length - 1) + 1 from by omega, List.take_succ_cons, List.cons_append]
      simp only [getL, hb]
      rw [if_neg (by omega), if_neg (by omega)]
      rw [pow_step] at hn
      refine getL_long f (i + 1) (n / 128) _ (by omega) (by omega) x ?_
      rw [← hx]
      cases hp : putF f (n / 128) with
      | nil => rw [hp] at hl; simp at hl
      | cons y l => rw [List.getLast?_cons_cons]
theorem getN_long (n : Nat) (h : n < 2 ^ 64) (x : UInt8) (hx : (putN n).getLast? = some x) : getN ((putN n).take ((putN n).length - 1) ++ [x ||| 128, 0]) = none := getL_long 9 0 n 0 rfl h x hx
/-- greater numbers are never shorter -/
theorem putF_mono : ∀ (f m n : Nat), m ≤ n → (putF f m).length ≤ (putF f n).length
  | 0, m, n, _ => by simp [putF]
  | f + 1, m, n, h => by
    by_cases hm : m < 128
    · rw [putF_lt hm]
      exact (putF_len (f + 1) n).1
    · rw [putF_ge hm, putF_ge (by omega)]
      have := putF_mono f (m / 128) (n / 128) (Nat.div_le_div_right h)
      simpa using this
theorem putN_mono {m n : Nat} (h : m ≤ n) : (putN m).length ≤ (putN n).length := putF_mono 9 m n h
/-- how many bytes a number of so many bits takes -/
theorem putF_bits : ∀ (f k n : Nat), k ≤ f → 2 ^ (7 * k) ≤ n → n < 2 ^ (7 * (k + 1)) → (putF f n).length = k + 1
  | f, 0, n, _, _, h2 => by
    rw [putF_lt (by simpa using h2)]; rfl
  | 0, k + 1, n, h, _, _ => by omega
  | f + 1, k + 1, n, h, h1, h2 => by
    have e1 : 2 ^ (7 * (k + 1)) = 128 * 2 ^ (7 * k) := by rw [show 7 * (k + 1) = 7 + 7 * k from by omega, Nat.pow_add]
    have e2 : 2 ^ (7 * (k + 1 + 1)) = 128 * 2 ^ (7 * (k + 1)) := by rw [show 7 * (k + 1 + 1) = 7 + 7 * (k + 1) from by omega, Nat.pow_add]
    have hp : 0 < 2 ^ (7 * k) := Nat.two_pow_pos _
    rw [putF_ge (by omega)]
    have := putF_bits f k (n / 128) (by omega) (by omega) (by omega)
    simp [this]
theorem putN_low (b : Nat) (h : b < 64) : (putN (2 ^ b)).length = b / 7 + 1 :=
  putF_bits 9 (b / 7) (2 ^ b) (by omega) (Nat.pow_le_pow_right (by decide) (by omega)) (Nat.pow_lt_pow_right (by decide) (by omega))
theorem putN_high (b : Nat) (h : b < 64) : (putN (2 ^ b - 1)).length = ((if b = 0 then 1 else b) + 6) / 7 := by
  by_cases h0 : b = 0
  · subst h0; rfl
  · rw [if_neg h0]
    have h1 : 2 ^ (7 * ((b - 1) / 7)) ≤ 2 ^ b - 1 := by
      have : 2 ^ (7 * ((b - 1) / 7)) < 2 ^ b := Nat.pow_lt_pow_right (by decide) (by omega)
      omega
    have h2 : 2 ^ b - 1 < 2 ^ (7 * ((b - 1) / 7 + 1)) := by
      have : 2 ^ b ≤ 2 ^ (7 * ((b - 1) / 7 + 1)) := Nat.pow_le_pow_right (by decide) (by omega)
      have := Nat.two_pow_pos b
      omega
    have := putF_bits 9 ((b - 1) / 7) (2 ^ b - 1) (by omega) h1 h2
    unfold putN
    omega

/-- the lowest k bytes of a number, the highest first -/
def fixN : Nat → Nat → List UInt8
  | 0, _ => []
  | k + 1, n => b8 (n / 256 ^ k) :: fixN k n
theorem fixN_len : ∀ k n, (fixN k n).length = k
  | 0, _ => rfl
  | k + 1, n => by simp [fixN, fixN_len k n]
/-- what bytes are read as -/
def unfN (n : Nat) (l : List UInt8) : Nat := l.foldl (fun n x => n * 256 + x.toNat) n
theorem unfN_snoc (n : Nat) (l : List UInt8) (x : UInt8) : unfN n (l ++ [x]) = unfN n l * 256 + x.toNat := by simp [unfN]
theorem unfN_lt : ∀ (l : List UInt8) (n k : Nat), n < 256 ^ k → unfN n l < 256 ^ (k + l.length)
  | [], n, k, h => by simpa [unfN] using h
  | x :: l, n, k, h => by
    have hx := x.toNat_lt
    have h1 : n * 256 + x.toNat < 256 ^ (k + 1) := by
      rw [Nat.pow_succ]; omega
    have := unfN_lt l (n * 256 + x.toNat) (k + 1) h1
    simp only [unfN, List.foldl_cons, List.length_cons] at this ⊢
    rwa [show k + (l.length + 1) = k + 1 + l.length from by omega]
theorem unf_fix : ∀ (k n m : Nat), unfN m (fixN k n) = m * 256 ^ k + n % 256 ^ k
  | 0, n, m => by simp [fixN, unfN, Nat.mod_one]
  | k + 1, n, m => by
    have ih := unf_fix k n (m * 256 + (b8 (n / 256 ^ k)).toNat)
    simp only [fixN, unfN, List.foldl_cons] at ih ⊢
    rw [ih, b8_toNat, Nat.pow_succ, Nat.mod_mul, Nat.add_mul]
    have : m * 256 * 256 ^ k = m * (256 ^ k * 256) := by rw [Nat.mul_assoc, Nat.mul_comm 256]
    rw [this, Nat.mul_comm (n / 256 ^ k % 256)]
    omega
theorem fix_inj {k a b : Nat} (h : fixN k a = fixN k b) : a % 256 ^ k = b % 256 ^ k := by
  have h1 := unf_fix k a 0
  have h2 := unf_fix k b 0
  rw [h, h2] at h1
  omega
/-- numbers stand in the order of their bytes -/
theorem fix_order : ∀ (k a b j : Nat), j < k → (∀ i, i < j → (fixN k a)[i]? = (fixN k b)[i]?) → ∀ x y, (fixN k a)[j]? = some x → (fixN k b)[j]? = some y → x ≠ y → (x < y ↔ a % 256 ^ k < b % 256 ^ k)
  | 0, a, b, j, hj, _, x, y, _, _, _ => by omega
  | k + 1, a, b, 0, hj, _, x, y, hx, hy, hxy => by
    simp only [fixN, List.getElem?_cons_zero, Option.some.injEq] at hx hy
    subst hx hy
    rw [UInt8.lt_iff_toNat_lt, b8_toNat, b8_toNat, Nat.pow_succ, Nat.mod_mul, Nat.mod_mul]
    have hne : a / 256 ^ k % 256 ≠ b / 256 ^ k % 256 := fun e => hxy (u8_eq (by rw [b8_toNat, b8_toNat, e]))
    have ha : a % 256 ^ k < 256 ^ k := Nat.mod_lt _ (Nat.pow_pos (by decide))
    have hb : b % 256 ^ k < 256 ^ k := Nat.mod_lt _ (Nat.pow_pos (by decide))
    generalize 256 ^ k = p at *
    generalize a / p % 256 = u at *
    generalize b / p % 256 = v at *
    constructor
    · intro h
      have : p * (u + 1) ≤ p * v := Nat.mul_le_mul_left p h
      rw [Nat.mul_add, Nat.mul_one] at this
      omega
    · intro h
      by_cases hl : u < v
      · exact hl
      · exfalso
        have : p * (v + 1) ≤ p * u := Nat.mul_le_mul_left p (by omega)
        rw [Nat.mul_add, Nat.mul_one] at this
        omega
  | k + 1, a, b, j + 1, hj, hpre, x, y, hx, hy, hxy => by
    have h0 := hpre 0 (by omega)
    simp only [fixN, List.getElem?_cons_zero, Option.some.injEq] at h0
    have h1 := congrArg UInt8.toNat h0
    rw [b8_toNat, b8_toNat] at h1
    have ih := fix_order k a b j (by omega) (fun i hi => by simpa [fixN] using hpre (i + 1) (by omega)) x y (by simpa [fixN] using hx) (by simpa [fixN] using hy) hxy
    rw [ih, Nat.pow_succ, Nat.mod_mul, Nat.mod_mul, h1]
    omega
end Go.Proofs.Ytobbgjgcgohdgaa
