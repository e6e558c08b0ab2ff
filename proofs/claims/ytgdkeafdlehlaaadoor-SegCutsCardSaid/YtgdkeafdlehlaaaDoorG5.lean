/- Words of our own for walks over abstract values, laid together. Nothing of the program stands here. -/
import Derived.Test.YtgdkeafdlehlaaaDoorG4
import Derived.Laws.BitsLemmas
import Derived.Test.YtgdkeafdlehlaaaDoorG1
import Derived.Laws.BitsAllLaws
import Derived.Laws.BytesArg
import Derived.Lib.Strings
/- The plain law of the sum: a register of 32 bits, bytes pushed through it. Nothing of the program stands here. -/
namespace Go.Proofs.YtgdkeafdlehlaaaDoor
abbrev R := BitVec 32
def poly : R := 0x82F63B78#32
def bit (s : R) : R := if s &&& 1#32 = 1#32 then (s >>> 1) ^^^ poly else s >>> 1
def bit8 (s : R) : R := bit (bit (bit (bit (bit (bit (bit (bit s)))))))
def bitN : Nat → R → R
  | 0, s => s
  | n+1, s => bit (bitN n s)
theorem bitN8 (s : R) : bitN 8 s = bit8 s := rfl
def stp (r : R) (b : UInt8) : R := bit8 (r ^^^ b.toBitVec.zeroExtend 32)
def crc (r : R) (l : List UInt8) : R := l.foldl stp r
theorem crc_nil (r : R) : crc r [] = r := rfl
theorem crc_cons (r : R) (b : UInt8) (l : List UInt8) : crc r (b :: l) = crc (stp r b) l := rfl
theorem crc_append (r : R) (l m : List UInt8) : crc r (l ++ m) = crc (crc r l) m := by simp [crc, List.foldl_append]
theorem crc_snoc (r : R) (l : List UInt8) (b : UInt8) : crc r (l ++ [b]) = stp (crc r l) b := by rw [crc_append]; rfl

theorem bit_xor (a b : R) : bit (a ^^^ b) = bit a ^^^ bit b := by
  unfold bit
  have h : ∀ x : R, x &&& 1#32 = 1#32 ↔ x.getLsbD 0 = true := by
    intro x
    constructor
    · intro e
      have := congrArg (fun y : R => y.getLsbD 0) e
      simpa using this
    · intro e
      apply BitVec.eq_of_getLsbD_eq
      intro i hi
      by_cases h0 : i = 0
      · subst h0; simpa using e
      · simp [BitVec.getLsbD_one, h0]
  simp only [h, BitVec.getLsbD_xor]
  cases a.getLsbD 0 <;> cases b.getLsbD 0 <;> simp [BitVec.ushiftRight_xor_distrib]
  · ac_rfl
  · ac_rfl
  · have : a >>> 1 ^^^ poly ^^^ (b >>> 1 ^^^ poly) = a >>> 1 ^^^ b >>> 1 ^^^ (poly ^^^ poly) := by ac_rfl
    rw [this]; simp
theorem bit_zero : bit 0#32 = 0#32 := by decide
theorem bit_inj0 {d : R} (h : bit d = 0#32) : d = 0#32 := by
  unfold bit at h
  split at h
  · exfalso
    have e : d >>> 1 = poly := by
      have := congrArg (· ^^^ poly) h
      simpa [BitVec.xor_assoc] using this
    have := congrArg BitVec.toNat e
    have hd := d.isLt
    simp [poly, Nat.shiftRight_eq_div_pow] at this
    omega
  · rename_i hb
    apply BitVec.eq_of_toNat_eq
    have h1 := congrArg BitVec.toNat h
    simp [Nat.shiftRight_eq_div_pow] at h1
    have hb' : ¬ (d.toNat % 2 = 1) := by
      intro e; apply hb
      apply BitVec.eq_of_toNat_eq
      simp [Nat.and_one_is_mod, e]
    simp; omega
theorem bit8_xor (a b : R) : bit8 (a ^^^ b) = bit8 a ^^^ bit8 b := by simp [bit8, bit_xor]
theorem bit8_zero : bit8 0#32 = 0#32 := by decide
theorem bit8_inj0 {d : R} (h : bit8 d = 0#32) : d = 0#32 :=
  bit_inj0 (bit_inj0 (bit_inj0 (bit_inj0 (bit_inj0 (bit_inj0 (bit_inj0 (bit_inj0 h)))))))
theorem xor_eq_zero {a b : R} : a ^^^ b = 0#32 ↔ a = b := by
  constructor
  · intro h
    have := congrArg (· ^^^ b) h
    simpa [BitVec.xor_assoc] using this
  · rintro rfl; simp
theorem stp_xor (a b : R) (x y : UInt8) : stp (a ^^^ b) (x ^^^ y) = stp a x ^^^ stp b y := by
  unfold stp
  rw [← bit8_xor]
  congr 1
  have : (x ^^^ y).toBitVec.zeroExtend 32 = x.toBitVec.zeroExtend 32 ^^^ y.toBitVec.zeroExtend 32 := by
    simp [BitVec.setWidth_xor]
  rw [this]; ac_rfl
theorem stp_inj {a b : R} {x : UInt8} (h : stp a x = stp b x) : a = b := by
  have h1 := xor_eq_zero.2 h
  rw [← stp_xor] at h1
  have : x ^^^ x = 0 := by simp
  rw [this] at h1
  unfold stp at h1
  have h2 := bit8_inj0 h1
  have : (0 : UInt8).toBitVec.zeroExtend 32 = 0#32 := by decide
  rw [this] at h2
  exact xor_eq_zero.1 (by simpa using h2)
theorem crc_inj {a b : R} (l : List UInt8) : crc a l = crc b l ↔ a = b := by
  induction l generalizing a b with
  | nil => exact Iff.rfl
  | cons x l ih => rw [crc_cons, crc_cons, ih]; exact ⟨stp_inj, fun h => by rw [h]⟩
theorem crc_xor : ∀ (l m : List UInt8) (a b : R), l.length = m.length → crc (a ^^^ b) (List.zipWith (· ^^^ ·) l m) = crc a l ^^^ crc b m
  | [], [], a, b, _ => rfl
  | x :: l, y :: m, a, b, h => by
    simp only [List.zipWith_cons_cons, crc_cons]
    rw [stp_xor]
    exact crc_xor l m _ _ (by simpa using h)
theorem two_bytes (x y : UInt8) (h : stp (stp 0#32 x) y = 0#32) : x = 0 ∧ y = 0 := by
  have hx : x = 0 := by
    unfold stp at h
    have h2 := xor_eq_zero.1 (bit8_inj0 h)
    have h0 : ∀ z : BitVec 8, bit8 (0#32 ^^^ z.zeroExtend 32) >>> 8 = 0#32 → z = 0#8 := by decide +kernel
    have := h0 x.toBitVec (by
      rw [h2]
      apply BitVec.eq_of_toNat_eq
      simp [Nat.shiftRight_eq_div_pow]
      have := y.toNat_lt
      omega)
    exact UInt8.toBitVec_inj.1 this
  subst hx
  refine ⟨rfl, ?_⟩
  have e : stp 0#32 0 = 0#32 := by decide
  rw [e] at h
  have h2 := bit8_inj0 (d := 0#32 ^^^ y.toBitVec.zeroExtend 32) h
  have h3 := congrArg BitVec.toNat h2
  apply UInt8.toBitVec_inj.1
  apply BitVec.eq_of_toNat_eq
  simp at h3 ⊢
  have := y.toBitVec.isLt
  omega
/-- all bits turned -/
def rnot (s : R) : R := ~~~ s
/-- the sum that the program tells -/
def sumOf (l : List UInt8) : R := rnot (crc (rnot 0#32) l)
def more (s : R) (l : List UInt8) : R := rnot (crc (rnot s) l)
theorem more_zero (l : List UInt8) : more 0#32 l = sumOf l := rfl
theorem more_append (s : R) (l m : List UInt8) : more s (l ++ m) = more (more s l) m := by simp [more, rnot, crc_append]
theorem more_nil (s : R) : more s [] = s := by simp [more, rnot, crc]
theorem more_inj {s t : R} (l : List UInt8) : more s l = more t l ↔ s = t := by
  unfold more rnot
  constructor
  · intro h
    have := congrArg (~~~ ·) h
    simp only [BitVec.not_not] at this
    have := (crc_inj l).1 this
    have := congrArg (~~~ ·) this
    simpa only [BitVec.not_not] using this
  · rintro rfl; rfl
theorem sum_adds (a b c : List UInt8) (h1 : a.length = b.length) (h2 : b.length = c.length) :
    sumOf (List.zipWith (· ^^^ ·) (List.zipWith (· ^^^ ·) a b) c) = sumOf a ^^^ sumOf b ^^^ sumOf c := by
  unfold sumOf rnot
  have e : (~~~ 0#32 : R) = (~~~ 0#32 ^^^ ~~~ 0#32) ^^^ ~~~ 0#32 := by decide
  rw [show crc (~~~ 0#32) (List.zipWith (· ^^^ ·) (List.zipWith (· ^^^ ·) a b) c) = crc (~~~ 0#32) a ^^^ crc (~~~ 0#32) b ^^^ crc (~~~ 0#32) c from by
    rw [← crc_xor a b _ _ h1, ← crc_xor _ c _ _ (by simp; omega)]
    rw [← e]]
  generalize crc (~~~ 0#32) a = x; generalize crc (~~~ 0#32) b = y; generalize crc (~~~ 0#32) c = z
  have hn : ∀ x : R, ~~~ x = x ^^^ BitVec.allOnes 32 := by intro x; exact (BitVec.xor_allOnes (x := x)).symm
  simp only [hn]
  have : x ^^^ BitVec.allOnes 32 ^^^ (y ^^^ BitVec.allOnes 32) ^^^ (z ^^^ BitVec.allOnes 32) = x ^^^ y ^^^ z ^^^ BitVec.allOnes 32 ^^^ (BitVec.allOnes 32 ^^^ BitVec.allOnes 32) := by ac_rfl
  rw [this]; simp
theorem sum_finds (p q : List UInt8) (x y by_ too : UInt8) (h : ¬ (by_ = 0 ∧ too = 0)) :
    sumOf (p ++ (x ^^^ by_) :: (y ^^^ too) :: q) ≠ sumOf (p ++ x :: y :: q) := by
  intro e
  unfold sumOf rnot at e
  have e1 := congrArg (~~~ ·) e
  simp only [BitVec.not_not] at e1
  rw [crc_append, crc_append] at e1
  simp only [crc_cons] at e1
  have e2 := (crc_inj q).1 e1
  generalize crc (~~~ 0#32) p = r at e2
  have e3 := xor_eq_zero.2 e2
  rw [← stp_xor, ← stp_xor] at e3
  have c1 : ∀ a b : UInt8, a ^^^ b ^^^ a = b := by intro a b; rw [UInt8.xor_comm a b, UInt8.xor_assoc]; simp
  rw [c1, c1] at e3
  simp only [BitVec.xor_self] at e3
  exact h (two_bytes _ _ e3)
end Go.Proofs.YtgdkeafdlehlaaaDoor

/- The plain law of numbers laid into bytes: qs0 few bytes qs0 there may be, seven bits each; or so many bytes, the highest first. Nothing of the program stands here. -/
namespace Go.Proofs.YtgdkeafdlehlaaaDoor
def b8 (n : Nat) : UInt8 := UInt8.ofNat n
theorem b8_toNat (n : Nat) : (b8 n).toNat = n % 256 := by simp [b8, UInt8.toNat_ofNat']
theorem b8_small {n : Nat} (h : n < 256) : (b8 n).toNat = n := by rw [b8_toNat]; omega
theorem u8_eq {a b : UInt8} (h : a.toNat = b.toNat) : a = b := UInt8.toNat.inj h

/-- a number qs0 few bytes qs0 there may be; f bounds how many more there are -/
def putF : Nat → Nat → List UInt8
  | 0, n => [b8 n]
  | f + 1, n => if n < 128 then [b8 n] else b8 (n % 128 + 128) :: putF f (n / 128)
def putN (n : Nat) : List UInt8 := putF 9 n
theorem putF_lt {f n : Nat} (h : n < 128) : putF f n = [b8 n] := by
  cases f with
  | zero => rfl
  | succ f => simp [putF, h]
theorem putF_ge {f n : Nat} (h : ¬ n < 128) : putF (f + 1) n = b8 (n % 128 + 128) :: putF f (n / 128) := by simp [putF, h]
theorem pow_step (f : Nat) : 2 ^ (7 * (f + 1) + 1) = 128 * 2 ^ (7 * f + 1) := by
  rw [show 7 * (f + 1) + 1 = 7 + (7 * f + 1) from by omega, Nat.pow_add]
theorem putF_len : ∀ (f n : Nat), 1 ≤ (putF f n).length ∧ (putF f n).length ≤ f + 1
  | 0, n => by simp [putF]
  | f + 1, n => by
    by_cases h : n < 128
    · rw [putF_lt h]; simp
    · rw [putF_ge h]
      have := putF_len f (n / 128)
      simp; omega
theorem putN_len (n : Nat) : 1 ≤ (putN n).length ∧ (putN n).length ≤ 10 := putF_len 9 n

/-- what reading comes to: the number that stands first, and what is behind it -/
def getL (i n : Nat) : List UInt8 → Option (Nat × List UInt8)
  | [] => none
  | x :: l => if 9 < i ∨ (i = 9 ∧ 1 < x.toNat % 128) then none
    else if x.toNat < 128 then (if x.toNat = 0 ∧ 0 < i then none else some (n + x.toNat % 128 * 2 ^ (7 * i), l))
    else getL (i + 1) (n + x.toNat % 128 * 2 ^ (7 * i)) l
def getN (l : List UInt8) : Option (Nat × List UInt8) := getL 0 0 l

theorem getL_put (r : List UInt8) : ∀ (f i n m : Nat), f + i = 9 → n < 2 ^ (7 * f + 1) → (0 < i → 0 < n) → getL i m (putF f n ++ r) = some (m + n * 2 ^ (7 * i), r)
  | 0, i, n, m, hi, hn, hp => by
    have hn2 : n < 2 := by simpa using hn
    have hb := b8_small (n := n) (by omega)
    simp only [putF, List.singleton_append, getL, hb]
    rw [if_neg (by omega), if_pos (by omega), if_neg (by omega)]
    rw [Nat.mod_eq_of_lt (by omega)]
  | f + 1, i, n, m, hi, hn, hp => by
    by_cases h : n < 128
    · have hb := b8_small (n := n) (by omega)
      rw [putF_lt h]
      simp only [List.singleton_append, getL, hb]
      rw [if_neg (by omega), if_pos (by omega), if_neg (by omega)]
      rw [Nat.mod_eq_of_lt (by omega)]
    · have hb := b8_small (n := n % 128 + 128) (by omega)
      rw [putF_ge h]
      simp only [List.cons_append, getL, hb]
      rw [if_neg (by omega), if_neg (by omega)]
      rw [pow_step] at hn
      rw [getL_put r f (i + 1) (n / 128) _ (by omega) (by omega) (by omega)]
      congr 2
      rw [show (n % 128 + 128) % 128 = n % 128 from by omega, show 7 * (i + 1) = 7 + 7 * i from by omega, Nat.pow_add, ← Nat.mul_assoc, Nat.add_assoc, ← Nat.add_mul]
      congr 2
      omega
theorem getN_put (n : Nat) (r : List UInt8) (h : n < 2 ^ 64) : getN (putN n ++ r) = some (n, r) := by
  have := getL_put r 9 0 n 0 rfl h (by omega)
  simpa [getN, putN] using this
theorem getL_inv : ∀ (l : List UInt8) (i m v : Nat) (r : List UInt8), i ≤ 9 → getL i m l = some (v, r) →
    ∃ n, v = m + n * 2 ^ (7 * i) ∧ n < 2 ^ (7 * (9 - i) + 1) ∧ (0 < i → 0 < n) ∧ l = putF (9 - i) n ++ r
  | [], i, m, v, r, hi, h => by simp [getL] at h
  | x :: l, i, m, v, r, hi, h => by
    have hx := x.toNat_lt
    unfold getL at h
    by_cases h1 : 9 < i ∨ (i = 9 ∧ 1 < x.toNat % 128)
    · rw [if_pos h1] at h; cases h
    · rw [if_neg h1] at h
      by_cases h2 : x.toNat < 128
      · rw [if_pos h2] at h
        by_cases h3 : x.toNat = 0 ∧ 0 < i
        · rw [if_pos h3] at h; cases h
        · rw [if_neg h3] at h
          injection h with h
          injection h with ha hb
          subst hb
          refine ⟨x.toNat, by rw [← ha, Nat.mod_eq_of_lt h2], ?_, by omega, ?_⟩
          · by_cases h9 : i = 9
            · subst h9; simp; omega
            · have : 2 ^ 8 ≤ 2 ^ (7 * (9 - i) + 1) := Nat.pow_le_pow_right (by decide) (by omega)
              omega
          · rw [putF_lt h2, List.singleton_append]
            congr 1
            exact u8_eq (by rw [b8_small (by omega)])
      · rw [if_neg h2] at h
        by_cases h9 : i = 9
        · subst h9
          cases l with
          | nil => simp [getL] at h
          | cons y l => simp [getL] at h
        · obtain ⟨n, hv, hn, hp, rfl⟩ := getL_inv l (i + 1) _ v r (by omega) h
          refine ⟨x.toNat % 128 + 128 * n, ?_, ?_, by omega, ?_⟩
          · rw [hv, show 7 * (i + 1) = 7 + 7 * i from by omega, Nat.pow_add, ← Nat.mul_assoc, Nat.add_assoc, ← Nat.add_mul]
            congr 2
            omega
          · rw [show 9 - i = (9 - (i + 1)) + 1 from by omega, pow_step]
            omega
          · have hn0 := hp (by omega)
            rw [show 9 - i = (9 - (i + 1)) + 1 from by omega, putF_ge (by omega), List.cons_append]
            congr 1
            · exact u8_eq (by rw [b8_small (by omega)]; omega)
            · congr 2
              omega
theorem getN_iff (l : List UInt8) (n : Nat) (r : List UInt8) : getN l = some (n, r) ↔ n < 2 ^ 64 ∧ l = putN n ++ r := by
  constructor
  · intro h
    obtain ⟨k, hv, hn, _, hl⟩ := getL_inv l 0 0 n r (by omega) h
    have : n = k := by simpa using hv
    subst this
    exact ⟨by simpa using hn, hl⟩
  · rintro ⟨h, rfl⟩
    exact getN_put n r h
theorem putN_inj {m n : Nat} {r s : List UInt8} (hm : m < 2 ^ 64) (hn : n < 2 ^ 64) (h : putN m ++ r = putN n ++ s) : m = n ∧ r = s := by
  have := getN_put m r hm
  rw [h, getN_put n s hn] at this
  injection this with this
  injection this with h1 h2
  exact ⟨h1.symm, h2.symm⟩
/-- a byte less is none -/
theorem getL_less (r : List UInt8) : ∀ (f i n m : Nat), f + i = 9 → n < 2 ^ (7 * f + 1) → getL i m ((putF f n).take ((putF f n).length - 1)) = none
  | 0, i, n, m, _, _ => by simp [putF, getL]
  | f + 1, i, n, m, hi, hn => by
    by_cases h : n < 128
    · rw [putF_lt h]; simp [getL]
    · rw [putF_ge h]
      have hl := (putF_len f (n / 128)).1
      have hb := b8_small (n := n % 128 + 128) (by omega)
      rw [List.length_cons, show (putF f (n / 128)).length + 1 - 1 = ((putF f (n / 128)).length - 1) + 1 from by omega, List.take_succ_cons]
      simp only [getL, hb]
      rw [if_neg (by omega), if_neg (by omega)]
      rw [pow_step] at hn
      exact getL_less r f (i + 1) (n / 128) _ (by omega) (by omega)
theorem getN_less (n : Nat) (h : n < 2 ^ 64) : getN ((putN n).take ((putN n).length - 1)) = none := getL_less [] 9 0 n 0 rfl h
/-- a last byte of nothing is none -/
theorem getL_long : ∀ (f i n m : Nat), f + i = 9 → n < 2 ^ (7 * f + 1) → ∀ x, (putF f n).getLast? = some x → getL i m ((putF f n).take ((putF f n).length - 1) ++ [x ||| 128, 0]) = none
  | 0, i, n, m, hi, hn, x, hx => by
    have hi9 : i = 9 := by omega
    subst hi9
    simp only [putF, List.length_singleton, Nat.sub_self, List.take_zero, List.nil_append, getL]
    split
    · rfl
    · split
      · rename_i h1 h2
        exfalso
        have : ((x ||| 128) : UInt8).toNat < 128 := h2
        rw [UInt8.toNat_or] at this
        have h3 : (128 : UInt8).toNat ≤ x.toNat ||| (128 : UInt8).toNat := Nat.right_le_or
        simp at h3 this
        omega
      · simp
  | f + 1, i, n, m, hi, hn, x, hx => by
    have h128 : ∀ y : UInt8, 128 ≤ ((y ||| 128) : UInt8).toNat := by
      intro y
      rw [UInt8.toNat_or]
      exact Nat.right_le_or
    by_cases h : n < 128
    · rw [putF_lt h]
      have := h128 x
      simp only [List.length_singleton, Nat.sub_self, List.take_zero, List.nil_append, getL]
      rw [if_neg (by omega), if_neg (by omega)]
      split
      · rfl
      · simp
    · rw [putF_ge h] at hx ⊢
      have hl := (putF_len f (n / 128)).1
      have hb := b8_small (n := n % 128 + 128) (by omega)
      rw [List.length_cons, show (putF f (n / 128)).length + 1 - 1 = ((putF f (n / 128)).length - 1) + 1 from by omega, List.take_succ_cons, List.cons_append]
      simp only [getL, hb]
      rw [if_neg (by omega), if_neg (by omega)]
      rw [pow_step] at hn
      refine getL_long f (i + 1) (n / 128) _ (by omega) (by omega) x ?_
      rw [← hx]
      cases hp : putF f (n / 128) with
      | nil => rw [hp] at hl; simp at hl
      | cons y l => rw [List.getLast?_cons_cons]
theorem getN_long (n : Nat) (h : n < 2 ^ 64) (x : UInt8) (hx : (putN n).getLast? = some x) : getN ((putN n).take ((putN n).length - 1) ++ [x ||| 128, 0]) = none := getL_long 9 0 n 0 rfl h x hx
/-- greater numbers are never shorter -/
theorem putF_mono : ∀ (f m n : Nat), m ≤ n → (putF f m).length ≤ (putF f n).length
  | 0, m, n, _ => by simp [putF]
  | f + 1, m, n, h => by
    by_cases hm : m < 128
    · rw [putF_lt hm]
      exact (putF_len (f + 1) n).1
    · rw [putF_ge hm, putF_ge (by omega)]
      have := putF_mono f (m / 128) (n / 128) (Nat.div_le_div_right h)
      simpa using this
theorem putN_mono {m n : Nat} (h : m ≤ n) : (putN m).length ≤ (putN n).length := putF_mono 9 m n h
/-- how many bytes a number of so many bits takes -/
theorem putF_bits : ∀ (f k n : Nat), k ≤ f → 2 ^ (7 * k) ≤ n → n < 2 ^ (7 * (k + 1)) → (putF f n).length = k + 1
  | f, 0, n, _, _, h2 => by
    rw [putF_lt (by simpa using h2)]; rfl
  | 0, k + 1, n, h, _, _ => by omega
  | f + 1, k + 1, n, h, h1, h2 => by
    have e1 : 2 ^ (7 * (k + 1)) = 128 * 2 ^ (7 * k) := by rw [show 7 * (k + 1) = 7 + 7 * k from by omega, Nat.pow_add]
    have e2 : 2 ^ (7 * (k + 1 + 1)) = 128 * 2 ^ (7 * (k + 1)) := by rw [show 7 * (k + 1 + 1) = 7 + 7 * (k + 1) from by omega, Nat.pow_add]
    have hp : 0 < 2 ^ (7 * k) := Nat.two_pow_pos _
    rw [putF_ge (by omega)]
    have := putF_bits f k (n / 128) (by omega) (by omega) (by omega)
    simp [this]
theorem putN_low (b : Nat) (h : b < 64) : (putN (2 ^ b)).length = b / 7 + 1 :=
  putF_bits 9 (b / 7) (2 ^ b) (by omega) (Nat.pow_le_pow_right (by decide) (by omega)) (Nat.pow_lt_pow_right (by decide) (by omega))
theorem putN_high (b : Nat) (h : b < 64) : (putN (2 ^ b - 1)).length = ((if b = 0 then 1 else b) + 6) / 7 := by
  by_cases h0 : b = 0
  · subst h0; rfl
  · rw [if_neg h0]
    have h1 : 2 ^ (7 * ((b - 1) / 7)) ≤ 2 ^ b - 1 := by
      have : 2 ^ (7 * ((b - 1) / 7)) < 2 ^ b := Nat.pow_lt_pow_right (by decide) (by omega)
      omega
    have h2 : 2 ^ b - 1 < 2 ^ (7 * ((b - 1) / 7 + 1)) := by
      have : 2 ^ b ≤ 2 ^ (7 * ((b - 1) / 7 + 1)) := Nat.pow_le_pow_right (by decide) (by omega)
      have := Nat.two_pow_pos b
      omega
    have := putF_bits 9 ((b - 1) / 7) (2 ^ b - 1) (by omega) h1 h2
    unfold putN
    omega

/-- the lowest k bytes of a number, the highest first -/
def fixN : Nat → Nat → List UInt8
  | 0, _ => []
  | k + 1, n => b8 (n / 256 ^ k) :: fixN k n
theorem fixN_len : ∀ k n, (fixN k n).length = k
  | 0, _ => rfl
  | k + 1, n => by simp [fixN, fixN_len k n]
/-- what bytes are read qs0 -/
def unfN (n : Nat) (l : List UInt8) : Nat := l.foldl (fun n x => n * 256 + x.toNat) n
theorem unfN_snoc (n : Nat) (l : List UInt8) (x : UInt8) : unfN n (l ++ [x]) = unfN n l * 256 + x.toNat := by simp [unfN]
theorem unfN_lt : ∀ (l : List UInt8) (n k : Nat), n < 256 ^ k → unfN n l < 256 ^ (k + l.length)
  | [], n, k, h => by simpa [unfN] using h
  | x :: l, n, k, h => by
    have hx := x.toNat_lt
    have h1 : n * 256 + x.toNat < 256 ^ (k + 1) := by
      rw [Nat.pow_succ]; omega
    have := unfN_lt l (n * 256 + x.toNat) (k + 1) h1
    simp only [unfN, List.foldl_cons, List.length_cons] at this ⊢
    rwa [show k + (l.length + 1) = k + 1 + l.length from by omega]
theorem unf_fix : ∀ (k n m : Nat), unfN m (fixN k n) = m * 256 ^ k + n % 256 ^ k
  | 0, n, m => by simp [fixN, unfN, Nat.mod_one]
  | k + 1, n, m => by
    have ih := unf_fix k n (m * 256 + (b8 (n / 256 ^ k)).toNat)
    simp only [fixN, unfN, List.foldl_cons] at ih ⊢
    rw [ih, b8_toNat, Nat.pow_succ, Nat.mod_mul, Nat.add_mul]
    have : m * 256 * 256 ^ k = m * (256 ^ k * 256) := by rw [Nat.mul_assoc, Nat.mul_comm 256]
    rw [this, Nat.mul_comm (n / 256 ^ k % 256)]
    omega
theorem fix_inj {k a b : Nat} (h : fixN k a = fixN k b) : a % 256 ^ k = b % 256 ^ k := by
  have h1 := unf_fix k a 0
  have h2 := unf_fix k b 0
  rw [h, h2] at h1
  omega
/-- numbers stand in the order of their bytes -/
theorem fix_order : ∀ (k a b j : Nat), j < k → (∀ i, i < j → (fixN k a)[i]? = (fixN k b)[i]?) → ∀ x y, (fixN k a)[j]? = some x → (fixN k b)[j]? = some y → x ≠ y → (x < y ↔ a % 256 ^ k < b % 256 ^ k)
  | 0, a, b, j, hj, _, x, y, _, _, _ => by omega
  | k + 1, a, b, 0, hj, _, x, y, hx, hy, hxy => by
    simp only [fixN, List.getElem?_cons_zero, Option.some.injEq] at hx hy
    subst hx hy
    rw [UInt8.lt_iff_toNat_lt, b8_toNat, b8_toNat, Nat.pow_succ, Nat.mod_mul, Nat.mod_mul]
    have hne : a / 256 ^ k % 256 ≠ b / 256 ^ k % 256 := fun e => hxy (u8_eq (by rw [b8_toNat, b8_toNat, e]))
    have ha : a % 256 ^ k < 256 ^ k := Nat.mod_lt _ (Nat.pow_pos (by decide))
    have hb : b % 256 ^ k < 256 ^ k := Nat.mod_lt _ (Nat.pow_pos (by decide))
    generalize 256 ^ k = p at *
    generalize a / p % 256 = u at *
    generalize b / p % 256 = v at *
    constructor
    · intro h
      have : p * (u + 1) ≤ p * v := Nat.mul_le_mul_left p h
      rw [Nat.mul_add, Nat.mul_one] at this
      omega
    · intro h
      by_cases hl : u < v
      · exact hl
      · exfalso
        have : p * (v + 1) ≤ p * u := Nat.mul_le_mul_left p (by omega)
        rw [Nat.mul_add, Nat.mul_one] at this
        omega
  | k + 1, a, b, j + 1, hj, hpre, x, y, hx, hy, hxy => by
    have h0 := hpre 0 (by omega)
    simp only [fixN, List.getElem?_cons_zero, Option.some.injEq] at h0
    have h1 := congrArg UInt8.toNat h0
    rw [b8_toNat, b8_toNat] at h1
    have ih := fix_order k a b j (by omega) (fun i hi => by simpa [fixN] using hpre (i + 1) (by omega)) x y (by simpa [fixN] using hx) (by simpa [fixN] using hy) hxy
    rw [ih, Nat.pow_succ, Nat.mod_mul, Nat.mod_mul, h1]
    omega
end Go.Proofs.YtgdkeafdlehlaaaDoor

/- Bytes qs0 data, operations on bytes and on registers of a sum, contracts told of worlds. Nothing of the program stands here. -/
namespace Go.Proofs.YtgdkeafdlehlaaaDoor
open Go Go.RowKit
set_option linter.unusedVariables false
set_option linter.unusedSimpArgs false
def encU : Enc UInt8 := ⟨1, fun b => [.lit (.int .u8 (b.toNat : Int))], fun _ => rfl, fun _ => rfl, fun _ => rfl, fun l => match l with
  | [.lit (.int _ a)] => UInt8.ofNat a.toNat
  | _ => default⟩
theorem encU_flat : encU.isFlat := fun _ => rfl
/-- the lowest byte of a number -/
def b8i (a : Int) : UInt8 := UInt8.ofNat (a % 256).toNat
theorem b8i_int (a : Int) : ((b8i a).toNat : Int) = a % 256 := by
  have h1 := Int.emod_nonneg a (show (256 : Int) ≠ 0 by omega)
  have h2 := Int.emod_lt_of_pos a (show (0 : Int) < 256 by omega)
  unfold b8i
  rw [UInt8.toNat_ofNat']
  omega
theorem b8i_nat (n : Nat) : b8i (n : Int) = b8 n := u8_eq (by have := b8i_int (n : Int); rw [b8_toNat]; omega)
theorem b8i_byte (x : UInt8) : b8i (x.toNat : Int) = x := u8_eq (by have := b8i_int (x.toNat : Int); have := x.toNat_lt; omega)
theorem u8_bd (x : UInt8) : (0 : Int) ≤ (x.toNat : Int) ∧ (x.toNat : Int) ≤ 255 := by have := x.toNat_lt; omega
theorem or128_b8 (n : Nat) : b8i (n : Int) ||| 128 = b8 (n % 128 + 128) := by
  apply u8_eq
  rw [b8i_nat, UInt8.toNat_or, b8_toNat, b8_small (by omega), show (128 : UInt8).toNat = 128 from rfl]
  have h2 : n % 256 ||| 128 = n % 128 ||| 128 := by
    have h3 : ∀ k, k < 256 → k ||| 128 = k % 128 ||| 128 := by decide +kernel
    rw [h3 _ (by omega), show n % 256 % 128 = n % 128 from by omega]
  rw [h2]
  have h4 : ∀ k, k < 128 → k ||| 128 = k + 128 := by decide +kernel
  exact h4 _ (by omega)
theorem and127_b (x : UInt8) : bits BinOp.and .u8 (x.toNat : Int) 127 = ((x.toNat % 128 : Nat) : Int) := by
  have h : ∀ x : Fin 256, bits BinOp.and .u8 (x.val : Int) 127 = ((x.val % 128 : Nat) : Int) := by decide +kernel
  exact h ⟨x.toNat, x.toNat_lt⟩
theorem wraps_u64 (n : Int) (h₀ : 0 ≤ n) (h₁ : n < 2 ^ 64) : IntKind.u64.wrap n = n := by rw [IntKind.wrap_u64]; omega
/-- a lower part and a higher one, joined -/
theorem or_low (m y s : Nat) (hm : m < 2 ^ s) (hy : y * 2 ^ s < 2 ^ 64) (hm2 : m < 2 ^ 64) : bits BinOp.or .u64 (m : Int) (IntKind.u64.wrap ((y : Int) * 2 ^ s)) = ((m + y * 2 ^ s : Nat) : Int) := by
  have e : (y : Int) * 2 ^ s = ((y * 2 ^ s : Nat) : Int) := by simp
  rw [e, wraps_u64 _ (by omega) (by exact_mod_cast hy)]
  rw [(bits_nat .u64 64 (by decide) wraps_u64 m (y * 2 ^ s) hm2 hy).2]
  rw [Nat.or_comm, Nat.mul_comm, ← Nat.two_pow_add_eq_or_of_lt hm y, Nat.add_comm]
theorem or_shl8 (n x : Nat) (hn : n < 2 ^ 56) (hx : x < 256) : bits BinOp.or .u64 (IntKind.u64.wrap ((n : Int) * 256)) (x : Int) = ((n * 256 + x : Nat) : Int) := by
  rw [show (n : Int) * 256 = ((n * 256 : Nat) : Int) from by omega, wraps_u64 _ (by omega) (by omega)]
  rw [bits_join .u64 64 (by decide) wraps_u64 8 _ _ (by omega) (by omega) (by omega) (by omega) (by omega) (by omega)]
  omega
theorem fix_byte (n j : Nat) (hj : j < 8) : b8i ((n : Int).fdiv (2 ^ (min ((8 * (j : Int))).toNat IntKind.u64.bits))) = b8 (n / 256 ^ j) := by
  have e0 : min ((8 * (j : Int))).toNat IntKind.u64.bits = 8 * j := by
    show min _ 64 = _
    omega
  rw [e0, Int.fdiv_eq_ediv_of_nonneg _ (Int.le_of_lt (Int.pow_pos (by omega)))]
  have e : (2 : Int) ^ (8 * j) = ((256 ^ j : Nat) : Int) := by
    rw [Int.pow_mul]
    simp
  rw [e, ← Int.natCast_ediv, b8i_nat]
theorem unfN_step (l : List UInt8) (k : Nat) (hk : k < l.length) : unfN 0 (l.take (k + 1)) = unfN 0 (l.take k) * 256 + (nth l k).toNat := by
  rw [take_nth l k hk, unfN_snoc]
theorem unfN_small (l : List UInt8) (k j : Nat) (hj : k ≤ j) : unfN 0 (l.take k) < 2 ^ (8 * j) := by
  have h := unfN_lt (l.take k) 0 0 (by omega)
  have h2 : 256 ^ (0 + (l.take k).length) ≤ 256 ^ j := Nat.pow_le_pow_right (by decide) (by simp; omega)
  rw [show (256 : Nat) = 2 ^ 8 from rfl, ← Nat.pow_mul] at h2
  rw [← Nat.pow_mul] at h2
  rw [show (256 : Nat) = 2 ^ 8 from rfl, ← Nat.pow_mul] at h
  omega
theorem get_step {m x k : Nat} (hm : m < 2 ^ (7 * k)) (hk : k < 9) (hx : x < 128) : m + x * 2 ^ (7 * k) < 2 ^ (7 * (k + 1)) ∧ x * 2 ^ (7 * k) < 2 ^ 64 ∧ m < 2 ^ 64 := by
  have h1 : 2 ^ (7 * (k + 1)) = 128 * 2 ^ (7 * k) := by rw [show 7 * (k + 1) = 7 + 7 * k from by omega, Nat.pow_add]
  have h2 : 2 ^ (7 * (k + 1)) ≤ 2 ^ 63 := Nat.pow_le_pow_right (by decide) (by omega)
  have h3 : x * 2 ^ (7 * k) ≤ 127 * 2 ^ (7 * k) := Nat.mul_le_mul_right _ (by omega)
  omega
theorem u8_xor_b (x y : UInt8) : bits .xor .u8 (x.toNat : Int) (y.toNat : Int) = ((x ^^^ y).toNat : Int) := by
  rw [u8_xor_nat _ _ x.toNat_lt y.toNat_lt, UInt8.toNat_xor]
theorem u8_or_b (x y : UInt8) : bits .or .u8 (x.toNat : Int) (y.toNat : Int) = ((x ||| y).toNat : Int) := by
  rw [u8_or_nat _ _ x.toNat_lt y.toNat_lt, UInt8.toNat_or]
/- registers -/
theorem rv_xor (a b : R) : bits .xor .u32 (a.toNat : Int) (b.toNat : Int) = ((a ^^^ b).toNat : Int) := by
  rw [u32_xor_nat _ _ a.isLt b.isLt, BitVec.toNat_xor]
theorem rv_xor_poly (a : R) : bits .xor .u32 (a.toNat : Int) 2197175160 = ((a ^^^ poly).toNat : Int) := rv_xor a poly
theorem rv_byte (a : R) (x : UInt8) : bits .xor .u32 (a.toNat : Int) (x.toNat : Int) = ((a ^^^ x.toBitVec.zeroExtend 32).toNat : Int) := by
  have := rv_xor a (x.toBitVec.zeroExtend 32)
  rw [← this]
  congr 2
theorem rv_half (a : R) : (a.toNat : Int) / (2 : Int) ^ 1 = ((a >>> (1 : Nat)).toNat : Int) := by
  rw [BitVec.toNat_ushiftRight, Nat.shiftRight_eq_div_pow]; omega
theorem rv_test (a : R) : bits .and .u32 (a.toNat : Int) 1 = 1 ↔ a &&& 1#32 = 1#32 := by
  have h := u32_and_nat a.toNat 1 a.isLt (by omega)
  rw [show ((1 : Nat) : Int) = 1 from rfl] at h
  rw [h]
  constructor
  · intro e
    apply BitVec.eq_of_toNat_eq
    simp only [BitVec.toNat_and]
    have : (1#32 : R).toNat = 1 := by decide
    rw [this]
    omega
  · intro e
    have := congrArg BitVec.toNat e
    simp only [BitVec.toNat_and, show (1#32 : R).toNat = 1 from by decide] at this
    rw [this]; rfl
theorem rv_not (a : R) : bits .xor .u32 IntKind.u32.max (a.toNat : Int) = ((rnot a).toNat : Int) := by
  have := rv_xor (BitVec.allOnes 32) a
  rw [show ((BitVec.allOnes 32).toNat : Int) = IntKind.u32.max from by decide] at this
  rw [this, BitVec.xor_comm, BitVec.xor_allOnes]; rfl
theorem bit_odd {a : R} (h : bits .and .u32 (a.toNat : Int) 1 = 1) : bit a = (a >>> 1) ^^^ poly := by unfold bit; rw [if_pos ((rv_test a).1 h)]
theorem bit_even {a : R} (h : ¬ bits .and .u32 (a.toNat : Int) 1 = 1) : bit a = a >>> 1 := by unfold bit; rw [if_neg (fun e => h ((rv_test a).2 e))]
theorem crc_take (r : R) (l : List UInt8) (k : Nat) (h : k < l.length) : crc r (l.take (k + 1)) = bitN 8 (crc r (l.take k) ^^^ (nth l k).toBitVec.zeroExtend 32) := by
  rw [take_nth l k h, crc_snoc]; rfl
section
variable {P : Program} {T : List (Nat × TI)} {o : Oper} {fr : List (Nat × AV)} {H : List (Nat × Res)} {c : Ctx} {n : Nat} {Q : AQ} {ops : Array Oper} {rest : List Oper}
variable {S : Nat → Prop} {γ : Nat → Value} {w : World} {x y : Operand} {t t' : TypeId} {s b s' b' : Nat} {u v : UInt8} {r q : R} {j : IntKind} {a : Int}
theorem sop_conv_b (ho : o.op = .convert t t' x := by rfl) (hT : TTOk P T := by assumption) (ht : look T t = some ⟨.int j, s, b⟩ := by rfl) (ht' : look T t' = some ⟨.int .u8, s', b'⟩ := by rfl) (hx : Opv fr x (.lit (.int j a)) := by exact opv_std) : SOp P o fr H (.lit (.int .u8 ((b8i a).toNat : Int))) :=
  sop_cast (sop_conv ho hT ht ht' hx) (by rw [IntKind.wrap_u8, b8i_int])
theorem sop_conv_bi (ho : o.op = .convert t t' x := by rfl) (hT : TTOk P T := by assumption) (ht : look T t = some ⟨.int .u8, s, b⟩ := by rfl) (ht' : look T t' = some ⟨.int .i64, s', b'⟩ := by rfl) (hx : Opv fr x (.lit (.int .u8 (u.toNat : Int))) := by exact opv_std) : SOp P o fr H (.lit (.int .i64 (u.toNat : Int))) :=
  sop_cast (sop_conv ho hT ht ht' hx) (by rw [wrap_i64_in (by have := u.toNat_lt; omega)])
theorem sop_conv_bu (ho : o.op = .convert t t' x := by rfl) (hT : TTOk P T := by assumption) (ht : look T t = some ⟨.int .u8, s, b⟩ := by rfl) (ht' : look T t' = some ⟨.int .u64, s', b'⟩ := by rfl) (hx : Opv fr x (.lit (.int .u8 (u.toNat : Int))) := by exact opv_std) : SOp P o fr H (.lit (.int .u64 (u.toNat : Int))) :=
  sop_cast (sop_conv ho hT ht ht' hx) (by rw [wrap_u64_in (by have := u.toNat_lt; omega)])
theorem sop_conv_br (ho : o.op = .convert t t' x := by rfl) (hT : TTOk P T := by assumption) (ht : look T t = some ⟨.int .u8, s, b⟩ := by rfl) (ht' : look T t' = some ⟨.int .u32, s', b'⟩ := by rfl) (hx : Opv fr x (.lit (.int .u8 (u.toNat : Int))) := by exact opv_std) : SOp P o fr H (.lit (.int .u32 (u.toNat : Int))) :=
  sop_cast (sop_conv ho hT ht ht' hx) (by rw [wrap_u32_in (by have := u.toNat_lt; omega)])
theorem sop_conv_ru (ho : o.op = .convert t t' x := by rfl) (hT : TTOk P T := by assumption) (ht : look T t = some ⟨.int .u32, s, b⟩ := by rfl) (ht' : look T t' = some ⟨.int .u64, s', b'⟩ := by rfl) (hx : Opv fr x (.lit (.int .u32 (r.toNat : Int))) := by exact opv_std) : SOp P o fr H (.lit (.int .u64 (r.toNat : Int))) :=
  sop_cast (sop_conv ho hT ht ht' hx) (by rw [wrap_u64_in (by have := r.isLt; omega)])
theorem sop_or128 (ho : o.op = .binOp .or t x (.const (.int .u8 128)) t' := by rfl) (hx : Opv fr x (.lit (.int .u8 (u.toNat : Int))) := by exact opv_std) : SOp P o fr H (.lit (.int .u8 ((u ||| 128).toNat : Int))) :=
  sop_cast (sop_or ho hx (.of rfl)) (by rw [← u8_or_b]; rfl)
theorem sop_and127 (ho : o.op = .binOp .and t x (.const (.int .u8 127)) t' := by rfl) (hx : Opv fr x (.lit (.int .u8 (u.toNat : Int))) := by exact opv_std) : SOp P o fr H (.lit (.int .u8 ((u.toNat % 128 : Nat) : Int))) :=
  sop_cast (sop_and ho hx (.of rfl)) (by rw [← and127_b])
theorem sop_xor_b (ho : o.op = .binOp .xor t x y t' := by rfl) (hx : Opv fr x (.lit (.int .u8 (u.toNat : Int))) := by exact opv_std) (hy : Opv fr y (.lit (.int .u8 (v.toNat : Int))) := by exact opv_std) : SOp P o fr H (.lit (.int .u8 ((u ^^^ v).toNat : Int))) :=
  sop_cast (sop_xor ho hx hy) (by rw [← u8_xor_b])
theorem sop_add_b (ho : o.op = .binOp .add t x y t' := by rfl) (hx : Opv fr x (.lit (.int .u8 (u.toNat : Int))) := by exact opv_std) (hy : Opv fr y (.lit (.int .u8 (v.toNat : Int))) := by exact opv_std) : SOp P o fr H (.lit (.int .u8 ((u + v).toNat : Int))) :=
  sop_cast (sop_add ho hx hy) (by rw [IntKind.wrap_u8, UInt8.toNat_add]; rfl)
theorem sop_xor_rb (ho : o.op = .binOp .xor t x y t' := by rfl) (hx : Opv fr x (.lit (.int .u32 (r.toNat : Int))) := by exact opv_std) (hy : Opv fr y (.lit (.int .u32 (u.toNat : Int))) := by exact opv_std) : SOp P o fr H (.lit (.int .u32 ((r ^^^ u.toBitVec.zeroExtend 32).toNat : Int))) :=
  sop_cast (sop_xor ho hx hy) (by rw [rv_byte])
theorem sop_xor_poly (ho : o.op = .binOp .xor t x (.const (.int .u32 2197175160)) t' := by rfl) (hx : Opv fr x (.lit (.int .u32 (r.toNat : Int))) := by exact opv_std) : SOp P o fr H (.lit (.int .u32 ((r ^^^ poly).toNat : Int))) :=
  sop_cast (sop_xor ho hx (.of rfl)) (by rw [rv_xor_poly])
theorem sop_half (ho : o.op = .binOp .shr t x (.const (.int .u64 1)) t' := by rfl) (hx : Opv fr x (.lit (.int .u32 (r.toNat : Int))) := by exact opv_std) : SOp P o fr H (.lit (.int .u32 ((r >>> (1 : Nat)).toNat : Int))) :=
  sop_cast (sop_shr_in (m := 1) ho hx (.of rfl)) (by rw [rv_half])
theorem sop_rnot (ho : o.op = .unOp .xor t x := by rfl) (hT : TTOk P T := by assumption) (ht : look T t = some ⟨.int .u32, s, b⟩ := by rfl) (hx : Opv fr x (.lit (.int .u32 (r.toNat : Int))) := by exact opv_std) : SOp P o fr H (.lit (.int .u32 ((rnot r).toNat : Int))) := fun S γ w ρ h => by
  refine outl ?_
  have hv := h.lit hx (by simp [ho, Op.operands])
  have := rv_not r
  simp [execOp, ho, hv, go_sem, IntKind.signed]
  exact this
/-- a contract told of worlds: a slice of the call's own -/
theorem con_own {f : FuncId} {args : List AV} {α : Type} (E : Enc α) (ys : List α) (k e : Nat) (hk : 1000 ≤ k) (h : ∀ (S : Nat → Prop) (γ : Nat → Value) (w : World) (vs : List Value), SzA S w → AV.holdsL S γ w args vs → Calls P f vs.toArray w fun en w' => ∃ v us, en = .returned v ∧ Ext w w' ∧ Own w' w.heap.size e E.size v ys.length us ∧ AV.holdsL S noγ w (E.all ys) us ∧ ∀ u ∈ us, u.oneCell' = true) : Con P f args [] fun a hz => a = .own k ∧ hz = [(k, .own e E ys)] := fun S γ w vs hst hargs => by
  refine (h S γ w vs hst.sz hargs).mono ?_
  rintro en w' ⟨v, us, rfl, hx, ho, hh, h1⟩
  have hrb := own_rblk ho
  refine ⟨v, .own k, [(k, .own e E ys)], S, upd γ k v, rfl, ⟨rfl, rfl⟩, ⟨hx.os, hx.tape, hx.output, hx.size, fun b hb _ => hx.block b hb⟩, fun b hb => .inl hb, by simp only [AV.holds]; rw [upd_same], ⟨?_, ?_, ?_, ?_, ?_⟩, ?_, fun j r hj => by simp [look] at hj⟩
  · intro i r hi
    obtain ⟨rfl, rfl⟩ := look_one hi
    rw [upd_same]
    exact ⟨us, ho.mono (Nat.zero_le _), AV.extL (fun _ h => h) (same_of_ext hst.sz hx) hh, h1⟩
  · intro i j ri rj b hi hj _ _
    rw [(look_one hi).1, (look_one hj).1]
  · intro i r b hi hb hs
    obtain ⟨rfl, rfl⟩ := look_one hi
    rw [upd_same, hrb.1] at hb
    have := (ho.lt hb).1
    have := hst.sz b hs
    omega
  · exact hst.sz.to (fun _ h => h) (same_of_ext hst.sz hx) fun b hs => by have := hst.sz b hs; have := hx.size; omega
  · intro i
    by_cases hi : i = k
    · subst hi; rw [upd_same]; exact hrb.2
    · rw [upd_other hi]; exact hst.one i
  · intro i r b hi hb
    obtain ⟨rfl, rfl⟩ := look_one hi
    rw [upd_same, hrb.1] at hb
    exact .inl (ho.lt hb).1
theorem encU_all {l : List UInt8} : encU.all l = l.map fun u => .lit (bv u) := by
  induction l with
  | nil => rfl
  | cons x l ih =>
    have : encU.all (x :: l) = encU.cells x ++ encU.all l := rfl
    rw [this, ih]; rfl
theorem encU_vs {l : List UInt8} {vs : List Value} (h : AV.holdsL S γ w (encU.all l) vs) : vs = bvs l := by
  rw [encU_all] at h
  induction l generalizing vs with
  | nil => simpa [AV.holdsL, bvs] using h
  | cons x l ih =>
    simp only [List.map_cons, AV.holdsL, AV.holds] at h
    obtain ⟨v, vs', rfl, rfl, h2⟩ := h
    rw [ih h2]; rfl
theorem encU_bvs (l : List UInt8) : AV.holdsL S γ w (encU.all l) (bvs l) := by
  rw [encU_all]
  induction l with
  | nil => simp [AV.holdsL, bvs]
  | cons x l ih =>
    simp only [List.map_cons, AV.holdsL, AV.holds, bvs]
    exact ⟨_, _, rfl, rfl, ih⟩
theorem sl_bytes {l : List UInt8} {z : Value} (h : (slF encU l).holds S w z) : ∃ A cp, z = .slice A l.length cp ∧ l.length ≤ cp ∧ Row w A (bvs l) := by
  obtain ⟨A, cp, vs, rfl, hc, hr, hh, _⟩ := h
  exact ⟨A, cp, rfl, hc, by rw [← encU_vs hh]; exact hr.row⟩
end
end Go.Proofs.YtgdkeafdlehlaaaDoor

/- More of what single operations come to: length, difference, or, append behind nothing. Nothing of the program stands here. -/
namespace Go.Proofs.YtgdkeafdlehlaaaDoor
open Go Go.RowKit
set_option linter.unusedVariables false
/-- a slice made by the call, of these bytes -/
def Fact.own (base : Nat) (e : TypeId) (l : List UInt8) : Fact := ⟨fun v w => Own w base e 1 v l.length (bvs l), fun _ _ _ h x => h.ext x⟩
/-- a new row of two cells -/
def Fact.row2 (u v : Value) : Fact := ⟨fun x w => ∃ A c, x = .slice A 2 c ∧ Row w A [u, v], fun _ _ _ ⟨A, c, h, hr⟩ x => ⟨A, c, h, hr.ext x⟩⟩
section
variable {P : Program} {ρ : Operand → Value} {w : World} {R : Value → World → Prop} {o : Oper}
theorem out_len {x : Operand} {t e : TypeId} {A : Option Addr} {n c : Nat} (ho : o.op = .call { callee := .builtin .len, args := #[x], argTypes := #[t] }) (ht : P.underlying t = some (.slice e)) (hx : ρ x = .slice A n c) (h : R (.int .i64 (n : Int)) w) : Outcome P R ((execOp ρ o).run P w) := by
  have hrun : (execOp ρ o).run P w = .ok (.value (.int .i64 (n : Int))) w := by
    simp [go_sem, execOp, ho, resolve, invoke, builtin, hx, Builtin.len_, run_underlying ht]
  rw [hrun]; exact h
theorem out_sub {x y : Operand} {t t' : TypeId} {k : IntKind} {a b : Int} (ho : o.op = .binOp .sub t x y t') (hx : ρ x = .int k a) (hy : ρ y = .int k b) (h : R (.int k (k.wrap (a - b))) w) : Outcome P R ((execOp ρ o).run P w) := by
  have hrun : (execOp ρ o).run P w = .ok (.value (.int k (k.wrap (a - b)))) w := by
    simp [execOp, ho, hx, hy, go_sem]
  rw [hrun]; exact h
theorem out_or {x y : Operand} {t t' : TypeId} {k : IntKind} {a b : Int} (ho : o.op = .binOp .or t x y t') (hx : ρ x = .int k a) (hy : ρ y = .int k b) (h : R (.int k (bits .or k a b)) w) : Outcome P R ((execOp ρ o).run P w) := by
  have hrun : (execOp ρ o).run P w = .ok (.value (.int k (bits .or k a b))) w := by
    simp [execOp, ho, hx, hy, go_sem]
  rw [hrun]; exact h
theorem out_app_nil {s x : Operand} {t e : TypeId} {i : TypeInfo} {z : Value} {l : List UInt8} (ho : o.op = .call { callee := .builtin .append, args := #[s, x], argTypes := #[t, t] })
    (ht : P.underlying t = some (.slice e)) (hi : P.info? e = some i) (hz : i.zero = some z) (hsize : i.size = 1) (hby : i.bytes = 1) (hzs : z.cells.size = 1)
    (hs : ρ s = .slice none 0 0) (hx : RB w (ρ x) l) (hl : l.length ≤ 1000000)
    (h : ∀ v w', Ext w w' → Own w' w.heap.size e 1 v l.length (bvs l) → R v w') : Outcome P R ((execOp ρ o).run P w) := by
  obtain ⟨B, d, hxv, hd, hr⟩ := hx
  obtain ⟨v', w', hrr, h2, h3, h4⟩ := run_app (P := P) w w.heap.size t o.type e i z 1 1 ht hi hz hsize hby hzs (by decide) (.slice none 0 0) 0 [] (Own.nil _ _ _ _ _) B l.length d (bvs l) (by simp [bvs]) hr (bvs_one l) (by omega) (by unfold maxLen; omega) (Nat.le_refl _)
  have hrun : (execOp ρ o).run P w = .ok (.value v') w' := by
    unfold execOp
    simp only [ho, resolve, invoke, builtin, Sem.run_bind, Sem.run_pure, Result.andThen_ok, List.map_toArray, List.map_cons, List.map_nil, hs, hxv, hrr]
  rw [hrun]
  exact h v' w' (ext_of_grown h3) (by simpa using h2)
end
end Go.Proofs.YtgdkeafdlehlaaaDoor

/- What a conversion of bytes to a text, and comparing two of these, come to. Nothing of the program stands here. -/
namespace Go.Proofs.YtgdkeafdlehlaaaDoor
open Go Go.RowKit
set_option linter.unusedVariables false
/-- bytes qs0 a text -/
def strOf (l : List UInt8) : ByteArray := ⟨l.toArray⟩
theorem strOf_inj {l m : List UInt8} : strOf l = strOf m ↔ l = m := by
  constructor
  · intro h
    injection h with h
    exact List.toArray_inj h
  · rintro rfl; rfl
section
variable {P : Program} {ρ : Operand → Value} {w : World} {R : Value → World → Prop} {o : Oper}
theorem run_rb_string {v : Value} {l : List UInt8} {src dst e : TypeId} (hs : P.underlying src = some (.slice e)) (he : P.underlying e = some (.int .u8)) (hd : P.underlying dst = some .string) (h : RB w v l) :
    (convert src dst v).run P w = .ok (.string (strOf l)) w := by
  obtain ⟨A, c, rfl, hc, hr⟩ := h
  cases A with
  | none =>
    have hl0 : l = [] := by
      rcases l with _ | ⟨x, l⟩
      · rfl
      · obtain ⟨ad, h, _⟩ := hr (by simp [bvs])
        cases h
    subst hl0
    rw [run_convert_bytes_nil w src e hs he _ _ dst hd]
    rfl
  | some ad =>
    have hm : bvs l = (l.map (fun b => (b.toNat : Int))).map (Value.int .u8) := by simp [bvs, bv, Function.comp_def]
    have hl : (loadCells ad l.length).run P w = .ok ((l.map (fun b => (b.toNat : Int))).map (Value.int .u8)).toArray w := by
      have := run_loadCells_list (P := P) w ad (bvs l) (fun j v hj => by
        obtain ⟨ad', h1, h2⟩ := hr (by intro e; rw [e] at hj; simp at hj)
        cases h1
        exact h2 j v hj)
      rw [hm] at this
      simpa using this
    rw [run_convert_bytes_string w src dst e _ _ c hs he hd, run_bytesToString w _ _ c _ hl, foldl_push_bytes]
    simp [strOf, Function.comp_def]
theorem out_string {src dst e : TypeId} {x : Operand} {l : List UInt8} (ho : o.op = .convert src dst x) (hs : P.underlying src = some (.slice e)) (he : P.underlying e = some (.int .u8)) (hd : P.underlying dst = some .string)
    (hx : RB w (ρ x) l) (h : R (.string (strOf l)) w) : Outcome P R ((execOp ρ o).run P w) := by
  have hrun : (execOp ρ o).run P w = .ok (.value (.string (strOf l))) w := by
    simp [execOp, ho, run_rb_string hs he hd hx]
  rw [hrun]; exact h
theorem out_neq_str {x y : Operand} {t t' : TypeId} {l m : List UInt8} (ho : o.op = .binOp .neq t x y t') (hx : ρ x = .string (strOf l)) (hy : ρ y = .string (strOf m)) (h : R (.bool (decide (l ≠ m))) w) : Outcome P R ((execOp ρ o).run P w) := by
  have hrun : (execOp ρ o).run P w = .ok (.value (.bool (decide (l ≠ m)))) w := by
    by_cases e : l = m
    · subst e
      simp [execOp, ho, hx, hy, go_sem]
    · have e' : ¬ (strOf l).toList = (strOf m).toList := by rw [ByteArray.toList_eq, ByteArray.toList_eq]; exact fun h => e (by simpa [strOf] using h)
      simp [execOp, ho, hx, hy, go_sem, e, e']
  rw [hrun]; exact h
theorem out_add {x y : Operand} {t t' : TypeId} {k : IntKind} {a b : Int} (ho : o.op = .binOp .add t x y t') (hx : ρ x = .int k a) (hy : ρ y = .int k b) (h : R (.int k (k.wrap (a + b))) w) : Outcome P R ((execOp ρ o).run P w) := by
  have hrun : (execOp ρ o).run P w = .ok (.value (.int k (k.wrap (a + b)))) w := by
    simp [execOp, ho, hx, hy, go_sem]
  rw [hrun]; exact h
end
end Go.Proofs.YtgdkeafdlehlaaaDoor

/- Texts of bytes qs0 data. Nothing of the program stands here. -/
namespace Go.Proofs.YtgdkeafdlehlaaaDoor
open Go Go.RowKit
set_option linter.unusedVariables false
set_option linter.unusedSimpArgs false
section
variable {P : Program} {T : List (Nat × TI)} {o : Oper} {fr : List (Nat × AV)} {H : List (Nat × Res)}
variable {x y : Operand} {t t' e : TypeId} {s b s' b' s2 b2 : Nat} {l m : List UInt8}
theorem sl_rb {S : Nat → Prop} {w : World} {z : Value} (h : (slF encU l).holds S w z) : RB w z l := sl_bytes h
theorem sop_str (ho : o.op = .convert t t' x := by rfl) (hT : TTOk P T := by assumption) (ht : look T t = some ⟨.slice e, s, b⟩ := by rfl) (he : look T e = some ⟨.int .u8, s2, b2⟩ := by rfl) (ht' : look T t' = some ⟨.str, s', b'⟩ := by rfl) (hx : Opv fr x (.snap (slF encU l)) := by exact opv_std) : SOp P o fr H (.lit (.string (strOf l))) := fun S γ w ρ h => by
  have h1 := h.get hx (by simp [ho, Op.operands])
  simp only [AV.holds] at h1
  refine outl ?_
  simp [execOp, ho, run_rb_string (hT.slice ht) (hT.int he) (hT.str ht') (sl_rb h1)]
theorem sop_str_own {j e' : Nat} (ho : o.op = .convert t t' x := by rfl) (hT : TTOk P T := by assumption) (ht : look T t = some ⟨.slice e, s, b⟩ := by rfl) (he : look T e = some ⟨.int .u8, s2, b2⟩ := by rfl) (ht' : look T t' = some ⟨.str, s', b'⟩ := by rfl) (hx : Opv fr x (.own j) := by exact opv_std) (hj : look H j = some (.own e' encU l) := by rfl) : SOp P o fr H (.lit (.string (strOf l))) := fun S γ w ρ h => by
  have h1 := h.get hx (by simp [ho, Op.operands])
  simp only [AV.holds] at h1
  have h2 : (slF encU l).holds (fun b => S b ∨ rblk (γ j) = some b) w (ρ x) := by
    rw [h1]
    exact own_snap h.st hj (fun b h => .inl h) (fun b h => .inr h)
  refine outl ?_
  simp [execOp, ho, run_rb_string (hT.slice ht) (hT.int he) (hT.str ht') (sl_rb h2)]
theorem sop_str_nil (ho : o.op = .convert t t' x := by rfl) (hT : TTOk P T := by assumption) (ht : look T t = some ⟨.slice e, s, b⟩ := by rfl) (he : look T e = some ⟨.int .u8, s2, b2⟩ := by rfl) (ht' : look T t' = some ⟨.str, s', b'⟩ := by rfl) (hx : Opv fr x (.lit (.slice none 0 0)) := by exact opv_std) : SOp P o fr H (.lit (.string (strOf []))) := fun S γ w ρ h => by
  have h1 := h.lit hx (by simp [ho, Op.operands])
  refine outl ?_
  simp [execOp, ho, run_rb_string (hT.slice ht) (hT.int he) (hT.str ht') (show RB w (ρ x) [] from by rw [h1]; exact RB.nil w)]
theorem sop_eql_str (ho : o.op = .binOp .eql t x y t' := by rfl) (hx : Opv fr x (.lit (.string (strOf l))) := by exact opv_std) (hy : Opv fr y (.lit (.string (strOf m))) := by exact opv_std) : SOp P o fr H (.lit (.bool (decide (l = m)))) := fun S γ w ρ h => by
  have h1 := h.lit hx (by simp [ho, Op.operands])
  have h2 := h.lit hy (by simp [ho, Op.operands])
  refine outl ?_
  by_cases e : l = m
  · subst e
    simp [execOp, ho, h1, h2, go_sem]
  · have e' : ¬ (strOf l).toList = (strOf m).toList := by rw [ByteArray.toList_eq, ByteArray.toList_eq]; exact fun h => e (by simpa [strOf] using h)
    simp [execOp, ho, h1, h2, go_sem, e, e']
theorem sop_neq_str (ho : o.op = .binOp .neq t x y t' := by rfl) (hx : Opv fr x (.lit (.string (strOf l))) := by exact opv_std) (hy : Opv fr y (.lit (.string (strOf m))) := by exact opv_std) : SOp P o fr H (.lit (.bool (decide (l ≠ m)))) := fun S γ w ρ h => by
  have h1 := h.lit hx (by simp [ho, Op.operands])
  have h2 := h.lit hy (by simp [ho, Op.operands])
  refine outl ?_
  by_cases e : l = m
  · subst e
    simp [execOp, ho, h1, h2, go_sem]
  · have e' : ¬ (strOf l).toList = (strOf m).toList := by rw [ByteArray.toList_eq, ByteArray.toList_eq]; exact fun h => e (by simpa [strOf] using h)
    simp [execOp, ho, h1, h2, go_sem, e, e']
end
end Go.Proofs.YtgdkeafdlehlaaaDoor

/- Slicing by number, appending to nil qs0 a value that is only read. Nothing of the program stands here. -/
namespace Go.Proofs.YtgdkeafdlehlaaaDoor
open Go Go.RowKit
set_option linter.unusedVariables false
set_option linter.unusedSimpArgs false
section
variable {P : Program} {T : List (Nat × TI)} {o : Oper} {fr : List (Nat × AV)} {H : List (Nat × Res)}
variable {α : Type} {E : Enc α} {xs ys : List α} {x y : Operand} {t e s b : Nat} {ei : TI}
theorem sop_slice_lo {i : Int} (ho : o.op = .slice t x (some y) none none := by rfl) (hT : TTOk P T := by assumption) (ht : look T t = some ⟨.slice e, s, b⟩ := by rfl) (he : look T e = some ei := by rfl) (hx : Opv fr x (.snap (slF E xs)) := by exact opv_std) (hy : Opv fr y (.lit (.int .i64 i)) := by exact opv_std) (h0 : 0 ≤ i := by omega) (h1 : i ≤ (xs.length : Int) := by first | omega | (simp only [List.length_append, List.length_cons, List.length_nil, List.length_take, List.length_drop, List.length_replicate, List.length_map, List.length_set]; omega)) (hs : ei.size = E.size := by rfl) : SOp P o fr H (.snap (slF E (xs.drop i.toNat))) := by
  obtain ⟨k, rfl⟩ := Int.eq_ofNat_of_zero_le h0
  have h := sop_slice_snap (P := P) (H := H) (a := k) (c := xs.length) ho hT ht he hx hy rfl (by omega) (Nat.le_refl _) hs
  have e1 : (xs.drop k).take (xs.length - k) = xs.drop k := List.take_of_length_le (by simp)
  rw [e1] at h
  exact h
theorem sop_slice_hi {i : Int} (ho : o.op = .slice t x none (some y) none := by rfl) (hT : TTOk P T := by assumption) (ht : look T t = some ⟨.slice e, s, b⟩ := by rfl) (he : look T e = some ei := by rfl) (hx : Opv fr x (.snap (slF E xs)) := by exact opv_std) (hy : Opv fr y (.lit (.int .i64 i)) := by exact opv_std) (h0 : 0 ≤ i := by omega) (h1 : i ≤ (xs.length : Int) := by first | omega | (simp only [List.length_append, List.length_cons, List.length_nil, List.length_take, List.length_drop, List.length_replicate, List.length_map, List.length_set]; omega)) (hs : ei.size = E.size := by rfl) : SOp P o fr H (.snap (slF E (xs.take i.toNat))) := by
  obtain ⟨k, rfl⟩ := Int.eq_ofNat_of_zero_le h0
  have h := sop_slice_snap (P := P) (H := H) (a := 0) (c := k) ho hT ht he hx rfl hy (Nat.zero_le _) (by omega) hs
  exact h
theorem sop_slice_mid {i j : Int} {z : Operand} (ho : o.op = .slice t x (some y) (some z) none := by rfl) (hT : TTOk P T := by assumption) (ht : look T t = some ⟨.slice e, s, b⟩ := by rfl) (he : look T e = some ei := by rfl) (hx : Opv fr x (.snap (slF E xs)) := by exact opv_std) (hy : Opv fr y (.lit (.int .i64 i)) := by exact opv_std) (hz : Opv fr z (.lit (.int .i64 j)) := by exact opv_std) (h0 : 0 ≤ i := by omega) (h1 : i ≤ j := by omega) (h2 : j ≤ (xs.length : Int) := by first | omega | (simp only [List.length_append, List.length_cons, List.length_nil, List.length_take, List.length_drop, List.length_replicate, List.length_map, List.length_set]; omega)) (hs : ei.size = E.size := by rfl) : SOp P o fr H (.snap (slF E ((xs.take j.toNat).drop i.toNat))) := by
  obtain ⟨k, rfl⟩ := Int.eq_ofNat_of_zero_le h0
  obtain ⟨m, rfl⟩ := Int.eq_ofNat_of_zero_le (Int.le_trans h0 h1)
  have h := sop_slice_snap (P := P) (H := H) (a := k) (c := m) ho hT ht he hx hy hz (by omega) (by omega) hs
  rw [← List.drop_take] at h
  exact h
theorem sop_appNil {es eb : Nat} {ek : TK} {A : Option Addr} (ho : o.op = .call { callee := .builtin .append, args := #[x, y], argTypes := #[t, t] } := by rfl) (hT : TTOk P T := by assumption) (ht : look T t = some ⟨.slice e, s, b⟩ := by rfl) (he : look T e = some ⟨ek, es, eb⟩ := by rfl) (hx : Opv fr x (.lit (.slice A 0 0)) := by exact opv_std) (hy : Src fr H y E ys := by first | exact .snap (by exact opv_std) | exact .own (by exact opv_std) rfl | exact .nil (by exact opv_std)) (hs : es = E.size := by rfl) (hE : Nat.blt 0 es = true := by rfl) (hm : ys.length ≤ 1000000 := by first | omega | (simp only [List.length_append, List.length_cons, List.length_nil, List.length_take, List.length_drop, List.length_replicate, List.length_map, List.length_set]; omega)) (hb : Nat.ble eb 1000000 = true := by rfl) : SOp P o fr H (.snap (slF E ys)) := fun S γ w ρ h => by
  have hsv := h.lit hx (by simp [ho, Op.operands, Call.operands])
  obtain ⟨B, dd, us, hxv, hdd, hrow, hus, hu1⟩ := hy.get h (by simp [ho, Op.operands, Call.operands])
  obtain ⟨i, z, hi, hi1, hi2, hz, hzs⟩ := hT.info he
  simp only at hi1 hi2 hzs
  have hlen := AV.holdsL_len hus
  rw [Enc.all_len] at hlen
  have hE' : 0 < es := Nat.lt_of_lt_of_le Nat.zero_lt_one (Nat.le_of_ble_eq_true hE)
  have hb' : eb ≤ 1000000 := Nat.le_of_ble_eq_true hb
  have hbb : (0 + ys.length) * eb ≤ 140737488355328 := by
    have := Nat.mul_le_mul (show 0 + ys.length ≤ 1000000 by omega) hb'
    omega
  obtain ⟨v', w', hrun, hown', hgr, hwb⟩ := run_app (P := P) w w.heap.size t o.type e i z E.size eb (hT.slice ht) hi hz (by rw [hi1, hs]) hi2 (by rw [hzs, hs]) (by omega) (.slice A 0 0) 0 [] (by simpa using Own.nil w w.heap.size e E.size A) B ys.length dd us hlen hrow hu1 hbb (by unfold maxLen; omega) (Nat.le_refl _)
  have hexec : (execOp ρ o).run P w = .ok (.value v') w' := by
    unfold execOp
    simp only [ho, resolve, invoke, builtin, Sem.run_bind, Sem.run_pure, Result.andThen_ok, List.map_toArray, List.map_cons, List.map_nil, hsv, hxv, hrun]
  have hwn : wblk (.slice A 0 0) = none := by cases A <;> rfl
  have hx' : Ext w w' := ⟨hgr.os, hgr.tape, hgr.output, hgr.size, fun b hb => hgr.block b hb (by rw [hwn]; simp)⟩
  refine outc hexec ⟨hx', ?_⟩
  simp only [AV.holds]
  obtain ⟨A', c', hv', hc', _, hr'⟩ := hown'.row
  rw [Nat.zero_add, List.nil_append] at *
  refine ⟨A', c', us, hv', by omega, fun hne => ?_, AV.extL (fun _ h => .inl h) (fun b hb => hx'.block b (h.st.sz b hb)) hus, hu1⟩
  obtain ⟨ad, hA, hcell⟩ := hr' hne
  refine ⟨ad, hA, ?_, hcell⟩
  obtain ⟨_, A2, c2, hv2, ⟨hz2, _⟩ | ⟨g, cur, hA2, hbase, hh, _⟩⟩ := hown'
  · exfalso
    apply hne
    rw [hz2, Nat.zero_mul] at hlen
    exact List.eq_nil_of_length_eq_zero hlen
  · rw [hv2] at hv'
    injection hv' with h1 h2 h3
    rw [← h1, hA2] at hA
    injection hA with hA
    subst hA
    exact .inr ⟨hbase, hh.lt⟩
/-- one's own, only read from here on -/
theorem a_frzOwn {c : Ctx} {n : Nat} {Q : AQ} (id j : Nat) {l : Array Oper} {d : Bool} {e : Nat} {zs : List α} (hj : look H j = some (.own e E zs) := by rfl) (h : ACode P c n (.region id l d) Q (frzO j E zs fr) (dropH (one1 j) H)) : ACode P c n (.region id l d) Q fr H := a_freezeOwn j hj h
end
end Go.Proofs.YtgdkeafdlehlaaaDoor
