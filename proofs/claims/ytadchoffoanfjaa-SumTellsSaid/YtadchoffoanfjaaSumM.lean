/- The plain law of the sum: a register of 32 bits, bytes pushed through it. Nothing of the program stands here. -/
namespace Go.Proofs.Ytadchoffoanfjaa
abbrev R := BitVec 32
def poly : R := 0x82F63B78#32
def bit (s : R) : R := if s &&& 1#32 = 1#32 then (s >>> 1) ^^^ poly else s >>> 1
def bit8 (s : R) : R := bit (bit (bit (bit (bit (bit (bit (bit s)))))))
def bitN : Nat → R → R
  | 0, s => s
  | n+1, s => bit (bitN n s)
theorem bitN8 (s : R) : bitN 8 s = bit8 s := rfl
def stp (r : R) (b : UInt8) : R := bit8 (r ^^^ b.toBitVec.zeroExtend 32)
def crc (r : R) (l : List UInt8) : R := l.foldl stp r
theorem crc_nil (r : R) : crc r [] = r := rfl
theorem crc_cons (r : R) (b : UInt8) (l : List UInt8) : crc r (b :: l) = crc (stp r b) l := rfl
theorem crc_append (r : R) (l m : List UInt8) : crc r (l ++ m) = crc (crc r l) m := by simp [crc, List.foldl_append]
theorem crc_snoc (r : R) (l : List UInt8) (b : UInt8) : crc r (l ++ [b]) = stp (crc r l) b := by rw [crc_append]; rfl

theorem bit_xor (a b : R) : bit (a ^^^ b) = bit a ^^^ bit b := by
  unfold bit
  have h : ∀ x : R, x &&& 1#32 = 1#32 ↔ x.getLsbD 0 = true := by
    intro x
    constructor
    · intro e
      have := congrArg (fun y : R => y.getLsbD 0) e
      simpa using this
    · intro e
      apply BitVec.eq_of_getLsbD_eq
      intro i hi
      by_cases h0 : i = 0
      · subst h0; simpa using e
      · simp [BitVec.getLsbD_one, h0]
  simp only [h, BitVec.getLsbD_xor]
  cases a.getLsbD 0 <;> cases b.getLsbD 0 <;> simp [BitVec.ushiftRight_xor_distrib]
  · ac_rfl
  · ac_rfl
  · have : a >>> 1 ^^^ poly ^^^ (b >>> 1 ^^^ poly) = a >>> 1 ^^^ b >>> 1 ^^^ (poly ^^^ poly) := by ac_rfl
    rw [this]; simp
theorem bit_zero : bit 0#32 = 0#32 := by decide
theorem bit_inj0 {d : R} (h : bit d = 0#32) : d = 0#32 := by
  unfold bit at h
  split at h
  · exfalso
    have e : d >>> 1 = poly := by
      have := congrArg (· ^^^ poly) h
      simpa [BitVec.xor_assoc] using this
    have := congrArg BitVec.toNat e
    have hd := d.isLt
    simp [poly, Nat.shiftRight_eq_div_pow] at this
    omega
  · rename_i hb
    apply BitVec.eq_of_toNat_eq
    have h1 := congrArg BitVec.toNat h
    simp [Nat.shiftRight_eq_div_pow] at h1
    have hb' : ¬ (d.toNat % 2 = 1) := by
      intro e; apply hb
      apply BitVec.eq_of_toNat_eq
      simp [Nat.and_one_is_mod, e]
    simp; omega
theorem bit8_xor (a b : R) : bit8 (a ^^^ b) = bit8 a ^^^ bit8 b := by simp [bit8, bit_xor]
theorem bit8_zero : bit8 0#32 = 0#32 := by decide
theorem bit8_inj0 {d : R} (h : bit8 d = 0#32) : d = 0#32 :=
  bit_inj0 (bit_inj0 (bit_inj0 (bit_inj0 (bit_inj0 (bit_inj0 (bit_inj0 (bit_inj0 h)))))))
theorem xor_eq_zero {a b : R} : a ^^^ b = 0#32 ↔ a = b := by
  constructor
  · intro h
    have := congrArg (· ^^^ b) h
    simpa [BitVec.xor_assoc] using this
  · rintro rfl; simp
theorem stp_xor (a b : R) (x y : UInt8) : stp (a ^^^ b) (x ^^^ y) = stp a x ^^^ stp b y := by
  unfold stp
  rw [← bit8_xor]
  congr 1
  have : (x ^^^ y).toBitVec.zeroExtend 32 = x.toBitVec.zeroExtend 32 ^^^ y.toBitVec.zeroExtend 32 := by
    simp [BitVec.setWidth_xor]
  rw [this]; ac_rfl
theorem stp_inj {a b : R} {x : UInt8} (h : stp a x = stp b x) : a = b := by
  have h1 := xor_eq_zero.2 h
  rw [← stp_xor] at h1
  have : x ^^^ x = 0 := by simp
  rw [this] at h1
  unfold stp at h1
  have h2 := bit8_inj0 h1
  have : (0 : UInt8).toBitVec.zeroExtend 32 = 0#32 := by decide
  rw [this] at h2
  exact xor_eq_zero.1 (by simpa using h2)
theorem crc_inj {a b : R} (l : List UInt8) : crc a l = crc b l ↔ a = b := by
  induction l generalizing a b with
  | nil => exact Iff.rfl
  | cons x l ih => rw [crc_cons, crc_cons, ih]; exact ⟨stp_inj, fun h => by rw [h]⟩
theorem crc_xor : ∀ (l m : List UInt8) (a b : R), l.length = m.length → crc (a ^^^ b) (List.zipWith (· ^^^ ·) l m) = crc a l ^^^ crc b m
  | [], [], a, b, _ => rfl
  | x :: l, y :: m, a, b, h => by
    simp only [List.zipWith_cons_cons, crc_cons]
    rw [stp_xor]
    exact crc_xor l m _ _ (by simpa using h)
theorem two_bytes (x y : UInt8) (h : stp (stp 0#32 x) y = 0#32) : x = 0 ∧ y = 0 := by
  have hx : x = 0 := by
    unfold stp at h
    have h2 := xor_eq_zero.1 (bit8_inj0 h)
    have h0 : ∀ z : BitVec 8, bit8 (0#32 ^^^ z.zeroExtend 32) >>> 8 = 0#32 → z = 0#8 := by decide +kernel
    have := h0 x.toBitVec (by
      rw [h2]
      apply BitVec.eq_of_toNat_eq
      simp [Nat.shiftRight_eq_div_pow]
      have := y.toNat_lt
      omega)
    exact UInt8.toBitVec_inj.1 this
  subst hx
  refine ⟨rfl, ?_⟩
  have e : stp 0#32 0 = 0#32 := by decide
  rw [e] at h
  have h2 := bit8_inj0 (d := 0#32 ^^^ y.toBitVec.zeroExtend 32) h
  have h3 := congrArg BitVec.toNat h2
  apply UInt8.toBitVec_inj.1
  apply BitVec.eq_of_toNat_eq
  simp at h3 ⊢
  have := y.toBitVec.isLt
  omega
/-- all bits turned -/
def rnot (s : R) : R := ~~~ s
/-- the sum that the program tells -/
def sumOf (l : List UInt8) : R := rnot (crc (rnot 0#32) l)
def more (s : R) (l : List UInt8) : R := rnot (crc (rnot s) l)
theorem more_zero (l : List UInt8) : more 0#32 l = sumOf l := rfl
theorem more_append (s : R) (l m : List UInt8) : more s (l ++ m) = more (more s l) m := by simp [more, rnot, crc_append]
theorem more_nil (s : R) : more s [] = s := by simp [more, rnot, crc]
theorem more_inj {s t : R} (l : List UInt8) : more s l = more t l ↔ s = t := by
  unfold more rnot
  constructor
  · intro h
    have := congrArg (~~~ ·) h
    simp only [BitVec.not_not] at this
    have := (crc_inj l).1 this
    have := congrArg (~~~ ·) this
    simpa only [BitVec.not_not] using this
  · rintro rfl; rfl
theorem sum_adds (a b c : List UInt8) (h1 : a.length = b.length) (h2 : b.length = c.length) :
    sumOf (List.zipWith (· ^^^ ·) (List.zipWith (· ^^^ ·) a b) c) = sumOf a ^^^ sumOf b ^^^ sumOf c := by
  unfold sumOf rnot
  have e : (~~~ 0#32 : R) = (~~~ 0#32 ^^^ ~~~ 0#32) ^^^ ~~~ 0#32 := by decide
  rw [show crc (~~~ 0#32) (List.zipWith (· ^^^ ·) (List.zipWith (· ^^^ ·) a b) c) = crc (~~~ 0#32) a ^^^ crc (~~~ 0#32) b ^^^ crc (~~~ 0#32) c from by
    rw [← crc_xor a b _ _ h1, ← crc_xor _ c _ _ (by simp; omega)]
    rw [← e]]
  generalize crc (~~~ 0#32) a = x; generalize crc (~~~ 0#32) b = y; generalize crc (~~~ 0#32) c = z
  have hn : ∀ x : R, ~~~ x = x ^^^ BitVec.allOnes 32 := by intro x; exact (BitVec.xor_allOnes (x := x)).symm
  simp only [hn]
  have : x ^^^ BitVec.allOnes 32 ^^^ (y ^^^ BitVec.allOnes 32) ^^^ (z ^^^ BitVec.allOnes 32) = x ^^^ y ^^^ z ^^^ BitVec.allOnes 32 ^^^ (BitVec.allOnes 32 ^^^ BitVec.allOnes 32) := by ac_rfl
  rw [this]; simp
theorem sum_finds (p q : List UInt8) (x y by_ too : UInt8) (h : ¬ (by_ = 0 ∧ too = 0)) :
    sumOf (p ++ (x ^^^ by_) :: (y ^^^ too) :: q) ≠ sumOf (p ++ x :: y :: q) := by
  intro e
  unfold sumOf rnot at e
  have e1 := congrArg (~~~ ·) e
  simp only [BitVec.not_not] at e1
  rw [crc_append, crc_append] at e1
  simp only [crc_cons] at e1
  have e2 := (crc_inj q).1 e1
  generalize crc (~~~ 0#32) p = r at e2
  have e3 := xor_eq_zero.2 e2
  rw [← stp_xor, ← stp_xor] at e3
  have c1 : ∀ a b : UInt8, a ^^^ b ^^^ a = b := by intro a b; rw [UInt8.xor_comm a b, UInt8.xor_assoc]; simp
  rw [c1, c1] at e3
  simp only [BitVec.xor_self] at e3
  exact h (two_bytes _ _ e3)
end Go.Proofs.Ytadchoffoanfjaa
