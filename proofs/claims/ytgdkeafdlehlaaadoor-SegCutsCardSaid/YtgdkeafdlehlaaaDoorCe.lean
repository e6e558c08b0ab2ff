/- Runes and their bytes, both ways. Nothing of the program stands here. -/
import Derived.Test.YtgdkeafdlehlaaaDoorCc
namespace Go.Proofs.YtgdkeafdlehlaaaDoor
open Go Go.RowKit
set_option linter.unusedVariables false
set_option linter.unusedSimpArgs false
/-- is it a rune that stands for itself? -/
def svR (r : Int) : Prop := (0 ≤ r ∧ r < 55296) ∨ (57343 < r ∧ r ≤ 1114111)
theorem u8n (m : Int) (h0 : 0 ≤ m) (h1 : m < 256) : (m.toNat.toUInt8).toNat = m.toNat := by
  simp
  omega
theorem num4 (k : Nat) : k / 262144 * 262144 + k / 4096 % 64 * 4096 + k / 64 % 64 * 64 + k % 64 = k := by
  have e1 := Nat.div_div_eq_div_mul k 64 64
  have e2 := Nat.div_div_eq_div_mul k 4096 64
  have d1 := Nat.div_add_mod k 64
  have d2 := Nat.div_add_mod (k / 64) 64
  have d3 := Nat.div_add_mod (k / 4096) 64
  simp only [Nat.reduceMul] at e1 e2
  rw [e1] at d2
  rw [e2] at d3
  omega
theorem dec4 (n a b c d : Nat) (hn : 3 < n) (ha : a ≤ 7) (hb : b < 64) (hc : c < 64) (hd : d < 64) (h0 : 65536 ≤ a * 262144 + b * 4096 + c * 64 + d) (h1 : a * 262144 + b * 4096 + c * 64 + d ≤ 1114111) : Lib.decodeN n (240 + a) (128 + b) (128 + c) (128 + d) = (a * 262144 + b * 4096 + c * 64 + d, 4) := by
  unfold Lib.decodeN
  rw [show (240 + a) % 8 = a by omega, show (128 + b) % 64 = b by omega, show (128 + c) % 64 = c by omega, show (128 + d) % 64 = d by omega]
  rw [if_neg (by omega), if_neg (by rintro ⟨h, _⟩; omega), if_neg (by rintro ⟨h, _⟩; omega), if_pos ⟨by omega, ⟨by omega, by omega⟩, ⟨by omega, by omega⟩, by omega, by omega⟩, if_pos ⟨h0, .inr ⟨by omega, h1⟩⟩]
set_option maxHeartbeats 1000000 in
theorem dec_enc (r : Int) (h : svR r) (t : List UInt8) : Lib.decodeL (Lib.encodeRune r ++ t) = (r.toNat, (Lib.encodeRune r).length) := by
  rw [Lib.decodeL_N]
  unfold Lib.encodeRune
  have hc : ∀ (m : Int), 0 ≤ m → m < 64 → (((128 + m).toNat).toUInt8).toNat = 128 + m.toNat := fun m h0 h1 => by rw [u8n _ (by omega) (by omega)]; omega
  unfold svR at h
  by_cases h1 : 0 ≤ r ∧ r ≤ 127
  · rw [Lib.encodeRuneZ_one h1.1 h1.2]
    simp only [List.map_cons, List.map_nil, List.cons_append, List.nil_append, List.getD_cons_zero, List.length_cons, List.length_nil]
    rw [u8n r (by omega) (by omega)]
    unfold Lib.decodeN
    rw [if_pos (by omega)]
  by_cases h2 : 128 ≤ r ∧ r ≤ 2047
  · rw [Lib.encodeRuneZ_two h2.1 h2.2]
    simp only [List.map_cons, List.map_nil, List.cons_append, List.nil_append, List.getD_cons_zero, List.getD_cons_succ, List.length_cons, List.length_nil]
    rw [u8n (192 + r / 64) (by omega) (by omega), hc (r % 64) (by omega) (by omega)]
    generalize (t.getD 0 0).toNat = b2
    generalize (t.getD 1 0).toNat = b3
    generalize t.length = n
    unfold Lib.decodeN
    rw [if_neg (by omega), if_pos (by omega), if_pos (by omega)]
    refine Prod.ext ?_ rfl
    show _ = r.toNat
    omega
  by_cases h3 : (2048 ≤ r ∧ r < 55296) ∨ (57343 < r ∧ r ≤ 65535)
  · rw [Lib.encodeRuneZ_three h3]
    simp only [List.map_cons, List.map_nil, List.cons_append, List.nil_append, List.getD_cons_zero, List.getD_cons_succ, List.length_cons, List.length_nil]
    rw [u8n (224 + r / 4096) (by omega) (by omega), hc (r / 64 % 64) (by omega) (by omega), hc (r % 64) (by omega) (by omega)]
    generalize (t.getD 0 0).toNat = b3
    generalize t.length = n
    unfold Lib.decodeN
    have e : (224 + r / 4096).toNat % 16 * 4096 + (128 + (r / 64 % 64).toNat) % 64 * 64 + (128 + (r % 64).toNat) % 64 = r.toNat := by omega
    rw [if_neg (by omega), if_neg (by omega), if_pos (by omega), if_pos (by rw [e]; omega), e]
  · rw [Lib.encodeRuneZ_four (by omega) (by omega)]
    simp only [List.map_cons, List.map_nil, List.cons_append, List.nil_append, List.getD_cons_zero, List.getD_cons_succ, List.length_cons, List.length_nil]
    rw [u8n (240 + r / 262144) (by omega) (by omega), hc (r / 4096 % 64) (by omega) (by omega), hc (r / 64 % 64) (by omega) (by omega), hc (r % 64) (by omega) (by omega)]
    generalize t.length = n
    obtain ⟨k, rfl⟩ := Int.eq_ofNat_of_zero_le (show 0 ≤ r by omega)
    have k0 : (240 + (k : Int) / 262144).toNat = 240 + k / 262144 := by omega
    have k2 : ((k : Int) / 4096 % 64).toNat = k / 4096 % 64 := by omega
    have k3 : ((k : Int) / 64 % 64).toNat = k / 64 % 64 := by omega
    have k4 : ((k : Int) % 64).toNat = k % 64 := by omega
    have hk : 65536 ≤ k ∧ k ≤ 1114111 := by omega
    clear h h1 h2 h3 hc
    have hk7 : k / 262144 ≤ 7 := by clear k0 k2 k3 k4; omega
    rw [k0, k2, k3, k4, dec4 (n + 1 + 1 + 1 + 1) _ _ _ _ (by clear hk7 k0 k2 k3 k4 hk; omega) hk7 (Nat.mod_lt _ (by decide)) (Nat.mod_lt _ (by decide)) (Nat.mod_lt _ (by decide)) (by rw [num4]; exact hk.1) (by rw [num4]; exact hk.2), num4 k]
    rfl
theorem enc_ne (r : Int) : Lib.encodeRune r ≠ [] := by
  unfold Lib.encodeRune Lib.encodeRuneZ
  repeat' split
  all_goals simp
theorem sv_toNat {r : Int} (h : svR r) : ((r.toNat : Nat) : Int) = r := by
  unfold svR at h
  omega
theorem rns_cons {r : Int} (h : svR r) (t : List UInt8) : rns (Lib.encodeRune r ++ t) = r :: rns t := by
  rw [rns_step (by intro e; exact enc_ne r (List.append_eq_nil_iff.1 e).1), dec_enc r h t, sv_toNat h, List.drop_left]
theorem rns_rb_app : ∀ {xs : List Int}, (∀ r ∈ xs, svR r) → ∀ m : List UInt8, rns (rb xs ++ m) = xs ++ rns m
  | [], _, m => by rw [rb_nil]; rfl
  | r :: xs, h, m => by
    rw [rb_cons, List.append_assoc, rns_cons (h r List.mem_cons_self), rns_rb_app (fun x hx => h x (List.mem_cons_of_mem _ hx))]
    rfl
theorem rns_rb {xs : List Int} (h : ∀ r ∈ xs, svR r) : rns (rb xs) = xs := by
  have := rns_rb_app h []
  rwa [List.append_nil, rns_nil, List.append_nil] at this
theorem validD_enc {r : Int} (h : svR r) (t : List UInt8) : Lib.validD (Lib.encodeRune r ++ t) = Lib.validD t := by
  rw [Lib.validD_step _ (by intro e; exact enc_ne r (List.append_eq_nil_iff.1 e).1), dec_enc r h t, List.drop_left]
  refine if_neg ?_
  rintro ⟨h1, h2⟩
  have : r = 65533 := by have := sv_toNat h; omega
  subst this
  exact absurd h2 (by decide)
theorem validD_rb_app : ∀ {xs : List Int}, (∀ r ∈ xs, svR r) → ∀ m : List UInt8, Lib.validD (rb xs ++ m) = Lib.validD m
  | [], _, m => by rw [rb_nil]; rfl
  | r :: xs, h, m => by
    rw [rb_cons, List.append_assoc, validD_enc (h r List.mem_cons_self), validD_rb_app (fun x hx => h x (List.mem_cons_of_mem _ hx))]
theorem validD_rb {xs : List Int} (h : ∀ r ∈ xs, svR r) : Lib.validD (rb xs) = true := by
  have := validD_rb_app h []
  rwa [List.append_nil, Lib.validD_nil] at this
theorem decN_sv (n b0 b1 b2 b3 : Nat) : svR ((Lib.decodeN n b0 b1 b2 b3).1 : Int) := by
  unfold Lib.decodeN svR
  repeat' split
  all_goals (dsimp only; omega)
theorem rns_sv : ∀ (n : Nat) (l : List UInt8), l.length ≤ n → ∀ r ∈ rns l, svR r
  | 0, l, h, r, hr => by
    obtain rfl : l = [] := List.length_eq_zero_iff.1 (by omega)
    rw [rns_nil] at hr
    cases hr
  | n + 1, l, h, r, hr => by
    by_cases hl : l = []
    · subst hl
      rw [rns_nil] at hr
      cases hr
    · rw [rns_step hl] at hr
      rcases List.mem_cons.1 hr with e | hr
      · rw [e, Lib.decodeL_N]
        exact decN_sv _ _ _ _ _
      · have := Lib.decodeL_width l
        exact rns_sv n _ (by rw [List.length_drop]; have := List.length_pos_iff.2 hl; omega) r hr
theorem sv_of (l : List UInt8) : ∀ r ∈ rns l, svR r := rns_sv l.length l (Nat.le_refl _)
theorem rns_app {l : List UInt8} (h : Lib.validD l = true) (m : List UInt8) : rns (l ++ m) = rns l ++ rns m := by
  have e := (valid_rb l).2 h
  have := rns_rb_app (sv_of l) m
  rwa [e] at this
theorem validD_app {l : List UInt8} (h : Lib.validD l = true) (m : List UInt8) : Lib.validD (l ++ m) = Lib.validD m := by
  have e := (valid_rb l).2 h
  have := validD_rb_app (sv_of l) m
  rwa [e] at this
/-- what a step of a range over a valid text meets -/
theorem dec_step {m : List UInt8} (hv : Lib.validD m = true) (hne : m ≠ []) : rns m = ((Lib.decodeL m).1 : Int) :: rns (m.drop (Lib.decodeL m).2) ∧ Lib.encodeRune ((Lib.decodeL m).1 : Int) = m.take (Lib.decodeL m).2 ∧ Lib.validD (m.drop (Lib.decodeL m).2) = true ∧ (Lib.decodeL m).2 ≤ m.length ∧ 1 ≤ (Lib.decodeL m).2 := by
  have hb : ¬ ((Lib.decodeL m).1 = 65533 ∧ (Lib.decodeL m).2 = 1) := by
    rw [Lib.validD_step _ hne] at hv
    intro hb
    rw [if_pos hb] at hv; cases hv
  refine ⟨rns_step hne, Lib.encode_decode _ hne hb, ?_, Lib.decodeL_le m hne, Lib.decodeL_width m⟩
  rw [Lib.validD_step _ hne, if_neg hb] at hv
  exact hv
theorem rb_one (r : Int) : rb [r] = Lib.encodeRune r := by rw [rb_cons, rb_nil, List.append_nil]
end Go.Proofs.YtgdkeafdlehlaaaDoor
