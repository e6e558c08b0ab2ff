/- Lines: how wide they are. -/
import Derived.Test.YtgcihcpojjifmaaDoorU6
namespace Go.Proofs.YtgcihcpojjifmaaDoor
open Go Go.RowKit
set_option linter.unusedVariables false
set_option linter.unusedSimpArgs false

theorem rns_ascii : ∀ {l : List UInt8}, (∀ b ∈ l, b.toNat < 128) → Lib.validD l = true ∧ rns l = l.map fun b => (b.toNat : Int)
  | [], _ => ⟨rfl, rfl⟩
  | b :: t, h => by
    have hb := h b List.mem_cons_self
    have ih := rns_ascii (l := t) fun x hx => h x (List.mem_cons_of_mem _ hx)
    refine ⟨by rw [Lib.validD_cons b t hb]; exact ih.1, ?_⟩
    rw [rns_step (by simp), Lib.decodeL_ascii b t hb]
    show ((b.toNat : Nat) : Int) :: rns ((b :: t).drop 1) = _
    rw [List.drop_one, List.tail_cons, ih.2]
    rfl
theorem sumC_ascii {l : List UInt8} (h : ∀ b ∈ l, b.toNat < 128) : sumC (rns l) = (l.length : Int) := by
  rw [(rns_ascii h).2]
  induction l with
  | nil => rfl
  | cons b t ih =>
    have hb := h b List.mem_cons_self
    have hc : colR (b.toNat : Int) = 1 := by
      unfold colR wdR
      rw [if_neg]
      simp
      omega
    rw [List.map_cons, sumC_cons, ih fun x hx => h x (List.mem_cons_of_mem _ hx), hc, List.length_cons]
    omega
theorem dig_ascii : ∀ (k u : Nat), u ≤ k → ∀ b ∈ Lib.decDigits u, b.toNat < 128
  | k, u, hk, b, hb => by
    by_cases h10 : u < 10
    · rw [Lib.decDigits_one h10, List.mem_singleton] at hb
      subst hb
      have : (UInt8.ofNat (48 + u)).toNat = 48 + u := by
        simp
        omega
      omega
    · match k, hk with
      | 0, hk => omega
      | k + 1, hk =>
        rw [dig_step u h10] at hb
        rcases List.mem_append.1 hb with h | h
        · exact dig_ascii k (u / 10) (by omega) b h
        · rw [List.mem_singleton] at h
          subst h
          have : (UInt8.ofNat (48 + u % 10)).toNat = 48 + u % 10 := by
            simp
            omega
          omega
theorem blk_ascii (k : Nat) : ∀ b ∈ blk k, b.toNat < 128 := by
  induction k with
  | zero =>
    intro b hb
    cases hb
  | succ k ih =>
    intro b hb
    rw [← blk_cons] at hb
    rcases List.mem_cons.1 hb with h | h
    · subst h; decide
    · exact ih b h
theorem right_ascii {n : Int} (h0 : 0 ≤ n) (c : Int) : ∀ b ∈ rightL n c, b.toNat < 128 := by
  intro b hb
  rw [right_blk] at hb
  rcases List.mem_append.1 hb with h | h
  · exact blk_ascii _ b h
  · obtain ⟨u, rfl⟩ := Int.eq_ofNat_of_zero_le h0
    unfold itoU at h
    rw [Lib.itoa_nonneg] at h
    exact dig_ascii u u (Nat.le_refl _) b h
theorem right_width {n c : Int} (h0 : 0 ≤ n) (h1 : ((itoU n).length : Int) ≤ c) : ((rightL n c).length : Int) = c := by
  rw [right_blk, List.length_append, blk_len]
  omega
/-- a rune again and again -/
theorem rep_rb (s : List UInt8) (r : Int) (hs : Lib.encodeRune r = s) : ∀ k : Nat, Lib.repeatL s k = rb (List.replicate k r)
  | 0 => rfl
  | k + 1 => by
    rw [List.replicate_succ, rb_cons, ← rep_rb s r hs k, hs]
    rfl
theorem sumC_repl (r : Int) (h : colR r = 1) (k : Nat) : sumC (List.replicate k r) = (k : Int) := by
  induction k with
  | zero => rfl
  | succ k ih =>
    rw [List.replicate_succ, sumC_cons, ih, h]
    omega
theorem bar_rns {n of c : Int} (h0 : 0 ≤ c) (h1 : c ≤ 200) : Lib.validD (barL n of c) = true ∧ rns (barL n of c) = List.replicate (c * pctS n of / 100).toNat 9608 ++ List.replicate (c - c * pctS n of / 100).toNat 183 := by
  have e : barL n of c = rb (List.replicate (c * pctS n of / 100).toNat 9608 ++ List.replicate (c - c * pctS n of / 100).toNat 183) := by
    unfold barL repU
    rw [if_neg (by omega), rep_rb [226, 150, 136] 9608 (by decide), rep_rb [194, 183] 183 (by decide), rb_app]
  have hs : ∀ r ∈ List.replicate (c * pctS n of / 100).toNat (9608 : Int) ++ List.replicate (c - c * pctS n of / 100).toNat 183, svR r := fun r hr => by
    rcases List.mem_append.1 hr with h | h
    · rw [List.eq_of_mem_replicate h]; exact .inl (by decide)
    · rw [List.eq_of_mem_replicate h]; exact .inl (by decide)
  rw [e]
  exact ⟨validD_rb hs, rns_rb hs⟩
theorem bar_cols {n of c : Int} (h0 : 0 ≤ c) (h1 : c ≤ 200) : sumC (rns (barL n of c)) = c := by
  have hb := bar_full (n := n) (of := of) h0 h1
  rw [(bar_rns h0 h1).2, sumC_app, sumC_repl _ (by decide), sumC_repl _ (by decide)]
  omega
theorem line_len (l : List UInt8) (d c m w : Int) : (lineL l d c m w).length ≤ 2000 := by
  unfold lineL
  split
  · rename_i hok
    obtain ⟨⟨⟨⟨⟨k1, k2⟩, k3⟩, k4⟩, k5⟩, k6⟩ := (okL_iff l d c m w).1 hok
    have j3 := (inB_iff c).1 k3
    have h12 := clip_12 k1
    have hcl := clip_len l 12
    have hbl := barL_len d m (w - 30)
    have hpb := pct_bd d m
    have hr1 := rightL_len (pctS d m) 3 hpb.1 (by omega) (by decide)
    have hr2 := rightL_len c 10 j3.1 j3.2 (by decide)
    have hru := repU_len [32] (12 - sumC (rns (clipL l 12)))
    unfold lineT shortL
    simp only [List.length_append, List.length_cons, List.length_nil] at *
    omega
  · simp
theorem line_cols {l : List UInt8} {d c m w : Int} (hok : okL l d c m w = true) : sumC (rns (lineT l d c m w)) = w := by
  obtain ⟨⟨⟨⟨⟨k1, k2⟩, k3⟩, k4⟩, k5⟩, k6⟩ := (okL_iff l d c m w).1 hok
  have j3 := (inB_iff c).1 k3
  have h12 := clip_12 k1
  have hpb := pct_bd d m
  have hp3 : ((itoU (pctS d m)).length : Int) ≤ 3 := by
    obtain ⟨u, hu⟩ := Int.eq_ofNat_of_zero_le hpb.1
    rw [hu]
    unfold itoU
    rw [Lib.itoa_nonneg, Lib.decDigits_length]
    by_cases h10 : u < 10
    · rw [Lib.nDigits_small h10]; decide
    · rw [Lib.nDigits, dif_neg h10]
      by_cases h100 : u / 10 < 10
      · rw [Lib.nDigits_small h100]; decide
      · rw [Lib.nDigits, dif_neg h100, Lib.nDigits_small (by omega)]; decide
  have hr2 : ((itoU c).length : Int) ≤ 10 := by have := (itoU_len c j3.1 j3.2).2; omega
  have hsh : shortL l = clipL l 12 ++ blk (12 - sumC (rns (clipL l 12))).toNat := rfl
  have hvs : Lib.validD (shortL l) = true := by rw [hsh, validD_app (clip_valid 12 k1)]; exact (rns_blk _).1
  have a1 : Lib.validD [32] = true := by decide
  have a2 : Lib.validD [37, 32] = true := by decide
  have vb := (bar_rns (n := d) (of := m) (c := w - 30) (by omega) (by omega)).1
  have v1 := (rns_ascii (right_ascii hpb.1 3)).1
  have v2 := (rns_ascii (right_ascii j3.1 10)).1
  unfold lineT
  simp only [List.append_assoc]
  rw [rns_app hvs, rns_app a1, rns_app vb, rns_app a1, rns_app v1, rns_app a2, rns_app v2]
  simp only [sumC_app]
  rw [hsh, sum_clip_blk k1, bar_cols (by omega) (by omega), sumC_ascii (right_ascii hpb.1 3), sumC_ascii (right_ascii j3.1 10), right_width hpb.1 hp3, right_width j3.1 hr2]
  have e1 : sumC (rns [32]) = 1 := by decide +kernel
  have e2 : sumC (rns [37, 32]) = 2 := by decide +kernel
  have e3 : sumC (rns [43]) = 1 := by decide +kernel
  rw [e1, e2, e3]
  omega
end Go.Proofs.YtgcihcpojjifmaaDoor
