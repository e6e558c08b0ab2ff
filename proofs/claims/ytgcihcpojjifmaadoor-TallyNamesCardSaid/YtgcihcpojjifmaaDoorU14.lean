/- Lines of names: what stands ahead. -/
import Derived.Test.YtgcihcpojjifmaaDoorU12
namespace Go.Proofs.YtgcihcpojjifmaaDoor
open Go Go.RowKit
set_option linter.unusedVariables false
set_option linter.unusedSimpArgs false
theorem sop_slice_one {P : Program} {T : List (Nat × TI)} {o : Oper} {fr : List (Nat × AV)} {H : List (Nat × Res)} {α : Type} [Inhabited α] {E : Enc α} {xs : List α} {x y z : Operand} {t e s b : Nat} {ei : TI} {i j : Int} (ho : o.op = .slice t x (some y) (some z) none := by rfl) (hT : TTOk P T := by assumption) (ht : look T t = some ⟨.slice e, s, b⟩ := by rfl) (he : look T e = some ei := by rfl) (hx : Opv fr x (.snap (slF E xs)) := by exact opv_std) (hlo : Opv fr y (.lit (.int .i64 i)) := by exact opv_std) (hhi : Opv fr z (.lit (.int .i64 j)) := by exact opv_std) (hj : j = i + 1 := by first | rfl | omega) (h0 : 0 ≤ i := by omega) (h1 : i < (xs.length : Int) := by omega) (hs : ei.size = E.size := by rfl) : SOp P o fr H (.snap (slF E [nth xs i.toNat])) := by
  obtain ⟨k, rfl⟩ := Int.eq_ofNat_of_zero_le h0
  have hk : k < xs.length := by omega
  have e : (xs.drop k).take (k + 1 - k) = [nth xs (Int.toNat (k : Int))] := by
    rw [Int.toNat_natCast, nth_eq hk, List.drop_eq_getElem_cons hk, Nat.add_sub_cancel_left]
    rfl
  have := sop_slice_snap (P := P) (fr := fr) (H := H) (a := k) (c := k + 1) ho hT ht he hx hlo (by rw [hj] at hhi; exact_mod_cast hhi) (by omega) (by omega) hs
  rwa [e] at this

theorem nth_app_hi {xs : List Int} {m : Nat} {q : Int} {i : Nat} (h : xs.length ≤ i) (h2 : i < xs.length + m) : nth (xs ++ List.replicate m q) i = q := by
  rw [nth_eq (by rw [List.length_append, List.length_replicate]; exact h2), List.getElem_append_right h, List.getElem_replicate]
theorem nth_app_lo {xs ys : List Int} {i : Nat} (h : i < xs.length) : nth (xs ++ ys) i = nth xs i := by
  rw [nth_eq (by rw [List.length_append]; omega), nth_eq h, List.getElem_append_left h]
def RN7 : List Int := [97, 26085, 90, 233, 95, 26412, 55]
theorem rn7 {r : Int} (h : r ∈ RN7) : goodR r = true ∧ svR r ∧ r ≠ 45 := by
  have : ∀ r ∈ RN7, goodR r = true ∧ r ≠ 45 := by decide +kernel
  exact ⟨(this r h).1, good_sv (this r h).1, (this r h).2⟩
theorem may_rn {xs : List Int} (h : ∀ r ∈ xs, r ∈ RN7) (h1 : 1 ≤ xs.length) (h2 : xs.length ≤ 12) : mayL (rb xs) = true ∧ rns (rb xs) = xs := by
  have hs : ∀ r ∈ xs, svR r := fun r hr => (rn7 (h r hr)).2.1
  have e := rns_rb hs
  refine ⟨may_of ⟨validD_rb hs, ?_, ?_, ?_, ?_, ?_⟩, e⟩
  · rw [e]; exact h1
  · rw [e]; exact h2
  · rw [e]; exact (rn7 (h _ (nth_mem (by omega)))).2.2
  · rw [e]; exact (rn7 (h _ (nth_mem (by omega)))).2.2
  · rw [e, List.all_eq_true]
    exact fun r hr => (rn7 (h r hr)).1
/-- what a line begins with, twelve columns -/
def preR (xs : List Int) : List Int := clipG 12 0 xs ++ List.replicate (12 - sumC (clipG 12 0 xs)).toNat 32
theorem short_rns {xs : List Int} (h : mayL (rb xs) = true) (e : rns (rb xs) = xs) : rns (shortL (rb xs)) = preR xs := by
  have hsh : shortL (rb xs) = clipL (rb xs) 12 ++ blk (12 - sumC (rns (clipL (rb xs) 12))).toNat := rfl
  rw [hsh, rns_app (clip_valid 12 h), (rns_blk _).2, clip_rns 12 h, e]
  rfl
theorem prf_sum (xs : List Int) : sumC (preR xs) = 12 := by
  have := clipG_sum (c := 12) (n := 0) xs (by decide)
  have := sumC_bd (clipG 12 0 xs)
  unfold preR
  rw [sumC_app, sumC_repl _ (by decide)]
  omega
theorem clipG_p12 (xs : List Int) : (clipG 12 0 xs).length ≤ xs.length ∧ ∀ i, i < (clipG 12 0 xs).length → nth (clipG 12 0 xs) i = nth xs i := by
  obtain ⟨ys, hy⟩ := clipG_split 12 0 xs
  have hl := congrArg List.length hy
  rw [List.length_append] at hl
  refine ⟨by omega, fun i hi => ?_⟩
  conv => rhs; rw [hy]
  rw [nth_app_lo hi]
theorem prf_at (xs : List Int) {i : Nat} (h : i < (preR xs).length) : (i < xs.length ∧ nth (preR xs) i = nth xs i) ∨ nth (preR xs) i = 32 := by
  obtain ⟨c1, c2⟩ := clipG_p12 xs
  unfold preR at h ⊢
  rw [List.length_append, List.length_replicate] at h
  by_cases hi : i < (clipG 12 0 xs).length
  · rw [nth_app_lo hi, c2 i hi]
    exact .inl ⟨by omega, rfl⟩
  · rw [nth_app_hi (by omega) (by omega)]
    exact .inr rfl
theorem line_rns {l : List UInt8} {d c m w : Int} (hok : okL l d c m w = true) : (∃ T, rns (lineT l d c m w) = rns (shortL l) ++ T) ∧ Lib.validD (lineT l d c m w) = true := by
  obtain ⟨⟨⟨⟨⟨k1, k2⟩, k3⟩, k4⟩, k5⟩, k6⟩ := (okL_iff l d c m w).1 hok
  have j3 := (inB_iff c).1 k3
  have hpb := pct_bd d m
  have hsh : shortL l = clipL l 12 ++ blk (12 - sumC (rns (clipL l 12))).toNat := rfl
  have hvs : Lib.validD (shortL l) = true := by rw [hsh, validD_app (clip_valid 12 k1)]; exact (rns_blk _).1
  have a1 : Lib.validD [32] = true := by decide
  have a2 : Lib.validD [37, 32] = true := by decide
  have vb := (bar_rns (n := d) (of := m) (c := w - 30) (by omega) (by omega)).1
  have v1 := (rns_ascii (right_ascii hpb.1 3)).1
  have v2 := (rns_ascii (right_ascii j3.1 10)).1
  unfold lineT
  simp only [List.append_assoc]
  refine ⟨⟨_, rns_app hvs _⟩, ?_⟩
  rw [validD_app hvs, validD_app a1, validD_app vb, validD_app a1, validD_app v1, validD_app a2, validD_app v2]
  decide
/-- what the walk meets -/
theorem prf_step {xs A : List Int} {T : List Int} (e : A = preR xs ++ T) {i : Nat} (h : i < (preR xs).length) : nth A i = nth (preR xs) i := by
  rw [e, nth_app_lo h]
theorem prf_go (xs : List Int) {i : Nat} (h : i < (preR xs).length) : sumC ((preR xs).take i) < 12 ∧ sumC ((preR xs).take (i + 1)) = sumC ((preR xs).take i) + colR (nth (preR xs) i) := by
  have h2 : sumC ((preR xs).take (i + 1)) = sumC ((preR xs).take i) + colR (nth (preR xs) i) := by rw [take_nth _ _ h, sumC_app, sumC_one]
  refine ⟨?_, h2⟩
  have e := congrArg sumC (List.take_append_drop (i + 1) (preR xs))
  rw [sumC_app, prf_sum, h2] at e
  have := sumC_bd ((preR xs).drop (i + 1))
  have := colR_bd (nth (preR xs) i)
  omega
theorem prf_sv {xs : List Int} (h : ∀ r ∈ xs, r ∈ RN7) {i : Nat} (hi : i < (preR xs).length) : svR (nth (preR xs) i) := by
  rcases prf_at xs hi with ⟨h1, h2⟩ | h2
  · rw [h2]; exact (rn7 (h _ (nth_mem h1))).2.1
  · rw [h2]; exact .inl (by decide)
theorem prf_len (xs : List Int) : (preR xs).length ≤ 12 := by
  have := sumC_bd (preR xs)
  have := prf_sum xs
  omega
/-- a line and its runes -/
theorem line_all {xs : List Int} (h : ∀ r ∈ xs, r ∈ RN7) (h1 : 1 ≤ xs.length) (h2 : xs.length ≤ 12) {d c m : Int} (hd : 0 ≤ d ∧ d < 10000) (hc : 0 ≤ c ∧ c < 10000) (hm : 0 ≤ m ∧ m < 10000) :
    ∃ T, rns (lineL (rb xs) d c m 40) = preR xs ++ T ∧ sumC (preR xs ++ T) = 40 ∧ rb (preR xs ++ T) = lineL (rb xs) d c m 40 ∧ (lineL (rb xs) d c m 40).length ≤ 2000 ∧ 1 ≤ T.length := by
  obtain ⟨hmay, hrns⟩ := may_rn h h1 h2
  have hok : okL (rb xs) d c m 40 = true := (okL_iff _ _ _ _ _).2 ⟨⟨⟨⟨⟨hmay, (inB_iff _).2 (by omega)⟩, (inB_iff _).2 (by omega)⟩, (inB_iff _).2 (by omega)⟩, by omega⟩, by omega⟩
  have e1 := line_cols hok
  have e2 : lineL (rb xs) d c m 40 = lineT (rb xs) d c m 40 := by unfold lineL; rw [if_pos hok]
  have e3 := line_len (rb xs) d c m 40
  obtain ⟨⟨T, e4⟩, e5⟩ := line_rns hok
  rw [short_rns hmay hrns] at e4
  rw [e2] at e3 ⊢
  refine ⟨T, e4, ?_, ?_, e3, ?_⟩
  · rw [← e4, e1]
  · rw [← e4]; exact rb_rns_valid _ _ (Nat.le_refl _) e5
  · rw [e4, sumC_app, prf_sum] at e1
    have := sumC_bd T
    omega
end Go.Proofs.YtgcihcpojjifmaaDoor
