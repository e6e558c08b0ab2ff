/- What may be said, cut; numbers read: plain. -/
import Derived.Test.YtgiicfjibngooaaDoorK6
namespace Go.Proofs.YtgiicfjibngooaaDoor
open Go Go.RowKit
set_option linter.unusedVariables false
set_option linter.unusedSimpArgs false
attribute [local irreducible] ACode AOps AThen ABlock ACut

/-- nil just if b -/
def niF (b : Bool) : SFact where
  holds S w v := (b = true ∧ v = .nilIface) ∨ (b = false ∧ ∃ t p, v = .iface t p)
  mono := by
    rintro S S' w w' v h hs hw
    exact h
  one := by
    rintro S w v (⟨_, rfl⟩ | ⟨_, t, p, rfl⟩) <;> rfl
section
variable {P : Program} {T : List (Nat × TI)} {fr : List (Nat × AV)} {H : List (Nat × Res)} {o : Oper} {x : Operand} {t t' s b : Nat}
theorem sop_eql_ni {g : Bool} (ho : o.op = .binOp .eql t x (.const .nilIface) t' := by rfl) (hT : TTOk P T := by assumption) (ht : look T t = some ⟨.iface, s, b⟩ := by rfl) (hx : Opv fr x (.snap (niF g)) := by exact opv_std) : SOp P o fr H (.lit (.bool g)) := fun S γ w ρ h => by
  have h1 := h.get hx (by simp [ho, Op.operands])
  simp only [AV.holds] at h1
  have h2 : ρ (.const .nilIface) = .nilIface := h.const _
  obtain ⟨ms, hu⟩ := hT.iface ht
  refine outl ?_
  rcases h1 with ⟨rfl, hv⟩ | ⟨rfl, a, p, hv⟩ <;> simp [execOp, ho, hv, h2, eqGuard, go_sem, hu]
end
theorem hexL_mem : ∀ (k n : Nat), n ≤ k → ∀ b ∈ hexL n, ∃ d, d < 16 ∧ b = hd d
  | 0, n, h, b, hb => by
    obtain rfl : n = 0 := by omega
    rw [hexL_lo (by omega)] at hb
    exact ⟨0, by omega, by simpa using hb⟩
  | k + 1, n, h, b, hb => by
    by_cases hn : n < 16
    · rw [hexL_lo hn] at hb
      exact ⟨n, hn, by simpa using hb⟩
    · rw [hexL_hi hn, List.mem_append] at hb
      rcases hb with hb | hb
      · exact hexL_mem k (n / 16) (by omega) b hb
      · exact ⟨n % 16, by omega, by simpa using hb⟩
theorem hd_ne32 : ∀ d : Fin 16, hd d.val ≠ 32 := by decide +kernel
theorem hx_no (n : Nat) : ∀ b ∈ hx n, b ≠ 32 := by
  intro b hb
  unfold hx at hb
  simp only [List.mem_cons] at hb
  rcases hb with rfl | rfl | hb
  · decide
  · decide
  · obtain ⟨d, hd', rfl⟩ := hexL_mem n n (Nat.le_refl _) b hb
    exact hd_ne32 ⟨d, hd'⟩
theorem data_no (d : List UInt8) : ∀ b ∈ dataL d, b ≠ 32 := by
  intro b hb
  unfold dataL at hb
  split at hb
  · simp at hb; subst hb; decide
  · unfold dgs at hb
    obtain ⟨x, _, hx2⟩ := List.mem_flatMap.1 hb
    have := x.toNat_lt
    simp only [List.mem_cons, List.not_mem_nil, or_false] at hx2
    rcases hx2 with rfl | rfl
    · exact hd_ne32 ⟨x.toNat / 16, by omega⟩
    · exact hd_ne32 ⟨x.toNat % 16, by omega⟩
theorem itoU_no : ∀ m : Fin 65, ∀ b ∈ itoU (m.val : Int), b ≠ 32 := by decide +kernel
def wordsC : Cmd → List (List UInt8)
  | .no => []
  | .dirty a d => [[100, 105, 114, 116, 121], hx a, dataL d]
  | .fill a d => [[102, 105, 108, 108], hx a, dataL d]
  | .rd a => [[114, 101, 97, 100], hx a]
  | .evict a => [[101, 118, 105, 99, 116], hx a]
  | .clean a => [[99, 108, 101, 97, 110], hx a]
  | .exi a m => [[101, 120, 105, 115, 116, 115], hx a, itoU m]
theorem spl_say (c : Cmd) (h : okC c = true) : spl (sayL c) = wordsC c := by
  cases c with
  | no => simp [okC] at h
  | dirty a d =>
    have e : sayL (.dirty a d) = [100, 105, 114, 116, 121] ++ 32 :: (hx a ++ 32 :: dataL d) := by simp [sayL]
    rw [e, spl_cons _ (by decide), spl_cons _ (hx_no a), spl_one (data_no d)]
    rfl
  | fill a d =>
    have e : sayL (.fill a d) = [102, 105, 108, 108] ++ 32 :: (hx a ++ 32 :: dataL d) := by simp [sayL]
    rw [e, spl_cons _ (by decide), spl_cons _ (hx_no a), spl_one (data_no d)]
    rfl
  | rd a =>
    have e : sayL (.rd a) = [114, 101, 97, 100] ++ 32 :: hx a := by simp [sayL]
    rw [e, spl_cons _ (by decide), spl_one (hx_no a)]
    rfl
  | evict a =>
    have e : sayL (.evict a) = [101, 118, 105, 99, 116] ++ 32 :: hx a := by simp [sayL]
    rw [e, spl_cons _ (by decide), spl_one (hx_no a)]
    rfl
  | clean a =>
    have e : sayL (.clean a) = [99, 108, 101, 97, 110] ++ 32 :: hx a := by simp [sayL]
    rw [e, spl_cons _ (by decide), spl_one (hx_no a)]
    rfl
  | exi a m =>
    have e : sayL (.exi a m) = [101, 120, 105, 115, 116, 115] ++ 32 :: (hx a ++ 32 :: itoU m) := by simp [sayL]
    rw [e, spl_cons _ (by decide), spl_cons _ (hx_no a), spl_one (by have := itoU_no ⟨m.toNat, by simp [okC] at h; omega⟩; rwa [show ((m.toNat : Nat) : Int) = m by simp [okC] at h; omega] at this)]
    rfl
theorem splitK_mem : ∀ (k : Nat) (l w : List UInt8), w ∈ Lib.splitK [32] 0 k l → w.length ≤ l.length
  | 0, l, w, h => by
    have : w = l := by simpa [Lib.splitK] using h
    rw [this]; exact Nat.le_refl _
  | k + 1, l, w, h => by
    unfold Lib.splitK at h
    split at h
    · have : w = l := by simpa using h
      rw [this]; exact Nat.le_refl _
    · rcases List.mem_cons.1 h with rfl | h
      · rw [List.length_take]; omega
      · have := splitK_mem k _ w h
        rw [List.length_drop] at this
        omega
theorem spl_len (l : List UInt8) {k : Nat} (h : k < (spl l).length) : (nth (spl l) k).length ≤ l.length := by
  rw [nth_eq h]
  exact splitK_mem _ l _ (List.getElem_mem h)
theorem splitK_max : ∀ (k : Nat) (l : List UInt8), (Lib.splitK [32] 0 k l).length ≤ k + 1
  | 0, l => Nat.le_refl _
  | k + 1, l => by
    unfold Lib.splitK
    split
    · simp
    · have := splitK_max k (l.drop ((Lib.index l [32]).toNat + ([32] : List UInt8).length))
      rw [List.length_cons]; omega
theorem spl_max (l : List UInt8) : (spl l).length ≤ l.length + 2 := by
  have h1 := splitK_max (Lib.count l [32]) l
  have h2 := Lib.count_le l [32]
  unfold spl
  omega
theorem rdX_len (l : List UInt8) : (rdX l).1.length ≤ l.length := by
  unfold rdX
  split
  · exact Nat.zero_le _
  · split
    · exact Nat.zero_le _
    · split
      · show (outP l (l.length / 2)).length ≤ _
        rw [outP_len]; omega
      · exact Nat.zero_le _
theorem numX (l : List UInt8) (hl : l.length ≤ 70368744177664) : ∃ (n : Nat) (b : Bool), n < 18446744073709551616 ∧ Con Tryd.prog 24 [.lit (.string (strOf l))] [] (fun az hz => az = .tup [.lit (.int .u64 (n : Int)), .lit (.bool b)] ∧ hz = []) ∧ Con Tryd.prog 28 [.lit (.string (strOf l))] [] (fun az hz => az = .tup [.lit (.int .u64 (n : Int)), .lit (.bool b)] ∧ hz = []) ∧ ∀ a, a < 18446744073709551616 → l = hx a → n = a ∧ b = true := by
  by_cases h : ∃ a, a < 18446744073709551616 ∧ l = hx a
  · obtain ⟨a, ha, rfl⟩ := h
    exact ⟨a, true, ha, num_ok a ha, rnum_ok a ha, fun a' _ e => ⟨hx_inj e, rfl⟩⟩
  · have h2 : ∀ n, n < 18446744073709551616 → l ≠ hx n := fun n hn e => h ⟨n, hn, e⟩
    exact ⟨0, false, by omega, num_no l hl h2, rnum_no l hl h2, fun a ha e => absurd e (h2 a ha)⟩
theorem ati_all : ∀ m : Fin 65, Lib.atoiAll (itoU (m.val : Int)) = .ok (m.val : Int) := by decide +kernel
theorem atoi_bd {l : List UInt8} {v : Int} (h : Lib.atoiAll l = .ok v) : -9223372036854775808 ≤ v ∧ v ≤ 9223372036854775807 := by
  cases l with
  | nil => cases h
  | cons c r =>
    unfold Lib.atoiAll at h
    dsimp only at h
    split at h
    · cases h
    · cases h
    · rename_i u hu
      split at h
      · cases h
      · split at h
        · cases h
        · rename_i h1 h2
          injection h with h
          subst h
          split <;> omega
theorem ni_nil {S : Nat → Prop} {γ : Nat → Value} {w : World} {v : Value} (h : AV.holds S γ w (.lit .nilIface) v) : AV.holds S γ w (.snap (niF true)) v := .inl ⟨rfl, h⟩
theorem ni_nn {S : Nat → Prop} {γ : Nat → Value} {w : World} {v : Value} (h : AV.holds S γ w (.snap nnF) v) : AV.holds S γ w (.snap (niF false)) v := .inr ⟨rfl, h⟩
theorem atX (l : List UInt8) (hl : l.length ≤ 70368744177664) : ∃ v b, (-9223372036854775808 ≤ v ∧ v ≤ 9223372036854775807) ∧ Con Tryd.prog 26 [.lit (.string (strOf l))] [] (fun az hz => az = .tup [.lit (.int .i64 v), .snap (niF b)] ∧ hz = []) ∧ ∀ m : Int, 0 ≤ m → m ≤ 64 → l = itoU m → v = m ∧ b = true := by
  by_cases h : ∃ v, Lib.atoiAll l = .ok v ∧ -9223372036854775808 ≤ v ∧ v ≤ 9223372036854775807
  · obtain ⟨v, hv, hb⟩ := h
    refine ⟨v, true, hb, con_weak (at_ok l hl v hv) (by rintro az hz ⟨rfl, rfl⟩; exact ⟨_, fun _ _ _ _ h => tup_wk (fun _ => ni_nil) h, rfl, rfl⟩), fun m h0 h1 e => ⟨?_, rfl⟩⟩
    have := ati_all ⟨m.toNat, by omega⟩
    rw [show ((m.toNat : Nat) : Int) = m by omega, ← e, hv] at this
    injection this
  · have h2 : ∀ v, Lib.atoiAll l ≠ .ok v := fun v hv => h ⟨v, hv, atoi_bd hv⟩
    obtain ⟨v, hc, hb⟩ := at_no l hl h2
    refine ⟨v, false, hb, con_weak hc (by rintro az hz ⟨rfl, rfl⟩; exact ⟨_, fun _ _ _ _ h => tup_wk (fun _ => ni_nn) h, rfl, rfl⟩), fun m h0 h1 e => ?_⟩
    have := ati_all ⟨m.toNat, by omega⟩
    rw [show ((m.toNat : Nat) : Int) = m by omega, ← e] at this
    exact absurd this (h2 m)
end Go.Proofs.YtgiicfjibngooaaDoor
