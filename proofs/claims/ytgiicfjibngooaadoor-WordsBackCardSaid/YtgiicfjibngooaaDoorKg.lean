/- The document's reading: sizes. -/
import Derived.Test.YtgiicfjibngooaaDoorKv
import Derived.Test.YtgiicfjibngooaaDoorJ2
namespace Go.Proofs.YtgiicfjibngooaaDoor
open Go Go.RowKit
set_option linter.unusedVariables false
set_option linter.unusedSimpArgs false
attribute [local irreducible] ACode AOps AThen ABlock ACut
theorem kd_le6 (w : List UInt8) : kdS w 7 ≤ 6 := by
  simp only [kdS]
  repeat' split
  all_goals omega
theorem spw_mem : ∀ (k : Nat) (l : List UInt8), l.length = k → (∀ w ∈ (stL l).1, w.length ≤ k) ∧ (stL l).2.length ≤ k
  | 0, l, h => by
    obtain rfl : l = [] := List.eq_nil_of_length_eq_zero h
    exact ⟨fun w hw => absurd hw (by simp [stL]), Nat.le_refl _⟩
  | k + 1, l, h => by
    obtain ⟨m, b, rfl⟩ : ∃ m b, l = m ++ [b] := ⟨l.dropLast, l.getLast (by intro e; subst e; simp at h), (List.dropLast_concat_getLast _).symm⟩
    obtain ⟨h1, h2⟩ := spw_mem k m (by simpa using h)
    rw [stL_snoc]
    unfold wst
    split
    · refine ⟨fun w hw => ?_, Nat.zero_le _⟩
      dsimp only at hw
      split at hw
      · exact Nat.le_succ_of_le (h1 w hw)
      · rcases List.mem_append.1 hw with hw | hw
        · exact Nat.le_succ_of_le (h1 w hw)
        · rw [List.mem_singleton.1 hw]; exact Nat.le_succ_of_le h2
    · refine ⟨fun w hw => Nat.le_succ_of_le (h1 w hw), ?_⟩
      dsimp only
      rw [List.length_append, List.length_cons, List.length_nil]; omega
theorem spw_len (l : List UInt8) {k : Nat} (h : k < (spw l).length) : (nth (spw l) k).length ≤ l.length := by
  obtain ⟨h1, h2⟩ := spw_mem _ l rfl
  have hm : nth (spw l) k ∈ spw l := by rw [nth_eq h]; exact List.getElem_mem h
  generalize nth (spw l) k = z at hm ⊢
  unfold spw fin at hm
  split at hm
  · exact h1 _ hm
  · rcases List.mem_append.1 hm with hm | hm
    · exact h1 _ hm
    · rw [List.mem_singleton.1 hm]; exact h2
theorem say_len (c : Cmd) (h1 : okC c = true) (h2 : okA c) : (sayL c).length ≤ 540 := by
  cases c with
  | no => exact absurd h1 (by decide)
  | dirty a d =>
    have h3 := hx_len h2.1
    have h4 := dataL_len d
    have h5 : d.length ≤ 256 := by simpa [okC] using h1
    show ([100, 105, 114, 116, 121] ++ [32] ++ hx a ++ ([32] ++ dataL d) : List UInt8).length ≤ _
    simp only [List.length_append, List.length_cons, List.length_nil]
    omega
  | fill a d =>
    have h3 := hx_len h2.1
    have h4 := dataL_len d
    have h5 : d.length ≤ 256 := by simpa [okC] using h1
    show ([102, 105, 108, 108] ++ [32] ++ hx a ++ ([32] ++ dataL d) : List UInt8).length ≤ _
    simp only [List.length_append, List.length_cons, List.length_nil]
    omega
  | rd a =>
    have h3 := hx_len h2
    show ([114, 101, 97, 100] ++ [32] ++ hx a : List UInt8).length ≤ _
    simp only [List.length_append, List.length_cons, List.length_nil]
    omega
  | evict a =>
    have h3 := hx_len h2
    show ([101, 118, 105, 99, 116] ++ [32] ++ hx a : List UInt8).length ≤ _
    simp only [List.length_append, List.length_cons, List.length_nil]
    omega
  | clean a =>
    have h3 := hx_len h2
    show ([99, 108, 101, 97, 110] ++ [32] ++ hx a : List UInt8).length ≤ _
    simp only [List.length_append, List.length_cons, List.length_nil]
    omega
  | exi a m =>
    have h3 := hx_len h2.1
    have h5 : 0 ≤ m ∧ m ≤ 64 := by simpa [okC] using h1
    have h4 := itoU_len m h5.1 h5.2
    show ([101, 120, 105, 115, 116, 115] ++ [32] ++ hx a ++ ([32] ++ itoU m) : List UInt8).length ≤ _
    simp only [List.length_append, List.length_cons, List.length_nil]
    omega
section
variable {P : Program} {T : List (Nat × TI)} {fr : List (Nat × AV)} {H : List (Nat × Res)} {o : Oper} {x y : Operand} {t t' : TypeId} {c : Ctx} {n : Nat} {Q : AQ}
theorem shl8_all : ∀ a : Fin 16, IntKind.u8.wrap ((a.val : Int) * 2 ^ (min (4 : Int).toNat IntKind.u8.bits)) = (a.val : Int) * 16 := by decide +kernel
theorem or8_all : ∀ a b : Fin 16, bits .or .u8 ((a.val : Int) * 16) (b.val : Int) = ((UInt8.ofNat (16 * a.val + b.val)).toNat : Int) := by decide +kernel
theorem sop_shl16b {a : Int} {k' : IntKind} (ho : o.op = .binOp .shl t x y t' := by rfl) (hx : Opv fr x (.lit (.int .u8 a)) := by exact opv_std) (hy : Opv fr y (.lit (.int k' 4)) := by exact opv_std) (h0 : 0 ≤ a := by first | omega | exact (dgR_bd _).1) (h1 : a < 16 := by first | omega | exact Int.lt_of_le_of_lt (dgR_bd _).2 (by decide)) : SOp P o fr H (.lit (.int .u8 (a * 16))) :=
  sop_cast (sop_shl ho hx hy (by omega)) (congrArg (fun r => Value.int .u8 r) (by
    have := shl8_all ⟨a.toNat, by omega⟩
    rwa [show ((a.toNat : Nat) : Int) = a by omega] at this))
theorem sop_or16b {a b : Int} (ho : o.op = .binOp .or t x y t' := by rfl) (hx : Opv fr x (.lit (.int .u8 (a * 16))) := by exact opv_std) (hy : Opv fr y (.lit (.int .u8 b)) := by exact opv_std) (h0 : 0 ≤ a := by first | omega | exact (dgR_bd _).1) (h1 : a < 16 := by first | omega | exact Int.lt_of_le_of_lt (dgR_bd _).2 (by decide)) (h2 : 0 ≤ b := by first | omega | exact (dgR_bd _).1) (h3 : b < 16 := by first | omega | exact Int.lt_of_le_of_lt (dgR_bd _).2 (by decide)) : SOp P o fr H (.lit (.int .u8 ((UInt8.ofNat (16 * a.toNat + b.toNat)).toNat : Int))) :=
  sop_cast (sop_or ho hx hy) (congrArg (fun r => Value.int .u8 r) (by
    have := or8_all ⟨a.toNat, by omega⟩ ⟨b.toNat, by omega⟩
    rwa [show ((a.toNat : Nat) : Int) = a by omega, show ((b.toNat : Nat) : Int) = b by omega] at this))
end
theorem kd_say {l : List UInt8} (c : Cmd) (h : okC c = true) (e : spw l = wordsC c) : (kdS (nth (spw l) 0) 7 : Int) = (ordC c).kind := by
  rw [e]
  cases c with
  | no => exact absurd h (by decide)
  | dirty a d =>
    show ((kdS [100, 105, 114, 116, 121] 7 : Nat) : Int) = 1
    rw [kd_dirty]
    rfl
  | fill a d =>
    show ((kdS [102, 105, 108, 108] 7 : Nat) : Int) = 2
    rw [kd_fill]
    rfl
  | rd a =>
    show ((kdS [114, 101, 97, 100] 7 : Nat) : Int) = 3
    rw [kd_rd]
    rfl
  | evict a =>
    show ((kdS [101, 118, 105, 99, 116] 7 : Nat) : Int) = 4
    rw [kd_evict]
    rfl
  | clean a =>
    show ((kdS [99, 108, 101, 97, 110] 7 : Nat) : Int) = 5
    rw [kd_clean]
    rfl
  | exi a m =>
    show ((kdS [101, 120, 105, 115, 116, 115] 7 : Nat) : Int) = 6
    rw [kd_exi]
    rfl
section
variable {l : List UInt8} (hps : ∀ c, okC c = true → okA c → l = sayL c → spw l = wordsC c)
include hps in
theorem many_good (h : (kdS (nth (spw l) 0) 7 : Int) = 6) : ∀ c, okC c = true → okA c → l = sayL c → mnS (nth (spw l) 2) (min (nth (spw l) 2).length 3) = (ordC c).many := by
  intro c q1 q2 q3
  have hw := hps c q1 q2 q3
  have hk := kd_say c q1 hw
  rw [h] at hk
  rw [hw]
  cases c with
  | no => exact absurd q1 (by decide)
  | exi a m =>
    have h5 : 0 ≤ m ∧ m ≤ 64 := by simpa [okC] using q1
    have := mn_itoU ⟨m.toNat, by omega⟩
    rw [show ((m.toNat : Nat) : Int) = m by omega] at this
    exact this
  | dirty a d => exact absurd (show (6 : Int) = 1 from hk) (by decide)
  | fill a d => exact absurd (show (6 : Int) = 2 from hk) (by decide)
  | rd a => exact absurd (show (6 : Int) = 3 from hk) (by decide)
  | evict a => exact absurd (show (6 : Int) = 4 from hk) (by decide)
  | clean a => exact absurd (show (6 : Int) = 5 from hk) (by decide)
include hps in
theorem data_good (h : (kdS (nth (spw l) 0) 7 : Int) = 1 ∨ (kdS (nth (spw l) 0) 7 : Int) = 2) (hne : ¬ nth (spw l) 2 = [45]) : ∀ c, okC c = true → okA c → l = sayL c → outR (nth (spw l) 2) ((nth (spw l) 2).length / 2) = (ordC c).data := by
  intro c q1 q2 q3
  have hw := hps c q1 q2 q3
  have hk := kd_say c q1 hw
  have key : ∀ d : List UInt8, nth (spw l) 2 = dataL d → outR (nth (spw l) 2) ((nth (spw l) 2).length / 2) = d := fun d e => by
    have hz : ¬ d.length = 0 := fun hz => hne (by rw [e]; unfold dataL; rw [if_pos hz])
    have e2 : dataL d = dgs d := by unfold dataL; rw [if_neg hz]
    rw [e, e2, dgs_len, show 2 * d.length / 2 = d.length by omega, outR_data]
  cases c with
  | no => exact absurd q1 (by decide)
  | dirty a d => exact key d (by rw [hw]; rfl)
  | fill a d => exact key d (by rw [hw]; rfl)
  | rd a => exact absurd (show (kdS (nth (spw l) 0) 7 : Int) = 3 from hk) (by omega)
  | evict a => exact absurd (show (kdS (nth (spw l) 0) 7 : Int) = 4 from hk) (by omega)
  | clean a => exact absurd (show (kdS (nth (spw l) 0) 7 : Int) = 5 from hk) (by omega)
  | exi a m => exact absurd (show (kdS (nth (spw l) 0) 7 : Int) = 6 from hk) (by omega)
include hps in
theorem data_zero (h : (¬ (spw l).length = 3 ∨ ¬ (kdS (nth (spw l) 0) 7 : Int) = 1 ∧ ¬ (kdS (nth (spw l) 0) 7 : Int) = 2) ∨ nth (spw l) 2 = [45]) : ∀ c, okC c = true → okA c → l = sayL c → [] = (ordC c).data := by
  intro c q1 q2 q3
  have hw := hps c q1 q2 q3
  have hk := kd_say c q1 hw
  have key : ∀ d : List UInt8, (spw l).length = 3 → ((kdS (nth (spw l) 0) 7 : Int) = 1 ∨ (kdS (nth (spw l) 0) 7 : Int) = 2) → nth (spw l) 2 = dataL d → [] = d := fun d h3 hk2 e => by
    rcases h with (h | h) | h
    · exact absurd h3 h
    · omega
    · rw [h] at e
      by_cases hz : d.length = 0
      · exact (List.eq_nil_of_length_eq_zero hz).symm
      · have e2 : dataL d = dgs d := by unfold dataL; rw [if_neg hz]
        have := congrArg List.length e
        rw [e2, dgs_len, List.length_cons, List.length_nil] at this
        omega
  cases c with
  | no => exact absurd q1 (by decide)
  | dirty a d => exact key d (by rw [hw]; rfl) (.inl hk) (by rw [hw]; rfl)
  | fill a d => exact key d (by rw [hw]; rfl) (.inr hk) (by rw [hw]; rfl)
  | rd a => rfl
  | evict a => rfl
  | clean a => rfl
  | exi a m => rfl
include hps in
theorem many_zero (h : ¬ (spw l).length = 3 ∨ ¬ (kdS (nth (spw l) 0) 7 : Int) = 6) : ∀ c, okC c = true → okA c → l = sayL c → 0 = (ordC c).many := by
  intro c q1 q2 q3
  have hw := hps c q1 q2 q3
  have hk := kd_say c q1 hw
  cases c with
  | no => exact absurd q1 (by decide)
  | exi a m =>
    rcases h with h | h
    · exact absurd (by rw [hw]; rfl) h
    · exact absurd hk h
  | dirty a d => rfl
  | fill a d => rfl
  | rd a => rfl
  | evict a => rfl
  | clean a => rfl
end
end Go.Proofs.YtgiicfjibngooaaDoor
