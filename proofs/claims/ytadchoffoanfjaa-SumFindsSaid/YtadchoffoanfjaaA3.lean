/- The sums, Great and Low, walked: each returns what its plain law says. Conditions: bounded lengths. -/
import Derived.Test.YtadchoffoanfjaaA2
namespace Go.Proofs.Ytadchoffoanfjaa
open Go Go.RowKit
set_option linter.unusedVariables false

set_option maxHeartbeats 400000 in
theorem more_any (A : Option Addr) (c : Nat) (l : List UInt8) (r : R) (w : World) (hl : l.length ≤ 1000000) (ha : Row w A (bvs l)) :
    Calls Try.prog 14 #[.int .u32 (r.toNat : Int), .slice A l.length c] w fun e w' => e = .returned (.int .u32 ((more r l).toNat : Int)) ∧ w' = w := by
  have h1 := rv_not r
  have h2 := rv_not (crc (rnot r) l)
  go_enter Try.func14, Try.ntmps14
  go_wp2_with fail
  refine (step_any _ _ _ _ _ hl ha).mono ?_
  rintro e w' ⟨rfl, rfl⟩
  go_wp2_with fail
  go_ret
  exact ⟨ret_u32 rfl, rfl⟩

set_option maxHeartbeats 400000 in
theorem refMore_any (A : Option Addr) (c : Nat) (l : List UInt8) (r : R) (w : World) (hl : l.length ≤ 1000000) (ha : Row w A (bvs l)) :
    Calls Try.prog 15 #[.int .u32 (r.toNat : Int), .slice A l.length c] w fun e w' => e = .returned (.int .u32 ((more r l).toNat : Int)) ∧ w' = w := by
  have h1 := rv_not r
  go_enter Try.func15, Try.ntmps15
  go_wp2
  clear h1
  go_loop [5, 6] (fun v i => ∃ k : Nat, k ≤ l.length ∧ i = .int .i64 k ∧ v = rv (crc (rnot r) (l.take k))) (fun _ i => l.length - (intOf i).toNat)
  case atStart => exact ⟨0, Nat.zero_le _, rfl, rfl⟩
  case round =>
    obtain ⟨k, hk, rfl, rfl⟩ := hrel
    unfold rv
    by_cases hlt : k < l.length
    · obtain ⟨ad, rfl, hca⟩ := ha.byte hlt
      clear ha
      have hts := hide (take_snoc' l k hlt)
      generalize hs : crc (rnot r) (l.take k) = s
      have Hs := hide hs; clear hs
      generalize hx : l[k] = x at *
      have Hx := hide hx; clear hx
      have i1 : (k : Int) < (l.length : Int) := by omega
      have rb := rv_byte' s x
      go_wp2
      clear rb
      go_loop [5, 7] (fun v i => ∃ j : Nat, j ≤ 8 ∧ i = .int .i64 j ∧ v = rv (bitN j (s ^^^ x.toBitVec.zeroExtend 32))) (fun _ i => 8 - (intOf i).toNat)
      case atStart => exact ⟨0, by omega, rfl, rfl⟩
      case round =>
        obtain ⟨j, hj, rfl, rfl⟩ := hrel
        unfold rv
        by_cases hlt8 : j < 8
        · generalize ht : bitN j (s ^^^ x.toBitVec.zeroExtend 32) = t
          have Ht := hide ht; clear ht
          by_cases hb : t &&& 1#32 = 1#32
          · have ho := rv_odd hb
            have Hb := hide hb; clear hb
            go_wp2
            go_round
            case rel => exact ⟨j + 1, by omega, by go_num, odd_val Ht.out Hb.out⟩
            case measure => simp [intOf]; omega
          · have ho := rv_even hb
            have Hb := hide hb; clear hb
            go_wp2
            go_round
            case rel => exact ⟨j + 1, by omega, by go_num, even_val Ht.out Hb.out⟩
            case measure => simp [intOf]; omega
        · have hj8 : j = 8 := by omega
          subst hj8
          go_wp2
          go_round
          case rel => exact ⟨k + 1, by omega, by go_num, by rw [hts.out, crc_snoc, Hs.out]; rfl⟩
          case measure => simp [intOf]; omega
    · have hk2 : k = l.length := by omega
      have Hk := hide hk2; clear hk2
      have h2 := rv_not (crc (rnot r) (List.take k l))
      go_wp2
      go_ret
      exact ⟨ret_u32 (by rw [Hk.out, List.take_of_length_le (Nat.le_refl _)]; rfl), rfl⟩

theorem flat_take (ls : List (List UInt8)) (k : Nat) (h : k < ls.length) : (ls.take (k+1)).flatten = (ls.take k).flatten ++ ls[k] := by
  rw [List.take_succ_eq_append_getElem h, List.flatten_append]; simp

set_option maxHeartbeats 400000 in
theorem of_any (A : Option Addr) (c : Nat) (vs : List Value) (ls : List (List UInt8)) (w : World) (hl : vs.length ≤ 1000000) (hls : ∀ l ∈ ls, l.length ≤ 1000000) (ha : Row w A vs) (hp : RBs w vs ls) :
    Calls Try.prog 10 #[.slice A vs.length c] w fun e w' => e = .returned (.int .u32 ((sumOf ls.flatten).toNat : Int)) ∧ w' = w := by
  go_enter Try.func10, Try.ntmps10
  go_wp2
  go_loop [3, 8] (fun v i => ∃ k : Nat, k ≤ vs.length ∧ i = .int .i64 k ∧ v = rv (crc (rnot 0#32) (ls.take k).flatten)) (fun _ i => vs.length - (intOf i).toNat)
  case atStart => exact ⟨0, Nat.zero_le _, rfl, rfl⟩
  case round =>
    obtain ⟨k, hk, rfl, rfl⟩ := hrel
    unfold rv
    by_cases hlt : k < vs.length
    · obtain ⟨ad, rfl, hca⟩ := ha.at_ hlt
      clear ha
      have hlt' : k < ls.length := by rw [← hp.1]; exact hlt
      obtain ⟨A', c', hv, hc', hr⟩ := hp.2 k hlt hlt'
      rw [hv] at hca
      clear hp hv
      have hts := hide (flat_take ls k hlt')
      have hlen := hls ls[k] (List.getElem_mem _)
      clear hls
      generalize hs : crc (rnot 0#32) (ls.take k).flatten = s
      have Hs := hide hs; clear hs
      generalize hx : ls[k] = x at *
      have Hx := hide hx; clear hx
      have i1 : (k : Int) < (vs.length : Int) := by omega
      go_wp2_with (go_at_call 18; refine (step_any _ _ _ _ _ hlen hr).mono ?_; rintro e w' ⟨rfl, rfl⟩)
      go_round
      case rel => exact ⟨k + 1, by omega, by go_num, by rw [hts.out, crc_append, Hs.out]⟩
      case measure => simp [intOf]; omega
    · have hk2 : k = ls.length := by have := hp.1; omega
      have Hk := hide hk2; clear hk2 hp
      have h2 := rv_not (crc (rnot 0#32) (List.take k ls).flatten)
      go_wp2
      go_ret
      exact ⟨ret_u32 (by rw [Hk.out, List.take_of_length_le (Nat.le_refl _)]; rfl), rfl⟩

/-- the document's sum of parts -/
def refOf (ls : List (List UInt8)) : R := ls.foldl more 0#32
theorem refOf_snoc (ls : List (List UInt8)) (k : Nat) (h : k < ls.length) : refOf (ls.take (k+1)) = more (refOf (ls.take k)) ls[k] := by
  unfold refOf
  rw [List.take_succ_eq_append_getElem h, List.foldl_append]; rfl
theorem refOf_eq (ls : List (List UInt8)) : refOf ls = sumOf ls.flatten := by
  have h : ∀ (ls : List (List UInt8)) (s : R), ls.foldl more s = more s ls.flatten := by
    intro ls
    induction ls with
    | nil => intro s; simp [more_nil]
    | cons l ls ih => intro s; simp [ih, more_append]
  unfold refOf
  rw [h, more_zero]
set_option maxHeartbeats 400000 in
theorem refOf_any (A : Option Addr) (c : Nat) (vs : List Value) (ls : List (List UInt8)) (w : World) (hl : vs.length ≤ 1000000) (hls : ∀ l ∈ ls, l.length ≤ 1000000) (ha : Row w A vs) (hp : RBs w vs ls) :
    Calls Try.prog 13 #[.slice A vs.length c] w fun e w' => e = .returned (.int .u32 ((sumOf ls.flatten).toNat : Int)) ∧ w' = w := by
  rw [← refOf_eq]
  go_enter Try.func13, Try.ntmps13
  go_wp2
  go_loop [3, 4] (fun v i => ∃ k : Nat, k ≤ vs.length ∧ i = .int .i64 k ∧ v = rv (refOf (ls.take k))) (fun _ i => vs.length - (intOf i).toNat)
  case atStart => exact ⟨0, Nat.zero_le _, rfl, rfl⟩
  case round =>
    obtain ⟨k, hk, rfl, rfl⟩ := hrel
    unfold rv
    by_cases hlt : k < vs.length
    · obtain ⟨ad, rfl, hca⟩ := ha.at_ hlt
      clear ha
      have hlt' : k < ls.length := by rw [← hp.1]; exact hlt
      obtain ⟨A', c', hv, hc', hr⟩ := hp.2 k hlt hlt'
      rw [hv] at hca
      clear hp hv
      have hts := hide (refOf_snoc ls k hlt')
      have hlen := hls ls[k] (List.getElem_mem _)
      clear hls
      generalize hs : refOf (ls.take k) = s at *
      have Hs := hide hs; clear hs
      generalize hx : ls[k] = x at *
      have Hx := hide hx; clear hx
      have i1 : (k : Int) < (vs.length : Int) := by omega
      go_wp2_with (go_at_call 15; refine (refMore_any _ _ _ _ _ hlen hr).mono ?_; rintro e w' ⟨rfl, rfl⟩)
      go_round
      case rel => exact ⟨k + 1, by omega, by go_num, by rw [hts.out]⟩
      case measure => simp [intOf]; omega
    · have hk2 : k = ls.length := by have := hp.1; omega
      have Hk := hide hk2; clear hk2 hp
      go_wp2
      go_ret
      exact ⟨ret_u32 (by rw [Hk.out, List.take_of_length_le (Nat.le_refl _)]), rfl⟩

/-- are parts more than are gone through? -/
def great (ls : List (List UInt8)) (many long : Nat) : Bool := decide (many < ls.length) || ls.any (fun l => decide (long < l.length))

set_option maxHeartbeats 400000 in
theorem great_many (A : Option Addr) (n c : Nat) (w : World) (many : Nat) (long : Int) (hn : n ≤ maxLen) (hm : many ≤ 1000000) (h : many < n) :
    Calls Try.prog 11 #[.slice A n c, .int .i64 many, .int .i64 long] w fun e w' => e = .returned (.bool true) ∧ w' = w := by
  unfold maxLen at hn
  have h1 : (many : Int) < (n : Int) := by omega
  have h2 : decide ((n : Int) ≤ (many : Int)) = false := by simp; omega
  go_enter Try.func11, Try.ntmps11
  go_wp2
  refine wp_loop_rounds 1 ?_
  rw [rounds_succ]
  go_wp2
  go_ret
  exact ⟨rfl, rfl⟩

set_option maxHeartbeats 400000 in
theorem great_few (A : Option Addr) (c : Nat) (vs : List Value) (ls : List (List UInt8)) (w : World) (many long : Nat) (hl : ∀ l ∈ ls, l.length ≤ maxLen) (hm : many ≤ 1000000) (hlg : long ≤ 1000000) (h : vs.length ≤ many) (ha : Row w A vs) (hp : RBs w vs ls) :
    Calls Try.prog 11 #[.slice A vs.length c, .int .i64 many, .int .i64 long] w fun e w' => e = .returned (.bool (ls.any (fun l => decide (long < l.length)))) ∧ w' = w := by
  have h0 : (vs.length : Int) ≤ (many : Int) := by omega
  go_enter Try.func11, Try.ntmps11
  go_wp2
  go_loop [7] (fun i => ∃ k : Nat, k ≤ vs.length ∧ i = .int .i64 k ∧ (ls.take k).any (fun l => decide (long < l.length)) = false) (fun i => vs.length - (intOf i).toNat)
  case atStart => exact ⟨0, Nat.zero_le _, rfl, rfl⟩
  case round =>
    obtain ⟨k, hk, rfl, hf⟩ := hrel
    have Hf := hide hf; clear hf
    by_cases hlt : k < vs.length
    · obtain ⟨ad, rfl, hca⟩ := ha.at_ hlt
      clear ha
      have hlt' : k < ls.length := by rw [← hp.1]; exact hlt
      obtain ⟨A', c', hv, hc', hr⟩ := hp.2 k hlt hlt'
      rw [hv] at hca
      clear hp hv hr
      have hlen := hl ls[k] (List.getElem_mem _)
      unfold maxLen at hlen
      clear hl
      have Hx := hide (List.take_succ_eq_append_getElem hlt')
      generalize hx : ls[k] = x at *
      have Hy := hide hx; clear hx
      have i1 : (k : Int) < (vs.length : Int) := by omega
      by_cases hb : long < x.length
      · have i2 : (long : Int) < (x.length : Int) := by omega
        go_wp2
        go_ret
        refine ⟨?_, rfl⟩
        have : ls.any (fun l => decide (long < l.length)) = true := by
          rw [List.any_eq_true]
          exact ⟨x, by rw [← Hy.out]; exact List.getElem_mem _, by simpa using hb⟩
        rw [this]; rfl
      · have i2 : ¬ (long : Int) < (x.length : Int) := by omega
        go_wp2
        go_round
        case rel => exact ⟨k + 1, by omega, by go_num, by rw [Hx.out, List.any_append, Hf.out]; simpa using hb⟩
        case measure => simp [intOf]; omega
    · have hk2 : k = ls.length := by have := hp.1; omega
      have Hk := hide hk2; clear hk2 hp
      go_wp2
      go_ret
      refine ⟨?_, rfl⟩
      have hz := Hf.out
      rw [Hk.out, List.take_of_length_le (Nat.le_refl _)] at hz
      rw [hz]
      simp
      omega

/-- a number as it counts: from 0 to below n -/
def low (x : Int) (n : Nat) : Nat := ((x % 18446744073709551616).toNat) % n
theorem low_lt (x : Int) {n : Nat} (h : 0 < n) : low x n < n := Nat.mod_lt _ h
theorem ret_i64 {a b : Int} (h : a = b) : Ending.returned (.int .i64 a) = .returned (.int .i64 b) := by rw [h]
theorem low_form (x : Int) (n : Nat) (hn : 0 < n) (hm : n ≤ 1152921504606846976) : wrap64 ((IntKind.u64.wrap x).tmod (n : Int)) = ((low x n : Nat) : Int) := by
  have h0 : 0 ≤ x % 18446744073709551616 := Int.emod_nonneg _ (by decide)
  obtain ⟨m, hm'⟩ := Int.eq_ofNat_of_zero_le h0
  have hl := Nat.mod_lt m hn
  unfold low
  rw [IntKind.wrap_u64, hm']
  rw [Int.tmod_eq_emod_of_nonneg (by omega)]
  rw [IntWalk.wrap64_in]
  · simp
  · rw [← Int.natCast_emod]; omega
set_option maxHeartbeats 400000 in
theorem low_any (x : Int) (n : Nat) (w : World) (hn : 0 < n) (hm : n ≤ 1152921504606846976) :
    Calls Try.prog 9 #[.int .i64 x, .int .i64 n] w fun e w' => e = .returned (.int .i64 (low x n : Nat)) ∧ w' = w := by
  go_enter Try.func9, Try.ntmps9
  go_wp2
  go_ret
  exact ⟨ret_i64 (low_form x n hn hm), rfl⟩
end Go.Proofs.Ytadchoffoanfjaa
