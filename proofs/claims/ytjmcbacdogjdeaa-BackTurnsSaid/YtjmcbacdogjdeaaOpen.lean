/- Arguments as they come in, read as our own words. Nothing of the program stands here. -/
import Derived.Test.YtjmcbacdogjdeaaBytes
import Derived.ProofKit
import Derived.OpenShut
import Derived.Deep.Slices
namespace Go.Proofs.Ytjmcbacdogjdeaa
open Go Go.RowKit Go.Deep Go.ChangeShapes
set_option linter.unusedVariables false
section
variable {H : Type} {enc : TypeId × Value → H} {P : Program} {W : World} {base : Nat} {sp : Nat → Bool} {hd : Bool}
theorem u8_of_wf {n : Int} (h : (Lit.int .u8 n).wf = true) : ∃ b : UInt8, n = (b.toNat : Int) := by
  have hb : 0 ≤ n ∧ n ≤ 255 := by simpa [Lit.wf, IntKind.min, IntKind.max, IntKind.signed, IntKind.bits] using h
  refine ⟨UInt8.ofNat n.toNat, ?_⟩
  rw [UInt8.toNat_ofNat']
  omega
theorem u32_of_wf {n : Int} (h : (Lit.int .u32 n).wf = true) : ∃ r : BitVec 32, n = (r.toNat : Int) := by
  have hb : 0 ≤ n ∧ n ≤ 4294967295 := by simpa [Lit.wf, IntKind.min, IntKind.max, IntKind.signed, IntKind.bits] using h
  refine ⟨BitVec.ofNat 32 n.toNat, ?_⟩
  rw [BitVec.toNat_ofNat]
  omega
theorem u64_of_wf {n : Int} (h : (Lit.int .u64 n).wf = true) : ∃ r : BitVec 64, n = (r.toNat : Int) := by
  have hb : 0 ≤ n ∧ n ≤ 18446744073709551615 := by simpa [Lit.wf, IntKind.min, IntKind.max, IntKind.signed, IntKind.bits] using h
  refine ⟨BitVec.ofNat 64 n.toNat, ?_⟩
  rw [BitVec.toNat_ofNat]
  omega
theorem i64_of_wf {n : Int} (h : (Lit.int .i64 n).wf = true) : -9223372036854775808 ≤ n ∧ n ≤ 9223372036854775807 := by
  simpa [Lit.wf, IntKind.min, IntKind.max, IntKind.signed, IntKind.bits] using h
theorem u8s_of {zs : List Int} (h : ∀ n ∈ zs, (Lit.int .u8 n).wf = true) : ∃ l : List UInt8, zs = l.map (fun b => (b.toNat : Int)) := by
  induction zs with
  | nil => exact ⟨[], rfl⟩
  | cons z zs ih =>
    obtain ⟨l, hl⟩ := ih (fun n hn => h n (List.mem_cons_of_mem _ hn))
    obtain ⟨b, hb⟩ := u8_of_wf (h z List.mem_cons_self)
    exact ⟨b :: l, by rw [hl, hb]; rfl⟩
/-- a slice of bytes that came in, by its cells' reading -/
theorem open_bytes_cells {t e : TypeId} {fuel : Nat} {v : Value} {x : DataW H × List MemPlace} (ht : P.underlying t = some (.slice e)) (he : P.underlying e = some (.int .u8)) (hc : P.cellsOf e = 1)
    (h : DataW.trod enc P W base sp hd fuel t [v] = some x) : ∃ a c l, v = .slice a l.length c ∧ l.length ≤ c ∧ c ≤ maxLen ∧ Row W a (bvs l) := by
  rcases open_ints ht he hc h with ⟨hcs, _⟩ | ⟨a, len, cap, zs, hcs, _, hl, hm, hz, _, hcell, hwz⟩
  · injection hcs with hcs
    exact ⟨none, 0, [], by rw [hcs]; rfl, Nat.le_refl _, by simp [maxLen], Row.nil _ _⟩
  · injection hcs with hcs
    obtain ⟨l, rfl⟩ := u8s_of hwz
    have hlen : len ≤ l.length := by
      simp only [List.length_map] at hz
      rw [hz]
      split <;> omega
    refine ⟨some a, cap, l.take len, ?_, ?_, hm, fun _ => ⟨a, rfl, ?_⟩⟩
    · rw [hcs]; simp; omega
    · simp; omega
    · intro j u hu
      have hj : j < len := by
        have := (List.getElem?_eq_some_iff.1 hu).1
        simp [bvs] at this; omega
      rw [hcell j (by simp; omega)]
      have hjl : j < l.length := by omega
      have : (bvs (l.take len))[j]? = some (bv l[j]) := by
        simp [bvs, hj, List.getElem?_eq_getElem hjl]
      rw [this] at hu
      injection hu with hu
      rw [← hu]
      simp [bv, List.getD_eq_getElem?_getD, List.getElem?_map, List.getElem?_eq_getElem hjl]
/-- a slice of numbers that came in -/
theorem open_nums {t e : TypeId} {k : IntKind} {a : Option Addr} {len cap : Nat} {d : DataW H} {p : List MemPlace} (ht : P.underlying t = some (.slice e)) (he : P.underlying e = some (.int k)) (hc : P.cellsOf e = 1)
    (h : DataW.Trod enc P W base sp hd t (.slice a len cap) d p) : ∃ zs : List Int, zs.length = len ∧ len ≤ cap ∧ cap ≤ maxLen ∧ Row W a (zs.map (Value.int k)) ∧ ∀ n ∈ zs, (Lit.int k n).wf = true := by
  obtain ⟨fuel, hf⟩ := h
  rcases open_ints ht he hc (show DataW.trod enc P W base sp hd fuel t [.slice a len cap] = some (d, p) from hf) with ⟨hcs, _⟩ | ⟨a', len', cap', zs, hcs, _, hl, hm, hz, _, hcell, hwz⟩
  · injection hcs with hcs
    injection hcs with h1 h2 h3
    subst h1 h2 h3
    exact ⟨[], rfl, Nat.le_refl _, by simp [maxLen], Row.nil _ _, by simp⟩
  · injection hcs with hcs
    injection hcs with h1 h2 h3
    subst h1 h2 h3
    have hlen : len ≤ zs.length := by
      rw [hz]
      split <;> omega
    refine ⟨zs.take len, by simp; omega, hl, hm, fun _ => ⟨a', rfl, ?_⟩, fun n hn => hwz n (List.mem_of_mem_take hn)⟩
    intro j u hu
    have hj : j < len := by
      have := (List.getElem?_eq_some_iff.1 hu).1
      simp at this; omega
    rw [hcell j (by omega)]
    have hjl : j < zs.length := by omega
    have : ((zs.take len).map (Value.int k))[j]? = some (.int k zs[j]) := by
      simp [hj, List.getElem?_eq_getElem hjl]
    rw [this] at hu
    injection hu with hu
    rw [← hu]
    simp [List.getD_eq_getElem?_getD, List.getElem?_eq_getElem hjl]
theorem nats_of {k : IntKind} {zs : List Int} (hk : k.min = 0) (h : ∀ n ∈ zs, (Lit.int k n).wf = true) : ∃ ns : List Nat, zs = ns.map (fun n : Nat => (n : Int)) ∧ ∀ n ∈ ns, (Lit.int k (n : Int)).wf = true := by
  induction zs with
  | nil => exact ⟨[], rfl, by simp⟩
  | cons z zs ih =>
    obtain ⟨ns, hl, hn⟩ := ih (fun n hn => h n (List.mem_cons_of_mem _ hn))
    have hz := h z List.mem_cons_self
    have h0 : 0 ≤ z := by
      have : k.min ≤ z := by
        simp only [Lit.wf, Bool.and_eq_true, decide_eq_true_eq] at hz
        exact hz.1
      omega
    obtain ⟨m, rfl⟩ := Int.eq_ofNat_of_zero_le h0
    exact ⟨m :: ns, by rw [hl]; rfl, by intro n hn'; rcases List.mem_cons.1 hn' with rfl | hn'; exact hz; exact hn n hn'⟩
theorem open_bytes {t e : TypeId} {a : Option Addr} {len cap : Nat} {d : DataW H} {p : List MemPlace} (ht : P.underlying t = some (.slice e)) (he : P.underlying e = some (.int .u8)) (hc : P.cellsOf e = 1)
    (h : DataW.Trod enc P W base sp hd t (.slice a len cap) d p) : ∃ l : List UInt8, l.length = len ∧ len ≤ cap ∧ cap ≤ maxLen ∧ Row W a (bvs l) := by
  obtain ⟨fuel, hf⟩ := h
  obtain ⟨a', c', l, hv, hl, hm, hr⟩ := open_bytes_cells ht he hc (show DataW.trod enc P W base sp hd fuel t [.slice a len cap] = some (d, p) from hf)
  injection hv with h1 h2 h3
  subst h1 h2 h3
  exact ⟨l, rfl, hl, hm, hr⟩
theorem open_parts {t e f : TypeId} {a : Option Addr} {len cap : Nat} {d : DataW H} {p : List MemPlace} (ht : P.underlying t = some (.slice e)) (he : P.underlying e = some (.slice f)) (hf : P.underlying f = some (.int .u8)) (hce : P.cellsOf e = 1) (hcf : P.cellsOf f = 1)
    (h : DataW.Trod enc P W base sp hd t (.slice a len cap) d p) : ∃ (vs : List Value) (ls : List (List UInt8)), ls.length = len ∧ len ≤ cap ∧ cap ≤ maxLen ∧ Row W a vs ∧ RBs W vs ls ∧ ∀ l ∈ ls, l.length ≤ maxLen := by
  obtain ⟨fuel, hfu⟩ := h
  rcases open_slice1 ht hce (show DataW.trod enc P W base sp hd fuel t [.slice a len cap] = some (d, p) from hfu) with ⟨hcs, _⟩ | ⟨a', len', cap', m, n, V, D, Pl, hcs, _, hl, hm, hmm, hxx, hx⟩
  · injection hcs with hcs
    injection hcs with h1 h2 h3
    subst h1 h2 h3
    exact ⟨[], [], rfl, Nat.le_refl _, by simp [maxLen], Row.nil _ _, RBs.nil _, by simp⟩
  · injection hcs with hcs
    injection hcs with h1 h2 h3
    subst h1 h2 h3
    have hlm : len ≤ m := by rw [hmm]; split <;> omega
    have each : ∀ i, i < len → ∃ l : List UInt8, RB W (V i) l ∧ l.length ≤ maxLen := by
      intro i hi
      obtain ⟨a2, c2, l, hv, hl2, hm2, hr2⟩ := open_bytes_cells he hf hcf (hx i (by omega)).2
      exact ⟨l, ⟨a2, c2, hv, hl2, hr2⟩, by omega⟩
    have : ∃ ls : List (List UInt8), ls.length = len ∧ ∀ i (h : i < ls.length), RB W (V i) ls[i] ∧ ls[i].length ≤ maxLen := by
      clear hlm hmm hx hl hfu hxx
      induction len with
      | zero => exact ⟨[], rfl, fun i h => absurd h (by simp)⟩
      | succ n ih =>
        obtain ⟨ls, hl, hls⟩ := ih (fun i hi => each i (by omega))
        obtain ⟨l, hl'⟩ := each n (by omega)
        refine ⟨ls ++ [l], by simp [hl], fun i hi => ?_⟩
        by_cases hin : i < ls.length
        · rw [List.getElem_append_left hin]; exact hls i hin
        · have : i = n := by simp at hi; omega
          subst this
          rw [List.getElem_append_right (by omega)]
          simpa [hl] using hl'
    obtain ⟨ls, hll, hls⟩ := this
    refine ⟨(List.range len).map V, ls, hll, hl, hm, fun _ => ⟨a', rfl, fun j u hu => ?_⟩, ⟨by simp [hll], fun i hi hi' => ?_⟩, ?_⟩
    · have hj := (List.getElem?_eq_some_iff.1 hu).1
      simp at hj
      rw [(hx j (by omega)).1]
      rw [← hu]
      simp [hj]
    · simpa using (hls i hi').1
    · intro l hl3
      obtain ⟨i, hi, rfl⟩ := List.getElem_of_mem hl3
      exact (hls i hi).2
end
end Go.Proofs.Ytjmcbacdogjdeaa
