/- Chapter 12: what the least and the greatest are; the least worn one erased each time; plain laws. -/
import Derived.Test.YtbahngmjbpaglaaW1
namespace Go.Proofs.Ytbahngmjbpaglaa
open Go Go.RowKit
set_option linter.unusedVariables false
set_option linter.unusedSimpArgs false

theorem nth_set {α : Type} [Inhabited α] (r : List α) (k i : Nat) (v : α) (h : k < r.length) : nth (r.set k v) i = if i = k then v else nth r i := by
  by_cases e : i = k
  · subst e
    rw [if_pos rfl, nth_eq (by rw [List.length_set]; exact h), List.getElem_set_self]
  · rw [if_neg e]
    unfold nth
    rw [List.getD_eq_getElem?_getD, List.getD_eq_getElem?_getD, List.getElem?_set_ne (by omega)]
/-- one of those that count -/
def cnt (cs : List Bool) (i : Int) : Prop := 0 ≤ i ∧ i < (cs.length : Int) ∧ nth cs i.toNat = true
theorem ordW_cnt {ws : List Int} {cs : List Bool} (he : ws.length = cs.length) {x : Int} : x ∈ ordW ws cs ↔ cnt cs x := by
  rw [ordW_eq he, srt_mem, ix_mem]; rfl
theorem least_spec {ws : List Int} {cs : List Bool} (he : ws.length = cs.length) (h : 0 ≤ leastW ws cs) : cnt cs (leastW ws cs) ∧ ∀ i, cnt cs i → wf ws (leastW ws cs) ≤ wf ws i := by
  have h0 : ¬ (ordW ws cs).length = 0 := fun e => by unfold leastW at h; rw [if_pos e] at h; omega
  have e : leastW ws cs = nth (ordW ws cs) 0 := by unfold leastW; rw [if_neg h0]
  rw [e]
  refine ⟨(ordW_cnt he).1 (nth_mem (by omega)), fun i hi => ?_⟩
  obtain ⟨k, hk, hik⟩ := List.getElem_of_mem ((ordW_cnt he).2 hi)
  have := (ordW_sd ws cs).le_nth (leW_lo ws) (Nat.zero_le k) hk
  rw [nth_eq hk, hik] at this
  simp only [leW, decide_eq_true_eq] at this
  omega
theorem great_spec {ws : List Int} {cs : List Bool} (he : ws.length = cs.length) (h : 0 ≤ leastW ws cs) : cnt cs (greatW ws cs) ∧ ∀ i, cnt cs i → wf ws i ≤ wf ws (greatW ws cs) := by
  have h0 : ¬ (ordW ws cs).length = 0 := fun e => by unfold leastW at h; rw [if_pos e] at h; omega
  have e : greatW ws cs = nth (ordW ws cs) (topW ws (ordW ws cs)) := by unfold greatW; rw [if_neg h0]
  have ht := topW_lt (ws := ws) (l := ordW ws cs) (by omega)
  rw [e]
  refine ⟨(ordW_cnt he).1 (nth_mem ht), fun i hi => ?_⟩
  rw [topW_wf (by omega)]
  obtain ⟨k, hk, hik⟩ := List.getElem_of_mem ((ordW_cnt he).2 hi)
  have := (ordW_sd ws cs).le_nth (leW_lo ws) (i := k) (j := (ordW ws cs).length - 1) (by omega) (by omega)
  rw [nth_eq hk, hik] at this
  simp only [leW, decide_eq_true_eq] at this
  omega
theorem least_none {ws : List Int} {cs : List Bool} (h : leastW ws cs < 0) : (ordW ws cs).length = 0 ∧ spreadW ws cs = 0 := by
  refine ⟨?_, by unfold spreadW; rw [if_pos h]⟩
  by_cases h0 : (ordW ws cs).length = 0
  · exact h0
  · have := ordW_at (ws := ws) (cs := cs) (k := 0) (by omega)
    unfold leastW at h
    rw [if_neg h0] at h
    omega
theorem spread_eq {ws : List Int} {cs : List Bool} (h : 0 ≤ leastW ws cs) : spreadW ws cs = wf ws (greatW ws cs) - wf ws (leastW ws cs) := by
  unfold spreadW
  rw [if_neg (by omega)]
theorem least_some {ws : List Int} {cs : List Bool} (he : ws.length = cs.length) {i : Int} (hi : cnt cs i) : 0 ≤ leastW ws cs := by
  have hm := (ordW_cnt he).2 hi
  have h0 : ¬ (ordW ws cs).length = 0 := fun e => by
    rw [List.eq_nil_of_length_eq_zero e] at hm; cases hm
  have := ordW_at (ws := ws) (cs := cs) (k := 0) (by omega)
  unfold leastW
  rw [if_neg h0]
  omega
theorem rd_id {x : Int} (h0 : 0 ≤ x) (h1 : x ≤ 1073741824) : rd x = x := by
  unfold rd
  rw [if_neg (by omega)]
/-- what lacks of T, over the first k -/
def lack (w : List Int) (cs : List Bool) (T : Int) : Nat → Nat
  | 0 => 0
  | k + 1 => lack w cs T k + if nth cs k = true then (T - nth w k).toNat else 0
theorem lack_le {w : List Int} {cs : List Bool} {T : Int} (hT : T ≤ 20) (hw : ∀ i, i < w.length → 0 ≤ nth w i) : ∀ k, k ≤ w.length → lack w cs T k ≤ 20 * k
  | 0, _ => Nat.le_refl _
  | k + 1, hk => by
    have := lack_le (cs := cs) hT hw k (by omega)
    have := hw k (by omega)
    show lack w cs T k + (if nth cs k = true then (T - nth w k).toNat else 0) ≤ 20 * (k + 1)
    split <;> omega
theorem lack_same {w : List Int} {cs : List Bool} {T v : Int} {b : Nat} (hb : b < w.length) : ∀ k, k ≤ b → lack (w.set b v) cs T k = lack w cs T k
  | 0, _ => rfl
  | k + 1, hk => by
    show lack (w.set b v) cs T k + (if nth cs k = true then (T - nth (w.set b v) k).toNat else 0) = lack w cs T k + (if nth cs k = true then (T - nth w k).toNat else 0)
    rw [lack_same hb k (by omega), nth_set _ _ _ _ hb, if_neg (show ¬ k = b by omega)]
theorem lack_set {w : List Int} {cs : List Bool} {T : Int} {b : Nat} (hb : b < w.length) (hc : nth cs b = true) (hT : nth w b < T) : ∀ k, b < k → lack (w.set b (nth w b + 1)) cs T k + 1 = lack w cs T k
  | 0, h => absurd h (by omega)
  | k + 1, hk => by
    show lack (w.set b (nth w b + 1)) cs T k + (if nth cs k = true then (T - nth (w.set b (nth w b + 1)) k).toNat else 0) + 1 = lack w cs T k + (if nth cs k = true then (T - nth w k).toNat else 0)
    by_cases e : k = b
    · subst e
      rw [lack_same hb k (Nat.le_refl _), nth_set _ _ _ _ hb, if_pos rfl, if_pos hc, if_pos hc]
      omega
    · have := lack_set (cs := cs) hb hc hT k (by omega)
      rw [nth_set _ _ _ _ hb, if_neg e]
      omega
structure Evn (n : Nat) (cs : List Bool) (T was : Int) (k : Nat) (w : List Int) : Prop where
  len : w.length = n
  clen : cs.length = n
  low : ∀ i, i < n → 0 ≤ nth w i
  high : ∀ i, i < n → nth w i ≤ 20 + k
  spr : spreadW w cs ≤ max was 1
  go : ((∀ i, cnt cs i → nth w i.toNat ≤ T) ∧ lack w cs T n + k ≤ 200) ∨ spreadW w cs ≤ 1
theorem wf_nth {w : List Int} {i : Int} (h0 : 0 ≤ nth w i.toNat) (h1 : nth w i.toNat ≤ 1073741824) : wf w i = nth w i.toNat := rd_id h0 h1
theorem evn_start {w : List Int} {cs : List Bool} (hn : w.length ≤ 10) (he : cs.length = w.length) (hw : ∀ i, i < w.length → 0 ≤ nth w i ∧ nth w i ≤ 20) : Evn w.length cs 20 (spreadW w cs) 0 w where
  len := rfl
  clen := he
  low := fun i hi => (hw i hi).1
  high := fun i hi => by have := (hw i hi).2; omega
  spr := by omega
  go := .inl ⟨fun i hi => (hw _ (by have := hi.1; have := hi.2.1; omega)).2, by have := lack_le (cs := cs) (Int.le_refl 20) (fun i hi => (hw i hi).1) w.length (Nat.le_refl _); omega⟩
theorem evn_step {n : Nat} {cs : List Bool} {T was : Int} {k : Nat} {w : List Int} (h : Evn n cs T was k w) (hk : k < 250) (hb : 0 ≤ leastW w cs) : (leastW w cs).toNat < w.length ∧ nth cs (leastW w cs).toNat = true ∧ leastW w cs < (w.length : Int) ∧ Evn n cs T was (k + 1) (w.set (leastW w cs).toNat (nth w (leastW w cs).toNat + 1)) := by
  have he : w.length = cs.length := by rw [h.len, h.clen]
  obtain ⟨l1, l2⟩ := least_spec he hb
  obtain ⟨g1, g2⟩ := great_spec he hb
  have hs := spread_eq hb
  obtain ⟨b, hbn⟩ : ∃ b : Nat, leastW w cs = (b : Int) := ⟨(leastW w cs).toNat, by omega⟩
  rw [hbn] at hb l1 l2 hs ⊢
  rw [Int.toNat_natCast]
  have hbl : b < w.length := by have := l1.2.1; omega
  have hcb : nth cs b = true := by have := l1.2.2; rwa [Int.toNat_natCast] at this
  refine ⟨hbl, hcb, by omega, ?_⟩
  obtain ⟨w', hw'⟩ : ∃ w', w' = w.set b (nth w b + 1) := ⟨_, rfl⟩
  have hl' : w'.length = w.length := by rw [hw', List.length_set]
  have hn' : ∀ i, nth w' i = if i = b then nth w b + 1 else nth w i := fun i => by rw [hw', nth_set _ _ _ _ hbl]
  have hlo := h.low
  have hlen := h.len
  have hhi := h.high
  have hin : ∀ i, cnt cs i → i.toNat < n := fun i hi => by have := hi.1; have := hi.2.1; have := h.clen; omega
  have wfo : ∀ i, cnt cs i → wf w i = nth w i.toNat := fun i hi => wf_nth (hlo _ (hin i hi)) (by have := hhi _ (hin i hi); omega)
  have low' : ∀ i, i < n → 0 ≤ nth w' i := fun i hi => by
    rw [hn']
    have := hlo i hi
    have := hlo b (by omega)
    split <;> omega
  have high' : ∀ i, i < n → nth w' i ≤ 20 + ((k + 1 : Nat) : Int) := fun i hi => by
    rw [hn']
    have := hhi i hi
    have := hhi b (by have := h.len; omega)
    split <;> omega
  have wfn : ∀ i, cnt cs i → wf w' i = nth w' i.toNat := fun i hi => wf_nth (low' _ (hin i hi)) (by have := high' _ (hin i hi); omega)
  have he' : w'.length = cs.length := by omega
  have hb' : 0 ≤ leastW w' cs := least_some he' l1
  obtain ⟨l3, l4⟩ := least_spec he' hb'
  obtain ⟨g3, g4⟩ := great_spec he' hb'
  have hs' := spread_eq hb'
  rw [wfn _ l3, wfn _ g3] at hs'
  rw [wfo _ l1, wfo _ g1, Int.toNat_natCast] at hs
  have m1 := l2 _ l3
  rw [wfo _ l1, wfo _ l3, Int.toNat_natCast] at m1
  have m2 := g2 _ g3
  rw [wfo _ g1, wfo _ g3] at m2
  have m3 := l2 _ g3
  rw [wfo _ l1, wfo _ g3, Int.toNat_natCast] at m3
  have m4 := l2 _ g1
  rw [wfo _ l1, wfo _ g1, Int.toNat_natCast] at m4
  have a1 := hn' (greatW w' cs).toNat
  have a2 := hn' (leastW w' cs).toNat
  have hsp : spreadW w' cs ≤ max (spreadW w cs) 1 := by
    by_cases e1 : (greatW w' cs).toNat = b
    · rw [if_pos e1] at a1
      by_cases e2 : (leastW w' cs).toNat = b
      · rw [if_pos e2] at a2; omega
      · rw [if_neg e2] at a2; omega
    · rw [if_neg e1] at a1
      by_cases e2 : (leastW w' cs).toNat = b
      · rw [if_pos e2] at a2; omega
      · rw [if_neg e2] at a2; omega
  rw [← hw']
  have hspr := h.spr
  refine ⟨by rw [hl', h.len], h.clen, low', high', by omega, ?_⟩
  rcases h.go with ⟨c1, c2⟩ | c1
  · by_cases hT : nth w b < T
    · refine .inl ⟨fun i hi => ?_, ?_⟩
      · rw [hn']
        have := c1 i hi
        split <;> omega
      · have := lack_set (cs := cs) hbl hcb hT n (by have := h.len; omega)
        rw [← hw'] at this
        omega
    · refine .inr ?_
      have := c1 _ g1
      omega
  · exact .inr (by omega)
theorem evn_end {n : Nat} {cs : List Bool} {T was : Int} {w : List Int} (h : Evn n cs T was 250 w) : spreadW w cs ≤ 1 := by
  rcases h.go with ⟨_, c2⟩ | c
  · omega
  · exact c
end Go.Proofs.Ytbahngmjbpaglaa
