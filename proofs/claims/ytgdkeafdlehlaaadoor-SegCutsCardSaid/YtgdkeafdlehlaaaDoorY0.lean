/- Entries; which may be, in which order; plain laws. -/
import Derived.Test.YtgdkeafdlehlaaaDoorL2
import Derived.Test.YtgdkeafdlehlaaaDoorDa
namespace Go.Proofs.YtgdkeafdlehlaaaDoor
open Go Go.RowKit
set_option linter.unusedVariables false
set_option linter.unusedSimpArgs false

theorem sop_falseL {P : Program} {fr : List (Nat × AV)} {H : List (Nat × Res)} {o : Oper} (h : False) : SOp P o fr H (.lit (.bool false)) := h.elim
structure Ent where
  addr : Int
  page : Int
  dirty : Bool
  seq : Int
  deriving DecidableEq, Inhabited
def encEn : Enc Ent := ⟨4, fun e => [.lit (.int .u64 e.addr), .lit (.int .i64 e.page), .lit (.bool e.dirty), .lit (.int .i64 e.seq)], fun _ => rfl, fun _ => rfl, fun _ => rfl, fun l => match l with
  | [.lit (.int _ a), .lit (.int _ b), .lit (.bool d), .lit (.int _ s)] => ⟨a, b, d, s⟩
  | _ => default⟩
def encT : Enc Bool := ⟨1, fun b => [.lit (.bool b)], fun _ => rfl, fun _ => rfl, fun _ => rfl, fun l => match l with
  | [.lit (.bool b)] => b
  | _ => default⟩
def fitsE (e : Ent) : Bool := decide (0 ≤ e.page) && decide (e.page ≤ 255) && decide (1 ≤ e.seq) && decide (e.seq ≤ 1099511627775)
theorem fitsE_iff (e : Ent) : fitsE e = true ↔ (0 ≤ e.page ∧ e.page ≤ 255) ∧ (1 ≤ e.seq ∧ e.seq ≤ 1099511627775) := by
  unfold fitsE
  simp only [Bool.and_eq_true, decide_eq_true_eq]
  constructor
  · rintro ⟨⟨⟨a, b⟩, c⟩, d⟩; exact ⟨⟨a, b⟩, c, d⟩
  · rintro ⟨⟨a, b⟩, c, d⟩; exact ⟨⟨⟨a, b⟩, c⟩, d⟩
def gen {α : Type} (f : Nat → α) (k : Nat) : List α := (List.range k).map f
theorem gen_len {α : Type} (f : Nat → α) (k : Nat) : (gen f k).length = k := by
  unfold gen
  rw [List.length_map, List.length_range]
theorem nth_gen {α : Type} [Inhabited α] (f : Nat → α) {k i : Nat} (h : i < k) : nth (gen f k) i = f i := by
  rw [nth_eq (by rw [gen_len]; exact h)]
  simp [gen]
theorem ext_nth {α : Type} [Inhabited α] {l m : List α} (hl : l.length = m.length) (h : ∀ k, k < l.length → nth l k = nth m k) : l = m := by
  refine List.ext_getElem hl fun i h1 h2 => ?_
  have := h i h1
  rwa [nth_eq h1, nth_eq h2] at this
theorem nth_set {α : Type} [Inhabited α] (r : List α) (k i : Nat) (v : α) (h : k < r.length) : nth (r.set k v) i = if i = k then v else nth r i := by
  by_cases e : i = k
  · subst e
    rw [if_pos rfl, nth_eq (by rw [List.length_set]; exact h), List.getElem_set_self]
  · rw [if_neg e]
    unfold nth
    rw [List.getD_eq_getElem?_getD, List.getD_eq_getElem?_getD, List.getElem?_set_ne (by omega)]
/-- which pages the first k take -/
def tkn (es : List Ent) (k : Nat) (p : Nat) : Bool := (List.range k).any fun j => decide ((nth es j).page = (p : Int))
def tk (es : List Ent) (k : Nat) : List Bool := gen (tkn es k) 256
theorem tk_len (es : List Ent) (k : Nat) : (tk es k).length = 256 := gen_len _ _
theorem tk_zero (es : List Ent) : tk es 0 = List.replicate 256 false := by
  refine ext_nth (by rw [tk_len, List.length_replicate]) fun k hk => ?_
  rw [tk_len] at hk
  unfold tk
  rw [nth_gen _ hk, nth_eq (by rw [List.length_replicate]; exact hk), List.getElem_replicate]
  rfl
theorem tk_at (es : List Ent) (k : Nat) {p : Nat} (h : p < 256) : nth (tk es k) p = tkn es k p := nth_gen _ h
theorem tk_succ (es : List Ent) (k : Nat) (h0 : 0 ≤ (nth es k).page) (h1 : (nth es k).page ≤ 255) : (tk es k).set (nth es k).page.toNat true = tk es (k + 1) := by
  refine ext_nth (by rw [List.length_set, tk_len, tk_len]) fun i hi => ?_
  rw [List.length_set, tk_len] at hi
  rw [nth_set _ _ _ _ (by rw [tk_len]; omega), tk_at es k hi, tk_at es (k + 1) hi]
  unfold tkn
  rw [List.range_succ, List.any_append]
  simp only [List.any_cons, List.any_nil, Bool.or_false]
  by_cases e : i = (nth es k).page.toNat
  · rw [if_pos e, decide_eq_true (show (nth es k).page = (i : Int) by omega)]
    simp
  · rw [if_neg e, decide_eq_false (show ¬ (nth es k).page = (i : Int) by omega)]
    simp
/-- may the k-th stand where it stands? -/
def okE (es : List Ent) (k : Nat) : Bool := fitsE (nth es k) && !tkn es k (nth es k).page.toNat && (decide (k = 0) || decide ((nth es (k - 1)).addr < (nth es k).addr))
def risesE (es : List Ent) : Bool := (List.range es.length).all (okE es)
theorem rises_all {es : List Ent} (h : ∀ i, i < es.length → okE es i = true) : risesE es = true := by
  unfold risesE
  rw [List.all_eq_true]
  intro i hi
  exact h i (List.mem_range.1 hi)
theorem rises_not {es : List Ent} {i : Nat} (hi : i < es.length) (h : okE es i = false) : risesE es = false := by
  cases ha : risesE es with
  | false => rfl
  | true =>
    unfold risesE at ha
    rw [List.all_eq_true] at ha
    rw [ha i (List.mem_range.2 hi)] at h
    cases h
theorem ok_no {es : List Ent} {k : Nat} (h : (fitsE (nth es k) = false ∨ nth (tk es k) (nth es k).page.toNat = true) ∨ (0 < (k : Int) ∧ (nth es k).addr ≤ (nth es ((k : Int) - 1).toNat).addr)) (hf : fitsE (nth es k) = true) : okE es k = false := by
  have hb := (fitsE_iff (nth es k)).1 hf
  unfold okE
  rcases h with (h | h) | h
  · rw [hf] at h; cases h
  · rw [tk_at es k (by omega)] at h
    rw [h]; simp
  · rw [show ((k : Int) - 1).toNat = k - 1 from by omega] at h
    rw [decide_eq_false (show ¬ k = 0 by omega), decide_eq_false (show ¬ (nth es (k - 1)).addr < (nth es k).addr by omega)]
    simp
theorem ok_yes {es : List Ent} {k : Nat} (hf : fitsE (nth es k) = true) (h1 : nth (tk es k) (nth es k).page.toNat = false) (h2 : (k : Int) ≤ 0 ∨ (nth es ((k : Int) - 1).toNat).addr < (nth es k).addr) : okE es k = true := by
  have hb := (fitsE_iff (nth es k)).1 hf
  rw [tk_at es k (by omega)] at h1
  unfold okE
  rw [hf, h1]
  rcases h2 with h | h
  · rw [decide_eq_true (show k = 0 by omega)]; rfl
  · by_cases h0 : k = 0
    · rw [decide_eq_true h0]; rfl
    · rw [show ((k : Int) - 1).toNat = k - 1 from by omega] at h
      rw [decide_eq_true h]; simp
theorem ok_unfit {es : List Ent} {k : Nat} (hf : fitsE (nth es k) = false) : okE es k = false := by
  unfold okE
  rw [hf]; rfl
def mayE (es : List Ent) : Bool := decide (es.length ≤ 256) && risesE es
end Go.Proofs.YtgdkeafdlehlaaaDoor
