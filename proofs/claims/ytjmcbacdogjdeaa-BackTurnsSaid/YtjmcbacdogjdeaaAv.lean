/- Abstract values: what is known of a value without saying where it lies; resources that a call may change; what a frame and a world are known as. Nothing of the program stands here. -/
import Derived.Test.YtjmcbacdogjdeaaReg
import Derived.Test.YtjmcbacdogjdeaaApp
namespace Go.Proofs.Ytjmcbacdogjdeaa
open Go Go.RowKit
set_option linter.unusedVariables false

/-- a fact of a value that reads only blocks of S -/
structure SFact where
  holds : (Nat → Prop) → World → Value → Prop
  mono : ∀ {S S' : Nat → Prop} {w w' : World} {v : Value}, holds S w v → (∀ b, S b → S' b) → (∀ b, S b → w'.heap[b]? = w.heap[b]?) → holds S' w' v
  one : ∀ {S : Nat → Prop} {w : World} {v : Value}, holds S w v → v.oneCell' = true

inductive AV where
  | any
  | lit (v : Value)
  | snap (F : SFact)
  | own (j : Nat)
  | ptr (j off : Nat)
  | agg (cs : List AV)
  | tup (cs : List AV)
  | when (p : Prop) (a : AV)
  | fn (f : FuncId) (cs : List AV)

/-- the block that a resource's value names -/
def gof : Value → Option Nat
  | .pointer (some ⟨g, 0, none⟩) => some g
  | .slice (some ⟨g, 0, none⟩) _ _ => some g
  | _ => none
/-- the block that may be changed through a resource's value -/
def rblk : Value → Option Nat
  | .pointer (some a) => some a.block
  | v => wblk v

mutual
def AV.holds (S : Nat → Prop) (γ : Nat → Value) (w : World) : AV → Value → Prop
  | .any, _ => True
  | .lit u, v => v = u
  | .snap F, v => F.holds S w v
  | .own j, v => v = γ j
  | .ptr j off, v => ∃ g, gof (γ j) = some g ∧ v = .pointer (some ⟨g, off, none⟩)
  | .agg cs, v => ∃ vs : List Value, v = .agg vs.toArray ∧ AV.holdsL S γ w cs vs
  | .tup cs, v => ∃ vs : List Value, v = .tuple vs.toArray ∧ AV.holdsL S γ w cs vs
  | .when p a, v => (p → AV.holds S γ w a v) ∧ (¬ p → v = undef)
  | .fn f cs, v => ∃ vs : List Value, v = .func (.func f) #[] vs.toArray ∧ AV.holdsL S γ w cs vs
def AV.holdsL (S : Nat → Prop) (γ : Nat → Value) (w : World) : List AV → List Value → Prop
  | [], vs => vs = []
  | c :: cs, vs => ∃ v vs', vs = v :: vs' ∧ AV.holds S γ w c v ∧ AV.holdsL S γ w cs vs'
end
mutual
/-- do all names of resources meet the test? -/
def AV.uses (p : Nat → Bool) : AV → Bool
  | .own j => p j
  | .ptr j _ => p j
  | .agg cs => AV.usesL p cs
  | .tup cs => AV.usesL p cs
  | .fn _ cs => AV.usesL p cs
  | .when _ a => AV.uses p a
  | _ => true
def AV.usesL (p : Nat → Bool) : List AV → Bool
  | [] => true
  | c :: cs => AV.uses p c && AV.usesL p cs
end
/-- does it fill one cell? -/
def AV.allOne : AV → Bool
  | .lit v => v.oneCell'
  | .snap _ => true
  | .own _ => true
  | .ptr _ _ => true
  | .fn _ _ => true
  | _ => false
def AV.allOneL : List AV → Bool
  | [] => true
  | c :: cs => AV.allOne c && AV.allOneL cs
mutual
/-- nothing read from memory, no resource -/
def AV.flat : AV → Bool
  | .any => true
  | .lit _ => true
  | .agg cs => AV.flatL cs
  | .tup cs => AV.flatL cs
  | .when _ a => AV.flat a
  | _ => false
def AV.flatL : List AV → Bool
  | [] => true
  | c :: cs => AV.flat c && AV.flatL cs
end

def Same (S : Nat → Prop) (w w' : World) : Prop := ∀ b, S b → w'.heap[b]? = w.heap[b]?

mutual
theorem AV.mono {S S' : Nat → Prop} {γ γ' : Nat → Value} {w w' : World} (hs : ∀ b, S b → S' b) (hw : Same S w w') (p : Nat → Bool) (hg : ∀ j, p j = true → γ' j = γ j) :
    ∀ (a : AV) (v : Value), a.uses p = true → a.holds S γ w v → a.holds S' γ' w' v
  | .any, v, _, _ => by simp [AV.holds]
  | .lit u, v, _, h => by simpa [AV.holds] using h
  | .snap F, v, _, h => by
    simp only [AV.holds] at h ⊢
    exact F.mono h hs hw
  | .own j, v, hu, h => by
    simp only [AV.holds, AV.uses] at h hu ⊢
    rw [hg j hu]; exact h
  | .ptr j off, v, hu, h => by
    simp only [AV.holds, AV.uses] at h hu ⊢
    rw [hg j hu]; exact h
  | .agg cs, v, hu, h => by
    simp only [AV.holds, AV.uses] at h hu ⊢
    obtain ⟨vs, rfl, h⟩ := h
    exact ⟨vs, rfl, AV.monoL hs hw p hg cs vs hu h⟩
  | .tup cs, v, hu, h => by
    simp only [AV.holds, AV.uses] at h hu ⊢
    obtain ⟨vs, rfl, h⟩ := h
    exact ⟨vs, rfl, AV.monoL hs hw p hg cs vs hu h⟩
  | .fn f cs, v, hu, h => by
    simp only [AV.holds, AV.uses] at h hu ⊢
    obtain ⟨vs, rfl, h⟩ := h
    exact ⟨vs, rfl, AV.monoL hs hw p hg cs vs hu h⟩
  | .when q a, v, hu, h => by
    simp only [AV.holds, AV.uses] at h hu ⊢
    exact ⟨fun hq => AV.mono hs hw p hg a v hu (h.1 hq), h.2⟩
theorem AV.monoL {S S' : Nat → Prop} {γ γ' : Nat → Value} {w w' : World} (hs : ∀ b, S b → S' b) (hw : Same S w w') (p : Nat → Bool) (hg : ∀ j, p j = true → γ' j = γ j) :
    ∀ (cs : List AV) (vs : List Value), AV.usesL p cs = true → AV.holdsL S γ w cs vs → AV.holdsL S' γ' w' cs vs
  | [], vs, _, h => by simpa [AV.holdsL] using h
  | c :: cs, vs, hu, h => by
    simp only [AV.holdsL, AV.usesL, Bool.and_eq_true] at h hu ⊢
    obtain ⟨v, vs', rfl, h1, h2⟩ := h
    exact ⟨v, vs', rfl, AV.mono hs hw p hg c v hu.1 h1, AV.monoL hs hw p hg cs vs' hu.2 h2⟩
end
mutual
theorem AV.uses_true : ∀ (a : AV), a.uses (fun _ => true) = true
  | .any => rfl
  | .lit _ => rfl
  | .snap _ => rfl
  | .own _ => rfl
  | .ptr _ _ => rfl
  | .agg cs => AV.usesL_true cs
  | .tup cs => AV.usesL_true cs
  | .fn _ cs => AV.usesL_true cs
  | .when _ a => AV.uses_true a
theorem AV.usesL_true : ∀ (cs : List AV), AV.usesL (fun _ => true) cs = true
  | [] => rfl
  | c :: cs => by simp [AV.usesL, AV.uses_true c, AV.usesL_true cs]
end
theorem AV.ext {S S' : Nat → Prop} {γ : Nat → Value} {w w' : World} (hs : ∀ b, S b → S' b) (hw : Same S w w') {a : AV} {v : Value} (h : a.holds S γ w v) : a.holds S' γ w' v :=
  AV.mono hs hw (fun _ => true) (fun _ _ => rfl) a v (AV.uses_true a) h
theorem AV.extL {S S' : Nat → Prop} {γ : Nat → Value} {w w' : World} (hs : ∀ b, S b → S' b) (hw : Same S w w') {a : List AV} {v : List Value} (h : AV.holdsL S γ w a v) : AV.holdsL S' γ w' a v :=
  AV.monoL hs hw (fun _ => true) (fun _ _ => rfl) a v (AV.usesL_true a) h
mutual
theorem AV.flat_any {S S' : Nat → Prop} {γ γ' : Nat → Value} {w w' : World} : ∀ (a : AV) (v : Value), a.flat = true → a.holds S γ w v → a.holds S' γ' w' v
  | .any, v, _, _ => by simp [AV.holds]
  | .lit u, v, _, h => by simpa [AV.holds] using h
  | .snap F, v, hf, h => by simp [AV.flat] at hf
  | .own j, v, hf, h => by simp [AV.flat] at hf
  | .ptr j off, v, hf, h => by simp [AV.flat] at hf
  | .fn f cs, v, hf, h => by simp [AV.flat] at hf
  | .agg cs, v, hf, h => by
    simp only [AV.holds, AV.flat] at h hf ⊢
    obtain ⟨vs, rfl, h⟩ := h
    exact ⟨vs, rfl, AV.flat_anyL cs vs hf h⟩
  | .tup cs, v, hf, h => by
    simp only [AV.holds, AV.flat] at h hf ⊢
    obtain ⟨vs, rfl, h⟩ := h
    exact ⟨vs, rfl, AV.flat_anyL cs vs hf h⟩
  | .when q a, v, hf, h => by
    simp only [AV.holds, AV.flat] at h hf ⊢
    exact ⟨fun hq => AV.flat_any a v hf (h.1 hq), h.2⟩
theorem AV.flat_anyL {S S' : Nat → Prop} {γ γ' : Nat → Value} {w w' : World} : ∀ (cs : List AV) (vs : List Value), AV.flatL cs = true → AV.holdsL S γ w cs vs → AV.holdsL S' γ' w' cs vs
  | [], vs, _, h => by simpa [AV.holdsL] using h
  | c :: cs, vs, hf, h => by
    simp only [AV.holdsL, AV.flatL, Bool.and_eq_true] at h hf ⊢
    obtain ⟨v, vs', rfl, h1, h2⟩ := h
    exact ⟨v, vs', rfl, AV.flat_any c v hf.1 h1, AV.flat_anyL cs vs' hf.2 h2⟩
end
theorem AV.holdsL_len {S : Nat → Prop} {γ : Nat → Value} {w : World} : ∀ {cs : List AV} {vs : List Value}, AV.holdsL S γ w cs vs → vs.length = cs.length
  | [], vs, h => by simp [AV.holdsL] at h; simp [h]
  | c :: cs, vs, h => by
    simp only [AV.holdsL] at h
    obtain ⟨v, vs', rfl, _, h2⟩ := h
    simp [AV.holdsL_len h2]
theorem AV.holdsL_get {S : Nat → Prop} {γ : Nat → Value} {w : World} : ∀ {cs : List AV} {vs : List Value}, AV.holdsL S γ w cs vs → ∀ (i : Nat) (c : AV), cs[i]? = some c → ∃ v, vs[i]? = some v ∧ c.holds S γ w v
  | [], vs, h, i, c, hc => by simp at hc
  | d :: cs, vs, h, 0, c, hc => by
    simp only [AV.holdsL] at h
    obtain ⟨v, vs', rfl, h1, _⟩ := h
    simp at hc; subst hc
    exact ⟨v, rfl, h1⟩
  | d :: cs, vs, h, i + 1, c, hc => by
    simp only [AV.holdsL] at h
    obtain ⟨v, vs', rfl, _, h2⟩ := h
    simpa using AV.holdsL_get h2 i c (by simpa using hc)
theorem AV.holdsL_app {S : Nat → Prop} {γ : Nat → Value} {w : World} : ∀ {cs ds : List AV} {vs us : List Value}, AV.holdsL S γ w cs vs → AV.holdsL S γ w ds us → AV.holdsL S γ w (cs ++ ds) (vs ++ us)
  | [], ds, vs, us, h, k => by simp [AV.holdsL] at h; simpa [h] using k
  | c :: cs, ds, vs, us, h, k => by
    simp only [AV.holdsL] at h
    obtain ⟨v, vs', rfl, h1, h2⟩ := h
    simp only [List.cons_append, AV.holdsL]
    exact ⟨v, vs' ++ us, rfl, h1, AV.holdsL_app h2 k⟩
theorem AV.holdsL_split {S : Nat → Prop} {γ : Nat → Value} {w : World} : ∀ {cs ds : List AV} {vs : List Value}, AV.holdsL S γ w (cs ++ ds) vs → AV.holdsL S γ w cs (vs.take cs.length) ∧ AV.holdsL S γ w ds (vs.drop cs.length)
  | [], ds, vs, h => by simpa [AV.holdsL] using h
  | c :: cs, ds, vs, h => by
    simp only [List.cons_append, AV.holdsL] at h
    obtain ⟨v, vs', rfl, h1, h2⟩ := h
    have := AV.holdsL_split h2
    simp only [List.length_cons, List.take_succ_cons, List.drop_succ_cons, AV.holdsL]
    exact ⟨⟨v, _, rfl, h1, this.1⟩, this.2⟩
theorem AV.holdsL_take {S : Nat → Prop} {γ : Nat → Value} {w : World} {cs : List AV} {vs : List Value} (h : AV.holdsL S γ w cs vs) (n : Nat) : AV.holdsL S γ w (cs.take n) (vs.take n) := by
  by_cases hn : n ≤ cs.length
  · have := AV.holdsL_split (cs := cs.take n) (ds := cs.drop n) (by rwa [List.take_append_drop])
    simpa [List.length_take, Nat.min_eq_left hn] using this.1
  · rw [List.take_of_length_le (by omega), List.take_of_length_le (by have := AV.holdsL_len h; omega)]; exact h
theorem AV.holdsL_drop {S : Nat → Prop} {γ : Nat → Value} {w : World} {cs : List AV} {vs : List Value} (h : AV.holdsL S γ w cs vs) (n : Nat) : AV.holdsL S γ w (cs.drop n) (vs.drop n) := by
  by_cases hn : n ≤ cs.length
  · have := AV.holdsL_split (cs := cs.take n) (ds := cs.drop n) (by rwa [List.take_append_drop])
    simpa [List.length_take, Nat.min_eq_left hn] using this.2
  · rw [List.drop_of_length_le (by omega), List.drop_of_length_le (by have := AV.holdsL_len h; omega)]; simp [AV.holdsL]
theorem AV.holdsL_set {S : Nat → Prop} {γ : Nat → Value} {w : World} {u : Value} {d : AV} (hd : d.holds S γ w u) : ∀ {cs : List AV} {vs : List Value} (i : Nat), AV.holdsL S γ w cs vs → AV.holdsL S γ w (cs.set i d) (vs.set i u)
  | [], vs, i, h => by simp [AV.holdsL] at h; subst h; cases i <;> simp [AV.holdsL]
  | c :: cs, vs, 0, h => by
    simp only [AV.holdsL] at h
    obtain ⟨v, vs', rfl, h1, h2⟩ := h
    simp only [List.set_cons_zero, AV.holdsL]
    exact ⟨u, vs', rfl, hd, h2⟩
  | c :: cs, vs, i + 1, h => by
    simp only [AV.holdsL] at h
    obtain ⟨v, vs', rfl, h1, h2⟩ := h
    simp only [List.set_cons_succ, AV.holdsL]
    exact ⟨v, vs'.set i u, rfl, h1, AV.holdsL_set hd i h2⟩

/-- how a datum lies in cells -/
structure Enc (α : Type) where
  size : Nat
  cells : α → List AV
  len : ∀ x, (cells x).length = size
  plain : ∀ x, AV.usesL (fun _ => false) (cells x) = true
  one : ∀ x, AV.allOneL (cells x) = true
  read : List AV → α
def Enc.all {α : Type} (E : Enc α) (xs : List α) : List AV := xs.flatMap E.cells
theorem Enc.all_len {α : Type} (E : Enc α) (xs : List α) : (E.all xs).length = xs.length * E.size := by
  induction xs with
  | nil => simp [Enc.all]
  | cons x xs ih =>
    have : E.all (x :: xs) = E.cells x ++ E.all xs := rfl
    rw [this, List.length_append, ih, E.len]
    simp only [List.length_cons, Nat.add_mul]; omega
theorem Enc.all_append {α : Type} (E : Enc α) (xs ys : List α) : E.all (xs ++ ys) = E.all xs ++ E.all ys := by simp [Enc.all]
theorem Enc.all_one {α : Type} (E : Enc α) (x : α) : E.all [x] = E.cells x := by simp [Enc.all]
theorem usesL_app (p : Nat → Bool) : ∀ (cs ds : List AV), AV.usesL p (cs ++ ds) = (AV.usesL p cs && AV.usesL p ds)
  | [], ds => by simp [AV.usesL]
  | c :: cs, ds => by simp [AV.usesL, usesL_app p cs ds, Bool.and_assoc]
theorem Enc.all_plain {α : Type} (E : Enc α) (xs : List α) : AV.usesL (fun _ => false) (E.all xs) = true := by
  induction xs with
  | nil => simp [Enc.all, AV.usesL]
  | cons x xs ih =>
    have : E.all (x :: xs) = E.cells x ++ E.all xs := rfl
    rw [this, usesL_app, E.plain, ih]; rfl
theorem Enc.all_take {α : Type} (E : Enc α) (xs : List α) (n : Nat) : (E.all xs).take (n * E.size) = E.all (xs.take n) := by
  by_cases hn : n ≤ xs.length
  · conv => lhs; rw [← List.take_append_drop n xs, Enc.all_append]
    have hl : (E.all (xs.take n)).length = n * E.size := by rw [Enc.all_len, List.length_take, Nat.min_eq_left hn]
    rw [← hl, List.take_left]
  · rw [List.take_of_length_le (l := xs) (by omega), List.take_of_length_le]
    rw [Enc.all_len]; exact Nat.mul_le_mul_right _ (by omega)
theorem Enc.all_drop {α : Type} (E : Enc α) (xs : List α) (n : Nat) : (E.all xs).drop (n * E.size) = E.all (xs.drop n) := by
  by_cases hn : n ≤ xs.length
  · conv => lhs; rw [← List.take_append_drop n xs, Enc.all_append]
    have hl : (E.all (xs.take n)).length = n * E.size := by rw [Enc.all_len, List.length_take, Nat.min_eq_left hn]
    rw [← hl, List.drop_left]
  · rw [List.drop_of_length_le (l := xs) (by omega), List.drop_of_length_le]
    · rfl
    rw [Enc.all_len]; exact Nat.mul_le_mul_right _ (by omega)
/-- the cells from the k-th datum on begin with its own -/
theorem Enc.all_at {α : Type} (E : Enc α) (xs : List α) (k : Nat) (h : k < xs.length) : (E.all xs).drop (k * E.size) = E.cells xs[k] ++ E.all (xs.drop (k + 1)) := by
  rw [Enc.all_drop, List.drop_eq_getElem_cons h]; rfl

/-- from A on, the cells hold vs, in blocks of S -/
def RowS (S : Nat → Prop) (w : World) (A : Option Addr) (vs : List Value) : Prop :=
  vs ≠ [] → ∃ ad, A = some ad ∧ S ad.block ∧ ∀ j u, vs[j]? = some u → w.cell? (ad.add j) = some u
theorem cell_same {w w' : World} {a : Addr} (h : w'.heap[a.block]? = w.heap[a.block]?) : w'.cell? a = w.cell? a := by
  unfold World.cell?; rw [h]
theorem RowS.mono {S S' : Nat → Prop} {w w' : World} {A : Option Addr} {vs : List Value} (h : RowS S w A vs) (hs : ∀ b, S b → S' b) (hw : Same S w w') : RowS S' w' A vs := by
  intro hn
  obtain ⟨ad, rfl, hb, hc⟩ := h hn
  refine ⟨ad, rfl, hs _ hb, fun j u hu => ?_⟩
  exact (cell_same (w := w) (w' := w') (a := ad.add j) (by rw [addr_block]; exact hw _ hb)).trans (hc j u hu)
theorem RowS.row {S : Nat → Prop} {w : World} {A : Option Addr} {vs : List Value} (h : RowS S w A vs) : Row w A vs := fun hn => by
  obtain ⟨ad, hA, _, hc⟩ := h hn
  exact ⟨ad, hA, hc⟩
def noγ : Nat → Value := fun _ => .nilFunc
theorem plainL {S : Nat → Prop} {γ γ' : Nat → Value} {w : World} {cs : List AV} {vs : List Value} (hp : AV.usesL (fun _ => false) cs = true) (h : AV.holdsL S γ w cs vs) : AV.holdsL S γ' w cs vs :=
  AV.monoL (fun _ h => h) (fun _ _ => rfl) (fun _ => false) (fun _ h => by cases h) cs vs hp h
/-- a slice that reads as these data -/
def slF {α : Type} (E : Enc α) (xs : List α) : SFact where
  holds S w v := ∃ A c vs, v = .slice A xs.length c ∧ xs.length ≤ c ∧ RowS S w A vs ∧ AV.holdsL S noγ w (E.all xs) vs ∧ ∀ u ∈ vs, u.oneCell' = true
  mono := by
    rintro S S' w w' v ⟨A, c, vs, rfl, hc, hr, hh, h1⟩ hs hw
    exact ⟨A, c, vs, rfl, hc, hr.mono hs hw, AV.extL hs hw hh, h1⟩
  one := by
    rintro S w v ⟨A, c, vs, rfl, _⟩
    rfl
/-- a pointer to cells that read so -/
def placeF (cs : List AV) : SFact where
  holds S w v := ∃ ad vs, v = .pointer (some ad) ∧ RowS S w (some ad) vs ∧ AV.holdsL S noγ w cs vs
  mono := by
    rintro S S' w w' v ⟨ad, vs, rfl, hr, hh⟩ hs hw
    exact ⟨ad, vs, rfl, hr.mono hs hw, AV.extL hs hw hh⟩
  one := by
    rintro S w v ⟨ad, vs, rfl, _⟩
    rfl

/-- what a call may change: a block of cells; a slice of its own -/
inductive Res : Type 1 where
  | box (cs : List AV)
  | own {α : Type} (e : TypeId) (E : Enc α) (xs : List α)
def Res.holds (S : Nat → Prop) (γ : Nat → Value) (w : World) : Res → Value → Prop
  | .box cs, v => ∃ g arr e, v = .pointer (some ⟨g, 0, none⟩) ∧ w.heap[g]? = some (.cells arr e (0, 0)) ∧ AV.holdsL S γ w cs arr.toList
  | .own e E xs, v => ∃ vs, Own w 0 e E.size v xs.length vs ∧ AV.holdsL S noγ w (E.all xs) vs ∧ ∀ u ∈ vs, u.oneCell' = true
def Res.uses (p : Nat → Bool) : Res → Bool
  | .box cs => AV.usesL p cs
  | .own _ _ _ => true

def look.{u} {β : Type u} : List (Nat × β) → Nat → Option β
  | [], _ => none
  | (k, v) :: r, x => match Nat.beq k x with
    | true => some v
    | false => look r x
theorem look_cons.{u} {β : Type u} (k x : Nat) (v : β) (r : List (Nat × β)) : look ((k, v) :: r) x = if k = x then some v else look r x := by
  simp only [look]
  by_cases h : k = x
  · subst h; simp
  · have : Nat.beq k x = false := by
      cases hb : Nat.beq k x with
      | false => rfl
      | true => exact absurd (Nat.eq_of_beq_eq_true hb) h
    simp [this, h]

structure St (S : Nat → Prop) (γ : Nat → Value) (w : World) (H : List (Nat × Res)) : Prop where
  res : ∀ j r, look H j = some r → r.holds S γ w (γ j)
  dis : ∀ i j ri rj b, look H i = some ri → look H j = some rj → rblk (γ i) = some b → rblk (γ j) = some b → i = j
  live : ∀ j r b, look H j = some r → rblk (γ j) = some b → ¬ S b
  sz : ∀ b, S b → b < w.heap.size
  one : ∀ j, (γ j).oneCell' = true

theorem Res.blk_lt {S : Nat → Prop} {γ : Nat → Value} {w : World} {r : Res} {v : Value} (h : r.holds S γ w v) {b : Nat} (hb : rblk v = some b) : b < w.heap.size := by
  cases r with
  | box cs =>
    obtain ⟨g, arr, e, rfl, hg, _⟩ := h
    simp [rblk] at hb; subst hb
    exact (Array.getElem?_eq_some_iff.1 hg).1
  | own e E xs =>
    obtain ⟨vs, ho, _⟩ := h
    have hv : rblk v = wblk v := by
      obtain ⟨_, A, c, rfl, _⟩ := ho
      cases A <;> rfl
    rw [hv] at hb
    exact (ho.lt hb).2
theorem Res.mono {S S' : Nat → Prop} {γ γ' : Nat → Value} {w w' : World} (hs : ∀ b, S b → S' b) (hw : Same S w w') (p : Nat → Bool) (hg : ∀ j, p j = true → γ' j = γ j) {r : Res} {v : Value} (hu : r.uses p = true)
    (hb : ∀ b, rblk v = some b → w'.heap[b]? = w.heap[b]?) (h : r.holds S γ w v) : r.holds S' γ' w' v := by
  cases r with
  | box cs =>
    obtain ⟨g, arr, e, rfl, hh, hc⟩ := h
    exact ⟨g, arr, e, rfl, (hb g rfl).trans hh, AV.monoL hs hw p hg cs _ hu hc⟩
  | own e E xs =>
    obtain ⟨vs, ho, hc, h1⟩ := h
    refine ⟨vs, ?_, AV.extL hs hw hc, h1⟩
    obtain ⟨hl, A, c, rfl, hz | ⟨g, cur, rfl, h0, hh, rest⟩⟩ := ho
    · exact ⟨hl, A, c, rfl, .inl hz⟩
    · cases c with
      | zero =>
        have : xs.length = 0 := by omega
        exact ⟨hl, _, 0, rfl, .inl ⟨this, rfl⟩⟩
      | succ c => exact ⟨hl, _, c + 1, rfl, .inr ⟨g, cur, rfl, h0, (hb g rfl).trans hh, rest⟩⟩

/-- what became of a world: only blocks of L, and new ones -/
structure Keep (L : Nat → Prop) (w w' : World) : Prop where
  os : w'.os = w.os
  tape : w'.tape = w.tape
  output : w'.output = w.output
  size : w.heap.size ≤ w'.heap.size
  block : ∀ b, b < w.heap.size → ¬ L b → w'.heap[b]? = w.heap[b]?
theorem Keep.refl (L : Nat → Prop) (w : World) : Keep L w w := ⟨rfl, rfl, rfl, Nat.le_refl _, fun _ _ _ => rfl⟩
theorem Keep.of_ext {L : Nat → Prop} {w w' : World} (h : Ext w w') : Keep L w w' := ⟨h.os, h.tape, h.output, h.size, fun b hb _ => h.block b hb⟩
theorem Keep.trans {L L' : Nat → Prop} {a b c : World} (h : Keep L a b) (k : Keep L' b c) (hl : ∀ x, L' x → L x ∨ a.heap.size ≤ x) : Keep L a c :=
  ⟨k.os.trans h.os, k.tape.trans h.tape, k.output.trans h.output, Nat.le_trans h.size k.size, fun x hx hn => (k.block x (Nat.lt_of_lt_of_le hx h.size) (fun hL => by rcases hl x hL with h' | h'; exact hn h'; omega)).trans (h.block x hx hn)⟩
theorem Keep.ext {w w' : World} (h : Keep (fun _ => False) w w') : Ext w w' := ⟨h.os, h.tape, h.output, h.size, fun b hb => h.block b hb (fun h => h)⟩

/-- where a call began -/
structure Ctx where
  w : World
  S : Nat → Prop
  L : Nat → Prop
  J : Nat → Prop
  γ : Nat → Value
  lt : ∀ j, J j → j < 1000

structure Rel (c : Ctx) (n : Nat) (fr : List (Nat × AV)) (H : List (Nat × Res)) (S : Nat → Prop) (γ : Nat → Value) (tmps : Array Value) (w : World) : Prop where
  st : St S γ w H
  fr : ∀ x av, look fr x = some av → av.holds S γ w (tmps.getD x undef)
  up : ∀ b, S b → c.S b ∨ c.w.heap.size ≤ b ∨ c.L b
  own : ∀ j r b, look H j = some r → rblk (γ j) = some b → c.w.heap.size ≤ b ∨ c.L b
  ids : ∀ j, c.J j → γ j = c.γ j
  size : tmps.size = n
  keep : Keep c.L c.w w
end Go.Proofs.Ytjmcbacdogjdeaa
