/- Words of our own for walks over abstract values, laid together. Nothing of the program stands here. -/
import Derived.WalkKit
import Derived.Deep.QuietTactic
import Derived.BigQuiet
import Derived.Outline
import Derived.Orders
import Derived.Shelf.Unicode.DecodeSlow
import Derived.Deep.LoopGhost
/- Memory words of our own: a slice that reads qs0 a row of values, a world that only grew. Nothing of the program stands here. -/
namespace Go.Proofs.YtgdkeafdlehlaaaDoor
open Go Go.RowKit

theorem addr_block (a : Addr) (n : Nat) : (a.add n).block = a.block := by unfold Addr.add; split <;> rfl
theorem addr_add2 (a : Addr) (i j : Nat) : (a.add i).add j = a.add (i + j) := by
  unfold Addr.add
  by_cases hi : i = 0 <;> by_cases hj : j = 0 <;> simp [hi, hj, Nat.add_assoc]

/-- A fact kept from the walk. -/
theorem hide {p : Prop} (h : p) : Hid p := h

/-- The world w' is w, grown: all that w had reads qs0 it did. -/
def Ext (w w' : World) : Prop := Below w.heap.size w w'
theorem Ext.refl (w : World) : Ext w w := Below.refl _ _
theorem Ext.trans {a b c : World} (h : Ext a b) (k : Ext b c) : Ext a c := Below.trans h (Below.mono k h.size)
theorem Ext.drew (w : World) : Ext w w.drew := (Below.refl _ _).drew
theorem Ext.drewN (w : World) (n : Nat) : Ext w (w.drewN n) := ⟨rfl, rfl, rfl, Nat.le_refl _, fun _ _ => rfl⟩
theorem Ext.alloc (w : World) (o : Obj) : Ext w (w.alloc o) := (Below.refl _ _).alloc (Nat.le_refl _) o
theorem Ext.cell {w w' : World} (h : Ext w w') {p : Addr} {v : Value} (hc : w.cell? p = some v) : w'.cell? p = some v :=
  (Below.cell h (World.block_lt_of_cell? w p hc)).trans hc

/-- From A on, the cells hold xs. -/
def Row (w : World) (A : Option Addr) (xs : List Value) : Prop :=
  xs ≠ [] → ∃ ad, A = some ad ∧ ∀ j u, xs[j]? = some u → w.cell? (ad.add j) = some u
theorem Row.nil (w : World) (A : Option Addr) : Row w A [] := fun h => absurd rfl h
theorem Row.ext {w w' : World} {A : Option Addr} {xs : List Value} (h : Row w A xs) (e : Ext w w') : Row w' A xs := fun hn => by
  obtain ⟨ad, hA, hc⟩ := h hn
  exact ⟨ad, hA, fun j u hu => e.cell (hc j u hu)⟩
theorem Row.at_ {w : World} {A : Option Addr} {xs : List Value} (h : Row w A xs) {k : Nat} (hk : k < xs.length) :
    ∃ ad, A = some ad ∧ w.cell? (ad.add k) = some xs[k] := by
  obtain ⟨ad, hA, hc⟩ := h (by intro e; subst e; simp at hk)
  exact ⟨ad, hA, hc k _ (List.getElem?_eq_getElem hk)⟩
end Go.Proofs.YtgdkeafdlehlaaaDoor

/- Slices that read qs0 bytes, and qs0 parts. Nothing of the program stands here. -/
namespace Go.Proofs.YtgdkeafdlehlaaaDoor
open Go Go.RowKit
set_option linter.unusedVariables false
/-- bytes qs0 cells -/
def bv (b : UInt8) : Value := .int .u8 (b.toNat : Int)
def bvs (l : List UInt8) : List Value := l.map bv
theorem bvs_len (l : List UInt8) : (bvs l).length = l.length := by simp [bvs]
theorem bvs_append (l m : List UInt8) : bvs (l ++ m) = bvs l ++ bvs m := by simp [bvs]
theorem bvs_one (l : List UInt8) : ∀ u ∈ bvs l, u.oneCell' = true := by
  intro u hu
  simp only [bvs, List.mem_map] at hu
  obtain ⟨b, _, rfl⟩ := hu
  rfl
theorem bvs_len1 (l : List UInt8) : (bvs l).length = l.length * 1 := by simp [bvs]
theorem one_single {v : Value} (h : v.oneCell' = true) : ∀ u ∈ [v], u.oneCell' = true := by
  intro u hu
  rw [List.mem_singleton] at hu
  rw [hu]
  exact h
theorem Row.byte {w : World} {A : Option Addr} {l : List UInt8} (h : Row w A (bvs l)) {k : Nat} (hk : k < l.length) :
    ∃ ad, A = some ad ∧ w.cell? (ad.add k) = some (.int .u8 ((l[k]).toNat : Int)) := by
  obtain ⟨ad, hA, hc⟩ := h.at_ (k := k) (by simpa [bvs] using hk)
  exact ⟨ad, hA, by simpa [bvs, bv] using hc⟩
/-- the value reads qs0 these bytes -/
def RB (w : World) (v : Value) (l : List UInt8) : Prop := ∃ A c, v = .slice A l.length c ∧ l.length ≤ c ∧ Row w A (bvs l)
theorem RB.ext {w w' : World} {v : Value} {l : List UInt8} (h : RB w v l) (e : Ext w w') : RB w' v l := by
  obtain ⟨A, c, hv, hc, hr⟩ := h
  exact ⟨A, c, hv, hc, hr.ext e⟩
theorem RB.nil (w : World) : RB w (.slice none 0 0) [] := ⟨none, 0, rfl, Nat.le_refl _, Row.nil _ _⟩
/-- the values read qs0 these parts -/
def RBs (w : World) (vs : List Value) (ls : List (List UInt8)) : Prop := vs.length = ls.length ∧ ∀ (i : Nat) (h : i < vs.length) (h' : i < ls.length), RB w vs[i] ls[i]
theorem RBs.nil (w : World) : RBs w [] [] := ⟨rfl, fun i h => absurd h (by simp)⟩
theorem RBs.cons {w : World} {v : Value} {l : List UInt8} {vs : List Value} {ls : List (List UInt8)} (h : RB w v l) (hs : RBs w vs ls) : RBs w (v :: vs) (l :: ls) := by
  refine ⟨by simp [hs.1], fun i hi hi' => ?_⟩
  cases i with
  | zero => exact h
  | succ i => exact hs.2 i (by simpa using hi) (by simpa using hi')
theorem RBs.ext {w w' : World} {vs : List Value} {ls : List (List UInt8)} (h : RBs w vs ls) (e : Ext w w') : RBs w' vs ls :=
  ⟨h.1, fun i hi hi' => (h.2 i hi hi').ext e⟩
/-- the value reads qs0 a list of parts -/
def RP (w : World) (v : Value) (ls : List (List UInt8)) : Prop := ∃ A c vs, v = .slice A ls.length c ∧ ls.length ≤ c ∧ Row w A vs ∧ RBs w vs ls
theorem RP.ext {w w' : World} {v : Value} {ls : List (List UInt8)} (h : RP w v ls) (e : Ext w w') : RP w' v ls := by
  obtain ⟨A, c, vs, hv, hc, hr, hs⟩ := h
  exact ⟨A, c, vs, hv, hc, hr.ext e, hs.ext e⟩
theorem RP.nil (w : World) : RP w (.slice none 0 0) [] := ⟨none, 0, [], rfl, Nat.le_refl _, Row.nil _ _, RBs.nil _⟩
theorem Row.new (w : World) (cs : List Value) (e : TypeId) (fr : Nat × Nat) : Row (w.alloc (.cells cs.toArray e fr)) (some ⟨w.heap.size, 0, none⟩) cs := fun _ => ⟨_, rfl, fun j u hu => by
  have hadd : (⟨w.heap.size, 0, none⟩ : Addr).add j = ⟨w.heap.size, j, none⟩ := by unfold Addr.add; split <;> simp_all
  rw [hadd, cell_of_row _ _ j _ _ _ (heap_alloc_new w _)]
  simpa using hu⟩
theorem Row.newAt {w : World} {g : Nat} (cs : List Value) (e : TypeId) (fr : Nat × Nat) (h : g = w.heap.size) : Row (w.alloc (.cells cs.toArray e fr)) (some ⟨g, 0, none⟩) cs := by
  subst h
  exact Row.new w cs e fr
theorem RP.new {w : World} {g : Nat} {vs : List Value} {ls : List (List UInt8)} {e : TypeId} (hs : RBs w vs ls) (h : g = w.heap.size) {n : Nat} (hn : n = ls.length) : RP (w.alloc (.cells vs.toArray e)) (.slice (some ⟨g, 0, none⟩) n n) ls := by
  subst hn
  exact ⟨_, _, vs, rfl, Nat.le_refl _, Row.newAt vs e _ h, hs.ext (Ext.alloc _ _)⟩
/-- cells of a lent copy: the bytes, some marks, some zeros -/
def lentCells (l : List UInt8) (k j : Nat) : List Value := bvs l ++ (List.replicate k (Value.int .u8 119) ++ List.replicate j (Value.int .u8 0))
/-- what was lent: a copy of the bytes, three marks behind -/
def Lent (w : World) (v : Value) (l : List UInt8) : Prop := ∃ g e, v = .slice (some ⟨g, 0, none⟩) l.length (l.length + 3) ∧ w.heap[g]? = some (.cells (lentCells l 3 0).toArray e (0, 0))
theorem Lent.ext {w w' : World} {v : Value} {l : List UInt8} (h : Lent w v l) (x : Ext w w') : Lent w' v l := by
  obtain ⟨g, e, hv, hg⟩ := h
  exact ⟨g, e, hv, (x.block g (Array.getElem?_eq_some_iff.1 hg).1).trans hg⟩
theorem lent_row {w : World} {g : Nat} {e : TypeId} {l : List UInt8} (hg : w.heap[g]? = some (.cells (lentCells l 3 0).toArray e (0, 0))) : Row w (some ⟨g, 0, none⟩) (bvs l) := fun _ => ⟨_, rfl, fun j u hu => by
  have hadd : (⟨g, 0, none⟩ : Addr).add j = ⟨g, j, none⟩ := by unfold Addr.add; split <;> simp_all
  rw [hadd, cell_of_row w g j _ _ _ hg]
  simp only [List.getElem?_toArray, lentCells]
  have hj := (List.getElem?_eq_some_iff.1 hu).1
  rw [List.getElem?_append_left hj]; exact hu⟩
theorem Lent.rb {w : World} {v : Value} {l : List UInt8} (h : Lent w v l) : RB w v l := by
  obtain ⟨g, e, hv, hg⟩ := h
  exact ⟨_, _, hv, by omega, lent_row hg⟩
end Go.Proofs.YtgdkeafdlehlaaaDoor

/- A region whose operations may run in many orders: one fact an operation, each established from the facts of the operations that it must follow, whatever came between. Nothing of the program stands here. -/
namespace Go.Proofs.YtgdkeafdlehlaaaDoor
open Go Go.RowKit
set_option linter.unusedVariables false

/-- how the world may go on from operation to operation -/
structure PreG (G : World → World → Prop) : Prop where
  refl : ∀ w, G w w
  trans : ∀ {a b c}, G a b → G b c → G a c
  drew : ∀ w, G w { w with drawn := w.drawn + 1 }
theorem preExt : PreG Ext := ⟨Ext.refl, Ext.trans, Ext.drew⟩
theorem grown_trans {a b c : World} {row : Option Nat} (h : a.grownBy b row) (k : b.grownBy c row) : a.grownBy c row :=
  ⟨k.os.trans h.os, k.tape.trans h.tape, k.output.trans h.output, Nat.le_trans h.size k.size, fun i hi hne => (k.block i (Nat.lt_of_lt_of_le hi h.size) hne).trans (h.block i hi hne)⟩
theorem grown_refl (w : World) (row : Option Nat) : w.grownBy w row := ⟨rfl, rfl, rfl, Nat.le_refl _, fun _ _ _ => rfl⟩
theorem preGrown (row : Option Nat) : PreG (fun w w' => w.grownBy w' row) :=
  ⟨fun w => grown_refl w row, fun h k => grown_trans h k, fun w => ⟨rfl, rfl, rfl, Nat.le_refl _, fun _ _ _ => rfl⟩⟩

def dstOf (ops : Array Oper) (i : Nat) : Option Tmp := (ops[i]?).bind (·.dst)
/-- what an operation comes to, if it ends qs0 it should -/
def Outcome (P : Program) (R : Value → World → Prop) : Result Next → Prop
  | .ok (.value v) w => R v w
  | .ok .skip w => R undef w
  | .ok (.enter f args) w => Calls P f args w fun e w' => ∃ v, e = .returned v ∧ R v w'
  | _ => False
theorem Outcome.upon {P : Program} {o : Oper} {a : Act} {K : Act → World → Prop} {Q : Exit → Act → World → Prop} {r : Result Next}
    (h : Outcome P (fun v w => K (a.put o.dst v) w) r) : o.upon P a K Q r := by
  cases r with
  | ok n w =>
    cases n with
    | value v => exact h
    | skip => exact h
    | enter f args =>
      refine Calls.mono h ?_
      rintro e w' ⟨v, rfl, hv⟩
      exact hv
    | _ => exact h.elim
  | halt x w => exact h.elim
theorem Outcome.mono {P : Program} {R S : Value → World → Prop} {r : Result Next} (h : Outcome P R r) (hRS : ∀ v w, R v w → S v w) : Outcome P S r := by
  cases r with
  | ok n w =>
    cases n with
    | value v => exact hRS _ _ h
    | skip => exact hRS _ _ h
    | enter f args => exact Calls.mono h fun e w' ⟨v, he, hv⟩ => ⟨v, he, hRS _ _ hv⟩
    | _ => exact h.elim
  | halt x w => exact h.elim

/-- the operations that one must follow -/
def needs (o : Oper) : List Nat := (o.after.toList.filter (Region.binds .any)).map (·.on)
def outside (ops : Array Oper) (t : Tmp) : Bool := ops.all fun o => o.dst != some t

/-- what is known where an operation runs -/
structure Known (ops : Array Oper) (a0 : Act) (F : Nat → Value → World → Prop) (o : Oper) (ρ : Operand → Value) (w : World) : Prop where
  const : ∀ v, ρ (.const v) = v
  func : ∀ f, ρ (.func f) = .func (.func f) #[] #[]
  out : ∀ t, outside ops t = true → ρ (.tmp t) = a0.tmps.getD t undef
  dep : ∀ j d, (needs o).contains j = true → dstOf ops j = some d → F j (ρ (.tmp d)) w

/-- one operation does what its fact says -/
def OpOk (G : World → World → Prop) (P : Program) (ops : Array Oper) (a0 : Act) (w0 : World) (F : Nat → Value → World → Prop) (i : Nat) (o : Oper) : Prop :=
  ∀ (ρ : Operand → Value) (w : World), G w0 w → Known ops a0 F o ρ w →
    match o.guard with
    | none => Outcome P (fun v w' => G w w' ∧ F i v w') ((execOp ρ o).run P w)
    | some (j, want) => ∃ d b, dstOf ops j = some d ∧ ρ (.tmp d) = .bool b ∧ if b = want then Outcome P (fun v w' => G w w' ∧ F i v w') ((execOp ρ o).run P w) else F i undef w

def FactsOk (G : World → World → Prop) (P : Program) (ops : Array Oper) (a0 : Act) (w0 : World) (F : Nat → Value → World → Prop) : Nat → List Oper → Prop
  | _, [] => True
  | i, o :: rest => OpOk G P ops a0 w0 F i o ∧ FactsOk G P ops a0 w0 F (i + 1) rest
theorem FactsOk.get {G : World → World → Prop} {P : Program} {ops : Array Oper} {a0 : Act} {w0 : World} {F : Nat → Value → World → Prop} : ∀ {l : List Oper} {k : Nat}, FactsOk G P ops a0 w0 F k l →
    ∀ i o, l[i]? = some o → OpOk G P ops a0 w0 F (k + i) o
  | [], _, _, i, o, h => by simp at h
  | x :: l, k, hf, 0, o, h => by
    simp at h; subst h; exact hf.1
  | x :: l, k, hf, i + 1, o, h => by
    have := FactsOk.get hf.2 i o (by simpa using h)
    rwa [show k + 1 + i = k + (i + 1) from by omega] at this

/-- the check of a region's text: temporaries are written once, read behind their writers, no operation follows a later one -/
def regOk (ops : Array Oper) (n : Nat) : Bool :=
  ((List.range ops.size).all fun i => match ops[i]? with
    | none => false
    | some o => (match o.dst with | none => false | some d => decide (d < n) && ((List.range ops.size).all fun j => i == j || dstOf ops j != some d)) &&
      (needs o).all (fun j => decide (j < i)) && (match o.guard with | none => true | some (j, _) => (needs o).contains j) && Region.noSelect ops)

/-- the frame with the temporaries of the region filled -/
def fill (vs : Nat → Value) : List Oper → Nat → Array Value → Array Value
  | [], _, t => t
  | o :: rest, k, t => fill vs rest (k + 1) (match o.dst with | some d => t.setIfInBounds d (vs k) | none => t)
theorem fill_size (vs : Nat → Value) : ∀ (l : List Oper) (k : Nat) (t : Array Value), (fill vs l k t).size = t.size
  | [], _, t => rfl
  | o :: rest, k, t => by
    unfold fill
    rw [fill_size vs rest]
    cases o.dst <;> simp
theorem fill_out (vs : Nat → Value) : ∀ (l : List Oper) (k : Nat) (t : Array Value) (d : Tmp), (∀ o ∈ l, o.dst ≠ some d) → (fill vs l k t)[d]? = t[d]?
  | [], _, t, d, _ => rfl
  | o :: rest, k, t, d, h => by
    unfold fill
    rw [fill_out vs rest _ _ d (fun o ho => h o (List.mem_cons_of_mem _ ho))]
    have := h o List.mem_cons_self
    cases hd : o.dst with
    | none => rfl
    | some e =>
      rw [hd] at this
      simp only [Array.getElem?_setIfInBounds]
      rw [if_neg (by intro he; exact this (by rw [he]))]
theorem fill_in (vs : Nat → Value) : ∀ (l : List Oper) (k : Nat) (t : Array Value) (i : Nat) (o : Oper) (d : Tmp), l[i]? = some o → o.dst = some d → d < t.size →
    (∀ j o', l[j]? = some o' → o'.dst = some d → j = i) → (fill vs l k t)[d]? = some (vs (k + i))
  | [], _, t, i, o, d, h, _, _, _ => by simp at h
  | x :: rest, k, t, 0, o, d, h, hd, hs, hu => by
    simp at h; subst h
    unfold fill
    rw [hd, fill_out]
    · simp [hs]
    · intro o' ho' hd'
      obtain ⟨j, hj, rfl⟩ := List.getElem_of_mem ho'
      have := hu (j + 1) rest[j] (by simp) hd'
      omega
  | x :: rest, k, t, i + 1, o, d, h, hd, hs, hu => by
    unfold fill
    have hx : x.dst ≠ some d := fun e => by have := hu 0 x (by simp) e; omega
    rw [fill_in vs rest (k + 1) _ i o d (by simpa using h) hd (by cases x.dst <;> simpa using hs) (fun j o' hj hd' => by
      have := hu (j + 1) o' (by simpa using hj) hd'
      omega)]
    congr 2
    omega

section
variable {P : Program} {ops : Array Oper} {a0 : Act} {w0 : World} {F : Nat → Value → World → Prop} {Q : Exit → Act → World → Prop} {n : Nat} {G : World → World → Prop}

structure RInv (G : World → World → Prop) (ops : Array Oper) (a0 : Act) (w0 : World) (F : Nat → Value → World → Prop) (listed : Array Bool) (a : Act) (w : World) : Prop where
  ext : G w0 w
  size : a.tmps.size = a0.tmps.size
  defers : a.defers = a0.defers
  out : ∀ t, outside ops t = true → a.tmps[t]? = a0.tmps[t]?
  facts : ∀ i d, listed.getD i false = true → dstOf ops i = some d → F i (a.tmps.getD d undef) w

theorem dst_unique (hc : regOk ops n = true) {i j : Nat} {d : Tmp} (hi : dstOf ops i = some d) (hj : dstOf ops j = some d) : i = j := by
  unfold dstOf at hi
  cases ho : ops[i]? with
  | none => simp [ho] at hi
  | some o =>
    simp [ho] at hi
    have hlt : i < ops.size := (Array.getElem?_eq_some_iff.1 ho).1
    have hjl : j < ops.size := by
      unfold dstOf at hj
      cases hoj : ops[j]? with
      | none => simp [hoj] at hj
      | some o' => exact (Array.getElem?_eq_some_iff.1 hoj).1
    have h1 := List.all_eq_true.1 hc i (List.mem_range.2 hlt)
    simp only [ho, hi, Bool.and_eq_true] at h1
    have h2 := List.all_eq_true.1 h1.1.1.1.2 j (List.mem_range.2 hjl)
    simp only [Bool.or_eq_true, beq_iff_eq, bne_iff_ne, hj, ne_eq, not_true_eq_false, or_false] at h2
    exact h2
theorem op_check (hc : regOk ops n = true) {i : Nat} {o : Oper} (ho : ops[i]? = some o) :
    (∃ d, o.dst = some d ∧ d < n) ∧ (∀ j, j ∈ needs o → j < i) ∧ (∀ j b, o.guard = some (j, b) → (needs o).contains j = true) := by
  have hlt : i < ops.size := (Array.getElem?_eq_some_iff.1 ho).1
  have h1 := List.all_eq_true.1 hc i (List.mem_range.2 hlt)
  simp only [ho, Bool.and_eq_true] at h1
  refine ⟨?_, ?_, ?_⟩
  · cases hd : o.dst with
    | none => simp [hd] at h1
    | some d => simp [hd] at h1; exact ⟨d, rfl, h1.1.1.1.1⟩
  · intro j hj
    simpa using List.all_eq_true.1 h1.1.1.2 j hj
  · intro j b hg
    have := h1.1.2
    simp only [hg] at this
    exact this

theorem ready_iff {i : Nat} {listed : Array Bool} (hs : listed.size = ops.size) : i ∈ Region.ready .any ops listed ↔ ∃ o, ops[i]? = some o ∧ listed.getD i false = false ∧ ∀ j ∈ needs o, listed.getD j false = true := by
  unfold Region.ready needs
  simp only [List.mem_filter, List.mem_range, Bool.and_eq_true, Bool.not_eq_true']
  constructor
  · rintro ⟨hi, hl, ha⟩
    refine ⟨ops[i], Array.getElem?_eq_getElem hi, ?_, ?_⟩
    · simp only [Array.getD_eq_getD_getElem?] at hl ⊢
      rw [Array.getElem?_eq_getElem (by omega)] at hl ⊢
      simpa using hl
    · simp only [Array.getElem?_eq_getElem hi, Option.map_some, Option.getD_some, Array.all_eq_true'] at ha
      intro j hj
      simp only [List.mem_map, List.mem_filter] at hj
      obtain ⟨e, ⟨he, hb⟩, rfl⟩ := hj
      have := ha e (by simpa using he)
      simpa [hb] using this
  · rintro ⟨o, ho, hl, ha⟩
    have hi : i < ops.size := (Array.getElem?_eq_some_iff.1 ho).1
    refine ⟨hi, ?_, ?_⟩
    · simp only [Array.getD_eq_getD_getElem?] at hl ⊢
      rw [Array.getElem?_eq_getElem (by omega)] at hl ⊢
      simpa using hl
    · simp only [ho, Option.map_some, Option.getD_some, Array.all_eq_true']
      intro e he
      by_cases hb : Region.binds .any e = true
      · have := ha e.on (by
          simp only [List.mem_map, List.mem_filter]
          exact ⟨e, ⟨by simpa using he, hb⟩, rfl⟩)
        simp only [this, Bool.or_true]
      · simp only [Bool.not_eq_true] at hb
        simp only [hb, Bool.not_false, Bool.true_or]

theorem all_listed (hc : regOk ops n = true) {listed : Array Bool} (hs : listed.size = ops.size) (hr : Region.ready .any ops listed = []) : ∀ i, i < ops.size → listed.getD i false = true := by
  intro i
  induction i using Nat.strongRecOn with
  | ind i ih =>
    intro hi
    cases hl : listed.getD i false with
    | true => rfl
    | false =>
      exfalso
      have ho := Array.getElem?_eq_getElem hi
      have hm : i ∈ Region.ready .any ops listed := (ready_iff hs).2 ⟨ops[i], ho, hl, fun j hj => ih j ((op_check hc ho).2.1 j hj) (by have := (op_check hc ho).2.1 j hj; omega)⟩
      rw [hr] at hm
      cases hm

theorem rinv_step (hG : PreG G) (hc : regOk ops n = true) (hn : n = a0.tmps.size) (hmono : ∀ i v w w', F i v w → G w w' → F i v w') {listed : Array Bool} (hs : listed.size = ops.size) {a : Act} {w w' : World} (h : RInv G ops a0 w0 F listed a w)
    {i : Nat} {o : Oper} (ho : ops[i]? = some o) {v : Value} (hx : G w w') (hv : F i v w') : RInv G ops a0 w0 F (listed.setIfInBounds i true) (a.put o.dst v) w' := by
  obtain ⟨⟨d, hd, hdn⟩, hneeds, hguard⟩ := op_check hc ho
  have hput : a.put o.dst v = { a with tmps := a.tmps.setIfInBounds d v } := by rw [hd]; rfl
  rw [hput]
  have hdi : dstOf ops i = some d := by unfold dstOf; rw [ho]; exact hd
  refine ⟨hG.trans h.ext hx, by simpa using h.size, h.defers, ?_, ?_⟩
  · intro t ht
    have hne : d ≠ t := by
      intro e
      subst e
      unfold outside at ht
      have := Array.all_eq_true'.1 ht o (Array.mem_of_getElem? ho)
      simp [hd] at this
    simp only [Array.getElem?_setIfInBounds, if_neg hne]
    exact h.out t ht
  · intro j e hj hje
    by_cases hij : j = i
    · subst hij
      rw [hdi] at hje
      injection hje with hje
      subst hje
      simp only [Array.getD_eq_getD_getElem?, Array.getElem?_setIfInBounds]
      rw [if_pos trivial, if_pos (by rw [h.size, ← hn]; exact hdn)]
      simpa using hv
    · have hed : d ≠ e := fun he => hij (dst_unique hc hje (by rw [← he]; exact hdi))
      simp only [Array.getD_eq_getD_getElem?, Array.getElem?_setIfInBounds, if_neg hed]
      have hl : listed.getD j false = true := by
        simp only [Array.getD_eq_getD_getElem?, Array.getElem?_setIfInBounds] at hj ⊢
        rw [if_neg (by omega)] at hj
        exact hj
      have := h.facts j e hl hje
      simp only [Array.getD_eq_getD_getElem?] at this
      exact hmono _ _ _ _ this hx

theorem known_of (hc : regOk ops n = true) {listed : Array Bool} {a : Act} {w : World} (h : RInv G ops a0 w0 F listed a w) {o : Oper} (hl : ∀ j ∈ needs o, listed.getD j false = true) : Known ops a0 F o a.eval w := by
  refine ⟨fun _ => rfl, fun _ => rfl, ?_, ?_⟩
  · intro t ht
    have := h.out t ht
    simp only [Act.eval, Array.getD_eq_getD_getElem?, this]
  · intro j d hj hd
    exact h.facts j d (hl j (by simpa using hj)) hd

theorem facts_any (hG : PreG G) (hc : regOk ops n = true) (hn : n = a0.tmps.size) (hmono : ∀ i v w w', F i v w → G w w' → F i v w') (hop : FactsOk G P ops a0 w0 F 0 ops.toList)
    (hend : ∀ a w, RInv G ops a0 w0 F (Array.replicate ops.size true) a w → Q .normal a w) :
    ∀ (fuel : Nat) (listed : Array Bool) (a : Act) (w : World), listed.size = ops.size → (listed.toList.countP (fun b => !b)) ≤ fuel → RInv G ops a0 w0 F listed a w → wpAny P .any ops Q fuel listed a w := by
  have fin : ∀ (listed : Array Bool) (a : Act) (w : World), listed.size = ops.size → RInv G ops a0 w0 F listed a w → Region.ready .any ops listed = [] → Q .normal a w := by
    intro listed a w hs h hr
    have hall := all_listed hc hs hr
    refine hend a w ⟨h.ext, h.size, h.defers, h.out, fun i d _ hd => h.facts i d (hall i ?_) hd⟩
    unfold dstOf at hd
    cases ho : ops[i]? with
    | none => simp [ho] at hd
    | some o => exact (Array.getElem?_eq_some_iff.1 ho).1
  intro fuel
  induction fuel with
  | zero =>
    intro listed a w hs hf h
    have hr : Region.ready .any ops listed = [] := by
      rw [List.eq_nil_iff_forall_not_mem]
      intro i hi
      obtain ⟨o, ho, hl, _⟩ := (ready_iff hs).1 hi
      have hlt : i < listed.size := by rw [hs]; exact (Array.getElem?_eq_some_iff.1 ho).1
      have h0 : listed.toList.countP (fun b => !b) = 0 := by omega
      rw [List.countP_eq_zero] at h0
      have := h0 listed[i] (by simp)
      simp only [Array.getD_eq_getD_getElem?, Array.getElem?_eq_getElem hlt, Option.getD_some] at hl
      simp [hl] at this
    exact ⟨hr, fin listed a w hs h hr⟩
  | succ fuel ih =>
    intro listed a w hs hf h
    refine ⟨fin listed a w hs h, ?_⟩
    intro i hi
    obtain ⟨o, ho, hl, hneed⟩ := (ready_iff hs).1 hi
    have hlt : i < listed.size := by rw [hs]; exact (Array.getElem?_eq_some_iff.1 ho).1
    have hcount : (listed.setIfInBounds i true).toList.countP (fun b => !b) ≤ fuel := by
      simp only [Array.getD_eq_getD_getElem?, Array.getElem?_eq_getElem hlt, Option.getD_some] at hl
      have hl' : listed.toList[i] = false := by simpa using hl
      have hlt' : i < listed.toList.length := by simpa using hlt
      have e1 : (listed.setIfInBounds i true).toList = listed.toList.set i true := by simp
      rw [e1]
      have := List.countP_set (p := fun b => !b) (l := listed.toList) (i := i) (a := true) hlt'
      have hpos : 0 < listed.toList.countP (fun b => !b) := List.countP_pos_iff.2 ⟨listed.toList[i], List.getElem_mem _, by rw [hl']; rfl⟩
      rw [this, hl']
      simp only [Bool.not_false, Bool.not_true, if_true, Bool.false_eq_true, if_false]
      omega
    have hk := known_of hc h hneed
    have hop' := hop.get i o (by simpa using ho)
    rw [Nat.zero_add] at hop'
    have hok := hop' a.eval w h.ext hk
    have next : ∀ (v : Value) (w' : World), G w w' → F i v w' → wpAny P .any ops Q fuel (listed.setIfInBounds i true) (a.put o.dst v) w' := fun v w' hx hv =>
      ih _ _ _ (by simpa using hs) hcount (rinv_step hG hc hn hmono hs h ho hx hv)
    unfold wpOp
    simp only [ho]
    have run : Outcome P (fun v w' => G w w' ∧ F i v w') ((execOp a.eval o).run P w) → o.wp P a w (wpAny P .any ops Q fuel (listed.setIfInBounds i true)) Q := fun hr =>
      Outcome.upon (hr.mono fun v w' ⟨hx, hv⟩ => next v w' hx hv)
    cases hg : o.guard with
    | none =>
      simp only [hg] at hok
      rw [if_pos (by simp [Region.wanted, hg])]
      exact .inl (run hok)
    | some jb =>
      obtain ⟨j, want⟩ := jb
      simp only [hg] at hok
      obtain ⟨d, b, hd, hb, hif⟩ := hok
      have hy : yielded ops a.tmps j = some b := by
        unfold yielded
        have hd' : ((ops[j]?).bind (·.dst)) = some d := hd
        rw [hd']
        simp only [Act.eval, Array.getD_eq_getD_getElem?] at hb
        cases ht : a.tmps[d]? with
        | none => simp [ht, undef] at hb
        | some v =>
          simp only [ht, Option.getD_some] at hb
          subst hb
          simp [ht]
      by_cases hbw : b = want
      · rw [if_pos (by simp [Region.wanted, hg, hy, hbw])]
        rw [if_pos hbw] at hif
        exact .inl (run hif)
      · rw [if_neg (by simp [Region.wanted, hg, hy, hbw])]
        rw [if_neg hbw] at hif
        exact next _ _ (hG.refl w) hif

theorem wp_region_facts {id : Nat} (hG : PreG G) (hm : P.follows .mixedOrders = true) (hn : n = a0.tmps.size) (hc : regOk ops n = true) (hmono : ∀ i v w w', F i v w → G w w' → F i v w')
    (hop : FactsOk G P ops a0 w0 F 0 ops.toList)
    (hend : ∀ (vs : Nat → Value) (w : World), G w0 w → (∀ i d, dstOf ops i = some d → F i (vs i) w) → Q .normal ⟨fill vs ops.toList 0 a0.tmps, a0.defers⟩ w) :
    (Code.region id ops true).wp P Q a0 w0 := by
  refine wp_region_any hm ?_
  refine facts_any (w0 := w0) hG hc hn hmono hop ?_ ops.size _ a0 _ (by simp) (by have := List.countP_le_length (p := fun b : Bool => !b) (l := List.replicate ops.size false); simpa using this) ?_
  · intro a w h
    have hfacts : ∀ i d, dstOf ops i = some d → F i (a.tmps.getD d undef) w := fun i d hd => h.facts i d (by
      unfold dstOf at hd
      cases ho : ops[i]? with
      | none => simp [ho] at hd
      | some o =>
        have := (Array.getElem?_eq_some_iff.1 ho).1
        simp [Array.getD_eq_getD_getElem?, this]) hd
    have hq := hend (fun i => match dstOf ops i with | some d => a.tmps.getD d undef | none => undef) w h.ext (fun i d hd => by simpa [hd] using hfacts i d hd)
    have ha : a = ⟨fill (fun i => match dstOf ops i with | some d => a.tmps.getD d undef | none => undef) ops.toList 0 a0.tmps, a0.defers⟩ := by
      cases a with
      | mk tmps defers =>
        have hd := h.defers
        simp only at hd
        subst hd
        congr 1
        apply Array.ext'
        apply List.ext_getElem?
        intro t
        simp only [Array.getElem?_toList]
        by_cases ht : outside ops t = true
        · rw [fill_out]
          · exact h.out t ht
          · intro o ho e
            unfold outside at ht
            have := Array.all_eq_true'.1 ht o (by simpa using ho)
            simp [e] at this
        · have hex : ∃ o ∈ ops, o.dst = some t := by
            unfold outside at ht
            rw [Array.all_eq_true'] at ht
            simpa using ht
          obtain ⟨o, ho, hd⟩ := hex
          obtain ⟨i, hi, rfl⟩ := Array.getElem_of_mem ho
          have hoi := Array.getElem?_eq_getElem hi
          have hdi : dstOf ops i = some t := by unfold dstOf; rw [hoi]; exact hd
          obtain ⟨⟨d', hd', hlt⟩, _, _⟩ := op_check hc hoi
          have hte : t = d' := by
            have := hd.symm.trans hd'
            injection this
          have hlt2 : t < a0.tmps.size := by rw [← hn, hte]; exact hlt
          rw [fill_in _ ops.toList 0 a0.tmps i ops[i] t (by simp) hd hlt2 (fun j o' hj hd2 => dst_unique hc (by unfold dstOf; rw [show ops[j]? = some o' from by simpa using hj]; exact hd2) hdi)]
          rw [Nat.zero_add, hdi]
          have hsz := h.size
          simp only at hsz
          simp only [Array.getD_eq_getD_getElem?]
          rw [Array.getElem?_eq_getElem (show t < tmps.size from by rw [hsz]; exact hlt2)]
          rfl
    rw [ha]
    exact hq
  · exact ⟨hG.drew _, rfl, rfl, fun _ _ => rfl, fun i d hi _ => by
      simp only [Array.getD_eq_getD_getElem?, Array.getElem?_replicate] at hi
      split at hi <;> simp at hi⟩

theorem wp_region_lit_facts {id : Nat} {l : List Oper} {tmps : Array Value} {defers : List Deferred} (hG : PreG G) (hm : P.follows .mixedOrders = true) (hc : regOk l.toArray tmps.size = true) (hmono : ∀ i v w w', F i v w → G w w' → F i v w')
    (hop : FactsOk G P l.toArray ⟨tmps, defers⟩ w0 F 0 l)
    (hend : ∀ (vs : Nat → Value) (w : World), G w0 w → (∀ i d, dstOf l.toArray i = some d → F i (vs i) w) → Q .normal ⟨fill vs l 0 tmps, defers⟩ w) :
    (Code.region id l.toArray true).wp P Q ⟨tmps, defers⟩ w0 :=
  wp_region_facts hG hm rfl hc hmono (by simpa using hop) (fun vs w hx hf => by simpa using hend vs w hx hf)
theorem fill_get {l : List Oper} {tmps : Array Value} {i : Nat} {d : Tmp} (vs : Nat → Value) (hc : regOk l.toArray tmps.size = true) (hd : dstOf l.toArray i = some d) : (fill vs l 0 tmps).getD d undef = vs i := by
  have hu := fun j (hj : dstOf l.toArray j = some d) => dst_unique hc hj hd
  unfold dstOf at hd
  cases ho : l.toArray[i]? with
  | none => simp [ho] at hd
  | some o =>
    obtain ⟨⟨d', hd', hlt⟩, _, _⟩ := op_check hc ho
    rw [ho] at hd
    have e : d' = d := by
      have := hd'.symm.trans hd
      injection this
    subst e
    rw [Array.getD_eq_getD_getElem?, fill_in vs l 0 tmps i o d' (by simpa using ho) hd' hlt (fun j o' hj hd2 => hu j (by unfold dstOf; rw [show l.toArray[j]? = some o' from by simpa using hj]; exact hd2)), Nat.zero_add]
    rfl
theorem fill_end {l : List Oper} {tmps : Array Value} {i : Nat} {d : Tmp} {v : Value} (vs : Nat → Value) (hc : regOk l.toArray tmps.size = true) (hd : dstOf l.toArray i = some d) (hv : vs i = v) : ∃ T, T = fill vs l 0 tmps ∧ T.getD d undef = v :=
  ⟨_, rfl, (fill_get vs hc hd).trans hv⟩
theorem factsOk_nil {i : Nat} : FactsOk G P ops a0 w0 F i [] := trivial
theorem factsOk_cons {i : Nat} {o : Oper} {rest : List Oper} (h : OpOk G P ops a0 w0 F i o) (hr : FactsOk G P ops a0 w0 F (i + 1) rest) : FactsOk G P ops a0 w0 F i (o :: rest) := ⟨h, hr⟩
theorem opOk_none {i : Nat} {o : Oper} (hg : o.guard = none) (h : ∀ ρ w, G w0 w → Known ops a0 F o ρ w → Outcome P (fun v w' => G w w' ∧ F i v w') ((execOp ρ o).run P w)) : OpOk G P ops a0 w0 F i o := by
  intro ρ w hx hk
  rw [hg]
  exact h ρ w hx hk
theorem opOk_some {i j d : Nat} {b : Bool} {o : Oper} (hg : o.guard = some (j, b)) (hd : dstOf ops j = some d) (hn : (needs o).contains j = true) (hF : ∀ v w, F j v w → v = .bool b)
    (h : ∀ ρ w, G w0 w → Known ops a0 F o ρ w → Outcome P (fun v w' => G w w' ∧ F i v w') ((execOp ρ o).run P w)) : OpOk G P ops a0 w0 F i o := by
  intro ρ w hx hk
  rw [hg]
  exact ⟨d, b, hd, hF _ _ (hk.dep j d hn hd), by rw [if_pos rfl]; exact h ρ w hx hk⟩
theorem opOk_skip {i j d : Nat} {b : Bool} {o : Oper} (hg : o.guard = some (j, b)) (hd : dstOf ops j = some d) (hn : (needs o).contains j = true) (hF : ∀ v w, F j v w → v = .bool (!b))
    (h : ∀ w, F i undef w) : OpOk G P ops a0 w0 F i o := by
  intro ρ w hx hk
  rw [hg]
  exact ⟨d, !b, hd, hF _ _ (hk.dep j d hn hd), by rw [if_neg (by cases b <;> simp)]; exact h w⟩
end
end Go.Proofs.YtgdkeafdlehlaaaDoor

/- Slices of the call's own, and what append makes of them. Nothing of the program stands here. -/
namespace Go.Proofs.YtgdkeafdlehlaaaDoor
open Go Go.RowKit
set_option linter.unusedVariables false

/-- The block that a store through this slice may reach. -/
def wblk : Value → Option Nat
  | .slice (some a) _ (c + 1) => some a.block
  | _ => none

/-- block g: the cells cur, none of them shared with a text (a mark behind the end is none of them) -/
def Blk (w : World) (g : Nat) (cur : Array Value) (e : TypeId) : Prop := ∃ fz : Nat × Nat, (fz = (0, 0) ∨ cur.size ≤ fz.1) ∧ w.heap[g]? = some (.cells cur e fz)
section
variable {w w' : World} {g : Nat} {cur : Array Value} {e : TypeId}
theorem Blk.of (h : w.heap[g]? = some (.cells cur e (0, 0))) : Blk w g cur e := ⟨_, .inl rfl, h⟩
theorem Blk.lt (h : Blk w g cur e) : g < w.heap.size := by
  obtain ⟨fz, _, hh⟩ := h
  exact (Array.getElem?_eq_some_iff.1 hh).1
theorem Blk.cell (h : Blk w g cur e) (j : Nat) : w.cell? ⟨g, j, none⟩ = cur[j]? := by
  obtain ⟨fz, _, hh⟩ := h
  exact cell_of_row w g j cur e fz hh
theorem Blk.frozen (h : Blk w g cur e) {j : Nat} (hj : j < cur.size) : w.frozen? ⟨g, j, none⟩ = false := by
  obtain ⟨⟨lo, hi⟩, hf, hh⟩ := h
  rcases hf with hf | hf
  · injection hf with h1 h2
    subst h1 h2
    exact frozen_of_row w g j cur e hh
  · simp only at hf
    simp only [World.frozen?, hh, Bool.and_eq_false_iff, decide_eq_false_iff_not]
    exact .inl (by omega)
theorem Blk.set (h : Blk w g cur e) (j : Nat) (u : Value) : Blk (w.setCell ⟨g, j, none⟩ u) g (cur.setIfInBounds j u) e := by
  obtain ⟨fz, hf, hh⟩ := h
  refine ⟨fz, by simpa using hf, ?_⟩
  rw [setCell_eq_setRow w g j cur e fz u hh]
  exact setRow_heap w g cur _ e fz hh
theorem Blk.setRow (h : Blk w g cur e) {new : Array Value} (hs : new.size ≤ cur.size) : Blk (w.setRow g new) g new e := by
  obtain ⟨fz, hf, hh⟩ := h
  exact ⟨fz, hf.imp id (fun h => Nat.le_trans hs h), setRow_heap w g cur new e fz hh⟩
theorem Blk.same (h : Blk w g cur e) (hk : w'.heap[g]? = w.heap[g]?) : Blk w' g cur e := by
  obtain ⟨fz, hf, hh⟩ := h
  exact ⟨fz, hf, hk.trans hh⟩
end

/-- v is a slice of n elements xs that the call made (from block 'base' on), or one with no room at all. -/
def Own (w : World) (base : Nat) (e : TypeId) (size : Nat) (v : Value) (n : Nat) (xs : List Value) : Prop :=
  xs.length = n * size ∧ ∃ A c, v = .slice A n c ∧
    ((n = 0 ∧ c = 0) ∨ (∃ g cur, A = some ⟨g, 0, none⟩ ∧ base ≤ g ∧ Blk w g cur e ∧ n ≤ c ∧ c ≤ maxLen ∧ c * size ≤ cur.size ∧ cur.toList.take (n * size) = xs))

section
variable {w w' : World} {base : Nat} {e : TypeId} {size : Nat} {v : Value} {n : Nat} {xs : List Value}
theorem Own.nil (w : World) (base : Nat) (e : TypeId) (size : Nat) (A : Option Addr) : Own w base e size (.slice A 0 0) 0 [] :=
  ⟨by simp, A, 0, rfl, .inl ⟨rfl, rfl⟩⟩
theorem Own.lt (h : Own w base e size v n xs) {g : Nat} (hg : wblk v = some g) : base ≤ g ∧ g < w.heap.size := by
  obtain ⟨_, A, c, rfl, ⟨_, rfl⟩ | ⟨g', cur, rfl, hb, hh, _⟩⟩ := h
  · cases A <;> simp [wblk] at hg
  · cases c with
    | zero => simp [wblk] at hg
    | succ c =>
      simp [wblk] at hg
      subst hg
      exact ⟨hb, hh.lt⟩
theorem Own.row (h : Own w base e size v n xs) : ∃ A c, v = .slice A n c ∧ n ≤ c ∧ c ≤ maxLen ∧ Row w A xs := by
  obtain ⟨hl, A, c, rfl, ⟨rfl, rfl⟩ | ⟨g, cur, rfl, hb, hh, hnc, hcm, hcs, ht⟩⟩ := h
  · refine ⟨A, 0, rfl, Nat.le_refl _, Nat.zero_le _, ?_⟩
    have : xs = [] := List.eq_nil_of_length_eq_zero (by simpa using hl)
    subst this
    exact Row.nil _ _
  · refine ⟨_, c, rfl, hnc, hcm, fun _ => ⟨_, rfl, fun j u hu => ?_⟩⟩
    have hadd : (⟨g, 0, none⟩ : Addr).add j = ⟨g, j, none⟩ := by unfold Addr.add; split <;> simp_all
    rw [hadd, hh.cell]
    rw [← ht, List.getElem?_take] at hu
    split at hu
    · simpa using hu
    · cases hu
theorem Own.form (h : Own w base e size v n xs) (hn : 0 < n) : ∃ g c, v = .slice (some ⟨g, 0, none⟩) n c ∧ n ≤ c ∧ c ≤ maxLen ∧ base ≤ g ∧ g < w.heap.size := by
  obtain ⟨_, A, c, rfl, ⟨h0, _⟩ | ⟨g, cur, rfl, hb, hh, hnc, hcm, _⟩⟩ := h
  · omega
  · exact ⟨g, c, rfl, hnc, hcm, hb, hh.lt⟩
theorem Own.cellAt {g c : Nat} (h : Own w base e size (.slice (some ⟨g, 0, none⟩) n c) n xs) (hn : 0 < n) {j : Nat} (hj : j < n * size) : w.cell? ⟨g, j, none⟩ = xs[j]? := by
  obtain ⟨_, A, c', hv, ⟨h0, _⟩ | ⟨g', cur, rfl, hb, hh, hnc, hcm, hcs, ht⟩⟩ := h
  · omega
  · simp only [Value.slice.injEq, Option.some.injEq, Addr.mk.injEq, and_true, true_and] at hv
    obtain ⟨rfl, rfl⟩ := hv
    rw [hh.cell, ← ht, List.getElem?_take, if_pos hj]
    simp
theorem Own.frozenAt {g c : Nat} (h : Own w base e size (.slice (some ⟨g, 0, none⟩) n c) n xs) (hn : 0 < n) (j : Nat) (hj : j < n * size) : w.frozen? ⟨g, j, none⟩ = false := by
  obtain ⟨_, A, c', hv, ⟨h0, _⟩ | ⟨g', cur, rfl, hb, hh, hnc, hcm, hcs, ht⟩⟩ := h
  · omega
  · simp only [Value.slice.injEq, Option.some.injEq, Addr.mk.injEq, and_true, true_and] at hv
    obtain ⟨rfl, rfl⟩ := hv
    exact hh.frozen (Nat.lt_of_lt_of_le hj (Nat.le_trans (Nat.mul_le_mul_right _ hnc) hcs))
theorem Own.stored {g c : Nat} (h : Own w base e size (.slice (some ⟨g, 0, none⟩) n c) n xs) (hn : 0 < n) (j : Nat) (u : Value) :
    Own (w.setCell ⟨g, j, none⟩ u) base e size (.slice (some ⟨g, 0, none⟩) n c) n (xs.set j u) := by
  obtain ⟨hl, A, c', hv, ⟨h0, _⟩ | ⟨g', cur, rfl, hb, hh, hnc, hcm, hcs, ht⟩⟩ := h
  · omega
  · simp only [Value.slice.injEq, Option.some.injEq, Addr.mk.injEq, and_true, true_and] at hv
    obtain ⟨rfl, rfl⟩ := hv
    refine ⟨by simpa using hl, _, c, rfl, .inr ⟨g, cur.setIfInBounds j u, rfl, hb, hh.set j u, hnc, hcm, by simpa using hcs, ?_⟩⟩
    rw [Array.toList_setIfInBounds, List.take_set, ht]
theorem Own.kept (h : Own w base e size v n xs) {row : Option Nat} (hg : w.grownBy w' row) (hne : wblk v = none ∨ wblk v ≠ row) : Own w' base e size v n xs := by
  obtain ⟨hl, A, c, rfl, hz | ⟨g, cur, rfl, hb, hh, hnc, hcm, hcs, ht⟩⟩ := h
  · exact ⟨hl, A, c, rfl, .inl hz⟩
  · cases c with
    | zero =>
      have : n = 0 := by omega
      exact ⟨hl, _, 0, rfl, .inl ⟨this, rfl⟩⟩
    | succ c =>
      refine ⟨hl, _, c + 1, rfl, .inr ⟨g, cur, rfl, hb, ?_, hnc, hcm, hcs, ht⟩⟩
      exact hh.same (hg.block g hh.lt (by simpa [wblk] using hne))
theorem grown_of_ext (h : Ext w w') (row : Option Nat) : w.grownBy w' row := ⟨h.os, h.tape, h.output, h.size, fun k hk _ => h.block k hk⟩
theorem ext_of_grown (h : w.grownBy w' none) : Ext w w' := ⟨h.os, h.tape, h.output, h.size, fun k hk => h.block k hk (by simp)⟩
theorem Own.ext (h : Own w base e size v n xs) (x : Ext w w') : Own w' base e size v n xs :=
  h.kept (grown_of_ext x none) (by cases hv : wblk v <;> simp)
theorem Own.mono (h : Own w base e size v n xs) {b : Nat} (hb : b ≤ base) : Own w b e size v n xs := by
  obtain ⟨hl, A, c, rfl, hz | ⟨g, cur, rfl, hb', rest⟩⟩ := h
  · exact ⟨hl, A, c, rfl, .inl hz⟩
  · exact ⟨hl, _, c, rfl, .inr ⟨g, cur, rfl, by omega, rest⟩⟩
end

section
variable {P : Program} (w : World)

theorem run_app_zero (t ty e : TypeId) (i : TypeInfo) (ht : P.underlying t = some (.slice e)) (hi : P.info? e = some i)
    (A : Option Addr) (n c : Nat) (B : Option Addr) (d : Nat) (hn : n ≤ c) :
    (Builtin.append_ #[t, t] ty #[.slice A n c, .slice B 0 d]).run P w = .ok (.slice A n c) w := by
  cases A <;> cases B <;> simp [Builtin.append_, run_underlying ht, sizeOf, typeInfo, hi, Builtin.lenOf, Builtin.firstCells, hn, storeCells, loadCells, loadCellsFrom]

theorem run_storeCells_atT (g o : Nat) (t : TypeId) : ∀ (vs : List Value) (i : Nat) (cur : Array Value) (w : World), Blk w g cur t → o + i + vs.length ≤ cur.size → (∀ v ∈ vs, v.oneCell' = true) →
    (storeCells ⟨g, o, none⟩ vs i).run P w = .ok () (w.setRow g (cur.toList.take (o + i) ++ vs ++ cur.toList.drop (o + i + vs.length)).toArray)
  | [], i, cur, w, hg, _, _ => by
    obtain ⟨fz, hf, hh⟩ := hg
    simp only [storeCells, List.append_nil, List.length_nil, Nat.add_zero, List.take_append_drop, Array.toArray_toList]
    rw [setRow_self w g cur t fz hh]
    rfl
  | v :: rest, i, cur, w, hg, hl, h1 => by
    have hi : o + i < cur.size := by simp at hl; omega
    have hadd : (⟨g, o, none⟩ : Addr).add i = ⟨g, o + i, none⟩ := by unfold Addr.add; split <;> simp_all
    have hcell : w.cell? ⟨g, o + i, none⟩ = some cur[o + i] := by rw [hg.cell]; exact Array.getElem?_eq_getElem hi
    have hfro : w.frozen? ⟨g, o + i, none⟩ = false := hg.frozen hi
    have hst : (store ((⟨g, o, none⟩ : Addr).add i) v).run P w = .ok () (w.setRow g (cur.setIfInBounds (o + i) v)) := by
      rw [hadd, run_store P w _ v _ (h1 v (by simp)), hcell]
      obtain ⟨fz, _, hh⟩ := hg
      simp [hfro, setCell_eq_setRow w g (o + i) cur t fz v hh]
    have ih := run_storeCells_atT g o t rest (i + 1) (cur.setIfInBounds (o + i) v) (w.setRow g (cur.setIfInBounds (o + i) v)) (hg.setRow (by simp)) (by simp at hl ⊢; omega) (fun x hx => h1 x (by simp [hx]))
    simp only [storeCells, Sem.run_bind, hst, Result.andThen_ok, ih, setRow_setRow]
    congr 3
    have e := list_seg_step cur.toList (o + i) v rest (by simp at hl ⊢; omega)
    simpa [Array.toList_setIfInBounds, Nat.add_assoc] using e
theorem run_append_roomT (t ty e : TypeId) (i : TypeInfo) (ht : P.underlying t = some (.slice e)) (hi : P.info? e = some i)
    (g sLen sCap : Nat) (cur : Array Value) (hg : Blk w g cur e)
    (a : Addr) (m c : Nat) (news : List Value) (hl : news.length = m * i.size) (hnews : ∀ j u, news[j]? = some u → w.cell? (a.add j) = some u) (h1 : ∀ u ∈ news, u.oneCell' = true)
    (hroom : sLen + m ≤ sCap) (hfit : sLen * i.size + news.length ≤ cur.size) :
    (Builtin.append_ #[t, t] ty #[.slice (some ⟨g, 0, none⟩) sLen sCap, .slice (some a) m c]).run P w =
      .ok (.slice (some ⟨g, 0, none⟩) (sLen + m) sCap) (w.setRow g (cur.toList.take (sLen * i.size) ++ news ++ cur.toList.drop (sLen * i.size + news.length)).toArray) := by
  have hf := run_firstCells_some (P := P) w i.size m a m c news hl hnews
  have hst := run_storeCells_atT (P := P) g (sLen * i.size) e news 0 cur w hg (by simpa using hfit) h1
  simp only [Nat.add_zero] at hst
  simp [Builtin.append_, run_underlying ht, sizeOf, typeInfo, hi, Builtin.lenOf, hroom, hf, Addr.add_lit, hst]
theorem run_app (base : Nat) (t ty e : TypeId) (i : TypeInfo) (z : Value) (size bytes : Nat) (ht : P.underlying t = some (.slice e)) (hi : P.info? e = some i) (hz : i.zero = some z)
    (hsize : i.size = size) (hby : i.bytes = bytes) (hzs : z.cells.size = size) (hsz : 0 < size)
    (v : Value) (n : Nat) (xs : List Value) (hown : Own w base e size v n xs)
    (B : Option Addr) (m d : Nat) (news : List Value) (hl : news.length = m * size) (hr : Row w B news) (h1 : ∀ u ∈ news, u.oneCell' = true)
    (hbytes : (n + m) * bytes ≤ 140737488355328) (h63 : n + m ≤ maxLen) (hbase : base ≤ w.heap.size) :
    ∃ v' w', (Builtin.append_ #[t, t] ty #[v, .slice B m d]).run P w = .ok v' w' ∧ Own w' base e size v' (n + m) (xs ++ news) ∧ w.grownBy w' (wblk v) ∧ (wblk v' = wblk v ∨ wblk v' = some w.heap.size) := by
  subst hsize
  subst hby
  have hlen : (xs ++ news).length = (n + m) * i.size := by rw [List.length_append, hown.1, hl, Nat.add_mul]
  by_cases hm : m = 0
  · subst hm
    have hn : news = [] := List.eq_nil_of_length_eq_zero (by simpa using hl)
    subst hn
    obtain ⟨hl', A, c, rfl, rest⟩ := hown
    have hnc : n ≤ c := by
      rcases rest with ⟨rfl, rfl⟩ | ⟨_, _, _, _, _, h, _⟩
      · exact Nat.le_refl _
      · exact h
    exact ⟨_, w, run_app_zero (P := P) w t ty e i ht hi A n c B d hnc, ⟨by simpa using hl', A, c, rfl, by simpa using rest⟩, ⟨rfl, rfl, rfl, Nat.le_refl _, fun _ _ _ => rfl⟩, .inl rfl⟩
  · have hne : news ≠ [] := by
      intro h
      subst h
      rcases Nat.mul_eq_zero.1 (hl.symm.trans (by simp)) with h | h <;> omega
    obtain ⟨ad, rfl, hnews⟩ := hr hne
    have grown : ∀ (old : Nat), old < n + m → ∀ (row : Option Nat),
        Own (w.drew.alloc (.cells (xs.toArray ++ news.toArray ++ Builtin.zeroCells z.cells (grownCap w (n + m) old e - (n + m))) e)) base e i.size
          (.slice (some ⟨w.heap.size, 0, none⟩) (n + m) (grownCap w (n + m) old e)) (n + m) (xs ++ news) ∧
        w.grownBy (w.drew.alloc (.cells (xs.toArray ++ news.toArray ++ Builtin.zeroCells z.cells (grownCap w (n + m) old e - (n + m))) e)) row := by
      intro old ho row
      have hge := grownCap_ge w (n + m) old e
      have hcm : grownCap w (n + m) old e ≤ maxLen := grownCap_le_maxLen w (n + m) old e h63
      refine ⟨⟨hlen, _, _, rfl, .inr ⟨w.heap.size, _, rfl, hbase, .of (heap_alloc_new w.drew _), hge, hcm, ?_, ?_⟩⟩, ⟨rfl, rfl, rfl, by simp, fun k hk _ => Below.heap_alloc w.drew _ k hk⟩⟩
      · refine Nat.le_of_eq (Eq.symm ?_)
        simp only [Array.size_append, List.size_toArray, size_zeroCells, hzs, hown.1, hl, ← Nat.add_mul]
        congr 1
        omega
      · simp only [Array.toList_append, List.append_assoc]
        rw [← List.append_assoc, ← hlen]
        exact List.take_left
    have hwb : ∀ old, wblk (.slice (some ⟨w.heap.size, 0, none⟩) (n + m) (grownCap w (n + m) old e)) = some w.heap.size := by
      intro old
      have hge := grownCap_ge w (n + m) old e
      cases hc : grownCap w (n + m) old e with
      | zero => omega
      | succ k => rfl
    have h63' : ((n + m : Nat) : Int) ≤ 9223372036854775807 := by simp only [maxLen] at h63; omega
    obtain ⟨hl', A, c, rfl, ⟨rfl, rfl⟩ | ⟨g, cur, rfl, hbg, hg, hnc, hcm, hcs, htake⟩⟩ := hown
    · have hx : xs = [] := List.eq_nil_of_length_eq_zero (by simpa using hl')
      subst hx
      have hgr := grown 0 (by omega) (wblk (.slice A 0 0))
      cases A with
      | none =>
        have hrr := run_append_nil (P := P) w t ty e i z ht hi hz ad m d news hl hnews (by omega) (by omega) (by have hb := hbytes; simp only [Nat.zero_add] at hb; omega)
        have hw := hwb 0
        simp only [Nat.zero_add, List.nil_append, Array.empty_append] at hgr hw ⊢
        exact ⟨_, _, hrr, hgr.1, hgr.2, .inr hw⟩
      | some a =>
        have hrr := run_append_grow (P := P) w t ty e i z ht hi hz a 0 0 [] (by simp) (by simp) ad m d news hl hnews (by omega) (by omega) (growslice_fits (by omega) hbytes)
        have hw := hwb 0
        exact ⟨_, _, hrr, hgr.1, hgr.2, .inr hw⟩
    · by_cases hroom : n + m ≤ c
      · have hfit : n * i.size + news.length ≤ cur.size := by rw [hl, ← Nat.add_mul]; exact Nat.le_trans (Nat.mul_le_mul_right _ hroom) hcs
        have hrr := run_append_roomT (P := P) w t ty e i ht hi g n c cur hg ad m d news hl hnews h1 hroom hfit
        have hwc : wblk (.slice (some ⟨g, 0, none⟩) n c) = some g := by
          cases c with
          | zero => omega
          | succ k => rfl
        have hwc' : wblk (.slice (some ⟨g, 0, none⟩) (n + m) c) = some g := by
          cases c with
          | zero => omega
          | succ k => rfl
        refine ⟨_, _, hrr, ⟨hlen, _, _, rfl, .inr ⟨g, _, rfl, hbg, hg.setRow ?_, hroom, hcm, ?_, ?_⟩⟩, ⟨rfl, rfl, rfl, by simp, fun k _ hk => setRow_other w g k _ (fun e => hk (by rw [hwc, e]))⟩, .inl (by rw [hwc, hwc'])⟩
        · simp only [List.size_toArray, List.length_append, List.length_take, List.length_drop, Array.length_toList]
          omega
        · simp only [List.size_toArray, List.length_append, List.length_take, List.length_drop, Array.length_toList]
          omega
        · rw [htake, ← hlen]
          exact List.take_left
      · have holds : ∀ j u, xs[j]? = some u → w.cell? ((⟨g, 0, none⟩ : Addr).add j) = some u := by
          intro j u hu
          have hadd : (⟨g, 0, none⟩ : Addr).add j = ⟨g, j, none⟩ := by unfold Addr.add; split <;> simp_all
          rw [hadd, hg.cell]
          rw [← htake, List.getElem?_take] at hu
          split at hu
          · simpa using hu
          · cases hu
        have hrr := run_append_grow (P := P) w t ty e i z ht hi hz ⟨g, 0, none⟩ n c xs hl' holds ad m d news hl hnews (by omega) (by omega) (growslice_fits (by omega) hbytes)
        have hgr := grown c (by omega) (wblk (.slice (some ⟨g, 0, none⟩) n c))
        exact ⟨_, _, hrr, hgr.1, hgr.2, .inr (hwb c)⟩

theorem wp_app {o : Oper} {a : Act} {K : Act → World → Prop} {Q : Exit → Act → World → Prop} (s x : Operand) (t : TypeId)
    (ho : o.op = .call { callee := .builtin .append, args := #[s, x], argTypes := #[t, t] })
    (base : Nat) (e : TypeId) (i : TypeInfo) (z : Value) (size bytes : Nat) (ht : P.underlying t = some (.slice e)) (hi : P.info? e = some i) (hz : i.zero = some z)
    (hsize : i.size = size) (hby : i.bytes = bytes) (hzs : z.cells.size = size) (hsz : 0 < size)
    (v : Value) (n : Nat) (xs : List Value) (hs : a.eval s = v) (hown : Own w base e size v n xs)
    (B : Option Addr) (m d : Nat) (news : List Value) (hx : a.eval x = .slice B m d) (hl : news.length = m * size) (hr : Row w B news) (h1 : ∀ u ∈ news, u.oneCell' = true)
    (hbytes : (n + m) * bytes ≤ 140737488355328) (h63 : n + m ≤ maxLen) (hbase : base ≤ w.heap.size)
    (h : ∀ v' w', Own w' base e size v' (n + m) (xs ++ news) → w.grownBy w' (wblk v) → (wblk v' = wblk v ∨ wblk v' = some w.heap.size) → K (a.put o.dst v') w') : o.wp P a w K Q := by
  obtain ⟨v', w', hrr, h2, h3, h4⟩ := run_app (P := P) w base t o.type e i z size bytes ht hi hz hsize hby hzs hsz v n xs hown B m d news hl hr h1 hbytes h63 hbase
  unfold Oper.wp execOp
  simp only [ho, resolve, invoke, builtin, Sem.run_bind, Sem.run_pure, Result.andThen_ok, List.map_toArray, List.map_cons, List.map_nil, hs, hx, hrr]
  exact h v' w' h2 h3 h4

theorem wpList_app {ops : Array Oper} {rest : List Oper} {o : Oper} {a : Act} {Q : Exit → Act → World → Prop} (hgd : o.guard = none) (s x : Operand) (t : TypeId)
    (ho : o.op = .call { callee := .builtin .append, args := #[s, x], argTypes := #[t, t] })
    (base : Nat) (e : TypeId) (i : TypeInfo) (z : Value) (size bytes : Nat) (ht : P.underlying t = some (.slice e)) (hi : P.info? e = some i) (hz : i.zero = some z)
    (hsize : i.size = size) (hby : i.bytes = bytes) (hzs : z.cells.size = size) (hsz : 0 < size)
    (v : Value) (n : Nat) (xs : List Value) (hs : a.eval s = v) (hown : Own w base e size v n xs)
    (B : Option Addr) (m d : Nat) (news : List Value) (hx : a.eval x = .slice B m d) (hl : news.length = m * size) (hr : Row w B news) (h1 : ∀ u ∈ news, u.oneCell' = true)
    (hbytes : (n + m) * bytes ≤ 140737488355328) (h63 : n + m ≤ maxLen) (hbase : base ≤ w.heap.size)
    (h : ∀ v' w', Own w' base e size v' (n + m) (xs ++ news) → w.grownBy w' (wblk v) → (wblk v' = wblk v ∨ wblk v' = some w.heap.size) → wpList P ops Q rest (a.put o.dst v') w') : wpList P ops Q (o :: rest) a w :=
  wpList_plain hgd fun _ hK => wp_app w s x t ho base e i z size bytes ht hi hz hsize hby hzs hsz v n xs hs hown B m d news hx hl hr h1 hbytes h63 hbase fun v' w' h2 h3 h4 => hK _ _ (h v' w' h2 h3 h4)

theorem step_app {ops : Array Oper} {o : Oper} {a : Act} {K : Act → World → Prop} {Q : Exit → Act → World → Prop} {E : Prop} (hgd : o.guard = none) (s x : Operand) (t : TypeId)
    (ho : o.op = .call { callee := .builtin .append, args := #[s, x], argTypes := #[t, t] })
    (base : Nat) (e : TypeId) (i : TypeInfo) (z : Value) (size bytes : Nat) (ht : P.underlying t = some (.slice e)) (hi : P.info? e = some i) (hz : i.zero = some z)
    (hsize : i.size = size) (hby : i.bytes = bytes) (hzs : z.cells.size = size) (hsz : 0 < size)
    (v : Value) (n : Nat) (xs : List Value) (hs : a.eval s = v) (hown : Own w base e size v n xs)
    (B : Option Addr) (m d : Nat) (news : List Value) (hx : a.eval x = .slice B m d) (hl : news.length = m * size) (hr : Row w B news) (h1 : ∀ u ∈ news, u.oneCell' = true)
    (hbytes : (n + m) * bytes ≤ 140737488355328) (h63 : n + m ≤ maxLen) (hbase : base ≤ w.heap.size)
    (h : ∀ v' w', Own w' base e size v' (n + m) (xs ++ news) → w.grownBy w' (wblk v) → (wblk v' = wblk v ∨ wblk v' = some w.heap.size) → K (a.put o.dst v') w') :
    if Region.wanted o (yielded ops a.tmps) then o.wp P a w K Q ∨ E else K (a.put o.dst undef) w := by
  rw [if_pos (by simp [Region.wanted, hgd])]
  exact .inl (wp_app w s x t ho base e i z size bytes ht hi hz hsize hby hzs hsz v n xs hs hown B m d news hx hl hr h1 hbytes h63 hbase h)

/-- append into a row that has room: the same row, so many more -/
theorem run_app_room (t ty e : TypeId) (i : TypeInfo) (size : Nat) (ht : P.underlying t = some (.slice e)) (hi : P.info? e = some i) (hsize : i.size = size) (hsz : 0 < size)
    (g n c : Nat) (cur : Array Value) (hg : w.heap[g]? = some (.cells cur e (0, 0))) (hcs : cur.size = c * size)
    (B : Option Addr) (m d : Nat) (news : List Value) (hl : news.length = m * size) (hr : Row w B news) (h1 : ∀ u ∈ news, u.oneCell' = true) (hroom : n + m ≤ c) :
    ∃ w', (Builtin.append_ #[t, t] ty #[.slice (some ⟨g, 0, none⟩) n c, .slice B m d]).run P w = .ok (.slice (some ⟨g, 0, none⟩) (n + m) c) w' ∧
      w'.heap[g]? = some (.cells (cur.toList.take (n * size) ++ news ++ cur.toList.drop (n * size + news.length)).toArray e (0, 0)) ∧ w.grownBy w' (some g) := by
  subst hsize
  by_cases hm : m = 0
  · subst hm
    have hn : news = [] := List.eq_nil_of_length_eq_zero (by simpa using hl)
    subst hn
    exact ⟨w, run_app_zero (P := P) w t ty e i ht hi _ n c B d (by omega), by rw [hg]; simp, ⟨rfl, rfl, rfl, Nat.le_refl _, fun _ _ _ => rfl⟩⟩
  · have hne : news ≠ [] := by
      intro h
      subst h
      rcases Nat.mul_eq_zero.1 (hl.symm.trans (by simp)) with h | h <;> omega
    obtain ⟨ad, rfl, hnews⟩ := hr hne
    have hfit : n * i.size + news.length ≤ cur.size := by rw [hl, hcs, ← Nat.add_mul]; exact Nat.mul_le_mul_right _ hroom
    have hrr := run_append_room (P := P) w t ty e i ht hi g n c cur hg ad m d news hl hnews h1 hroom hfit
    exact ⟨_, hrr, setRow_heap w g cur _ e _ hg, ⟨rfl, rfl, rfl, by simp, fun k _ hk => setRow_other w g k _ (fun e => hk (by rw [e]))⟩⟩

theorem wpList_app_room {ops : Array Oper} {rest : List Oper} {o : Oper} {a : Act} {Q : Exit → Act → World → Prop} (hgd : o.guard = none) (s x : Operand) (t : TypeId)
    (ho : o.op = .call { callee := .builtin .append, args := #[s, x], argTypes := #[t, t] })
    (e : TypeId) (i : TypeInfo) (size : Nat) (ht : P.underlying t = some (.slice e)) (hi : P.info? e = some i) (hsize : i.size = size) (hsz : 0 < size)
    (g n c : Nat) (cur : Array Value) (hs : a.eval s = .slice (some ⟨g, 0, none⟩) n c) (hg : w.heap[g]? = some (.cells cur e (0, 0))) (hcs : cur.size = c * size)
    (B : Option Addr) (m d : Nat) (news : List Value) (hx : a.eval x = .slice B m d) (hl : news.length = m * size) (hr : Row w B news) (h1 : ∀ u ∈ news, u.oneCell' = true) (hroom : n + m ≤ c)
    (h : ∀ w', w'.heap[g]? = some (.cells (cur.toList.take (n * size) ++ news ++ cur.toList.drop (n * size + news.length)).toArray e (0, 0)) → w.grownBy w' (some g) → wpList P ops Q rest (a.put o.dst (.slice (some ⟨g, 0, none⟩) (n + m) c)) w') : wpList P ops Q (o :: rest) a w :=
  wpList_plain hgd fun _ hK => by
    obtain ⟨w', hrr, h2, h3⟩ := run_app_room (P := P) w t o.type e i size ht hi hsize hsz g n c cur hg hcs B m d news hl hr h1 hroom
    unfold Oper.wp execOp
    simp only [ho, resolve, invoke, builtin, Sem.run_bind, Sem.run_pure, Result.andThen_ok, List.map_toArray, List.map_cons, List.map_nil, hs, hx, hrr]
    exact hK _ _ (h w' h2 h3)
end
end Go.Proofs.YtgdkeafdlehlaaaDoor

/- What single operations come to, qs0 facts; slices that read qs0 bytes. Nothing of the program stands here. -/
namespace Go.Proofs.YtgdkeafdlehlaaaDoor
open Go Go.RowKit
set_option linter.unusedVariables false

/-- a fact of a value in a world that may grow -/
structure FactG (G : World → World → Prop) where
  holds : Value → World → Prop
  mono : ∀ v w w', holds v w → G w w' → holds v w'
abbrev Fact := FactG Ext
def Fact.any {G : World → World → Prop} : FactG G := ⟨fun _ _ => True, fun _ _ _ _ _ => trivial⟩
def Fact.eq {G : World → World → Prop} (u : Value) : FactG G := ⟨fun v _ => v = u, fun _ _ _ h _ => h⟩
def Fact.rb (l : List UInt8) : Fact := ⟨fun v w => RB w v l, fun _ _ _ h x => h.ext x⟩
def Fact.rbs (ls : List (List UInt8)) : Fact := ⟨fun v w => RP w v ls, fun _ _ _ h x => h.ext x⟩
def Fact.lent (l : List UInt8) : Fact := ⟨fun v w => Lent w v l, fun _ _ _ h x => h.ext x⟩
/-- a new row of one cell -/
def Fact.row1 (u : Value) : Fact := ⟨fun v w => ∃ A c, v = .slice A 1 c ∧ Row w A [u], fun _ _ _ ⟨A, c, h, hr⟩ x => ⟨A, c, h, hr.ext x⟩⟩
def ofs {G : World → World → Prop} (fs : List (FactG G)) : Nat → Value → World → Prop := fun i v w => (fs.getD i Fact.any).holds v w
theorem ofs_mono {G : World → World → Prop} (fs : List (FactG G)) : ∀ i v w w', ofs fs i v w → G w w' → ofs fs i v w' := fun i => (fs.getD i Fact.any).mono

section
variable {P : Program} {ρ : Operand → Value} {w : World} {R : Value → World → Prop} {o : Oper}
theorem out_move {x : Operand} (ho : o.op = .move x) (h : R (ρ x) w) : Outcome P R ((execOp ρ o).run P w) := by
  simp only [execOp, ho, Sem.run_pure]; exact h
theorem out_assign {x : Operand} (ho : o.op = .assign x) (h : R (ρ x) w) : Outcome P R ((execOp ρ o).run P w) := by
  simp only [execOp, ho, Sem.run_pure]; exact h
theorem out_pick {c a b : Operand} {t : Bool} (ho : o.op = .pick c a b) (hc : ρ c = .bool t) (h : R (if t then ρ a else ρ b) w) : Outcome P R ((execOp ρ o).run P w) := by
  simp only [execOp, ho, hc, asBool, Sem.run_bind, Sem.run_pure, Result.andThen_ok]; exact h
def entersB (P : Program) (f : FuncId) : Bool := match P.funcs[f]? with | some fn => !(fn.name == "runtime.NumGoroutine") && !fn.body.isNone | none => false
theorem out_call {f : FuncId} {args : Array Operand} {tys : Array TypeId} (ho : o.op = .call { callee := .value (.func f), args := args, argTypes := tys })
    (hρ : ρ (.func f) = .func (.func f) #[] #[]) (hf : entersB P f = true)
    (h : Calls P f (args.map ρ) w fun e w' => ∃ v, e = .returned v ∧ R v w') : Outcome P R ((execOp ρ o).run P w) := by
  unfold entersB at hf
  cases hfn : P.funcs[f]? with
  | none => simp [hfn] at hf
  | some fn =>
    simp only [hfn, Bool.and_eq_true, Bool.not_eq_true'] at hf
    have hrun : (execOp ρ o).run P w = .ok (.enter f (args.map ρ)) w := by
      have h1 : ¬ fn.name = "runtime.NumGoroutine" := by simpa using hf.1
      have h2 : ¬ fn.body = none := by intro e; simp [e] at hf
      simp [execOp, ho, resolve, hρ, Deferred.ofValue, invoke, callFunc, hfn, h1, h2]
    rw [hrun]
    exact h
theorem out_value {v : Value} {w' : World} (hrun : (execOp ρ o).run P w = .ok (.value v) w') (h : R v w') : Outcome P R ((execOp ρ o).run P w) := by
  rw [hrun]; exact h
theorem out_slice {t e : TypeId} {x : Operand} {lo hi : Option Operand} {i : TypeInfo} {l : List UInt8} {a b : Nat} (ho : o.op = .slice t x lo hi none)
    (ht : P.underlying t = some (.slice e)) (hi_ : P.info? e = some i) (hz : i.size = 1) (hv : RB w (ρ x) l)
    (hlo : match lo with | none => a = 0 | some y => ρ y = .int .i64 a) (hhi : match hi with | none => b = l.length | some y => ρ y = .int .i64 b) (hab : a ≤ b) (hbl : b ≤ l.length)
    (h : ∀ u, RB w u ((l.drop a).take (b - a)) → R u w) : Outcome P R ((execOp ρ o).run P w) := by
  obtain ⟨A, c, hx, hc, hr⟩ := hv
  have hrun : (execOp ρ o).run P w = .ok (.value (.slice (if c = a then A else A.map (·.add (a * 1))) (b - a) (c - a))) w := by
    have e1 : ¬ c < b := by omega
    have e2 : b ≤ c := by omega
    cases lo with
    | none =>
      simp only at hlo
      subst hlo
      cases hi with
      | none =>
        simp only at hhi
        subst hhi
        simp [execOp, ho, hx, Instr.sliceAt, Instr.slice, run_underlying ht, Instr.sliceBounds, sizeOf, typeInfo, hi_]
      | some y =>
        simp only at hhi
        simp [execOp, ho, hx, Instr.sliceAt, Instr.slice, run_underlying ht, Instr.sliceBounds, Instr.sliceBound, asIntOf, hhi, sizeOf, typeInfo, hi_, e2]
    | some z =>
      simp only at hlo
      cases hi with
      | none =>
        simp only at hhi
        subst hhi
        have e3 : a ≤ l.length := hab
        simp [execOp, ho, hx, Instr.sliceAt, Instr.slice, run_underlying ht, Instr.sliceBounds, Instr.sliceBound, asIntOf, hlo, sizeOf, typeInfo, hi_, hz, e3]
      | some y =>
        simp only at hhi
        simp [execOp, ho, hx, Instr.sliceAt, Instr.slice, run_underlying ht, Instr.sliceBounds, Instr.sliceBound, asIntOf, hlo, hhi, sizeOf, typeInfo, hi_, hz, e2, hab]
  rw [hrun]
  refine h _ ⟨if c = a then A else A.map (·.add (a * 1)), c - a, ?_, ?_, ?_⟩
  · simp; omega
  · simp; omega
  · intro hne
    have hlen : ((l.drop a).take (b - a)).length ≠ 0 := by
      intro h0
      apply hne
      have := List.eq_nil_of_length_eq_zero h0
      rw [this]; rfl
    have hpos : a < l.length := by simp at hlen; omega
    obtain ⟨ad, rfl, hcell⟩ := hr (by intro e; have : l.length = 0 := (by rw [← bvs_len, e]; rfl); omega)
    rw [if_neg (by omega)]
    refine ⟨ad.add (a * 1), rfl, fun j u hu => ?_⟩
    rw [addr_add2, Nat.mul_one]
    apply hcell
    rw [← hu]
    simp only [bvs, List.getElem?_map, List.getElem?_take, List.getElem?_drop]
    have hj : j < b - a := by
      have := (List.getElem?_eq_some_iff.1 hu).1
      simp [bvs] at this
      omega
    rw [if_pos hj]

theorem known_out {G : World → World → Prop} {ops : Array Oper} {a0 : Act} {w0 : World} {F : Nat → Value → World → Prop} (fact : FactG G) (hk : Known ops a0 F o ρ w) (t : Tmp) (ho : outside ops t = true) (hx : G w0 w) (h : fact.holds (a0.tmps.getD t undef) w0) : fact.holds (ρ (.tmp t)) w := by
  rw [hk.out t ho]
  exact fact.mono _ _ _ h hx
theorem out_eql {x y : Operand} {t t' : TypeId} {k : IntKind} {a b : Int} (ho : o.op = .binOp .eql t x y t') (hx : ρ x = .int k a) (hy : ρ y = .int k b) (h : R (.bool (a == b)) w) : Outcome P R ((execOp ρ o).run P w) := by
  refine out_value (v := .bool (a == b)) (w' := w) ?_ h
  simp [go_sem, ho, hx, hy]
/-- the call's answer, told qs0 a value -/
def Ret (R : Value → World → Prop) : Ending → World → Prop := fun e w => ∃ v, e = .returned v ∧ R v w
theorem out_call0 {f : FuncId} {tys : Array TypeId} {S : Value → World → Prop} (ho : o.op = .call { callee := .value (.func f), args := #[], argTypes := tys })
    (hρ : ρ (.func f) = .func (.func f) #[] #[]) (hf : entersB P f = true) (h : Calls P f #[] w (Ret S)) (hS : ∀ v w', S v w' → R v w') : Outcome P R ((execOp ρ o).run P w) :=
  out_call ho hρ hf ((show Calls P f (Array.map ρ #[]) w (Ret S) from by simpa using h).mono fun e w' ⟨v, he, hv⟩ => ⟨v, he, hS _ _ hv⟩)
theorem out_call1 {f : FuncId} {x : Operand} {tys : Array TypeId} {S : Value → World → Prop} (ho : o.op = .call { callee := .value (.func f), args := #[x], argTypes := tys })
    (hρ : ρ (.func f) = .func (.func f) #[] #[]) (hf : entersB P f = true) (h : Calls P f #[ρ x] w (Ret S)) (hS : ∀ v w', S v w' → R v w') : Outcome P R ((execOp ρ o).run P w) :=
  out_call ho hρ hf ((show Calls P f (Array.map ρ #[x]) w (Ret S) from by simpa using h).mono fun e w' ⟨v, he, hv⟩ => ⟨v, he, hS _ _ hv⟩)
theorem out_call2 {f : FuncId} {x y : Operand} {tys : Array TypeId} {S : Value → World → Prop} (ho : o.op = .call { callee := .value (.func f), args := #[x, y], argTypes := tys })
    (hρ : ρ (.func f) = .func (.func f) #[] #[]) (hf : entersB P f = true) (h : Calls P f #[ρ x, ρ y] w (Ret S)) (hS : ∀ v w', S v w' → R v w') : Outcome P R ((execOp ρ o).run P w) :=
  out_call ho hρ hf ((show Calls P f (Array.map ρ #[x, y]) w (Ret S) from by simpa using h).mono fun e w' ⟨v, he, hv⟩ => ⟨v, he, hS _ _ hv⟩)
theorem out_call3 {f : FuncId} {x y z : Operand} {tys : Array TypeId} {S : Value → World → Prop} (ho : o.op = .call { callee := .value (.func f), args := #[x, y, z], argTypes := tys })
    (hρ : ρ (.func f) = .func (.func f) #[] #[]) (hf : entersB P f = true) (h : Calls P f #[ρ x, ρ y, ρ z] w (Ret S)) (hS : ∀ v w', S v w' → R v w') : Outcome P R ((execOp ρ o).run P w) :=
  out_call ho hρ hf ((show Calls P f (Array.map ρ #[x, y, z]) w (Ret S) from by simpa using h).mono fun e w' ⟨v, he, hv⟩ => ⟨v, he, hS _ _ hv⟩)
theorem set1 {f : Nat → Value} (v : Value) : (Array.map f (Array.range 1)).setIfInBounds 0 v = #[v] := by
  apply Array.ext'; simp [Array.toList_range, List.range_succ]
theorem set2 {f : Nat → Value} (v u : Value) : ((Array.map f (Array.range 2)).setIfInBounds 0 v).setIfInBounds 1 u = #[v, u] := by
  apply Array.ext'; simp [Array.toList_range, List.range_succ]
theorem set3 {f : Nat → Value} (v u x : Value) : (((Array.map f (Array.range 3)).setIfInBounds 0 v).setIfInBounds 1 u).setIfInBounds 2 x = #[v, u, x] := by
  apply Array.ext'; simp [Array.toList_range, List.range_succ]
theorem out_build1 {t e : TypeId} {x0 : Operand} {z : Value} {i : TypeInfo} (ho : o.op = .buildSlice t 1 #[(0, x0)]) (ht : P.underlying t = some (.slice e)) (hi : P.info? e = some i) (hz : i.zero = some z) (hs : i.size = 1)
    (h0 : (ρ x0).cells = #[ρ x0]) (h : R (.slice (some ⟨w.heap.size, 0, none⟩) 1 1) (w.alloc (.cells [ρ x0].toArray e))) : Outcome P R ((execOp ρ o).run P w) := by
  refine out_value (v := .slice (some ⟨w.heap.size, 0, none⟩) 1 1) (w' := w.alloc (.cells [ρ x0].toArray e)) ?_ h
  simp [execOp, ho, Instr.buildSlice, run_underlying ht, sizeOf, typeInfo, hi, hs, zeroValue, hz, Instr.fill, h0, newRow, set1]
theorem out_build2 {t e : TypeId} {x0 x1 : Operand} {z : Value} {i : TypeInfo} (ho : o.op = .buildSlice t 2 #[(0, x0), (1, x1)]) (ht : P.underlying t = some (.slice e)) (hi : P.info? e = some i) (hz : i.zero = some z) (hs : i.size = 1)
    (h0 : (ρ x0).cells = #[ρ x0]) (h1 : (ρ x1).cells = #[ρ x1]) (h : R (.slice (some ⟨w.heap.size, 0, none⟩) 2 2) (w.alloc (.cells [ρ x0, ρ x1].toArray e))) : Outcome P R ((execOp ρ o).run P w) := by
  refine out_value (v := .slice (some ⟨w.heap.size, 0, none⟩) 2 2) (w' := w.alloc (.cells [ρ x0, ρ x1].toArray e)) ?_ h
  simp [execOp, ho, Instr.buildSlice, run_underlying ht, sizeOf, typeInfo, hi, hs, zeroValue, hz, Instr.fill, h0, h1, newRow, set2]
theorem out_build3 {t e : TypeId} {x0 x1 x2 : Operand} {z : Value} {i : TypeInfo} (ho : o.op = .buildSlice t 3 #[(0, x0), (1, x1), (2, x2)]) (ht : P.underlying t = some (.slice e)) (hi : P.info? e = some i) (hz : i.zero = some z) (hs : i.size = 1)
    (h0 : (ρ x0).cells = #[ρ x0]) (h1 : (ρ x1).cells = #[ρ x1]) (h2 : (ρ x2).cells = #[ρ x2]) (h : R (.slice (some ⟨w.heap.size, 0, none⟩) 3 3) (w.alloc (.cells [ρ x0, ρ x1, ρ x2].toArray e))) : Outcome P R ((execOp ρ o).run P w) := by
  refine out_value (v := .slice (some ⟨w.heap.size, 0, none⟩) 3 3) (w' := w.alloc (.cells [ρ x0, ρ x1, ρ x2].toArray e)) ?_ h
  simp [execOp, ho, Instr.buildSlice, run_underlying ht, sizeOf, typeInfo, hi, hs, zeroValue, hz, Instr.fill, h0, h1, h2, newRow, set3]
theorem RB.one {v : Value} {l : List UInt8} (h : RB w v l) : v.cells = #[v] := by
  obtain ⟨A, c, rfl, _⟩ := h
  rfl

theorem out_index {t e : TypeId} {x y : Operand} {i : TypeInfo} {A : Option Addr} {n c k : Nat} {ad : Addr} (ho : o.op = .indexAddr t x y) (ht : P.underlying t = some (.slice e)) (hi : P.info? e = some i) (hz : i.size = 1)
    (hx : ρ x = .slice A n c) (hA : A = some ad) (hy : ρ y = .int .i64 ((k : Nat) : Int)) (hk : k < n) (h : R (.pointer (some (ad.add k))) w) : Outcome P R ((execOp ρ o).run P w) := by
  refine out_value (v := .pointer (some (ad.add k))) (w' := w) ?_ h
  subst hA
  have e1 : ¬ n ≤ k := by omega
  simp [go_sem, ho, hx, hy, ht, hi, hz, sizeOf, typeInfo, hk]

theorem out_load_int {t : TypeId} {x : Operand} {k : IntKind} {p : Addr} {m : Int} (ho : o.op = .load t x) (ht : P.underlying t = some (.int k))
    (hx : ρ x = .pointer (some p)) (hc : w.cell? p = some (.int k m)) (h : R (.int k m) w) : Outcome P R ((execOp ρ o).run P w) := by
  refine out_value (v := .int k m) (w' := w) ?_ h
  have ha : Sem.run P (isAgg t) w = .ok false w := by simp [isAgg, run_underlying ht]
  simp [go_sem, ho, hx, hc, ha]
theorem out_xor {t t' : TypeId} {x y : Operand} {k : IntKind} {a b : Int} (ho : o.op = .binOp .xor t x y t') (hx : ρ x = .int k a) (hy : ρ y = .int k b) (h : R (.int k (bits .xor k a b)) w) : Outcome P R ((execOp ρ o).run P w) := by
  refine out_value (v := .int k (bits .xor k a b)) (w' := w) ?_ h
  simp [go_sem, ho, hx, hy]

theorem row1_new {w : World} {u v : Value} {e : TypeId} (h : v = u) : ∃ A c, (.slice (some ⟨w.heap.size, 0, none⟩) 1 1 : Value) = .slice A 1 c ∧ Row (w.alloc (.cells [v].toArray e)) A [u] := by
  subst h
  exact ⟨_, _, rfl, Row.new w [v] e (0, 0)⟩
end
end Go.Proofs.YtgdkeafdlehlaaaDoor

/- What is known of the world from its start on, and stays: the library's tables read qs0 they were laid. Nothing of the program stands here but some variables' numbers. -/
namespace Go.Proofs.YtgdkeafdlehlaaaDoor
open Go Go.RowKit
set_option linter.unusedVariables false
theorem amb_cell {w w' : World} {a : Addr} (h : w'.heap[a.block]? = w.heap[a.block]?) : w'.cell? a = w.cell? a := by
  unfold World.cell?
  rw [h]
theorem amb_tabs {g3 g4 : Nat} {w w' : World} (h : Lib.Utf8Tabs g3 g4 w) (h3 : w'.heap[g3]? = w.heap[g3]?) (h4 : w'.heap[g4]? = w.heap[g4]?) : Lib.Utf8Tabs g3 g4 w' := by
  refine ⟨fun c hc => ?_, fun i hi => ?_⟩
  · rw [amb_cell (w := w) (w' := w') (a := ⟨g3, c, none⟩) h3]; exact h.1 c hc
  · rw [amb_cell (w := w) (w' := w') (a := ⟨g4, 2 * i, none⟩) h4, amb_cell (w := w) (w' := w') (a := ⟨g4, 2 * i + 1, none⟩) h4]; exact h.2 i hi
def amb0 (S : Nat → Prop) (w : World) : Prop := Lib.Utf8Tabs 0 1 w ∧ S 0 ∧ S 1
theorem amb0_mono {S S' : Nat → Prop} {w w' : World} (h : amb0 S w) (hs : ∀ b, S b → S' b) (hw : ∀ b, S b → w'.heap[b]? = w.heap[b]?) : amb0 S' w' := by
  obtain ⟨h, hs0, hs1⟩ := h
  exact ⟨amb_tabs h (hw _ hs0) (hw _ hs1), hs _ hs0, hs _ hs1⟩
def ambHolds (S : Nat → Prop) (w : World) : Prop := amb0 S w
theorem amb_mono {S S' : Nat → Prop} {w w' : World} (h : ambHolds S w) (hs : ∀ b, S b → S' b) (hw : ∀ b, S b → w'.heap[b]? = w.heap[b]?) : ambHolds S' w' := amb0_mono h hs hw
theorem amb_u8 {S : Nat → Prop} {w : World} (h : ambHolds S w) : Lib.Utf8Tabs 0 1 w := h.1
end Go.Proofs.YtgdkeafdlehlaaaDoor

/- Abstract values: what is known of a value without saying where it lies; resources that a call may change; what a frame and a world are known qs0. Nothing of the program stands here. -/
namespace Go.Proofs.YtgdkeafdlehlaaaDoor
open Go Go.RowKit
set_option linter.unusedVariables false

/-- a fact of a value that reads only blocks of S -/
structure SFact where
  holds : (Nat → Prop) → World → Value → Prop
  mono : ∀ {S S' : Nat → Prop} {w w' : World} {v : Value}, holds S w v → (∀ b, S b → S' b) → (∀ b, S b → w'.heap[b]? = w.heap[b]?) → holds S' w' v
  one : ∀ {S : Nat → Prop} {w : World} {v : Value}, holds S w v → v.oneCell' = true

inductive AV where
  | any
  | lit (v : Value)
  | snap (F : SFact)
  | own (j : Nat)
  | ptr (j off : Nat)
  | sl (j off m k : Nat)
  | pre (j m : Nat)
  | agg (cs : List AV)
  | tup (cs : List AV)
  | when (p : Prop) (a : AV)
  | fn (f : FuncId) (cs : List AV)

/-- the block that a resource's value names -/
def gof : Value → Option Nat
  | .pointer (some ⟨g, 0, none⟩) => some g
  | .slice (some ⟨g, 0, none⟩) _ _ => some g
  | _ => none
/-- the block that may be changed through a resource's value -/
def rblk : Value → Option Nat
  | .pointer (some a) => some a.block
  | v => wblk v

mutual
def AV.holds (S : Nat → Prop) (γ : Nat → Value) (w : World) : AV → Value → Prop
  | .any, _ => True
  | .lit u, v => v = u
  | .snap F, v => F.holds S w v
  | .own j, v => v = γ j
  | .ptr j off, v => ∃ g, gof (γ j) = some g ∧ v = .pointer (some ⟨g, off, none⟩)
  | .sl j off m k, v => ∃ g, gof (γ j) = some g ∧ v = .slice (some ⟨g, off, none⟩) m k
  | .pre j m, v => ∃ g c, gof (γ j) = some g ∧ m ≤ c ∧ v = .slice (some ⟨g, 0, none⟩) m c
  | .agg cs, v => ∃ vs : List Value, v = .agg vs.toArray ∧ AV.holdsL S γ w cs vs
  | .tup cs, v => ∃ vs : List Value, v = .tuple vs.toArray ∧ AV.holdsL S γ w cs vs
  | .when p a, v => (p → AV.holds S γ w a v) ∧ (¬ p → v = undef)
  | .fn f cs, v => ∃ vs : List Value, v = .func (.func f) #[] vs.toArray ∧ AV.holdsL S γ w cs vs
def AV.holdsL (S : Nat → Prop) (γ : Nat → Value) (w : World) : List AV → List Value → Prop
  | [], vs => vs = []
  | c :: cs, vs => ∃ v vs', vs = v :: vs' ∧ AV.holds S γ w c v ∧ AV.holdsL S γ w cs vs'
end
mutual
/-- do all names of resources meet the test? -/
def AV.uses (p : Nat → Bool) : AV → Bool
  | .own j => p j
  | .ptr j _ => p j
  | .sl j _ _ _ => p j
  | .pre j _ => p j
  | .agg cs => AV.usesL p cs
  | .tup cs => AV.usesL p cs
  | .fn _ cs => AV.usesL p cs
  | .when _ a => AV.uses p a
  | _ => true
def AV.usesL (p : Nat → Bool) : List AV → Bool
  | [] => true
  | c :: cs => AV.uses p c && AV.usesL p cs
end
/-- does it fill one cell? -/
def AV.allOne : AV → Bool
  | .lit v => v.oneCell'
  | .snap _ => true
  | .own _ => true
  | .ptr _ _ => true
  | .sl _ _ _ _ => true
  | .pre _ _ => true
  | .fn _ _ => true
  | _ => false
def AV.allOneL : List AV → Bool
  | [] => true
  | c :: cs => AV.allOne c && AV.allOneL cs
mutual
/-- nothing read from memory, no resource -/
def AV.flat : AV → Bool
  | .any => true
  | .lit _ => true
  | .agg cs => AV.flatL cs
  | .tup cs => AV.flatL cs
  | .when _ a => AV.flat a
  | _ => false
def AV.flatL : List AV → Bool
  | [] => true
  | c :: cs => AV.flat c && AV.flatL cs
end

def Same (S : Nat → Prop) (w w' : World) : Prop := ∀ b, S b → w'.heap[b]? = w.heap[b]?

mutual
theorem AV.mono {S S' : Nat → Prop} {γ γ' : Nat → Value} {w w' : World} (hs : ∀ b, S b → S' b) (hw : Same S w w') (p : Nat → Bool) (hg : ∀ j, p j = true → γ' j = γ j) :
    ∀ (a : AV) (v : Value), a.uses p = true → a.holds S γ w v → a.holds S' γ' w' v
  | .any, v, _, _ => by simp [AV.holds]
  | .lit u, v, _, h => by simpa [AV.holds] using h
  | .snap F, v, _, h => by
    simp only [AV.holds] at h ⊢
    exact F.mono h hs hw
  | .own j, v, hu, h => by
    simp only [AV.holds, AV.uses] at h hu ⊢
    rw [hg j hu]; exact h
  | .ptr j off, v, hu, h => by
    simp only [AV.holds, AV.uses] at h hu ⊢
    rw [hg j hu]; exact h
  | .sl j off m k, v, hu, h => by
    simp only [AV.holds, AV.uses] at h hu ⊢
    rw [hg j hu]; exact h
  | .pre j m, v, hu, h => by
    simp only [AV.holds, AV.uses] at h hu ⊢
    rw [hg j hu]; exact h
  | .agg cs, v, hu, h => by
    simp only [AV.holds, AV.uses] at h hu ⊢
    obtain ⟨vs, rfl, h⟩ := h
    exact ⟨vs, rfl, AV.monoL hs hw p hg cs vs hu h⟩
  | .tup cs, v, hu, h => by
    simp only [AV.holds, AV.uses] at h hu ⊢
    obtain ⟨vs, rfl, h⟩ := h
    exact ⟨vs, rfl, AV.monoL hs hw p hg cs vs hu h⟩
  | .fn f cs, v, hu, h => by
    simp only [AV.holds, AV.uses] at h hu ⊢
    obtain ⟨vs, rfl, h⟩ := h
    exact ⟨vs, rfl, AV.monoL hs hw p hg cs vs hu h⟩
  | .when q a, v, hu, h => by
    simp only [AV.holds, AV.uses] at h hu ⊢
    exact ⟨fun hq => AV.mono hs hw p hg a v hu (h.1 hq), h.2⟩
theorem AV.monoL {S S' : Nat → Prop} {γ γ' : Nat → Value} {w w' : World} (hs : ∀ b, S b → S' b) (hw : Same S w w') (p : Nat → Bool) (hg : ∀ j, p j = true → γ' j = γ j) :
    ∀ (cs : List AV) (vs : List Value), AV.usesL p cs = true → AV.holdsL S γ w cs vs → AV.holdsL S' γ' w' cs vs
  | [], vs, _, h => by simpa [AV.holdsL] using h
  | c :: cs, vs, hu, h => by
    simp only [AV.holdsL, AV.usesL, Bool.and_eq_true] at h hu ⊢
    obtain ⟨v, vs', rfl, h1, h2⟩ := h
    exact ⟨v, vs', rfl, AV.mono hs hw p hg c v hu.1 h1, AV.monoL hs hw p hg cs vs' hu.2 h2⟩
end
mutual
theorem AV.uses_true : ∀ (a : AV), a.uses (fun _ => true) = true
  | .any => rfl
  | .lit _ => rfl
  | .snap _ => rfl
  | .own _ => rfl
  | .ptr _ _ => rfl
  | .sl _ _ _ _ => rfl
  | .pre _ _ => rfl
  | .agg cs => AV.usesL_true cs
  | .tup cs => AV.usesL_true cs
  | .fn _ cs => AV.usesL_true cs
  | .when _ a => AV.uses_true a
theorem AV.usesL_true : ∀ (cs : List AV), AV.usesL (fun _ => true) cs = true
  | [] => rfl
  | c :: cs => by simp [AV.usesL, AV.uses_true c, AV.usesL_true cs]
end
theorem AV.ext {S S' : Nat → Prop} {γ : Nat → Value} {w w' : World} (hs : ∀ b, S b → S' b) (hw : Same S w w') {a : AV} {v : Value} (h : a.holds S γ w v) : a.holds S' γ w' v :=
  AV.mono hs hw (fun _ => true) (fun _ _ => rfl) a v (AV.uses_true a) h
theorem AV.extL {S S' : Nat → Prop} {γ : Nat → Value} {w w' : World} (hs : ∀ b, S b → S' b) (hw : Same S w w') {a : List AV} {v : List Value} (h : AV.holdsL S γ w a v) : AV.holdsL S' γ w' a v :=
  AV.monoL hs hw (fun _ => true) (fun _ _ => rfl) a v (AV.usesL_true a) h
mutual
theorem AV.flat_any {S S' : Nat → Prop} {γ γ' : Nat → Value} {w w' : World} : ∀ (a : AV) (v : Value), a.flat = true → a.holds S γ w v → a.holds S' γ' w' v
  | .any, v, _, _ => by simp [AV.holds]
  | .lit u, v, _, h => by simpa [AV.holds] using h
  | .snap F, v, hf, h => by simp [AV.flat] at hf
  | .own j, v, hf, h => by simp [AV.flat] at hf
  | .ptr j off, v, hf, h => by simp [AV.flat] at hf
  | .sl j off m k, v, hf, h => by simp [AV.flat] at hf
  | .pre j m, v, hf, h => by simp [AV.flat] at hf
  | .fn f cs, v, hf, h => by simp [AV.flat] at hf
  | .agg cs, v, hf, h => by
    simp only [AV.holds, AV.flat] at h hf ⊢
    obtain ⟨vs, rfl, h⟩ := h
    exact ⟨vs, rfl, AV.flat_anyL cs vs hf h⟩
  | .tup cs, v, hf, h => by
    simp only [AV.holds, AV.flat] at h hf ⊢
    obtain ⟨vs, rfl, h⟩ := h
    exact ⟨vs, rfl, AV.flat_anyL cs vs hf h⟩
  | .when q a, v, hf, h => by
    simp only [AV.holds, AV.flat] at h hf ⊢
    exact ⟨fun hq => AV.flat_any a v hf (h.1 hq), h.2⟩
theorem AV.flat_anyL {S S' : Nat → Prop} {γ γ' : Nat → Value} {w w' : World} : ∀ (cs : List AV) (vs : List Value), AV.flatL cs = true → AV.holdsL S γ w cs vs → AV.holdsL S' γ' w' cs vs
  | [], vs, _, h => by simpa [AV.holdsL] using h
  | c :: cs, vs, hf, h => by
    simp only [AV.holdsL, AV.flatL, Bool.and_eq_true] at h hf ⊢
    obtain ⟨v, vs', rfl, h1, h2⟩ := h
    exact ⟨v, vs', rfl, AV.flat_any c v hf.1 h1, AV.flat_anyL cs vs' hf.2 h2⟩
end
theorem AV.holdsL_len {S : Nat → Prop} {γ : Nat → Value} {w : World} : ∀ {cs : List AV} {vs : List Value}, AV.holdsL S γ w cs vs → vs.length = cs.length
  | [], vs, h => by simp [AV.holdsL] at h; simp [h]
  | c :: cs, vs, h => by
    simp only [AV.holdsL] at h
    obtain ⟨v, vs', rfl, _, h2⟩ := h
    simp [AV.holdsL_len h2]
theorem AV.holdsL_get {S : Nat → Prop} {γ : Nat → Value} {w : World} : ∀ {cs : List AV} {vs : List Value}, AV.holdsL S γ w cs vs → ∀ (i : Nat) (c : AV), cs[i]? = some c → ∃ v, vs[i]? = some v ∧ c.holds S γ w v
  | [], vs, h, i, c, hc => by simp at hc
  | d :: cs, vs, h, 0, c, hc => by
    simp only [AV.holdsL] at h
    obtain ⟨v, vs', rfl, h1, _⟩ := h
    simp at hc; subst hc
    exact ⟨v, rfl, h1⟩
  | d :: cs, vs, h, i + 1, c, hc => by
    simp only [AV.holdsL] at h
    obtain ⟨v, vs', rfl, _, h2⟩ := h
    simpa using AV.holdsL_get h2 i c (by simpa using hc)
theorem AV.holdsL_app {S : Nat → Prop} {γ : Nat → Value} {w : World} : ∀ {cs ds : List AV} {vs us : List Value}, AV.holdsL S γ w cs vs → AV.holdsL S γ w ds us → AV.holdsL S γ w (cs ++ ds) (vs ++ us)
  | [], ds, vs, us, h, k => by simp [AV.holdsL] at h; simpa [h] using k
  | c :: cs, ds, vs, us, h, k => by
    simp only [AV.holdsL] at h
    obtain ⟨v, vs', rfl, h1, h2⟩ := h
    simp only [List.cons_append, AV.holdsL]
    exact ⟨v, vs' ++ us, rfl, h1, AV.holdsL_app h2 k⟩
theorem AV.holdsL_split {S : Nat → Prop} {γ : Nat → Value} {w : World} : ∀ {cs ds : List AV} {vs : List Value}, AV.holdsL S γ w (cs ++ ds) vs → AV.holdsL S γ w cs (vs.take cs.length) ∧ AV.holdsL S γ w ds (vs.drop cs.length)
  | [], ds, vs, h => by simpa [AV.holdsL] using h
  | c :: cs, ds, vs, h => by
    simp only [List.cons_append, AV.holdsL] at h
    obtain ⟨v, vs', rfl, h1, h2⟩ := h
    have := AV.holdsL_split h2
    simp only [List.length_cons, List.take_succ_cons, List.drop_succ_cons, AV.holdsL]
    exact ⟨⟨v, _, rfl, h1, this.1⟩, this.2⟩
theorem AV.holdsL_take {S : Nat → Prop} {γ : Nat → Value} {w : World} {cs : List AV} {vs : List Value} (h : AV.holdsL S γ w cs vs) (n : Nat) : AV.holdsL S γ w (cs.take n) (vs.take n) := by
  by_cases hn : n ≤ cs.length
  · have := AV.holdsL_split (cs := cs.take n) (ds := cs.drop n) (by rwa [List.take_append_drop])
    simpa [List.length_take, Nat.min_eq_left hn] using this.1
  · rw [List.take_of_length_le (by omega), List.take_of_length_le (by have := AV.holdsL_len h; omega)]; exact h
theorem AV.holdsL_drop {S : Nat → Prop} {γ : Nat → Value} {w : World} {cs : List AV} {vs : List Value} (h : AV.holdsL S γ w cs vs) (n : Nat) : AV.holdsL S γ w (cs.drop n) (vs.drop n) := by
  by_cases hn : n ≤ cs.length
  · have := AV.holdsL_split (cs := cs.take n) (ds := cs.drop n) (by rwa [List.take_append_drop])
    simpa [List.length_take, Nat.min_eq_left hn] using this.2
  · rw [List.drop_of_length_le (by omega), List.drop_of_length_le (by have := AV.holdsL_len h; omega)]; simp [AV.holdsL]
theorem AV.holdsL_set {S : Nat → Prop} {γ : Nat → Value} {w : World} {u : Value} {d : AV} (hd : d.holds S γ w u) : ∀ {cs : List AV} {vs : List Value} (i : Nat), AV.holdsL S γ w cs vs → AV.holdsL S γ w (cs.set i d) (vs.set i u)
  | [], vs, i, h => by simp [AV.holdsL] at h; subst h; cases i <;> simp [AV.holdsL]
  | c :: cs, vs, 0, h => by
    simp only [AV.holdsL] at h
    obtain ⟨v, vs', rfl, h1, h2⟩ := h
    simp only [List.set_cons_zero, AV.holdsL]
    exact ⟨u, vs', rfl, hd, h2⟩
  | c :: cs, vs, i + 1, h => by
    simp only [AV.holdsL] at h
    obtain ⟨v, vs', rfl, h1, h2⟩ := h
    simp only [List.set_cons_succ, AV.holdsL]
    exact ⟨v, vs'.set i u, rfl, h1, AV.holdsL_set hd i h2⟩

/-- how a datum lies in cells -/
structure Enc (α : Type) where
  size : Nat
  cells : α → List AV
  len : ∀ x, (cells x).length = size
  plain : ∀ x, AV.usesL (fun _ => false) (cells x) = true
  one : ∀ x, AV.allOneL (cells x) = true
  read : List AV → α
def Enc.all {α : Type} (E : Enc α) (xs : List α) : List AV := xs.flatMap E.cells
theorem Enc.all_len {α : Type} (E : Enc α) (xs : List α) : (E.all xs).length = xs.length * E.size := by
  induction xs with
  | nil => simp [Enc.all]
  | cons x xs ih =>
    have : E.all (x :: xs) = E.cells x ++ E.all xs := rfl
    rw [this, List.length_append, ih, E.len]
    simp only [List.length_cons, Nat.add_mul]; omega
theorem Enc.all_append {α : Type} (E : Enc α) (xs ys : List α) : E.all (xs ++ ys) = E.all xs ++ E.all ys := by simp [Enc.all]
theorem Enc.all_one {α : Type} (E : Enc α) (x : α) : E.all [x] = E.cells x := by simp [Enc.all]
theorem usesL_app (p : Nat → Bool) : ∀ (cs ds : List AV), AV.usesL p (cs ++ ds) = (AV.usesL p cs && AV.usesL p ds)
  | [], ds => by simp [AV.usesL]
  | c :: cs, ds => by simp [AV.usesL, usesL_app p cs ds, Bool.and_assoc]
theorem Enc.all_plain {α : Type} (E : Enc α) (xs : List α) : AV.usesL (fun _ => false) (E.all xs) = true := by
  induction xs with
  | nil => simp [Enc.all, AV.usesL]
  | cons x xs ih =>
    have : E.all (x :: xs) = E.cells x ++ E.all xs := rfl
    rw [this, usesL_app, E.plain, ih]; rfl
theorem Enc.all_take {α : Type} (E : Enc α) (xs : List α) (n : Nat) : (E.all xs).take (n * E.size) = E.all (xs.take n) := by
  by_cases hn : n ≤ xs.length
  · conv => lhs; rw [← List.take_append_drop n xs, Enc.all_append]
    have hl : (E.all (xs.take n)).length = n * E.size := by rw [Enc.all_len, List.length_take, Nat.min_eq_left hn]
    rw [← hl, List.take_left]
  · rw [List.take_of_length_le (l := xs) (by omega), List.take_of_length_le]
    rw [Enc.all_len]; exact Nat.mul_le_mul_right _ (by omega)
theorem Enc.all_drop {α : Type} (E : Enc α) (xs : List α) (n : Nat) : (E.all xs).drop (n * E.size) = E.all (xs.drop n) := by
  by_cases hn : n ≤ xs.length
  · conv => lhs; rw [← List.take_append_drop n xs, Enc.all_append]
    have hl : (E.all (xs.take n)).length = n * E.size := by rw [Enc.all_len, List.length_take, Nat.min_eq_left hn]
    rw [← hl, List.drop_left]
  · rw [List.drop_of_length_le (l := xs) (by omega), List.drop_of_length_le]
    · rfl
    rw [Enc.all_len]; exact Nat.mul_le_mul_right _ (by omega)
/-- the cells from the k-th datum on begin with its own -/
theorem Enc.all_at {α : Type} (E : Enc α) (xs : List α) (k : Nat) (h : k < xs.length) : (E.all xs).drop (k * E.size) = E.cells xs[k] ++ E.all (xs.drop (k + 1)) := by
  rw [Enc.all_drop, List.drop_eq_getElem_cons h]; rfl

/-- from A on, the cells hold vs, in blocks of S -/
def RowS (S : Nat → Prop) (w : World) (A : Option Addr) (vs : List Value) : Prop :=
  vs ≠ [] → ∃ ad, A = some ad ∧ S ad.block ∧ ∀ j u, vs[j]? = some u → w.cell? (ad.add j) = some u
theorem cell_same {w w' : World} {a : Addr} (h : w'.heap[a.block]? = w.heap[a.block]?) : w'.cell? a = w.cell? a := by
  unfold World.cell?; rw [h]
theorem RowS.mono {S S' : Nat → Prop} {w w' : World} {A : Option Addr} {vs : List Value} (h : RowS S w A vs) (hs : ∀ b, S b → S' b) (hw : Same S w w') : RowS S' w' A vs := by
  intro hn
  obtain ⟨ad, rfl, hb, hc⟩ := h hn
  refine ⟨ad, rfl, hs _ hb, fun j u hu => ?_⟩
  exact (cell_same (w := w) (w' := w') (a := ad.add j) (by rw [addr_block]; exact hw _ hb)).trans (hc j u hu)
theorem RowS.row {S : Nat → Prop} {w : World} {A : Option Addr} {vs : List Value} (h : RowS S w A vs) : Row w A vs := fun hn => by
  obtain ⟨ad, hA, _, hc⟩ := h hn
  exact ⟨ad, hA, hc⟩
def noγ : Nat → Value := fun _ => .nilFunc
theorem plainL {S : Nat → Prop} {γ γ' : Nat → Value} {w : World} {cs : List AV} {vs : List Value} (hp : AV.usesL (fun _ => false) cs = true) (h : AV.holdsL S γ w cs vs) : AV.holdsL S γ' w cs vs :=
  AV.monoL (fun _ h => h) (fun _ _ => rfl) (fun _ => false) (fun _ h => by cases h) cs vs hp h
/-- a slice that reads qs0 these data -/
def slF {α : Type} (E : Enc α) (xs : List α) : SFact where
  holds S w v := ∃ A c vs, v = .slice A xs.length c ∧ xs.length ≤ c ∧ RowS S w A vs ∧ AV.holdsL S noγ w (E.all xs) vs ∧ ∀ u ∈ vs, u.oneCell' = true
  mono := by
    rintro S S' w w' v ⟨A, c, vs, rfl, hc, hr, hh, h1⟩ hs hw
    exact ⟨A, c, vs, rfl, hc, hr.mono hs hw, AV.extL hs hw hh, h1⟩
  one := by
    rintro S w v ⟨A, c, vs, rfl, _⟩
    rfl
/-- a slice that reads qs0 these data, others behind them in its room -/
def roomF {α : Type} (E : Enc α) (xs zs : List α) : SFact where
  holds S w v := ∃ A c vs, v = .slice A xs.length c ∧ xs.length + zs.length ≤ c ∧ RowS S w A vs ∧ AV.holdsL S noγ w (E.all (xs ++ zs)) vs ∧ ∀ u ∈ vs, u.oneCell' = true
  mono := by
    rintro S S' w w' v ⟨A, c, vs, rfl, hc, hr, hh, h1⟩ hs hw
    exact ⟨A, c, vs, rfl, hc, hr.mono hs hw, AV.extL hs hw hh, h1⟩
  one := by
    rintro S w v ⟨A, c, vs, rfl, _⟩
    rfl
theorem RowS.take {S : Nat → Prop} {w : World} {A : Option Addr} {vs : List Value} (h : RowS S w A vs) (n : Nat) : RowS S w A (vs.take n) := by
  intro hn
  obtain ⟨ad, hA, hb, hc⟩ := h (by rintro rfl; simp at hn)
  refine ⟨ad, hA, hb, fun j u hu => hc j u ?_⟩
  rw [List.getElem?_take] at hu
  split at hu
  · exact hu
  · cases hu
theorem room_sl {α : Type} {E : Enc α} {xs zs : List α} {S : Nat → Prop} {w : World} {v : Value} (h : (roomF E xs zs).holds S w v) : (slF E xs).holds S w v := by
  obtain ⟨A, c, vs, rfl, hc, hr, hh, h1⟩ := h
  refine ⟨A, c, vs.take (xs.length * E.size), rfl, by omega, hr.take _, ?_, fun u hu => h1 u (List.mem_of_mem_take hu)⟩
  have := AV.holdsL_take hh (xs.length * E.size)
  rwa [Enc.all_take, List.take_left] at this
/-- a pointer to cells that read so -/
def placeF (cs : List AV) : SFact where
  holds S w v := ∃ ad vs, v = .pointer (some ad) ∧ RowS S w (some ad) vs ∧ AV.holdsL S noγ w cs vs
  mono := by
    rintro S S' w w' v ⟨ad, vs, rfl, hr, hh⟩ hs hw
    exact ⟨ad, vs, rfl, hr.mono hs hw, AV.extL hs hw hh⟩
  one := by
    rintro S w v ⟨ad, vs, rfl, _⟩
    rfl

/-- what a call may change: a block of cells; a slice of its own -/
inductive Res : Type 1 where
  | box (cs : List AV)
  | own {α : Type} (e : TypeId) (E : Enc α) (xs : List α)
  | iter (s : ByteArray) (pos : Nat)
def Res.holds (S : Nat → Prop) (γ : Nat → Value) (w : World) : Res → Value → Prop
  | .box cs, v => ∃ g arr e, v = .pointer (some ⟨g, 0, none⟩) ∧ w.heap[g]? = some (.cells arr e (0, 0)) ∧ AV.holdsL S γ w cs arr.toList
  | .own e E xs, v => ∃ vs, Own w 0 e E.size v xs.length vs ∧ AV.holdsL S noγ w (E.all xs) vs ∧ ∀ u ∈ vs, u.oneCell' = true
  | .iter s pos, v => ∃ g, v = .pointer (some ⟨g, 0, none⟩) ∧ w.heap[g]? = some (.stringIter s pos)
def Res.uses (p : Nat → Bool) : Res → Bool
  | .box cs => AV.usesL p cs
  | .own _ _ _ => true
  | .iter _ _ => true

def look.{u} {β : Type u} : List (Nat × β) → Nat → Option β
  | [], _ => none
  | (k, v) :: r, x => match Nat.beq k x with
    | true => some v
    | false => look r x
theorem look_cons.{u} {β : Type u} (k x : Nat) (v : β) (r : List (Nat × β)) : look ((k, v) :: r) x = if k = x then some v else look r x := by
  simp only [look]
  by_cases h : k = x
  · subst h; simp
  · have : Nat.beq k x = false := by
      cases hb : Nat.beq k x with
      | false => rfl
      | true => exact absurd (Nat.eq_of_beq_eq_true hb) h
    simp [this, h]

/-- S's blocks are there; what is known of the world from its start on holds -/
structure SzA (S : Nat → Prop) (w : World) : Prop where
  lt : ∀ b, S b → b < w.heap.size
  amb : ambHolds S w
instance {S : Nat → Prop} {w : World} : CoeFun (SzA S w) (fun _ => ∀ b, S b → b < w.heap.size) := ⟨SzA.lt⟩
instance {S : Nat → Prop} {w : World} : Coe (SzA S w) (∀ b, S b → b < w.heap.size) := ⟨SzA.lt⟩
theorem SzA.to {S S' : Nat → Prop} {w w' : World} (h : SzA S w) (hs : ∀ b, S b → S' b) (hw : ∀ b, S b → w'.heap[b]? = w.heap[b]?) (hl : ∀ b, S' b → b < w'.heap.size) : SzA S' w' := ⟨hl, amb_mono h.amb hs hw⟩
structure St (S : Nat → Prop) (γ : Nat → Value) (w : World) (H : List (Nat × Res)) : Prop where
  res : ∀ j r, look H j = some r → r.holds S γ w (γ j)
  dis : ∀ i j ri rj b, look H i = some ri → look H j = some rj → rblk (γ i) = some b → rblk (γ j) = some b → i = j
  live : ∀ j r b, look H j = some r → rblk (γ j) = some b → ¬ S b
  sz : SzA S w
  one : ∀ j, (γ j).oneCell' = true

theorem Res.blk_lt {S : Nat → Prop} {γ : Nat → Value} {w : World} {r : Res} {v : Value} (h : r.holds S γ w v) {b : Nat} (hb : rblk v = some b) : b < w.heap.size := by
  cases r with
  | box cs =>
    obtain ⟨g, arr, e, rfl, hg, _⟩ := h
    simp [rblk] at hb; subst hb
    exact (Array.getElem?_eq_some_iff.1 hg).1
  | own e E xs =>
    obtain ⟨vs, ho, _⟩ := h
    have hv : rblk v = wblk v := by
      obtain ⟨_, A, c, rfl, _⟩ := ho
      cases A <;> rfl
    rw [hv] at hb
    exact (ho.lt hb).2
  | iter s pos =>
    obtain ⟨g, rfl, hg⟩ := h
    simp [rblk] at hb; subst hb
    exact (Array.getElem?_eq_some_iff.1 hg).1
theorem Res.mono {S S' : Nat → Prop} {γ γ' : Nat → Value} {w w' : World} (hs : ∀ b, S b → S' b) (hw : Same S w w') (p : Nat → Bool) (hg : ∀ j, p j = true → γ' j = γ j) {r : Res} {v : Value} (hu : r.uses p = true)
    (hb : ∀ b, rblk v = some b → w'.heap[b]? = w.heap[b]?) (h : r.holds S γ w v) : r.holds S' γ' w' v := by
  cases r with
  | box cs =>
    obtain ⟨g, arr, e, rfl, hh, hc⟩ := h
    exact ⟨g, arr, e, rfl, (hb g rfl).trans hh, AV.monoL hs hw p hg cs _ hu hc⟩
  | own e E xs =>
    obtain ⟨vs, ho, hc, h1⟩ := h
    refine ⟨vs, ?_, AV.extL hs hw hc, h1⟩
    obtain ⟨hl, A, c, rfl, hz | ⟨g, cur, rfl, h0, hh, rest⟩⟩ := ho
    · exact ⟨hl, A, c, rfl, .inl hz⟩
    · cases c with
      | zero =>
        have : xs.length = 0 := by omega
        exact ⟨hl, _, 0, rfl, .inl ⟨this, rfl⟩⟩
      | succ c => exact ⟨hl, _, c + 1, rfl, .inr ⟨g, cur, rfl, h0, hh.same (hb g rfl), rest⟩⟩
  | iter s pos =>
    obtain ⟨g, rfl, hh⟩ := h
    exact ⟨g, rfl, (hb g rfl).trans hh⟩

/-- what became of a world: only blocks of L, and new ones -/
structure Keep (L : Nat → Prop) (w w' : World) : Prop where
  os : w'.os = w.os
  tape : w'.tape = w.tape
  output : w'.output = w.output
  size : w.heap.size ≤ w'.heap.size
  block : ∀ b, b < w.heap.size → ¬ L b → w'.heap[b]? = w.heap[b]?
theorem Keep.refl (L : Nat → Prop) (w : World) : Keep L w w := ⟨rfl, rfl, rfl, Nat.le_refl _, fun _ _ _ => rfl⟩
theorem Keep.of_ext {L : Nat → Prop} {w w' : World} (h : Ext w w') : Keep L w w' := ⟨h.os, h.tape, h.output, h.size, fun b hb _ => h.block b hb⟩
theorem Keep.trans {L L' : Nat → Prop} {a b c : World} (h : Keep L a b) (k : Keep L' b c) (hl : ∀ x, L' x → L x ∨ a.heap.size ≤ x) : Keep L a c :=
  ⟨k.os.trans h.os, k.tape.trans h.tape, k.output.trans h.output, Nat.le_trans h.size k.size, fun x hx hn => (k.block x (Nat.lt_of_lt_of_le hx h.size) (fun hL => by rcases hl x hL with h' | h'; exact hn h'; omega)).trans (h.block x hx hn)⟩
theorem Keep.ext {w w' : World} (h : Keep (fun _ => False) w w') : Ext w w' := ⟨h.os, h.tape, h.output, h.size, fun b hb => h.block b hb (fun h => h)⟩

/-- where a call began -/
structure Ctx where
  w : World
  S : Nat → Prop
  L : Nat → Prop
  J : Nat → Prop
  γ : Nat → Value
  lt : ∀ j, J j → j < 1000

structure Rel (c : Ctx) (n : Nat) (fr : List (Nat × AV)) (H : List (Nat × Res)) (S : Nat → Prop) (γ : Nat → Value) (tmps : Array Value) (w : World) : Prop where
  st : St S γ w H
  fr : ∀ x av, look fr x = some av → av.holds S γ w (tmps.getD x undef)
  up : ∀ b, S b → c.S b ∨ c.w.heap.size ≤ b ∨ c.L b
  own : ∀ j r b, look H j = some r → rblk (γ j) = some b → c.w.heap.size ≤ b ∨ c.L b
  ids : ∀ j, c.J j → γ j = c.γ j
  size : tmps.size = n
  keep : Keep c.L c.w w
end Go.Proofs.YtgdkeafdlehlaaaDoor

/- What single operations make of abstract values. Nothing of the program stands here. -/
namespace Go.Proofs.YtgdkeafdlehlaaaDoor
open Go Go.RowKit
set_option linter.unusedVariables false

/-- kinds of types -/
inductive TK where
  | int (k : IntKind) | bool | str | slice (e : TypeId) | struct (fs : List (TypeId × Nat)) | array (n : Nat) (e : TypeId) | ptr (e : TypeId) | iface | fn | map (k v : TypeId) | other
  deriving DecidableEq
structure TI where
  kind : TK
  size : Nat
  bytes : Nat
def TK.agg : TK → Bool
  | .struct _ => true
  | .array _ _ => true
  | _ => false
def tkOf (P : Program) (t : TypeId) : TK := match P.underlying t with
  | some (.int k) => .int k
  | some .bool => .bool
  | some .string => .str
  | some (.slice e) => .slice e
  | some (.struct fs) => .struct (fs.toList.map fun f => (f.type, f.offset))
  | some (.array n e) => .array n e
  | some (.pointer e) => .ptr e
  | some (.interface _) => .iface
  | some (.func _ _ _) => .fn
  | some (.map k v) => .map k v
  | _ => .other
/-- does a table tell a program's types? -/
def ttB (P : Program) (T : List (Nat × TI)) : Bool := T.all fun (t, i) => decide (tkOf P t = i.kind) && decide (i.kind ≠ .other) && (match P.info? t with | some j => decide (j.size = i.size) && decide (j.bytes = i.bytes) && (match j.zero with | some z => decide (z.cells.size = i.size) | none => false) | none => false)
structure TTOk (P : Program) (T : List (Nat × TI)) : Prop where
  ok : ∀ t i, look T t = some i → tkOf P t = i.kind ∧ i.kind ≠ .other ∧ ∃ j z, P.info? t = some j ∧ j.size = i.size ∧ j.bytes = i.bytes ∧ j.zero = some z ∧ z.cells.size = i.size
theorem ttOk {P : Program} {T : List (Nat × TI)} (h : ttB P T = true) : TTOk P T := by
  refine ⟨fun t i hl => ?_⟩
  unfold ttB at h
  rw [List.all_eq_true] at h
  have hm : (t, i) ∈ T := by
    clear h
    induction T with
    | nil => simp [look] at hl
    | cons p r ih =>
      obtain ⟨k, v⟩ := p
      rw [look_cons] at hl
      split at hl
      · rename_i e; subst e; simp at hl; subst hl; exact List.mem_cons_self
      · exact List.mem_cons_of_mem _ (ih hl)
  have := h _ hm
  simp only [Bool.and_eq_true, decide_eq_true_eq] at this
  obtain ⟨⟨h1, h2⟩, h3⟩ := this
  refine ⟨h1, h2, ?_⟩
  cases hi : P.info? t with
  | none => simp [hi] at h3
  | some j =>
    simp only [hi, Bool.and_eq_true, decide_eq_true_eq] at h3
    obtain ⟨⟨h4, h5⟩, h6⟩ := h3
    cases hz : j.zero with
    | none => simp [hz] at h6
    | some z =>
      simp only [hz, decide_eq_true_eq] at h6
      exact ⟨j, z, rfl, h4, h5, hz, h6⟩
section
variable {P : Program} {T : List (Nat × TI)} {t : TypeId} {i : TI}
theorem TTOk.size (h : TTOk P T) (hl : look T t = some i) (w : World) : (sizeOf t).run P w = .ok i.size w := by
  obtain ⟨_, _, j, z, hj, h1, _⟩ := h.ok t i hl
  simp [sizeOf, typeInfo, hj, h1]
theorem TTOk.info (h : TTOk P T) (hl : look T t = some i) : ∃ j z, P.info? t = some j ∧ j.size = i.size ∧ j.bytes = i.bytes ∧ j.zero = some z ∧ z.cells.size = i.size := by
  obtain ⟨_, _, j, z, hj, h1, h2, h3⟩ := h.ok t i hl
  exact ⟨j, z, hj, h1, h2, h3⟩
theorem TTOk.agg (h : TTOk P T) (hl : look T t = some i) (w : World) : (isAgg t).run P w = .ok i.kind.agg w := by
  obtain ⟨hk, hn, _⟩ := h.ok t i hl
  unfold tkOf at hk
  cases hu : P.underlying t with
  | none => rw [hu] at hk; exact absurd hk.symm hn
  | some d =>
    rw [hu] at hk
    have : (underlying t).run P w = .ok d w := run_underlying hu w
    cases d <;> simp only at hk <;> first | (exact absurd hk.symm hn) | (rw [← hk]; simp [isAgg, this, TK.agg])
theorem TTOk.slice (h : TTOk P T) {e s b : Nat} (hl : look T t = some ⟨.slice e, s, b⟩) : P.underlying t = some (.slice e) := by
  obtain ⟨hk, _⟩ := h.ok t _ hl
  unfold tkOf at hk
  cases hu : P.underlying t with
  | none => rw [hu] at hk; cases hk
  | some d => rw [hu] at hk; cases d <;> simp_all
theorem TTOk.str (h : TTOk P T) {s b : Nat} (hl : look T t = some ⟨.str, s, b⟩) : P.underlying t = some .string := by
  obtain ⟨hk, _⟩ := h.ok t _ hl
  unfold tkOf at hk
  cases hu : P.underlying t with
  | none => rw [hu] at hk; cases hk
  | some d => rw [hu] at hk; cases d <;> first | rfl | exact absurd hk (by simp)
theorem TTOk.int (h : TTOk P T) {s b : Nat} {k : IntKind} (hl : look T t = some ⟨.int k, s, b⟩) : P.underlying t = some (.int k) := by
  obtain ⟨hk, _⟩ := h.ok t _ hl
  unfold tkOf at hk
  cases hu : P.underlying t with
  | none => rw [hu] at hk; cases hk
  | some d => rw [hu] at hk; cases d <;> simp_all
theorem TTOk.field (h : TTOk P T) {fs : List (TypeId × Nat)} {s b f ft off : Nat} (hl : look T t = some ⟨.struct fs, s, b⟩) (hf : fs[f]? = some (ft, off)) :
    ∃ F fl, P.underlying t = some (.struct F) ∧ F[f]? = some fl ∧ fl.type = ft ∧ fl.offset = off := by
  obtain ⟨hk, _⟩ := h.ok t _ hl
  unfold tkOf at hk
  cases hu : P.underlying t with
  | none => rw [hu] at hk; cases hk
  | some d =>
    rw [hu] at hk
    cases d <;> simp only [reduceCtorEq] at hk
    rename_i F
    refine ⟨F, ?_⟩
    simp only [TK.struct.injEq] at hk
    rw [← hk] at hf
    simp only [List.getElem?_map, Option.map_eq_some_iff] at hf
    obtain ⟨fl, h1, h2⟩ := hf
    refine ⟨fl, rfl, by simpa using h1, ?_, ?_⟩
    · exact congrArg Prod.fst h2
    · exact congrArg Prod.snd h2
end

def opv (fr : List (Nat × AV)) : Operand → Option AV
  | .tmp t => look fr t
  | .const v => some (.lit v)
  | .func f => some (.fn f [])
  | .global g => some (.lit (.pointer (some ⟨g, 0, none⟩)))
inductive Opv (fr : List (Nat × AV)) (x : Operand) (a : AV) : Prop
  | of (h : opv fr x = some a)
  | un {p : Prop} (h : opv fr x = some (.when p a)) (hp : p)
theorem opv_std {fr : List (Nat × AV)} {x : Operand} {a : AV} (h : Opv fr x a := by first | exact .un rfl (by first | assumption | exact And.left (by assumption) | exact And.left (And.left (by assumption)) | exact And.left (And.left (And.left (by assumption)))) | exact .of rfl) : Opv fr x a := h
/-- what is known where an operation runs -/
structure Env (fr : List (Nat × AV)) (H : List (Nat × Res)) (use : Operand → Prop) (ρ : Operand → Value) (S : Nat → Prop) (γ : Nat → Value) (w : World) : Prop where
  st : St S γ w H
  tmp : ∀ x av, use (.tmp x) → look fr x = some av → av.holds S γ w (ρ (.tmp x))
  const : ∀ v, ρ (.const v) = v
  func : ∀ f, ρ (.func f) = .func (.func f) #[] #[]
  glob : ∀ g, ρ (.global g) = .pointer (some ⟨g, 0, none⟩)
def FreshS (S : Nat → Prop) (w w' : World) : Nat → Prop := fun b => S b ∨ (w.heap.size ≤ b ∧ b < w'.heap.size)
/-- an operation that only makes: whatever the order, its outcome reads so -/
def SOp (P : Program) (o : Oper) (fr : List (Nat × AV)) (H : List (Nat × Res)) (out : AV) : Prop :=
  ∀ S γ w ρ, Env fr H (fun x => x ∈ o.op.operands) ρ S γ w → Outcome P (fun v w' => Ext w w' ∧ out.holds (FreshS S w w') γ w' v) ((execOp ρ o).run P w)

section
variable {P : Program} {T : List (Nat × TI)} {o : Oper} {fr : List (Nat × AV)} {H : List (Nat × Res)}
variable {S : Nat → Prop} {γ : Nat → Value} {w : World} {ρ : Operand → Value} {use : Operand → Prop}
theorem Env.get (h : Env fr H use ρ S γ w) {x : Operand} {a : AV} (hx : Opv fr x a) (hu : use x) : a.holds S γ w (ρ x) := by
  have key : ∀ b, opv fr x = some b → b.holds S γ w (ρ x) := by
    intro b hb
    cases x with
    | tmp t => exact h.tmp t b hu hb
    | const v =>
      simp only [opv, Option.some.injEq] at hb; subst hb
      simp only [AV.holds]; exact h.const v
    | func f =>
      simp only [opv, Option.some.injEq] at hb; subst hb
      simp only [AV.holds, AV.holdsL]
      exact ⟨[], by rw [h.func], rfl⟩
    | global g =>
      simp only [opv, Option.some.injEq] at hb; subst hb
      simp only [AV.holds]; exact h.glob g
  cases hx with
  | of hb => exact key _ hb
  | un hb hp =>
    have := key _ hb
    simp only [AV.holds] at this
    exact this.1 hp
theorem Env.lit (h : Env fr H use ρ S γ w) {x : Operand} {v : Value} (hx : Opv fr x (.lit v)) (hu : use x) : ρ x = v := by
  have := h.get hx hu
  simpa only [AV.holds] using this
theorem outc {R : Value → World → Prop} {v : Value} {w' : World} (hrun : (execOp ρ o).run P w = .ok (.value v) w') (h : R v w') : Outcome P R ((execOp ρ o).run P w) := by
  rw [hrun]; exact h
theorem outs {out : AV} {v : Value} (hrun : (execOp ρ o).run P w = .ok (.value v) w) (h : out.holds S γ w v) : Outcome P (fun v w' => Ext w w' ∧ out.holds (FreshS S w w') γ w' v) ((execOp ρ o).run P w) :=
  outc hrun ⟨Ext.refl w, AV.ext (fun _ h => .inl h) (fun _ _ => rfl) h⟩
theorem outl {v : Value} (hrun : (execOp ρ o).run P w = .ok (.value v) w) : Outcome P (fun v' w' => Ext w w' ∧ (AV.lit v).holds (FreshS S w w') γ w' v') ((execOp ρ o).run P w) :=
  outc hrun ⟨Ext.refl w, by simp only [AV.holds]⟩

theorem sop_move {x : Operand} {a : AV} (ho : o.op = .move x := by rfl) (hx : Opv fr x a := by exact opv_std) : SOp P o fr H a := fun S γ w ρ h =>
  outs (v := ρ x) (by simp only [execOp, ho, Sem.run_pure]) (h.get hx (by simp [ho, Op.operands]))
theorem sop_assign {x : Operand} {a : AV} (ho : o.op = .assign x := by rfl) (hx : Opv fr x a := by exact opv_std) : SOp P o fr H a := fun S γ w ρ h =>
  outs (v := ρ x) (by simp only [execOp, ho, Sem.run_pure]) (h.get hx (by simp [ho, Op.operands]))
/-- the value of an operand that is looked at under a condition -/
inductive OpvIf (q : Prop) (fr : List (Nat × AV)) (x : Operand) (a : AV) : Prop
  | of (h : opv fr x = some a)
  | un {p : Prop} (h : opv fr x = some (.when p a)) (hp : q → p)
theorem OpvIf.opv {q : Prop} {x : Operand} {a : AV} (h : OpvIf q fr x a) (hq : q) : Opv fr x a := by
  cases h with
  | of h => exact .of h
  | un h hp => exact .un h (hp hq)
theorem sop_pick_or {c y : Operand} {b z : Bool} (ho : o.op = .pick c (.const (.bool true)) y := by rfl) (hc : Opv fr c (.lit (.bool b)) := by exact opv_std) (hy : OpvIf (b = false) fr y (.lit (.bool z)) := by first | exact .un rfl (fun h => h) | exact .un rfl (fun h => ⟨by assumption, h⟩) | exact .of rfl) : SOp P o fr H (.lit (.bool (b || z))) := fun S γ w ρ h => by
  have h1 := h.lit hc (by simp [ho, Op.operands])
  refine outl ?_
  cases b with
  | true => simp [execOp, ho, h1, asBool, h.const]
  | false =>
    have h2 := h.lit (hy.opv rfl) (by simp [ho, Op.operands])
    simp [execOp, ho, h1, asBool, h2]
theorem sop_pick_and {c y : Operand} {b z : Bool} (ho : o.op = .pick c y (.const (.bool false)) := by rfl) (hc : Opv fr c (.lit (.bool b)) := by exact opv_std) (hy : OpvIf (b = true) fr y (.lit (.bool z)) := by first | exact .un rfl (fun h => h) | exact .un rfl (fun h => ⟨by assumption, h⟩) | exact .of rfl) : SOp P o fr H (.lit (.bool (b && z))) := fun S γ w ρ h => by
  have h1 := h.lit hc (by simp [ho, Op.operands])
  refine outl ?_
  cases b with
  | false => simp [execOp, ho, h1, asBool, h.const]
  | true =>
    have h2 := h.lit (hy.opv rfl) (by simp [ho, Op.operands])
    simp [execOp, ho, h1, asBool, h2]
section
variable {x y : Operand} {t t' : TypeId} {k : IntKind} {a b : Int}
theorem run_bin {op : BinOp} {u v : Value} (ho : o.op = .binOp op t x y t') (hx : ρ x = u) (hy : ρ y = v) (hu : ∀ cs, u ≠ .agg cs) (hi : u ≠ .nilIface) : (execOp ρ o).run P w = ((binOp op t u v).run P w).andThen fun r w => .ok (.value r) w := by
  have : (eqGuard op t x y u v).run P w = .ok () w := by
    unfold eqGuard
    cases op <;> cases u <;> simp_all
  simp only [execOp, ho, hx, hy, Sem.run_bind, this, Result.andThen_ok, Sem.run_pure]
theorem sop_add (ho : o.op = .binOp .add t x y t' := by rfl) (hx : Opv fr x (.lit (.int k a)) := by exact opv_std) (hy : Opv fr y (.lit (.int k b)) := by exact opv_std) : SOp P o fr H (.lit (.int k (k.wrap (a + b)))) := fun S γ w ρ h => by
  refine outl ?_
  rw [run_bin ho (h.lit hx (by simp [ho, Op.operands])) (h.lit hy (by simp [ho, Op.operands])) (by simp) (by simp)]
  simp [go_sem]
theorem sop_sub (ho : o.op = .binOp .sub t x y t' := by rfl) (hx : Opv fr x (.lit (.int k a)) := by exact opv_std) (hy : Opv fr y (.lit (.int k b)) := by exact opv_std) : SOp P o fr H (.lit (.int k (k.wrap (a - b)))) := fun S γ w ρ h => by
  refine outl ?_
  rw [run_bin ho (h.lit hx (by simp [ho, Op.operands])) (h.lit hy (by simp [ho, Op.operands])) (by simp) (by simp)]
  simp [go_sem]
theorem sop_mul (ho : o.op = .binOp .mul t x y t' := by rfl) (hx : Opv fr x (.lit (.int k a)) := by exact opv_std) (hy : Opv fr y (.lit (.int k b)) := by exact opv_std) : SOp P o fr H (.lit (.int k (k.wrap (a * b)))) := fun S γ w ρ h => by
  refine outl ?_
  rw [run_bin ho (h.lit hx (by simp [ho, Op.operands])) (h.lit hy (by simp [ho, Op.operands])) (by simp) (by simp)]
  simp [go_sem]
theorem wrap_i64_in {n : Int} (h : -9223372036854775808 ≤ n ∧ n ≤ 9223372036854775807) : IntKind.i64.wrap n = n := IntWalk.i64_in n h
theorem wrap_u64_in {n : Int} (h : 0 ≤ n ∧ n ≤ 18446744073709551615) : IntKind.u64.wrap n = n := by
  simp only [IntKind.wrap, IntKind.bits, IntKind.signed, Bool.false_and, Bool.false_eq_true, if_false]; omega
theorem wrap_u32_in {n : Int} (h : 0 ≤ n ∧ n ≤ 4294967295) : IntKind.u32.wrap n = n := by
  simp only [IntKind.wrap, IntKind.bits, IntKind.signed, Bool.false_and, Bool.false_eq_true, if_false]; omega
theorem wrap_u8_in {n : Int} (h : 0 ≤ n ∧ n ≤ 255) : IntKind.u8.wrap n = n := by
  simp only [IntKind.wrap, IntKind.bits, IntKind.signed, Bool.false_and, Bool.false_eq_true, if_false]; omega
theorem wrap_i32_in {n : Int} (h : -2147483648 ≤ n ∧ n ≤ 2147483647) : IntKind.i32.wrap n = n := by
  rw [IntKind.wrap_i32]; omega
theorem sop_cast {u v : Value} (h : SOp P o fr H (.lit u)) (e : u = v := by rfl) : SOp P o fr H (.lit v) := e ▸ h
theorem sop_add_in (ho : o.op = .binOp .add t x y t' := by rfl) (hx : Opv fr x (.lit (.int .i64 a)) := by exact opv_std) (hy : Opv fr y (.lit (.int .i64 b)) := by exact opv_std) (hi : -9223372036854775808 ≤ a + b ∧ a + b ≤ 9223372036854775807 := by first | omega | (simp only [List.length_append, List.length_cons, List.length_nil, List.length_take, List.length_drop, List.length_replicate, List.length_map, List.length_set]; omega)) : SOp P o fr H (.lit (.int .i64 (a + b))) :=
  sop_cast (sop_add ho hx hy) (by rw [wrap_i64_in hi])
theorem sop_sub_in (ho : o.op = .binOp .sub t x y t' := by rfl) (hx : Opv fr x (.lit (.int .i64 a)) := by exact opv_std) (hy : Opv fr y (.lit (.int .i64 b)) := by exact opv_std) (hi : -9223372036854775808 ≤ a - b ∧ a - b ≤ 9223372036854775807 := by first | omega | (simp only [List.length_append, List.length_cons, List.length_nil, List.length_take, List.length_drop, List.length_replicate, List.length_map, List.length_set]; omega)) : SOp P o fr H (.lit (.int .i64 (a - b))) :=
  sop_cast (sop_sub ho hx hy) (by rw [wrap_i64_in hi])
theorem sop_mul_in (ho : o.op = .binOp .mul t x y t' := by rfl) (hx : Opv fr x (.lit (.int .i64 a)) := by exact opv_std) (hy : Opv fr y (.lit (.int .i64 b)) := by exact opv_std) (hi : -9223372036854775808 ≤ a * b ∧ a * b ≤ 9223372036854775807 := by first | omega | (simp only [List.length_append, List.length_cons, List.length_nil, List.length_take, List.length_drop, List.length_replicate, List.length_map, List.length_set]; omega)) : SOp P o fr H (.lit (.int .i64 (a * b))) :=
  sop_cast (sop_mul ho hx hy) (by rw [wrap_i64_in hi])
theorem sop_lss (ho : o.op = .binOp .lss t x y t' := by rfl) (hx : Opv fr x (.lit (.int k a)) := by exact opv_std) (hy : Opv fr y (.lit (.int k b)) := by exact opv_std) : SOp P o fr H (.lit (.bool (decide (a < b)))) := fun S γ w ρ h => by
  refine outl ?_
  rw [run_bin ho (h.lit hx (by simp [ho, Op.operands])) (h.lit hy (by simp [ho, Op.operands])) (by simp) (by simp)]
  simp [go_sem]
theorem sop_leq (ho : o.op = .binOp .leq t x y t' := by rfl) (hx : Opv fr x (.lit (.int k a)) := by exact opv_std) (hy : Opv fr y (.lit (.int k b)) := by exact opv_std) : SOp P o fr H (.lit (.bool (decide (a ≤ b)))) := fun S γ w ρ h => by
  refine outl ?_
  rw [run_bin ho (h.lit hx (by simp [ho, Op.operands])) (h.lit hy (by simp [ho, Op.operands])) (by simp) (by simp)]
  simp [go_sem]
theorem sop_gtr (ho : o.op = .binOp .gtr t x y t' := by rfl) (hx : Opv fr x (.lit (.int k a)) := by exact opv_std) (hy : Opv fr y (.lit (.int k b)) := by exact opv_std) : SOp P o fr H (.lit (.bool (decide (b < a)))) := fun S γ w ρ h => by
  refine outl ?_
  rw [run_bin ho (h.lit hx (by simp [ho, Op.operands])) (h.lit hy (by simp [ho, Op.operands])) (by simp) (by simp)]
  simp [go_sem]
theorem sop_geq (ho : o.op = .binOp .geq t x y t' := by rfl) (hx : Opv fr x (.lit (.int k a)) := by exact opv_std) (hy : Opv fr y (.lit (.int k b)) := by exact opv_std) : SOp P o fr H (.lit (.bool (decide (b ≤ a)))) := fun S γ w ρ h => by
  refine outl ?_
  rw [run_bin ho (h.lit hx (by simp [ho, Op.operands])) (h.lit hy (by simp [ho, Op.operands])) (by simp) (by simp)]
  simp [go_sem]
theorem sop_eql (ho : o.op = .binOp .eql t x y t' := by rfl) (hx : Opv fr x (.lit (.int k a)) := by exact opv_std) (hy : Opv fr y (.lit (.int k b)) := by exact opv_std) : SOp P o fr H (.lit (.bool (decide (a = b)))) := fun S γ w ρ h => by
  refine outl ?_
  rw [run_bin ho (h.lit hx (by simp [ho, Op.operands])) (h.lit hy (by simp [ho, Op.operands])) (by simp) (by simp)]
  simp [go_sem]
  rw [Bool.eq_iff_iff]; simp
theorem sop_neq (ho : o.op = .binOp .neq t x y t' := by rfl) (hx : Opv fr x (.lit (.int k a)) := by exact opv_std) (hy : Opv fr y (.lit (.int k b)) := by exact opv_std) : SOp P o fr H (.lit (.bool (decide (a ≠ b)))) := fun S γ w ρ h => by
  refine outl ?_
  rw [run_bin ho (h.lit hx (by simp [ho, Op.operands])) (h.lit hy (by simp [ho, Op.operands])) (by simp) (by simp)]
  simp [go_sem]
  rw [Bool.eq_iff_iff]; simp
theorem sop_eqlb {a b : Bool} (ho : o.op = .binOp .eql t x y t' := by rfl) {s bt : Nat} (hT : TTOk P T := by assumption) (ht : look T t = some ⟨.bool, s, bt⟩ := by rfl) (hx : Opv fr x (.lit (.bool a)) := by exact opv_std) (hy : Opv fr y (.lit (.bool b)) := by exact opv_std) : SOp P o fr H (.lit (.bool (a == b))) := fun S γ w ρ h => by
  have hb : P.underlying t = some .bool := by
    obtain ⟨hk, _⟩ := hT.ok t _ ht
    unfold tkOf at hk
    cases hu : P.underlying t with
    | none => rw [hu] at hk; cases hk
    | some d => rw [hu] at hk; cases d <;> first | rfl | exact absurd hk (by simp)
  refine outl ?_
  rw [run_bin ho (h.lit hx (by simp [ho, Op.operands])) (h.lit hy (by simp [ho, Op.operands])) (by simp) (by simp)]
  simp [go_sem, hb]
theorem sop_neqb {a b : Bool} (ho : o.op = .binOp .neq t x y t' := by rfl) {s bt : Nat} (hT : TTOk P T := by assumption) (ht : look T t = some ⟨.bool, s, bt⟩ := by rfl) (hx : Opv fr x (.lit (.bool a)) := by exact opv_std) (hy : Opv fr y (.lit (.bool b)) := by exact opv_std) : SOp P o fr H (.lit (.bool (a != b))) := fun S γ w ρ h => by
  have hb : P.underlying t = some .bool := by
    obtain ⟨hk, _⟩ := hT.ok t _ ht
    unfold tkOf at hk
    cases hu : P.underlying t with
    | none => rw [hu] at hk; cases hk
    | some d => rw [hu] at hk; cases d <;> first | rfl | exact absurd hk (by simp)
  refine outl ?_
  rw [run_bin ho (h.lit hx (by simp [ho, Op.operands])) (h.lit hy (by simp [ho, Op.operands])) (by simp) (by simp)]
  simp [go_sem, hb]
  cases a <;> cases b <;> rfl
theorem sop_not {b : Bool} (ho : o.op = .unOp .not t x := by rfl) (hx : Opv fr x (.lit (.bool b)) := by exact opv_std) : SOp P o fr H (.lit (.bool (!b))) := fun S γ w ρ h => by
  refine outl ?_
  simp [go_sem, ho, h.lit hx (by simp [ho, Op.operands])]
theorem sop_conv (ho : o.op = .convert t t' x := by rfl) {s bt : Nat} {j : IntKind} (hT : TTOk P T := by assumption) (ht : look T t = some ⟨.int j, s, bt⟩ := by rfl) {s' bt' : Nat} (ht' : look T t' = some ⟨.int k, s', bt'⟩ := by rfl) (hx : Opv fr x (.lit (.int j a)) := by exact opv_std) : SOp P o fr H (.lit (.int k (k.wrap a))) := fun S γ w ρ h => by
  refine outl ?_
  simp [go_sem, ho, h.lit hx (by simp [ho, Op.operands]), hT.int ht, hT.int ht']
end
/-- a binary operation on two exact values, by its own run -/
theorem sop_bin {x y : Operand} {t t' : TypeId} {op : BinOp} {u v r : Value} (ho : o.op = .binOp op t x y t' := by rfl) (hx : Opv fr x (.lit u) := by exact opv_std) (hy : Opv fr y (.lit v) := by exact opv_std) (hrun : ∀ w : World, (eqGuard op t x y u v).run P w = .ok () w ∧ (binOp op t u v).run P w = .ok r w := by rfl) : SOp P o fr H (.lit r) := fun S γ w ρ h => by
  refine outl ?_
  simp only [execOp, ho, h.lit hx (by simp [ho, Op.operands]), h.lit hy (by simp [ho, Op.operands]), Sem.run_bind, (hrun w).1, (hrun w).2, Result.andThen_ok, Sem.run_pure]

theorem sop_len_snap {α : Type} {E : Enc α} {xs : List α} {x : Operand} {t e s b : Nat} (ho : o.op = .call { callee := .builtin .len, args := #[x], argTypes := #[t] } := by rfl) (hT : TTOk P T := by assumption) (ht : look T t = some ⟨.slice e, s, b⟩ := by rfl) (hx : Opv fr x (.snap (slF E xs)) := by exact opv_std) : SOp P o fr H (.lit (.int .i64 (xs.length : Int))) := fun S γ w ρ h => by
  have h1 := h.get hx (by simp [ho, Op.operands, Call.operands])
  simp only [AV.holds] at h1
  obtain ⟨A, c, vs, hv, _⟩ := h1
  refine outl ?_
  simp [execOp, ho, resolve, invoke, builtin, Builtin.len_, run_underlying (hT.slice ht), hv, goInt]
theorem sop_len_own {α : Type} {E : Enc α} {xs : List α} {x : Operand} {j e' t e s b : Nat} (ho : o.op = .call { callee := .builtin .len, args := #[x], argTypes := #[t] } := by rfl) (hT : TTOk P T := by assumption) (ht : look T t = some ⟨.slice e, s, b⟩ := by rfl) (hx : Opv fr x (.own j) := by exact opv_std) (hj : look H j = some (.own e' E xs) := by rfl) : SOp P o fr H (.lit (.int .i64 (xs.length : Int))) := fun S γ w ρ h => by
  have h1 := h.get hx (by simp [ho, Op.operands, Call.operands])
  simp only [AV.holds] at h1
  obtain ⟨vs, ho2, _⟩ := h.st.res j _ hj
  obtain ⟨A, c, hv, _⟩ := ho2.row
  rw [← h1] at hv
  refine outl ?_
  simp [execOp, ho, resolve, invoke, builtin, Builtin.len_, run_underlying (hT.slice ht), hv, goInt]
theorem sop_len_lit {x : Operand} {A : Option Addr} {n c t e s b : Nat} (ho : o.op = .call { callee := .builtin .len, args := #[x], argTypes := #[t] } := by rfl) (hT : TTOk P T := by assumption) (ht : look T t = some ⟨.slice e, s, b⟩ := by rfl) (hx : Opv fr x (.lit (.slice A n c)) := by exact opv_std) : SOp P o fr H (.lit (.int .i64 (n : Int))) := fun S γ w ρ h => by
  have h1 := h.lit hx (by simp [ho, Op.operands, Call.operands])
  refine outl ?_
  simp [execOp, ho, resolve, invoke, builtin, Builtin.len_, run_underlying (hT.slice ht), h1, goInt]
theorem sop_len_str {x : Operand} {u : ByteArray} {t s b : Nat} (ho : o.op = .call { callee := .builtin .len, args := #[x], argTypes := #[t] } := by rfl) (hT : TTOk P T := by assumption) (ht : look T t = some ⟨.str, s, b⟩ := by rfl) (hx : Opv fr x (.lit (.string u)) := by exact opv_std) : SOp P o fr H (.lit (.int .i64 (u.size : Int))) := fun S γ w ρ h => by
  have h1 := h.lit hx (by simp [ho, Op.operands, Call.operands])
  refine outl ?_
  simp [execOp, ho, resolve, invoke, builtin, Builtin.len_, run_underlying (hT.str ht), h1, goInt]

theorem addr_add_ne {g off n : Nat} : (⟨g, off, none⟩ : Addr).add n = ⟨g, off + n, none⟩ := by
  unfold Addr.add; split <;> simp_all
theorem sop_field_ptr {x : Operand} {t f j off : Nat} {fs : List (TypeId × Nat)} {s b ft fo : Nat} {fi : TI} (ho : o.op = .fieldAddr t x f := by rfl) (hT : TTOk P T := by assumption) (ht : look T t = some ⟨.struct fs, s, b⟩ := by rfl) (hf : fs[f]? = some (ft, fo) := by rfl) (hft : look T ft = some fi := by rfl) (hz : Nat.beq fi.size 0 = false := by rfl) (hx : Opv fr x (.ptr j off) := by exact opv_std) : SOp P o fr H (.ptr j (off + fo)) := fun S γ w ρ h => by
  have h1 := h.get hx (by simp [ho, Op.operands])
  simp only [AV.holds] at h1
  obtain ⟨g, hg, hv⟩ := h1
  obtain ⟨F, fl, hu, hfl, h3, h4⟩ := hT.field ht hf
  have hz' : ¬ fi.size = 0 := fun e => by simp [e] at hz
  refine outs (v := .pointer (some ⟨g, off + fo, none⟩)) ?_ (by simp only [AV.holds]; exact ⟨g, hg, rfl⟩)
  simp [execOp, ho, Instr.fieldAt, run_underlying hu, hfl, hv, Instr.sureAddr, fieldPlace, h3, h4, hT.size hft, hz', addr_add_ne]
theorem sop_field_place {x : Operand} {t f : Nat} {fs : List (TypeId × Nat)} {s b ft fo : Nat} {fi : TI} {cs : List AV} (ho : o.op = .fieldAddr t x f := by rfl) (hT : TTOk P T := by assumption) (ht : look T t = some ⟨.struct fs, s, b⟩ := by rfl) (hf : fs[f]? = some (ft, fo) := by rfl) (hft : look T ft = some fi := by rfl) (hz : Nat.beq fi.size 0 = false := by rfl) (hx : Opv fr x (.snap (placeF cs)) := by exact opv_std) : SOp P o fr H (.snap (placeF (cs.drop fo))) := fun S γ w ρ h => by
  have h1 := h.get hx (by simp [ho, Op.operands])
  simp only [AV.holds] at h1
  obtain ⟨ad, vs, hv, hr, hh⟩ := h1
  obtain ⟨F, fl, hu, hfl, h3, h4⟩ := hT.field ht hf
  have hz' : ¬ fi.size = 0 := fun e => by simp [e] at hz
  refine outs (v := .pointer (some (ad.add fo))) ?_ ?_
  · simp [execOp, ho, Instr.fieldAt, run_underlying hu, hfl, hv, Instr.sureAddr, fieldPlace, h3, h4, hT.size hft, hz']
  · simp only [AV.holds]
    refine ⟨ad.add fo, vs.drop fo, rfl, ?_, AV.holdsL_drop hh fo⟩
    intro hn
    have hne : vs ≠ [] := by intro e; subst e; simp at hn
    obtain ⟨ad', he, hb, hc⟩ := hr hne
    simp only [Option.some.injEq] at he; subst he
    exact ⟨_, rfl, by rw [addr_block]; exact hb, fun j u hu => by rw [addr_add2]; exact hc _ _ (by simpa using hu)⟩
theorem loadCells_run {ad : Addr} : ∀ (n i : Nat) (acc : Array Value) (vs : List Value), vs.length = n → (∀ j u, vs[j]? = some u → w.cell? (ad.add (i + j)) = some u) → (loadCellsFrom ad i n acc).run P w = .ok (acc ++ vs.toArray) w
  | 0, i, acc, vs, hl, _ => by
    have : vs = [] := List.eq_nil_of_length_eq_zero hl
    subst this; simp [loadCellsFrom]
  | n + 1, i, acc, vs, hl, h => by
    cases vs with
    | nil => simp at hl
    | cons v vs =>
      have h0 := h 0 v rfl
      simp only [Nat.add_zero] at h0
      have := loadCells_run n (i + 1) (acc.push v) vs (by simpa using hl) (fun j u hu => by
        have := h (j + 1) u (by simpa using hu)
        rwa [show i + (j + 1) = i + 1 + j from by omega] at this)
      simp [loadCellsFrom, load, Sem.run, Sem.run_bind, h0, this]
theorem load_run {t : Nat} {ti : TI} {ad : Addr} {vs : List Value} (hT : TTOk P T) (ht : look T t = some ti) (ha : ti.kind.agg = true) (hl : vs.length = ti.size) (hc : ∀ j u, vs[j]? = some u → w.cell? (ad.add j) = some u) : (loadVar t ad).run P w = .ok (.agg vs.toArray) w := by
  have := loadCells_run (P := P) (w := w) (ad := ad) ti.size 0 #[] vs hl (by simpa using hc)
  simp only [loadVar, Sem.run_bind, hT.agg ht, ha, Result.andThen_ok, if_true, hT.size ht, loadCells, this, Sem.run_pure]
  simp
theorem load_run1 {t : Nat} {ti : TI} {ad : Addr} {v : Value} (hT : TTOk P T) (ht : look T t = some ti) (ha : ti.kind.agg = false) (hc : w.cell? ad = some v) : (loadVar t ad).run P w = .ok v w := by
  simp only [loadVar, Sem.run_bind, hT.agg ht, ha, Result.andThen_ok, Bool.false_eq_true, if_false, load, Sem.run, hc]
theorem sop_load_place {x : Operand} {t : Nat} {ti : TI} {c : AV} {cs : List AV} (ho : o.op = .load t x := by rfl) (hT : TTOk P T := by assumption) (ht : look T t = some ti := by rfl) (ha : ti.kind.agg = false := by rfl) (hx : Opv fr x (.snap (placeF (c :: cs))) := by exact opv_std) (hp : c.uses (fun _ => false) = true := by rfl) : SOp P o fr H c := fun S γ w ρ h => by
  have h1 := h.get hx (by simp [ho, Op.operands])
  simp only [AV.holds] at h1
  obtain ⟨ad, vs, hv, hr, hh⟩ := h1
  simp only [AV.holdsL] at hh
  obtain ⟨v, vs', rfl, hc, _⟩ := hh
  obtain ⟨ad', he, hb, hcell⟩ := hr (by simp)
  simp only [Option.some.injEq] at he; subst he
  have h0 := hcell 0 v rfl
  have : ad.add 0 = ad := by simp [Addr.add]
  rw [this] at h0
  refine outs (v := v) ?_ (AV.mono (fun _ h => h) (fun _ _ => rfl) (fun _ => false) (fun _ h => by cases h) c v hp hc)
  simp only [execOp, ho, Instr.loadAt, hv, Instr.sureAddr, Sem.run_bind, Sem.run_pure, Result.andThen_ok, load_run1 hT ht ha h0]
theorem sop_load_place_agg {x : Operand} {t : Nat} {ti : TI} {cs : List AV} (ho : o.op = .load t x := by rfl) (hT : TTOk P T := by assumption) (ht : look T t = some ti := by rfl) (ha : ti.kind.agg = true := by rfl) (hx : Opv fr x (.snap (placeF cs)) := by exact opv_std) (hl : Nat.ble ti.size cs.length = true := by rfl) (hp : AV.usesL (fun _ => false) cs = true := by rfl) : SOp P o fr H (.agg (cs.take ti.size)) := fun S γ w ρ h => by
  have h1 := h.get hx (by simp [ho, Op.operands])
  simp only [AV.holds] at h1
  obtain ⟨ad, vs, hv, hr, hh⟩ := h1
  have hlen := AV.holdsL_len hh
  have hle : ti.size ≤ cs.length := Nat.le_of_ble_eq_true hl
  refine outs (v := .agg (vs.take ti.size).toArray) ?_ ?_
  · simp only [execOp, ho, Instr.loadAt, hv, Instr.sureAddr, Sem.run_bind, Sem.run_pure, Result.andThen_ok]
    rw [load_run hT ht ha (vs := vs.take ti.size) (by rw [List.length_take]; omega)]
    · rfl
    intro j u hu
    have hne : vs ≠ [] := by intro e; subst e; simp at hu
    obtain ⟨ad', he, hb, hcell⟩ := hr hne
    simp only [Option.some.injEq] at he; subst he
    rw [List.getElem?_take] at hu
    split at hu
    · exact hcell j u hu
    · cases hu
  · simp only [AV.holds]
    exact ⟨_, rfl, AV.holdsL_take (plainL hp hh) _⟩
theorem box_cell {j : Nat} {cs : List AV} {g : Nat} (hs : St S γ w H) (hj : look H j = some (.box cs)) (hg : gof (γ j) = some g) : ∃ arr e, w.heap[g]? = some (.cells arr e (0, 0)) ∧ AV.holdsL S γ w cs arr.toList := by
  obtain ⟨g', arr, e, hv, hh, hc⟩ := hs.res j _ hj
  rw [hv] at hg
  simp [gof] at hg; subst hg
  exact ⟨arr, e, hh, hc⟩
theorem sop_load_box {x : Operand} {t j off : Nat} {ti : TI} {cs : List AV} {c : AV} (ho : o.op = .load t x := by rfl) (hT : TTOk P T := by assumption) (ht : look T t = some ti := by rfl) (ha : ti.kind.agg = false := by rfl) (hx : Opv fr x (.ptr j off) := by exact opv_std) (hj : look H j = some (.box cs) := by rfl) (hc : cs[off]? = some c := by rfl) : SOp P o fr H c := fun S γ w ρ h => by
  have h1 := h.get hx (by simp [ho, Op.operands])
  simp only [AV.holds] at h1
  obtain ⟨g, hg, hv⟩ := h1
  obtain ⟨arr, e, hh, hl⟩ := box_cell h.st hj hg
  obtain ⟨v, hv2, hcv⟩ := AV.holdsL_get hl off c hc
  have h0 : w.cell? ⟨g, off, none⟩ = some v := by
    rw [cell_of_row w g off _ _ _ hh]; simpa using hv2
  refine outs (v := v) ?_ hcv
  simp only [execOp, ho, Instr.loadAt, hv, Instr.sureAddr, Sem.run_bind, Sem.run_pure, Result.andThen_ok, load_run1 hT ht ha h0]
theorem sop_load_box_agg {x : Operand} {t j off : Nat} {ti : TI} {cs : List AV} (ho : o.op = .load t x := by rfl) (hT : TTOk P T := by assumption) (ht : look T t = some ti := by rfl) (ha : ti.kind.agg = true := by rfl) (hx : Opv fr x (.ptr j off) := by exact opv_std) (hj : look H j = some (.box cs) := by rfl) (hl : Nat.ble (off + ti.size) cs.length = true := by rfl) : SOp P o fr H (.agg ((cs.drop off).take ti.size)) := fun S γ w ρ h => by
  have h1 := h.get hx (by simp [ho, Op.operands])
  simp only [AV.holds] at h1
  obtain ⟨g, hg, hv⟩ := h1
  obtain ⟨arr, e, hh, hL⟩ := box_cell h.st hj hg
  have hlen := AV.holdsL_len hL
  have hle : off + ti.size ≤ cs.length := Nat.le_of_ble_eq_true hl
  refine outs (v := .agg ((arr.toList.drop off).take ti.size).toArray) ?_ ?_
  · simp only [execOp, ho, Instr.loadAt, hv, Instr.sureAddr, Sem.run_bind, Sem.run_pure, Result.andThen_ok]
    rw [load_run hT ht ha (vs := (arr.toList.drop off).take ti.size) (by rw [List.length_take, List.length_drop]; omega)]
    · rfl
    intro j u hu
    rw [addr_add_ne, cell_of_row w g _ _ _ _ hh]
    rw [List.getElem?_take] at hu
    split at hu
    · simpa using hu
    · cases hu
  · simp only [AV.holds]
    exact ⟨_, rfl, AV.holdsL_take (AV.holdsL_drop hL off) _⟩
def nth {α : Type} [Inhabited α] (xs : List α) (k : Nat) : α := xs.getD k default
theorem nth_eq {α : Type} [Inhabited α] {xs : List α} {k : Nat} (h : k < xs.length) : nth xs k = xs[k] := by
  unfold nth; simp [h]
theorem sl_at {α : Type} [Inhabited α] {E : Enc α} {xs : List α} {v : Value} (hv : (slF E xs).holds S w v) {k : Nat} (hk : k < xs.length) (hE : Nat.blt 0 E.size = true) : ∃ A c, v = .slice (some A) xs.length c ∧ xs.length ≤ c ∧ (placeF (E.cells (nth xs k))).holds S w (.pointer (some (A.add (k * E.size)))) := by
  obtain ⟨A, c, vs, rfl, hc, hr, hh, h1⟩ := hv
  have hE' : 0 < E.size := Nat.lt_of_lt_of_le Nat.zero_lt_one (Nat.le_of_ble_eq_true hE)
  have hlen := AV.holdsL_len hh
  rw [Enc.all_len] at hlen
  have hpos : k * E.size + E.size ≤ xs.length * E.size := by
    have := Nat.mul_le_mul_right E.size (show k + 1 ≤ xs.length from hk)
    rwa [Nat.add_mul, Nat.one_mul] at this
  obtain ⟨ad, rfl, hb, hcell⟩ := hr (by intro e; subst e; simp at hlen; omega)
  refine ⟨ad, c, rfl, hc, ad.add (k * E.size), (vs.drop (k * E.size)).take E.size, rfl, ?_, ?_⟩
  · intro _
    refine ⟨_, rfl, by rw [addr_block]; exact hb, fun j u hu => ?_⟩
    rw [addr_add2]
    apply hcell
    rw [List.getElem?_take] at hu
    split at hu
    · simpa using hu
    · cases hu
  · have := AV.holdsL_drop hh (k * E.size)
    rw [Enc.all_at E xs k hk] at this
    have := (AV.holdsL_split this).1
    rw [E.len] at this
    rw [nth_eq hk]; exact this
theorem sop_index_snap {α : Type} [Inhabited α] {E : Enc α} {xs : List α} {x y : Operand} {t e s b k : Nat} {ei : TI} {n : Int} {kd : IntKind} (ho : o.op = .indexAddr t x y := by rfl) (hT : TTOk P T := by assumption) (ht : look T t = some ⟨.slice e, s, b⟩ := by rfl) (he : look T e = some ei := by rfl)
    (hx : Opv fr x (.snap (slF E xs)) := by exact opv_std) (hy : Opv fr y (.lit (.int kd n)) := by exact opv_std) (hn : n = (k : Int) := by first | rfl | omega) (hk : k < xs.length := by first | omega | (simp only [List.length_append, List.length_cons, List.length_nil, List.length_take, List.length_drop, List.length_replicate, List.length_map, List.length_set]; omega)) (hs : ei.size = E.size := by rfl) (hE : Nat.blt 0 E.size = true := by rfl) : SOp P o fr H (.snap (placeF (E.cells (nth xs k)))) := fun S γ w ρ h => by
  have h1 := h.get hx (by simp [ho, Op.operands])
  have h2 := h.lit hy (by simp [ho, Op.operands])
  simp only [AV.holds] at h1
  obtain ⟨A, c, hv, hc, hp⟩ := sl_at h1 hk hE
  refine outs (v := .pointer (some (A.add (k * E.size)))) ?_ (by simp only [AV.holds]; exact hp)
  subst hn
  simp [execOp, ho, Instr.indexAt, hv, h2, asIntOf, run_underlying (hT.slice ht), hk, hT.size he, hs]
theorem sop_extract {x : Operand} {i : Nat} {cs : List AV} {c : AV} (ho : o.op = .extract x i := by rfl) (hx : Opv fr x (.tup cs) := by exact opv_std) (hc : cs[i]? = some c := by rfl) : SOp P o fr H c := fun S γ w ρ h => by
  have h1 := h.get hx (by simp [ho, Op.operands])
  simp only [AV.holds] at h1
  obtain ⟨vs, hv, hl⟩ := h1
  obtain ⟨v, hv2, hcv⟩ := AV.holdsL_get hl i c hc
  refine outs (v := v) ?_ hcv
  simp [execOp, ho, Instr.extract, hv, hv2]
theorem sop_slice_snap {α : Type} {E : Enc α} {xs : List α} {x : Operand} {lo hi : Option Operand} {t e s b a c : Nat} {ei : TI} (ho : o.op = .slice t x lo hi none := by rfl) (hT : TTOk P T := by assumption) (ht : look T t = some ⟨.slice e, s, b⟩ := by rfl) (he : look T e = some ei := by rfl)
    (hx : Opv fr x (.snap (slF E xs)) := by exact opv_std) (hlo : match lo with | none => a = 0 | some y => Opv fr y (.lit (.int .i64 a)) := by first | rfl | (first | exact .un rfl (by first | assumption | exact And.left (by assumption) | exact And.left (And.left (by assumption)) | exact And.left (And.left (And.left (by assumption)))) | exact .of rfl)) (hhi : match hi with | none => c = xs.length | some y => Opv fr y (.lit (.int .i64 c)) := by first | rfl | (first | exact .un rfl (by first | assumption | exact And.left (by assumption) | exact And.left (And.left (by assumption)) | exact And.left (And.left (And.left (by assumption)))) | exact .of rfl)) (hac : a ≤ c := by first | omega | (simp only [List.length_append, List.length_cons, List.length_nil, List.length_take, List.length_drop, List.length_replicate, List.length_map, List.length_set]; omega)) (hcl : c ≤ xs.length := by first | omega | (simp only [List.length_append, List.length_cons, List.length_nil, List.length_take, List.length_drop, List.length_replicate, List.length_map, List.length_set]; omega)) (hs : ei.size = E.size := by rfl) :
    SOp P o fr H (.snap (slF E ((xs.drop a).take (c - a)))) := fun S γ w ρ h => by
  have h1 := h.get hx (by simp [ho, Op.operands])
  simp only [AV.holds] at h1
  obtain ⟨A, cp, vs, hv, hc, hr, hh, ho1⟩ := h1
  have hrun : (execOp ρ o).run P w = .ok (.value (.slice (if cp = a then A else A.map (·.add (a * E.size))) (c - a) (cp - a))) w := by
    have e2 : c ≤ cp := by omega
    cases lo with
    | none =>
      simp only at hlo
      subst hlo
      cases hi with
      | none =>
        simp only at hhi
        subst hhi
        simp [execOp, ho, hv, Instr.sliceAt, Instr.slice, run_underlying (hT.slice ht), Instr.sliceBounds, hT.size he, hs]
      | some y =>
        have hy := h.lit hhi (by simp [ho, Op.operands])
        simp [execOp, ho, hv, Instr.sliceAt, Instr.slice, run_underlying (hT.slice ht), Instr.sliceBounds, Instr.sliceBound, asIntOf, hy, hT.size he, hs, e2]
    | some z =>
      have hz := h.lit hlo (by simp [ho, Op.operands])
      cases hi with
      | none =>
        simp only at hhi
        subst hhi
        simp [execOp, ho, hv, Instr.sliceAt, Instr.slice, run_underlying (hT.slice ht), Instr.sliceBounds, Instr.sliceBound, asIntOf, hz, hT.size he, hs, hac]
      | some y =>
        have hy := h.lit hhi (by simp [ho, Op.operands])
        simp [execOp, ho, hv, Instr.sliceAt, Instr.slice, run_underlying (hT.slice ht), Instr.sliceBounds, Instr.sliceBound, asIntOf, hy, hz, hT.size he, hs, e2, hac]
  have hlen : ((xs.drop a).take (c - a)).length = c - a := by simp; omega
  refine outs hrun ?_
  simp only [AV.holds]
  refine ⟨_, cp - a, (vs.drop (a * E.size)).take ((c - a) * E.size), by rw [hlen], by rw [hlen]; omega, ?_, ?_, fun u hu => ho1 u (List.mem_of_mem_drop (List.mem_of_mem_take hu))⟩
  · intro hne
    have hne2 : vs ≠ [] := by intro e; subst e; simp at hne
    have hca : ¬ cp = a := by
      intro e
      apply hne
      have : c - a = 0 := by omega
      simp [this]
    obtain ⟨ad, rfl, hb, hcell⟩ := hr hne2
    rw [if_neg hca]
    refine ⟨_, rfl, by rw [addr_block]; exact hb, fun j u hu => ?_⟩
    rw [addr_add2]
    apply hcell
    rw [List.getElem?_take] at hu
    split at hu
    · simpa using hu
    · cases hu
  · have := AV.holdsL_take (AV.holdsL_drop hh (a * E.size)) ((c - a) * E.size)
    rwa [Enc.all_drop, Enc.all_take] at this
end
end Go.Proofs.YtgdkeafdlehlaaaDoor

/- Regions by facts once more: an operation whose guard was skipped itself is skipped. Nothing of the program stands here. -/
namespace Go.Proofs.YtgdkeafdlehlaaaDoor
open Go Go.RowKit
set_option linter.unusedVariables false
/-- one operation does what its fact says -/
def OpOk2 (G : World → World → Prop) (P : Program) (ops : Array Oper) (a0 : Act) (w0 : World) (F : Nat → Value → World → Prop) (i : Nat) (o : Oper) : Prop :=
  ∀ (ρ : Operand → Value) (w : World), G w0 w → Known ops a0 F o ρ w → (∀ g, ρ (.global g) = .pointer (some ⟨g, 0, none⟩)) →
    match o.guard with
    | none => Outcome P (fun v w' => G w w' ∧ F i v w') ((execOp ρ o).run P w)
    | some (j, want) => ∃ d, dstOf ops j = some d ∧ (ρ (.tmp d) = .bool want → Outcome P (fun v w' => G w w' ∧ F i v w') ((execOp ρ o).run P w)) ∧ (ρ (.tmp d) ≠ .bool want → F i undef w)
def FactsOk2 (G : World → World → Prop) (P : Program) (ops : Array Oper) (a0 : Act) (w0 : World) (F : Nat → Value → World → Prop) : Nat → List Oper → Prop
  | _, [] => True
  | i, o :: rest => OpOk2 G P ops a0 w0 F i o ∧ FactsOk2 G P ops a0 w0 F (i + 1) rest
theorem FactsOk2.get {G : World → World → Prop} {P : Program} {ops : Array Oper} {a0 : Act} {w0 : World} {F : Nat → Value → World → Prop} : ∀ {l : List Oper} {k : Nat}, FactsOk2 G P ops a0 w0 F k l →
    ∀ i o, l[i]? = some o → OpOk2 G P ops a0 w0 F (k + i) o
  | [], _, _, i, o, h => by simp at h
  | x :: l, k, hf, 0, o, h => by
    simp at h; subst h; exact hf.1
  | x :: l, k, hf, i + 1, o, h => by
    have := FactsOk2.get hf.2 i o (by simpa using h)
    rwa [show k + 1 + i = k + (i + 1) from by omega] at this
theorem factsOk2_of {G : World → World → Prop} {P : Program} {ops : Array Oper} {a0 : Act} {w0 : World} {F : Nat → Value → World → Prop} : ∀ {l : List Oper} {k : Nat},
    (∀ i o, l[i]? = some o → OpOk2 G P ops a0 w0 F (k + i) o) → FactsOk2 G P ops a0 w0 F k l
  | [], _, _ => trivial
  | x :: l, k, h => ⟨h 0 x rfl, factsOk2_of fun i o ho => by
    have := h (i + 1) o (by simpa using ho)
    rwa [show k + (i + 1) = k + 1 + i from by omega] at this⟩
section
variable {P : Program} {ops : Array Oper} {a0 : Act} {w0 : World} {F : Nat → Value → World → Prop} {Q : Exit → Act → World → Prop} {n : Nat} {G : World → World → Prop}
theorem facts_any2 (hG : PreG G) (hc : regOk ops n = true) (hn : n = a0.tmps.size) (hmono : ∀ i v w w', F i v w → G w w' → F i v w') (hop : FactsOk2 G P ops a0 w0 F 0 ops.toList)
    (hend : ∀ a w, RInv G ops a0 w0 F (Array.replicate ops.size true) a w → Q .normal a w) :
    ∀ (fuel : Nat) (listed : Array Bool) (a : Act) (w : World), listed.size = ops.size → (listed.toList.countP (fun b => !b)) ≤ fuel → RInv G ops a0 w0 F listed a w → wpAny P .any ops Q fuel listed a w := by
  have fin : ∀ (listed : Array Bool) (a : Act) (w : World), listed.size = ops.size → RInv G ops a0 w0 F listed a w → Region.ready .any ops listed = [] → Q .normal a w := by
    intro listed a w hs h hr
    have hall := all_listed hc hs hr
    refine hend a w ⟨h.ext, h.size, h.defers, h.out, fun i d _ hd => h.facts i d (hall i ?_) hd⟩
    unfold dstOf at hd
    cases ho : ops[i]? with
    | none => simp [ho] at hd
    | some o => exact (Array.getElem?_eq_some_iff.1 ho).1
  intro fuel
  induction fuel with
  | zero =>
    intro listed a w hs hf h
    have hr : Region.ready .any ops listed = [] := by
      rw [List.eq_nil_iff_forall_not_mem]
      intro i hi
      obtain ⟨o, ho, hl, _⟩ := (ready_iff hs).1 hi
      have hlt : i < listed.size := by rw [hs]; exact (Array.getElem?_eq_some_iff.1 ho).1
      have h0 : listed.toList.countP (fun b => !b) = 0 := by omega
      rw [List.countP_eq_zero] at h0
      have := h0 listed[i] (by simp)
      simp only [Array.getD_eq_getD_getElem?, Array.getElem?_eq_getElem hlt, Option.getD_some] at hl
      simp [hl] at this
    exact ⟨hr, fin listed a w hs h hr⟩
  | succ fuel ih =>
    intro listed a w hs hf h
    refine ⟨fin listed a w hs h, ?_⟩
    intro i hi
    obtain ⟨o, ho, hl, hneed⟩ := (ready_iff hs).1 hi
    have hlt : i < listed.size := by rw [hs]; exact (Array.getElem?_eq_some_iff.1 ho).1
    have hcount : (listed.setIfInBounds i true).toList.countP (fun b => !b) ≤ fuel := by
      simp only [Array.getD_eq_getD_getElem?, Array.getElem?_eq_getElem hlt, Option.getD_some] at hl
      have hl' : listed.toList[i] = false := by simpa using hl
      have hlt' : i < listed.toList.length := by simpa using hlt
      have e1 : (listed.setIfInBounds i true).toList = listed.toList.set i true := by simp
      rw [e1]
      have := List.countP_set (p := fun b => !b) (l := listed.toList) (i := i) (a := true) hlt'
      have hpos : 0 < listed.toList.countP (fun b => !b) := List.countP_pos_iff.2 ⟨listed.toList[i], List.getElem_mem _, by rw [hl']; rfl⟩
      rw [this, hl']
      simp only [Bool.not_false, Bool.not_true, if_true, Bool.false_eq_true, if_false]
      omega
    have hk := known_of hc h hneed
    have hop' := hop.get i o (by simpa using ho)
    rw [Nat.zero_add] at hop'
    have hok := hop' a.eval w h.ext hk (fun _ => rfl)
    have next : ∀ (v : Value) (w' : World), G w w' → F i v w' → wpAny P .any ops Q fuel (listed.setIfInBounds i true) (a.put o.dst v) w' := fun v w' hx hv =>
      ih _ _ _ (by simpa using hs) hcount (rinv_step hG hc hn hmono hs h ho hx hv)
    unfold wpOp
    simp only [ho]
    have run : Outcome P (fun v w' => G w w' ∧ F i v w') ((execOp a.eval o).run P w) → o.wp P a w (wpAny P .any ops Q fuel (listed.setIfInBounds i true)) Q := fun hr =>
      Outcome.upon (hr.mono fun v w' ⟨hx, hv⟩ => next v w' hx hv)
    cases hg : o.guard with
    | none =>
      simp only [hg] at hok
      rw [if_pos (by simp [Region.wanted, hg])]
      exact .inl (run hok)
    | some jb =>
      obtain ⟨j, want⟩ := jb
      simp only [hg] at hok
      obtain ⟨d, hd, hyes, hno⟩ := hok
      have hd' : ((ops[j]?).bind (·.dst)) = some d := hd
      by_cases hb : a.eval (.tmp d) = .bool want
      · have hy : yielded ops a.tmps j = some want := by
          unfold yielded
          rw [hd']
          simp only [Act.eval, Array.getD_eq_getD_getElem?] at hb
          cases ht : a.tmps[d]? with
          | none => simp [ht, undef] at hb
          | some v =>
            simp only [ht, Option.getD_some] at hb
            subst hb
            simp [ht]
        rw [if_pos (by simp [Region.wanted, hg, hy])]
        exact .inl (run (hyes hb))
      · have hy : yielded ops a.tmps j ≠ some want := by
          unfold yielded
          rw [hd']
          intro he
          apply hb
          simp only [Act.eval, Array.getD_eq_getD_getElem?]
          cases ht : a.tmps[d]? with
          | none => simp [ht] at he
          | some v =>
            simp only [Option.getD_some]
            cases v <;> simp_all
        rw [if_neg (by simp [Region.wanted, hg, hy])]
        exact next _ _ (hG.refl w) (hno hb)

theorem wp_region_facts2 {id : Nat} (hG : PreG G) (hm : P.follows .mixedOrders = true) (hn : n = a0.tmps.size) (hc : regOk ops n = true) (hmono : ∀ i v w w', F i v w → G w w' → F i v w')
    (hop : FactsOk2 G P ops a0 w0 F 0 ops.toList)
    (hend : ∀ (vs : Nat → Value) (w : World), G w0 w → (∀ i d, dstOf ops i = some d → F i (vs i) w) → Q .normal ⟨fill vs ops.toList 0 a0.tmps, a0.defers⟩ w) :
    (Code.region id ops true).wp P Q a0 w0 := by
  refine wp_region_any hm ?_
  refine facts_any2 (w0 := w0) hG hc hn hmono hop ?_ ops.size _ a0 _ (by simp) (by have := List.countP_le_length (p := fun b : Bool => !b) (l := List.replicate ops.size false); simpa using this) ?_
  · intro a w h
    have hfacts : ∀ i d, dstOf ops i = some d → F i (a.tmps.getD d undef) w := fun i d hd => h.facts i d (by
      unfold dstOf at hd
      cases ho : ops[i]? with
      | none => simp [ho] at hd
      | some o =>
        have := (Array.getElem?_eq_some_iff.1 ho).1
        simp [Array.getD_eq_getD_getElem?, this]) hd
    have hq := hend (fun i => match dstOf ops i with | some d => a.tmps.getD d undef | none => undef) w h.ext (fun i d hd => by simpa [hd] using hfacts i d hd)
    have ha : a = ⟨fill (fun i => match dstOf ops i with | some d => a.tmps.getD d undef | none => undef) ops.toList 0 a0.tmps, a0.defers⟩ := by
      cases a with
      | mk tmps defers =>
        have hd := h.defers
        simp only at hd
        subst hd
        congr 1
        apply Array.ext'
        apply List.ext_getElem?
        intro t
        simp only [Array.getElem?_toList]
        by_cases ht : outside ops t = true
        · rw [fill_out]
          · exact h.out t ht
          · intro o ho e
            unfold outside at ht
            have := Array.all_eq_true'.1 ht o (by simpa using ho)
            simp [e] at this
        · have hex : ∃ o ∈ ops, o.dst = some t := by
            unfold outside at ht
            rw [Array.all_eq_true'] at ht
            simpa using ht
          obtain ⟨o, ho, hd⟩ := hex
          obtain ⟨i, hi, rfl⟩ := Array.getElem_of_mem ho
          have hoi := Array.getElem?_eq_getElem hi
          have hdi : dstOf ops i = some t := by unfold dstOf; rw [hoi]; exact hd
          obtain ⟨⟨d', hd', hlt⟩, _, _⟩ := op_check hc hoi
          have hte : t = d' := by
            have := hd.symm.trans hd'
            injection this
          have hlt2 : t < a0.tmps.size := by rw [← hn, hte]; exact hlt
          rw [fill_in _ ops.toList 0 a0.tmps i ops[i] t (by simp) hd hlt2 (fun j o' hj hd2 => dst_unique hc (by unfold dstOf; rw [show ops[j]? = some o' from by simpa using hj]; exact hd2) hdi)]
          rw [Nat.zero_add, hdi]
          have hsz := h.size
          simp only at hsz
          simp only [Array.getD_eq_getD_getElem?]
          rw [Array.getElem?_eq_getElem (show t < tmps.size from by rw [hsz]; exact hlt2)]
          rfl
    rw [ha]
    exact hq
  · exact ⟨hG.drew _, rfl, rfl, fun _ _ => rfl, fun i d hi _ => by
      simp only [Array.getD_eq_getD_getElem?, Array.getElem?_replicate] at hi
      split at hi <;> simp at hi⟩

theorem wp_region_lit_facts2 {id : Nat} {l : List Oper} {tmps : Array Value} {defers : List Deferred} (hG : PreG G) (hm : P.follows .mixedOrders = true) (hc : regOk l.toArray tmps.size = true) (hmono : ∀ i v w w', F i v w → G w w' → F i v w')
    (hop : FactsOk2 G P l.toArray ⟨tmps, defers⟩ w0 F 0 l)
    (hend : ∀ (vs : Nat → Value) (w : World), G w0 w → (∀ i d, dstOf l.toArray i = some d → F i (vs i) w) → Q .normal ⟨fill vs l 0 tmps, defers⟩ w) :
    (Code.region id l.toArray true).wp P Q ⟨tmps, defers⟩ w0 :=
  wp_region_facts2 hG hm rfl hc hmono (by simpa using hop) (fun vs w hx hf => by simpa using hend vs w hx hf)
end
end Go.Proofs.YtgdkeafdlehlaaaDoor

/- Code over abstract frames: sequences, tests, blocks, loops, regions; calls by contract. Nothing of the program stands here. -/
namespace Go.Proofs.YtgdkeafdlehlaaaDoor
open Go Go.RowKit
set_option linter.unusedVariables false

def AQ := Exit → List (Nat × AV) → List (Nat × Res) → Prop
def lift (c : Ctx) (n : Nat) (Q : AQ) : Exit → Act → World → Prop := fun e a w => ∃ fr H S γ, Q e fr H ∧ Rel c n fr H S γ a.tmps w ∧ a.defers = []
def ACode (P : Program) (c : Ctx) (n : Nat) (code : Code) (Q : AQ) (fr : List (Nat × AV)) (H : List (Nat × Res)) : Prop :=
  ∀ S γ tmps w, Rel c n fr H S γ tmps w → code.wp P (lift c n Q) ⟨tmps, []⟩ w
def AOps (P : Program) (c : Ctx) (n : Nat) (ops : Array Oper) (rest : List Oper) (Q : AQ) (fr : List (Nat × AV)) (H : List (Nat × Res)) : Prop :=
  ∀ S γ tmps w, Rel c n fr H S γ tmps w → wpList P ops (lift c n Q) rest ⟨tmps, []⟩ w

section
variable {P : Program} {c : Ctx} {n : Nat} {Q : AQ} {fr : List (Nat × AV)} {H : List (Nat × Res)}
def AThen (next : List (Nat × AV) → List (Nat × Res) → Prop) (Q : AQ) : AQ
  | .normal, fr, H => next fr H
  | .exit id, fr, H => Q (.exit id) fr H
  | .goto l, fr, H => Q (.goto l) fr H
  | .ret, fr, H => Q .ret fr H
  | .panic _, _, _ => False
  | .outgrown, _, _ => False
def ABlock (id : Nat) (Q : AQ) : AQ
  | .normal, fr, H => Q .normal fr H
  | .exit i, fr, H => match Nat.beq i id with
    | true => Q .normal fr H
    | false => Q (.exit i) fr H
  | .goto l, fr, H => Q (.goto l) fr H
  | .ret, fr, H => Q .ret fr H
  | .panic _, _, _ => False
  | .outgrown, _, _ => False
theorem at_normal {next : List (Nat × AV) → List (Nat × Res) → Prop} (h : next fr H) : AThen next Q .normal fr H := h
theorem at_exit {next : List (Nat × AV) → List (Nat × Res) → Prop} {id : Nat} (h : Q (.exit id) fr H) : AThen next Q (.exit id) fr H := h
theorem at_ret {next : List (Nat × AV) → List (Nat × Res) → Prop} (h : Q .ret fr H) : AThen next Q .ret fr H := h
theorem ab_normal {id : Nat} (h : Q .normal fr H) : ABlock id Q .normal fr H := h
theorem ab_ret {id : Nat} (h : Q .ret fr H) : ABlock id Q .ret fr H := h
theorem ab_same {id : Nat} (h : Q .normal fr H) : ABlock id Q (.exit id) fr H := by
  show (match Nat.beq id id with | true => Q .normal fr H | false => Q (.exit id) fr H)
  rw [Nat.beq_refl]; exact h
theorem ab_other {i id : Nat} (hne : Nat.beq i id = false) (h : Q (.exit i) fr H) : ABlock id Q (.exit i) fr H := by
  show (match Nat.beq i id with | true => Q .normal fr H | false => Q (.exit i) fr H)
  rw [hne]; exact h
theorem a_seq {x y : Code} (h : ACode P c n x (AThen (ACode P c n y Q) Q) fr H) : ACode P c n (.seq x y) Q fr H := fun S γ tmps w hr => by
  refine wp_seq (wp_mono (h S γ tmps w hr) ?_)
  rintro e ⟨t, d⟩ w' ⟨fr', H', S', γ', hq, hr', rfl⟩
  cases e with
  | normal => exact hq S' γ' t w' hr'
  | panic _ => exact hq.elim
  | outgrown => exact hq.elim
  | _ => exact ⟨fr', H', S', γ', hq, hr', rfl⟩
theorem a_block {id : Nat} {x : Code} (h : ACode P c n x (ABlock id Q) fr H) : ACode P c n (.block id x) Q fr H := fun S γ tmps w hr => by
  refine wp_block (wp_mono (h S γ tmps w hr) ?_)
  rintro e ⟨t, d⟩ w' ⟨fr', H', S', γ', hq, hr', rfl⟩
  cases e with
  | exit i =>
    by_cases hi : i = id
    · subst hi
      simp only [Exit.inBlock, if_true]
      refine ⟨fr', H', S', γ', ?_, hr', rfl⟩
      simpa [ABlock] using hq
    · simp only [Exit.inBlock, if_neg hi]
      refine ⟨fr', H', S', γ', ?_, hr', rfl⟩
      have : Nat.beq i id = false := by
        cases hb : Nat.beq i id with
        | false => rfl
        | true => exact absurd (Nat.eq_of_beq_eq_true hb) hi
      simpa [ABlock, this] using hq
  | panic _ => exact hq.elim
  | outgrown => exact hq.elim
  | _ => exact ⟨fr', H', S', γ', hq, hr', rfl⟩
theorem a_skip (h : Q .normal fr H) : ACode P c n .skip Q fr H := fun S γ tmps w hr => wp_skip ⟨fr, H, S, γ, h, hr, rfl⟩
theorem a_label {l : Nat} (h : Q .normal fr H) : ACode P c n (.label l) Q fr H := fun S γ tmps w hr => wp_label ⟨fr, H, S, γ, h, hr, rfl⟩
theorem a_exit {id : Nat} (h : Q (.exit id) fr H) : ACode P c n (.exit id) Q fr H := fun S γ tmps w hr => wp_exit ⟨fr, H, S, γ, h, hr, rfl⟩
theorem a_ret (h : Q .ret fr H) : ACode P c n .ret Q fr H := fun S γ tmps w hr => wp_ret ⟨fr, H, S, γ, h, hr, rfl⟩
def AScope (Q : AQ) : AQ
  | .goto _, _, _ => False
  | e, fr, H => Q e fr H
theorem a_scope {x : Code} (h : ACode P c n x (AScope Q) fr H) : ACode P c n (.scope x) Q fr H := fun S γ tmps w hr => by
  refine wp_scope_straight (wp_mono (h S γ tmps w hr) ?_)
  rintro e ⟨t, d⟩ w' ⟨fr', H', S', γ', hq, hr', rfl⟩
  cases e with
  | goto l => exact hq.elim
  | _ => exact ⟨fr', H', S', γ', hq, hr', rfl⟩
theorem a_cond {t : Tmp} {x y : Code} {b : Bool} (hc : look fr t = some (.lit (.bool b))) (ht : b = true → ACode P c n x Q fr H) (hf : b = false → ACode P c n y Q fr H) : ACode P c n (.cond (.tmp t) x y) Q fr H := fun S γ tmps w hr => by
  have h1 := hr.fr t _ hc
  simp only [AV.holds] at h1
  exact wp_cond_split (t := b) h1 (fun e => ht e S γ tmps w hr) (fun e => hf e S γ tmps w hr)
theorem a_condc {x y : Code} {b : Bool} (ht : b = true → ACode P c n x Q fr H) (hf : b = false → ACode P c n y Q fr H) : ACode P c n (.cond (.const (.bool b)) x y) Q fr H := fun S γ tmps w hr =>
  wp_cond_split (t := b) rfl (fun e => ht e S γ tmps w hr) (fun e => hf e S γ tmps w hr)

/-- the entries of a list, but for those behind another of the same key, are found -/
def CovL.{u} {β : Type u} (f : Nat → Option β) : List Nat → List (Nat × β) → Prop
  | _, [] => True
  | seen, (x, v) :: r => match seen.any (Nat.beq x) with
    | true => CovL f seen r
    | false => f x = some v ∧ CovL f (x :: seen) r
theorem CovL.look.{u} {β : Type u} {f : Nat → Option β} : ∀ {r : List (Nat × β)} {seen : List Nat}, CovL f seen r → ∀ x v, look r x = some v → x ∉ seen → f x = some v
  | [], _, _, x, v, h, _ => by simp [Go.Proofs.YtgdkeafdlehlaaaDoor.look] at h
  | (k, u) :: r, seen, h, x, v, hl, hs => by
    rw [look_cons] at hl
    simp only [CovL] at h
    by_cases hk : k = x
    · subst hk
      rw [if_pos rfl] at hl
      simp only [Option.some.injEq] at hl; subst hl
      cases hb : seen.any (Nat.beq k) with
      | true =>
        exfalso
        rw [List.any_eq_true] at hb
        obtain ⟨y, hy, he⟩ := hb
        rw [Nat.eq_of_beq_eq_true he] at hs
        exact hs hy
      | false => rw [hb] at h; exact h.1
    · rw [if_neg hk] at hl
      cases hb : seen.any (Nat.beq k) with
      | true => rw [hb] at h; exact CovL.look h x v hl hs
      | false =>
        rw [hb] at h
        exact CovL.look h.2 x v hl (by simp only [List.mem_cons, not_or]; exact ⟨fun e => hk e.symm, hs⟩)
theorem covL_nil.{u} {β : Type u} {f : Nat → Option β} {seen : List Nat} : CovL f seen [] := trivial
theorem covL_cons.{u} {β : Type u} {f : Nat → Option β} {seen : List Nat} {x : Nat} {v : β} {r : List (Nat × β)} (h1 : seen.any (Nat.beq x) = false) (h2 : f x = some v) (h3 : CovL f (x :: seen) r) : CovL f seen ((x, v) :: r) := by
  unfold CovL; rw [h1]; exact ⟨h2, h3⟩
theorem covL_dup.{u} {β : Type u} {f : Nat → Option β} {seen : List Nat} {x : Nat} {v : β} {r : List (Nat × β)} (h1 : seen.any (Nat.beq x) = true) (h3 : CovL f seen r) : CovL f seen ((x, v) :: r) := by
  unfold CovL; rw [h1]; exact h3
theorem cov_int {f : Nat → Option AV} {x : Nat} {k : IntKind} {a b : Int} (h : f x = some (.lit (.int k a))) (e : a = b) : f x = some (.lit (.int k b)) := e ▸ h
theorem cov_bool {f : Nat → Option AV} {x : Nat} {a b : Bool} (h : f x = some (.lit (.bool a))) (e : a = b) : f x = some (.lit (.bool b)) := e ▸ h
theorem cov_own {f : Nat → Option Res} {x : Nat} {e : Nat} {α : Type} {E : Enc α} {a b : List α} (h : f x = some (.own e E a)) (he : a = b) : f x = some (.own e E b) := he ▸ h
theorem cov_slice {f : Nat → Option AV} {x : Nat} {α : Type} {E : Enc α} {a b : List α} (h : f x = some (.snap (slF E a))) (he : a = b) : f x = some (.snap (slF E b)) := he ▸ h
structure Cov (fr' : List (Nat × AV)) (H' : List (Nat × Res)) (fr : List (Nat × AV)) (H : List (Nat × Res)) : Prop where
  fr : CovL (look fr') [] fr
  H : CovL (look H') [] H
theorem Rel.cov {fr' : List (Nat × AV)} {H' : List (Nat × Res)} {S : Nat → Prop} {γ : Nat → Value} {tmps : Array Value} {w : World} (h : Rel c n fr' H' S γ tmps w) (hc : Cov fr' H' fr H) : Rel c n fr H S γ tmps w := by
  have hH : ∀ j r, look H j = some r → look H' j = some r := fun j r hj => hc.H.look j r hj (by simp)
  refine ⟨⟨fun j r hj => h.st.res j r (hH j r hj), fun i j ri rj b hi hj => h.st.dis i j ri rj b (hH i ri hi) (hH j rj hj), fun j r b hj => h.st.live j r b (hH j r hj), h.st.sz, h.st.one⟩, fun x av hx => h.fr x av (hc.fr.look x av hx (by simp)), h.up, fun j r b hj => h.own j r b (hH j r hj), h.ids, h.size, h.keep⟩
theorem a_weaken {code : Code} {fr' : List (Nat × AV)} {H' : List (Nat × Res)} (hc : Cov fr H fr' H') (h : ACode P c n code Q fr' H') : ACode P c n code Q fr H := fun S γ tmps w hr => h S γ tmps w (hr.cov hc)
/-- a loop: what holds at each round's head, over what stands unchanged -/
theorem a_loop {ι : Type} {body : Code} (ov : ι → List (Nat × AV)) (oH : ι → List (Nat × Res)) (good : ι → Prop) (μ : ι → Nat) (i0 : ι) (h0 : good i0) (hc : Cov fr H (ov i0 ++ fr) (oH i0 ++ H))
    (round : ∀ i, good i → ACode P c n body (AThen (fun fr' H' => ∃ i', good i' ∧ μ i' < μ i ∧ Cov fr' H' (ov i' ++ fr) (oH i' ++ H)) Q) (ov i ++ fr) (oH i ++ H)) : ACode P c n (.loop body) Q fr H := fun S γ tmps w hr => by
  refine wp_loop_ghost (fun m a w => ∃ i, μ i = m ∧ good i ∧ ∃ S γ, Rel c n (ov i ++ fr) (oH i ++ H) S γ a.tmps w ∧ a.defers = []) (μ i0) ⟨i0, rfl, h0, S, γ, hr.cov hc, rfl⟩ ?_
  rintro m ⟨t, d⟩ w' ⟨i, rfl, hg, S', γ', hr', rfl⟩
  refine wp_mono (round i hg S' γ' t w' hr') ?_
  rintro e ⟨t2, d2⟩ w2 ⟨fr2, H2, S2, γ2, hq, hr2, rfl⟩
  cases e with
  | normal =>
    obtain ⟨i', hg', hm, hc'⟩ := hq
    exact ⟨μ i', hm, i', rfl, hg', S2, γ2, hr2.cov hc', rfl⟩
  | panic _ => exact hq.elim
  | outgrown => exact hq.elim
  | _ => exact ⟨fr2, H2, S2, γ2, hq, hr2, rfl⟩

/-- what an operation's guard makes of what is known of it -/
inductive OpAv (P : Program) (ops : Array Oper) (fr : List (Nat × AV)) (H : List (Nat × Res)) (o : Oper) : AV → Prop
  | plain {a : AV} (hg : o.guard = none) (h : SOp P o fr H a) : OpAv P ops fr H o a
  | guard {a : AV} {j dj : Nat} {want b : Bool} (hg : o.guard = some (j, want)) (hd : dstOf ops j = some dj) (hl : look fr dj = some (.lit (.bool b))) (h : b = want → SOp P o fr H a) : OpAv P ops fr H o (.when (b = want) a)
  | guardw {a : AV} {j dj : Nat} {want b : Bool} {p : Prop} (hg : o.guard = some (j, want)) (hd : dstOf ops j = some dj) (hl : look fr dj = some (.when p (.lit (.bool b)))) (h : p ∧ b = want → SOp P o fr H a) : OpAv P ops fr H o (.when (p ∧ b = want) a)

theorem freshS_sub {S : Nat → Prop} {w w' : World} : ∀ b, S b → FreshS S w w' b := fun b h => .inl h
theorem same_of_ext {S : Nat → Prop} {w w' : World} (hs : ∀ b, S b → b < w.heap.size) (h : Ext w w') : Same S w w' := fun b hb => h.block b (hs b hb)
theorem St.ext {S : Nat → Prop} {γ : Nat → Value} {w w' : World} (h : St S γ w H) (x : Ext w w') : St (FreshS S w w') γ w' H := by
  have hw := same_of_ext h.sz x
  refine ⟨fun j r hj => ?_, h.dis, fun j r b hj hb hs => ?_, h.sz.to freshS_sub hw fun b hb => ?_, h.one⟩
  · have hr := h.res j r hj
    exact Res.mono freshS_sub hw (fun _ => true) (fun _ _ => rfl) (by cases r <;> simp [Res.uses, AV.usesL_true]) (fun b hb => x.block b (Res.blk_lt hr hb)) hr
  · rcases hs with hs | ⟨h1, h2⟩
    · exact h.live j r b hj hb hs
    · have := Res.blk_lt (h.res j r hj) hb; omega
  · rcases hb with hb | ⟨_, hb⟩
    · have := h.sz b hb; have := x.size; omega
    · exact hb
theorem Rel.ext {S : Nat → Prop} {γ : Nat → Value} {tmps : Array Value} {w w' : World} (h : Rel c n fr H S γ tmps w) (x : Ext w w') : Rel c n fr H (FreshS S w w') γ tmps w' := by
  refine ⟨h.st.ext x, fun y av hy => AV.ext freshS_sub (same_of_ext h.st.sz x) (h.fr y av hy), fun b hb => ?_, h.own, h.ids, h.size, h.keep.trans (Keep.of_ext (L := fun _ => False) x) (fun _ h => h.elim)⟩
  rcases hb with hb | ⟨hb, _⟩
  · exact h.up b hb
  · have := h.keep.size; right; left; omega
theorem getD_set {tmps : Array Value} {d x : Nat} {v : Value} (hd : d < tmps.size) : (tmps.setIfInBounds d v).getD x undef = if d = x then v else tmps.getD x undef := by
  simp only [Array.getD_eq_getD_getElem?, Array.getElem?_setIfInBounds]
  by_cases h : d = x
  · subst h; simp [hd]
  · simp [h]
theorem Rel.put {S : Nat → Prop} {γ : Nat → Value} {tmps : Array Value} {w : World} {d : Nat} {v : Value} {a : AV} (h : Rel c n fr H S γ tmps w) (hd : d < n) (ha : a.holds S γ w v) : Rel c n ((d, a) :: fr) H S γ (tmps.setIfInBounds d v) w := by
  refine ⟨h.st, fun x av hx => ?_, h.up, h.own, h.ids, by simpa using h.size, h.keep⟩
  rw [look_cons] at hx
  rw [getD_set (by rw [h.size]; exact hd)]
  by_cases hk : d = x
  · rw [if_pos hk] at hx ⊢
    simp only [Option.some.injEq] at hx; subst hx
    exact ha
  · rw [if_neg hk] at hx ⊢
    exact h.fr x av hx
theorem Rel.env {S : Nat → Prop} {γ : Nat → Value} {tmps : Array Value} {ds : List Deferred} {w : World} (h : Rel c n fr H S γ tmps w) (use : Operand → Prop) : Env fr H use (Act.eval ⟨tmps, ds⟩) S γ w :=
  ⟨h.st, fun x av _ hx => h.fr x av hx, fun _ => rfl, fun _ => rfl, fun _ => rfl⟩
theorem yields {ops : Array Oper} {tmps : Array Value} {j dj : Nat} (hd : dstOf ops j = some dj) (b : Bool) : (yielded ops tmps j = some b) ↔ tmps.getD dj undef = .bool b := by
  unfold yielded
  have hd' : ((ops[j]?).bind (·.dst)) = some dj := hd
  rw [hd']
  simp only [Array.getD_eq_getD_getElem?]
  cases ht : tmps[dj]? with
  | none => simp [undef, ht]
  | some v => cases v <;> simp [ht]

section
variable {ops : Array Oper} {rest : List Oper} {o : Oper}
theorem ao_nil (h : Q .normal fr H) : AOps P c n ops [] Q fr H := fun S γ tmps w hr => ⟨fr, H, S, γ, h, hr, rfl⟩
/-- an operation that only makes -/
theorem ao_op {d : Nat} {a : AV} (hd : o.dst = some d) (hn : Nat.blt d n = true) (h : OpAv P ops fr H o a) (next : AOps P c n ops rest Q ((d, a) :: fr) H) : AOps P c n ops (o :: rest) Q fr H := fun S γ tmps w hr => by
  have hn' : d < n := Nat.le_of_ble_eq_true hn
  have run : ∀ a' : AV, SOp P o fr H a' → (∀ v w', a'.holds (FreshS S w w') γ w' v → a.holds (FreshS S w w') γ w' v) → o.wp P ⟨tmps, []⟩ w (wpList P ops (lift c n Q) rest) (lift c n Q) := by
    intro a' hs ha
    refine Outcome.upon ((hs S γ w _ (hr.env _)).mono ?_)
    rintro v w' ⟨x, hv⟩
    have hput : (Act.put ⟨tmps, []⟩ o.dst v) = ⟨tmps.setIfInBounds d v, []⟩ := by rw [hd]; rfl
    rw [hput]
    exact next _ γ _ w' ((hr.ext x).put hn' (ha v w' hv))
  have skip : a.holds S γ w undef → wpList P ops (lift c n Q) rest (Act.put ⟨tmps, []⟩ o.dst undef) w := by
    intro ha
    have hput : (Act.put ⟨tmps, []⟩ o.dst undef) = ⟨tmps.setIfInBounds d undef, []⟩ := by rw [hd]; rfl
    rw [hput]
    exact next S γ _ w (hr.put hn' ha)
  unfold wpList
  cases h with
  | plain hg hs =>
    rw [if_pos (by simp [Region.wanted, hg])]
    exact .inl (run _ hs (fun _ _ h => h))
  | @guard a j dj want b hg hdj hl hs =>
    have hb := hr.fr dj _ hl
    simp only [AV.holds] at hb
    have hy := yields (tmps := tmps) hdj want
    by_cases hbw : b = want
    · rw [if_pos (by simp [Region.wanted, hg, hy, hb, hbw])]
      refine .inl (run _ (hs hbw) fun v w' hv => ?_)
      simp only [AV.holds]
      exact ⟨fun _ => hv, fun hn => absurd hbw hn⟩
    · rw [if_neg (by simp [Region.wanted, hg, hy, hb, hbw])]
      refine skip ?_
      simp only [AV.holds]
      exact ⟨fun h => absurd h hbw, fun _ => trivial⟩
  | @guardw a j dj want b p hg hdj hl hs =>
    have hb := hr.fr dj _ hl
    simp only [AV.holds] at hb
    have hy := yields (tmps := tmps) hdj want
    by_cases hbw : p ∧ b = want
    · rw [if_pos (by simp [Region.wanted, hg, hy, hb.1 hbw.1, hbw.2])]
      refine .inl (run _ (hs hbw) fun v w' hv => ?_)
      simp only [AV.holds]
      exact ⟨fun _ => hv, fun hn => absurd hbw hn⟩
    · have hno : ¬ tmps.getD dj undef = .bool want := by
        intro e
        by_cases hp : p
        · have h1 := hb.1 hp
          rw [e] at h1
          simp only [Value.bool.injEq] at h1
          exact hbw ⟨hp, h1.symm⟩
        · have h1 := hb.2 hp
          rw [e] at h1
          simp [undef] at h1
      rw [if_neg (by simp only [Region.wanted, hg]; rw [beq_iff_eq, hy]; exact hno)]
      refine skip ?_
      simp only [AV.holds]
      exact ⟨fun h => absurd h hbw, fun _ => trivial⟩
end
theorem a_region {id : Nat} {l : List Oper} (h : AOps P c n l.toArray l Q fr H) : ACode P c n (.region id l.toArray false) Q fr H := fun S γ tmps w hr => wp_region_lit (h S γ tmps w hr)

/-- the operations of a region one behind the other, each of which only makes -/
inductive Ev (P : Program) (ops : Array Oper) (H : List (Nat × Res)) : List Oper → List (Nat × AV) → List AV → Prop
  | nil {fr : List (Nat × AV)} : Ev P ops H [] fr []
  | cons {fr : List (Nat × AV)} {o : Oper} {rest : List Oper} {d : Nat} {a : AV} {qs0 : List AV} (hd : o.dst = some d) (h : OpAv P ops fr H o a) (next : Ev P ops H rest ((d, a) :: fr) qs0) : Ev P ops H (o :: rest) fr (a :: qs0)
/-- the frame behind operations -/
def frAfter : List Oper → List AV → List (Nat × AV) → List (Nat × AV)
  | o :: rest, a :: qs0, fr => match o.dst with
    | some d => frAfter rest qs0 ((d, a) :: fr)
    | none => frAfter rest qs0 fr
  | _, _, fr => fr
/-- an operation reads what lies outside, or what it must follow -/
def depsOk (ops : Array Oper) : Bool := ops.toList.all fun o => (o.op.operands.toList.all fun | .tmp t => outside ops t || (needs o).any fun j => dstOf ops j == some t | _ => true) && (match o.guard with | some (j, _) => (needs o).contains j | none => true)
end
end Go.Proofs.YtgdkeafdlehlaaaDoor

/- Regions that draw their order, over abstract frames. Nothing of the program stands here. -/
namespace Go.Proofs.YtgdkeafdlehlaaaDoor
open Go Go.RowKit
set_option linter.unusedVariables false
section
variable {P : Program} {c : Ctx} {n : Nat} {Q : AQ} {fr : List (Nat × AV)} {H : List (Nat × Res)} {ops : Array Oper}
theorem Ev.len {l : List Oper} {qs0 : List AV} (h : Ev P ops H l fr qs0) : qs0.length = l.length := by
  induction h with
  | nil => rfl
  | cons _ _ _ ih => simp [ih]
theorem Ev.get {l : List Oper} {qs0 : List AV} (h : Ev P ops H l fr qs0) : ∀ (i : Nat) (o : Oper), l[i]? = some o → ∃ a, qs0[i]? = some a ∧ (∃ d, o.dst = some d) ∧ OpAv P ops (frAfter (l.take i) (qs0.take i) fr) H o a := by
  induction h with
  | nil => intro i o h; simp at h
  | @cons fr o rest d a qs0 hd ha _ ih =>
    intro i o' ho'
    cases i with
    | zero =>
      simp at ho'; subst ho'
      exact ⟨a, rfl, ⟨d, hd⟩, by simpa [frAfter] using ha⟩
    | succ i =>
      obtain ⟨a', h1, h2, h3⟩ := ih i o' (by simpa using ho')
      refine ⟨a', by simpa using h1, h2, ?_⟩
      simpa [frAfter, hd] using h3
theorem frAfter_out {x : Nat} : ∀ (l : List Oper) (qs0 : List AV) (fr : List (Nat × AV)), (∀ o ∈ l, o.dst ≠ some x) → look (frAfter l qs0 fr) x = look fr x
  | [], qs0, fr, _ => by cases qs0 <;> rfl
  | o :: l, [], fr, _ => rfl
  | o :: l, a :: qs0, fr, h => by
    have h0 := h o List.mem_cons_self
    have ht := fun o' ho' => h o' (List.mem_cons_of_mem _ ho')
    cases hd : o.dst with
    | none =>
      simp only [frAfter, hd]
      exact frAfter_out l qs0 fr ht
    | some d =>
      simp only [frAfter, hd]
      rw [frAfter_out l qs0 _ ht, look_cons, if_neg (fun e => h0 (by rw [hd, e]))]
theorem frAfter_in {x : Nat} : ∀ (l : List Oper) (qs0 : List AV) (fr : List (Nat × AV)) (j : Nat) (o : Oper), l[j]? = some o → o.dst = some x → (∀ i o', l[i]? = some o' → o'.dst = some x → i = j) → qs0.length = l.length → look (frAfter l qs0 fr) x = qs0[j]?
  | [], qs0, fr, j, o, h, _, _, _ => by simp at h
  | o0 :: l, [], fr, j, o, _, _, _, hl => by simp at hl
  | o0 :: l, a :: qs0, fr, 0, o, h, hd, hu, hl => by
    simp at h; subst h
    simp only [frAfter, hd]
    rw [frAfter_out]
    · simp [look_cons]
    · intro o' ho' he
      obtain ⟨k, hk⟩ := List.getElem?_of_mem ho'
      have := hu (k + 1) o' (by simpa using hk) he
      omega
  | o0 :: l, a :: qs0, fr, j + 1, o, h, hd, hu, hl => by
    have ih := fun fr => frAfter_in l qs0 fr j o (by simpa using h) hd (fun i o' hi ho' => by
      have := hu (i + 1) o' (by simpa using hi) ho'
      omega) (by simpa using hl)
    cases hd0 : o0.dst with
    | none => simp only [frAfter, hd0]; rw [ih]; simp
    | some d => simp only [frAfter, hd0]; rw [ih]; simp

theorem a_region_ev {id : Nat} {l : List Oper} {qs0 : List AV} (hm : P.follows .mixedOrders = true) (hc : regOk l.toArray n = true) (hdep : depsOk l.toArray = true) (ev : Ev P l.toArray H l fr qs0) (h : Q .normal (frAfter l qs0 fr) H) :
    ACode P c n (.region id l.toArray true) Q fr H := fun S γ tmps w0 hr => by
  have hlen := ev.len
  subst_vars
  have hsz := hr.size
  have huniq : ∀ {i j : Nat} {d : Tmp}, dstOf l.toArray i = some d → dstOf l.toArray j = some d → i = j := fun hi hj => dst_unique hc hi hj
  have hdst : ∀ {i : Nat} {o : Oper}, l[i]? = some o → dstOf l.toArray i = o.dst := fun ho => by unfold dstOf; simp [ho]
  have hlook : ∀ (i : Nat) {j : Nat} {x : Tmp}, dstOf l.toArray j = some x → j < i → look (frAfter (l.take i) (qs0.take i) fr) x = qs0[j]? := by
    intro i j x hj hji
    have hjo : ∃ o, l[j]? = some o ∧ o.dst = some x := by
      unfold dstOf at hj
      cases ho : l[j]? with
      | none => simp [ho] at hj
      | some o => exact ⟨o, rfl, by simpa [ho] using hj⟩
    obtain ⟨o, ho, hd⟩ := hjo
    rw [frAfter_in (l.take i) (qs0.take i) fr j o (by rw [List.getElem?_take, if_pos hji]; exact ho) hd ?_ (by simp [hlen])]
    · rw [List.getElem?_take, if_pos hji]
    · intro k o' hk hd'
      rw [List.getElem?_take] at hk
      split at hk
      · exact huniq ((hdst hk).trans hd') ((hdst ho).trans hd)
      · cases hk
  have hout : ∀ (i : Nat) {x : Tmp}, outside l.toArray x = true → look (frAfter (l.take i) (qs0.take i) fr) x = look fr x := by
    intro i x hx
    apply frAfter_out
    intro o ho he
    unfold outside at hx
    have := Array.all_eq_true'.1 hx o (by simpa using List.mem_of_mem_take ho)
    simp [he] at this
  let F : Nat → Value → World → Prop := fun i v w => w0.heap.size ≤ w.heap.size ∧ ((qs0[i]?).getD .any).holds (FreshS S w0 w) γ w v
  have hsame : ∀ {w w' : World}, w0.heap.size ≤ w.heap.size → Ext w w' → Same (FreshS S w0 w) w w' := by
    intro w w' hle x b hb
    apply x.block
    rcases hb with hb | ⟨_, hb⟩
    · have := hr.st.sz b hb; omega
    · exact hb
  have hsub : ∀ {w w' : World}, Ext w w' → ∀ b, FreshS S w0 w b → FreshS S w0 w' b := by
    intro w w' x b hb
    rcases hb with hb | ⟨h1, h2⟩
    · exact .inl hb
    · exact .inr ⟨h1, Nat.lt_of_lt_of_le h2 x.size⟩
  refine wp_region_lit_facts2 (F := F) preExt hm (by rw [hsz]; exact hc) ?_ (factsOk2_of ?_) ?_
  · rintro i v w w' ⟨hle, hh⟩ x
    exact ⟨Nat.le_trans hle x.size, AV.ext (hsub x) (hsame hle x) hh⟩
  · intro i o ho ρ w hx hk hglob
    rw [Nat.zero_add]
    obtain ⟨a, ha, ⟨d, hd⟩, hoa⟩ := ev.get i o ho
    obtain ⟨_, hneeds, hguard⟩ := op_check hc (i := i) (o := o) (by simpa using ho)
    have hdo : (o.op.operands.toList.all fun | .tmp t => outside l.toArray t || (needs o).any fun j => dstOf l.toArray j == some t | _ => true) = true := by
      unfold depsOk at hdep
      rw [List.all_eq_true] at hdep
      have := hdep o (by simpa using List.mem_of_getElem? ho)
      simp only [Bool.and_eq_true] at this
      exact this.1
    have hF : ∀ {j : Nat} {x : Tmp} {av : AV}, (needs o).contains j = true → dstOf l.toArray j = some x → look (frAfter (l.take i) (qs0.take i) fr) x = some av → av.holds (FreshS S w0 w) γ w (ρ (.tmp x)) := by
      intro j x av hj hjd hl
      have hji := hneeds j (by simpa using hj)
      rw [hlook i hjd hji] at hl
      have := (hk.dep j x hj hjd).2
      rw [hl] at this
      exact this
    have henv : Env (frAfter (l.take i) (qs0.take i) fr) H (fun x => x ∈ o.op.operands) ρ (FreshS S w0 w) γ w := by
      refine ⟨hr.st.ext hx, ?_, hk.const, hk.func, hglob⟩
      intro x av hu hl
      rw [List.all_eq_true] at hdo
      have := hdo (.tmp x) (by simpa using hu)
      simp only [Bool.or_eq_true] at this
      rcases this with ho' | ho'
      · rw [hk.out x ho']
        rw [hout i ho'] at hl
        exact AV.ext freshS_sub (same_of_ext hr.st.sz hx) (hr.fr x av hl)
      · rw [List.any_eq_true] at ho'
        obtain ⟨j, hj, hjd⟩ := ho'
        exact hF (by simpa using hj) (by simpa using hjd) hl
    have run : ∀ a' : AV, SOp P o (frAfter (l.take i) (qs0.take i) fr) H a' → (∀ v w', a'.holds (FreshS S w0 w') γ w' v → a.holds (FreshS S w0 w') γ w' v) → Outcome P (fun v w' => Ext w w' ∧ F i v w') ((execOp ρ o).run P w) := by
      intro a' hs hi
      refine (hs _ γ w ρ henv).mono ?_
      rintro v w' ⟨x, hv⟩
      refine ⟨x, Nat.le_trans hx.size x.size, ?_⟩
      rw [ha]
      refine hi v w' (AV.ext ?_ (fun _ _ => rfl) hv)
      rintro b (hb | ⟨h1, h2⟩)
      · exact hsub x b hb
      · exact .inr ⟨Nat.le_trans hx.size h1, h2⟩
    cases hoa with
    | plain hg hs =>
      simp only [hg]
      exact run _ hs (fun _ _ h => h)
    | @guard a j dj want b hg hdj hl hs =>
      simp only [hg]
      have hb := hF (hguard j want hg) hdj hl
      simp only [AV.holds] at hb
      refine ⟨dj, hdj, fun he => ?_, fun he => ?_⟩
      · have hbw : b = want := by rw [he] at hb; simpa using hb.symm
        refine run _ (hs hbw) fun v w' hv => ?_
        simp only [AV.holds]
        exact ⟨fun _ => hv, fun hn => absurd hbw hn⟩
      · refine ⟨hx.size, ?_⟩
        rw [ha]
        simp only [Option.getD_some, AV.holds]
        refine ⟨fun hbw => absurd (by rw [hb, hbw]) he, fun _ => trivial⟩
    | @guardw a j dj want b p hg hdj hl hs =>
      simp only [hg]
      have hb := hF (hguard j want hg) hdj hl
      simp only [AV.holds] at hb
      refine ⟨dj, hdj, fun he => ?_, fun he => ?_⟩
      · have hbw : p ∧ b = want := by
          by_cases hp : p
          · have h1 := hb.1 hp
            rw [he] at h1
            exact ⟨hp, by simpa using h1.symm⟩
          · have h1 := hb.2 hp
            rw [he] at h1
            simp [undef] at h1
        refine run _ (hs hbw) fun v w' hv => ?_
        simp only [AV.holds]
        exact ⟨fun _ => hv, fun hn => absurd hbw hn⟩
      · refine ⟨hx.size, ?_⟩
        rw [ha]
        simp only [Option.getD_some, AV.holds]
        refine ⟨fun hbw => absurd (by rw [hb.1 hbw.1, hbw.2]) he, fun _ => trivial⟩
  · intro vs w x hf
    have hrx := hr.ext x
    refine ⟨frAfter l qs0 fr, H, FreshS S w0 w, γ, h, ⟨hrx.st, ?_, hrx.up, hrx.own, hrx.ids, ?_, hrx.keep⟩, rfl⟩
    · intro y av hl
      by_cases ho : outside l.toArray y = true
      · have := hout l.length ho
        rw [List.take_length, List.take_of_length_le (by omega)] at this
        rw [this] at hl
        have hfo := fill_out vs l 0 tmps y (by
          intro o hmem he
          unfold outside at ho
          have := Array.all_eq_true'.1 ho o (by simpa using hmem)
          simp [he] at this)
        simp only [Array.getD_eq_getD_getElem?, hfo]
        have := hrx.fr y av hl
        simpa only [Array.getD_eq_getD_getElem?] using this
      · have hex : ∃ i, dstOf l.toArray i = some y := by
          unfold outside at ho
          rw [Array.all_eq_true'] at ho
          simp only [List.mem_toArray, bne_iff_ne, ne_eq, Classical.not_forall, Decidable.not_not] at ho
          obtain ⟨o, hmem, hd⟩ := ho
          obtain ⟨i, hi⟩ := List.getElem?_of_mem hmem
          exact ⟨i, (hdst hi).trans hd⟩
        obtain ⟨i, hi⟩ := hex
        have hil : i < l.length := by
          unfold dstOf at hi
          cases ho' : l[i]? with
          | none => simp [ho'] at hi
          | some o => exact (List.getElem?_eq_some_iff.1 ho').1
        have := hlook l.length hi hil
        rw [List.take_length, List.take_of_length_le (by omega)] at this
        rw [this] at hl
        rw [fill_get vs (by rw [hsz]; exact hc) hi]
        have hfi := (hf i y hi).2
        rw [hl] at hfi
        exact hfi
    · rw [fill_size]; exact hsz
/-- the same, going on with what is known behind the region -/
inductive EvK (P : Program) (ops : Array Oper) (H : List (Nat × Res)) (K : List (Nat × AV) → Prop) : List Oper → List (Nat × AV) → Prop
  | nil {fr : List (Nat × AV)} (h : K fr) : EvK P ops H K [] fr
  | cons {fr : List (Nat × AV)} {o : Oper} {rest : List Oper} {d : Nat} {a : AV} (hd : o.dst = some d) (h : OpAv P ops fr H o a) (next : EvK P ops H K rest ((d, a) :: fr)) : EvK P ops H K (o :: rest) fr
theorem EvK.ev {K : List (Nat × AV) → Prop} {l : List Oper} (h : EvK P ops H K l fr) : ∃ qs0, Ev P ops H l fr qs0 ∧ K (frAfter l qs0 fr) := by
  induction h with
  | nil h => exact ⟨[], .nil, h⟩
  | @cons fr o rest d a hd ha _ ih =>
    obtain ⟨qs0, h1, h2⟩ := ih
    exact ⟨a :: qs0, .cons hd ha h1, by simpa [frAfter, hd] using h2⟩
theorem a_region_any {id : Nat} {l : List Oper} (hm : P.follows .mixedOrders = true) (hc : regOk l.toArray n = true) (hdep : depsOk l.toArray = true) (ev : EvK P l.toArray H (fun fr' => Q .normal fr' H) l fr) :
    ACode P c n (.region id l.toArray true) Q fr H := by
  obtain ⟨qs0, h1, h2⟩ := ev.ev
  exact a_region_ev hm hc hdep h1 h2
end
end Go.Proofs.YtgdkeafdlehlaaaDoor
