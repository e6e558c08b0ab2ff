/- A region whose operations may run in many orders: one fact an operation, each established from the facts of the operations that it must follow, whatever came between. Nothing of the program stands here. -/
import Derived.Test.YtjmcbacdogjdeaaMem
import Derived.Orders
namespace Go.Proofs.Ytjmcbacdogjdeaa
open Go Go.RowKit
set_option linter.unusedVariables false

/-- how the world may go on from operation to operation -/
structure PreG (G : World → World → Prop) : Prop where
  refl : ∀ w, G w w
  trans : ∀ {a b c}, G a b → G b c → G a c
  drew : ∀ w, G w { w with drawn := w.drawn + 1 }
theorem preExt : PreG Ext := ⟨Ext.refl, Ext.trans, Ext.drew⟩
theorem grown_trans {a b c : World} {row : Option Nat} (h : a.grownBy b row) (k : b.grownBy c row) : a.grownBy c row :=
  ⟨k.os.trans h.os, k.tape.trans h.tape, k.output.trans h.output, Nat.le_trans h.size k.size, fun i hi hne => (k.block i (Nat.lt_of_lt_of_le hi h.size) hne).trans (h.block i hi hne)⟩
theorem grown_refl (w : World) (row : Option Nat) : w.grownBy w row := ⟨rfl, rfl, rfl, Nat.le_refl _, fun _ _ _ => rfl⟩
theorem preGrown (row : Option Nat) : PreG (fun w w' => w.grownBy w' row) :=
  ⟨fun w => grown_refl w row, fun h k => grown_trans h k, fun w => ⟨rfl, rfl, rfl, Nat.le_refl _, fun _ _ _ => rfl⟩⟩

def dstOf (ops : Array Oper) (i : Nat) : Option Tmp := (ops[i]?).bind (·.dst)
/-- what an operation comes to, if it ends as it should -/
def Outcome (P : Program) (R : Value → World → Prop) : Result Next → Prop
  | .ok (.value v) w => R v w
  | .ok .skip w => R undef w
  | .ok (.enter f args) w => Calls P f args w fun e w' => ∃ v, e = .returned v ∧ R v w'
  | _ => False
theorem Outcome.upon {P : Program} {o : Oper} {a : Act} {K : Act → World → Prop} {Q : Exit → Act → World → Prop} {r : Result Next}
    (h : Outcome P (fun v w => K (a.put o.dst v) w) r) : o.upon P a K Q r := by
  cases r with
  | ok n w =>
    cases n with
    | value v => exact h
    | skip => exact h
    | enter f args =>
      refine Calls.mono h ?_
      rintro e w' ⟨v, rfl, hv⟩
      exact hv
    | _ => exact h.elim
  | halt x w => exact h.elim
theorem Outcome.mono {P : Program} {R S : Value → World → Prop} {r : Result Next} (h : Outcome P R r) (hRS : ∀ v w, R v w → S v w) : Outcome P S r := by
  cases r with
  | ok n w =>
    cases n with
    | value v => exact hRS _ _ h
    | skip => exact hRS _ _ h
    | enter f args => exact Calls.mono h fun e w' ⟨v, he, hv⟩ => ⟨v, he, hRS _ _ hv⟩
    | _ => exact h.elim
  | halt x w => exact h.elim

/-- the operations that one must follow -/
def needs (o : Oper) : List Nat := (o.after.toList.filter (Region.binds .any)).map (·.on)
def outside (ops : Array Oper) (t : Tmp) : Bool := ops.all fun o => o.dst != some t

/-- what is known where an operation runs -/
structure Known (ops : Array Oper) (a0 : Act) (F : Nat → Value → World → Prop) (o : Oper) (ρ : Operand → Value) (w : World) : Prop where
  const : ∀ v, ρ (.const v) = v
  func : ∀ f, ρ (.func f) = .func (.func f) #[] #[]
  out : ∀ t, outside ops t = true → ρ (.tmp t) = a0.tmps.getD t undef
  dep : ∀ j d, (needs o).contains j = true → dstOf ops j = some d → F j (ρ (.tmp d)) w

/-- one operation does what its fact says -/
def OpOk (G : World → World → Prop) (P : Program) (ops : Array Oper) (a0 : Act) (w0 : World) (F : Nat → Value → World → Prop) (i : Nat) (o : Oper) : Prop :=
  ∀ (ρ : Operand → Value) (w : World), G w0 w → Known ops a0 F o ρ w →
    match o.guard with
    | none => Outcome P (fun v w' => G w w' ∧ F i v w') ((execOp ρ o).run P w)
    | some (j, want) => ∃ d b, dstOf ops j = some d ∧ ρ (.tmp d) = .bool b ∧ if b = want then Outcome P (fun v w' => G w w' ∧ F i v w') ((execOp ρ o).run P w) else F i undef w

def FactsOk (G : World → World → Prop) (P : Program) (ops : Array Oper) (a0 : Act) (w0 : World) (F : Nat → Value → World → Prop) : Nat → List Oper → Prop
  | _, [] => True
  | i, o :: rest => OpOk G P ops a0 w0 F i o ∧ FactsOk G P ops a0 w0 F (i + 1) rest
theorem FactsOk.get {G : World → World → Prop} {P : Program} {ops : Array Oper} {a0 : Act} {w0 : World} {F : Nat → Value → World → Prop} : ∀ {l : List Oper} {k : Nat}, FactsOk G P ops a0 w0 F k l →
    ∀ i o, l[i]? = some o → OpOk G P ops a0 w0 F (k + i) o
  | [], _, _, i, o, h => by simp at h
  | x :: l, k, hf, 0, o, h => by
    simp at h; subst h; exact hf.1
  | x :: l, k, hf, i + 1, o, h => by
    have := FactsOk.get hf.2 i o (by simpa using h)
    rwa [show k + 1 + i = k + (i + 1) from by omega] at this

/-- the check of a region's text: temporaries are written once, read behind their writers, no operation follows a later one -/
def regOk (ops : Array Oper) (n : Nat) : Bool :=
  ((List.range ops.size).all fun i => match ops[i]? with
    | none => false
    | some o => (match o.dst with | none => false | some d => decide (d < n) && ((List.range ops.size).all fun j => i == j || dstOf ops j != some d)) &&
      (needs o).all (fun j => decide (j < i)) && (match o.guard with | none => true | some (j, _) => (needs o).contains j) && Region.noSelect ops)

/-- the frame with the temporaries of the region filled -/
def fill (vs : Nat → Value) : List Oper → Nat → Array Value → Array Value
  | [], _, t => t
  | o :: rest, k, t => fill vs rest (k + 1) (match o.dst with | some d => t.setIfInBounds d (vs k) | none => t)
theorem fill_size (vs : Nat → Value) : ∀ (l : List Oper) (k : Nat) (t : Array Value), (fill vs l k t).size = t.size
  | [], _, t => rfl
  | o :: rest, k, t => by
    unfold fill
    rw [fill_size vs rest]
    cases o.dst <;> simp
theorem fill_out (vs : Nat → Value) : ∀ (l : List Oper) (k : Nat) (t : Array Value) (d : Tmp), (∀ o ∈ l, o.dst ≠ some d) → (fill vs l k t)[d]? = t[d]?
  | [], _, t, d, _ => rfl
  | o :: rest, k, t, d, h => by
    unfold fill
    rw [fill_out vs rest _ _ d (fun o ho => h o (List.mem_cons_of_mem _ ho))]
    have := h o List.mem_cons_self
    cases hd : o.dst with
    | none => rfl
    | some e =>
      rw [hd] at this
      simp only [Array.getElem?_setIfInBounds]
      rw [if_neg (by intro he; exact this (by rw [he]))]
theorem fill_in (vs : Nat → Value) : ∀ (l : List Oper) (k : Nat) (t : Array Value) (i : Nat) (o : Oper) (d : Tmp), l[i]? = some o → o.dst = some d → d < t.size →
    (∀ j o', l[j]? = some o' → o'.dst = some d → j = i) → (fill vs l k t)[d]? = some (vs (k + i))
  | [], _, t, i, o, d, h, _, _, _ => by simp at h
  | x :: rest, k, t, 0, o, d, h, hd, hs, hu => by
    simp at h; subst h
    unfold fill
    rw [hd, fill_out]
    · simp [hs]
    · intro o' ho' hd'
      obtain ⟨j, hj, rfl⟩ := List.getElem_of_mem ho'
      have := hu (j + 1) rest[j] (by simp) hd'
      omega
  | x :: rest, k, t, i + 1, o, d, h, hd, hs, hu => by
    unfold fill
    have hx : x.dst ≠ some d := fun e => by have := hu 0 x (by simp) e; omega
    rw [fill_in vs rest (k + 1) _ i o d (by simpa using h) hd (by cases x.dst <;> simpa using hs) (fun j o' hj hd' => by
      have := hu (j + 1) o' (by simpa using hj) hd'
      omega)]
    congr 2
    omega

section
variable {P : Program} {ops : Array Oper} {a0 : Act} {w0 : World} {F : Nat → Value → World → Prop} {Q : Exit → Act → World → Prop} {n : Nat} {G : World → World → Prop}

structure RInv (G : World → World → Prop) (ops : Array Oper) (a0 : Act) (w0 : World) (F : Nat → Value → World → Prop) (listed : Array Bool) (a : Act) (w : World) : Prop where
  ext : G w0 w
  size : a.tmps.size = a0.tmps.size
  defers : a.defers = a0.defers
  out : ∀ t, outside ops t = true → a.tmps[t]? = a0.tmps[t]?
  facts : ∀ i d, listed.getD i false = true → dstOf ops i = some d → F i (a.tmps.getD d undef) w

theorem dst_unique (hc : regOk ops n = true) {i j : Nat} {d : Tmp} (hi : dstOf ops i = some d) (hj : dstOf ops j = some d) : i = j := by
  unfold dstOf at hi
  cases ho : ops[i]? with
  | none => simp [ho] at hi
  | some o =>
    simp [ho] at hi
    have hlt : i < ops.size := (Array.getElem?_eq_some_iff.1 ho).1
    have hjl : j < ops.size := by
      unfold dstOf at hj
      cases hoj : ops[j]? with
      | none => simp [hoj] at hj
      | some o' => exact (Array.getElem?_eq_some_iff.1 hoj).1
    have h1 := List.all_eq_true.1 hc i (List.mem_range.2 hlt)
    simp only [ho, hi, Bool.and_eq_true] at h1
    have h2 := List.all_eq_true.1 h1.1.1.1.2 j (List.mem_range.2 hjl)
    simp only [Bool.or_eq_true, beq_iff_eq, bne_iff_ne, hj, ne_eq, not_true_eq_false, or_false] at h2
    exact h2
theorem op_check (hc : regOk ops n = true) {i : Nat} {o : Oper} (ho : ops[i]? = some o) :
    (∃ d, o.dst = some d ∧ d < n) ∧ (∀ j, j ∈ needs o → j < i) ∧ (∀ j b, o.guard = some (j, b) → (needs o).contains j = true) := by
  have hlt : i < ops.size := (Array.getElem?_eq_some_iff.1 ho).1
  have h1 := List.all_eq_true.1 hc i (List.mem_range.2 hlt)
  simp only [ho, Bool.and_eq_true] at h1
  refine ⟨?_, ?_, ?_⟩
  · cases hd : o.dst with
    | none => simp [hd] at h1
    | some d => simp [hd] at h1; exact ⟨d, rfl, h1.1.1.1.1⟩
  · intro j hj
    simpa using List.all_eq_true.1 h1.1.1.2 j hj
  · intro j b hg
    have := h1.1.2
    simp only [hg] at this
    exact this

theorem ready_iff {i : Nat} {listed : Array Bool} (hs : listed.size = ops.size) : i ∈ Region.ready .any ops listed ↔ ∃ o, ops[i]? = some o ∧ listed.getD i false = false ∧ ∀ j ∈ needs o, listed.getD j false = true := by
  unfold Region.ready needs
  simp only [List.mem_filter, List.mem_range, Bool.and_eq_true, Bool.not_eq_true']
  constructor
  · rintro ⟨hi, hl, ha⟩
    refine ⟨ops[i], Array.getElem?_eq_getElem hi, ?_, ?_⟩
    · simp only [Array.getD_eq_getD_getElem?] at hl ⊢
      rw [Array.getElem?_eq_getElem (by omega)] at hl ⊢
      simpa using hl
    · simp only [Array.getElem?_eq_getElem hi, Option.map_some, Option.getD_some, Array.all_eq_true'] at ha
      intro j hj
      simp only [List.mem_map, List.mem_filter] at hj
      obtain ⟨e, ⟨he, hb⟩, rfl⟩ := hj
      have := ha e (by simpa using he)
      simpa [hb] using this
  · rintro ⟨o, ho, hl, ha⟩
    have hi : i < ops.size := (Array.getElem?_eq_some_iff.1 ho).1
    refine ⟨hi, ?_, ?_⟩
    · simp only [Array.getD_eq_getD_getElem?] at hl ⊢
      rw [Array.getElem?_eq_getElem (by omega)] at hl ⊢
      simpa using hl
    · simp only [ho, Option.map_some, Option.getD_some, Array.all_eq_true']
      intro e he
      by_cases hb : Region.binds .any e = true
      · have := ha e.on (by
          simp only [List.mem_map, List.mem_filter]
          exact ⟨e, ⟨by simpa using he, hb⟩, rfl⟩)
        simp only [this, Bool.or_true]
      · simp only [Bool.not_eq_true] at hb
        simp only [hb, Bool.not_false, Bool.true_or]

theorem all_listed (hc : regOk ops n = true) {listed : Array Bool} (hs : listed.size = ops.size) (hr : Region.ready .any ops listed = []) : ∀ i, i < ops.size → listed.getD i false = true := by
  intro i
  induction i using Nat.strongRecOn with
  | ind i ih =>
    intro hi
    cases hl : listed.getD i false with
    | true => rfl
    | false =>
      exfalso
      have ho := Array.getElem?_eq_getElem hi
      have hm : i ∈ Region.ready .any ops listed := (ready_iff hs).2 ⟨ops[i], ho, hl, fun j hj => ih j ((op_check hc ho).2.1 j hj) (by have := (op_check hc ho).2.1 j hj; omega)⟩
      rw [hr] at hm
      cases hm

theorem rinv_step (hG : PreG G) (hc : regOk ops n = true) (hn : n = a0.tmps.size) (hmono : ∀ i v w w', F i v w → G w w' → F i v w') {listed : Array Bool} (hs : listed.size = ops.size) {a : Act} {w w' : World} (h : RInv G ops a0 w0 F listed a w)
    {i : Nat} {o : Oper} (ho : ops[i]? = some o) {v : Value} (hx : G w w') (hv : F i v w') : RInv G ops a0 w0 F (listed.setIfInBounds i true) (a.put o.dst v) w' := by
  obtain ⟨⟨d, hd, hdn⟩, hneeds, hguard⟩ := op_check hc ho
  have hput : a.put o.dst v = { a with tmps := a.tmps.setIfInBounds d v } := by rw [hd]; rfl
  rw [hput]
  have hdi : dstOf ops i = some d := by unfold dstOf; rw [ho]; exact hd
  refine ⟨hG.trans h.ext hx, by simpa using h.size, h.defers, ?_, ?_⟩
  · intro t ht
    have hne : d ≠ t := by
      intro e
      subst e
      unfold outside at ht
      have := Array.all_eq_true'.1 ht o (Array.mem_of_getElem? ho)
      simp [hd] at this
    simp only [Array.getElem?_setIfInBounds, if_neg hne]
    exact h.out t ht
  · intro j e hj hje
    by_cases hij : j = i
    · subst hij
      rw [hdi] at hje
      injection hje with hje
      subst hje
      simp only [Array.getD_eq_getD_getElem?, Array.getElem?_setIfInBounds]
      rw [if_pos trivial, if_pos (by rw [h.size, ← hn]; exact hdn)]
      simpa using hv
    · have hed : d ≠ e := fun he => hij (dst_unique hc hje (by rw [← he]; exact hdi))
      simp only [Array.getD_eq_getD_getElem?, Array.getElem?_setIfInBounds, if_neg hed]
      have hl : listed.getD j false = true := by
        simp only [Array.getD_eq_getD_getElem?, Array.getElem?_setIfInBounds] at hj ⊢
        rw [if_neg (by omega)] at hj
        exact hj
      have := h.facts j e hl hje
      simp only [Array.getD_eq_getD_getElem?] at this
      exact hmono _ _ _ _ this hx

theorem known_of (hc : regOk ops n = true) {listed : Array Bool} {a : Act} {w : World} (h : RInv G ops a0 w0 F listed a w) {o : Oper} (hl : ∀ j ∈ needs o, listed.getD j false = true) : Known ops a0 F o a.eval w := by
  refine ⟨fun _ => rfl, fun _ => rfl, ?_, ?_⟩
  · intro t ht
    have := h.out t ht
    simp only [Act.eval, Array.getD_eq_getD_getElem?, this]
  · intro j d hj hd
    exact h.facts j d (hl j (by simpa using hj)) hd

theorem facts_any (hG : PreG G) (hc : regOk ops n = true) (hn : n = a0.tmps.size) (hmono : ∀ i v w w', F i v w → G w w' → F i v w') (hop : FactsOk G P ops a0 w0 F 0 ops.toList)
    (hend : ∀ a w, RInv G ops a0 w0 F (Array.replicate ops.size true) a w → Q .normal a w) :
    ∀ (fuel : Nat) (listed : Array Bool) (a : Act) (w : World), listed.size = ops.size → (listed.toList.countP (fun b => !b)) ≤ fuel → RInv G ops a0 w0 F listed a w → wpAny P .any ops Q fuel listed a w := by
  have fin : ∀ (listed : Array Bool) (a : Act) (w : World), listed.size = ops.size → RInv G ops a0 w0 F listed a w → Region.ready .any ops listed = [] → Q .normal a w := by
    intro listed a w hs h hr
    have hall := all_listed hc hs hr
    refine hend a w ⟨h.ext, h.size, h.defers, h.out, fun i d _ hd => h.facts i d (hall i ?_) hd⟩
    unfold dstOf at hd
    cases ho : ops[i]? with
    | none => simp [ho] at hd
    | some o => exact (Array.getElem?_eq_some_iff.1 ho).1
  intro fuel
  induction fuel with
  | zero =>
    intro listed a w hs hf h
    have hr : Region.ready .any ops listed = [] := by
      rw [List.eq_nil_iff_forall_not_mem]
      intro i hi
      obtain ⟨o, ho, hl, _⟩ := (ready_iff hs).1 hi
      have hlt : i < listed.size := by rw [hs]; exact (Array.getElem?_eq_some_iff.1 ho).1
      have h0 : listed.toList.countP (fun b => !b) = 0 := by omega
      rw [List.countP_eq_zero] at h0
      have := h0 listed[i] (by simp)
      simp only [Array.getD_eq_getD_getElem?, Array.getElem?_eq_getElem hlt, Option.getD_some] at hl
      simp [hl] at this
    exact ⟨hr, fin listed a w hs h hr⟩
  | succ fuel ih =>
    intro listed a w hs hf h
    refine ⟨fin listed a w hs h, ?_⟩
    intro i hi
    obtain ⟨o, ho, hl, hneed⟩ := (ready_iff hs).1 hi
    have hlt : i < listed.size := by rw [hs]; exact (Array.getElem?_eq_some_iff.1 ho).1
    have hcount : (listed.setIfInBounds i true).toList.countP (fun b => !b) ≤ fuel := by
      simp only [Array.getD_eq_getD_getElem?, Array.getElem?_eq_getElem hlt, Option.getD_some] at hl
      have hl' : listed.toList[i] = false := by simpa using hl
      have hlt' : i < listed.toList.length := by simpa using hlt
      have e1 : (listed.setIfInBounds i true).toList = listed.toList.set i true := by simp
      rw [e1]
      have := List.countP_set (p := fun b => !b) (l := listed.toList) (i := i) (a := true) hlt'
      have hpos : 0 < listed.toList.countP (fun b => !b) := List.countP_pos_iff.2 ⟨listed.toList[i], List.getElem_mem _, by rw [hl']; rfl⟩
      rw [this, hl']
      simp only [Bool.not_false, Bool.not_true, if_true, Bool.false_eq_true, if_false]
      omega
    have hk := known_of hc h hneed
    have hop' := hop.get i o (by simpa using ho)
    rw [Nat.zero_add] at hop'
    have hok := hop' a.eval w h.ext hk
    have next : ∀ (v : Value) (w' : World), G w w' → F i v w' → wpAny P .any ops Q fuel (listed.setIfInBounds i true) (a.put o.dst v) w' := fun v w' hx hv =>
      ih _ _ _ (by simpa using hs) hcount (rinv_step hG hc hn hmono hs h ho hx hv)
    unfold wpOp
    simp only [ho]
    have run : Outcome P (fun v w' => G w w' ∧ F i v w') ((execOp a.eval o).run P w) → o.wp P a w (wpAny P .any ops Q fuel (listed.setIfInBounds i true)) Q := fun hr =>
      Outcome.upon (hr.mono fun v w' ⟨hx, hv⟩ => next v w' hx hv)
    cases hg : o.guard with
    | none =>
      simp only [hg] at hok
      rw [if_pos (by simp [Region.wanted, hg])]
      exact .inl (run hok)
    | some jb =>
      obtain ⟨j, want⟩ := jb
      simp only [hg] at hok
      obtain ⟨d, b, hd, hb, hif⟩ := hok
      have hy : yielded ops a.tmps j = some b := by
        unfold yielded
        have hd' : ((ops[j]?).bind (·.dst)) = some d := hd
        rw [hd']
        simp only [Act.eval, Array.getD_eq_getD_getElem?] at hb
        cases ht : a.tmps[d]? with
        | none => simp [ht, undef] at hb
        | some v =>
          simp only [ht, Option.getD_some] at hb
          subst hb
          simp [ht]
      by_cases hbw : b = want
      · rw [if_pos (by simp [Region.wanted, hg, hy, hbw])]
        rw [if_pos hbw] at hif
        exact .inl (run hif)
      · rw [if_neg (by simp [Region.wanted, hg, hy, hbw])]
        rw [if_neg hbw] at hif
        exact next _ _ (hG.refl w) hif

theorem wp_region_facts {id : Nat} (hG : PreG G) (hm : P.follows .mixedOrders = true) (hn : n = a0.tmps.size) (hc : regOk ops n = true) (hmono : ∀ i v w w', F i v w → G w w' → F i v w')
    (hop : FactsOk G P ops a0 w0 F 0 ops.toList)
    (hend : ∀ (vs : Nat → Value) (w : World), G w0 w → (∀ i d, dstOf ops i = some d → F i (vs i) w) → Q .normal ⟨fill vs ops.toList 0 a0.tmps, a0.defers⟩ w) :
    (Code.region id ops true).wp P Q a0 w0 := by
  refine wp_region_any hm ?_
  refine facts_any (w0 := w0) hG hc hn hmono hop ?_ ops.size _ a0 _ (by simp) (by have := List.countP_le_length (p := fun b : Bool => !b) (l := List.replicate ops.size false); simpa using this) ?_
  · intro a w h
    have hfacts : ∀ i d, dstOf ops i = some d → F i (a.tmps.getD d undef) w := fun i d hd => h.facts i d (by
      unfold dstOf at hd
      cases ho : ops[i]? with
      | none => simp [ho] at hd
      | some o =>
        have := (Array.getElem?_eq_some_iff.1 ho).1
        simp [Array.getD_eq_getD_getElem?, this]) hd
    have hq := hend (fun i => match dstOf ops i with | some d => a.tmps.getD d undef | none => undef) w h.ext (fun i d hd => by simpa [hd] using hfacts i d hd)
    have ha : a = ⟨fill (fun i => match dstOf ops i with | some d => a.tmps.getD d undef | none => undef) ops.toList 0 a0.tmps, a0.defers⟩ := by
      cases a with
      | mk tmps defers =>
        have hd := h.defers
        simp only at hd
        subst hd
        congr 1
        apply Array.ext'
        apply List.ext_getElem?
        intro t
        simp only [Array.getElem?_toList]
        by_cases ht : outside ops t = true
        · rw [fill_out]
          · exact h.out t ht
          · intro o ho e
            unfold outside at ht
            have := Array.all_eq_true'.1 ht o (by simpa using ho)
            simp [e] at this
        · have hex : ∃ o ∈ ops, o.dst = some t := by
            unfold outside at ht
            rw [Array.all_eq_true'] at ht
            simpa using ht
          obtain ⟨o, ho, hd⟩ := hex
          obtain ⟨i, hi, rfl⟩ := Array.getElem_of_mem ho
          have hoi := Array.getElem?_eq_getElem hi
          have hdi : dstOf ops i = some t := by unfold dstOf; rw [hoi]; exact hd
          obtain ⟨⟨d', hd', hlt⟩, _, _⟩ := op_check hc hoi
          have hte : t = d' := by
            have := hd.symm.trans hd'
            injection this
          have hlt2 : t < a0.tmps.size := by rw [← hn, hte]; exact hlt
          rw [fill_in _ ops.toList 0 a0.tmps i ops[i] t (by simp) hd hlt2 (fun j o' hj hd2 => dst_unique hc (by unfold dstOf; rw [show ops[j]? = some o' from by simpa using hj]; exact hd2) hdi)]
          rw [Nat.zero_add, hdi]
          have hsz := h.size
          simp only at hsz
          simp only [Array.getD_eq_getD_getElem?]
          rw [Array.getElem?_eq_getElem (show t < tmps.size from by rw [hsz]; exact hlt2)]
          rfl
    rw [ha]
    exact hq
  · exact ⟨hG.drew _, rfl, rfl, fun _ _ => rfl, fun i d hi _ => by
      simp only [Array.getD_eq_getD_getElem?, Array.getElem?_replicate] at hi
      split at hi <;> simp at hi⟩

theorem wp_region_lit_facts {id : Nat} {l : List Oper} {tmps : Array Value} {defers : List Deferred} (hG : PreG G) (hm : P.follows .mixedOrders = true) (hc : regOk l.toArray tmps.size = true) (hmono : ∀ i v w w', F i v w → G w w' → F i v w')
    (hop : FactsOk G P l.toArray ⟨tmps, defers⟩ w0 F 0 l)
    (hend : ∀ (vs : Nat → Value) (w : World), G w0 w → (∀ i d, dstOf l.toArray i = some d → F i (vs i) w) → Q .normal ⟨fill vs l 0 tmps, defers⟩ w) :
    (Code.region id l.toArray true).wp P Q ⟨tmps, defers⟩ w0 :=
  wp_region_facts hG hm rfl hc hmono (by simpa using hop) (fun vs w hx hf => by simpa using hend vs w hx hf)
theorem fill_get {l : List Oper} {tmps : Array Value} {i : Nat} {d : Tmp} (vs : Nat → Value) (hc : regOk l.toArray tmps.size = true) (hd : dstOf l.toArray i = some d) : (fill vs l 0 tmps).getD d undef = vs i := by
  have hu := fun j (hj : dstOf l.toArray j = some d) => dst_unique hc hj hd
  unfold dstOf at hd
  cases ho : l.toArray[i]? with
  | none => simp [ho] at hd
  | some o =>
    obtain ⟨⟨d', hd', hlt⟩, _, _⟩ := op_check hc ho
    rw [ho] at hd
    have e : d' = d := by
      have := hd'.symm.trans hd
      injection this
    subst e
    rw [Array.getD_eq_getD_getElem?, fill_in vs l 0 tmps i o d' (by simpa using ho) hd' hlt (fun j o' hj hd2 => hu j (by unfold dstOf; rw [show l.toArray[j]? = some o' from by simpa using hj]; exact hd2)), Nat.zero_add]
    rfl
theorem fill_end {l : List Oper} {tmps : Array Value} {i : Nat} {d : Tmp} {v : Value} (vs : Nat → Value) (hc : regOk l.toArray tmps.size = true) (hd : dstOf l.toArray i = some d) (hv : vs i = v) : ∃ T, T = fill vs l 0 tmps ∧ T.getD d undef = v :=
  ⟨_, rfl, (fill_get vs hc hd).trans hv⟩
theorem factsOk_nil {i : Nat} : FactsOk G P ops a0 w0 F i [] := trivial
theorem factsOk_cons {i : Nat} {o : Oper} {rest : List Oper} (h : OpOk G P ops a0 w0 F i o) (hr : FactsOk G P ops a0 w0 F (i + 1) rest) : FactsOk G P ops a0 w0 F i (o :: rest) := ⟨h, hr⟩
theorem opOk_none {i : Nat} {o : Oper} (hg : o.guard = none) (h : ∀ ρ w, G w0 w → Known ops a0 F o ρ w → Outcome P (fun v w' => G w w' ∧ F i v w') ((execOp ρ o).run P w)) : OpOk G P ops a0 w0 F i o := by
  intro ρ w hx hk
  rw [hg]
  exact h ρ w hx hk
theorem opOk_some {i j d : Nat} {b : Bool} {o : Oper} (hg : o.guard = some (j, b)) (hd : dstOf ops j = some d) (hn : (needs o).contains j = true) (hF : ∀ v w, F j v w → v = .bool b)
    (h : ∀ ρ w, G w0 w → Known ops a0 F o ρ w → Outcome P (fun v w' => G w w' ∧ F i v w') ((execOp ρ o).run P w)) : OpOk G P ops a0 w0 F i o := by
  intro ρ w hx hk
  rw [hg]
  exact ⟨d, b, hd, hF _ _ (hk.dep j d hn hd), by rw [if_pos rfl]; exact h ρ w hx hk⟩
theorem opOk_skip {i j d : Nat} {b : Bool} {o : Oper} (hg : o.guard = some (j, b)) (hd : dstOf ops j = some d) (hn : (needs o).contains j = true) (hF : ∀ v w, F j v w → v = .bool (!b))
    (h : ∀ w, F i undef w) : OpOk G P ops a0 w0 F i o := by
  intro ρ w hx hk
  rw [hg]
  exact ⟨d, !b, hd, hF _ _ (hk.dep j d hn hd), by rw [if_neg (by cases b <;> simp)]; exact h w⟩
end
end Go.Proofs.Ytjmcbacdogjdeaa
