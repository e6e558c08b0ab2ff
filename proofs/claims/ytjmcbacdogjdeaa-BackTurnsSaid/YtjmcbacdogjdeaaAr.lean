/- Regions by facts once more: an operation whose guard was skipped itself is skipped. Nothing of the program stands here. -/
import Derived.Test.YtjmcbacdogjdeaaReg
namespace Go.Proofs.Ytjmcbacdogjdeaa
open Go Go.RowKit
set_option linter.unusedVariables false
/-- one operation does what its fact says -/
def OpOk2 (G : World → World → Prop) (P : Program) (ops : Array Oper) (a0 : Act) (w0 : World) (F : Nat → Value → World → Prop) (i : Nat) (o : Oper) : Prop :=
  ∀ (ρ : Operand → Value) (w : World), G w0 w → Known ops a0 F o ρ w → (∀ g, ρ (.global g) = .pointer (some ⟨g, 0, none⟩)) →
    match o.guard with
    | none => Outcome P (fun v w' => G w w' ∧ F i v w') ((execOp ρ o).run P w)
    | some (j, want) => ∃ d, dstOf ops j = some d ∧ (ρ (.tmp d) = .bool want → Outcome P (fun v w' => G w w' ∧ F i v w') ((execOp ρ o).run P w)) ∧ (ρ (.tmp d) ≠ .bool want → F i undef w)
def FactsOk2 (G : World → World → Prop) (P : Program) (ops : Array Oper) (a0 : Act) (w0 : World) (F : Nat → Value → World → Prop) : Nat → List Oper → Prop
  | _, [] => True
  | i, o :: rest => OpOk2 G P ops a0 w0 F i o ∧ FactsOk2 G P ops a0 w0 F (i + 1) rest
theorem FactsOk2.get {G : World → World → Prop} {P : Program} {ops : Array Oper} {a0 : Act} {w0 : World} {F : Nat → Value → World → Prop} : ∀ {l : List Oper} {k : Nat}, FactsOk2 G P ops a0 w0 F k l →
    ∀ i o, l[i]? = some o → OpOk2 G P ops a0 w0 F (k + i) o
  | [], _, _, i, o, h => by simp at h
  | x :: l, k, hf, 0, o, h => by
    simp at h; subst h; exact hf.1
  | x :: l, k, hf, i + 1, o, h => by
    have := FactsOk2.get hf.2 i o (by simpa using h)
    rwa [show k + 1 + i = k + (i + 1) from by omega] at this
theorem factsOk2_of {G : World → World → Prop} {P : Program} {ops : Array Oper} {a0 : Act} {w0 : World} {F : Nat → Value → World → Prop} : ∀ {l : List Oper} {k : Nat},
    (∀ i o, l[i]? = some o → OpOk2 G P ops a0 w0 F (k + i) o) → FactsOk2 G P ops a0 w0 F k l
  | [], _, _ => trivial
  | x :: l, k, h => ⟨h 0 x rfl, factsOk2_of fun i o ho => by
    have := h (i + 1) o (by simpa using ho)
    rwa [show k + (i + 1) = k + 1 + i from by omega] at this⟩
section
variable {P : Program} {ops : Array Oper} {a0 : Act} {w0 : World} {F : Nat → Value → World → Prop} {Q : Exit → Act → World → Prop} {n : Nat} {G : World → World → Prop}
theorem facts_any2 (hG : PreG G) (hc : regOk ops n = true) (hn : n = a0.tmps.size) (hmono : ∀ i v w w', F i v w → G w w' → F i v w') (hop : FactsOk2 G P ops a0 w0 F 0 ops.toList)
    (hend : ∀ a w, RInv G ops a0 w0 F (Array.replicate ops.size true) a w → Q .normal a w) :
    ∀ (fuel : Nat) (listed : Array Bool) (a : Act) (w : World), listed.size = ops.size → (listed.toList.countP (fun b => !b)) ≤ fuel → RInv G ops a0 w0 F listed a w → wpAny P .any ops Q fuel listed a w := by
  have fin : ∀ (listed : Array Bool) (a : Act) (w : World), listed.size = ops.size → RInv G ops a0 w0 F listed a w → Region.ready .any ops listed = [] → Q .normal a w := by
    intro listed a w hs h hr
    have hall := all_listed hc hs hr
    refine hend a w ⟨h.ext, h.size, h.defers, h.out, fun i d _ hd => h.facts i d (hall i ?_) hd⟩
    unfold dstOf at hd
    cases ho : ops[i]? with
    | none => simp [ho] at hd
    | some o => exact (Array.getElem?_eq_some_iff.1 ho).1
  intro fuel
  induction fuel with
  | zero =>
    intro listed a w hs hf h
    have hr : Region.ready .any ops listed = [] := by
      rw [List.eq_nil_iff_forall_not_mem]
      intro i hi
      obtain ⟨o, ho, hl, _⟩ := (ready_iff hs).1 hi
      have hlt : i < listed.size := by rw [hs]; exact (Array.getElem?_eq_some_iff.1 ho).1
      have h0 : listed.toList.countP (fun b => !b) = 0 := by omega
      rw [List.countP_eq_zero] at h0
      have := h0 listed[i] (by simp)
      simp only [Array.getD_eq_getD_getElem?, Array.getElem?_eq_getElem hlt, Option.getD_some] at hl
      simp [hl] at this
    exact ⟨hr, fin listed a w hs h hr⟩
  | succ fuel ih =>
    intro listed a w hs hf h
    refine ⟨fin listed a w hs h, ?_⟩
    intro i hi
    obtain ⟨o, ho, hl, hneed⟩ := (ready_iff hs).1 hi
    have hlt : i < listed.size := by rw [hs]; exact (Array.getElem?_eq_some_iff.1 ho).1
    have hcount : (listed.setIfInBounds i true).toList.countP (fun b => !b) ≤ fuel := by
      simp only [Array.getD_eq_getD_getElem?, Array.getElem?_eq_getElem hlt, Option.getD_some] at hl
      have hl' : listed.toList[i] = false := by simpa using hl
      have hlt' : i < listed.toList.length := by simpa using hlt
      have e1 : (listed.setIfInBounds i true).toList = listed.toList.set i true := by simp
      rw [e1]
      have := List.countP_set (p := fun b => !b) (l := listed.toList) (i := i) (a := true) hlt'
      have hpos : 0 < listed.toList.countP (fun b => !b) := List.countP_pos_iff.2 ⟨listed.toList[i], List.getElem_mem _, by rw [hl']; rfl⟩
      rw [this, hl']
      simp only [Bool.not_false, Bool.not_true, if_true, Bool.false_eq_true, if_false]
      omega
    have hk := known_of hc h hneed
    have hop' := hop.get i o (by simpa using ho)
    rw [Nat.zero_add] at hop'
    have hok := hop' a.eval w h.ext hk (fun _ => rfl)
    have next : ∀ (v : Value) (w' : World), G w w' → F i v w' → wpAny P .any ops Q fuel (listed.setIfInBounds i true) (a.put o.dst v) w' := fun v w' hx hv =>
      ih _ _ _ (by simpa using hs) hcount (rinv_step hG hc hn hmono hs h ho hx hv)
    unfold wpOp
    simp only [ho]
    have run : Outcome P (fun v w' => G w w' ∧ F i v w') ((execOp a.eval o).run P w) → o.wp P a w (wpAny P .any ops Q fuel (listed.setIfInBounds i true)) Q := fun hr =>
      Outcome.upon (hr.mono fun v w' ⟨hx, hv⟩ => next v w' hx hv)
    cases hg : o.guard with
    | none =>
      simp only [hg] at hok
      rw [if_pos (by simp [Region.wanted, hg])]
      exact .inl (run hok)
    | some jb =>
      obtain ⟨j, want⟩ := jb
      simp only [hg] at hok
      obtain ⟨d, hd, hyes, hno⟩ := hok
      have hd' : ((ops[j]?).bind (·.dst)) = some d := hd
      by_cases hb : a.eval (.tmp d) = .bool want
      · have hy : yielded ops a.tmps j = some want := by
          unfold yielded
          rw [hd']
          simp only [Act.eval, Array.getD_eq_getD_getElem?] at hb
          cases ht : a.tmps[d]? with
          | none => simp [ht, undef] at hb
          | some v =>
            simp only [ht, Option.getD_some] at hb
            subst hb
            simp [ht]
        rw [if_pos (by simp [Region.wanted, hg, hy])]
        exact .inl (run (hyes hb))
      · have hy : yielded ops a.tmps j ≠ some want := by
          unfold yielded
          rw [hd']
          intro he
          apply hb
          simp only [Act.eval, Array.getD_eq_getD_getElem?]
          cases ht : a.tmps[d]? with
          | none => simp [ht] at he
          | some v =>
            simp only [Option.getD_some]
            cases v <;> simp_all
        rw [if_neg (by simp [Region.wanted, hg, hy])]
        exact next _ _ (hG.refl w) (hno hb)

theorem wp_region_facts2 {id : Nat} (hG : PreG G) (hm : P.follows .mixedOrders = true) (hn : n = a0.tmps.size) (hc : regOk ops n = true) (hmono : ∀ i v w w', F i v w → G w w' → F i v w')
    (hop : FactsOk2 G P ops a0 w0 F 0 ops.toList)
    (hend : ∀ (vs : Nat → Value) (w : World), G w0 w → (∀ i d, dstOf ops i = some d → F i (vs i) w) → Q .normal ⟨fill vs ops.toList 0 a0.tmps, a0.defers⟩ w) :
    (Code.region id ops true).wp P Q a0 w0 := by
  refine wp_region_any hm ?_
  refine facts_any2 (w0 := w0) hG hc hn hmono hop ?_ ops.size _ a0 _ (by simp) (by have := List.countP_le_length (p := fun b : Bool => !b) (l := List.replicate ops.size false); simpa using this) ?_
  · intro a w h
    have hfacts : ∀ i d, dstOf ops i = some d → F i (a.tmps.getD d undef) w := fun i d hd => h.facts i d (by
      unfold dstOf at hd
      cases ho : ops[i]? with
      | none => simp [ho] at hd
      | some o =>
        have := (Array.getElem?_eq_some_iff.1 ho).1
        simp [Array.getD_eq_getD_getElem?, this]) hd
    have hq := hend (fun i => match dstOf ops i with | some d => a.tmps.getD d undef | none => undef) w h.ext (fun i d hd => by simpa [hd] using hfacts i d hd)
    have ha : a = ⟨fill (fun i => match dstOf ops i with | some d => a.tmps.getD d undef | none => undef) ops.toList 0 a0.tmps, a0.defers⟩ := by
      cases a with
      | mk tmps defers =>
        have hd := h.defers
        simp only at hd
        subst hd
        congr 1
        apply Array.ext'
        apply List.ext_getElem?
        intro t
        simp only [Array.getElem?_toList]
        by_cases ht : outside ops t = true
        · rw [fill_out]
          · exact h.out t ht
          · intro o ho e
            unfold outside at ht
            have := Array.all_eq_true'.1 ht o (by simpa using ho)
            simp [e] at this
        · have hex : ∃ o ∈ ops, o.dst = some t := by
            unfold outside at ht
            rw [Array.all_eq_true'] at ht
            simpa using ht
          obtain ⟨o, ho, hd⟩ := hex
          obtain ⟨i, hi, rfl⟩ := Array.getElem_of_mem ho
          have hoi := Array.getElem?_eq_getElem hi
          have hdi : dstOf ops i = some t := by unfold dstOf; rw [hoi]; exact hd
          obtain ⟨⟨d', hd', hlt⟩, _, _⟩ := op_check hc hoi
          have hte : t = d' := by
            have := hd.symm.trans hd'
            injection this
          have hlt2 : t < a0.tmps.size := by rw [← hn, hte]; exact hlt
          rw [fill_in _ ops.toList 0 a0.tmps i ops[i] t (by simp) hd hlt2 (fun j o' hj hd2 => dst_unique hc (by unfold dstOf; rw [show ops[j]? = some o' from by simpa using hj]; exact hd2) hdi)]
          rw [Nat.zero_add, hdi]
          have hsz := h.size
          simp only at hsz
          simp only [Array.getD_eq_getD_getElem?]
          rw [Array.getElem?_eq_getElem (show t < tmps.size from by rw [hsz]; exact hlt2)]
          rfl
    rw [ha]
    exact hq
  · exact ⟨hG.drew _, rfl, rfl, fun _ _ => rfl, fun i d hi _ => by
      simp only [Array.getD_eq_getD_getElem?, Array.getElem?_replicate] at hi
      split at hi <;> simp at hi⟩

theorem wp_region_lit_facts2 {id : Nat} {l : List Oper} {tmps : Array Value} {defers : List Deferred} (hG : PreG G) (hm : P.follows .mixedOrders = true) (hc : regOk l.toArray tmps.size = true) (hmono : ∀ i v w w', F i v w → G w w' → F i v w')
    (hop : FactsOk2 G P l.toArray ⟨tmps, defers⟩ w0 F 0 l)
    (hend : ∀ (vs : Nat → Value) (w : World), G w0 w → (∀ i d, dstOf l.toArray i = some d → F i (vs i) w) → Q .normal ⟨fill vs l 0 tmps, defers⟩ w) :
    (Code.region id l.toArray true).wp P Q ⟨tmps, defers⟩ w0 :=
  wp_region_facts2 hG hm rfl hc hmono (by simpa using hop) (fun vs w hx hf => by simpa using hend vs w hx hf)
end
end Go.Proofs.Ytjmcbacdogjdeaa
