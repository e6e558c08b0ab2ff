/- Words of our own for walks over abstract values, laid together. Nothing of the program stands here. -/
import Derived.Test.YtgdkeafdlehlaaaDoorG1
import Derived.Test.YtgdkeafdlehlaaaDoorG2
import Derived.Laws.MakeOwn
/- A region whose operations may run in many orders, but whose last ones follow all others: facts for the first ones, then the last ones in their order. Nothing of the program stands here. -/
namespace Go.Proofs.YtgdkeafdlehlaaaDoor
open Go Go.RowKit
set_option linter.unusedVariables false

def needsAt (ops : Array Oper) (j : Nat) : List Nat := match ops[j]? with | some o => needs o | none => []
/-- all that some operations must follow, one behind the other -/
def clo (ops : Array Oper) : Nat → List Nat → List Nat
  | 0, S => S
  | j + 1, S => clo ops j (if S.contains j then S ++ needsAt ops j else S)
/-- the check of a region's text: its first m operations qs0 in regOk; each later one follows the one before it, and the first of those follows all -/
def tailOk (ops : Array Oper) (m n : Nat) : Bool :=
  ((List.range ops.size).all fun i => match ops[i]? with
    | none => false
    | some o => (needs o).all (fun j => decide (j < i)) && (match o.guard with | none => true | some (j, _) => (needs o).contains j) &&
      (if i < m then (match o.dst with | none => false | some d => decide (d < n) && ((List.range m).all fun j => i == j || dstOf ops j != some d))
       else (i == m || (needs o).contains (i - 1)))) &&
  decide (m < ops.size) && (List.range m).all (fun j => (clo ops m (needsAt ops m)).contains j)

section
variable {P : Program} {ops : Array Oper} {a0 : Act} {w0 : World} {F : Nat → Value → World → Prop} {Q : Exit → Act → World → Prop} {n m : Nat} {G : World → World → Prop}

def Closed (ops : Array Oper) (listed : Array Bool) : Prop := ∀ j o, ops[j]? = some o → listed.getD j false = true → ∀ k ∈ needs o, listed.getD k false = true
theorem clo_listed {listed : Array Bool} (hcl : Closed ops listed) : ∀ (j : Nat) (S : List Nat), (∀ k ∈ S, listed.getD k false = true) → ∀ k ∈ clo ops j S, listed.getD k false = true
  | 0, S, h, k, hk => h k hk
  | j + 1, S, h, k, hk => by
    refine clo_listed hcl j _ ?_ k hk
    split
    · rename_i hc
      intro x hx
      rcases List.mem_append.1 hx with hx | hx
      · exact h x hx
      · unfold needsAt at hx
        cases ho : ops[j]? with
        | none => simp [ho] at hx
        | some o =>
          simp only [ho] at hx
          exact hcl j o ho (h j (by simpa using hc)) x hx
    · exact h

theorem tail_parts (hc : tailOk ops m n = true) : (∀ i o, ops[i]? = some o → (∀ j ∈ needs o, j < i) ∧ (∀ j b, o.guard = some (j, b) → (needs o).contains j = true) ∧
      (i < m → ∃ d, o.dst = some d ∧ d < n ∧ ∀ j, j < m → dstOf ops j = some d → i = j) ∧ (m < i → (i - 1) ∈ needs o)) ∧ m < ops.size ∧ ∀ j, j < m → j ∈ clo ops m (needsAt ops m) := by
  unfold tailOk at hc
  simp only [Bool.and_eq_true, decide_eq_true_eq] at hc
  obtain ⟨⟨h1, h2⟩, h3⟩ := hc
  refine ⟨?_, h2, fun j hj => by simpa using List.all_eq_true.1 h3 j (List.mem_range.2 hj)⟩
  intro i o ho
  have hlt : i < ops.size := (Array.getElem?_eq_some_iff.1 ho).1
  have h := List.all_eq_true.1 h1 i (List.mem_range.2 hlt)
  simp only [ho, Bool.and_eq_true] at h
  obtain ⟨⟨ha, hb⟩, hd⟩ := h
  refine ⟨fun j hj => by simpa using List.all_eq_true.1 ha j hj, fun j b hg => by simpa only [hg] using hb, ?_, ?_⟩
  · intro him
    rw [if_pos him] at hd
    cases hdst : o.dst with
    | none => simp [hdst] at hd
    | some d =>
      simp only [hdst, Bool.and_eq_true, decide_eq_true_eq] at hd
      refine ⟨d, rfl, hd.1, fun j hj hje => ?_⟩
      have := List.all_eq_true.1 hd.2 j (List.mem_range.2 hj)
      simp only [Bool.or_eq_true, beq_iff_eq, bne_iff_ne, hje, ne_eq, not_true_eq_false, or_false] at this
      exact this
  · intro him
    rw [if_neg (by omega)] at hd
    simp only [Bool.or_eq_true, beq_iff_eq] at hd
    rcases hd with hd | hd
    · omega
    · simpa using hd

theorem tail_any (hc : tailOk ops m n = true) : ∀ (rest : List Oper) (i fuel : Nat) (listed : Array Bool) (a : Act) (w : World), ops.toList.drop i = rest → listed.size = ops.size → (∀ j, j < ops.size → listed.getD j false = decide (j < i)) → m ≤ i → rest.length ≤ fuel →
    wpList P ops Q rest a w → wpAny P .any ops Q fuel listed a w := by
  obtain ⟨hall, _, _⟩ := tail_parts hc
  intro rest
  induction rest with
  | nil =>
    intro i fuel listed a w hd hs hl hmi hf hw
    have hi : ops.size ≤ i := by
      have := congrArg List.length hd
      simp at this; omega
    have hr : Region.ready .any ops listed = [] := by
      rw [List.eq_nil_iff_forall_not_mem]
      intro j hj
      obtain ⟨o, ho, hlj, _⟩ := (ready_iff hs).1 hj
      have hlt : j < ops.size := (Array.getElem?_eq_some_iff.1 ho).1
      rw [hl j hlt] at hlj
      simp at hlj; omega
    cases fuel with
    | zero => exact ⟨hr, hw⟩
    | succ f => exact ⟨fun _ => hw, fun j hj => by rw [hr] at hj; cases hj⟩
  | cons o rest ih =>
    intro i fuel listed a w hd hs hl hmi hf hw
    have hi : i < ops.size := by
      have := congrArg List.length hd
      simp at this; omega
    have ho : ops[i]? = some o := by
      have := congrArg (fun l : List Oper => l[0]?) hd
      simpa using this
    have hrest : ops.toList.drop (i + 1) = rest := by
      have := congrArg (fun l : List Oper => l.drop 1) hd
      simpa [List.drop_drop] using this
    cases fuel with
    | zero => simp at hf
    | succ f =>
      have hin : i ∈ Region.ready .any ops listed := (ready_iff hs).2 ⟨o, ho, by rw [hl i hi]; simp, fun j hj => by
        have := (hall i o ho).1 j hj
        rw [hl j (by omega)]; simpa using this⟩
      refine ⟨fun h => absurd hin (by rw [h]; simp), ?_⟩
      intro j hj
      obtain ⟨o', ho', hlj, hneed⟩ := (ready_iff hs).1 hj
      have hlt : j < ops.size := (Array.getElem?_eq_some_iff.1 ho').1
      rw [hl j hlt] at hlj
      have hji : j = i := by
        simp at hlj
        by_cases hgt : j = i
        · exact hgt
        · have hmj := (hall j o' ho').2.2.2 (by omega)
          have := hneed _ hmj
          rw [hl (j - 1) (by omega)] at this
          simp at this; omega
      subst hji
      have hnext : ∀ a w, wpList P ops Q rest a w → wpAny P .any ops Q f (listed.setIfInBounds j true) a w := fun a w h =>
        ih (j + 1) f _ a w hrest (by simpa using hs) (fun k hk => by
          simp only [Array.getD_eq_getD_getElem?, Array.getElem?_setIfInBounds]
          by_cases hkj : j = k
          · subst hkj
            rw [if_pos rfl, if_pos (by omega)]; simp
          · rw [if_neg hkj]
            have := hl k hk
            simp only [Array.getD_eq_getD_getElem?] at this
            rw [this]
            congr 1
            simp only [eq_iff_iff]
            omega) (by omega) (by simpa using hf) h
      unfold wpOp
      simp only [ho]
      unfold wpList at hw
      split
      · rename_i hwant
        rw [if_pos hwant] at hw
        exact hw.imp (Oper.wp_mono hnext) id
      · rename_i hwant
        rw [if_neg hwant] at hw
        exact hnext _ _ hw

structure TInv (G : World → World → Prop) (ops : Array Oper) (m : Nat) (a0 : Act) (w0 : World) (F : Nat → Value → World → Prop) (listed : Array Bool) (a : Act) (w : World) : Prop where
  ext : G w0 w
  size : a.tmps.size = a0.tmps.size
  defers : a.defers = a0.defers
  out : ∀ t, (∀ j, j < m → dstOf ops j ≠ some t) → a.tmps[t]? = a0.tmps[t]?
  facts : ∀ i d, i < m → listed.getD i false = true → dstOf ops i = some d → F i (a.tmps.getD d undef) w
  later : ∀ j, m ≤ j → listed.getD j false = false
  closed : Closed ops listed

theorem count_listed {listed : Array Bool} {i N : Nat} (hs : listed.size = N) (hi : i ≤ N) (h : ∀ j, j < N → listed.getD j false = decide (j < i)) : listed.toList.countP (fun b => !b) = N - i := by
  have : listed.toList = List.replicate i true ++ List.replicate (N - i) false := by
    apply List.ext_getElem
    · simp; omega
    · intro k h1 h2
      have hk : k < N := by simp at h1; omega
      have := h k hk
      simp only [Array.getD_eq_getD_getElem?, Array.getElem?_eq_getElem (show k < listed.size by omega), Option.getD_some] at this
      simp only [Array.getElem_toList, this]
      by_cases hki : k < i
      · rw [List.getElem_append_left (by simpa using hki)]
        simp [hki]
      · rw [List.getElem_append_right (by simpa using hki)]
        simp [hki]
  rw [this]
  simp [List.countP_append, List.countP_replicate]

theorem factsTail_any (hG : PreG G) (hc : tailOk ops m n = true) (hn : n = a0.tmps.size) (hmono : ∀ i v w w', F i v w → G w w' → F i v w') (hop : FactsOk G P (ops.extract 0 m) a0 w0 F 0 (ops.toList.take m))
    (hend : ∀ a w, TInv G ops m a0 w0 F (Array.ofFn fun i : Fin ops.size => decide (i.1 < m)) a w → wpList P ops Q (ops.toList.drop m) a w) :
    ∀ (fuel : Nat) (listed : Array Bool) (a : Act) (w : World), listed.size = ops.size → (listed.toList.countP (fun b => !b)) ≤ fuel → TInv G ops m a0 w0 F listed a w → wpAny P .any ops Q fuel listed a w := by
  obtain ⟨hall, hmlt, hclo⟩ := tail_parts hc
  have hsub : ∀ j, j < m → (ops.extract 0 m)[j]? = ops[j]? := fun j hj => by
    rw [Array.getElem?_extract, if_pos (by omega)]; simp
  have hdst : ∀ j d, dstOf (ops.extract 0 m) j = some d → j < m ∧ dstOf ops j = some d := by
    intro j d h
    by_cases hj : j < m
    · exact ⟨hj, by unfold dstOf at h ⊢; rw [← hsub j hj]; exact h⟩
    · unfold dstOf at h
      rw [Array.getElem?_extract, if_neg (by omega)] at h
      cases h
  have fin : ∀ (fuel : Nat) (listed : Array Bool) (a : Act) (w : World), listed.size = ops.size → (listed.toList.countP (fun b => !b)) ≤ fuel → TInv G ops m a0 w0 F listed a w → (∀ j, j < m → listed.getD j false = true) → wpAny P .any ops Q fuel listed a w := by
    intro fuel listed a w hs hf h hpre
    have hl : ∀ j, j < ops.size → listed.getD j false = decide (j < m) := by
      intro j hj
      by_cases hjm : j < m
      · rw [hpre j hjm]; simp [hjm]
      · rw [h.later j (by omega)]; simp [hjm]
    have hcount := count_listed hs (by omega) hl
    refine tail_any hc _ m fuel listed a w rfl hs hl (Nat.le_refl _) (by simp; omega) (hend a w ?_)
    have he : listed = Array.ofFn fun i : Fin ops.size => decide (i.1 < m) := by
      apply Array.ext
      · simpa using hs
      · intro k h1 h2
        have := hl k (by omega)
        simp only [Array.getD_eq_getD_getElem?, Array.getElem?_eq_getElem h1, Option.getD_some] at this
        simpa using this
    rw [← he]
    exact h
  intro fuel
  induction fuel with
  | zero =>
    intro listed a w hs hf h
    refine fin 0 listed a w hs hf h ?_
    intro j hj
    have h0 : listed.toList.countP (fun b => !b) = 0 := by omega
    rw [List.countP_eq_zero] at h0
    have hlt : j < listed.size := by omega
    have := h0 listed[j] (by simp)
    simp only [Array.getD_eq_getD_getElem?, Array.getElem?_eq_getElem hlt, Option.getD_some]
    simpa using this
  | succ fuel ih =>
    intro listed a w hs hf h
    by_cases hpre : ∀ j, j < m → listed.getD j false = true
    · exact fin _ listed a w hs hf h hpre
    · have hready : ∀ i ∈ Region.ready .any ops listed, i < m := by
        intro i hi
        obtain ⟨o, ho, hl, hneed⟩ := (ready_iff hs).1 hi
        by_cases him : i < m
        · exact him
        · exfalso
          by_cases hgt : m < i
          · have := hneed _ ((hall i o ho).2.2.2 hgt)
            rw [h.later (i - 1) (by omega)] at this
            cases this
          · have e : i = m := by omega
            subst e
            apply hpre
            intro j hj
            refine clo_listed h.closed i (needsAt ops i) ?_ j (hclo j hj)
            intro k hk
            unfold needsAt at hk
            rw [ho] at hk
            exact hneed k hk
      refine ⟨fun hr => ?_, ?_⟩
      · exfalso
        apply hpre
        intro j
        induction j using Nat.strongRecOn with
        | ind j ihj =>
          intro hj
          cases hl : listed.getD j false with
          | true => rfl
          | false =>
            exfalso
            have ho := Array.getElem?_eq_getElem (show j < ops.size by omega)
            have hm : j ∈ Region.ready .any ops listed := (ready_iff hs).2 ⟨ops[j], ho, hl, fun k hk => by
              have := (hall j _ ho).1 k hk
              exact ihj k this (by omega)⟩
            rw [hr] at hm
            cases hm
      · intro i hi
        have him := hready i hi
        obtain ⟨o, ho, hl, hneed⟩ := (ready_iff hs).1 hi
        have hlt : i < listed.size := by rw [hs]; exact (Array.getElem?_eq_some_iff.1 ho).1
        obtain ⟨_, hguard, hdd, _⟩ := hall i o ho
        obtain ⟨d, hd, hdn, huniq⟩ := hdd him
        have hdi : dstOf ops i = some d := by unfold dstOf; rw [ho]; exact hd
        have hcount : (listed.setIfInBounds i true).toList.countP (fun b => !b) ≤ fuel := by
          simp only [Array.getD_eq_getD_getElem?, Array.getElem?_eq_getElem hlt, Option.getD_some] at hl
          have hl' : listed.toList[i] = false := by simpa using hl
          have hlt' : i < listed.toList.length := by simpa using hlt
          have e1 : (listed.setIfInBounds i true).toList = listed.toList.set i true := by simp
          rw [e1]
          have := List.countP_set (p := fun b => !b) (l := listed.toList) (i := i) (a := true) hlt'
          have hpos : 0 < listed.toList.countP (fun b => !b) := List.countP_pos_iff.2 ⟨listed.toList[i], List.getElem_mem _, by rw [hl']; rfl⟩
          rw [this, hl']
          simp only [Bool.not_false, Bool.not_true, if_true, Bool.false_eq_true, if_false]
          omega
        have hk : Known (ops.extract 0 m) a0 F o a.eval w := by
          refine ⟨fun _ => rfl, fun _ => rfl, ?_, ?_⟩
          · intro t ht
            have := h.out t (by
              intro j hj he
              unfold outside at ht
              have hoj : ∃ o', ops[j]? = some o' ∧ o'.dst = some t := by
                unfold dstOf at he
                cases hx : ops[j]? with
                | none => simp [hx] at he
                | some o' => exact ⟨o', rfl, by simpa [hx] using he⟩
              obtain ⟨o', ho', hd'⟩ := hoj
              have := Array.all_eq_true'.1 ht o' (Array.mem_of_getElem? ((hsub j hj).trans ho'))
              simp [hd'] at this)
            simp only [Act.eval, Array.getD_eq_getD_getElem?, this]
          · intro j d' hj hd'
            obtain ⟨hjm, hd2⟩ := hdst j d' hd'
            exact h.facts j d' hjm (hneed j (by simpa using hj)) hd2
        have hop' := hop.get i o (by
          rw [List.getElem?_take, if_pos him]; simpa using ho)
        rw [Nat.zero_add] at hop'
        have hok := hop' a.eval w h.ext hk
        have next : ∀ (v : Value) (w' : World), G w w' → F i v w' → wpAny P .any ops Q fuel (listed.setIfInBounds i true) (a.put o.dst v) w' := fun v w' hx hv => by
          refine ih _ _ _ (by simpa using hs) hcount ?_
          have hput : a.put o.dst v = { a with tmps := a.tmps.setIfInBounds d v } := by rw [hd]; rfl
          rw [hput]
          have hset : ∀ j, (listed.setIfInBounds i true).getD j false = if j = i then true else listed.getD j false := by
            intro j
            simp only [Array.getD_eq_getD_getElem?, Array.getElem?_setIfInBounds]
            by_cases hji : i = j
            · subst hji; rw [if_pos rfl, if_pos hlt]; simp
            · rw [if_neg hji, if_neg (by omega)]
          refine ⟨hG.trans h.ext hx, by simpa using h.size, h.defers, ?_, ?_, ?_, ?_⟩
          · intro t ht
            have hne : d ≠ t := fun e => ht i him (by rw [← e]; exact hdi)
            simp only [Array.getElem?_setIfInBounds, if_neg hne]
            exact h.out t ht
          · intro j e hjm hj hje
            by_cases hij : j = i
            · subst hij
              rw [hdi] at hje
              injection hje with hje
              subst hje
              simp only [Array.getD_eq_getD_getElem?, Array.getElem?_setIfInBounds]
              rw [if_pos trivial, if_pos (by rw [h.size, ← hn]; exact hdn)]
              simpa using hv
            · have hed : d ≠ e := fun he => hij (huniq j hjm (by rw [he]; exact hje)).symm
              simp only [Array.getD_eq_getD_getElem?, Array.getElem?_setIfInBounds, if_neg hed]
              rw [hset, if_neg hij] at hj
              have := h.facts j e hjm hj hje
              simp only [Array.getD_eq_getD_getElem?] at this
              exact hmono _ _ _ _ this hx
          · intro j hj
            rw [hset, if_neg (by omega)]
            exact h.later j hj
          · intro j o' ho' hj k hk
            rw [hset]
            split
            · rfl
            · rw [hset] at hj
              by_cases hji : j = i
              · subst hji
                rw [ho] at ho'
                injection ho' with ho'
                subst ho'
                exact hneed k hk
              · rw [if_neg hji] at hj
                exact h.closed j o' ho' hj k hk
        unfold wpOp
        simp only [ho]
        have run : Outcome P (fun v w' => G w w' ∧ F i v w') ((execOp a.eval o).run P w) → o.wp P a w (wpAny P .any ops Q fuel (listed.setIfInBounds i true)) Q := fun hr =>
          Outcome.upon (hr.mono fun v w' ⟨hx, hv⟩ => next v w' hx hv)
        cases hg : o.guard with
        | none =>
          simp only [hg] at hok
          rw [if_pos (by simp [Region.wanted, hg])]
          exact .inl (run hok)
        | some jb =>
          obtain ⟨j, want⟩ := jb
          simp only [hg] at hok
          obtain ⟨d', b, hd', hb, hif⟩ := hok
          have hy : yielded ops a.tmps j = some b := by
            unfold yielded
            have hd2 : ((ops[j]?).bind (·.dst)) = some d' := (hdst j d' hd').2
            rw [hd2]
            simp only [Act.eval, Array.getD_eq_getD_getElem?] at hb
            cases ht : a.tmps[d']? with
            | none => simp [ht, undef] at hb
            | some v =>
              simp only [ht, Option.getD_some] at hb
              subst hb
              simp [ht]
          by_cases hbw : b = want
          · rw [if_pos (by simp [Region.wanted, hg, hy, hbw])]
            rw [if_pos hbw] at hif
            exact .inl (run hif)
          · rw [if_neg (by simp [Region.wanted, hg, hy, hbw])]
            rw [if_neg hbw] at hif
            exact next _ _ (hG.refl w) hif

theorem wp_region_tail {id : Nat} {pre tail : List Oper} {tmps : Array Value} {defers : List Deferred} (hG : PreG G) (hm : P.follows .mixedOrders = true) (hc : tailOk (pre ++ tail).toArray pre.length tmps.size = true) (hmono : ∀ i v w w', F i v w → G w w' → F i v w')
    (hop : FactsOk G P pre.toArray ⟨tmps, defers⟩ w0 F 0 pre)
    (hend : ∀ (vs : Nat → Value) (w : World), G w0 w → (∀ i d, dstOf pre.toArray i = some d → F i (vs i) w) → wpList P (pre ++ tail).toArray Q tail ⟨fill vs pre 0 tmps, defers⟩ w) :
    (Code.region id (pre ++ tail).toArray true).wp P Q ⟨tmps, defers⟩ w0 := by
  obtain ⟨hall, hmlt, hclo⟩ := tail_parts hc
  have hpre : ∀ j, j < pre.length → (pre ++ tail).toArray[j]? = pre.toArray[j]? := fun j hj => by simp [List.getElem?_append_left hj]
  have hdp : ∀ j, j < pre.length → dstOf (pre ++ tail).toArray j = dstOf pre.toArray j := fun j hj => by unfold dstOf; rw [hpre j hj]
  refine wp_region_any hm ?_
  refine factsTail_any (w0 := w0) (a0 := ⟨tmps, defers⟩) (F := F) hG hc rfl hmono (by simpa using hop) ?_ _ _ _ _ (by simp) (by have := List.countP_le_length (p := fun b : Bool => !b) (l := List.replicate (pre ++ tail).toArray.size false); simpa using this) ?_
  · intro a w h
    have hd : (pre ++ tail).toArray.toList.drop pre.length = tail := by simp
    rw [hd]
    have hfacts : ∀ i d, dstOf pre.toArray i = some d → F i (a.tmps.getD d undef) w := fun i d hd => by
      have hlt : i < pre.length := by
        unfold dstOf at hd
        cases ho : pre.toArray[i]? with
        | none => simp [ho] at hd
        | some o => simpa using (Array.getElem?_eq_some_iff.1 ho).1
      refine h.facts i d hlt ?_ (by rw [hdp i hlt]; exact hd)
      simp only [List.size_toArray, List.length_append] at hmlt
      have h2 : i < (pre ++ tail).toArray.size := by simp; omega
      simp only [Array.getD_eq_getD_getElem?, Array.getElem?_ofFn]
      rw [dif_pos h2]
      simpa using hlt
    have hq := hend (fun i => match dstOf pre.toArray i with | some d => a.tmps.getD d undef | none => undef) w h.ext (fun i d hd => by simpa [hd] using hfacts i d hd)
    have ha : a = ⟨fill (fun i => match dstOf pre.toArray i with | some d => a.tmps.getD d undef | none => undef) pre 0 tmps, defers⟩ := by
      cases a with
      | mk t2 d2 =>
        have hdd := h.defers
        simp only at hdd
        subst hdd
        congr 1
        apply Array.ext'
        apply List.ext_getElem?
        intro t
        simp only [Array.getElem?_toList]
        by_cases hex : ∃ o ∈ pre, o.dst = some t
        · obtain ⟨o, ho, hdt⟩ := hex
          obtain ⟨i, hi, rfl⟩ := List.getElem_of_mem ho
          have hoi : (pre ++ tail).toArray[i]? = some pre[i] := by rw [hpre i hi]; simp [hi]
          have hdi : dstOf (pre ++ tail).toArray i = some t := by unfold dstOf; rw [hoi]; exact hdt
          obtain ⟨d', hd', hlt, huniq⟩ := (hall i _ hoi).2.2.1 hi
          have hte : t = d' := by
            have := hdt.symm.trans hd'
            injection this
          have hlt2 : t < tmps.size := by rw [hte]; exact hlt
          rw [fill_in _ pre 0 tmps i pre[i] t (by simp) hdt hlt2 (fun j o' hj hd2 => by
            have hjl : j < pre.length := (List.getElem?_eq_some_iff.1 hj).1
            refine (huniq j hjl ?_).symm
            rw [hdp j hjl]
            unfold dstOf
            rw [show pre.toArray[j]? = some o' from by simpa using hj, ← hte]
            exact hd2)]
          rw [Nat.zero_add, show dstOf pre.toArray i = some t from by rw [← hdp i hi]; exact hdi]
          have hsz := h.size
          simp only at hsz
          simp only [Array.getD_eq_getD_getElem?]
          rw [Array.getElem?_eq_getElem (show t < t2.size from by rw [hsz]; exact hlt2)]
          rfl
        · rw [fill_out]
          · refine h.out t (fun j hj he => hex ?_)
            rw [hdp j hj] at he
            unfold dstOf at he
            cases ho : pre.toArray[j]? with
            | none => simp [ho] at he
            | some o =>
              simp only [ho, Option.bind_some] at he
              exact ⟨o, by simpa using Array.mem_of_getElem? ho, he⟩
          · intro o ho hd2
            exact hex ⟨o, ho, hd2⟩
    rw [ha]
    exact hq
  · exact ⟨hG.drew _, rfl, rfl, fun _ _ => rfl, fun i d _ hi _ => by
      simp only [Array.getD_eq_getD_getElem?, Array.getElem?_replicate] at hi
      split at hi <;> simp at hi, fun j _ => by
      simp only [Array.getD_eq_getD_getElem?, Array.getElem?_replicate]
      split <;> rfl, fun j o _ hj => by
      simp only [Array.getD_eq_getD_getElem?, Array.getElem?_replicate] at hj
      split at hj <;> simp at hj⟩

theorem wp_region_tail_at {id : Nat} {l : List Oper} {tmps : Array Value} {defers : List Deferred} (m : Nat) (hG : PreG G) (hm : P.follows .mixedOrders = true) (hc : tailOk l.toArray m tmps.size = true) (hmono : ∀ i v w w', F i v w → G w w' → F i v w')
    (hop : FactsOk G P (l.take m).toArray ⟨tmps, defers⟩ w0 F 0 (l.take m))
    (hend : ∀ (vs : Nat → Value) (w : World), G w0 w → (∀ i d, dstOf (l.take m).toArray i = some d → F i (vs i) w) → wpList P l.toArray Q (l.drop m) ⟨fill vs (l.take m) 0 tmps, defers⟩ w) :
    (Code.region id l.toArray true).wp P Q ⟨tmps, defers⟩ w0 := by
  have hl : m ≤ l.length := by
    have := (tail_parts hc).2.1
    simp at this
    omega
  have e : l.take m ++ l.drop m = l := List.take_append_drop m l
  have := wp_region_tail (id := id) (pre := l.take m) (tail := l.drop m) (tmps := tmps) (defers := defers) (P := P) (Q := Q) (F := F) (w0 := w0) hG hm (by rw [e, List.length_take, Nat.min_eq_left hl]; exact hc) hmono hop (by rw [e]; exact hend)
  rwa [e] at this
end
end Go.Proofs.YtgdkeafdlehlaaaDoor

/- Regions whose last operations follow all others, over abstract frames. Nothing of the program stands here. -/
namespace Go.Proofs.YtgdkeafdlehlaaaDoor
open Go Go.RowKit
set_option linter.unusedVariables false
set_option linter.unusedSimpArgs false
set_option maxHeartbeats 2000000
section
variable {P : Program} {ops : Array Oper} {a0 : Act} {w0 : World} {F : Nat → Value → World → Prop} {Q : Exit → Act → World → Prop} {n m : Nat} {G : World → World → Prop}
theorem factsTail_any2 (hG : PreG G) (hc : tailOk ops m n = true) (hn : n = a0.tmps.size) (hmono : ∀ i v w w', F i v w → G w w' → F i v w') (hop : FactsOk2 G P (ops.extract 0 m) a0 w0 F 0 (ops.toList.take m))
    (hend : ∀ a w, TInv G ops m a0 w0 F (Array.ofFn fun i : Fin ops.size => decide (i.1 < m)) a w → wpList P ops Q (ops.toList.drop m) a w) :
    ∀ (fuel : Nat) (listed : Array Bool) (a : Act) (w : World), listed.size = ops.size → (listed.toList.countP (fun b => !b)) ≤ fuel → TInv G ops m a0 w0 F listed a w → wpAny P .any ops Q fuel listed a w := by
  obtain ⟨hall, hmlt, hclo⟩ := tail_parts hc
  have hsub : ∀ j, j < m → (ops.extract 0 m)[j]? = ops[j]? := fun j hj => by
    rw [Array.getElem?_extract, if_pos (by omega)]; simp
  have hdst : ∀ j d, dstOf (ops.extract 0 m) j = some d → j < m ∧ dstOf ops j = some d := by
    intro j d h
    by_cases hj : j < m
    · exact ⟨hj, by unfold dstOf at h ⊢; rw [← hsub j hj]; exact h⟩
    · unfold dstOf at h
      rw [Array.getElem?_extract, if_neg (by omega)] at h
      cases h
  have fin : ∀ (fuel : Nat) (listed : Array Bool) (a : Act) (w : World), listed.size = ops.size → (listed.toList.countP (fun b => !b)) ≤ fuel → TInv G ops m a0 w0 F listed a w → (∀ j, j < m → listed.getD j false = true) → wpAny P .any ops Q fuel listed a w := by
    intro fuel listed a w hs hf h hpre
    have hl : ∀ j, j < ops.size → listed.getD j false = decide (j < m) := by
      intro j hj
      by_cases hjm : j < m
      · rw [hpre j hjm]; simp [hjm]
      · rw [h.later j (by omega)]; simp [hjm]
    have hcount := count_listed hs (by omega) hl
    refine tail_any hc _ m fuel listed a w rfl hs hl (Nat.le_refl _) (by simp; omega) (hend a w ?_)
    have he : listed = Array.ofFn fun i : Fin ops.size => decide (i.1 < m) := by
      apply Array.ext
      · simpa using hs
      · intro k h1 h2
        have := hl k (by omega)
        simp only [Array.getD_eq_getD_getElem?, Array.getElem?_eq_getElem h1, Option.getD_some] at this
        simpa using this
    rw [← he]
    exact h
  intro fuel
  induction fuel with
  | zero =>
    intro listed a w hs hf h
    refine fin 0 listed a w hs hf h ?_
    intro j hj
    have h0 : listed.toList.countP (fun b => !b) = 0 := by omega
    rw [List.countP_eq_zero] at h0
    have hlt : j < listed.size := by omega
    have := h0 listed[j] (by simp)
    simp only [Array.getD_eq_getD_getElem?, Array.getElem?_eq_getElem hlt, Option.getD_some]
    simpa using this
  | succ fuel ih =>
    intro listed a w hs hf h
    by_cases hpre : ∀ j, j < m → listed.getD j false = true
    · exact fin _ listed a w hs hf h hpre
    · have hready : ∀ i ∈ Region.ready .any ops listed, i < m := by
        intro i hi
        obtain ⟨o, ho, hl, hneed⟩ := (ready_iff hs).1 hi
        by_cases him : i < m
        · exact him
        · exfalso
          by_cases hgt : m < i
          · have := hneed _ ((hall i o ho).2.2.2 hgt)
            rw [h.later (i - 1) (by omega)] at this
            cases this
          · have e : i = m := by omega
            subst e
            apply hpre
            intro j hj
            refine clo_listed h.closed i (needsAt ops i) ?_ j (hclo j hj)
            intro k hk
            unfold needsAt at hk
            rw [ho] at hk
            exact hneed k hk
      refine ⟨fun hr => ?_, ?_⟩
      · exfalso
        apply hpre
        intro j
        induction j using Nat.strongRecOn with
        | ind j ihj =>
          intro hj
          cases hl : listed.getD j false with
          | true => rfl
          | false =>
            exfalso
            have ho := Array.getElem?_eq_getElem (show j < ops.size by omega)
            have hm : j ∈ Region.ready .any ops listed := (ready_iff hs).2 ⟨ops[j], ho, hl, fun k hk => by
              have := (hall j _ ho).1 k hk
              exact ihj k this (by omega)⟩
            rw [hr] at hm
            cases hm
      · intro i hi
        have him := hready i hi
        obtain ⟨o, ho, hl, hneed⟩ := (ready_iff hs).1 hi
        have hlt : i < listed.size := by rw [hs]; exact (Array.getElem?_eq_some_iff.1 ho).1
        obtain ⟨_, hguard, hdd, _⟩ := hall i o ho
        obtain ⟨d, hd, hdn, huniq⟩ := hdd him
        have hdi : dstOf ops i = some d := by unfold dstOf; rw [ho]; exact hd
        have hcount : (listed.setIfInBounds i true).toList.countP (fun b => !b) ≤ fuel := by
          simp only [Array.getD_eq_getD_getElem?, Array.getElem?_eq_getElem hlt, Option.getD_some] at hl
          have hl' : listed.toList[i] = false := by simpa using hl
          have hlt' : i < listed.toList.length := by simpa using hlt
          have e1 : (listed.setIfInBounds i true).toList = listed.toList.set i true := by simp
          rw [e1]
          have := List.countP_set (p := fun b => !b) (l := listed.toList) (i := i) (a := true) hlt'
          have hpos : 0 < listed.toList.countP (fun b => !b) := List.countP_pos_iff.2 ⟨listed.toList[i], List.getElem_mem _, by rw [hl']; rfl⟩
          rw [this, hl']
          simp only [Bool.not_false, Bool.not_true, if_true, Bool.false_eq_true, if_false]
          omega
        have hk : Known (ops.extract 0 m) a0 F o a.eval w := by
          refine ⟨fun _ => rfl, fun _ => rfl, ?_, ?_⟩
          · intro t ht
            have := h.out t (by
              intro j hj he
              unfold outside at ht
              have hoj : ∃ o', ops[j]? = some o' ∧ o'.dst = some t := by
                unfold dstOf at he
                cases hx : ops[j]? with
                | none => simp [hx] at he
                | some o' => exact ⟨o', rfl, by simpa [hx] using he⟩
              obtain ⟨o', ho', hd'⟩ := hoj
              have := Array.all_eq_true'.1 ht o' (Array.mem_of_getElem? ((hsub j hj).trans ho'))
              simp [hd'] at this)
            simp only [Act.eval, Array.getD_eq_getD_getElem?, this]
          · intro j d' hj hd'
            obtain ⟨hjm, hd2⟩ := hdst j d' hd'
            exact h.facts j d' hjm (hneed j (by simpa using hj)) hd2
        have hop' := hop.get i o (by
          rw [List.getElem?_take, if_pos him]; simpa using ho)
        rw [Nat.zero_add] at hop'
        have hok := hop' a.eval w h.ext hk (fun _ => rfl)
        have next : ∀ (v : Value) (w' : World), G w w' → F i v w' → wpAny P .any ops Q fuel (listed.setIfInBounds i true) (a.put o.dst v) w' := fun v w' hx hv => by
          refine ih _ _ _ (by simpa using hs) hcount ?_
          have hput : a.put o.dst v = { a with tmps := a.tmps.setIfInBounds d v } := by rw [hd]; rfl
          rw [hput]
          have hset : ∀ j, (listed.setIfInBounds i true).getD j false = if j = i then true else listed.getD j false := by
            intro j
            simp only [Array.getD_eq_getD_getElem?, Array.getElem?_setIfInBounds]
            by_cases hji : i = j
            · subst hji; rw [if_pos rfl, if_pos hlt]; simp
            · rw [if_neg hji, if_neg (by omega)]
          refine ⟨hG.trans h.ext hx, by simpa using h.size, h.defers, ?_, ?_, ?_, ?_⟩
          · intro t ht
            have hne : d ≠ t := fun e => ht i him (by rw [← e]; exact hdi)
            simp only [Array.getElem?_setIfInBounds, if_neg hne]
            exact h.out t ht
          · intro j e hjm hj hje
            by_cases hij : j = i
            · subst hij
              rw [hdi] at hje
              injection hje with hje
              subst hje
              simp only [Array.getD_eq_getD_getElem?, Array.getElem?_setIfInBounds]
              rw [if_pos trivial, if_pos (by rw [h.size, ← hn]; exact hdn)]
              simpa using hv
            · have hed : d ≠ e := fun he => hij (huniq j hjm (by rw [he]; exact hje)).symm
              simp only [Array.getD_eq_getD_getElem?, Array.getElem?_setIfInBounds, if_neg hed]
              rw [hset, if_neg hij] at hj
              have := h.facts j e hjm hj hje
              simp only [Array.getD_eq_getD_getElem?] at this
              exact hmono _ _ _ _ this hx
          · intro j hj
            rw [hset, if_neg (by omega)]
            exact h.later j hj
          · intro j o' ho' hj k hk
            rw [hset]
            split
            · rfl
            · rw [hset] at hj
              by_cases hji : j = i
              · subst hji
                rw [ho] at ho'
                injection ho' with ho'
                subst ho'
                exact hneed k hk
              · rw [if_neg hji] at hj
                exact h.closed j o' ho' hj k hk
        unfold wpOp
        simp only [ho]
        have run : Outcome P (fun v w' => G w w' ∧ F i v w') ((execOp a.eval o).run P w) → o.wp P a w (wpAny P .any ops Q fuel (listed.setIfInBounds i true)) Q := fun hr =>
          Outcome.upon (hr.mono fun v w' ⟨hx, hv⟩ => next v w' hx hv)
        cases hg : o.guard with
        | none =>
          simp only [hg] at hok
          rw [if_pos (by simp [Region.wanted, hg])]
          exact .inl (run hok)
        | some jb =>
          obtain ⟨j, want⟩ := jb
          simp only [hg] at hok
          obtain ⟨d, hd, hyes, hno⟩ := hok
          have hd' : ((ops[j]?).bind (·.dst)) = some d := (hdst j d hd).2
          by_cases hb : a.eval (.tmp d) = .bool want
          · have hy : yielded ops a.tmps j = some want := by
              unfold yielded
              rw [hd']
              simp only [Act.eval, Array.getD_eq_getD_getElem?] at hb
              cases ht : a.tmps[d]? with
              | none => simp [ht, undef] at hb
              | some v =>
                simp only [ht, Option.getD_some] at hb
                subst hb
                simp [ht]
            rw [if_pos (by simp [Region.wanted, hg, hy])]
            exact .inl (run (hyes hb))
          · have hy : yielded ops a.tmps j ≠ some want := by
              unfold yielded
              rw [hd']
              intro he
              apply hb
              simp only [Act.eval, Array.getD_eq_getD_getElem?]
              cases ht : a.tmps[d]? with
              | none => simp [ht] at he
              | some v =>
                simp only [Option.getD_some]
                cases v <;> simp_all
            rw [if_neg (by simp [Region.wanted, hg, hy])]
            exact next _ _ (hG.refl w) (hno hb)

theorem wp_region_tail2 {id : Nat} {pre tail : List Oper} {tmps : Array Value} {defers : List Deferred} (hG : PreG G) (hm : P.follows .mixedOrders = true) (hc : tailOk (pre ++ tail).toArray pre.length tmps.size = true) (hmono : ∀ i v w w', F i v w → G w w' → F i v w')
    (hop : FactsOk2 G P pre.toArray ⟨tmps, defers⟩ w0 F 0 pre)
    (hend : ∀ (vs : Nat → Value) (w : World), G w0 w → (∀ i d, dstOf pre.toArray i = some d → F i (vs i) w) → wpList P (pre ++ tail).toArray Q tail ⟨fill vs pre 0 tmps, defers⟩ w) :
    (Code.region id (pre ++ tail).toArray true).wp P Q ⟨tmps, defers⟩ w0 := by
  obtain ⟨hall, hmlt, hclo⟩ := tail_parts hc
  have hpre : ∀ j, j < pre.length → (pre ++ tail).toArray[j]? = pre.toArray[j]? := fun j hj => by simp [List.getElem?_append_left hj]
  have hdp : ∀ j, j < pre.length → dstOf (pre ++ tail).toArray j = dstOf pre.toArray j := fun j hj => by unfold dstOf; rw [hpre j hj]
  refine wp_region_any hm ?_
  refine factsTail_any2 (w0 := w0) (a0 := ⟨tmps, defers⟩) (F := F) hG hc rfl hmono (by simpa using hop) ?_ _ _ _ _ (by simp) (by have := List.countP_le_length (p := fun b : Bool => !b) (l := List.replicate (pre ++ tail).toArray.size false); simpa using this) ?_
  · intro a w h
    have hd : (pre ++ tail).toArray.toList.drop pre.length = tail := by simp
    rw [hd]
    have hfacts : ∀ i d, dstOf pre.toArray i = some d → F i (a.tmps.getD d undef) w := fun i d hd => by
      have hlt : i < pre.length := by
        unfold dstOf at hd
        cases ho : pre.toArray[i]? with
        | none => simp [ho] at hd
        | some o => simpa using (Array.getElem?_eq_some_iff.1 ho).1
      refine h.facts i d hlt ?_ (by rw [hdp i hlt]; exact hd)
      simp only [List.size_toArray, List.length_append] at hmlt
      have h2 : i < (pre ++ tail).toArray.size := by simp; omega
      simp only [Array.getD_eq_getD_getElem?, Array.getElem?_ofFn]
      rw [dif_pos h2]
      simpa using hlt
    have hq := hend (fun i => match dstOf pre.toArray i with | some d => a.tmps.getD d undef | none => undef) w h.ext (fun i d hd => by simpa [hd] using hfacts i d hd)
    have ha : a = ⟨fill (fun i => match dstOf pre.toArray i with | some d => a.tmps.getD d undef | none => undef) pre 0 tmps, defers⟩ := by
      cases a with
      | mk t2 d2 =>
        have hdd := h.defers
        simp only at hdd
        subst hdd
        congr 1
        apply Array.ext'
        apply List.ext_getElem?
        intro t
        simp only [Array.getElem?_toList]
        by_cases hex : ∃ o ∈ pre, o.dst = some t
        · obtain ⟨o, ho, hdt⟩ := hex
          obtain ⟨i, hi, rfl⟩ := List.getElem_of_mem ho
          have hoi : (pre ++ tail).toArray[i]? = some pre[i] := by rw [hpre i hi]; simp [hi]
          have hdi : dstOf (pre ++ tail).toArray i = some t := by unfold dstOf; rw [hoi]; exact hdt
          obtain ⟨d', hd', hlt, huniq⟩ := (hall i _ hoi).2.2.1 hi
          have hte : t = d' := by
            have := hdt.symm.trans hd'
            injection this
          have hlt2 : t < tmps.size := by rw [hte]; exact hlt
          rw [fill_in _ pre 0 tmps i pre[i] t (by simp) hdt hlt2 (fun j o' hj hd2 => by
            have hjl : j < pre.length := (List.getElem?_eq_some_iff.1 hj).1
            refine (huniq j hjl ?_).symm
            rw [hdp j hjl]
            unfold dstOf
            rw [show pre.toArray[j]? = some o' from by simpa using hj, ← hte]
            exact hd2)]
          rw [Nat.zero_add, show dstOf pre.toArray i = some t from by rw [← hdp i hi]; exact hdi]
          have hsz := h.size
          simp only at hsz
          simp only [Array.getD_eq_getD_getElem?]
          rw [Array.getElem?_eq_getElem (show t < t2.size from by rw [hsz]; exact hlt2)]
          rfl
        · rw [fill_out]
          · refine h.out t (fun j hj he => hex ?_)
            rw [hdp j hj] at he
            unfold dstOf at he
            cases ho : pre.toArray[j]? with
            | none => simp [ho] at he
            | some o =>
              simp only [ho, Option.bind_some] at he
              exact ⟨o, by simpa using Array.mem_of_getElem? ho, he⟩
          · intro o ho hd2
            exact hex ⟨o, ho, hd2⟩
    rw [ha]
    exact hq
  · exact ⟨hG.drew _, rfl, rfl, fun _ _ => rfl, fun i d _ hi _ => by
      simp only [Array.getD_eq_getD_getElem?, Array.getElem?_replicate] at hi
      split at hi <;> simp at hi, fun j _ => by
      simp only [Array.getD_eq_getD_getElem?, Array.getElem?_replicate]
      split <;> rfl, fun j o _ hj => by
      simp only [Array.getD_eq_getD_getElem?, Array.getElem?_replicate] at hj
      split at hj <;> simp at hj⟩

end
section
variable {P : Program} {c : Ctx} {n : Nat} {Q : AQ} {fr : List (Nat × AV)} {H : List (Nat × Res)} {ops : Array Oper}
def RF (S : Nat → Prop) (γ : Nat → Value) (w0 : World) (qs0 : List AV) (kx : Nat) (X : World → Value → World → Prop) : Nat → Value → World → Prop :=
  fun i v w => w0.heap.size ≤ w.heap.size ∧ ((qs0[i]?).getD .any).holds (FreshS S w0 w) γ w v ∧ (i = kx → X w0 v w)
theorem region_core {id : Nat} {pre tail : List Oper} {qs0 : List AV} (kx : Nat) (X : World → Value → World → Prop) (hmX : ∀ {w0 v w w'}, X w0 v w → Ext w w' → X w0 v w')
    (hXop : ∀ o, pre[kx]? = some o → o.guard = none ∧ ∀ ρ w0 w, w0.heap.size ≤ w.heap.size → Outcome P (fun v w' => Ext w w' ∧ X w0 v w') ((execOp ρ o).run P w)) (hany : (qs0[kx]?).getD .any = .any)
    (hm : P.follows .mixedOrders = true) (htc : tailOk (pre ++ tail).toArray pre.length n = true) (hc : regOk pre.toArray n = true) (hdep : depsOk pre.toArray = true) (ev : Ev P pre.toArray H pre fr qs0)
    {S : Nat → Prop} {γ : Nat → Value} {tmps : Array Value} {w0 : World} (hr : Rel c n fr H S γ tmps w0) {Q : Exit → Act → World → Prop}
    (hend : ∀ (vs : Nat → Value) (w : World), Ext w0 w → (∀ i d, dstOf pre.toArray i = some d → RF S γ w0 qs0 kx X i (vs i) w) → wpList P (pre ++ tail).toArray Q tail ⟨fill vs pre 0 tmps, []⟩ w) :
    (Code.region id (pre ++ tail).toArray true).wp P Q ⟨tmps, []⟩ w0 := by
  have hlen := ev.len
  subst_vars
  have hsz := hr.size
  have huniq : ∀ {i j : Nat} {d : Tmp}, dstOf pre.toArray i = some d → dstOf pre.toArray j = some d → i = j := fun hi hj => dst_unique hc hi hj
  have hdst : ∀ {i : Nat} {o : Oper}, pre[i]? = some o → dstOf pre.toArray i = o.dst := fun ho => by unfold dstOf; simp [ho]
  have hlook : ∀ (i : Nat) {j : Nat} {x : Tmp}, dstOf pre.toArray j = some x → j < i → look (frAfter (pre.take i) (qs0.take i) fr) x = qs0[j]? := by
    intro i j x hj hji
    have hjo : ∃ o, pre[j]? = some o ∧ o.dst = some x := by
      unfold dstOf at hj
      cases ho : pre[j]? with
      | none => simp [ho] at hj
      | some o => exact ⟨o, rfl, by simpa [ho] using hj⟩
    obtain ⟨o, ho, hd⟩ := hjo
    rw [frAfter_in (pre.take i) (qs0.take i) fr j o (by rw [List.getElem?_take, if_pos hji]; exact ho) hd ?_ (by simp [hlen])]
    · rw [List.getElem?_take, if_pos hji]
    · intro k o' hk hd'
      rw [List.getElem?_take] at hk
      split at hk
      · exact huniq ((hdst hk).trans hd') ((hdst ho).trans hd)
      · cases hk
  have hout : ∀ (i : Nat) {x : Tmp}, outside pre.toArray x = true → look (frAfter (pre.take i) (qs0.take i) fr) x = look fr x := by
    intro i x hx
    apply frAfter_out
    intro o ho he
    unfold outside at hx
    have := Array.all_eq_true'.1 hx o (by simpa using List.mem_of_mem_take ho)
    simp [he] at this
  have hsame : ∀ {w w' : World}, w0.heap.size ≤ w.heap.size → Ext w w' → Same (FreshS S w0 w) w w' := by
    intro w w' hle x b hb
    apply x.block
    rcases hb with hb | ⟨_, hb⟩
    · have := hr.st.sz b hb; omega
    · exact hb
  have hsub : ∀ {w w' : World}, Ext w w' → ∀ b, FreshS S w0 w b → FreshS S w0 w' b := by
    intro w w' x b hb
    rcases hb with hb | ⟨h1, h2⟩
    · exact .inl hb
    · exact .inr ⟨h1, Nat.lt_of_lt_of_le h2 x.size⟩
  refine wp_region_tail2 (F := RF S γ w0 qs0 kx X) preExt hm (by rw [hsz]; exact htc) ?_ (factsOk2_of ?_) hend
  · rintro i v w w' ⟨hle, hh, hX⟩ x
    exact ⟨Nat.le_trans hle x.size, AV.ext (hsub x) (hsame hle x) hh, fun e => hmX (hX e) x⟩
  · intro i o ho ρ w hx hk hglob
    rw [Nat.zero_add]
    obtain ⟨a, ha, ⟨d, hd⟩, hoa⟩ := ev.get i o ho
    obtain ⟨_, hneeds, hguard⟩ := op_check hc (i := i) (o := o) (by simpa using ho)
    have hdo : (o.op.operands.toList.all fun | .tmp t => outside pre.toArray t || (needs o).any fun j => dstOf pre.toArray j == some t | _ => true) = true := by
      unfold depsOk at hdep
      rw [List.all_eq_true] at hdep
      have := hdep o (by simpa using List.mem_of_getElem? ho)
      simp only [Bool.and_eq_true] at this
      exact this.1
    have hF : ∀ {j : Nat} {x : Tmp} {av : AV}, (needs o).contains j = true → dstOf pre.toArray j = some x → look (frAfter (pre.take i) (qs0.take i) fr) x = some av → av.holds (FreshS S w0 w) γ w (ρ (.tmp x)) := by
      intro j x av hj hjd hl
      have hji := hneeds j (by simpa using hj)
      rw [hlook i hjd hji] at hl
      have := (hk.dep j x hj hjd).2.1
      rw [hl] at this
      exact this
    have henv : Env (frAfter (pre.take i) (qs0.take i) fr) H (fun x => x ∈ o.op.operands) ρ (FreshS S w0 w) γ w := by
      refine ⟨hr.st.ext hx, ?_, hk.const, hk.func, hglob⟩
      intro x av hu hl
      rw [List.all_eq_true] at hdo
      have := hdo (.tmp x) (by simpa using hu)
      simp only [Bool.or_eq_true] at this
      rcases this with ho' | ho'
      · rw [hk.out x ho']
        rw [hout i ho'] at hl
        exact AV.ext freshS_sub (same_of_ext hr.st.sz hx) (hr.fr x av hl)
      · rw [List.any_eq_true] at ho'
        obtain ⟨j, hj, hjd⟩ := ho'
        exact hF (by simpa using hj) (by simpa using hjd) hl
    by_cases hik : i = kx
    · obtain ⟨hgn, hrun⟩ := hXop o (by rw [← hik]; exact ho)
      simp only [hgn]
      refine (hrun ρ w0 w hx.size).mono ?_
      rintro v w' ⟨x, hXv⟩
      refine ⟨x, Nat.le_trans hx.size x.size, ?_, fun _ => hXv⟩
      rw [hik, hany]
      simp only [Option.getD_some, AV.holds]
    have run : ∀ a' : AV, SOp P o (frAfter (pre.take i) (qs0.take i) fr) H a' → (∀ v w', a'.holds (FreshS S w0 w') γ w' v → a.holds (FreshS S w0 w') γ w' v) → Outcome P (fun v w' => Ext w w' ∧ RF S γ w0 qs0 kx X i v w') ((execOp ρ o).run P w) := by
      intro a' hs hi
      refine (hs _ γ w ρ henv).mono ?_
      rintro v w' ⟨x, hv⟩
      refine ⟨x, Nat.le_trans hx.size x.size, ?_, fun e => absurd e hik⟩
      rw [ha]
      refine hi v w' (AV.ext ?_ (fun _ _ => rfl) hv)
      rintro b (hb | ⟨h1, h2⟩)
      · exact hsub x b hb
      · exact .inr ⟨Nat.le_trans hx.size h1, h2⟩
    cases hoa with
    | plain hg hs =>
      simp only [hg]
      exact run _ hs (fun _ _ h => h)
    | @guard a j dj want b hg hdj hl hs =>
      simp only [hg]
      have hb := hF (hguard j want hg) hdj hl
      simp only [AV.holds] at hb
      refine ⟨dj, hdj, fun he => ?_, fun he => ?_⟩
      · have hbw : b = want := by rw [he] at hb; simpa using hb.symm
        refine run _ (hs hbw) fun v w' hv => ?_
        simp only [AV.holds]
        exact ⟨fun _ => hv, fun hn => absurd hbw hn⟩
      · refine ⟨hx.size, ?_, fun e => absurd e hik⟩
        rw [ha]
        simp only [Option.getD_some, AV.holds]
        refine ⟨fun hbw => absurd (by rw [hb, hbw]) he, fun _ => trivial⟩
    | @guardw a j dj want b p hg hdj hl hs =>
      simp only [hg]
      have hb := hF (hguard j want hg) hdj hl
      simp only [AV.holds] at hb
      refine ⟨dj, hdj, fun he => ?_, fun he => ?_⟩
      · have hbw : p ∧ b = want := by
          by_cases hp : p
          · have h1 := hb.1 hp
            rw [he] at h1
            exact ⟨hp, by simpa using h1.symm⟩
          · have h1 := hb.2 hp
            rw [he] at h1
            simp [undef] at h1
        refine run _ (hs hbw) fun v w' hv => ?_
        simp only [AV.holds]
        exact ⟨fun _ => hv, fun hn => absurd hbw hn⟩
      · refine ⟨hx.size, ?_, fun e => absurd e hik⟩
        rw [ha]
        simp only [Option.getD_some, AV.holds]
        refine ⟨fun hbw => absurd (by rw [hb.1 hbw.1, hbw.2]) he, fun _ => trivial⟩

theorem frame_after {pre : List Oper} {qs0 : List AV} (hc : regOk pre.toArray n = true) (ev : Ev P pre.toArray H pre fr qs0) {tmps : Array Value} (hsz : tmps.size = n) (vs : Nat → Value) {y : Nat} {av : AV} (hl : look (frAfter pre qs0 fr) y = some av) :
    (look fr y = some av ∧ (fill vs pre 0 tmps).getD y undef = tmps.getD y undef) ∨ ∃ i, dstOf pre.toArray i = some y ∧ qs0[i]? = some av ∧ (fill vs pre 0 tmps).getD y undef = vs i := by
  have hlen := ev.len
  have hdst : ∀ {i : Nat} {o : Oper}, pre[i]? = some o → dstOf pre.toArray i = o.dst := fun ho => by unfold dstOf; simp [ho]
  by_cases hex : ∃ o ∈ pre, o.dst = some y
  · right
    obtain ⟨o, hmem, hd⟩ := hex
    obtain ⟨i, hi⟩ := List.getElem?_of_mem hmem
    have hdi := (hdst hi).trans hd
    rw [frAfter_in pre qs0 fr i o hi hd (fun k o' hk hd' => dst_unique hc ((hdst hk).trans hd') hdi) hlen] at hl
    exact ⟨i, hdi, hl, fill_get vs (by rw [hsz]; exact hc) hdi⟩
  · left
    have hno : ∀ o ∈ pre, o.dst ≠ some y := fun o ho e => hex ⟨o, ho, e⟩
    rw [frAfter_out pre qs0 fr hno] at hl
    refine ⟨hl, ?_⟩
    have hfo := fill_out vs pre 0 tmps y hno
    simp only [Array.getD_eq_getD_getElem?, hfo]
def splitT : List Oper → List Oper × List Oper
  | [] => ([], [])
  | o :: r => match o.dst with
    | none => ([], o :: r)
    | some _ => match splitT r with | (a, b) => (o :: a, b)
theorem splitT_app : ∀ (l : List Oper), (splitT l).1 ++ (splitT l).2 = l
  | [] => rfl
  | o :: r => by
    have ih := splitT_app r
    unfold splitT
    split
    · rfl
    · simp only [List.cons_append, ih]
theorem a_region_tail {id : Nat} {l pre tail : List Oper} {o1 : Oper} (hsp : splitT l = (pre, o1 :: tail)) (hm : P.follows .mixedOrders = true) (htc : tailOk l.toArray pre.length n = true) (hc : regOk pre.toArray n = true) (hdep : depsOk pre.toArray = true)
    (ev : EvK P pre.toArray H (fun fr' => AOps P c n l.toArray (o1 :: tail) Q fr' H) pre fr) : ACode P c n (.region id l.toArray true) Q fr H := fun S γ tmps w0 hr => by
  obtain ⟨qs0, h1, h2⟩ := ev.ev
  have e : pre ++ (o1 :: tail) = l := by have := splitT_app l; rw [hsp] at this; exact this
  subst e
  refine region_core pre.length (fun _ _ _ => True) (fun _ _ => trivial) (fun o ho => by simp at ho) (by rw [List.getElem?_eq_none (by rw [h1.len]; omega)]; rfl) hm htc hc hdep h1 hr ?_
  intro vs w x hf
  have hrx := hr.ext x
  refine h2 (FreshS S w0 w) γ _ w ⟨hrx.st, ?_, hrx.up, hrx.own, hrx.ids, by rw [fill_size]; exact hr.size, hrx.keep⟩
  intro y av hl
  rcases frame_after hc h1 hr.size vs hl with ⟨h, e⟩ | ⟨i, hi, ha, e⟩
  · rw [e]; exact hrx.fr y av h
  · rw [e]
    have := (hf i y hi).2.1
    rw [ha] at this
    exact this
mutual
/-- nothing read from memory that is not named -/
def AV.still : AV → Bool
  | .snap _ => false
  | .agg cs => AV.stillL cs
  | .tup cs => AV.stillL cs
  | .fn _ cs => AV.stillL cs
  | .when _ a => AV.still a
  | _ => true
def AV.stillL : List AV → Bool
  | [] => true
  | c :: cs => AV.still c && AV.stillL cs
end
mutual
theorem AV.still_any {S S' : Nat → Prop} {γ γ' : Nat → Value} {w w' : World} (p : Nat → Bool) (hg : ∀ j, p j = true → γ' j = γ j) : ∀ (a : AV) (v : Value), a.still = true → a.uses p = true → a.holds S γ w v → a.holds S' γ' w' v
  | .any, v, _, _, _ => by simp [AV.holds]
  | .lit u, v, _, _, h => by simpa [AV.holds] using h
  | .snap F, v, hf, _, h => by simp [AV.still] at hf
  | .own j, v, _, hu, h => by
    simp only [AV.holds, AV.uses] at h hu ⊢
    rw [hg j hu]; exact h
  | .ptr j off, v, _, hu, h => by
    simp only [AV.holds, AV.uses] at h hu ⊢
    rw [hg j hu]; exact h
  | .sl j off m k, v, _, hu, h => by
    simp only [AV.holds, AV.uses] at h hu ⊢
    rw [hg j hu]; exact h
  | .pre j m, v, _, hu, h => by
    simp only [AV.holds, AV.uses] at h hu ⊢
    rw [hg j hu]; exact h
  | .fn f cs, v, hf, hu, h => by
    simp only [AV.holds, AV.still, AV.uses] at h hf hu ⊢
    obtain ⟨vs, rfl, h⟩ := h
    exact ⟨vs, rfl, AV.still_anyL p hg cs vs hf hu h⟩
  | .agg cs, v, hf, hu, h => by
    simp only [AV.holds, AV.still, AV.uses] at h hf hu ⊢
    obtain ⟨vs, rfl, h⟩ := h
    exact ⟨vs, rfl, AV.still_anyL p hg cs vs hf hu h⟩
  | .tup cs, v, hf, hu, h => by
    simp only [AV.holds, AV.still, AV.uses] at h hf hu ⊢
    obtain ⟨vs, rfl, h⟩ := h
    exact ⟨vs, rfl, AV.still_anyL p hg cs vs hf hu h⟩
  | .when q a, v, hf, hu, h => by
    simp only [AV.holds, AV.still, AV.uses] at h hf hu ⊢
    exact ⟨fun hq => AV.still_any p hg a v hf hu (h.1 hq), h.2⟩
theorem AV.still_anyL {S S' : Nat → Prop} {γ γ' : Nat → Value} {w w' : World} (p : Nat → Bool) (hg : ∀ j, p j = true → γ' j = γ j) : ∀ (cs : List AV) (vs : List Value), AV.stillL cs = true → AV.usesL p cs = true → AV.holdsL S γ w cs vs → AV.holdsL S' γ' w' cs vs
  | [], vs, _, _, h => by simpa [AV.holdsL] using h
  | c :: cs, vs, hf, hu, h => by
    simp only [AV.holdsL, AV.stillL, AV.usesL, Bool.and_eq_true] at h hf hu ⊢
    obtain ⟨v, vs', rfl, h1, h2⟩ := h
    exact ⟨v, vs', rfl, AV.still_any p hg c v hf.1 hu.1 h1, AV.still_anyL p hg cs vs' hf.2 hu.2 h2⟩
end
theorem sop_alloc_any {o : Oper} {ZT : List (Nat × List Z)} {t : TypeId} {zs : List Z} (ho : o.op = .alloc t := by rfl) (hZ : ZOk P ZT := by assumption) (hz : look ZT t = some zs := by rfl) : SOp P o fr H .any := fun S γ w ρ env => by
  obtain ⟨i, z, hi, hiz, hzc⟩ := hZ.zero hz
  refine outc (v := .pointer (some ⟨w.heap.size, 0, none⟩)) (w' := w.alloc (.cells z.cells t)) ?_ ?_
  · simp [execOp, ho, Instr.alloc, zeroValue, typeInfo, hi, hiz, newVar, newRow]
  · exact ⟨Ext.alloc w _, by simp [AV.holds]⟩
def isAlloc (o : Oper) : Option (TypeId × Nat) := match o.op, o.dst, o.guard with
  | .alloc t, some d, none => some (t, d)
  | _, _, _ => none
def allocOf : Nat → List Oper → Option (Nat × TypeId × Nat)
  | _, [] => none
  | i, o :: r => match isAlloc o with
    | some (t, d) => some (i, t, d)
    | none => allocOf (i + 1) r
theorem allocOf_at : ∀ (l : List Oper) (i k : Nat) (t : TypeId) (d : Nat), allocOf i l = some (k, t, d) → ∃ o, i ≤ k ∧ l[k - i]? = some o ∧ o.op = .alloc t ∧ o.dst = some d ∧ o.guard = none
  | [], i, k, t, d, h => by simp [allocOf] at h
  | o :: r, i, k, t, d, h => by
    unfold allocOf at h
    cases ha : isAlloc o with
    | some p =>
      rw [ha] at h
      simp only [Option.some.injEq, Prod.mk.injEq] at h
      obtain ⟨rfl, h1, h2⟩ := h
      refine ⟨o, Nat.le_refl _, by simp, ?_⟩
      unfold isAlloc at ha
      split at ha
      · rename_i t' d' h3 h4 h5
        simp only [Option.some.injEq] at ha
        subst ha
        simp only at h1 h2
        subst h1 h2
        exact ⟨h3, h4, h5⟩
      · cases ha
    | none =>
      rw [ha] at h
      obtain ⟨o', h1, h2, h3⟩ := allocOf_at r (i + 1) k t d h
      refine ⟨o', by omega, ?_, h3⟩
      rw [show k - i = (k - (i + 1)) + 1 from by omega]
      simpa using h2
theorem look_markF (M : Nat → Bool) : ∀ (fr : List (Nat × AV)) (x : Nat), look (markF M fr) x = (look fr x).map fun a => match a.uses (fun j => !(M j)) with | true => a | false => .any
  | [], x => rfl
  | (k, b) :: fr, x => by
    have ih := look_markF M fr x
    unfold markF at ih ⊢
    simp only [List.map_cons]
    rw [look_cons, look_cons]
    split
    · rfl
    · exact ih
def stillsAt (d : Nat) (pre : List Oper) (fr : List (Nat × AV)) : Bool := pre.all fun o => match o.dst with
  | some x => Nat.beq x d || (match look fr x with | some a => a.still | none => false)
  | none => false
theorem tailA_k {A B C : Prop} (h1 : A) (h2 : B) (h3 : C) : A ∧ B ∧ C := ⟨h1, h2, h3⟩
theorem a_region_tailA {id : Nat} {l pre tail : List Oper} {o1 : Oper} {k d : Nat} {t : TypeId} {ZT : List (Nat × List Z)} {zs : List Z} (hsp : splitT l = (pre, o1 :: tail)) (hal : allocOf 0 pre = some (k, t, d)) (hm : P.follows .mixedOrders = true) (htc : tailOk l.toArray pre.length n = true) (hc : regOk pre.toArray n = true) (hdep : depsOk pre.toArray = true)
    (hZ : ZOk P ZT) (hz : look ZT t = some zs) (hn : Nat.blt d n = true) (hu : usesH (one1 (d + 1000)) (dropH (one1 (d + 1000)) H) = true)
    (ev : EvK P pre.toArray H (fun fr' => look fr' d = some .any ∧ stillsAt d pre fr' = true ∧ AOps P c n l.toArray (o1 :: tail) Q ((d, .ptr (d + 1000) 0) :: markF (one1 (d + 1000)) fr') ((d + 1000, .box (zAV zs)) :: dropH (one1 (d + 1000)) H)) pre fr) : ACode P c n (.region id l.toArray true) Q fr H := fun S γ tmps w0 hr => by
  obtain ⟨qs0, h1, hda, hst, h2⟩ := ev.ev
  have e : pre ++ (o1 :: tail) = l := by have := splitT_app l; rw [hsp] at this; exact this
  subst e
  obtain ⟨ok, _, hok, hop, hdst, hg⟩ := allocOf_at pre 0 k t d hal
  rw [Nat.sub_zero] at hok
  have hlen := h1.len
  have hkl := (List.getElem?_eq_some_iff.1 hok).1
  have hdst' : ∀ {i : Nat} {o : Oper}, pre[i]? = some o → dstOf pre.toArray i = o.dst := fun ho => by unfold dstOf; simp [ho]
  have hlk : ∀ {i : Nat} {o : Oper} {x : Nat}, pre[i]? = some o → o.dst = some x → look (frAfter pre qs0 fr) x = qs0[i]? := fun {i o x} hi hd =>
    frAfter_in pre qs0 fr i o hi hd (fun k o' hk hd' => dst_unique hc ((hdst' hk).trans hd') ((hdst' hi).trans hd)) hlen
  have hak : qs0[k]? = some .any := by rw [← hlk hok hdst]; exact hda
  obtain ⟨zi, z, hi, hiz, hzc⟩ := hZ.zero hz
  refine region_core k (fun w0 v w => ∃ b arr, v = .pointer (some ⟨b, 0, none⟩) ∧ w0.heap.size ≤ b ∧ b < w.heap.size ∧ w.heap[b]? = some (.cells arr t) ∧ arr.toList = zs.map Z.val) ?_ ?_ (by rw [hak]; rfl) hm htc hc hdep h1 hr ?_
  · rintro w0 v w w' ⟨b, arr, rfl, hb, hlt, hh, ha⟩ x
    exact ⟨b, arr, rfl, hb, Nat.lt_of_lt_of_le hlt x.size, (x.block b hlt).trans hh, ha⟩
  · intro o ho
    rw [hok] at ho
    injection ho with ho
    subst ho
    refine ⟨hg, fun ρ w0 w hle => ?_⟩
    refine outc (v := .pointer (some ⟨w.heap.size, 0, none⟩)) (w' := w.alloc (.cells z.cells t)) ?_ ?_
    · simp [execOp, hop, Instr.alloc, zeroValue, typeInfo, hi, hiz, newVar, newRow]
    · have hnew := heap_alloc_new w (.cells z.cells t)
      exact ⟨Ext.alloc w _, w.heap.size, z.cells, rfl, hle, (Array.getElem?_eq_some_iff.1 hnew).1, hnew, hzc⟩
  · intro vs w x hf
    obtain ⟨b, arr, hv, hb, hlt, hh, harr⟩ := (hf k d ((hdst' hok).trans hdst)).2.2 rfl
    have he := hr.eff1 (d + 1000) (w' := w) (r := .box (zAV zs)) (v := .pointer (some ⟨b, 0, none⟩)) (Keep.of_ext x) ⟨b, arr, t, rfl, hh, by rw [harr]; exact zAV_holds zs⟩ rfl
      (fun b' hb' => by simp [rblk] at hb'; subst hb'; exact .inl hb) (Nat.ble_eq_true_of_le (by omega)) hu
    refine h2 S (upd γ (d + 1000) (.pointer (some ⟨b, 0, none⟩))) _ w ⟨he.st, ?_, he.up, he.own, he.ids, by rw [fill_size]; exact hr.size, he.keep⟩
    intro y av hl
    rw [look_cons] at hl
    by_cases hyd : d = y
    · subst hyd
      rw [if_pos rfl] at hl
      injection hl with hl
      subst hl
      rw [fill_get vs (by rw [hr.size]; exact hc) ((hdst' hok).trans hdst), hv]
      exact ptr_new
    · rw [if_neg hyd, look_markF] at hl
      cases hf0 : look (frAfter pre qs0 fr) y with
      | none => rw [hf0] at hl; cases hl
      | some a0 =>
        rw [hf0] at hl
        simp only [Option.map_some, Option.some.injEq] at hl
        rcases frame_after hc h1 hr.size vs hf0 with ⟨h, e⟩ | ⟨i, hi', ha, e⟩
        · rw [e]
          refine he.fr y av ?_
          rw [look_markF, h]
          simp only [Option.map_some, hl]
        · rw [e]
          cases hus : a0.uses (fun j => !(one1 (d + 1000) j)) with
          | false => rw [hus] at hl; subst hl; simp [AV.holds]
          | true =>
            rw [hus] at hl
            subst hl
            have h3 := (hf i y hi').2.1
            rw [ha] at h3
            obtain ⟨oi, hoi, hod⟩ : ∃ o, pre[i]? = some o ∧ o.dst = some y := by
              unfold dstOf at hi'
              cases ho' : pre[i]? with
              | none => simp [ho'] at hi'
              | some o => exact ⟨o, rfl, by simpa [ho'] using hi'⟩
            have h4 := List.all_eq_true.1 hst oi (List.mem_of_getElem? hoi)
            simp only [hod, hf0, Bool.or_eq_true] at h4
            rcases h4 with h4 | h4
            · exact absurd (Nat.eq_of_beq_eq_true h4).symm hyd
            · refine AV.still_any (fun j => !(one1 (d + 1000) j)) (fun j hj => upd_other ?_) a0 _ h4 hus h3
              rintro rfl
              rw [one1_iff.2 rfl] at hj; cases hj
end
end Go.Proofs.YtgdkeafdlehlaaaDoor

/- Regions whose last operations write what earlier ones read, over abstract frames. Nothing of the program stands here. -/
namespace Go.Proofs.YtgdkeafdlehlaaaDoor
open Go Go.RowKit
set_option linter.unusedVariables false
section
variable {P : Program} {c : Ctx} {n : Nat} {Q : AQ} {fr : List (Nat × AV)} {H : List (Nat × Res)} {ops : Array Oper}
def mem1 (x : Nat) : List Nat → Bool
  | [] => false
  | y :: r => match Nat.beq x y with | true => true | false => mem1 x r
def tmpsOf : List Operand → List Nat
  | [] => []
  | .tmp t :: r => t :: tmpsOf r
  | _ :: r => tmpsOf r
def splitR : List Nat → List Oper → List Oper × List Oper
  | _, [] => ([], [])
  | seen, o :: r => match o.dst with
    | none => ([], o :: r)
    | some d => match mem1 d seen with
      | true => ([], o :: r)
      | false => match splitR (tmpsOf o.op.operands.toList ++ seen) r with | (a, b) => (o :: a, b)
theorem splitR_app : ∀ (l : List Oper) (seen : List Nat), (splitR seen l).1 ++ (splitR seen l).2 = l
  | [], _ => rfl
  | o :: r, seen => by
    unfold splitR
    split
    · rfl
    · split
      · rfl
      · simp only [List.cons_append, splitR_app r]
theorem a_region_tailR {id : Nat} {l pre tail : List Oper} {o1 : Oper} (hsp : splitR [] l = (pre, o1 :: tail)) (hm : P.follows .mixedOrders = true) (htc : tailOk l.toArray pre.length n = true) (hc : regOk pre.toArray n = true) (hdep : depsOk pre.toArray = true)
    (ev : EvK P pre.toArray H (fun fr' => AOps P c n l.toArray (o1 :: tail) Q fr' H) pre fr) : ACode P c n (.region id l.toArray true) Q fr H := fun S γ tmps w0 hr => by
  obtain ⟨qs0, h1, h2⟩ := ev.ev
  have e : pre ++ (o1 :: tail) = l := by have := splitR_app l []; rw [hsp] at this; exact this
  subst e
  refine region_core pre.length (fun _ _ _ => True) (fun _ _ => trivial) (fun o ho => by simp at ho) (by rw [List.getElem?_eq_none (by rw [h1.len]; omega)]; rfl) hm htc hc hdep h1 hr ?_
  intro vs w x hf
  have hrx := hr.ext x
  refine h2 (FreshS S w0 w) γ _ w ⟨hrx.st, ?_, hrx.up, hrx.own, hrx.ids, by rw [fill_size]; exact hr.size, hrx.keep⟩
  intro y av hl
  rcases frame_after hc h1 hr.size vs hl with ⟨h, e⟩ | ⟨i, hi, ha, e⟩
  · rw [e]; exact hrx.fr y av h
  · rw [e]
    have := (hf i y hi).2.1
    rw [ha] at this
    exact this
end
end Go.Proofs.YtgdkeafdlehlaaaDoor

/- A region whose operations may run in many orders, by any invariant. Nothing of the program stands here. -/
namespace Go.Proofs.YtgdkeafdlehlaaaDoor
open Go Go.RowKit
set_option linter.unusedVariables false
section
variable {P : Program} {ops : Array Oper} {Q : Exit → Act → World → Prop}
def backB (ops : Array Oper) : Bool := (List.range ops.size).all fun i => (needsAt ops i).all fun j => decide (j < i)
theorem backB_at (h : backB ops = true) {i : Nat} {o : Oper} (ho : ops[i]? = some o) : ∀ j ∈ needs o, j < i := fun j hj => by
  have hlt : i < ops.size := (Array.getElem?_eq_some_iff.1 ho).1
  have := List.all_eq_true.1 h i (List.mem_range.2 hlt)
  unfold needsAt at this
  rw [ho] at this
  simpa using List.all_eq_true.1 this j hj
theorem none_ready (h : backB ops = true) {listed : Array Bool} (hs : listed.size = ops.size) (hr : Region.ready .any ops listed = []) : ∀ i, i < ops.size → listed.getD i false = true := by
  intro i
  induction i using Nat.strongRecOn with
  | ind i ih =>
    intro hi
    cases hl : listed.getD i false with
    | true => rfl
    | false =>
      exfalso
      have ho := Array.getElem?_eq_getElem hi
      have hm : i ∈ Region.ready .any ops listed := (ready_iff hs).2 ⟨ops[i], ho, hl, fun k hk => by
        have := backB_at h ho k hk
        exact ih k this (by omega)⟩
      rw [hr] at hm
      cases hm
theorem region_inv {id : Nat} {a0 : Act} {w0 : World} {Inv : Array Bool → Act → World → Prop} (hm : P.follows .mixedOrders = true) (hb : backB ops = true)
    (h0 : Inv (Array.replicate ops.size false) a0 { w0 with drawn := w0.drawn + 1 })
    (hstep : ∀ i o listed a w, listed.size = ops.size → ops[i]? = some o → listed.getD i false = false → (∀ j ∈ needs o, listed.getD j false = true) → Inv listed a w → wpOp P ops Q i (fun a' w' => Inv (listed.setIfInBounds i true) a' w') a w)
    (hend : ∀ listed a w, (∀ i, i < ops.size → listed.getD i false = true) → Inv listed a w → Q .normal a w) : (Code.region id ops true).wp P Q a0 w0 := by
  refine wp_region_any hm ?_
  suffices H : ∀ (fuel : Nat) (listed : Array Bool) (a : Act) (w : World), listed.size = ops.size → (listed.toList.countP (fun b => !b)) ≤ fuel → Inv listed a w → wpAny P .any ops Q fuel listed a w from
    H _ _ _ _ (by simp) (by have := List.countP_le_length (p := fun b : Bool => !b) (l := List.replicate ops.size false); simpa using this) h0
  intro fuel
  induction fuel with
  | zero =>
    intro listed a w hs hf h
    have hr : Region.ready .any ops listed = [] := by
      rw [List.eq_nil_iff_forall_not_mem]
      intro i hi
      obtain ⟨o, ho, hl, _⟩ := (ready_iff hs).1 hi
      have hlt : i < listed.size := by rw [hs]; exact (Array.getElem?_eq_some_iff.1 ho).1
      have h0 : listed.toList.countP (fun b => !b) = 0 := by omega
      rw [List.countP_eq_zero] at h0
      have := h0 listed[i] (by simp)
      simp only [Array.getD_eq_getD_getElem?, Array.getElem?_eq_getElem hlt, Option.getD_some] at hl
      simp [hl] at this
    exact ⟨hr, hend listed a w (none_ready hb hs hr) h⟩
  | succ fuel ih =>
    intro listed a w hs hf h
    refine ⟨fun hr => hend listed a w (none_ready hb hs hr) h, ?_⟩
    intro i hi
    obtain ⟨o, ho, hl, hneed⟩ := (ready_iff hs).1 hi
    have hlt : i < listed.size := by rw [hs]; exact (Array.getElem?_eq_some_iff.1 ho).1
    have hcount : (listed.setIfInBounds i true).toList.countP (fun b => !b) ≤ fuel := by
      simp only [Array.getD_eq_getD_getElem?, Array.getElem?_eq_getElem hlt, Option.getD_some] at hl
      have hl' : listed.toList[i] = false := by simpa using hl
      have hlt' : i < listed.toList.length := by simpa using hlt
      have e1 : (listed.setIfInBounds i true).toList = listed.toList.set i true := by simp
      rw [e1]
      have := List.countP_set (p := fun b => !b) (l := listed.toList) (i := i) (a := true) hlt'
      have hpos : 0 < listed.toList.countP (fun b => !b) := List.countP_pos_iff.2 ⟨listed.toList[i], List.getElem_mem _, by rw [hl']; rfl⟩
      rw [this, hl']
      simp only [Bool.not_false, Bool.not_true, if_true, Bool.false_eq_true, if_false]
      omega
    have hs1 := hstep i o listed a w hs ho hl hneed h
    have next : ∀ a' w', Inv (listed.setIfInBounds i true) a' w' → wpAny P .any ops Q fuel (listed.setIfInBounds i true) a' w' := fun a' w' hI => ih _ _ _ (by simpa using hs) hcount hI
    unfold wpOp at hs1 ⊢
    simp only [ho] at hs1 ⊢
    split
    · rename_i hw
      rw [if_pos hw] at hs1
      exact hs1.imp (Oper.wp_mono next) (fun h => h)
    · rename_i hw
      rw [if_neg hw] at hs1
      exact next _ _ hs1
end
end Go.Proofs.YtgdkeafdlehlaaaDoor

/- Regions with several new blocks, whose last operations follow all others, over abstract frames. Nothing of the program stands here. -/
namespace Go.Proofs.YtgdkeafdlehlaaaDoor
open Go Go.RowKit
set_option linter.unusedVariables false
set_option linter.unusedSimpArgs false
set_option maxHeartbeats 2000000
def OpOk3 (G : World → World → Prop) (N : Nat → Value → World → Prop) (P : Program) (ops : Array Oper) (a0 : Act) (w0 : World) (F : Nat → Value → World → Prop) (i : Nat) (o : Oper) : Prop :=
  ∀ (ρ : Operand → Value) (w : World), G w0 w → Known ops a0 F o ρ w → (∀ g, ρ (.global g) = .pointer (some ⟨g, 0, none⟩)) →
    match o.guard with
    | none => Outcome P (fun v w' => G w w' ∧ F i v w' ∧ N i v w) ((execOp ρ o).run P w)
    | some (j, want) => ∃ d, dstOf ops j = some d ∧ (ρ (.tmp d) = .bool want → Outcome P (fun v w' => G w w' ∧ F i v w' ∧ N i v w) ((execOp ρ o).run P w)) ∧ (ρ (.tmp d) ≠ .bool want → F i undef w ∧ N i undef w)
def FactsOk3 (G : World → World → Prop) (N : Nat → Value → World → Prop) (P : Program) (ops : Array Oper) (a0 : Act) (w0 : World) (F : Nat → Value → World → Prop) (k : Nat) (l : List Oper) : Prop :=
  ∀ i o, l[i]? = some o → OpOk3 G N P ops a0 w0 F (k + i) o
theorem FactsOk3.get {G : World → World → Prop} {N : Nat → Value → World → Prop} {P : Program} {ops : Array Oper} {a0 : Act} {w0 : World} {F : Nat → Value → World → Prop} {l : List Oper} {k : Nat} (h : FactsOk3 G N P ops a0 w0 F k l) :
    ∀ i o, l[i]? = some o → OpOk3 G N P ops a0 w0 F (k + i) o := h
structure TInv3 (G : World → World → Prop) (D : Nat → Nat → Value → Value → Prop) (ops : Array Oper) (m : Nat) (a0 : Act) (w0 : World) (F : Nat → Value → World → Prop) (listed : Array Bool) (a : Act) (w : World) : Prop where
  ext : G w0 w
  size : a.tmps.size = a0.tmps.size
  defers : a.defers = a0.defers
  out : ∀ t, (∀ j, j < m → dstOf ops j ≠ some t) → a.tmps[t]? = a0.tmps[t]?
  facts : ∀ i d, i < m → listed.getD i false = true → dstOf ops i = some d → F i (a.tmps.getD d undef) w
  later : ∀ j, m ≤ j → listed.getD j false = false
  closed : Closed ops listed
  pairs : ∀ i j d e, i < m → j < m → i ≠ j → listed.getD i false = true → listed.getD j false = true → dstOf ops i = some d → dstOf ops j = some e → D i j (a.tmps.getD d undef) (a.tmps.getD e undef)
section
variable {P : Program} {ops : Array Oper} {a0 : Act} {w0 : World} {F : Nat → Value → World → Prop} {Q : Exit → Act → World → Prop} {n m : Nat} {G : World → World → Prop} {D : Nat → Nat → Value → Value → Prop} {N : Nat → Value → World → Prop}
theorem factsTail_any3 (hG : PreG G) (hc : tailOk ops m n = true) (hn : n = a0.tmps.size) (hmono : ∀ i v w w', F i v w → G w w' → F i v w') (hsym : ∀ i j u v, D i j u v → D j i v u) (hD : ∀ i j v u w, i ≠ j → N i v w → F j u w → D i j v u) (hop : FactsOk3 G N P (ops.extract 0 m) a0 w0 F 0 (ops.toList.take m))
    (hend : ∀ a w, TInv3 G D ops m a0 w0 F (Array.ofFn fun i : Fin ops.size => decide (i.1 < m)) a w → wpList P ops Q (ops.toList.drop m) a w) :
    ∀ (fuel : Nat) (listed : Array Bool) (a : Act) (w : World), listed.size = ops.size → (listed.toList.countP (fun b => !b)) ≤ fuel → TInv3 G D ops m a0 w0 F listed a w → wpAny P .any ops Q fuel listed a w := by
  obtain ⟨hall, hmlt, hclo⟩ := tail_parts hc
  have hsub : ∀ j, j < m → (ops.extract 0 m)[j]? = ops[j]? := fun j hj => by
    rw [Array.getElem?_extract, if_pos (by omega)]; simp
  have hdst : ∀ j d, dstOf (ops.extract 0 m) j = some d → j < m ∧ dstOf ops j = some d := by
    intro j d h
    by_cases hj : j < m
    · exact ⟨hj, by unfold dstOf at h ⊢; rw [← hsub j hj]; exact h⟩
    · unfold dstOf at h
      rw [Array.getElem?_extract, if_neg (by omega)] at h
      cases h
  have fin : ∀ (fuel : Nat) (listed : Array Bool) (a : Act) (w : World), listed.size = ops.size → (listed.toList.countP (fun b => !b)) ≤ fuel → TInv3 G D ops m a0 w0 F listed a w → (∀ j, j < m → listed.getD j false = true) → wpAny P .any ops Q fuel listed a w := by
    intro fuel listed a w hs hf h hpre
    have hl : ∀ j, j < ops.size → listed.getD j false = decide (j < m) := by
      intro j hj
      by_cases hjm : j < m
      · rw [hpre j hjm]; simp [hjm]
      · rw [h.later j (by omega)]; simp [hjm]
    have hcount := count_listed hs (by omega) hl
    refine tail_any hc _ m fuel listed a w rfl hs hl (Nat.le_refl _) (by simp; omega) (hend a w ?_)
    have he : listed = Array.ofFn fun i : Fin ops.size => decide (i.1 < m) := by
      apply Array.ext
      · simpa using hs
      · intro k h1 h2
        have := hl k (by omega)
        simp only [Array.getD_eq_getD_getElem?, Array.getElem?_eq_getElem h1, Option.getD_some] at this
        simpa using this
    rw [← he]
    exact h
  intro fuel
  induction fuel with
  | zero =>
    intro listed a w hs hf h
    refine fin 0 listed a w hs hf h ?_
    intro j hj
    have h0 : listed.toList.countP (fun b => !b) = 0 := by omega
    rw [List.countP_eq_zero] at h0
    have hlt : j < listed.size := by omega
    have := h0 listed[j] (by simp)
    simp only [Array.getD_eq_getD_getElem?, Array.getElem?_eq_getElem hlt, Option.getD_some]
    simpa using this
  | succ fuel ih =>
    intro listed a w hs hf h
    by_cases hpre : ∀ j, j < m → listed.getD j false = true
    · exact fin _ listed a w hs hf h hpre
    · have hready : ∀ i ∈ Region.ready .any ops listed, i < m := by
        intro i hi
        obtain ⟨o, ho, hl, hneed⟩ := (ready_iff hs).1 hi
        by_cases him : i < m
        · exact him
        · exfalso
          by_cases hgt : m < i
          · have := hneed _ ((hall i o ho).2.2.2 hgt)
            rw [h.later (i - 1) (by omega)] at this
            cases this
          · have e : i = m := by omega
            subst e
            apply hpre
            intro j hj
            refine clo_listed h.closed i (needsAt ops i) ?_ j (hclo j hj)
            intro k hk
            unfold needsAt at hk
            rw [ho] at hk
            exact hneed k hk
      refine ⟨fun hr => ?_, ?_⟩
      · exfalso
        apply hpre
        intro j
        induction j using Nat.strongRecOn with
        | ind j ihj =>
          intro hj
          cases hl : listed.getD j false with
          | true => rfl
          | false =>
            exfalso
            have ho := Array.getElem?_eq_getElem (show j < ops.size by omega)
            have hm : j ∈ Region.ready .any ops listed := (ready_iff hs).2 ⟨ops[j], ho, hl, fun k hk => by
              have := (hall j _ ho).1 k hk
              exact ihj k this (by omega)⟩
            rw [hr] at hm
            cases hm
      · intro i hi
        have him := hready i hi
        obtain ⟨o, ho, hl, hneed⟩ := (ready_iff hs).1 hi
        have hlt : i < listed.size := by rw [hs]; exact (Array.getElem?_eq_some_iff.1 ho).1
        obtain ⟨_, hguard, hdd, _⟩ := hall i o ho
        obtain ⟨d, hd, hdn, huniq⟩ := hdd him
        have hdi : dstOf ops i = some d := by unfold dstOf; rw [ho]; exact hd
        have hcount : (listed.setIfInBounds i true).toList.countP (fun b => !b) ≤ fuel := by
          simp only [Array.getD_eq_getD_getElem?, Array.getElem?_eq_getElem hlt, Option.getD_some] at hl
          have hl' : listed.toList[i] = false := by simpa using hl
          have hlt' : i < listed.toList.length := by simpa using hlt
          have e1 : (listed.setIfInBounds i true).toList = listed.toList.set i true := by simp
          rw [e1]
          have := List.countP_set (p := fun b => !b) (l := listed.toList) (i := i) (a := true) hlt'
          have hpos : 0 < listed.toList.countP (fun b => !b) := List.countP_pos_iff.2 ⟨listed.toList[i], List.getElem_mem _, by rw [hl']; rfl⟩
          rw [this, hl']
          simp only [Bool.not_false, Bool.not_true, if_true, Bool.false_eq_true, if_false]
          omega
        have hk : Known (ops.extract 0 m) a0 F o a.eval w := by
          refine ⟨fun _ => rfl, fun _ => rfl, ?_, ?_⟩
          · intro t ht
            have := h.out t (by
              intro j hj he
              unfold outside at ht
              have hoj : ∃ o', ops[j]? = some o' ∧ o'.dst = some t := by
                unfold dstOf at he
                cases hx : ops[j]? with
                | none => simp [hx] at he
                | some o' => exact ⟨o', rfl, by simpa [hx] using he⟩
              obtain ⟨o', ho', hd'⟩ := hoj
              have := Array.all_eq_true'.1 ht o' (Array.mem_of_getElem? ((hsub j hj).trans ho'))
              simp [hd'] at this)
            simp only [Act.eval, Array.getD_eq_getD_getElem?, this]
          · intro j d' hj hd'
            obtain ⟨hjm, hd2⟩ := hdst j d' hd'
            exact h.facts j d' hjm (hneed j (by simpa using hj)) hd2
        have hop' := hop.get i o (by
          rw [List.getElem?_take, if_pos him]; simpa using ho)
        rw [Nat.zero_add] at hop'
        have hok := hop' a.eval w h.ext hk (fun _ => rfl)
        have next : ∀ (v : Value) (w' : World), G w w' → F i v w' → N i v w → wpAny P .any ops Q fuel (listed.setIfInBounds i true) (a.put o.dst v) w' := fun v w' hx hv hnv => by
          refine ih _ _ _ (by simpa using hs) hcount ?_
          have hput : a.put o.dst v = { a with tmps := a.tmps.setIfInBounds d v } := by rw [hd]; rfl
          rw [hput]
          have hset : ∀ j, (listed.setIfInBounds i true).getD j false = if j = i then true else listed.getD j false := by
            intro j
            simp only [Array.getD_eq_getD_getElem?, Array.getElem?_setIfInBounds]
            by_cases hji : i = j
            · subst hji; rw [if_pos rfl, if_pos hlt]; simp
            · rw [if_neg hji, if_neg (by omega)]
          refine ⟨hG.trans h.ext hx, by simpa using h.size, h.defers, ?_, ?_, ?_, ?_, ?_⟩
          · intro t ht
            have hne : d ≠ t := fun e => ht i him (by rw [← e]; exact hdi)
            simp only [Array.getElem?_setIfInBounds, if_neg hne]
            exact h.out t ht
          · intro j e hjm hj hje
            by_cases hij : j = i
            · subst hij
              rw [hdi] at hje
              injection hje with hje
              subst hje
              simp only [Array.getD_eq_getD_getElem?, Array.getElem?_setIfInBounds]
              rw [if_pos trivial, if_pos (by rw [h.size, ← hn]; exact hdn)]
              simpa using hv
            · have hed : d ≠ e := fun he => hij (huniq j hjm (by rw [he]; exact hje)).symm
              simp only [Array.getD_eq_getD_getElem?, Array.getElem?_setIfInBounds, if_neg hed]
              rw [hset, if_neg hij] at hj
              have := h.facts j e hjm hj hje
              simp only [Array.getD_eq_getD_getElem?] at this
              exact hmono _ _ _ _ this hx
          · intro j hj
            rw [hset, if_neg (by omega)]
            exact h.later j hj
          · intro j o' ho' hj k hk
            rw [hset]
            split
            · rfl
            · rw [hset] at hj
              by_cases hji : j = i
              · subst hji
                rw [ho] at ho'
                injection ho' with ho'
                subst ho'
                exact hneed k hk
              · rw [if_neg hji] at hj
                exact h.closed j o' ho' hj k hk
          · intro i1 j1 d1 e1 hi1 hj1 hne hl1 hl2 hd1 he1
            rw [hset] at hl1 hl2
            have hdt : d < a.tmps.size := by rw [h.size, ← hn]; exact hdn
            have hother : ∀ k1 f1, k1 < m → k1 ≠ i → dstOf ops k1 = some f1 → d ≠ f1 := fun k1 f1 hk hki hf he => hki (huniq k1 hk (by rw [he]; exact hf)).symm
            by_cases hi : i1 = i
            · subst hi
              rw [hdi] at hd1
              injection hd1 with hd1
              subst hd1
              rw [getD_set hdt, if_pos rfl, getD_set hdt, if_neg (hother j1 e1 hj1 (Ne.symm hne) he1)]
              rw [if_neg (Ne.symm hne)] at hl2
              exact hD _ _ _ _ _ hne hnv (h.facts j1 e1 hj1 hl2 he1)
            · by_cases hj : j1 = i
              · subst hj
                rw [hdi] at he1
                injection he1 with he1
                subst he1
                rw [getD_set hdt, if_neg (hother i1 d1 hi1 hi hd1), getD_set hdt, if_pos rfl]
                rw [if_neg hi] at hl1
                exact hsym _ _ _ _ (hD _ _ _ _ _ (Ne.symm hne) hnv (h.facts i1 d1 hi1 hl1 hd1))
              · rw [getD_set hdt, if_neg (hother i1 d1 hi1 hi hd1), getD_set hdt, if_neg (hother j1 e1 hj1 hj he1)]
                rw [if_neg hi] at hl1
                rw [if_neg hj] at hl2
                exact h.pairs i1 j1 d1 e1 hi1 hj1 hne hl1 hl2 hd1 he1
        unfold wpOp
        simp only [ho]
        have run : Outcome P (fun v w' => G w w' ∧ F i v w' ∧ N i v w) ((execOp a.eval o).run P w) → o.wp P a w (wpAny P .any ops Q fuel (listed.setIfInBounds i true)) Q := fun hr =>
          Outcome.upon (hr.mono fun v w' ⟨hx, hv, hnv⟩ => next v w' hx hv hnv)
        cases hg : o.guard with
        | none =>
          simp only [hg] at hok
          rw [if_pos (by simp [Region.wanted, hg])]
          exact .inl (run hok)
        | some jb =>
          obtain ⟨j, want⟩ := jb
          simp only [hg] at hok
          obtain ⟨d, hd, hyes, hno⟩ := hok
          have hd' : ((ops[j]?).bind (·.dst)) = some d := (hdst j d hd).2
          by_cases hb : a.eval (.tmp d) = .bool want
          · have hy : yielded ops a.tmps j = some want := by
              unfold yielded
              rw [hd']
              simp only [Act.eval, Array.getD_eq_getD_getElem?] at hb
              cases ht : a.tmps[d]? with
              | none => simp [ht, undef] at hb
              | some v =>
                simp only [ht, Option.getD_some] at hb
                subst hb
                simp [ht]
            rw [if_pos (by simp [Region.wanted, hg, hy])]
            exact .inl (run (hyes hb))
          · have hy : yielded ops a.tmps j ≠ some want := by
              unfold yielded
              rw [hd']
              intro he
              apply hb
              simp only [Act.eval, Array.getD_eq_getD_getElem?]
              cases ht : a.tmps[d]? with
              | none => simp [ht] at he
              | some v =>
                simp only [Option.getD_some]
                cases v <;> simp_all
            rw [if_neg (by simp [Region.wanted, hg, hy])]
            exact next _ _ (hG.refl w) (hno hb).1 (hno hb).2

theorem wp_region_tail3 {id : Nat} {pre tail : List Oper} {tmps : Array Value} {defers : List Deferred} (hG : PreG G) (hm : P.follows .mixedOrders = true) (hc : tailOk (pre ++ tail).toArray pre.length tmps.size = true) (hmono : ∀ i v w w', F i v w → G w w' → F i v w') (hsym : ∀ i j u v, D i j u v → D j i v u) (hD : ∀ i j v u w, i ≠ j → N i v w → F j u w → D i j v u)
    (hop : FactsOk3 G N P pre.toArray ⟨tmps, defers⟩ w0 F 0 pre)
    (hend : ∀ (vs : Nat → Value) (w : World), G w0 w → (∀ i d, dstOf pre.toArray i = some d → F i (vs i) w) → (∀ i j d e, i ≠ j → dstOf pre.toArray i = some d → dstOf pre.toArray j = some e → D i j (vs i) (vs j)) → wpList P (pre ++ tail).toArray Q tail ⟨fill vs pre 0 tmps, defers⟩ w) :
    (Code.region id (pre ++ tail).toArray true).wp P Q ⟨tmps, defers⟩ w0 := by
  obtain ⟨hall, hmlt, hclo⟩ := tail_parts hc
  have hpre : ∀ j, j < pre.length → (pre ++ tail).toArray[j]? = pre.toArray[j]? := fun j hj => by simp [List.getElem?_append_left hj]
  have hdp : ∀ j, j < pre.length → dstOf (pre ++ tail).toArray j = dstOf pre.toArray j := fun j hj => by unfold dstOf; rw [hpre j hj]
  refine wp_region_any hm ?_
  refine factsTail_any3 (w0 := w0) (a0 := ⟨tmps, defers⟩) (F := F) (D := D) (N := N) hG hc rfl hmono hsym hD (by simpa using hop) ?_ _ _ _ _ (by simp) (by have := List.countP_le_length (p := fun b : Bool => !b) (l := List.replicate (pre ++ tail).toArray.size false); simpa using this) ?_
  · intro a w h
    have hd : (pre ++ tail).toArray.toList.drop pre.length = tail := by simp
    rw [hd]
    have hfacts : ∀ i d, dstOf pre.toArray i = some d → F i (a.tmps.getD d undef) w := fun i d hd => by
      have hlt : i < pre.length := by
        unfold dstOf at hd
        cases ho : pre.toArray[i]? with
        | none => simp [ho] at hd
        | some o => simpa using (Array.getElem?_eq_some_iff.1 ho).1
      refine h.facts i d hlt ?_ (by rw [hdp i hlt]; exact hd)
      simp only [List.size_toArray, List.length_append] at hmlt
      have h2 : i < (pre ++ tail).toArray.size := by simp; omega
      simp only [Array.getD_eq_getD_getElem?, Array.getElem?_ofFn]
      rw [dif_pos h2]
      simpa using hlt
    have hlisted : ∀ i, i < pre.length → (Array.ofFn fun i : Fin (pre ++ tail).toArray.size => decide (i.1 < pre.length)).getD i false = true := fun i hlt => by
      simp only [List.size_toArray, List.length_append] at hmlt
      have h2 : i < (pre ++ tail).toArray.size := by simp; omega
      simp only [Array.getD_eq_getD_getElem?, Array.getElem?_ofFn]
      rw [dif_pos h2]
      simpa using hlt
    have hltp : ∀ i d, dstOf pre.toArray i = some d → i < pre.length := fun i d hd => by
      unfold dstOf at hd
      cases ho : pre.toArray[i]? with
      | none => simp [ho] at hd
      | some o => simpa using (Array.getElem?_eq_some_iff.1 ho).1
    have hpairs : ∀ i j d e, i ≠ j → dstOf pre.toArray i = some d → dstOf pre.toArray j = some e → D i j (a.tmps.getD d undef) (a.tmps.getD e undef) := fun i j d e hne hi hj =>
      h.pairs i j d e (hltp i d hi) (hltp j e hj) hne (hlisted i (hltp i d hi)) (hlisted j (hltp j e hj)) (by rw [hdp i (hltp i d hi)]; exact hi) (by rw [hdp j (hltp j e hj)]; exact hj)
    have hq := hend (fun i => match dstOf pre.toArray i with | some d => a.tmps.getD d undef | none => undef) w h.ext (fun i d hd => by simpa [hd] using hfacts i d hd) (fun i j d e hne hi hj => by simpa [hi, hj] using hpairs i j d e hne hi hj)
    have ha : a = ⟨fill (fun i => match dstOf pre.toArray i with | some d => a.tmps.getD d undef | none => undef) pre 0 tmps, defers⟩ := by
      cases a with
      | mk t2 d2 =>
        have hdd := h.defers
        simp only at hdd
        subst hdd
        congr 1
        apply Array.ext'
        apply List.ext_getElem?
        intro t
        simp only [Array.getElem?_toList]
        by_cases hex : ∃ o ∈ pre, o.dst = some t
        · obtain ⟨o, ho, hdt⟩ := hex
          obtain ⟨i, hi, rfl⟩ := List.getElem_of_mem ho
          have hoi : (pre ++ tail).toArray[i]? = some pre[i] := by rw [hpre i hi]; simp [hi]
          have hdi : dstOf (pre ++ tail).toArray i = some t := by unfold dstOf; rw [hoi]; exact hdt
          obtain ⟨d', hd', hlt, huniq⟩ := (hall i _ hoi).2.2.1 hi
          have hte : t = d' := by
            have := hdt.symm.trans hd'
            injection this
          have hlt2 : t < tmps.size := by rw [hte]; exact hlt
          rw [fill_in _ pre 0 tmps i pre[i] t (by simp) hdt hlt2 (fun j o' hj hd2 => by
            have hjl : j < pre.length := (List.getElem?_eq_some_iff.1 hj).1
            refine (huniq j hjl ?_).symm
            rw [hdp j hjl]
            unfold dstOf
            rw [show pre.toArray[j]? = some o' from by simpa using hj, ← hte]
            exact hd2)]
          rw [Nat.zero_add, show dstOf pre.toArray i = some t from by rw [← hdp i hi]; exact hdi]
          have hsz := h.size
          simp only at hsz
          simp only [Array.getD_eq_getD_getElem?]
          rw [Array.getElem?_eq_getElem (show t < t2.size from by rw [hsz]; exact hlt2)]
          rfl
        · rw [fill_out]
          · refine h.out t (fun j hj he => hex ?_)
            rw [hdp j hj] at he
            unfold dstOf at he
            cases ho : pre.toArray[j]? with
            | none => simp [ho] at he
            | some o =>
              simp only [ho, Option.bind_some] at he
              exact ⟨o, by simpa using Array.mem_of_getElem? ho, he⟩
          · intro o ho hd2
            exact hex ⟨o, ho, hd2⟩
    rw [ha]
    exact hq
  · exact ⟨hG.drew _, rfl, rfl, fun _ _ => rfl, fun i d _ hi _ => by
      simp only [Array.getD_eq_getD_getElem?, Array.getElem?_replicate] at hi
      split at hi <;> simp at hi, fun j _ => by
      simp only [Array.getD_eq_getD_getElem?, Array.getElem?_replicate]
      split <;> rfl, fun j o _ hj => by
      simp only [Array.getD_eq_getD_getElem?, Array.getElem?_replicate] at hj
      split at hj <;> simp at hj, fun i j d e _ _ _ hi => by
      simp only [Array.getD_eq_getD_getElem?, Array.getElem?_replicate] at hi
      split at hi <;> simp at hi⟩

end
section
variable {P : Program} {c : Ctx} {n : Nat} {Q : AQ} {fr : List (Nat × AV)} {H : List (Nat × Res)} {ops : Array Oper}
def RN (ZT : List (Nat × List Z)) (pre : List Oper) (S : Nat → Prop) (γ : Nat → Value) (w0 : World) (qs0 : List AV) : Nat → Value → World → Prop :=
  fun i v w => w0.heap.size ≤ w.heap.size ∧ ((qs0[i]?).getD .any).holds (FreshS S w0 w) γ w v ∧ (∀ t d, (pre[i]?).bind isAlloc = some (t, d) → ∃ b arr zs, v = .pointer (some ⟨b, 0, none⟩) ∧ w0.heap.size ≤ b ∧ b < w.heap.size ∧ w.heap[b]? = some (.cells arr t) ∧ look ZT t = some zs ∧ arr.toList = zs.map Z.val)
def NN (pre : List Oper) : Nat → Value → World → Prop := fun i v w => ∀ td, (pre[i]?).bind isAlloc = some td → ∃ b, v = .pointer (some ⟨b, 0, none⟩) ∧ w.heap.size ≤ b
def DN (pre : List Oper) : Nat → Nat → Value → Value → Prop := fun i j v u => ∀ ti tj, (pre[i]?).bind isAlloc = some ti → (pre[j]?).bind isAlloc = some tj → ∀ b, v = .pointer (some ⟨b, 0, none⟩) → u = .pointer (some ⟨b, 0, none⟩) → False
theorem isAlloc_at {o : Oper} {t : TypeId} {d : Nat} (h : isAlloc o = some (t, d)) : o.op = .alloc t ∧ o.dst = some d ∧ o.guard = none := by
  unfold isAlloc at h
  split at h
  · rename_i t' d' h3 h4 h5
    injection h with h
    injection h with h1 h2
    subst h1 h2
    exact ⟨h3, h4, h5⟩
  · cases h
theorem region_core3 {id : Nat} {pre tail : List Oper} {qs0 : List AV} {ZT : List (Nat × List Z)} (hZ : ZOk P ZT) (hzz : ∀ (i : Nat) (t : TypeId) (d : Nat), (pre[i]?).bind isAlloc = some (t, d) → ∃ zs, look ZT t = some zs) (hany : ∀ (i : Nat) (td : TypeId × Nat), (pre[i]?).bind isAlloc = some td → (qs0[i]?).getD AV.any = AV.any)
    (hm : P.follows .mixedOrders = true) (htc : tailOk (pre ++ tail).toArray pre.length n = true) (hc : regOk pre.toArray n = true) (hdep : depsOk pre.toArray = true) (ev : Ev P pre.toArray H pre fr qs0)
    {S : Nat → Prop} {γ : Nat → Value} {tmps : Array Value} {w0 : World} (hr : Rel c n fr H S γ tmps w0) {Q : Exit → Act → World → Prop}
    (hend : ∀ (vs : Nat → Value) (w : World), Ext w0 w → (∀ i d, dstOf pre.toArray i = some d → RN ZT pre S γ w0 qs0 i (vs i) w) → (∀ i j d e, i ≠ j → dstOf pre.toArray i = some d → dstOf pre.toArray j = some e → DN pre i j (vs i) (vs j)) → wpList P (pre ++ tail).toArray Q tail ⟨fill vs pre 0 tmps, []⟩ w) :
    (Code.region id (pre ++ tail).toArray true).wp P Q ⟨tmps, []⟩ w0 := by
  have hlen := ev.len
  subst_vars
  have hsz := hr.size
  have huniq : ∀ {i j : Nat} {d : Tmp}, dstOf pre.toArray i = some d → dstOf pre.toArray j = some d → i = j := fun hi hj => dst_unique hc hi hj
  have hdst : ∀ {i : Nat} {o : Oper}, pre[i]? = some o → dstOf pre.toArray i = o.dst := fun ho => by unfold dstOf; simp [ho]
  have hlook : ∀ (i : Nat) {j : Nat} {x : Tmp}, dstOf pre.toArray j = some x → j < i → look (frAfter (pre.take i) (qs0.take i) fr) x = qs0[j]? := by
    intro i j x hj hji
    have hjo : ∃ o, pre[j]? = some o ∧ o.dst = some x := by
      unfold dstOf at hj
      cases ho : pre[j]? with
      | none => simp [ho] at hj
      | some o => exact ⟨o, rfl, by simpa [ho] using hj⟩
    obtain ⟨o, ho, hd⟩ := hjo
    rw [frAfter_in (pre.take i) (qs0.take i) fr j o (by rw [List.getElem?_take, if_pos hji]; exact ho) hd ?_ (by simp [hlen])]
    · rw [List.getElem?_take, if_pos hji]
    · intro k o' hk hd'
      rw [List.getElem?_take] at hk
      split at hk
      · exact huniq ((hdst hk).trans hd') ((hdst ho).trans hd)
      · cases hk
  have hout : ∀ (i : Nat) {x : Tmp}, outside pre.toArray x = true → look (frAfter (pre.take i) (qs0.take i) fr) x = look fr x := by
    intro i x hx
    apply frAfter_out
    intro o ho he
    unfold outside at hx
    have := Array.all_eq_true'.1 hx o (by simpa using List.mem_of_mem_take ho)
    simp [he] at this
  have hsame : ∀ {w w' : World}, w0.heap.size ≤ w.heap.size → Ext w w' → Same (FreshS S w0 w) w w' := by
    intro w w' hle x b hb
    apply x.block
    rcases hb with hb | ⟨_, hb⟩
    · have := hr.st.sz b hb; omega
    · exact hb
  have hsub : ∀ {w w' : World}, Ext w w' → ∀ b, FreshS S w0 w b → FreshS S w0 w' b := by
    intro w w' x b hb
    rcases hb with hb | ⟨h1, h2⟩
    · exact .inl hb
    · exact .inr ⟨h1, Nat.lt_of_lt_of_le h2 x.size⟩
  refine wp_region_tail3 (F := RN ZT pre S γ w0 qs0) (D := DN pre) (N := NN pre) preExt hm (by rw [hsz]; exact htc) ?_ (fun i j u v h ti tj hi hj b hv hu => h tj ti hj hi b hu hv) ?_ ?_ hend
  · rintro i v w w' ⟨hle, hh, hX⟩ x
    refine ⟨Nat.le_trans hle x.size, AV.ext (hsub x) (hsame hle x) hh, fun t d e => ?_⟩
    obtain ⟨b, arr, zs, rfl, hb, hlt, hc1, hz, ha⟩ := hX t d e
    exact ⟨b, arr, zs, rfl, hb, Nat.lt_of_lt_of_le hlt x.size, (x.block b hlt).trans hc1, hz, ha⟩
  · intro i j v u w hne hN hF ti tj hi hj b hv hu
    obtain ⟨b1, h1, h2⟩ := hN ti hi
    obtain ⟨b2, arr, zs, h3, _, h4, _⟩ := hF.2.2 tj.1 tj.2 hj
    rw [hv] at h1; rw [hu] at h3
    injection h1 with h1; injection h1 with h1; injection h1 with h1
    injection h3 with h3; injection h3 with h3; injection h3 with h3
    omega
  · intro i o ho ρ w hx hk hglob
    rw [Nat.zero_add]
    obtain ⟨a, ha, ⟨d, hd⟩, hoa⟩ := ev.get i o ho
    obtain ⟨_, hneeds, hguard⟩ := op_check hc (i := i) (o := o) (by simpa using ho)
    have hdo : (o.op.operands.toList.all fun | .tmp t => outside pre.toArray t || (needs o).any fun j => dstOf pre.toArray j == some t | _ => true) = true := by
      unfold depsOk at hdep
      rw [List.all_eq_true] at hdep
      have := hdep o (by simpa using List.mem_of_getElem? ho)
      simp only [Bool.and_eq_true] at this
      exact this.1
    have hF : ∀ {j : Nat} {x : Tmp} {av : AV}, (needs o).contains j = true → dstOf pre.toArray j = some x → look (frAfter (pre.take i) (qs0.take i) fr) x = some av → av.holds (FreshS S w0 w) γ w (ρ (.tmp x)) := by
      intro j x av hj hjd hl
      have hji := hneeds j (by simpa using hj)
      rw [hlook i hjd hji] at hl
      have := (hk.dep j x hj hjd).2.1
      rw [hl] at this
      exact this
    have henv : Env (frAfter (pre.take i) (qs0.take i) fr) H (fun x => x ∈ o.op.operands) ρ (FreshS S w0 w) γ w := by
      refine ⟨hr.st.ext hx, ?_, hk.const, hk.func, hglob⟩
      intro x av hu hl
      rw [List.all_eq_true] at hdo
      have := hdo (.tmp x) (by simpa using hu)
      simp only [Bool.or_eq_true] at this
      rcases this with ho' | ho'
      · rw [hk.out x ho']
        rw [hout i ho'] at hl
        exact AV.ext freshS_sub (same_of_ext hr.st.sz hx) (hr.fr x av hl)
      · rw [List.any_eq_true] at ho'
        obtain ⟨j, hj, hjd⟩ := ho'
        exact hF (by simpa using hj) (by simpa using hjd) hl
    cases hal : isAlloc o with
    | some td =>
      obtain ⟨t, d1⟩ := td
      obtain ⟨hop, hdst1, hgn⟩ := isAlloc_at hal
      simp only [hgn]
      have hbi : (pre[i]?).bind isAlloc = some (t, d1) := by rw [ho]; exact hal
      obtain ⟨zs, hz⟩ := hzz i t d1 hbi
      obtain ⟨zi, z, hi, hiz, hzc⟩ := hZ.zero hz
      refine outc (v := .pointer (some ⟨w.heap.size, 0, none⟩)) (w' := w.alloc (.cells z.cells t)) ?_ ?_
      · simp [execOp, hop, Instr.alloc, zeroValue, typeInfo, hi, hiz, newVar, newRow]
      · have hnew := heap_alloc_new w (.cells z.cells t)
        have hlt := (Array.getElem?_eq_some_iff.1 hnew).1
        refine ⟨Ext.alloc w _, ⟨Nat.le_trans hx.size (Ext.alloc w _).size, ?_, ?_⟩, fun _ _ => ⟨_, rfl, Nat.le_refl _⟩⟩
        · rw [hany i _ hbi]; simp [AV.holds]
        · intro t2 d2 h2
          rw [hbi] at h2
          injection h2 with h2
          injection h2 with h2 h3
          subst h2
          exact ⟨w.heap.size, z.cells, zs, rfl, hx.size, hlt, hnew, hz, hzc⟩
    | none =>
    have hbi : (pre[i]?).bind isAlloc = none := by rw [ho]; exact hal
    have hnx : ∀ {v : Value} {w : World}, NN pre i v w := fun td h => by rw [hbi] at h; cases h
    have run : ∀ a' : AV, SOp P o (frAfter (pre.take i) (qs0.take i) fr) H a' → (∀ v w', a'.holds (FreshS S w0 w') γ w' v → a.holds (FreshS S w0 w') γ w' v) → Outcome P (fun v w' => Ext w w' ∧ RN ZT pre S γ w0 qs0 i v w' ∧ NN pre i v w) ((execOp ρ o).run P w) := by
      intro a' hs hi
      refine (hs _ γ w ρ henv).mono ?_
      rintro v w' ⟨x, hv⟩
      refine ⟨x, ⟨Nat.le_trans hx.size x.size, ?_, fun t d e => by rw [hbi] at e; cases e⟩, hnx⟩
      rw [ha]
      refine hi v w' (AV.ext ?_ (fun _ _ => rfl) hv)
      rintro b (hb | ⟨h1, h2⟩)
      · exact hsub x b hb
      · exact .inr ⟨Nat.le_trans hx.size h1, h2⟩
    cases hoa with
    | plain hg hs =>
      simp only [hg]
      exact run _ hs (fun _ _ h => h)
    | @guard a j dj want b hg hdj hl hs =>
      simp only [hg]
      have hb := hF (hguard j want hg) hdj hl
      simp only [AV.holds] at hb
      refine ⟨dj, hdj, fun he => ?_, fun he => ?_⟩
      · have hbw : b = want := by rw [he] at hb; simpa using hb.symm
        refine run _ (hs hbw) fun v w' hv => ?_
        simp only [AV.holds]
        exact ⟨fun _ => hv, fun hn => absurd hbw hn⟩
      · refine ⟨⟨hx.size, ?_, fun t d e => by rw [hbi] at e; cases e⟩, hnx⟩
        rw [ha]
        simp only [Option.getD_some, AV.holds]
        refine ⟨fun hbw => absurd (by rw [hb, hbw]) he, fun _ => trivial⟩
    | @guardw a j dj want b p hg hdj hl hs =>
      simp only [hg]
      have hb := hF (hguard j want hg) hdj hl
      simp only [AV.holds] at hb
      refine ⟨dj, hdj, fun he => ?_, fun he => ?_⟩
      · have hbw : p ∧ b = want := by
          by_cases hp : p
          · have h1 := hb.1 hp
            rw [he] at h1
            exact ⟨hp, by simpa using h1.symm⟩
          · have h1 := hb.2 hp
            rw [he] at h1
            simp [undef] at h1
        refine run _ (hs hbw) fun v w' hv => ?_
        simp only [AV.holds]
        exact ⟨fun _ => hv, fun hn => absurd hbw hn⟩
      · refine ⟨⟨hx.size, ?_, fun t d e => by rw [hbi] at e; cases e⟩, hnx⟩
        rw [ha]
        simp only [Option.getD_some, AV.holds]
        refine ⟨fun hbw => absurd (by rw [hb.1 hbw.1, hbw.2]) he, fun _ => trivial⟩


def allocD : List Oper → List (TypeId × Nat)
  | [] => []
  | o :: r => match isAlloc o with
    | some p => p :: allocD r
    | none => allocD r
theorem allocD_mem : ∀ (l : List Oper) (p : TypeId × Nat), p ∈ allocD l → ∃ (i : Nat) (o : Oper), l[i]? = some o ∧ isAlloc o = some p
  | [], p, h => by simp [allocD] at h
  | o :: r, p, h => by
    unfold allocD at h
    cases ho : isAlloc o with
    | some q =>
      rw [ho] at h
      rcases List.mem_cons.1 h with rfl | h
      · exact ⟨0, o, rfl, ho⟩
      · obtain ⟨i, o', h1, h2⟩ := allocD_mem r p h
        exact ⟨i + 1, o', by simpa using h1, h2⟩
    | none =>
      rw [ho] at h
      obtain ⟨i, o', h1, h2⟩ := allocD_mem r p h
      exact ⟨i + 1, o', by simpa using h1, h2⟩
theorem mem_allocD : ∀ (l : List Oper) (i : Nat) (p : TypeId × Nat), (l[i]?).bind isAlloc = some p → p ∈ allocD l
  | [], i, p, h => by simp at h
  | o :: r, 0, p, h => by
    simp at h
    unfold allocD
    rw [h]; exact List.mem_cons_self
  | o :: r, i + 1, p, h => by
    have ih := mem_allocD r i p (by simpa using h)
    unfold allocD
    split
    · exact List.mem_cons_of_mem _ ih
    · exact ih
def idsM : List (TypeId × Nat) → Nat → Bool
  | [], _ => false
  | p :: r, j => match Nat.beq (p.2 + 1000) j with | true => true | false => idsM r j
theorem idsM_iff : ∀ (L : List (TypeId × Nat)) (j : Nat), idsM L j = true ↔ ∃ p ∈ L, p.2 + 1000 = j
  | [], j => by simp [idsM]
  | p :: r, j => by
    unfold idsM
    split
    · rename_i h
      have := Nat.eq_of_beq_eq_true h
      exact ⟨fun _ => ⟨p, List.mem_cons_self, this⟩, fun _ => rfl⟩
    · rename_i h
      rw [idsM_iff r j]
      constructor
      · rintro ⟨q, hq, e⟩; exact ⟨q, List.mem_cons_of_mem _ hq, e⟩
      · rintro ⟨q, hq, e⟩
        rcases List.mem_cons.1 hq with rfl | hq
        · rw [e, Nat.beq_refl] at h; cases h
        · exact ⟨q, hq, e⟩
def boxesH (ZT : List (Nat × List Z)) : List (TypeId × Nat) → List (Nat × Res)
  | [] => []
  | p :: r => (p.2 + 1000, .box (zAV ((look ZT p.1).getD []))) :: boxesH ZT r
def boxesF : List (TypeId × Nat) → List (Nat × AV) → List (Nat × AV)
  | [], fr => fr
  | p :: r, fr => (p.2, .ptr (p.2 + 1000) 0) :: boxesF r fr
theorem look_boxesH (ZT : List (Nat × List Z)) : ∀ (L : List (TypeId × Nat)) (j : Nat) (r : Res), look (boxesH ZT L) j = some r → ∃ p ∈ L, p.2 + 1000 = j ∧ r = .box (zAV ((look ZT p.1).getD []))
  | [], j, r, h => by simp [boxesH, look] at h
  | p :: L, j, r, h => by
    unfold boxesH at h
    rw [look_cons] at h
    split at h
    · rename_i e
      injection h with h
      exact ⟨p, List.mem_cons_self, e, h.symm⟩
    · obtain ⟨q, hq, h2⟩ := look_boxesH ZT L j r h
      exact ⟨q, List.mem_cons_of_mem _ hq, h2⟩
theorem look_boxesF : ∀ (L : List (TypeId × Nat)) (fr : List (Nat × AV)) (x : Nat) (a : AV), look (boxesF L fr) x = some a → (∃ p ∈ L, p.2 = x ∧ a = .ptr (x + 1000) 0) ∨ ((∀ p ∈ L, p.2 ≠ x) ∧ look fr x = some a)
  | [], fr, x, a, h => .inr ⟨by simp, h⟩
  | p :: L, fr, x, a, h => by
    unfold boxesF at h
    rw [look_cons] at h
    split at h
    · rename_i e
      injection h with h
      exact .inl ⟨p, List.mem_cons_self, e, by rw [← h, e]⟩
    · rename_i e
      rcases look_boxesF L fr x a h with ⟨q, hq, h2⟩ | ⟨h2, h3⟩
      · exact .inl ⟨q, List.mem_cons_of_mem _ hq, h2⟩
      · refine .inr ⟨fun q hq => ?_, h3⟩
        rcases List.mem_cons.1 hq with rfl | hq
        · exact e
        · exact h2 q hq
def stillsN (pre : List Oper) (fr : List (Nat × AV)) : Bool := pre.all fun o => match o.dst with
  | some x => match isAlloc o with
    | some _ => match look fr x with | some .any => true | _ => false
    | none => match look fr x with | some a => a.still | none => false
  | none => false
theorem a_region_tailN {id : Nat} {l pre tail : List Oper} {o1 : Oper} {p1 p2 : TypeId × Nat} {L : List (TypeId × Nat)} {ZT : List (Nat × List Z)} (hsp : splitT l = (pre, o1 :: tail)) (hal : allocD pre = p1 :: p2 :: L) (hm : P.follows .mixedOrders = true) (htc : tailOk l.toArray pre.length n = true) (hc : regOk pre.toArray n = true) (hdep : depsOk pre.toArray = true)
    (hZ : ZOk P ZT) (hz : (allocD pre).all (fun p => (look ZT p.1).isSome) = true) (hu : usesH (idsM (p1 :: p2 :: L)) (dropH (idsM (p1 :: p2 :: L)) H) = true)
    (ev : EvK P pre.toArray H (fun fr' => True ∧ stillsN pre fr' = true ∧ AOps P c n l.toArray (o1 :: tail) Q (boxesF (p1 :: p2 :: L) (markF (idsM (p1 :: p2 :: L)) fr')) (boxesH ZT (p1 :: p2 :: L) ++ dropH (idsM (p1 :: p2 :: L)) H)) pre fr) : ACode P c n (.region id l.toArray true) Q fr H := fun S γ tmps w0 hr => by
  obtain ⟨qs0, h1, _, hst, h2⟩ := ev.ev
  have e : pre ++ (o1 :: tail) = l := by have := splitT_app l; rw [hsp] at this; exact this
  subst e
  rw [← hal] at hu h2
  clear hal
  have hlen := h1.len
  have hdst' : ∀ {i : Nat} {o : Oper}, pre[i]? = some o → dstOf pre.toArray i = o.dst := fun ho => by unfold dstOf; simp [ho]
  have hlk : ∀ {i : Nat} {o : Oper} {x : Nat}, pre[i]? = some o → o.dst = some x → look (frAfter pre qs0 fr) x = qs0[i]? := fun {i o x} hi hd =>
    frAfter_in pre qs0 fr i o hi hd (fun k o' hk hd' => dst_unique hc ((hdst' hk).trans hd') ((hdst' hi).trans hd)) hlen
  have hzz : ∀ (i : Nat) (t : TypeId) (d : Nat), (pre[i]?).bind isAlloc = some (t, d) → ∃ zs, look ZT t = some zs := fun i t d h => by
    have := List.all_eq_true.1 hz _ (mem_allocD pre i _ h)
    exact Option.isSome_iff_exists.1 this
  have hbind : ∀ {i : Nat} {p : TypeId × Nat}, (pre[i]?).bind isAlloc = some p → ∃ o, pre[i]? = some o ∧ isAlloc o = some p := fun {i p} h => by
    cases ho : pre[i]? with
    | none => rw [ho] at h; cases h
    | some o => rw [ho] at h; exact ⟨o, rfl, h⟩
  have hany : ∀ (i : Nat) (td : TypeId × Nat), (pre[i]?).bind isAlloc = some td → (qs0[i]?).getD AV.any = AV.any := fun i td h => by
    obtain ⟨o, ho, ha⟩ := hbind h
    obtain ⟨_, hd, _⟩ := isAlloc_at ha
    have h4 := List.all_eq_true.1 hst o (List.mem_of_getElem? ho)
    simp only [hd, ha, hlk ho hd] at h4
    split at h4
    · rename_i h5; rw [h5]; rfl
    · cases h4
  refine region_core3 hZ hzz hany hm htc hc hdep h1 hr ?_
  intro vs w x hf hD
  -- what became of each new block
  have hnew : ∀ p ∈ allocD pre, ∃ i b arr, dstOf pre.toArray i = some p.2 ∧ (pre[i]?).bind isAlloc = some p ∧ vs i = .pointer (some ⟨b, 0, none⟩) ∧ (fill vs pre 0 tmps).getD p.2 undef = .pointer (some ⟨b, 0, none⟩) ∧ w0.heap.size ≤ b ∧ b < w.heap.size ∧ w.heap[b]? = some (.cells arr p.1) ∧ arr.toList = ((look ZT p.1).getD []).map Z.val := by
    intro p hp
    obtain ⟨i, o, ho, ha⟩ := allocD_mem pre p hp
    obtain ⟨_, hd, _⟩ := isAlloc_at ha
    have hdi := (hdst' ho).trans hd
    have hbi : (pre[i]?).bind isAlloc = some p := by rw [ho]; exact ha
    obtain ⟨b, arr, zs, hv, hb, hlt, hh, hzs, harr⟩ := (hf i p.2 hdi).2.2 p.1 p.2 hbi
    exact ⟨i, b, arr, hdi, hbi, hv, by rw [fill_get vs (by rw [hr.size]; exact hc) hdi, hv], hb, hlt, hh, by rw [hzs]; exact harr⟩
  let γ' : Nat → Value := fun j => match idsM (allocD pre) j with | true => (fill vs pre 0 tmps).getD (j - 1000) undef | false => γ j
  have hγn : ∀ p ∈ allocD pre, γ' (p.2 + 1000) = (fill vs pre 0 tmps).getD p.2 undef := fun p hp => by
    show (match idsM (allocD pre) (p.2 + 1000) with | true => (fill vs pre 0 tmps).getD (p.2 + 1000 - 1000) undef | false => γ (p.2 + 1000)) = _
    rw [(idsM_iff _ _).2 ⟨p, hp, rfl⟩, Nat.add_sub_cancel]
  have hγo : ∀ j, idsM (allocD pre) j = false → γ' j = γ j := fun j hj => by
    show (match idsM (allocD pre) j with | true => (fill vs pre 0 tmps).getD (j - 1000) undef | false => γ j) = _
    rw [hj]
  have hst' : St S γ' w (boxesH ZT (allocD pre)) := by
    refine ⟨?_, ?_, ?_, ?_, ?_⟩
    · intro j r hj
      obtain ⟨p, hp, rfl, rfl⟩ := look_boxesH ZT _ j r hj
      obtain ⟨i, b, arr, _, _, _, hv, _, _, hh, ha⟩ := hnew p hp
      rw [hγn p hp, hv]
      exact ⟨b, arr, p.1, rfl, hh, by rw [ha]; exact zAV_holds _⟩
    · intro j1 j2 r1 r2 b hj1 hj2 hb1 hb2
      obtain ⟨p, hp, rfl, rfl⟩ := look_boxesH ZT _ j1 r1 hj1
      obtain ⟨q, hq, rfl, rfl⟩ := look_boxesH ZT _ j2 r2 hj2
      obtain ⟨i, b1, _, hi1, hi2, hv1, hv, _⟩ := hnew p hp
      obtain ⟨k, b2, _, hk1, hk2, hw1, hw, _⟩ := hnew q hq
      rw [hγn p hp, hv] at hb1
      rw [hγn q hq, hw] at hb2
      simp [rblk] at hb1 hb2
      subst hb1
      by_cases hik : i = k
      · subst hik
        rw [hi1] at hk1
        injection hk1 with hk1
        rw [hk1]
      · exact absurd (hD i k _ _ hik hi1 hk1) (fun h => h p q hi2 hk2 b1 hv1 (by rw [hw1, hb2]))
    · intro j r b hj hb hS
      obtain ⟨p, hp, rfl, rfl⟩ := look_boxesH ZT _ j r hj
      obtain ⟨i, b1, _, _, _, _, hv, hb0, _⟩ := hnew p hp
      rw [hγn p hp, hv] at hb
      simp [rblk] at hb
      subst hb
      have := hr.st.sz _ hS
      omega
    · exact hr.st.sz.to (fun _ h => h) (same_of_ext hr.st.sz x) fun b hS => Nat.lt_of_lt_of_le (hr.st.sz b hS) x.size
    · intro j
      cases hj : idsM (allocD pre) j with
      | false => rw [hγo j hj]; exact hr.st.one j
      | true =>
        obtain ⟨p, hp, rfl⟩ := (idsM_iff _ _).1 hj
        obtain ⟨i, b1, _, _, _, _, hv, _⟩ := hnew p hp
        rw [hγn p hp, hv]; rfl
  have he := hr.eff (idsM (allocD pre)) (idsM (allocD pre)) (w' := w) (S' := S) (γ' := γ') (Hn := boxesH ZT (allocD pre)) (fun _ h => h) (Keep.of_ext x) (fun _ h => h) (fun _ h => .inl h) hst'
    (fun j r b hj hb => by
      obtain ⟨p, hp, rfl, rfl⟩ := look_boxesH ZT _ j r hj
      obtain ⟨i, b1, _, _, _, _, hv, hb0, _⟩ := hnew p hp
      rw [hγn p hp, hv] at hb
      simp [rblk] at hb
      subst hb
      exact .inl hb0)
    (fun j r hj => by
      obtain ⟨p, hp, rfl, rfl⟩ := look_boxesH ZT _ j r hj
      exact (idsM_iff _ _).2 ⟨p, hp, rfl⟩)
    hγo (fun j hj => by
      cases h : idsM (allocD pre) j with
      | false => rfl
      | true =>
        obtain ⟨p, hp, rfl⟩ := (idsM_iff _ _).1 h
        have := c.lt _ hj
        omega) hu
  refine h2 S γ' _ w ⟨he.st, ?_, he.up, he.own, he.ids, by rw [fill_size]; exact hr.size, he.keep⟩
  intro y av hl
  rcases look_boxesF _ _ y av hl with ⟨p, hp, rfl, rfl⟩ | ⟨hno, hl⟩
  · obtain ⟨i, b1, _, _, _, _, hv, _⟩ := hnew p hp
    rw [hv]
    simp only [AV.holds]
    exact ⟨b1, by rw [hγn p hp, hv]; rfl, rfl⟩
  · rw [look_markF] at hl
    cases hf0 : look (frAfter pre qs0 fr) y with
    | none => rw [hf0] at hl; cases hl
    | some a0 =>
      rw [hf0] at hl
      simp only [Option.map_some, Option.some.injEq] at hl
      rcases frame_after hc h1 hr.size vs hf0 with ⟨h, e⟩ | ⟨i, hi', ha, e⟩
      · rw [e]
        refine he.fr y av ?_
        rw [look_markF, h]
        simp only [Option.map_some, hl]
      · rw [e]
        cases hus : a0.uses (fun j => !(idsM (allocD pre) j)) with
        | false => rw [hus] at hl; subst hl; simp [AV.holds]
        | true =>
          rw [hus] at hl
          subst hl
          have h3 := (hf i y hi').2.1
          rw [ha] at h3
          obtain ⟨oi, hoi, hod⟩ : ∃ o, pre[i]? = some o ∧ o.dst = some y := by
            unfold dstOf at hi'
            cases ho' : pre[i]? with
            | none => simp [ho'] at hi'
            | some o => exact ⟨o, rfl, by simpa [ho'] using hi'⟩
          have h4 := List.all_eq_true.1 hst oi (List.mem_of_getElem? hoi)
          cases hia : isAlloc oi with
          | some p =>
            have hp := mem_allocD pre i p (by rw [hoi]; exact hia)
            obtain ⟨_, hd, _⟩ := isAlloc_at hia
            rw [hod] at hd
            injection hd with hd
            exact absurd hd.symm (hno p hp)
          | none =>
            simp only [hod, hia, hf0] at h4
            exact AV.still_any (fun j => !(idsM (allocD pre) j)) (fun j hj => hγo j (by simpa using hj)) a0 _ h4 hus h3
end
end Go.Proofs.YtgdkeafdlehlaaaDoor

/- Regions that make new blocks and store into them, in any drawn order, over abstract frames. Nothing of the program stands here. -/
namespace Go.Proofs.YtgdkeafdlehlaaaDoor
open Go Go.RowKit
set_option linter.unusedVariables false
set_option linter.unusedSimpArgs false
set_option maxHeartbeats 2000000
inductive UK where
  | plain (a : AV)
  | alloc (d : Nat) (zs : List Z)
  | store (d : Nat) (cs : List AV)
def UK.av : UK → AV
  | .plain a => a
  | _ => .any
def storeNeeds (l : List Oper) (o : Oper) (t : TypeId) (d : Nat) : Bool := (needs o).any fun j => match l[j]? with
  | some p => match isAlloc p with
    | some q => Nat.beq q.1 t && Nat.beq q.2 d
    | none => false
  | none => false
inductive KOk (P : Program) (T : List (Nat × TI)) (ZT : List (Nat × List Z)) (l : List Oper) (fr : List (Nat × AV)) (H : List (Nat × Res)) (o : Oper) : UK → Prop
  | plain {a : AV} {d : Nat} (hd : o.dst = some d) (hg : o.guard = none) (ha : isAlloc o = none) (h : SOp P o fr H a) (hst : a.still = true) : KOk P T ZT l fr H o (.plain a)
  | alloc {t : TypeId} {d : Nat} {zs : List Z} (ha : isAlloc o = some (t, d)) (hz : look ZT t = some zs) : KOk P T ZT l fr H o (.alloc d zs)
  | store {t : TypeId} {d : Nat} {y : Operand} {a : AV} {cs : List AV} {ti : TI} {zs : List Z} (hg : o.guard = none) (hd : o.dst = none) (ho : o.op = .store t (.tmp d) y) (ht : look T t = some ti) (hn : storeNeeds l o t d = true) (hy : Opv fr y a) (hc : cellsOf a = some cs) (h1 : AV.allOneL cs = true) (hl : Nat.beq cs.length ti.size = true) (hz : look ZT t = some zs) (hb : Nat.ble ti.size zs.length = true) : KOk P T ZT l fr H o (.store d cs)
inductive Evu (P : Program) (T : List (Nat × TI)) (ZT : List (Nat × List Z)) (l : List Oper) (H : List (Nat × Res)) : List Oper → List (Nat × AV) → List UK → Prop
  | nil {fr : List (Nat × AV)} : Evu P T ZT l H [] fr []
  | cons {fr : List (Nat × AV)} {o : Oper} {rest : List Oper} {k : UK} {ks : List UK} (h : KOk P T ZT l fr H o k) (next : Evu P T ZT l H rest (frAfter [o] [k.av] fr) ks) : Evu P T ZT l H (o :: rest) fr (k :: ks)
theorem frAfter_cons (o : Oper) (rest : List Oper) (a : AV) (qs0 : List AV) (fr : List (Nat × AV)) : frAfter (o :: rest) (a :: qs0) fr = frAfter rest qs0 (frAfter [o] [a] fr) := by
  cases hd : o.dst with
  | none => simp [frAfter, hd]
  | some d => simp [frAfter, hd]
section
variable {P : Program} {c : Ctx} {n : Nat} {Q : AQ} {fr : List (Nat × AV)} {H : List (Nat × Res)} {T : List (Nat × TI)} {ZT : List (Nat × List Z)} {l : List Oper}
theorem Evu.len {m : List Oper} {ks : List UK} (h : Evu P T ZT l H m fr ks) : ks.length = m.length := by
  induction h with
  | nil => rfl
  | cons _ _ ih => simp [ih]
theorem Evu.get {m : List Oper} {ks : List UK} (h : Evu P T ZT l H m fr ks) : ∀ (i : Nat) (o : Oper), m[i]? = some o → ∃ k, ks[i]? = some k ∧ KOk P T ZT l (frAfter (m.take i) ((ks.map UK.av).take i) fr) H o k := by
  induction h with
  | nil => intro i o h; simp at h
  | @cons fr o rest k ks h1 _ ih =>
    intro i o' ho'
    cases i with
    | zero =>
      simp at ho'; subst ho'
      exact ⟨k, rfl, by simpa [frAfter] using h1⟩
    | succ i =>
      obtain ⟨k', h2, h3⟩ := ih i o' (by simpa using ho')
      refine ⟨k', by simpa using h2, ?_⟩
      rw [List.take_succ_cons, List.map_cons, List.take_succ_cons, frAfter_cons]
      exact h3
/-- the judgement that a walk goes by -/
inductive EvU (P : Program) (T : List (Nat × TI)) (ZT : List (Nat × List Z)) (l : List Oper) (H : List (Nat × Res)) : (List (Nat × AV) → List UK → Prop) → List Oper → List (Nat × AV) → Prop
  | nil {K : List (Nat × AV) → List UK → Prop} {fr : List (Nat × AV)} (h : K fr []) : EvU P T ZT l H K [] fr
  | plain {K : List (Nat × AV) → List UK → Prop} {fr : List (Nat × AV)} {o : Oper} {rest : List Oper} {d : Nat} {a : AV} (hd : o.dst = some d) (hg : o.guard = none) (ha : isAlloc o = none) (h : SOp P o fr H a) (next : EvU P T ZT l H (fun f ks => K f (.plain a :: ks)) rest ((d, a) :: fr)) : EvU P T ZT l H K (o :: rest) fr
  | alloc {K : List (Nat × AV) → List UK → Prop} {fr : List (Nat × AV)} {o : Oper} {rest : List Oper} {t : TypeId} {d : Nat} {zs : List Z} (ha : isAlloc o = some (t, d)) (hz : look ZT t = some zs) (next : EvU P T ZT l H (fun f ks => K f (.alloc d zs :: ks)) rest ((d, .any) :: fr)) : EvU P T ZT l H K (o :: rest) fr
  | store {K : List (Nat × AV) → List UK → Prop} {fr : List (Nat × AV)} {o : Oper} {rest : List Oper} {t : TypeId} {d : Nat} {y : Operand} {a : AV} {cs : List AV} {ti : TI} {zs : List Z} (hg : o.guard = none) (hd : o.dst = none) (ho : o.op = .store t (.tmp d) y) (ht : look T t = some ti) (hn : storeNeeds l o t d = true) (hy : Opv fr y a) (hc : cellsOf a = some cs) (h1 : AV.allOneL cs = true) (hl : Nat.beq cs.length ti.size = true) (hz : look ZT t = some zs) (hb : Nat.ble ti.size zs.length = true)
    (next : EvU P T ZT l H (fun f ks => K f (.store d cs :: ks)) rest fr) : EvU P T ZT l H K (o :: rest) fr
def stillK : List UK → Bool
  | [] => true
  | .plain a :: r => a.still && stillK r
  | _ :: r => stillK r
def hasSt (d : Nat) : List UK → Bool
  | [] => false
  | .store e _ :: r => match Nat.beq e d with | true => true | false => hasSt d r
  | _ :: r => hasSt d r
def onceU : List UK → Bool
  | [] => true
  | .store d _ :: r => match hasSt d r with | true => false | false => onceU r
  | _ :: r => onceU r
theorem EvU.ev {K : List (Nat × AV) → List UK → Prop} {m : List Oper} (h : EvU P T ZT l H K m fr) : (∀ f ks, K f ks → stillK ks = true) → ∃ ks, Evu P T ZT l H m fr ks ∧ K (frAfter m (ks.map UK.av) fr) ks := by
  suffices G : ∀ {K : List (Nat × AV) → List UK → Prop} {m : List Oper} {fr : List (Nat × AV)}, EvU P T ZT l H K m fr → ∃ ks, K (frAfter m (ks.map UK.av) fr) ks ∧ (stillK ks = true → Evu P T ZT l H m fr ks) by
    intro hs
    obtain ⟨ks, h1, h2⟩ := G h
    exact ⟨ks, h2 (hs _ _ h1), h1⟩
  intro K m fr h
  induction h with
  | nil h => exact ⟨[], h, fun _ => .nil⟩
  | @plain K fr o rest d a hd hg ha h next ih =>
    obtain ⟨ks, h1, h2⟩ := ih
    refine ⟨.plain a :: ks, by simpa [frAfter, hd, UK.av] using h1, fun hs => ?_⟩
    simp only [stillK, Bool.and_eq_true] at hs
    exact .cons (.plain hd hg ha h hs.1) (by simpa [frAfter, hd, UK.av] using h2 hs.2)
  | @alloc K fr o rest t d zs ha hz next ih =>
    obtain ⟨ks, h1, h2⟩ := ih
    obtain ⟨_, hd, _⟩ := isAlloc_at ha
    refine ⟨.alloc d zs :: ks, by simpa [frAfter, hd, UK.av] using h1, fun hs => ?_⟩
    simp only [stillK] at hs
    exact .cons (.alloc ha hz) (by simpa [frAfter, hd, UK.av] using h2 hs)
  | @store K fr o rest t d y a cs ti zs hg hd ho ht hn hy hc h1' hl hz hb next ih =>
    obtain ⟨ks, h1, h2⟩ := ih
    refine ⟨.store d cs :: ks, by simpa [frAfter, hd, UK.av] using h1, fun hs => ?_⟩
    simp only [stillK] at hs
    exact .cons (.store hg hd ho ht hn hy hc h1' hl hz hb) (by simpa [frAfter, hd, UK.av] using h2 hs)
theorem hasSt_at {d : Nat} {cs : List AV} : ∀ {ks : List UK} {j : Nat}, ks[j]? = some (.store d cs) → hasSt d ks = true
  | [], j, h => by simp at h
  | k :: r, 0, h => by
    simp at h; subst h
    simp [hasSt]
  | k :: r, j + 1, h => by
    have := hasSt_at (ks := r) (j := j) (by simpa using h)
    cases k with
    | store e ds => unfold hasSt; split <;> simp [this]
    | _ => simpa [hasSt] using this
theorem onceU_at {d : Nat} {cs ds : List AV} : ∀ {ks : List UK} {i j : Nat}, onceU ks = true → ks[i]? = some (.store d cs) → ks[j]? = some (.store d ds) → i = j
  | [], i, j, _, h, _ => by simp at h
  | k :: r, 0, 0, _, _, _ => rfl
  | k :: r, 0, j + 1, ho, h, h2 => by
    simp at h; subst h
    have := hasSt_at (ks := r) (j := j) (by simpa using h2)
    simp [onceU, this] at ho
  | k :: r, i + 1, 0, ho, h, h2 => by
    simp at h2; subst h2
    have := hasSt_at (ks := r) (j := i) (by simpa using h)
    simp [onceU, this] at ho
  | k :: r, i + 1, j + 1, ho, h, h2 => by
    have ho' : onceU r = true := by
      cases k with
      | store e es => unfold onceU at ho; split at ho <;> simp_all
      | _ => simpa [onceU] using ho
    have := onceU_at (ks := r) (i := i) (j := j) ho' (by simpa using h) (by simpa using h2)
    omega
/-- what a new block holds at last -/
def contU : List UK → Nat → List AV → List AV
  | [], _, zs => zs
  | .store e cs :: r, d, zs => match Nat.beq e d with | true => setAll zs 0 cs | false => contU r d zs
  | _ :: r, d, zs => contU r d zs
theorem contU_spec (d : Nat) (zs : List AV) : ∀ (ks : List UK), (∃ (j : Nat) (cs : List AV), ks[j]? = some (.store d cs) ∧ contU ks d zs = setAll zs 0 cs) ∨ ((∀ (j : Nat) (cs : List AV), ks[j]? ≠ some (.store d cs)) ∧ contU ks d zs = zs)
  | [] => .inr ⟨by simp, rfl⟩
  | k :: r => by
    have up : contU (k :: r) d zs = contU r d zs → (∀ cs, k ≠ .store d cs) → (∃ (j : Nat) (cs : List AV), (k :: r)[j]? = some (.store d cs) ∧ contU (k :: r) d zs = setAll zs 0 cs) ∨ ((∀ (j : Nat) (cs : List AV), (k :: r)[j]? ≠ some (.store d cs)) ∧ contU (k :: r) d zs = zs) := fun e hk => by
      rcases contU_spec d zs r with ⟨j, cs, h1, h2⟩ | ⟨h1, h2⟩
      · exact .inl ⟨j + 1, cs, by simpa using h1, e.trans h2⟩
      · refine .inr ⟨fun j cs hj => ?_, e.trans h2⟩
        cases j with
        | zero => simp at hj; exact hk cs hj
        | succ j => exact h1 j cs (by simpa using hj)
    cases k with
    | store e cs =>
      cases hb : Nat.beq e d with
      | true => exact .inl ⟨0, cs, by rw [Nat.eq_of_beq_eq_true hb]; rfl, by simp [contU, hb]⟩
      | false => exact up (by simp [contU, hb]) fun cs' he => by injection he with he _; subst he; rw [Nat.beq_refl] at hb; cases hb
    | plain a => exact up rfl fun cs he => by cases he
    | alloc e zs => exact up rfl fun cs he => by cases he
def allocU (all : List UK) : List UK → List (Nat × List AV)
  | [] => []
  | .alloc d zs :: r => (d, contU all d (zAV zs)) :: allocU all r
  | _ :: r => allocU all r
theorem mem_allocU {all : List UK} {p : Nat × List AV} : ∀ {ks : List UK}, p ∈ allocU all ks ↔ ∃ (i : Nat) (zs : List Z), ks[i]? = some (.alloc p.1 zs) ∧ p.2 = contU all p.1 (zAV zs)
  | [] => by simp [allocU]
  | k :: r => by
    have ih := mem_allocU (all := all) (p := p) (ks := r)
    have up : (∀ zs, k ≠ .alloc p.1 zs) → ((∃ (i : Nat) (zs : List Z), (k :: r)[i]? = some (.alloc p.1 zs) ∧ p.2 = contU all p.1 (zAV zs)) ↔ ∃ (i : Nat) (zs : List Z), r[i]? = some (.alloc p.1 zs) ∧ p.2 = contU all p.1 (zAV zs)) := fun hk => by
      constructor
      · rintro ⟨i, zs, h1, h2⟩
        cases i with
        | zero => simp at h1; exact absurd h1 (hk zs)
        | succ i => exact ⟨i, zs, by simpa using h1, h2⟩
      · rintro ⟨i, zs, h1, h2⟩
        exact ⟨i + 1, zs, by simpa using h1, h2⟩
    cases k with
    | alloc d zs =>
      simp only [allocU, List.mem_cons, ih]
      constructor
      · rintro (rfl | ⟨i, ys, h1, h2⟩)
        · exact ⟨0, zs, rfl, rfl⟩
        · exact ⟨i + 1, ys, by simpa using h1, h2⟩
      · rintro ⟨i, ys, h1, h2⟩
        cases i with
        | zero =>
          simp at h1
          obtain ⟨rfl, rfl⟩ := h1
          exact .inl (by rw [← h2])
        | succ i => exact .inr ⟨i, ys, by simpa using h1, h2⟩
    | plain a => rw [up (fun zs he => by cases he)]; exact ih
    | store e cs => rw [up (fun zs he => by cases he)]; exact ih
def uH : List (Nat × List AV) → List (Nat × Res)
  | [] => []
  | p :: r => (p.1 + 1000, .box p.2) :: uH r
def uF : List (Nat × List AV) → List (Nat × AV) → List (Nat × AV)
  | [], fr => fr
  | p :: r, fr => (p.1, .ptr (p.1 + 1000) 0) :: uF r fr
theorem look_uH : ∀ (L : List (Nat × List AV)) (j : Nat) (r : Res), look (uH L) j = some r → ∃ p ∈ L, p.1 + 1000 = j ∧ r = .box p.2
  | [], j, r, h => by simp [uH, look] at h
  | p :: L, j, r, h => by
    unfold uH at h
    rw [look_cons] at h
    split at h
    · rename_i e
      injection h with h
      exact ⟨p, List.mem_cons_self, e, h.symm⟩
    · obtain ⟨q, hq, h2⟩ := look_uH L j r h
      exact ⟨q, List.mem_cons_of_mem _ hq, h2⟩
theorem look_uF : ∀ (L : List (Nat × List AV)) (fr : List (Nat × AV)) (x : Nat) (a : AV), look (uF L fr) x = some a → (∃ p ∈ L, p.1 = x ∧ a = .ptr (x + 1000) 0) ∨ ((∀ p ∈ L, p.1 ≠ x) ∧ look fr x = some a)
  | [], fr, x, a, h => .inr ⟨by simp, h⟩
  | p :: L, fr, x, a, h => by
    unfold uF at h
    rw [look_cons] at h
    split at h
    · rename_i e
      injection h with h
      exact .inl ⟨p, List.mem_cons_self, e, by rw [← h, e]⟩
    · rename_i e
      rcases look_uF L fr x a h with ⟨q, hq, h2⟩ | ⟨h2, h3⟩
      · exact .inl ⟨q, List.mem_cons_of_mem _ hq, h2⟩
      · refine .inr ⟨fun q hq => ?_, h3⟩
        rcases List.mem_cons.1 hq with rfl | hq
        · exact e
        · exact h2 q hq
def usesU (p : Nat → Bool) : List (Nat × List AV) → Bool
  | [] => true
  | q :: r => AV.usesL p q.2 && usesU p r
theorem usesU_at {p : Nat → Bool} : ∀ {L : List (Nat × List AV)}, usesU p L = true → ∀ q ∈ L, AV.usesL p q.2 = true
  | q :: r, h, x, hx => by
    simp only [usesU, Bool.and_eq_true] at h
    rcases List.mem_cons.1 hx with rfl | hx
    · exact h.1
    · exact usesU_at h.2 x hx
def okU (ids : Nat → Bool) (ks : List UK) : Bool := match stillK ks with
  | true => match onceU ks with
    | true => usesU (fun j => !(ids j)) (allocU ks ks)
    | false => false
  | false => false
theorem okU_at {ids : Nat → Bool} {ks : List UK} (h : okU ids ks = true) : stillK ks = true ∧ onceU ks = true ∧ usesU (fun j => !(ids j)) (allocU ks ks) = true := by
  unfold okU at h
  split at h
  · rename_i h1
    split at h
    · rename_i h2; exact ⟨h1, h2, h⟩
    · cases h
  · cases h
def uOk (ops : Array Oper) (n : Nat) : Bool := (List.range ops.size).all fun i => match dstOf ops i with
  | none => true
  | some d => decide (d < n) && (List.range ops.size).all fun j => i == j || dstOf ops j != some d
theorem uOk_at {ops : Array Oper} (hc : uOk ops n = true) {i d : Nat} (hi : dstOf ops i = some d) : d < n ∧ ∀ j, dstOf ops j = some d → i = j := by
  have hsz : ∀ {k e : Nat}, dstOf ops k = some e → k < ops.size := fun {k e} hk => by
    unfold dstOf at hk
    cases ho : ops[k]? with
    | none => simp [ho] at hk
    | some o => exact (Array.getElem?_eq_some_iff.1 ho).1
  have := List.all_eq_true.1 hc i (List.mem_range.2 (hsz hi))
  rw [hi] at this
  simp only [Bool.and_eq_true, decide_eq_true_eq] at this
  refine ⟨this.1, fun j hj => ?_⟩
  have h2 := List.all_eq_true.1 this.2 j (List.mem_range.2 (hsz hj))
  simpa [hj] using h2
theorem St.extS {S : Nat → Prop} {γ : Nat → Value} {w w' : World} (h : St S γ w H) (x : Ext w w') : St S γ w' H := by
  have hw := same_of_ext h.sz x
  refine ⟨fun j r hj => ?_, h.dis, h.live, h.sz.to (fun _ h => h) hw fun b hb => Nat.lt_of_lt_of_le (h.sz b hb) x.size, h.one⟩
  have hr := h.res j r hj
  exact Res.mono (fun _ h => h) hw (fun _ => true) (fun _ _ => rfl) (by cases r <;> simp [Res.uses, AV.usesL_true]) (fun b hb => x.block b (Res.blk_lt hr hb)) hr
structure UInv (l : List Oper) (ks : List UK) (S : Nat → Prop) (γ : Nat → Value) (tmps : Array Value) (w0 : World) (listed : Array Bool) (a : Act) (w : World) : Prop where
  ext : Ext w0 w
  size : a.tmps.size = tmps.size
  defers : a.defers = []
  out : ∀ t, (∀ i, dstOf l.toArray i ≠ some t) → a.tmps[t]? = tmps[t]?
  closed : Closed l.toArray listed
  plain : ∀ i d av, ks[i]? = some (.plain av) → dstOf l.toArray i = some d → listed.getD i false = true → av.holds S γ w0 (a.tmps.getD d undef)
  alloc : ∀ i d zs, ks[i]? = some (.alloc d zs) → listed.getD i false = true → ∃ b arr t, a.tmps.getD d undef = .pointer (some ⟨b, 0, none⟩) ∧ w0.heap.size ≤ b ∧ w.heap[b]? = some (.cells arr t (0, 0)) ∧ (∀ j cs, ks[j]? = some (.store d cs) → listed.getD j false = true → AV.holdsL S γ w0 (setAll (zAV zs) 0 cs) arr.toList) ∧ ((∀ j cs, ks[j]? = some (.store d cs) → listed.getD j false = false) → AV.holdsL S γ w0 (zAV zs) arr.toList)
  pairs : ∀ i j d e zs ys b, ks[i]? = some (.alloc d zs) → ks[j]? = some (.alloc e ys) → i ≠ j → listed.getD i false = true → listed.getD j false = true → a.tmps.getD d undef = .pointer (some ⟨b, 0, none⟩) → a.tmps.getD e undef ≠ .pointer (some ⟨b, 0, none⟩)
theorem keep_ext {b0 : Nat} {w0 w w' : World} (x : Ext w0 w) (k : Keep (fun b => b = b0) w w') (h : w0.heap.size ≤ b0) : Ext w0 w' :=
  ((Keep.of_ext (L := fun _ => False) x).trans k (fun b e => .inr (by omega))).ext
theorem a_region_U {id : Nat} (hm : P.follows .mixedOrders = true) (hb : backB l.toArray = true) (hc : uOk l.toArray n = true) (hdep : depsOk l.toArray = true) (hT : TTOk P T) (hZ : ZOk P ZT) (hu : usesH (idsM (allocD l)) (dropH (idsM (allocD l)) H) = true)
    (ev : EvU P T ZT l H (fun fr' ks => True ∧ okU (idsM (allocD l)) ks = true ∧ Q .normal (uF (allocU ks ks) (markF (idsM (allocD l)) fr')) (uH (allocU ks ks) ++ dropH (idsM (allocD l)) H)) l fr) : ACode P c n (.region id l.toArray true) Q fr H := fun S γ tmps w0 hr => by
  obtain ⟨ks, h1, _, hok, h2⟩ := ev.ev (fun f ks h => (okU_at h.2.1).1)
  obtain ⟨hst, honce, hus⟩ := okU_at hok
  have hlen := h1.len
  have hdst : ∀ {i : Nat} {o : Oper}, l[i]? = some o → dstOf l.toArray i = o.dst := fun ho => by unfold dstOf; simp [ho]
  have hdo : ∀ {i d : Nat}, dstOf l.toArray i = some d → ∃ o, l[i]? = some o ∧ o.dst = some d := fun {i d} h => by
    unfold dstOf at h
    cases ho : l[i]? with
    | none => simp [ho] at h
    | some o => exact ⟨o, rfl, by simpa [ho] using h⟩
  have hn := hr.size
  -- the kind of an operation
  have hk : ∀ {i : Nat} {k : UK}, ks[i]? = some k → ∃ o, l[i]? = some o ∧ KOk P T ZT l (frAfter (l.take i) ((ks.map UK.av).take i) fr) H o k := fun {i k} h => by
    have hlt : i < l.length := by have := (List.getElem?_eq_some_iff.1 h).1; omega
    obtain ⟨k', h3, h4⟩ := h1.get i l[i] (List.getElem?_eq_getElem hlt)
    rw [h] at h3; injection h3 with h3; subst h3
    exact ⟨_, List.getElem?_eq_getElem hlt, h4⟩
  have hka : ∀ {i d : Nat} {zs : List Z}, ks[i]? = some (.alloc d zs) → dstOf l.toArray i = some d ∧ ∃ o t, l[i]? = some o ∧ isAlloc o = some (t, d) ∧ look ZT t = some zs := fun {i d zs} h => by
    obtain ⟨o, ho, h3⟩ := hk h
    cases h3 with
    | alloc ha hz => exact ⟨(hdst ho).trans (isAlloc_at ha).2.1, o, _, ho, ha, hz⟩
  have hks : ∀ {j d : Nat} {cs : List AV}, ks[j]? = some (.store d cs) → dstOf l.toArray j = none ∧ ∃ o t i zs p, l[j]? = some o ∧ i ∈ needs o ∧ l[i]? = some p ∧ isAlloc p = some (t, d) ∧ ks[i]? = some (.alloc d zs) ∧ look ZT t = some zs := fun {j d cs} h => by
    obtain ⟨o, ho, h3⟩ := hk h
    cases h3 with
    | @store t _ y a _ ti zs hg hd hop ht hn hy hc h1' hl hz hb =>
      refine ⟨(hdst ho).trans hd, ?_⟩
      unfold storeNeeds at hn
      rw [List.any_eq_true] at hn
      obtain ⟨i, hi, hi2⟩ := hn
      cases hp : l[i]? with
      | none => rw [hp] at hi2; cases hi2
      | some p =>
        rw [hp] at hi2
        simp only at hi2
        cases hq : isAlloc p with
        | none => rw [hq] at hi2; cases hi2
        | some q =>
          rw [hq] at hi2
          simp only [Bool.and_eq_true] at hi2
          have e1 := Nat.eq_of_beq_eq_true hi2.1
          have e2 := Nat.eq_of_beq_eq_true hi2.2
          obtain ⟨t', d'⟩ := q
          simp only at e1 e2
          subst e1; subst e2
          obtain ⟨k', h4, h5⟩ := h1.get i p hp
          cases h5 with
          | plain _ _ ha => rw [ha] at hq; cases hq
          | alloc ha hz' =>
            rw [ha] at hq
            injection hq with hq
            injection hq with q1 q2
            subst q1; subst q2
            exact ⟨o, _, i, _, p, ho, hi, hp, ha, h4, hz'⟩
          | store _ hd' =>
            have := (isAlloc_at hq).2.1
            rw [hd'] at this; cases this
  have hlook : ∀ (i : Nat) {j : Nat} {x : Tmp}, dstOf l.toArray j = some x → j < i → look (frAfter (l.take i) ((ks.map UK.av).take i) fr) x = (ks.map UK.av)[j]? := by
    intro i j x hj hji
    obtain ⟨o, ho, hd⟩ := hdo hj
    rw [frAfter_in (l.take i) ((ks.map UK.av).take i) fr j o (by rw [List.getElem?_take, if_pos hji]; exact ho) hd ?_ (by simp [hlen])]
    · rw [List.getElem?_take, if_pos hji]
    · intro k o' hk' hd'
      rw [List.getElem?_take] at hk'
      split at hk'
      · exact ((uOk_at hc ((hdst hk').trans hd')).2 j ((hdst ho).trans hd))
      · cases hk'
  have houtl : ∀ {x : Tmp}, outside l.toArray x = true → ∀ i, dstOf l.toArray i ≠ some x := by
    intro x hx i hi
    obtain ⟨o, ho, hd⟩ := hdo hi
    unfold outside at hx
    have := Array.all_eq_true'.1 hx o (by simpa using List.mem_of_getElem? ho)
    simp [hd] at this
  have hout : ∀ (i : Nat) {x : Tmp}, (∀ i, dstOf l.toArray i ≠ some x) → look (frAfter (l.take i) ((ks.map UK.av).take i) fr) x = look fr x := by
    intro i x hx
    apply frAfter_out
    intro o ho he
    obtain ⟨k, hk'⟩ := List.getElem?_of_mem (List.mem_of_mem_take ho)
    exact hx k ((hdst hk').trans he)
  have hS0 : ∀ {w : World}, Ext w0 w → Same S w w0 := fun x b hb => (x.block b (hr.st.sz b hb)).symm
  have hset : ∀ {listed : Array Bool} {i : Nat}, i < listed.size → ∀ j, (listed.setIfInBounds i true).getD j false = if j = i then true else listed.getD j false := by
    intro listed i hlt j
    simp only [Array.getD_eq_getD_getElem?, Array.getElem?_setIfInBounds]
    by_cases hji : i = j
    · subst hji; rw [if_pos rfl, if_pos hlt]; simp
    · rw [if_neg hji, if_neg (by omega)]
  refine region_inv (Inv := UInv l ks S γ tmps w0) hm hb ?_ ?_ ?_
  · have hf : ∀ i, (Array.replicate l.toArray.size false).getD i false = false := fun i => by
      simp only [Array.getD_eq_getD_getElem?, Array.getElem?_replicate]
      split <;> rfl
    refine ⟨⟨rfl, rfl, rfl, Nat.le_refl _, fun _ _ => rfl⟩, rfl, rfl, fun _ _ => rfl, ?_, ?_, ?_, ?_⟩
    · intro j o ho hj; rw [hf] at hj; cases hj
    · intro i d av _ _ hj; rw [hf] at hj; cases hj
    · intro i d zs _ hj; rw [hf] at hj; cases hj
    · intro i j d e zs ys b _ _ _ hj; rw [hf] at hj; cases hj
  · intro i o listed a w hs ho hl hneed h
    have hol : l[i]? = some o := by simpa using ho
    have hlt : i < listed.size := by rw [hs]; exact (Array.getElem?_eq_some_iff.1 ho).1
    obtain ⟨k, hki, hko⟩ := h1.get i o hol
    have hcl : Closed l.toArray (listed.setIfInBounds i true) := by
      intro j o' ho' hj k hk'
      rw [hset hlt]
      split
      · rfl
      · rw [hset hlt] at hj
        by_cases hji : j = i
        · subst hji
          rw [ho] at ho'
          injection ho' with ho'
          subst ho'
          exact hneed k hk'
        · rw [if_neg hji] at hj
          exact h.closed j o' ho' hj k hk'
    have hdo' : (o.op.operands.toList.all fun | .tmp t => outside l.toArray t || (needs o).any fun j => dstOf l.toArray j == some t | _ => true) = true := by
      unfold depsOk at hdep
      rw [List.all_eq_true] at hdep
      have := hdep o (by simpa using List.mem_of_getElem? hol)
      simp only [Bool.and_eq_true] at this
      exact this.1
    have henv : Env (frAfter (l.take i) ((ks.map UK.av).take i) fr) H (fun x => x ∈ o.op.operands) a.eval S γ w := by
      refine ⟨hr.st.extS h.ext, ?_, fun _ => rfl, fun _ => rfl, fun _ => rfl⟩
      intro x av hux hlx
      have hto : Same S w0 w := same_of_ext hr.st.sz h.ext
      rw [List.all_eq_true] at hdo'
      have := hdo' (.tmp x) (by simpa using hux)
      simp only [Bool.or_eq_true] at this
      rcases this with ho' | ho'
      · have hx := houtl ho'
        rw [hout i hx] at hlx
        have e := h.out x hx
        have := AV.ext (fun _ h => h) hto (hr.fr x av hlx)
        simpa only [Act.eval, Array.getD_eq_getD_getElem?, e] using this
      · rw [List.any_eq_true] at ho'
        obtain ⟨j, hj, hjd⟩ := ho'
        have hjd : dstOf l.toArray j = some x := by simpa using hjd
        have hji := backB_at hb ho j (by simpa using hj)
        rw [hlook i hjd hji, List.getElem?_map] at hlx
        obtain ⟨p, hp, hpd⟩ := hdo hjd
        obtain ⟨k', hk', hko'⟩ := h1.get j p hp
        rw [hk'] at hlx
        simp only [Option.map_some, Option.some.injEq] at hlx
        subst hlx
        cases k' with
        | plain av => exact AV.ext (fun _ h => h) hto (h.plain j x av hk' hjd (hneed j (by simpa using hj)))
        | alloc d zs => simp [UK.av, AV.holds]
        | store d cs => simp [UK.av, AV.holds]
    unfold wpOp
    simp only [ho]
    cases hko with
    | @plain av d hd hg ha hsop hst1 =>
      rw [if_pos (by simp [Region.wanted, hg])]
      refine .inl (Outcome.upon ((hsop S γ w a.eval henv).mono ?_))
      rintro v w' ⟨x, hv⟩
      have hst2 : av.still = true := hst1
      have hv0 : av.holds S γ w0 v := AV.still_any (fun _ => true) (fun _ _ => rfl) av v hst2 (AV.uses_true av) hv
      have hdi := (hdst hol).trans hd
      obtain ⟨hdn, huq⟩ := uOk_at hc hdi
      have hdt : d < a.tmps.size := by rw [h.size, hn]; exact hdn
      have hput : a.put o.dst v = { a with tmps := a.tmps.setIfInBounds d v } := by rw [hd]; rfl
      rw [hput]
      have hoth : ∀ {j e : Nat}, j ≠ i → dstOf l.toArray j = some e → d ≠ e := fun hj he e => hj (huq _ (by rw [e]; exact he)).symm
      refine ⟨h.ext.trans x, by simpa using h.size, h.defers, ?_, hcl, ?_, ?_, ?_⟩
      · intro t ht
        have hne : d ≠ t := fun e => ht i (by rw [← e]; exact hdi)
        simp only [Array.getElem?_setIfInBounds, if_neg hne]
        exact h.out t ht
      · intro j e bv hj hje hlj
        rw [getD_set hdt]
        by_cases hji : j = i
        · subst hji
          rw [hki] at hj
          injection hj with hj; injection hj with hj; subst hj
          rw [hdi] at hje; injection hje with hje; subst hje
          rw [if_pos rfl]; exact hv0
        · rw [if_neg (hoth hji hje)]
          rw [hset hlt, if_neg hji] at hlj
          exact h.plain j e bv hj hje hlj
      · intro j e zs hj hlj
        have hji : j ≠ i := fun e => by subst e; rw [hki] at hj; cases hj
        have hne := hoth hji (hka hj).1
        rw [hset hlt, if_neg hji] at hlj
        obtain ⟨b, arr, t, p1, p2, p3, p4, p5⟩ := h.alloc j e zs hj hlj
        refine ⟨b, arr, t, by rw [getD_set hdt, if_neg hne]; exact p1, p2, ?_, ?_, ?_⟩
        · rw [x.block b (Array.getElem?_eq_some_iff.1 p3).1]; exact p3
        · intro m cs hm' hlm
          have hmi : m ≠ i := fun e => by subst e; rw [hki] at hm'; cases hm'
          rw [hset hlt, if_neg hmi] at hlm
          exact p4 m cs hm' hlm
        · intro hall
          refine p5 fun m cs hm' => ?_
          have := hall m cs hm'
          have hmi : m ≠ i := fun e => by subst e; rw [hki] at hm'; cases hm'
          rwa [hset hlt, if_neg hmi] at this
      · intro i1 j1 d1 e1 zs ys b hi1 hj1 hne hl1 hl2
        have hi : i1 ≠ i := fun e => by subst e; rw [hki] at hi1; cases hi1
        have hj : j1 ≠ i := fun e => by subst e; rw [hki] at hj1; cases hj1
        rw [hset hlt, if_neg hi] at hl1
        rw [hset hlt, if_neg hj] at hl2
        rw [getD_set hdt, if_neg (hoth hi (hka hi1).1), getD_set hdt, if_neg (hoth hj (hka hj1).1)]
        exact h.pairs i1 j1 d1 e1 zs ys b hi1 hj1 hne hl1 hl2
    | @alloc t d zs ha hz =>
      obtain ⟨hop, hd, hg⟩ := isAlloc_at ha
      rw [if_pos (by simp [Region.wanted, hg])]
      obtain ⟨zi, z, hi', hiz, hzc⟩ := hZ.zero hz
      have hdi := (hdst hol).trans hd
      obtain ⟨hdn, huq⟩ := uOk_at hc hdi
      have hdt : d < a.tmps.size := by rw [h.size, hn]; exact hdn
      refine .inl (Outcome.upon (outc (v := .pointer (some ⟨w.heap.size, 0, none⟩)) (w' := w.alloc (.cells z.cells t)) ?_ ?_))
      · simp [execOp, hop, Instr.alloc, zeroValue, typeInfo, hi', hiz, newVar, newRow]
      have hnew := heap_alloc_new w (.cells z.cells t)
      have x : Ext w (w.alloc (.cells z.cells t)) := Ext.alloc w _
      have hput : ∀ v, a.put o.dst v = { a with tmps := a.tmps.setIfInBounds d v } := fun v => by rw [hd]; rfl
      rw [hput]
      have hoth : ∀ {j e : Nat}, j ≠ i → dstOf l.toArray j = some e → d ≠ e := fun hj he e => hj (huq _ (by rw [e]; exact he)).symm
      refine ⟨h.ext.trans x, by simpa using h.size, h.defers, ?_, hcl, ?_, ?_, ?_⟩
      · intro t ht
        have hne : d ≠ t := fun e => ht i (by rw [← e]; exact hdi)
        simp only [Array.getElem?_setIfInBounds, if_neg hne]
        exact h.out t ht
      · intro j e bv hj hje hlj
        rw [getD_set hdt]
        have hji : j ≠ i := fun e => by subst e; rw [hki] at hj; cases hj
        rw [if_neg (hoth hji hje)]
        rw [hset hlt, if_neg hji] at hlj
        exact h.plain j e bv hj hje hlj
      · intro j e ys hj hlj
        by_cases hji : j = i
        · subst hji
          rw [hki] at hj
          injection hj with hj; injection hj with hj1 hj2; subst hj1; subst hj2
          refine ⟨w.heap.size, z.cells, t, by rw [getD_set hdt, if_pos rfl], h.ext.size, hnew, ?_, ?_⟩
          · intro m cs hm' hlm
            exfalso
            have hmi : m ≠ j := fun e => by subst e; rw [hki] at hm'; cases hm'
            rw [hset hlt, if_neg hmi] at hlm
            obtain ⟨_, om, _, i2, _, p2, hom, hi2, hp2, hap, hk2, _⟩ := hks hm'
            have := h.closed m om (by simpa using hom) hlm i2 hi2
            have e2 : i2 = j := ((huq i2 (hka hk2).1)).symm
            rw [e2, hl] at this; cases this
          · intro _; rw [hzc]; exact zAV_holds zs
        · have hne := hoth hji (hka hj).1
          rw [hset hlt, if_neg hji] at hlj
          obtain ⟨b, arr, t2, p1, p2, p3, p4, p5⟩ := h.alloc j e ys hj hlj
          refine ⟨b, arr, t2, by rw [getD_set hdt, if_neg hne]; exact p1, p2, ?_, ?_, ?_⟩
          · rw [x.block b (Array.getElem?_eq_some_iff.1 p3).1]; exact p3
          · intro m cs hm' hlm
            have hmi : m ≠ i := fun e => by subst e; rw [hki] at hm'; cases hm'
            rw [hset hlt, if_neg hmi] at hlm
            exact p4 m cs hm' hlm
          · intro hall
            refine p5 fun m cs hm' => ?_
            have := hall m cs hm'
            have hmi : m ≠ i := fun e => by subst e; rw [hki] at hm'; cases hm'
            rwa [hset hlt, if_neg hmi] at this
      · have low : ∀ {j e : Nat} {ys : List Z} {b : Nat}, ks[j]? = some (.alloc e ys) → j ≠ i → listed.getD j false = true → a.tmps.getD e undef = .pointer (some ⟨b, 0, none⟩) → b < w.heap.size := fun {j e ys b} hj hji hlj hv => by
          obtain ⟨b2, arr, t2, p1, p2, p3, _⟩ := h.alloc j e ys hj hlj
          rw [p1] at hv
          injection hv with hv; injection hv with hv; injection hv with hv
          subst hv
          exact (Array.getElem?_eq_some_iff.1 p3).1
        intro i1 j1 d1 e1 zs1 ys1 b hi1 hj1 hne hl1 hl2
        rw [hset hlt] at hl1 hl2
        rw [getD_set hdt, getD_set hdt]
        by_cases hi : i1 = i
        · subst hi
          rw [hki] at hi1
          injection hi1 with hi1; injection hi1 with hi1 _; subst hi1
          rw [if_pos rfl, if_neg (hoth (Ne.symm hne) (hka hj1).1)]
          rw [if_neg (Ne.symm hne)] at hl2
          intro hv he
          injection hv with hv; injection hv with hv; injection hv with hv
          have := low hj1 (Ne.symm hne) hl2 he
          omega
        · rw [if_neg (hoth hi (hka hi1).1)]
          rw [if_neg hi] at hl1
          by_cases hj : j1 = i
          · subst hj
            rw [hki] at hj1
            injection hj1 with hj1; injection hj1 with hj1 _; subst hj1
            rw [if_pos rfl]
            intro hv he
            injection he with he; injection he with he; injection he with he
            have := low hi1 hi hl1 hv
            omega
          · rw [if_neg (hoth hj (hka hj1).1)]
            rw [if_neg hj] at hl2
            exact h.pairs i1 j1 d1 e1 zs1 ys1 b hi1 hj1 hne hl1 hl2
    | @store t d y av cs ti zs hg hd hop ht hneeds hy hcs h1' hlc hz hzb =>
      rw [if_pos (by simp [Region.wanted, hg])]
      obtain ⟨hdn0, o2, t2, i2, zs2, p2, ho2, hi2, hp2, hap, hk2, hz2⟩ := hks hki
      rw [hol] at ho2; injection ho2 with ho2; subst ho2
      have hl2 := hneed i2 hi2
      obtain ⟨b, arr, t3, q1, q2, q3, q4, q5⟩ := h.alloc i2 d zs2 hk2 hl2
      have hno : ∀ j cs', ks[j]? = some (.store d cs') → listed.getD j false = false := fun j cs' hj => by
        rw [onceU_at honce hj hki]; exact hl
      have hzero := q5 hno
      have hyv := henv.get hy (by rw [hop]; simp [Op.operands])
      have hcv := cellsOf_holds hr.st.one hcs hyv
      have hlv := AV.holdsL_len hcv
      have hl' : cs.length = ti.size := Nat.eq_of_beq_eq_true hlc
      have hlz := AV.holdsL_len hzero
      have hzz : ti.size ≤ zs2.length := by
        have hzb' := Nat.le_of_ble_eq_true hzb
        -- the type of the alloc is that of the store
        have : zs2 = zs := by
          unfold storeNeeds at hneeds
          rw [List.any_eq_true] at hneeds
          obtain ⟨i3, hi3, hi4⟩ := hneeds
          cases hp : l[i3]? with
          | none => rw [hp] at hi4; cases hi4
          | some p =>
            rw [hp] at hi4
            simp only at hi4
            cases hq : isAlloc p with
            | none => rw [hq] at hi4; cases hi4
            | some q =>
              rw [hq] at hi4
              simp only [Bool.and_eq_true] at hi4
              have e1 := Nat.eq_of_beq_eq_true hi4.1
              have e2 := Nat.eq_of_beq_eq_true hi4.2
              have d3 : dstOf l.toArray i3 = some d := (hdst hp).trans (by rw [(isAlloc_at (t := q.1) (d := q.2) hq).2.1, e2])
              have e3 := (uOk_at hc (hka hk2).1).2 i3 d3
              subst e3
              rw [hp2] at hp; injection hp with hp; subst hp
              rw [hap] at hq; injection hq with hq; subst hq
              simp only at e1; subst e1
              rw [hz2] at hz; injection hz
        rw [this]; exact hzb'
      have hsz2 : (zAV zs2).length = zs2.length := by simp [zAV]
      obtain ⟨w', s2, s3, s4, s5⟩ := storeCells_run (P := P) (off := 0) (Act.eval a y).cells.toList 0 arr w q3 (allOne_of (hγ := hr.st.one) h1' hcv) (by
        simp only [Array.length_toList] at hlz hlv ⊢; omega)
      have hrun : (execOp a.eval o).run P w = .ok .skip w' := by
        have hsz : (Act.eval a y).cells.size = ti.size := by
          rw [← Array.length_toList, hlv, hl']
        have hxv : Act.eval a (.tmp d) = .pointer (some ⟨b, 0, none⟩) := q1
        simp only [execOp, hop, Instr.storeAt, hxv, Instr.sureAddr, storeVar, Sem.run_bind, Sem.run_pure, Result.andThen_ok, hT.size ht, hsz, ne_eq, not_true_eq_false, if_false, s2]
      refine .inl (Outcome.upon ?_)
      rw [hrun]
      show UInv l ks S γ tmps w0 (listed.setIfInBounds i true) (a.put o.dst undef) w'
      have hput : a.put o.dst undef = a := by rw [hd]; rfl
      rw [hput]
      have hext := keep_ext h.ext s3 q2
      have hnew : AV.holdsL S γ w0 (setAll (zAV zs2) 0 cs) (setAll arr.toList (0 + 0) (Act.eval a y).cells.toList) :=
        holdsL_setAll 0 (AV.extL (fun _ h => h) (hS0 h.ext) hcv) hzero
      refine ⟨hext, h.size, h.defers, h.out, hcl, ?_, ?_, ?_⟩
      · intro j e bv hj hje hlj
        have hji : j ≠ i := fun e => by subst e; rw [hki] at hj; cases hj
        rw [hset hlt, if_neg hji] at hlj
        exact h.plain j e bv hj hje hlj
      · intro j e ys hj hlj
        have hji : j ≠ i := fun e => by subst e; rw [hki] at hj; cases hj
        rw [hset hlt, if_neg hji] at hlj
        by_cases hj2 : j = i2
        · subst hj2
          rw [hk2] at hj
          injection hj with hj; injection hj with hj1 hj2; subst hj1; subst hj2
          refine ⟨b, _, t3, q1, q2, s4, ?_, ?_⟩
          · intro m cs' hm' _
            have := onceU_at honce hm' hki
            subst this
            rw [hki] at hm'
            injection hm' with hm'; injection hm' with _ hm'; subst hm'
            exact hnew
          · intro hall
            have := hall i cs hki
            rw [hset hlt, if_pos rfl] at this
            cases this
        · obtain ⟨b2, arr2, t4, p1, p2', p3, p4, p5⟩ := h.alloc j e ys hj hlj
          have hbb : b2 ≠ b := fun e => by
            subst e
            exact h.pairs i2 j _ _ _ _ b2 hk2 hj (Ne.symm hj2) hl2 hlj q1 p1
          have hed : e ≠ d := fun e => by
            subst e
            have := (uOk_at hc (hka hj).1).2 i2 (hka hk2).1
            exact hj2 this
          refine ⟨b2, arr2, t4, p1, p2', ?_, ?_, ?_⟩
          · rw [s3.block b2 (Array.getElem?_eq_some_iff.1 p3).1 hbb]; exact p3
          · intro m cs' hm' hlm
            have hmi : m ≠ i := fun e2 => by
              subst e2; rw [hki] at hm'; injection hm' with hm'; injection hm' with hm' _; exact hed hm'.symm
            rw [hset hlt, if_neg hmi] at hlm
            exact p4 m cs' hm' hlm
          · intro hall
            refine p5 fun m cs' hm' => ?_
            have := hall m cs' hm'
            have hmi : m ≠ i := fun e2 => by
              subst e2; rw [hki] at hm'; injection hm' with hm'; injection hm' with hm' _; exact hed hm'.symm
            rwa [hset hlt, if_neg hmi] at this
      · intro i1 j1 d1 e1 zs1 ys1 b1 hi1 hj1 hne hl1 hl2'
        have hi : i1 ≠ i := fun e => by subst e; rw [hki] at hi1; cases hi1
        have hj : j1 ≠ i := fun e => by subst e; rw [hki] at hj1; cases hj1
        rw [hset hlt, if_neg hi] at hl1
        rw [hset hlt, if_neg hj] at hl2'
        exact h.pairs i1 j1 d1 e1 zs1 ys1 b1 hi1 hj1 hne hl1 hl2'
  · rintro listed ⟨tm, df⟩ w hall h
    have hdf : df = [] := h.defers
    subst hdf
    have hlist : ∀ {i : Nat} {k : UK}, ks[i]? = some k → listed.getD i false = true := fun {i k} hi => hall i (by have := (List.getElem?_eq_some_iff.1 hi).1; simpa [hlen] using this)
    have hnew : ∀ p ∈ allocU ks ks, ∃ (i : Nat) (zs : List Z) (b : Nat) (arr : Array Value) (t : TypeId), ks[i]? = some (.alloc p.1 zs) ∧ tm.getD p.1 undef = .pointer (some ⟨b, 0, none⟩) ∧ w0.heap.size ≤ b ∧ b < w.heap.size ∧ w.heap[b]? = some (.cells arr t (0, 0)) ∧ AV.holdsL S γ w0 p.2 arr.toList := by
      intro p hp
      obtain ⟨i, zs, hi, hpe⟩ := mem_allocU.1 hp
      obtain ⟨b, arr, t, p1, p2, p3, p4, p5⟩ := h.alloc i p.1 zs hi (hlist hi)
      refine ⟨i, zs, b, arr, t, hi, p1, p2, (Array.getElem?_eq_some_iff.1 p3).1, p3, ?_⟩
      rw [hpe]
      rcases contU_spec p.1 (zAV zs) ks with ⟨j, cs, h3, h4⟩ | ⟨h3, h4⟩
      · rw [h4]; exact p4 j cs h3 (hlist h3)
      · rw [h4]; exact p5 fun j cs hj => absurd hj (h3 j cs)
    have hids : ∀ j, idsM (allocD l) j = true → ∃ p ∈ allocU ks ks, p.1 + 1000 = j := fun j hj => by
      obtain ⟨q, hq, hqj⟩ := (idsM_iff _ _).1 hj
      obtain ⟨i, o, ho, ha⟩ := allocD_mem l q hq
      obtain ⟨k, hki, hko⟩ := h1.get i o ho
      cases hko with
      | plain _ _ ha' => rw [ha'] at ha; cases ha
      | @alloc t d zs ha' hz =>
        rw [ha'] at ha; injection ha with ha; subst ha
        exact ⟨(d, contU ks d (zAV zs)), mem_allocU.2 ⟨i, zs, hki, rfl⟩, hqj⟩
      | store _ hd' =>
        have := (isAlloc_at (t := q.1) (d := q.2) ha).2.1
        rw [hd'] at this; cases this
    have hids2 : ∀ p ∈ allocU ks ks, idsM (allocD l) (p.1 + 1000) = true := fun p hp => by
      obtain ⟨i, zs, hi, _⟩ := mem_allocU.1 hp
      obtain ⟨_, o, t, ho, ha, _⟩ := hka hi
      exact (idsM_iff _ _).2 ⟨(t, p.1), mem_allocD l i _ (by rw [ho]; exact ha), rfl⟩
    let γ' : Nat → Value := fun j => match idsM (allocD l) j with | true => tm.getD (j - 1000) undef | false => γ j
    have hγn : ∀ p ∈ allocU ks ks, γ' (p.1 + 1000) = tm.getD p.1 undef := fun p hp => by
      show (match idsM (allocD l) (p.1 + 1000) with | true => tm.getD (p.1 + 1000 - 1000) undef | false => γ (p.1 + 1000)) = _
      rw [hids2 p hp, Nat.add_sub_cancel]
    have hγo : ∀ j, idsM (allocD l) j = false → γ' j = γ j := fun j hj => by
      show (match idsM (allocD l) j with | true => tm.getD (j - 1000) undef | false => γ j) = _
      rw [hj]
    have hto : Same S w0 w := same_of_ext hr.st.sz h.ext
    have hst' : St S γ' w (uH (allocU ks ks)) := by
      refine ⟨?_, ?_, ?_, ?_, ?_⟩
      · intro j r hj
        obtain ⟨p, hp, rfl, rfl⟩ := look_uH _ j r hj
        obtain ⟨i, zs, b, arr, t, _, hv, _, _, hh, ha⟩ := hnew p hp
        rw [hγn p hp, hv]
        exact ⟨b, arr, t, rfl, hh, AV.monoL (fun _ h => h) hto (fun j => !(idsM (allocD l) j)) (fun j hj => hγo j (by simpa using hj)) _ _ (usesU_at hus p hp) ha⟩
      · intro j1 j2 r1 r2 b hj1 hj2 hb1 hb2
        obtain ⟨p, hp, rfl, rfl⟩ := look_uH _ j1 r1 hj1
        obtain ⟨q, hq, rfl, rfl⟩ := look_uH _ j2 r2 hj2
        obtain ⟨i, zs, b1, _, _, hi1, hv, _⟩ := hnew p hp
        obtain ⟨k, ys, b2, _, _, hk1, hw, _⟩ := hnew q hq
        rw [hγn p hp, hv] at hb1
        rw [hγn q hq, hw] at hb2
        simp [rblk] at hb1 hb2
        subst hb1
        by_cases hik : i = k
        · subst hik
          rw [hi1] at hk1
          injection hk1 with hk1
          injection hk1 with hk1
          rw [hk1]
        · exact absurd (by rw [hw, hb2]) (h.pairs i k _ _ _ _ b1 hi1 hk1 hik (hlist hi1) (hlist hk1) hv)
      · intro j r b hj hb hS
        obtain ⟨p, hp, rfl, rfl⟩ := look_uH _ j r hj
        obtain ⟨i, zs, b1, _, _, _, hv, hb0, _⟩ := hnew p hp
        rw [hγn p hp, hv] at hb
        simp [rblk] at hb
        subst hb
        have := hr.st.sz _ hS
        omega
      · exact hr.st.sz.to (fun _ h => h) hto fun b hS => Nat.lt_of_lt_of_le (hr.st.sz b hS) h.ext.size
      · intro j
        cases hj : idsM (allocD l) j with
        | false => rw [hγo j hj]; exact hr.st.one j
        | true =>
          obtain ⟨p, hp, rfl⟩ := hids j hj
          obtain ⟨i, zs, b1, _, _, _, hv, _⟩ := hnew p hp
          rw [hγn p hp, hv]; rfl
    have he := hr.eff (idsM (allocD l)) (idsM (allocD l)) (w' := w) (S' := S) (γ' := γ') (Hn := uH (allocU ks ks)) (fun _ h => h) (Keep.of_ext h.ext) (fun _ h => h) (fun _ h => .inl h) hst'
      (fun j r b hj hb => by
        obtain ⟨p, hp, rfl, rfl⟩ := look_uH _ j r hj
        obtain ⟨i, zs, b1, _, _, _, hv, hb0, _⟩ := hnew p hp
        rw [hγn p hp, hv] at hb
        simp [rblk] at hb
        subst hb
        exact .inl hb0)
      (fun j r hj => by
        obtain ⟨p, hp, rfl, rfl⟩ := look_uH _ j r hj
        exact hids2 p hp)
      hγo (fun j hj => by
        cases h : idsM (allocD l) j with
        | false => rfl
        | true =>
          obtain ⟨p, hp, rfl⟩ := hids j h
          have := c.lt _ hj
          omega) hu
    refine ⟨_, _, S, γ', h2, ⟨he.st, ?_, he.up, he.own, he.ids, h.size.trans hn, he.keep⟩, rfl⟩
    intro y av hl
    rcases look_uF _ _ y av hl with ⟨p, hp, rfl, rfl⟩ | ⟨hno, hl⟩
    · obtain ⟨i, zs, b1, _, _, _, hv, _⟩ := hnew p hp
      show AV.holds S γ' w _ (tm.getD p.1 undef)
      rw [hv]
      simp only [AV.holds]
      exact ⟨b1, by rw [hγn p hp, hv]; rfl, rfl⟩
    · rw [look_markF] at hl
      by_cases hex : ∀ i, dstOf l.toArray i ≠ some y
      · have e1 := hout l.length hex
        rw [List.take_length, List.take_of_length_le (by simp [hlen])] at e1
        rw [e1] at hl
        have e2 := h.out y hex
        have := he.fr y av (by rw [look_markF]; exact hl)
        simpa only [Array.getD_eq_getD_getElem?, e2] using this
      · simp only [ne_eq, Classical.not_forall, Decidable.not_not] at hex
        obtain ⟨i, hi⟩ := hex
        obtain ⟨o, ho, hd⟩ := hdo hi
        have hil : i < l.length := (List.getElem?_eq_some_iff.1 ho).1
        have e1 := hlook l.length hi hil
        rw [List.take_length, List.take_of_length_le (by simp [hlen])] at e1
        obtain ⟨k, hki, hko⟩ := h1.get i o ho
        rw [e1, List.getElem?_map, hki] at hl
        simp only [Option.map_some, Option.some.injEq] at hl
        cases k with
        | store d cs =>
          have := (hks hki).1
          rw [hi] at this; cases this
        | alloc d zs =>
          have := (hka hki).1
          rw [hi] at this; injection this with this
          exact absurd this.symm (hno (d, contU ks d (zAV zs)) (mem_allocU.2 ⟨i, zs, hki, rfl⟩))
        | plain a0 =>
          have hv := h.plain i y a0 hki hi (hlist hki)
          simp only [UK.av] at hl
          cases hus2 : a0.uses (fun j => !(idsM (allocD l) j)) with
          | false => rw [hus2] at hl; subst hl; simp [AV.holds]
          | true =>
            rw [hus2] at hl
            subst hl
            exact AV.mono (fun _ h => h) hto (fun j => !(idsM (allocD l) j)) (fun j hj => hγo j (by simpa using hj)) a0 _ hus2 hv
/-- is it such a region? -/
def uSel1 : Nat → Nat → List Oper → Bool
  | a, s, [] => match a with | 0 => false | 1 => false | _ => match s with | 0 => false | _ => true
  | a, s, o :: r => match o.guard with
    | some _ => false
    | none => match isAlloc o with
      | some _ => uSel1 (a + 1) s r
      | none => match o.dst with
        | some _ => uSel1 a s r
        | none => match o.op with
          | .store _ (.tmp _) _ => uSel1 a (s + 1) r
          | _ => false
theorem a_region_U' {id : Nat} (hsel : uSel1 0 0 l = true) (hm : P.follows .mixedOrders = true) (hb : backB l.toArray = true) (hc : uOk l.toArray n = true) (hdep : depsOk l.toArray = true) (hT : TTOk P T) (hZ : ZOk P ZT) (hu : usesH (idsM (allocD l)) (dropH (idsM (allocD l)) H) = true)
    (ev : EvU P T ZT l H (fun fr' ks => True ∧ okU (idsM (allocD l)) ks = true ∧ Q .normal (uF (allocU ks ks) (markF (idsM (allocD l)) fr')) (uH (allocU ks ks) ++ dropH (idsM (allocD l)) H)) l fr) : ACode P c n (.region id l.toArray true) Q fr H :=
  a_region_U hm hb hc hdep hT hZ hu ev
end
end Go.Proofs.YtgdkeafdlehlaaaDoor

/- Errors, pointers that may be nil, slices that are made, calls that hand resources on, answers known less exactly. Nothing of the program stands here. -/
namespace Go.Proofs.YtgdkeafdlehlaaaDoor
open Go Go.RowKit
set_option linter.unusedVariables false
set_option linter.unusedSimpArgs false
theorem bool_ft {x : Bool} (h : x = true) (h2 : x = false) : False := by rw [h] at h2; cases h2
/-- an error: none, or one that bears a number other than 0 -/
def errF (tp : TypeId) (c : Int) : SFact where
  holds S w v := (c = 0 ∧ v = .nilIface) ∨ (c ≠ 0 ∧ ∃ p, v = .iface tp p ∧ (placeF [.lit (.int .i64 c)]).holds S w p)
  mono := by
    rintro S S' w w' v (⟨h, rfl⟩ | ⟨h, p, rfl, hp⟩) hs hw
    · exact .inl ⟨h, rfl⟩
    · exact .inr ⟨h, p, rfl, (placeF _).mono hp hs hw⟩
  one := by
    rintro S w v (⟨_, rfl⟩ | ⟨_, p, rfl, _⟩) <;> rfl
section
variable {P : Program} {T : List (Nat × TI)} {o : Oper} {fr : List (Nat × AV)} {H : List (Nat × Res)} {c : Ctx} {n : Nat} {Q : AQ} {ops : Array Oper} {rest : List Oper}
variable {S : Nat → Prop} {γ : Nat → Value} {w : World} {x y : Operand} {t t' tp : TypeId} {k : Int} {s b : Nat}
theorem TTOk.iface (h : TTOk P T) (ht : look T t = some ⟨.iface, s, b⟩) : ∃ ms, P.underlying t = some (.interface ms) := by
  obtain ⟨hk, _⟩ := h.ok t _ ht
  unfold tkOf at hk
  cases hu : P.underlying t with
  | none => rw [hu] at hk; cases hk
  | some d => rw [hu] at hk; cases d <;> first | exact ⟨_, rfl⟩ | exact absurd hk (by simp)
theorem TTOk.ptr {e : TypeId} (h : TTOk P T) (ht : look T t = some ⟨.ptr e, s, b⟩) : P.underlying t = some (.pointer e) := by
  obtain ⟨hk, _⟩ := h.ok t _ ht
  unfold tkOf at hk
  cases hu : P.underlying t with
  | none => rw [hu] at hk; cases hk
  | some d => rw [hu] at hk; cases d <;> first | (simp at hk; subst hk; rfl) | exact absurd hk (by simp)
theorem sop_eql_err (ho : o.op = .binOp .eql t x (.const .nilIface) t' := by rfl) (hT : TTOk P T := by assumption) (ht : look T t = some ⟨.iface, s, b⟩ := by rfl) (hx : Opv fr x (.snap (errF tp k)) := by exact opv_std) : SOp P o fr H (.lit (.bool (decide (k = 0)))) := fun S γ w ρ h => by
  have h1 := h.get hx (by simp [ho, Op.operands])
  have hy : ρ (.const .nilIface) = .nilIface := h.const _
  obtain ⟨ms, hu⟩ := hT.iface ht
  simp only [AV.holds] at h1
  refine outl ?_
  rcases h1 with ⟨hc, hv⟩ | ⟨hc, p, hv, _⟩
  · simp [execOp, ho, hv, hy, eqGuard, go_sem, hu, hc]
  · simp [execOp, ho, hv, hy, eqGuard, go_sem, hu, hc]
theorem sop_neq_err (ho : o.op = .binOp .neq t x (.const .nilIface) t' := by rfl) (hT : TTOk P T := by assumption) (ht : look T t = some ⟨.iface, s, b⟩ := by rfl) (hx : Opv fr x (.snap (errF tp k)) := by exact opv_std) : SOp P o fr H (.lit (.bool (decide (k ≠ 0)))) := fun S γ w ρ h => by
  have h1 := h.get hx (by simp [ho, Op.operands])
  have hy : ρ (.const .nilIface) = .nilIface := h.const _
  obtain ⟨ms, hu⟩ := hT.iface ht
  simp only [AV.holds] at h1
  refine outl ?_
  rcases h1 with ⟨hc, hv⟩ | ⟨hc, p, hv, _⟩
  · simp [execOp, ho, hv, hy, eqGuard, go_sem, hu, hc]
  · simp [execOp, ho, hv, hy, eqGuard, go_sem, hu, hc]
theorem sop_eql_ifnil (ho : o.op = .binOp .eql t x (.const .nilIface) t' := by rfl) (hT : TTOk P T := by assumption) (ht : look T t = some ⟨.iface, s, b⟩ := by rfl) (hx : Opv fr x (.lit .nilIface) := by exact opv_std) : SOp P o fr H (.lit (.bool true)) := fun S γ w ρ h => by
  have hv := h.lit hx (by simp [ho, Op.operands])
  have hy : ρ (.const .nilIface) = .nilIface := h.const _
  obtain ⟨ms, hu⟩ := hT.iface ht
  refine outl ?_
  simp [execOp, ho, hv, hy, eqGuard, go_sem, hu]
theorem sop_neq_ifnil (ho : o.op = .binOp .neq t x (.const .nilIface) t' := by rfl) (hT : TTOk P T := by assumption) (ht : look T t = some ⟨.iface, s, b⟩ := by rfl) (hx : Opv fr x (.lit .nilIface) := by exact opv_std) : SOp P o fr H (.lit (.bool false)) := fun S γ w ρ h => by
  have hv := h.lit hx (by simp [ho, Op.operands])
  have hy : ρ (.const .nilIface) = .nilIface := h.const _
  obtain ⟨ms, hu⟩ := hT.iface ht
  refine outl ?_
  simp [execOp, ho, hv, hy, eqGuard, go_sem, hu]
/-- what the error is made of -/
theorem sop_assert_err {e : TypeId} (ho : o.op = .typeAssert x t tp true := by rfl) (hT : TTOk P T := by assumption) (ht : look T tp = some ⟨.ptr e, s, b⟩ := by rfl) (hx : Opv fr x (.snap (errF tp k)) := by exact opv_std) (hk : k ≠ 0 := by first | assumption | omega) : SOp P o fr H (.tup [.snap (placeF [.lit (.int .i64 k)]), .lit (.bool true)]) := fun S γ w ρ h => by
  have h1 := h.get hx (by simp [ho, Op.operands])
  simp only [AV.holds] at h1
  rcases h1 with ⟨hc, hv⟩ | ⟨hc, p, hv, hp⟩
  · exact absurd hc hk
  · refine outs (v := .tuple #[p, .bool true]) ?_ ?_
    · simp [execOp, ho, hv, Instr.typeAssert, run_underlying (hT.ptr ht)]
    · simp only [AV.holds, AV.holdsL]
      exact ⟨[p, .bool true], rfl, p, [.bool true], rfl, hp, .bool true, [], rfl, rfl, rfl⟩
theorem sop_mkErr {e : TypeId} {cs : List AV} (ho : o.op = .makeInterface tp x := by rfl) (hT : TTOk P T := by assumption) (ht : look T tp = some ⟨.ptr e, s, b⟩ := by rfl) (hx : Opv fr x (.snap (placeF (.lit (.int .i64 k) :: cs))) := by exact opv_std) (hk : k ≠ 0 := by first | assumption | omega) : SOp P o fr H (.snap (errF tp k)) := fun S γ w ρ h => by
  have h1 := h.get hx (by simp [ho, Op.operands])
  simp only [AV.holds] at h1
  refine outs (v := .iface tp (ρ x)) ?_ ?_
  · simp [execOp, ho, Instr.makeInterface, run_underlying (hT.ptr ht)]
  · obtain ⟨ad, vs, hv, hr, hh⟩ := h1
    simp only [AV.holdsL] at hh
    obtain ⟨v, vs', rfl, hc, _⟩ := hh
    simp only [AV.holds]
    refine .inr ⟨hk, _, rfl, ad, [v], hv, ?_, ?_⟩
    · intro hn
      obtain ⟨ad', he, hb, hcell⟩ := hr (by simp)
      refine ⟨ad', he, hb, fun j u hu => hcell j u ?_⟩
      cases j with
      | zero => simpa using hu
      | succ j => simp at hu
    · simp only [AV.holdsL]
      exact ⟨v, [], rfl, hc, rfl⟩
theorem ao_mkErr {e : TypeId} {cs : List AV} {d tm j : Nat} (hg : o.guard = none := by rfl) (hd : o.dst = some d := by rfl) (hn : Nat.blt d n = true := by rfl) (ho : o.op = .makeInterface tp (.tmp tm) := by rfl) (hT : TTOk P T := by assumption) (ht : look T tp = some ⟨.ptr e, s, b⟩ := by rfl) (hx : look fr tm = some (.ptr j 0) := by rfl) (hj : look H j = some (.box (.lit (.int .i64 k) :: cs)) := by rfl) (hp : AV.usesL (fun _ => false) (.lit (.int .i64 k) :: cs) = true := by rfl)
    (hx2 : look (frzB j (.lit (.int .i64 k) :: cs) fr) tm = some (.snap (placeF (.lit (.int .i64 k) :: cs))) := by rfl) (hk : k ≠ 0 := by first | assumption | omega)
    (next : AOps P c n ops rest Q ((d, .snap (errF tp k)) :: frzB j (.lit (.int .i64 k) :: cs) fr) (dropH (one1 j) H)) : AOps P c n ops (o :: rest) Q fr H :=
  ao_freezeBox j hj hp (ao_op hd hn (.plain hg (sop_mkErr ho hT ht (.of hx2) hk)) next)
/-- pointers and nil -/
theorem sop_eqnil_ptr {e : TypeId} {j off : Nat} (ho : o.op = .binOp .eql t x (.const (.pointer none)) t' := by rfl) (hT : TTOk P T := by assumption) (ht : look T t = some ⟨.ptr e, s, b⟩ := by rfl) (hx : Opv fr x (.ptr j off) := by exact opv_std) : SOp P o fr H (.lit (.bool false)) := fun S γ w ρ h => by
  have h1 := h.get hx (by simp [ho, Op.operands])
  have hy : ρ (.const (.pointer none)) = .pointer none := h.const _
  simp only [AV.holds] at h1
  obtain ⟨g, _, hv⟩ := h1
  refine outl ?_
  simp [execOp, ho, hv, hy, eqGuard, go_sem, hT.ptr ht]
theorem sop_eqnil_place {e : TypeId} {cs : List AV} (ho : o.op = .binOp .eql t x (.const (.pointer none)) t' := by rfl) (hT : TTOk P T := by assumption) (ht : look T t = some ⟨.ptr e, s, b⟩ := by rfl) (hx : Opv fr x (.snap (placeF cs)) := by exact opv_std) : SOp P o fr H (.lit (.bool false)) := fun S γ w ρ h => by
  have h1 := h.get hx (by simp [ho, Op.operands])
  have hy : ρ (.const (.pointer none)) = .pointer none := h.const _
  simp only [AV.holds] at h1
  obtain ⟨g, _, hv, _⟩ := h1
  refine outl ?_
  simp [execOp, ho, hv, hy, eqGuard, go_sem, hT.ptr ht]
theorem sop_eqnil_nil {e : TypeId} (ho : o.op = .binOp .eql t x (.const (.pointer none)) t' := by rfl) (hT : TTOk P T := by assumption) (ht : look T t = some ⟨.ptr e, s, b⟩ := by rfl) (hx : Opv fr x (.lit (.pointer none)) := by exact opv_std) : SOp P o fr H (.lit (.bool true)) := fun S γ w ρ h => by
  have hv := h.lit hx (by simp [ho, Op.operands])
  have hy : ρ (.const (.pointer none)) = .pointer none := h.const _
  refine outl ?_
  simp [execOp, ho, hv, hy, eqGuard, go_sem, hT.ptr ht]
theorem sop_nilCheck_ptr {j off : Nat} (ho : o.op = .nilCheck x := by rfl) (hx : Opv fr x (.ptr j off) := by exact opv_std) : SOp P o fr H (.ptr j off) := fun S γ w ρ h => by
  have h1 := h.get hx (by simp [ho, Op.operands])
  refine outs (v := ρ x) ?_ h1
  simp only [AV.holds] at h1
  obtain ⟨g, _, hv⟩ := h1
  simp [execOp, ho, hv]
theorem sop_nilCheck_place {cs : List AV} (ho : o.op = .nilCheck x := by rfl) (hx : Opv fr x (.snap (placeF cs)) := by exact opv_std) : SOp P o fr H (.snap (placeF cs)) := fun S γ w ρ h => by
  have h1 := h.get hx (by simp [ho, Op.operands])
  refine outs (v := ρ x) ?_ h1
  simp only [AV.holds] at h1
  obtain ⟨g, _, hv, _⟩ := h1
  simp [execOp, ho, hv]
/-- a function's answer, known less exactly -/
inductive Wk : AV → AV → Prop
  | refl (a : AV) : Wk a a
  | nilErr (tp : TypeId) : Wk (.lit .nilIface) (.snap (errF tp 0))
  | err {tp : TypeId} {a b : Int} (h : a = b) : Wk (.snap (errF tp a)) (.snap (errF tp b))
  | nilSl {α : Type} (E : Enc α) {A : Option Addr} {xs : List α} (h : xs = []) : Wk (.lit (.slice A 0 0)) (.snap (slF E xs))
  | sl {α : Type} {E : Enc α} {xs ys : List α} (h : xs = ys) : Wk (.snap (slF E xs)) (.snap (slF E ys))
  | int {k : IntKind} {a b : Int} (h : a = b) : Wk (.lit (.int k a)) (.lit (.int k b))
  | bool {a b : Bool} (h : a = b) : Wk (.lit (.bool a)) (.lit (.bool b))
  | any (a : AV) : Wk a .any
inductive WkL : List AV → List AV → Prop
  | nil : WkL [] []
  | cons {a b : AV} {qs0 bs : List AV} (h : Wk a b) (hr : WkL qs0 bs) : WkL (a :: qs0) (b :: bs)
inductive WkT : AV → AV → Prop
  | one {a b : AV} (h : Wk a b) : WkT a b
  | tup {qs0 bs : List AV} (h : WkL qs0 bs) : WkT (.tup qs0) (.tup bs)
theorem Wk.holds {a b : AV} {v : Value} (h : Wk a b) (ha : a.holds S γ w v) : b.holds S γ w v := by
  cases h with
  | refl => exact ha
  | nilErr tp => simp only [AV.holds] at ha ⊢; exact .inl ⟨rfl, ha⟩
  | err h => subst h; exact ha
  | @nilSl α E A xs h =>
    subst h
    simp only [AV.holds] at ha ⊢
    exact ⟨A, 0, [], ha, Nat.le_refl _, fun h => absurd rfl h, by simp [Enc.all, AV.holdsL], by simp⟩
  | sl h => subst h; exact ha
  | int h => subst h; exact ha
  | bool h => subst h; exact ha
  | any => simp [AV.holds]
theorem WkL.holds {qs0 bs : List AV} {vs : List Value} (h : WkL qs0 bs) (ha : AV.holdsL S γ w qs0 vs) : AV.holdsL S γ w bs vs := by
  induction h generalizing vs with
  | nil => exact ha
  | cons h _ ih =>
    simp only [AV.holdsL] at ha ⊢
    obtain ⟨v, vs', rfl, h1, h2⟩ := ha
    exact ⟨v, vs', rfl, h.holds h1, ih h2⟩
theorem WkT.holds {a b : AV} {v : Value} (h : WkT a b) (ha : a.holds S γ w v) : b.holds S γ w v := by
  cases h with
  | one h => exact h.holds ha
  | tup h =>
    simp only [AV.holds] at ha ⊢
    obtain ⟨vs, rfl, h1⟩ := ha
    exact ⟨vs, rfl, h.holds h1⟩
theorem con_wk {f : FuncId} {args : List AV} {Hin : List (Nat × Res)} {post post' : AV → List (Nat × Res) → Prop} (h : Con P f args Hin post) (hw : ∀ a hz, post a hz → ∃ a', WkT a a' ∧ post' a' hz) : Con P f args Hin post' := fun S γ w vs hst hargs => by
  refine (h S γ w vs hst hargs).mono ?_
  rintro e w' ⟨v, out, Hout, S', γ', rfl, hpost, hp⟩
  obtain ⟨a', hwk, hp'⟩ := hw out Hout hpost
  exact ⟨v, a', Hout, S', γ', rfl, hp', hp.keep, hp.up, hwk.holds hp.val, hp.st, hp.own, hp.same⟩
/-- a nil slice that is handed back becomes one's own -/
theorem a_ret_own (x e : Nat) {α : Type} (E : Enc α) (k : Nat) {A : Option Addr} (hx : look fr x = some (.lit (.slice A 0 0)) := by rfl) (hkJ : Nat.ble 1000 k = true := by rfl) (hu : usesH (one1 k) (dropH (one1 k) H) = true := by rfl)
    (h : Q .ret ((x, .own k) :: markF (one1 k) fr) ((k, .own e E []) :: dropH (one1 k) H)) : ACode P c n .ret Q fr H :=
  a_ownNil x e E k hx hkJ hu (a_ret h)
/-- resources that a call is handed -/
def HinOk (H : List (Nat × Res)) (ρ : Nat → Nat) : List (Nat × Res) → Prop
  | [] => True
  | p :: r => look H (ρ p.1) = some (p.2.ren ρ) ∧ HinOk H ρ r
theorem HinOk.at {H : List (Nat × Res)} {ρ : Nat → Nat} : ∀ {Hin : List (Nat × Res)}, HinOk H ρ Hin → ∀ j r, look Hin j = some r → look H (ρ j) = some (r.ren ρ)
  | [], _, j, r, h => by simp [look] at h
  | p :: q, hh, j, r, h => by
    obtain ⟨i, s⟩ := p
    rw [look_cons] at h
    split at h
    · rename_i e
      subst e
      injection h with h
      subst h
      exact hh.1
    · exact HinOk.at hh.2 j r h
def renC (L : List (Nat × Nat)) (d : Nat) (j : Nat) : Nat := match L with
  | [] => d + 1000 * (j + 1)
  | p :: r => match Nat.beq p.1 j with
    | true => p.2
    | false => renC r d j
def flatR : List (Nat × Res) → Prop
  | [] => True
  | p :: r => p.2.isFlat ∧ flatR r
theorem flatR_at : ∀ {L : List (Nat × Res)}, flatR L → ∀ p ∈ L, p.2.isFlat
  | p :: r, h, x, hx => by
    rcases List.mem_cons.1 hx with rfl | hx
    · exact h.1
    · exact flatR_at h.2 x hx
/-- a call that hands resources on, and makes some -/
theorem ao_callG (L : List (Nat × Nat)) {B : Bool} {f : FuncId} {zs : Array Operand} {tys : Array TypeId} {qs0 : List AV} {Hin Hout : List (Nat × Res)} {out : AV} {d : Nat} (hC : Con P f qs0 Hin fun a h => a = out ∧ h = Hout) (hg : o.guard = none := by rfl) (hd : o.dst = some d := by rfl) (hn : Nat.blt d n = true := by rfl)
    (ho : o.op = .call { callee := .value (.func f), args := zs, argTypes := tys } := by rfl) (hf : entersB P f = true := by kernel_rfl) (hargs : ArgsOk B fr H zs.toList (AV.renL (renC L d) qs0) := by repeat (first | exact .nil | refine .cons (by exact opv_std) ?_ | refine .lend rfl (by exact opv_std) (by rfl) ?_ | refine .nilS (by exact opv_std) ?_ | refine .lentS (by exact opv_std) ?_))
    (hin : HinOk H (renC L d) Hin := by repeat (first | exact trivial | refine ⟨rfl, ?_⟩)) (hinj : injB (renC L d) (idsOf Hin) = true := by rfl) (hlend : B = true → Hin = [] := by first | (intro h; cases h; done) | (intro _; rfl))
    (hok : callOk (renC L d) out Hin Hout H = true := by rfl) (hB : B = false ∨ (out.noS = true ∧ flatR Hout) := by first | exact .inl rfl | exact .inr ⟨rfl, by repeat (first | exact trivial | refine ⟨by first | (intro _; rfl) | rfl, ?_⟩)⟩)
    (next : AOps P c n ops rest Q ((d, out.ren (renC L d)) :: markF (anyId (renC L d) (freshIds Hin Hout)) fr) (renH (renC L d) Hout ++ dropH (anyId (renC L d) (idsOf Hin ++ idsOf Hout)) H)) : AOps P c n ops (o :: rest) Q fr H := by
  refine ao_call (B := B) hg hd hn ho hf hC (renC L d) hargs (fun j r h => hin.at j r h) hinj hlend ?_
  rintro out' Hout' ⟨rfl, rfl⟩
  exact ⟨hok, hB.imp id fun h => ⟨h.1, flatR_at h.2⟩, next⟩
theorem ao_callR (L : List (Nat × Nat)) {f : FuncId} {zs : Array Operand} {tys : Array TypeId} {qs0 : List AV} {Hin Hout : List (Nat × Res)} {out : AV} {d : Nat} (hC : Con P f qs0 Hin fun a h => a = out ∧ h = Hout) (hg : o.guard = none := by rfl) (hd : o.dst = some d := by rfl) (hn : Nat.blt d n = true := by rfl)
    (ho : o.op = .call { callee := .value (.func f), args := zs, argTypes := tys } := by rfl) (hf : entersB P f = true := by kernel_rfl) (hargs : ArgsOk false fr H zs.toList (AV.renL (renC L d) qs0) := by repeat (first | exact .nil | refine .cons (by exact opv_std) ?_ | refine .lend rfl (by exact opv_std) (by rfl) ?_ | refine .nilS (by exact opv_std) ?_ | refine .lentS (by exact opv_std) ?_))
    (hin : HinOk H (renC L d) Hin := by repeat (first | exact trivial | refine ⟨rfl, ?_⟩)) (hinj : injB (renC L d) (idsOf Hin) = true := by rfl)
    (hok : callOk (renC L d) out Hin Hout H = true := by rfl)
    (next : AOps P c n ops rest Q ((d, out.ren (renC L d)) :: markF (anyId (renC L d) (freshIds Hin Hout)) fr) (renH (renC L d) Hout ++ dropH (anyId (renC L d) (idsOf Hin ++ idsOf Hout)) H)) : AOps P c n ops (o :: rest) Q fr H :=
  ao_callG (B := false) L hC hg hd hn ho hf hargs hin hinj (fun h => by cases h) hok (.inl rfl) next
theorem ao_callL (L : List (Nat × Nat)) {f : FuncId} {zs : Array Operand} {tys : Array TypeId} {qs0 : List AV} {Hout : List (Nat × Res)} {out : AV} {d : Nat} (hC : Con P f qs0 [] fun a h => a = out ∧ h = Hout) (hg : o.guard = none := by rfl) (hd : o.dst = some d := by rfl) (hn : Nat.blt d n = true := by rfl)
    (ho : o.op = .call { callee := .value (.func f), args := zs, argTypes := tys } := by rfl) (hf : entersB P f = true := by kernel_rfl) (hargs : ArgsOk true fr H zs.toList (AV.renL (renC L d) qs0) := by repeat (first | exact .nil | refine .cons (by exact opv_std) ?_ | refine .lend rfl (by exact opv_std) (by rfl) ?_ | refine .nilS (by exact opv_std) ?_ | refine .lentS (by exact opv_std) ?_))
    (hok : callOk (renC L d) out [] Hout H = true := by rfl) (hB : out.noS = true := by rfl) (hB2 : flatR Hout := by repeat (first | exact trivial | refine ⟨by first | (intro _; rfl) | rfl, ?_⟩))
    (next : AOps P c n ops rest Q ((d, out.ren (renC L d)) :: markF (anyId (renC L d) (freshIds [] Hout)) fr) (renH (renC L d) Hout ++ dropH (anyId (renC L d) (idsOf [] ++ idsOf Hout)) H)) : AOps P c n ops (o :: rest) Q fr H :=
  ao_callG (B := true) L hC hg hd hn ho hf hargs trivial rfl (fun _ => rfl) hok (.inr ⟨hB, hB2⟩) next
end
end Go.Proofs.YtgdkeafdlehlaaaDoor
