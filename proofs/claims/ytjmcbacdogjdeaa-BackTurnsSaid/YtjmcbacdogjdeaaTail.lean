/- A region whose operations may run in many orders, but whose last ones follow all others: facts for the first ones, then the last ones in their order. Nothing of the program stands here. -/
import Derived.Test.YtjmcbacdogjdeaaReg
namespace Go.Proofs.Ytjmcbacdogjdeaa
open Go Go.RowKit
set_option linter.unusedVariables false

def needsAt (ops : Array Oper) (j : Nat) : List Nat := match ops[j]? with | some o => needs o | none => []
/-- all that some operations must follow, one behind the other -/
def clo (ops : Array Oper) : Nat → List Nat → List Nat
  | 0, S => S
  | j + 1, S => clo ops j (if S.contains j then S ++ needsAt ops j else S)
/-- the check of a region's text: its first m operations as in regOk; each later one follows the one before it, and the first of those follows all -/
def tailOk (ops : Array Oper) (m n : Nat) : Bool :=
  ((List.range ops.size).all fun i => match ops[i]? with
    | none => false
    | some o => (needs o).all (fun j => decide (j < i)) && (match o.guard with | none => true | some (j, _) => (needs o).contains j) &&
      (if i < m then (match o.dst with | none => false | some d => decide (d < n) && ((List.range m).all fun j => i == j || dstOf ops j != some d))
       else (i == m || (needs o).contains (i - 1)))) &&
  decide (m < ops.size) && (List.range m).all (fun j => (clo ops m (needsAt ops m)).contains j)

section
variable {P : Program} {ops : Array Oper} {a0 : Act} {w0 : World} {F : Nat → Value → World → Prop} {Q : Exit → Act → World → Prop} {n m : Nat} {G : World → World → Prop}

def Closed (ops : Array Oper) (listed : Array Bool) : Prop := ∀ j o, ops[j]? = some o → listed.getD j false = true → ∀ k ∈ needs o, listed.getD k false = true
theorem clo_listed {listed : Array Bool} (hcl : Closed ops listed) : ∀ (j : Nat) (S : List Nat), (∀ k ∈ S, listed.getD k false = true) → ∀ k ∈ clo ops j S, listed.getD k false = true
  | 0, S, h, k, hk => h k hk
  | j + 1, S, h, k, hk => by
    refine clo_listed hcl j _ ?_ k hk
    split
    · rename_i hc
      intro x hx
      rcases List.mem_append.1 hx with hx | hx
      · exact h x hx
      · unfold needsAt at hx
        cases ho : ops[j]? with
        | none => simp [ho] at hx
        | some o =>
          simp only [ho] at hx
          exact hcl j o ho (h j (by simpa using hc)) x hx
    · exact h

theorem tail_parts (hc : tailOk ops m n = true) : (∀ i o, ops[i]? = some o → (∀ j ∈ needs o, j < i) ∧ (∀ j b, o.guard = some (j, b) → (needs o).contains j = true) ∧
      (i < m → ∃ d, o.dst = some d ∧ d < n ∧ ∀ j, j < m → dstOf ops j = some d → i = j) ∧ (m < i → (i - 1) ∈ needs o)) ∧ m < ops.size ∧ ∀ j, j < m → j ∈ clo ops m (needsAt ops m) := by
  unfold tailOk at hc
  simp only [Bool.and_eq_true, decide_eq_true_eq] at hc
  obtain ⟨⟨h1, h2⟩, h3⟩ := hc
  refine ⟨?_, h2, fun j hj => by simpa using List.all_eq_true.1 h3 j (List.mem_range.2 hj)⟩
  intro i o ho
  have hlt : i < ops.size := (Array.getElem?_eq_some_iff.1 ho).1
  have h := List.all_eq_true.1 h1 i (List.mem_range.2 hlt)
  simp only [ho, Bool.and_eq_true] at h
  obtain ⟨⟨ha, hb⟩, hd⟩ := h
  refine ⟨fun j hj => by simpa using List.all_eq_true.1 ha j hj, fun j b hg => by simpa only [hg] using hb, ?_, ?_⟩
  · intro him
    rw [if_pos him] at hd
    cases hdst : o.dst with
    | none => simp [hdst] at hd
    | some d =>
      simp only [hdst, Bool.and_eq_true, decide_eq_true_eq] at hd
      refine ⟨d, rfl, hd.1, fun j hj hje => ?_⟩
      have := List.all_eq_true.1 hd.2 j (List.mem_range.2 hj)
      simp only [Bool.or_eq_true, beq_iff_eq, bne_iff_ne, hje, ne_eq, not_true_eq_false, or_false] at this
      exact this
  · intro him
    rw [if_neg (by omega)] at hd
    simp only [Bool.or_eq_true, beq_iff_eq] at hd
    rcases hd with hd | hd
    · omega
    · simpa using hd

theorem tail_any (hc : tailOk ops m n = true) : ∀ (rest : List Oper) (i fuel : Nat) (listed : Array Bool) (a : Act) (w : World), ops.toList.drop i = rest → listed.size = ops.size → (∀ j, j < ops.size → listed.getD j false = decide (j < i)) → m ≤ i → rest.length ≤ fuel →
    wpList P ops Q rest a w → wpAny P .any ops Q fuel listed a w := by
  obtain ⟨hall, _, _⟩ := tail_parts hc
  intro rest
  induction rest with
  | nil =>
    intro i fuel listed a w hd hs hl hmi hf hw
    have hi : ops.size ≤ i := by
      have := congrArg List.length hd
      simp at this; omega
    have hr : Region.ready .any ops listed = [] := by
      rw [List.eq_nil_iff_forall_not_mem]
      intro j hj
      obtain ⟨o, ho, hlj, _⟩ := (ready_iff hs).1 hj
      have hlt : j < ops.size := (Array.getElem?_eq_some_iff.1 ho).1
      rw [hl j hlt] at hlj
      simp at hlj; omega
    cases fuel with
    | zero => exact ⟨hr, hw⟩
    | succ f => exact ⟨fun _ => hw, fun j hj => by rw [hr] at hj; cases hj⟩
  | cons o rest ih =>
    intro i fuel listed a w hd hs hl hmi hf hw
    have hi : i < ops.size := by
      have := congrArg List.length hd
      simp at this; omega
    have ho : ops[i]? = some o := by
      have := congrArg (fun l : List Oper => l[0]?) hd
      simpa using this
    have hrest : ops.toList.drop (i + 1) = rest := by
      have := congrArg (fun l : List Oper => l.drop 1) hd
      simpa [List.drop_drop] using this
    cases fuel with
    | zero => simp at hf
    | succ f =>
      have hin : i ∈ Region.ready .any ops listed := (ready_iff hs).2 ⟨o, ho, by rw [hl i hi]; simp, fun j hj => by
        have := (hall i o ho).1 j hj
        rw [hl j (by omega)]; simpa using this⟩
      refine ⟨fun h => absurd hin (by rw [h]; simp), ?_⟩
      intro j hj
      obtain ⟨o', ho', hlj, hneed⟩ := (ready_iff hs).1 hj
      have hlt : j < ops.size := (Array.getElem?_eq_some_iff.1 ho').1
      rw [hl j hlt] at hlj
      have hji : j = i := by
        simp at hlj
        by_cases hgt : j = i
        · exact hgt
        · have hmj := (hall j o' ho').2.2.2 (by omega)
          have := hneed _ hmj
          rw [hl (j - 1) (by omega)] at this
          simp at this; omega
      subst hji
      have hnext : ∀ a w, wpList P ops Q rest a w → wpAny P .any ops Q f (listed.setIfInBounds j true) a w := fun a w h =>
        ih (j + 1) f _ a w hrest (by simpa using hs) (fun k hk => by
          simp only [Array.getD_eq_getD_getElem?, Array.getElem?_setIfInBounds]
          by_cases hkj : j = k
          · subst hkj
            rw [if_pos rfl, if_pos (by omega)]; simp
          · rw [if_neg hkj]
            have := hl k hk
            simp only [Array.getD_eq_getD_getElem?] at this
            rw [this]
            congr 1
            simp only [eq_iff_iff]
            omega) (by omega) (by simpa using hf) h
      unfold wpOp
      simp only [ho]
      unfold wpList at hw
      split
      · rename_i hwant
        rw [if_pos hwant] at hw
        exact hw.imp (Oper.wp_mono hnext) id
      · rename_i hwant
        rw [if_neg hwant] at hw
        exact hnext _ _ hw

structure TInv (G : World → World → Prop) (ops : Array Oper) (m : Nat) (a0 : Act) (w0 : World) (F : Nat → Value → World → Prop) (listed : Array Bool) (a : Act) (w : World) : Prop where
  ext : G w0 w
  size : a.tmps.size = a0.tmps.size
  defers : a.defers = a0.defers
  out : ∀ t, (∀ j, j < m → dstOf ops j ≠ some t) → a.tmps[t]? = a0.tmps[t]?
  facts : ∀ i d, i < m → listed.getD i false = true → dstOf ops i = some d → F i (a.tmps.getD d undef) w
  later : ∀ j, m ≤ j → listed.getD j false = false
  closed : Closed ops listed

theorem count_listed {listed : Array Bool} {i N : Nat} (hs : listed.size = N) (hi : i ≤ N) (h : ∀ j, j < N → listed.getD j false = decide (j < i)) : listed.toList.countP (fun b => !b) = N - i := by
  have : listed.toList = List.replicate i true ++ List.replicate (N - i) false := by
    apply List.ext_getElem
    · simp; omega
    · intro k h1 h2
      have hk : k < N := by simp at h1; omega
      have := h k hk
      simp only [Array.getD_eq_getD_getElem?, Array.getElem?_eq_getElem (show k < listed.size by omega), Option.getD_some] at this
      simp only [Array.getElem_toList, this]
      by_cases hki : k < i
      · rw [List.getElem_append_left (by simpa using hki)]
        simp [hki]
      · rw [List.getElem_append_right (by simpa using hki)]
        simp [hki]
  rw [this]
  simp [List.countP_append, List.countP_replicate]

theorem factsTail_any (hG : PreG G) (hc : tailOk ops m n = true) (hn : n = a0.tmps.size) (hmono : ∀ i v w w', F i v w → G w w' → F i v w') (hop : FactsOk G P (ops.extract 0 m) a0 w0 F 0 (ops.toList.take m))
    (hend : ∀ a w, TInv G ops m a0 w0 F (Array.ofFn fun i : Fin ops.size => decide (i.1 < m)) a w → wpList P ops Q (ops.toList.drop m) a w) :
    ∀ (fuel : Nat) (listed : Array Bool) (a : Act) (w : World), listed.size = ops.size → (listed.toList.countP (fun b => !b)) ≤ fuel → TInv G ops m a0 w0 F listed a w → wpAny P .any ops Q fuel listed a w := by
  obtain ⟨hall, hmlt, hclo⟩ := tail_parts hc
  have hsub : ∀ j, j < m → (ops.extract 0 m)[j]? = ops[j]? := fun j hj => by
    rw [Array.getElem?_extract, if_pos (by omega)]; simp
  have hdst : ∀ j d, dstOf (ops.extract 0 m) j = some d → j < m ∧ dstOf ops j = some d := by
    intro j d h
    by_cases hj : j < m
    · exact ⟨hj, by unfold dstOf at h ⊢; rw [← hsub j hj]; exact h⟩
    · unfold dstOf at h
      rw [Array.getElem?_extract, if_neg (by omega)] at h
      cases h
  have fin : ∀ (fuel : Nat) (listed : Array Bool) (a : Act) (w : World), listed.size = ops.size → (listed.toList.countP (fun b => !b)) ≤ fuel → TInv G ops m a0 w0 F listed a w → (∀ j, j < m → listed.getD j false = true) → wpAny P .any ops Q fuel listed a w := by
    intro fuel listed a w hs hf h hpre
    have hl : ∀ j, j < ops.size → listed.getD j false = decide (j < m) := by
      intro j hj
      by_cases hjm : j < m
      · rw [hpre j hjm]; simp [hjm]
      · rw [h.later j (by omega)]; simp [hjm]
    have hcount := count_listed hs (by omega) hl
    refine tail_any hc _ m fuel listed a w rfl hs hl (Nat.le_refl _) (by simp; omega) (hend a w ?_)
    have he : listed = Array.ofFn fun i : Fin ops.size => decide (i.1 < m) := by
      apply Array.ext
      · simpa using hs
      · intro k h1 h2
        have := hl k (by omega)
        simp only [Array.getD_eq_getD_getElem?, Array.getElem?_eq_getElem h1, Option.getD_some] at this
        simpa using this
    rw [← he]
    exact h
  intro fuel
  induction fuel with
  | zero =>
    intro listed a w hs hf h
    refine fin 0 listed a w hs hf h ?_
    intro j hj
    have h0 : listed.toList.countP (fun b => !b) = 0 := by omega
    rw [List.countP_eq_zero] at h0
    have hlt : j < listed.size := by omega
    have := h0 listed[j] (by simp)
    simp only [Array.getD_eq_getD_getElem?, Array.getElem?_eq_getElem hlt, Option.getD_some]
    simpa using this
  | succ fuel ih =>
    intro listed a w hs hf h
    by_cases hpre : ∀ j, j < m → listed.getD j false = true
    · exact fin _ listed a w hs hf h hpre
    · have hready : ∀ i ∈ Region.ready .any ops listed, i < m := by
        intro i hi
        obtain ⟨o, ho, hl, hneed⟩ := (ready_iff hs).1 hi
        by_cases him : i < m
        · exact him
        · exfalso
          by_cases hgt : m < i
          · have := hneed _ ((hall i o ho).2.2.2 hgt)
            rw [h.later (i - 1) (by omega)] at this
            cases this
          · have e : i = m := by omega
            subst e
            apply hpre
            intro j hj
            refine clo_listed h.closed i (needsAt ops i) ?_ j (hclo j hj)
            intro k hk
            unfold needsAt at hk
            rw [ho] at hk
            exact hneed k hk
      refine ⟨fun hr => ?_, ?_⟩
      · exfalso
        apply hpre
        intro j
        induction j using Nat.strongRecOn with
        | ind j ihj =>
          intro hj
          cases hl : listed.getD j false with
          | true => rfl
          | false =>
            exfalso
            have ho := Array.getElem?_eq_getElem (show j < ops.size by omega)
            have hm : j ∈ Region.ready .any ops listed := (ready_iff hs).2 ⟨ops[j], ho, hl, fun k hk => by
              have := (hall j _ ho).1 k hk
              exact ihj k this (by omega)⟩
            rw [hr] at hm
            cases hm
      · intro i hi
        have him := hready i hi
        obtain ⟨o, ho, hl, hneed⟩ := (ready_iff hs).1 hi
        have hlt : i < listed.size := by rw [hs]; exact (Array.getElem?_eq_some_iff.1 ho).1
        obtain ⟨_, hguard, hdd, _⟩ := hall i o ho
        obtain ⟨d, hd, hdn, huniq⟩ := hdd him
        have hdi : dstOf ops i = some d := by unfold dstOf; rw [ho]; exact hd
        have hcount : (listed.setIfInBounds i true).toList.countP (fun b => !b) ≤ fuel := by
          simp only [Array.getD_eq_getD_getElem?, Array.getElem?_eq_getElem hlt, Option.getD_some] at hl
          have hl' : listed.toList[i] = false := by simpa using hl
          have hlt' : i < listed.toList.length := by simpa using hlt
          have e1 : (listed.setIfInBounds i true).toList = listed.toList.set i true := by simp
          rw [e1]
          have := List.countP_set (p := fun b => !b) (l := listed.toList) (i := i) (a := true) hlt'
          have hpos : 0 < listed.toList.countP (fun b => !b) := List.countP_pos_iff.2 ⟨listed.toList[i], List.getElem_mem _, by rw [hl']; rfl⟩
          rw [this, hl']
          simp only [Bool.not_false, Bool.not_true, if_true, Bool.false_eq_true, if_false]
          omega
        have hk : Known (ops.extract 0 m) a0 F o a.eval w := by
          refine ⟨fun _ => rfl, fun _ => rfl, ?_, ?_⟩
          · intro t ht
            have := h.out t (by
              intro j hj he
              unfold outside at ht
              have hoj : ∃ o', ops[j]? = some o' ∧ o'.dst = some t := by
                unfold dstOf at he
                cases hx : ops[j]? with
                | none => simp [hx] at he
                | some o' => exact ⟨o', rfl, by simpa [hx] using he⟩
              obtain ⟨o', ho', hd'⟩ := hoj
              have := Array.all_eq_true'.1 ht o' (Array.mem_of_getElem? ((hsub j hj).trans ho'))
              simp [hd'] at this)
            simp only [Act.eval, Array.getD_eq_getD_getElem?, this]
          · intro j d' hj hd'
            obtain ⟨hjm, hd2⟩ := hdst j d' hd'
            exact h.facts j d' hjm (hneed j (by simpa using hj)) hd2
        have hop' := hop.get i o (by
          rw [List.getElem?_take, if_pos him]; simpa using ho)
        rw [Nat.zero_add] at hop'
        have hok := hop' a.eval w h.ext hk
        have next : ∀ (v : Value) (w' : World), G w w' → F i v w' → wpAny P .any ops Q fuel (listed.setIfInBounds i true) (a.put o.dst v) w' := fun v w' hx hv => by
          refine ih _ _ _ (by simpa using hs) hcount ?_
          have hput : a.put o.dst v = { a with tmps := a.tmps.setIfInBounds d v } := by rw [hd]; rfl
          rw [hput]
          have hset : ∀ j, (listed.setIfInBounds i true).getD j false = if j = i then true else listed.getD j false := by
            intro j
            simp only [Array.getD_eq_getD_getElem?, Array.getElem?_setIfInBounds]
            by_cases hji : i = j
            · subst hji; rw [if_pos rfl, if_pos hlt]; simp
            · rw [if_neg hji, if_neg (by omega)]
          refine ⟨hG.trans h.ext hx, by simpa using h.size, h.defers, ?_, ?_, ?_, ?_⟩
          · intro t ht
            have hne : d ≠ t := fun e => ht i him (by rw [← e]; exact hdi)
            simp only [Array.getElem?_setIfInBounds, if_neg hne]
            exact h.out t ht
          · intro j e hjm hj hje
            by_cases hij : j = i
            · subst hij
              rw [hdi] at hje
              injection hje with hje
              subst hje
              simp only [Array.getD_eq_getD_getElem?, Array.getElem?_setIfInBounds]
              rw [if_pos trivial, if_pos (by rw [h.size, ← hn]; exact hdn)]
              simpa using hv
            · have hed : d ≠ e := fun he => hij (huniq j hjm (by rw [he]; exact hje)).symm
              simp only [Array.getD_eq_getD_getElem?, Array.getElem?_setIfInBounds, if_neg hed]
              rw [hset, if_neg hij] at hj
              have := h.facts j e hjm hj hje
              simp only [Array.getD_eq_getD_getElem?] at this
              exact hmono _ _ _ _ this hx
          · intro j hj
            rw [hset, if_neg (by omega)]
            exact h.later j hj
          · intro j o' ho' hj k hk
            rw [hset]
            split
            · rfl
            · rw [hset] at hj
              by_cases hji : j = i
              · subst hji
                rw [ho] at ho'
                injection ho' with ho'
                subst ho'
                exact hneed k hk
              · rw [if_neg hji] at hj
                exact h.closed j o' ho' hj k hk
        unfold wpOp
        simp only [ho]
        have run : Outcome P (fun v w' => G w w' ∧ F i v w') ((execOp a.eval o).run P w) → o.wp P a w (wpAny P .any ops Q fuel (listed.setIfInBounds i true)) Q := fun hr =>
          Outcome.upon (hr.mono fun v w' ⟨hx, hv⟩ => next v w' hx hv)
        cases hg : o.guard with
        | none =>
          simp only [hg] at hok
          rw [if_pos (by simp [Region.wanted, hg])]
          exact .inl (run hok)
        | some jb =>
          obtain ⟨j, want⟩ := jb
          simp only [hg] at hok
          obtain ⟨d', b, hd', hb, hif⟩ := hok
          have hy : yielded ops a.tmps j = some b := by
            unfold yielded
            have hd2 : ((ops[j]?).bind (·.dst)) = some d' := (hdst j d' hd').2
            rw [hd2]
            simp only [Act.eval, Array.getD_eq_getD_getElem?] at hb
            cases ht : a.tmps[d']? with
            | none => simp [ht, undef] at hb
            | some v =>
              simp only [ht, Option.getD_some] at hb
              subst hb
              simp [ht]
          by_cases hbw : b = want
          · rw [if_pos (by simp [Region.wanted, hg, hy, hbw])]
            rw [if_pos hbw] at hif
            exact .inl (run hif)
          · rw [if_neg (by simp [Region.wanted, hg, hy, hbw])]
            rw [if_neg hbw] at hif
            exact next _ _ (hG.refl w) hif

theorem wp_region_tail {id : Nat} {pre tail : List Oper} {tmps : Array Value} {defers : List Deferred} (hG : PreG G) (hm : P.follows .mixedOrders = true) (hc : tailOk (pre ++ tail).toArray pre.length tmps.size = true) (hmono : ∀ i v w w', F i v w → G w w' → F i v w')
    (hop : FactsOk G P pre.toArray ⟨tmps, defers⟩ w0 F 0 pre)
    (hend : ∀ (vs : Nat → Value) (w : World), G w0 w → (∀ i d, dstOf pre.toArray i = some d → F i (vs i) w) → wpList P (pre ++ tail).toArray Q tail ⟨fill vs pre 0 tmps, defers⟩ w) :
    (Code.region id (pre ++ tail).toArray true).wp P Q ⟨tmps, defers⟩ w0 := by
  obtain ⟨hall, hmlt, hclo⟩ := tail_parts hc
  have hpre : ∀ j, j < pre.length → (pre ++ tail).toArray[j]? = pre.toArray[j]? := fun j hj => by simp [List.getElem?_append_left hj]
  have hdp : ∀ j, j < pre.length → dstOf (pre ++ tail).toArray j = dstOf pre.toArray j := fun j hj => by unfold dstOf; rw [hpre j hj]
  refine wp_region_any hm ?_
  refine factsTail_any (w0 := w0) (a0 := ⟨tmps, defers⟩) (F := F) hG hc rfl hmono (by simpa using hop) ?_ _ _ _ _ (by simp) (by have := List.countP_le_length (p := fun b : Bool => !b) (l := List.replicate (pre ++ tail).toArray.size false); simpa using this) ?_
  · intro a w h
    have hd : (pre ++ tail).toArray.toList.drop pre.length = tail := by simp
    rw [hd]
    have hfacts : ∀ i d, dstOf pre.toArray i = some d → F i (a.tmps.getD d undef) w := fun i d hd => by
      have hlt : i < pre.length := by
        unfold dstOf at hd
        cases ho : pre.toArray[i]? with
        | none => simp [ho] at hd
        | some o => simpa using (Array.getElem?_eq_some_iff.1 ho).1
      refine h.facts i d hlt ?_ (by rw [hdp i hlt]; exact hd)
      simp only [List.size_toArray, List.length_append] at hmlt
      have h2 : i < (pre ++ tail).toArray.size := by simp; omega
      simp only [Array.getD_eq_getD_getElem?, Array.getElem?_ofFn]
      rw [dif_pos h2]
      simpa using hlt
    have hq := hend (fun i => match dstOf pre.toArray i with | some d => a.tmps.getD d undef | none => undef) w h.ext (fun i d hd => by simpa [hd] using hfacts i d hd)
    have ha : a = ⟨fill (fun i => match dstOf pre.toArray i with | some d => a.tmps.getD d undef | none => undef) pre 0 tmps, defers⟩ := by
      cases a with
      | mk t2 d2 =>
        have hdd := h.defers
        simp only at hdd
        subst hdd
        congr 1
        apply Array.ext'
        apply List.ext_getElem?
        intro t
        simp only [Array.getElem?_toList]
        by_cases hex : ∃ o ∈ pre, o.dst = some t
        · obtain ⟨o, ho, hdt⟩ := hex
          obtain ⟨i, hi, rfl⟩ := List.getElem_of_mem ho
          have hoi : (pre ++ tail).toArray[i]? = some pre[i] := by rw [hpre i hi]; simp [hi]
          have hdi : dstOf (pre ++ tail).toArray i = some t := by unfold dstOf; rw [hoi]; exact hdt
          obtain ⟨d', hd', hlt, huniq⟩ := (hall i _ hoi).2.2.1 hi
          have hte : t = d' := by
            have := hdt.symm.trans hd'
            injection this
          have hlt2 : t < tmps.size := by rw [hte]; exact hlt
          rw [fill_in _ pre 0 tmps i pre[i] t (by simp) hdt hlt2 (fun j o' hj hd2 => by
            have hjl : j < pre.length := (List.getElem?_eq_some_iff.1 hj).1
            refine (huniq j hjl ?_).symm
            rw [hdp j hjl]
            unfold dstOf
            rw [show pre.toArray[j]? = some o' from by simpa using hj, ← hte]
            exact hd2)]
          rw [Nat.zero_add, show dstOf pre.toArray i = some t from by rw [← hdp i hi]; exact hdi]
          have hsz := h.size
          simp only at hsz
          simp only [Array.getD_eq_getD_getElem?]
          rw [Array.getElem?_eq_getElem (show t < t2.size from by rw [hsz]; exact hlt2)]
          rfl
        · rw [fill_out]
          · refine h.out t (fun j hj he => hex ?_)
            rw [hdp j hj] at he
            unfold dstOf at he
            cases ho : pre.toArray[j]? with
            | none => simp [ho] at he
            | some o =>
              simp only [ho, Option.bind_some] at he
              exact ⟨o, by simpa using Array.mem_of_getElem? ho, he⟩
          · intro o ho hd2
            exact hex ⟨o, ho, hd2⟩
    rw [ha]
    exact hq
  · exact ⟨hG.drew _, rfl, rfl, fun _ _ => rfl, fun i d _ hi _ => by
      simp only [Array.getD_eq_getD_getElem?, Array.getElem?_replicate] at hi
      split at hi <;> simp at hi, fun j _ => by
      simp only [Array.getD_eq_getD_getElem?, Array.getElem?_replicate]
      split <;> rfl, fun j o _ hj => by
      simp only [Array.getD_eq_getD_getElem?, Array.getElem?_replicate] at hj
      split at hj <;> simp at hj⟩

theorem wp_region_tail_at {id : Nat} {l : List Oper} {tmps : Array Value} {defers : List Deferred} (m : Nat) (hG : PreG G) (hm : P.follows .mixedOrders = true) (hc : tailOk l.toArray m tmps.size = true) (hmono : ∀ i v w w', F i v w → G w w' → F i v w')
    (hop : FactsOk G P (l.take m).toArray ⟨tmps, defers⟩ w0 F 0 (l.take m))
    (hend : ∀ (vs : Nat → Value) (w : World), G w0 w → (∀ i d, dstOf (l.take m).toArray i = some d → F i (vs i) w) → wpList P l.toArray Q (l.drop m) ⟨fill vs (l.take m) 0 tmps, defers⟩ w) :
    (Code.region id l.toArray true).wp P Q ⟨tmps, defers⟩ w0 := by
  have hl : m ≤ l.length := by
    have := (tail_parts hc).2.1
    simp at this
    omega
  have e : l.take m ++ l.drop m = l := List.take_append_drop m l
  have := wp_region_tail (id := id) (pre := l.take m) (tail := l.drop m) (tmps := tmps) (defers := defers) (P := P) (Q := Q) (F := F) (w0 := w0) hG hm (by rw [e, List.length_take, Nat.min_eq_left hl]; exact hc) hmono hop (by rw [e]; exact hend)
  rwa [e] at this
end
end Go.Proofs.Ytjmcbacdogjdeaa
