/- Regions with several new blocks, whose last operations follow all others, over abstract frames. Nothing of the program stands here. -/
import Derived.Test.YtjmcbacdogjdeaaAm
namespace Go.Proofs.Ytjmcbacdogjdeaa
open Go Go.RowKit
set_option linter.unusedVariables false
set_option linter.unusedSimpArgs false
set_option maxHeartbeats 2000000
def OpOk3 (G : World → World → Prop) (N : Nat → Value → World → Prop) (P : Program) (ops : Array Oper) (a0 : Act) (w0 : World) (F : Nat → Value → World → Prop) (i : Nat) (o : Oper) : Prop :=
  ∀ (ρ : Operand → Value) (w : World), G w0 w → Known ops a0 F o ρ w → (∀ g, ρ (.global g) = .pointer (some ⟨g, 0, none⟩)) →
    match o.guard with
    | none => Outcome P (fun v w' => G w w' ∧ F i v w' ∧ N i v w) ((execOp ρ o).run P w)
    | some (j, want) => ∃ d, dstOf ops j = some d ∧ (ρ (.tmp d) = .bool want → Outcome P (fun v w' => G w w' ∧ F i v w' ∧ N i v w) ((execOp ρ o).run P w)) ∧ (ρ (.tmp d) ≠ .bool want → F i undef w ∧ N i undef w)
def FactsOk3 (G : World → World → Prop) (N : Nat → Value → World → Prop) (P : Program) (ops : Array Oper) (a0 : Act) (w0 : World) (F : Nat → Value → World → Prop) (k : Nat) (l : List Oper) : Prop :=
  ∀ i o, l[i]? = some o → OpOk3 G N P ops a0 w0 F (k + i) o
theorem FactsOk3.get {G : World → World → Prop} {N : Nat → Value → World → Prop} {P : Program} {ops : Array Oper} {a0 : Act} {w0 : World} {F : Nat → Value → World → Prop} {l : List Oper} {k : Nat} (h : FactsOk3 G N P ops a0 w0 F k l) :
    ∀ i o, l[i]? = some o → OpOk3 G N P ops a0 w0 F (k + i) o := h
structure TInv3 (G : World → World → Prop) (D : Nat → Nat → Value → Value → Prop) (ops : Array Oper) (m : Nat) (a0 : Act) (w0 : World) (F : Nat → Value → World → Prop) (listed : Array Bool) (a : Act) (w : World) : Prop where
  ext : G w0 w
  size : a.tmps.size = a0.tmps.size
  defers : a.defers = a0.defers
  out : ∀ t, (∀ j, j < m → dstOf ops j ≠ some t) → a.tmps[t]? = a0.tmps[t]?
  facts : ∀ i d, i < m → listed.getD i false = true → dstOf ops i = some d → F i (a.tmps.getD d undef) w
  later : ∀ j, m ≤ j → listed.getD j false = false
  closed : Closed ops listed
  pairs : ∀ i j d e, i < m → j < m → i ≠ j → listed.getD i false = true → listed.getD j false = true → dstOf ops i = some d → dstOf ops j = some e → D i j (a.tmps.getD d undef) (a.tmps.getD e undef)
section
variable {P : Program} {ops : Array Oper} {a0 : Act} {w0 : World} {F : Nat → Value → World → Prop} {Q : Exit → Act → World → Prop} {n m : Nat} {G : World → World → Prop} {D : Nat → Nat → Value → Value → Prop} {N : Nat → Value → World → Prop}
theorem factsTail_any3 (hG : PreG G) (hc : tailOk ops m n = true) (hn : n = a0.tmps.size) (hmono : ∀ i v w w', F i v w → G w w' → F i v w') (hsym : ∀ i j u v, D i j u v → D j i v u) (hD : ∀ i j v u w, i ≠ j → N i v w → F j u w → D i j v u) (hop : FactsOk3 G N P (ops.extract 0 m) a0 w0 F 0 (ops.toList.take m))
    (hend : ∀ a w, TInv3 G D ops m a0 w0 F (Array.ofFn fun i : Fin ops.size => decide (i.1 < m)) a w → wpList P ops Q (ops.toList.drop m) a w) :
    ∀ (fuel : Nat) (listed : Array Bool) (a : Act) (w : World), listed.size = ops.size → (listed.toList.countP (fun b => !b)) ≤ fuel → TInv3 G D ops m a0 w0 F listed a w → wpAny P .any ops Q fuel listed a w := by
  obtain ⟨hall, hmlt, hclo⟩ := tail_parts hc
  have hsub : ∀ j, j < m → (ops.extract 0 m)[j]? = ops[j]? := fun j hj => by
    rw [Array.getElem?_extract, if_pos (by omega)]; simp
  have hdst : ∀ j d, dstOf (ops.extract 0 m) j = some d → j < m ∧ dstOf ops j = some d := by
    intro j d h
    by_cases hj : j < m
    · exact ⟨hj, by unfold dstOf at h ⊢; rw [← hsub j hj]; exact h⟩
    · unfold dstOf at h
      rw [Array.getElem?_extract, if_neg (by omega)] at h
      cases h
  have fin : ∀ (fuel : Nat) (listed : Array Bool) (a : Act) (w : World), listed.size = ops.size → (listed.toList.countP (fun b => !b)) ≤ fuel → TInv3 G D ops m a0 w0 F listed a w → (∀ j, j < m → listed.getD j false = true) → wpAny P .any ops Q fuel listed a w := by
    intro fuel listed a w hs hf h hpre
    have hl : ∀ j, j < ops.size → listed.getD j false = decide (j < m) := by
      intro j hj
      by_cases hjm : j < m
      · rw [hpre j hjm]; simp [hjm]
      · rw [h.later j (by omega)]; simp [hjm]
    have hcount := count_listed hs (by omega) hl
    refine tail_any hc _ m fuel listed a w rfl hs hl (Nat.le_refl _) (by simp; omega) (hend a w ?_)
    have he : listed = Array.ofFn fun i : Fin ops.size => decide (i.1 < m) := by
      apply Array.ext
      · simpa using hs
      · intro k h1 h2
        have := hl k (by omega)
        simp only [Array.getD_eq_getD_getElem?, Array.getElem?_eq_getElem h1, Option.getD_some] at this
        simpa using this
    rw [← he]
    exact h
  intro fuel
  induction fuel with
  | zero =>
    intro listed a w hs hf h
    refine fin 0 listed a w hs hf h ?_
    intro j hj
    have h0 : listed.toList.countP (fun b => !b) = 0 := by omega
    rw [List.countP_eq_zero] at h0
    have hlt : j < listed.size := by omega
    have := h0 listed[j] (by simp)
    simp only [Array.getD_eq_getD_getElem?, Array.getElem?_eq_getElem hlt, Option.getD_some]
    simpa using this
  | succ fuel ih =>
    intro listed a w hs hf h
    by_cases hpre : ∀ j, j < m → listed.getD j false = true
    · exact fin _ listed a w hs hf h hpre
    · have hready : ∀ i ∈ Region.ready .any ops listed, i < m := by
        intro i hi
        obtain ⟨o, ho, hl, hneed⟩ := (ready_iff hs).1 hi
        by_cases him : i < m
        · exact him
        · exfalso
          by_cases hgt : m < i
          · have := hneed _ ((hall i o ho).2.2.2 hgt)
            rw [h.later (i - 1) (by omega)] at this
            cases this
          · have e : i = m := by omega
            subst e
            apply hpre
            intro j hj
            refine clo_listed h.closed i (needsAt ops i) ?_ j (hclo j hj)
            intro k hk
            unfold needsAt at hk
            rw [ho] at hk
            exact hneed k hk
      refine ⟨fun hr => ?_, ?_⟩
      · exfalso
        apply hpre
        intro j
        induction j using Nat.strongRecOn with
        | ind j ihj =>
          intro hj
          cases hl : listed.getD j false with
          | true => rfl
          | false =>
            exfalso
            have ho := Array.getElem?_eq_getElem (show j < ops.size by omega)
            have hm : j ∈ Region.ready .any ops listed := (ready_iff hs).2 ⟨ops[j], ho, hl, fun k hk => by
              have := (hall j _ ho).1 k hk
              exact ihj k this (by omega)⟩
            rw [hr] at hm
            cases hm
      · intro i hi
        have him := hready i hi
        obtain ⟨o, ho, hl, hneed⟩ := (ready_iff hs).1 hi
        have hlt : i < listed.size := by rw [hs]; exact (Array.getElem?_eq_some_iff.1 ho).1
        obtain ⟨_, hguard, hdd, _⟩ := hall i o ho
        obtain ⟨d, hd, hdn, huniq⟩ := hdd him
        have hdi : dstOf ops i = some d := by unfold dstOf; rw [ho]; exact hd
        have hcount : (listed.setIfInBounds i true).toList.countP (fun b => !b) ≤ fuel := by
          simp only [Array.getD_eq_getD_getElem?, Array.getElem?_eq_getElem hlt, Option.getD_some] at hl
          have hl' : listed.toList[i] = false := by simpa using hl
          have hlt' : i < listed.toList.length := by simpa using hlt
          have e1 : (listed.setIfInBounds i true).toList = listed.toList.set i true := by simp
          rw [e1]
          have := List.countP_set (p := fun b => !b) (l := listed.toList) (i := i) (a := true) hlt'
          have hpos : 0 < listed.toList.countP (fun b => !b) := List.countP_pos_iff.2 ⟨listed.toList[i], List.getElem_mem _, by rw [hl']; rfl⟩
          rw [this, hl']
          simp only [Bool.not_false, Bool.not_true, if_true, Bool.false_eq_true, if_false]
          omega
        have hk : Known (ops.extract 0 m) a0 F o a.eval w := by
          refine ⟨fun _ => rfl, fun _ => rfl, ?_, ?_⟩
          · intro t ht
            have := h.out t (by
              intro j hj he
              unfold outside at ht
              have hoj : ∃ o', ops[j]? = some o' ∧ o'.dst = some t := by
                unfold dstOf at he
                cases hx : ops[j]? with
                | none => simp [hx] at he
                | some o' => exact ⟨o', rfl, by simpa [hx] using he⟩
              obtain ⟨o', ho', hd'⟩ := hoj
              have := Array.all_eq_true'.1 ht o' (Array.mem_of_getElem? ((hsub j hj).trans ho'))
              simp [hd'] at this)
            simp only [Act.eval, Array.getD_eq_getD_getElem?, this]
          · intro j d' hj hd'
            obtain ⟨hjm, hd2⟩ := hdst j d' hd'
            exact h.facts j d' hjm (hneed j (by simpa using hj)) hd2
        have hop' := hop.get i o (by
          rw [List.getElem?_take, if_pos him]; simpa using ho)
        rw [Nat.zero_add] at hop'
        have hok := hop' a.eval w h.ext hk (fun _ => rfl)
        have next : ∀ (v : Value) (w' : World), G w w' → F i v w' → N i v w → wpAny P .any ops Q fuel (listed.setIfInBounds i true) (a.put o.dst v) w' := fun v w' hx hv hnv => by
          refine ih _ _ _ (by simpa using hs) hcount ?_
          have hput : a.put o.dst v = { a with tmps := a.tmps.setIfInBounds d v } := by rw [hd]; rfl
          rw [hput]
          have hset : ∀ j, (listed.setIfInBounds i true).getD j false = if j = i then true else listed.getD j false := by
            intro j
            simp only [Array.getD_eq_getD_getElem?, Array.getElem?_setIfInBounds]
            by_cases hji : i = j
            · subst hji; rw [if_pos rfl, if_pos hlt]; simp
            · rw [if_neg hji, if_neg (by omega)]
          refine ⟨hG.trans h.ext hx, by simpa using h.size, h.defers, ?_, ?_, ?_, ?_, ?_⟩
          · intro t ht
            have hne : d ≠ t := fun e => ht i him (by rw [← e]; exact hdi)
            simp only [Array.getElem?_setIfInBounds, if_neg hne]
            exact h.out t ht
          · intro j e hjm hj hje
            by_cases hij : j = i
            · subst hij
              rw [hdi] at hje
              injection hje with hje
              subst hje
              simp only [Array.getD_eq_getD_getElem?, Array.getElem?_setIfInBounds]
              rw [if_pos trivial, if_pos (by rw [h.size, ← hn]; exact hdn)]
              simpa using hv
            · have hed : d ≠ e := fun he => hij (huniq j hjm (by rw [he]; exact hje)).symm
              simp only [Array.getD_eq_getD_getElem?, Array.getElem?_setIfInBounds, if_neg hed]
              rw [hset, if_neg hij] at hj
              have := h.facts j e hjm hj hje
              simp only [Array.getD_eq_getD_getElem?] at this
              exact hmono _ _ _ _ this hx
          · intro j hj
            rw [hset, if_neg (by omega)]
            exact h.later j hj
          · intro j o' ho' hj k hk
            rw [hset]
            split
            · rfl
            · rw [hset] at hj
              by_cases hji : j = i
              · subst hji
                rw [ho] at ho'
                injection ho' with ho'
                subst ho'
                exact hneed k hk
              · rw [if_neg hji] at hj
                exact h.closed j o' ho' hj k hk
          · intro i1 j1 d1 e1 hi1 hj1 hne hl1 hl2 hd1 he1
            rw [hset] at hl1 hl2
            have hdt : d < a.tmps.size := by rw [h.size, ← hn]; exact hdn
            have hother : ∀ k1 f1, k1 < m → k1 ≠ i → dstOf ops k1 = some f1 → d ≠ f1 := fun k1 f1 hk hki hf he => hki (huniq k1 hk (by rw [he]; exact hf)).symm
            by_cases hi : i1 = i
            · subst hi
              rw [hdi] at hd1
              injection hd1 with hd1
              subst hd1
              rw [getD_set hdt, if_pos rfl, getD_set hdt, if_neg (hother j1 e1 hj1 (Ne.symm hne) he1)]
              rw [if_neg (Ne.symm hne)] at hl2
              exact hD _ _ _ _ _ hne hnv (h.facts j1 e1 hj1 hl2 he1)
            · by_cases hj : j1 = i
              · subst hj
                rw [hdi] at he1
                injection he1 with he1
                subst he1
                rw [getD_set hdt, if_neg (hother i1 d1 hi1 hi hd1), getD_set hdt, if_pos rfl]
                rw [if_neg hi] at hl1
                exact hsym _ _ _ _ (hD _ _ _ _ _ (Ne.symm hne) hnv (h.facts i1 d1 hi1 hl1 hd1))
              · rw [getD_set hdt, if_neg (hother i1 d1 hi1 hi hd1), getD_set hdt, if_neg (hother j1 e1 hj1 hj he1)]
                rw [if_neg hi] at hl1
                rw [if_neg hj] at hl2
                exact h.pairs i1 j1 d1 e1 hi1 hj1 hne hl1 hl2 hd1 he1
        unfold wpOp
        simp only [ho]
        have run : Outcome P (fun v w' => G w w' ∧ F i v w' ∧ N i v w) ((execOp a.eval o).run P w) → o.wp P a w (wpAny P .any ops Q fuel (listed.setIfInBounds i true)) Q := fun hr =>
          Outcome.upon (hr.mono fun v w' ⟨hx, hv, hnv⟩ => next v w' hx hv hnv)
        cases hg : o.guard with
        | none =>
          simp only [hg] at hok
          rw [if_pos (by simp [Region.wanted, hg])]
          exact .inl (run hok)
        | some jb =>
          obtain ⟨j, want⟩ := jb
          simp only [hg] at hok
          obtain ⟨d, hd, hyes, hno⟩ := hok
          have hd' : ((ops[j]?).bind (·.dst)) = some d := (hdst j d hd).2
          by_cases hb : a.eval (.tmp d) = .bool want
          · have hy : yielded ops a.tmps j = some want := by
              unfold yielded
              rw [hd']
              simp only [Act.eval, Array.getD_eq_getD_getElem?] at hb
              cases ht : a.tmps[d]? with
              | none => simp [ht, undef] at hb
              | some v =>
                simp only [ht, Option.getD_some] at hb
                subst hb
                simp [ht]
            rw [if_pos (by simp [Region.wanted, hg, hy])]
            exact .inl (run (hyes hb))
          · have hy : yielded ops a.tmps j ≠ some want := by
              unfold yielded
              rw [hd']
              intro he
              apply hb
              simp only [Act.eval, Array.getD_eq_getD_getElem?]
              cases ht : a.tmps[d]? with
              | none => simp [ht] at he
              | some v =>
                simp only [Option.getD_some]
                cases v <;> simp_all
            rw [if_neg (by simp [Region.wanted, hg, hy])]
            exact next _ _ (hG.refl w) (hno hb).1 (hno hb).2

theorem wp_region_tail3 {id : Nat} {pre tail : List Oper} {tmps : Array Value} {defers : List Deferred} (hG : PreG G) (hm : P.follows .mixedOrders = true) (hc : tailOk (pre ++ tail).toArray pre.length tmps.size = true) (hmono : ∀ i v w w', F i v w → G w w' → F i v w') (hsym : ∀ i j u v, D i j u v → D j i v u) (hD : ∀ i j v u w, i ≠ j → N i v w → F j u w → D i j v u)
    (hop : FactsOk3 G N P pre.toArray ⟨tmps, defers⟩ w0 F 0 pre)
    (hend : ∀ (vs : Nat → Value) (w : World), G w0 w → (∀ i d, dstOf pre.toArray i = some d → F i (vs i) w) → (∀ i j d e, i ≠ j → dstOf pre.toArray i = some d → dstOf pre.toArray j = some e → D i j (vs i) (vs j)) → wpList P (pre ++ tail).toArray Q tail ⟨fill vs pre 0 tmps, defers⟩ w) :
    (Code.region id (pre ++ tail).toArray true).wp P Q ⟨tmps, defers⟩ w0 := by
  obtain ⟨hall, hmlt, hclo⟩ := tail_parts hc
  have hpre : ∀ j, j < pre.length → (pre ++ tail).toArray[j]? = pre.toArray[j]? := fun j hj => by simp [List.getElem?_append_left hj]
  have hdp : ∀ j, j < pre.length → dstOf (pre ++ tail).toArray j = dstOf pre.toArray j := fun j hj => by unfold dstOf; rw [hpre j hj]
  refine wp_region_any hm ?_
  refine factsTail_any3 (w0 := w0) (a0 := ⟨tmps, defers⟩) (F := F) (D := D) (N := N) hG hc rfl hmono hsym hD (by simpa using hop) ?_ _ _ _ _ (by simp) (by have := List.countP_le_length (p := fun b : Bool => !b) (l := List.replicate (pre ++ tail).toArray.size false); simpa using this) ?_
  · intro a w h
    have hd : (pre ++ tail).toArray.toList.drop pre.length = tail := by simp
    rw [hd]
    have hfacts : ∀ i d, dstOf pre.toArray i = some d → F i (a.tmps.getD d undef) w := fun i d hd => by
      have hlt : i < pre.length := by
        unfold dstOf at hd
        cases ho : pre.toArray[i]? with
        | none => simp [ho] at hd
        | some o => simpa using (Array.getElem?_eq_some_iff.1 ho).1
      refine h.facts i d hlt ?_ (by rw [hdp i hlt]; exact hd)
      simp only [List.size_toArray, List.length_append] at hmlt
      have h2 : i < (pre ++ tail).toArray.size := by simp; omega
      simp only [Array.getD_eq_getD_getElem?, Array.getElem?_ofFn]
      rw [dif_pos h2]
      simpa using hlt
    have hlisted : ∀ i, i < pre.length → (Array.ofFn fun i : Fin (pre ++ tail).toArray.size => decide (i.1 < pre.length)).getD i false = true := fun i hlt => by
      simp only [List.size_toArray, List.length_append] at hmlt
      have h2 : i < (pre ++ tail).toArray.size := by simp; omega
      simp only [Array.getD_eq_getD_getElem?, Array.getElem?_ofFn]
      rw [dif_pos h2]
      simpa using hlt
    have hltp : ∀ i d, dstOf pre.toArray i = some d → i < pre.length := fun i d hd => by
      unfold dstOf at hd
      cases ho : pre.toArray[i]? with
      | none => simp [ho] at hd
      | some o => simpa using (Array.getElem?_eq_some_iff.1 ho).1
    have hpairs : ∀ i j d e, i ≠ j → dstOf pre.toArray i = some d → dstOf pre.toArray j = some e → D i j (a.tmps.getD d undef) (a.tmps.getD e undef) := fun i j d e hne hi hj =>
      h.pairs i j d e (hltp i d hi) (hltp j e hj) hne (hlisted i (hltp i d hi)) (hlisted j (hltp j e hj)) (by rw [hdp i (hltp i d hi)]; exact hi) (by rw [hdp j (hltp j e hj)]; exact hj)
    have hq := hend (fun i => match dstOf pre.toArray i with | some d => a.tmps.getD d undef | none => undef) w h.ext (fun i d hd => by simpa [hd] using hfacts i d hd) (fun i j d e hne hi hj => by simpa [hi, hj] using hpairs i j d e hne hi hj)
    have ha : a = ⟨fill (fun i => match dstOf pre.toArray i with | some d => a.tmps.getD d undef | none => undef) pre 0 tmps, defers⟩ := by
      cases a with
      | mk t2 d2 =>
        have hdd := h.defers
        simp only at hdd
        subst hdd
        congr 1
        apply Array.ext'
        apply List.ext_getElem?
        intro t
        simp only [Array.getElem?_toList]
        by_cases hex : ∃ o ∈ pre, o.dst = some t
        · obtain ⟨o, ho, hdt⟩ := hex
          obtain ⟨i, hi, rfl⟩ := List.getElem_of_mem ho
          have hoi : (pre ++ tail).toArray[i]? = some pre[i] := by rw [hpre i hi]; simp [hi]
          have hdi : dstOf (pre ++ tail).toArray i = some t := by unfold dstOf; rw [hoi]; exact hdt
          obtain ⟨d', hd', hlt, huniq⟩ := (hall i _ hoi).2.2.1 hi
          have hte : t = d' := by
            have := hdt.symm.trans hd'
            injection this
          have hlt2 : t < tmps.size := by rw [hte]; exact hlt
          rw [fill_in _ pre 0 tmps i pre[i] t (by simp) hdt hlt2 (fun j o' hj hd2 => by
            have hjl : j < pre.length := (List.getElem?_eq_some_iff.1 hj).1
            refine (huniq j hjl ?_).symm
            rw [hdp j hjl]
            unfold dstOf
            rw [show pre.toArray[j]? = some o' from by simpa using hj, ← hte]
            exact hd2)]
          rw [Nat.zero_add, show dstOf pre.toArray i = some t from by rw [← hdp i hi]; exact hdi]
          have hsz := h.size
          simp only at hsz
          simp only [Array.getD_eq_getD_getElem?]
          rw [Array.getElem?_eq_getElem (show t < t2.size from by rw [hsz]; exact hlt2)]
          rfl
        · rw [fill_out]
          · refine h.out t (fun j hj he => hex ?_)
            rw [hdp j hj] at he
            unfold dstOf at he
            cases ho : pre.toArray[j]? with
            | none => simp [ho] at he
            | some o =>
              simp only [ho, Option.bind_some] at he
              exact ⟨o, by simpa using Array.mem_of_getElem? ho, he⟩
          · intro o ho hd2
            exact hex ⟨o, ho, hd2⟩
    rw [ha]
    exact hq
  · exact ⟨hG.drew _, rfl, rfl, fun _ _ => rfl, fun i d _ hi _ => by
      simp only [Array.getD_eq_getD_getElem?, Array.getElem?_replicate] at hi
      split at hi <;> simp at hi, fun j _ => by
      simp only [Array.getD_eq_getD_getElem?, Array.getElem?_replicate]
      split <;> rfl, fun j o _ hj => by
      simp only [Array.getD_eq_getD_getElem?, Array.getElem?_replicate] at hj
      split at hj <;> simp at hj, fun i j d e _ _ _ hi => by
      simp only [Array.getD_eq_getD_getElem?, Array.getElem?_replicate] at hi
      split at hi <;> simp at hi⟩

end
section
variable {P : Program} {c : Ctx} {n : Nat} {Q : AQ} {fr : List (Nat × AV)} {H : List (Nat × Res)} {ops : Array Oper}
def RN (ZT : List (Nat × List Z)) (pre : List Oper) (S : Nat → Prop) (γ : Nat → Value) (w0 : World) (as : List AV) : Nat → Value → World → Prop :=
  fun i v w => w0.heap.size ≤ w.heap.size ∧ ((as[i]?).getD .any).holds (FreshS S w0 w) γ w v ∧ (∀ t d, (pre[i]?).bind isAlloc = some (t, d) → ∃ b arr zs, v = .pointer (some ⟨b, 0, none⟩) ∧ w0.heap.size ≤ b ∧ b < w.heap.size ∧ w.heap[b]? = some (.cells arr t) ∧ look ZT t = some zs ∧ arr.toList = zs.map Z.val)
def NN (pre : List Oper) : Nat → Value → World → Prop := fun i v w => ∀ td, (pre[i]?).bind isAlloc = some td → ∃ b, v = .pointer (some ⟨b, 0, none⟩) ∧ w.heap.size ≤ b
def DN (pre : List Oper) : Nat → Nat → Value → Value → Prop := fun i j v u => ∀ ti tj, (pre[i]?).bind isAlloc = some ti → (pre[j]?).bind isAlloc = some tj → ∀ b, v = .pointer (some ⟨b, 0, none⟩) → u = .pointer (some ⟨b, 0, none⟩) → False
theorem isAlloc_at {o : Oper} {t : TypeId} {d : Nat} (h : isAlloc o = some (t, d)) : o.op = .alloc t ∧ o.dst = some d ∧ o.guard = none := by
  unfold isAlloc at h
  split at h
  · rename_i t' d' h3 h4 h5
    injection h with h
    injection h with h1 h2
    subst h1 h2
    exact ⟨h3, h4, h5⟩
  · cases h
theorem region_core3 {id : Nat} {pre tail : List Oper} {as : List AV} {ZT : List (Nat × List Z)} (hZ : ZOk P ZT) (hzz : ∀ (i : Nat) (t : TypeId) (d : Nat), (pre[i]?).bind isAlloc = some (t, d) → ∃ zs, look ZT t = some zs) (hany : ∀ (i : Nat) (td : TypeId × Nat), (pre[i]?).bind isAlloc = some td → (as[i]?).getD AV.any = AV.any)
    (hm : P.follows .mixedOrders = true) (htc : tailOk (pre ++ tail).toArray pre.length n = true) (hc : regOk pre.toArray n = true) (hdep : depsOk pre.toArray = true) (ev : Ev P pre.toArray H pre fr as)
    {S : Nat → Prop} {γ : Nat → Value} {tmps : Array Value} {w0 : World} (hr : Rel c n fr H S γ tmps w0) {Q : Exit → Act → World → Prop}
    (hend : ∀ (vs : Nat → Value) (w : World), Ext w0 w → (∀ i d, dstOf pre.toArray i = some d → RN ZT pre S γ w0 as i (vs i) w) → (∀ i j d e, i ≠ j → dstOf pre.toArray i = some d → dstOf pre.toArray j = some e → DN pre i j (vs i) (vs j)) → wpList P (pre ++ tail).toArray Q tail ⟨fill vs pre 0 tmps, []⟩ w) :
    (Code.region id (pre ++ tail).toArray true).wp P Q ⟨tmps, []⟩ w0 := by
  have hlen := ev.len
  subst_vars
  have hsz := hr.size
  have huniq : ∀ {i j : Nat} {d : Tmp}, dstOf pre.toArray i = some d → dstOf pre.toArray j = some d → i = j := fun hi hj => dst_unique hc hi hj
  have hdst : ∀ {i : Nat} {o : Oper}, pre[i]? = some o → dstOf pre.toArray i = o.dst := fun ho => by unfold dstOf; simp [ho]
  have hlook : ∀ (i : Nat) {j : Nat} {x : Tmp}, dstOf pre.toArray j = some x → j < i → look (frAfter (pre.take i) (as.take i) fr) x = as[j]? := by
    intro i j x hj hji
    have hjo : ∃ o, pre[j]? = some o ∧ o.dst = some x := by
      unfold dstOf at hj
      cases ho : pre[j]? with
      | none => simp [ho] at hj
      | some o => exact ⟨o, rfl, by simpa [ho] using hj⟩
    obtain ⟨o, ho, hd⟩ := hjo
    rw [frAfter_in (pre.take i) (as.take i) fr j o (by rw [List.getElem?_take, if_pos hji]; exact ho) hd ?_ (by simp [hlen])]
    · rw [List.getElem?_take, if_pos hji]
    · intro k o' hk hd'
      rw [List.getElem?_take] at hk
      split at hk
      · exact huniq ((hdst hk).trans hd') ((hdst ho).trans hd)
      · cases hk
  have hout : ∀ (i : Nat) {x : Tmp}, outside pre.toArray x = true → look (frAfter (pre.take i) (as.take i) fr) x = look fr x := by
    intro i x hx
    apply frAfter_out
    intro o ho he
    unfold outside at hx
    have := Array.all_eq_true'.1 hx o (by simpa using List.mem_of_mem_take ho)
    simp [he] at this
  have hsame : ∀ {w w' : World}, w0.heap.size ≤ w.heap.size → Ext w w' → Same (FreshS S w0 w) w w' := by
    intro w w' hle x b hb
    apply x.block
    rcases hb with hb | ⟨_, hb⟩
    · have := hr.st.sz b hb; omega
    · exact hb
  have hsub : ∀ {w w' : World}, Ext w w' → ∀ b, FreshS S w0 w b → FreshS S w0 w' b := by
    intro w w' x b hb
    rcases hb with hb | ⟨h1, h2⟩
    · exact .inl hb
    · exact .inr ⟨h1, Nat.lt_of_lt_of_le h2 x.size⟩
  refine wp_region_tail3 (F := RN ZT pre S γ w0 as) (D := DN pre) (N := NN pre) preExt hm (by rw [hsz]; exact htc) ?_ (fun i j u v h ti tj hi hj b hv hu => h tj ti hj hi b hu hv) ?_ ?_ hend
  · rintro i v w w' ⟨hle, hh, hX⟩ x
    refine ⟨Nat.le_trans hle x.size, AV.ext (hsub x) (hsame hle x) hh, fun t d e => ?_⟩
    obtain ⟨b, arr, zs, rfl, hb, hlt, hc1, hz, ha⟩ := hX t d e
    exact ⟨b, arr, zs, rfl, hb, Nat.lt_of_lt_of_le hlt x.size, (x.block b hlt).trans hc1, hz, ha⟩
  · intro i j v u w hne hN hF ti tj hi hj b hv hu
    obtain ⟨b1, h1, h2⟩ := hN ti hi
    obtain ⟨b2, arr, zs, h3, _, h4, _⟩ := hF.2.2 tj.1 tj.2 hj
    rw [hv] at h1; rw [hu] at h3
    injection h1 with h1; injection h1 with h1; injection h1 with h1
    injection h3 with h3; injection h3 with h3; injection h3 with h3
    omega
  · intro i o ho ρ w hx hk hglob
    rw [Nat.zero_add]
    obtain ⟨a, ha, ⟨d, hd⟩, hoa⟩ := ev.get i o ho
    obtain ⟨_, hneeds, hguard⟩ := op_check hc (i := i) (o := o) (by simpa using ho)
    have hdo : (o.op.operands.toList.all fun | .tmp t => outside pre.toArray t || (needs o).any fun j => dstOf pre.toArray j == some t | _ => true) = true := by
      unfold depsOk at hdep
      rw [List.all_eq_true] at hdep
      have := hdep o (by simpa using List.mem_of_getElem? ho)
      simp only [Bool.and_eq_true] at this
      exact this.1
    have hF : ∀ {j : Nat} {x : Tmp} {av : AV}, (needs o).contains j = true → dstOf pre.toArray j = some x → look (frAfter (pre.take i) (as.take i) fr) x = some av → av.holds (FreshS S w0 w) γ w (ρ (.tmp x)) := by
      intro j x av hj hjd hl
      have hji := hneeds j (by simpa using hj)
      rw [hlook i hjd hji] at hl
      have := (hk.dep j x hj hjd).2.1
      rw [hl] at this
      exact this
    have henv : Env (frAfter (pre.take i) (as.take i) fr) H (fun x => x ∈ o.op.operands) ρ (FreshS S w0 w) γ w := by
      refine ⟨hr.st.ext hx, ?_, hk.const, hk.func, hglob⟩
      intro x av hu hl
      rw [List.all_eq_true] at hdo
      have := hdo (.tmp x) (by simpa using hu)
      simp only [Bool.or_eq_true] at this
      rcases this with ho' | ho'
      · rw [hk.out x ho']
        rw [hout i ho'] at hl
        exact AV.ext freshS_sub (same_of_ext hr.st.sz hx) (hr.fr x av hl)
      · rw [List.any_eq_true] at ho'
        obtain ⟨j, hj, hjd⟩ := ho'
        exact hF (by simpa using hj) (by simpa using hjd) hl
    cases hal : isAlloc o with
    | some td =>
      obtain ⟨t, d1⟩ := td
      obtain ⟨hop, hdst1, hgn⟩ := isAlloc_at hal
      simp only [hgn]
      have hbi : (pre[i]?).bind isAlloc = some (t, d1) := by rw [ho]; exact hal
      obtain ⟨zs, hz⟩ := hzz i t d1 hbi
      obtain ⟨zi, z, hi, hiz, hzc⟩ := hZ.zero hz
      refine outc (v := .pointer (some ⟨w.heap.size, 0, none⟩)) (w' := w.alloc (.cells z.cells t)) ?_ ?_
      · simp [execOp, hop, Instr.alloc, zeroValue, typeInfo, hi, hiz, newVar, newRow]
      · have hnew := heap_alloc_new w (.cells z.cells t)
        have hlt := (Array.getElem?_eq_some_iff.1 hnew).1
        refine ⟨Ext.alloc w _, ⟨Nat.le_trans hx.size (Ext.alloc w _).size, ?_, ?_⟩, fun _ _ => ⟨_, rfl, Nat.le_refl _⟩⟩
        · rw [hany i _ hbi]; simp [AV.holds]
        · intro t2 d2 h2
          rw [hbi] at h2
          injection h2 with h2
          injection h2 with h2 h3
          subst h2
          exact ⟨w.heap.size, z.cells, zs, rfl, hx.size, hlt, hnew, hz, hzc⟩
    | none =>
    have hbi : (pre[i]?).bind isAlloc = none := by rw [ho]; exact hal
    have hnx : ∀ {v : Value} {w : World}, NN pre i v w := fun td h => by rw [hbi] at h; cases h
    have run : ∀ a' : AV, SOp P o (frAfter (pre.take i) (as.take i) fr) H a' → (∀ v w', a'.holds (FreshS S w0 w') γ w' v → a.holds (FreshS S w0 w') γ w' v) → Outcome P (fun v w' => Ext w w' ∧ RN ZT pre S γ w0 as i v w' ∧ NN pre i v w) ((execOp ρ o).run P w) := by
      intro a' hs hi
      refine (hs _ γ w ρ henv).mono ?_
      rintro v w' ⟨x, hv⟩
      refine ⟨x, ⟨Nat.le_trans hx.size x.size, ?_, fun t d e => by rw [hbi] at e; cases e⟩, hnx⟩
      rw [ha]
      refine hi v w' (AV.ext ?_ (fun _ _ => rfl) hv)
      rintro b (hb | ⟨h1, h2⟩)
      · exact hsub x b hb
      · exact .inr ⟨Nat.le_trans hx.size h1, h2⟩
    cases hoa with
    | plain hg hs =>
      simp only [hg]
      exact run _ hs (fun _ _ h => h)
    | @guard a j dj want b hg hdj hl hs =>
      simp only [hg]
      have hb := hF (hguard j want hg) hdj hl
      simp only [AV.holds] at hb
      refine ⟨dj, hdj, fun he => ?_, fun he => ?_⟩
      · have hbw : b = want := by rw [he] at hb; simpa using hb.symm
        refine run _ (hs hbw) fun v w' hv => ?_
        simp only [AV.holds]
        exact ⟨fun _ => hv, fun hn => absurd hbw hn⟩
      · refine ⟨⟨hx.size, ?_, fun t d e => by rw [hbi] at e; cases e⟩, hnx⟩
        rw [ha]
        simp only [Option.getD_some, AV.holds]
        refine ⟨fun hbw => absurd (by rw [hb, hbw]) he, fun _ => trivial⟩
    | @guardw a j dj want b p hg hdj hl hs =>
      simp only [hg]
      have hb := hF (hguard j want hg) hdj hl
      simp only [AV.holds] at hb
      refine ⟨dj, hdj, fun he => ?_, fun he => ?_⟩
      · have hbw : p ∧ b = want := by
          by_cases hp : p
          · have h1 := hb.1 hp
            rw [he] at h1
            exact ⟨hp, by simpa using h1.symm⟩
          · have h1 := hb.2 hp
            rw [he] at h1
            simp [undef] at h1
        refine run _ (hs hbw) fun v w' hv => ?_
        simp only [AV.holds]
        exact ⟨fun _ => hv, fun hn => absurd hbw hn⟩
      · refine ⟨⟨hx.size, ?_, fun t d e => by rw [hbi] at e; cases e⟩, hnx⟩
        rw [ha]
        simp only [Option.getD_some, AV.holds]
        refine ⟨fun hbw => absurd (by rw [hb.1 hbw.1, hbw.2]) he, fun _ => trivial⟩


def allocD : List Oper → List (TypeId × Nat)
  | [] => []
  | o :: r => match isAlloc o with
    | some p => p :: allocD r
    | none => allocD r
theorem allocD_mem : ∀ (l : List Oper) (p : TypeId × Nat), p ∈ allocD l → ∃ (i : Nat) (o : Oper), l[i]? = some o ∧ isAlloc o = some p
  | [], p, h => by simp [allocD] at h
  | o :: r, p, h => by
    unfold allocD at h
    cases ho : isAlloc o with
    | some q =>
      rw [ho] at h
      rcases List.mem_cons.1 h with rfl | h
      · exact ⟨0, o, rfl, ho⟩
      · obtain ⟨i, o', h1, h2⟩ := allocD_mem r p h
        exact ⟨i + 1, o', by simpa using h1, h2⟩
    | none =>
      rw [ho] at h
      obtain ⟨i, o', h1, h2⟩ := allocD_mem r p h
      exact ⟨i + 1, o', by simpa using h1, h2⟩
theorem mem_allocD : ∀ (l : List Oper) (i : Nat) (p : TypeId × Nat), (l[i]?).bind isAlloc = some p → p ∈ allocD l
  | [], i, p, h => by simp at h
  | o :: r, 0, p, h => by
    simp at h
    unfold allocD
    rw [h]; exact List.mem_cons_self
  | o :: r, i + 1, p, h => by
    have ih := mem_allocD r i p (by simpa using h)
    unfold allocD
    split
    · exact List.mem_cons_of_mem _ ih
    · exact ih
def idsM : List (TypeId × Nat) → Nat → Bool
  | [], _ => false
  | p :: r, j => match Nat.beq (p.2 + 1000) j with | true => true | false => idsM r j
theorem idsM_iff : ∀ (L : List (TypeId × Nat)) (j : Nat), idsM L j = true ↔ ∃ p ∈ L, p.2 + 1000 = j
  | [], j => by simp [idsM]
  | p :: r, j => by
    unfold idsM
    split
    · rename_i h
      have := Nat.eq_of_beq_eq_true h
      exact ⟨fun _ => ⟨p, List.mem_cons_self, this⟩, fun _ => rfl⟩
    · rename_i h
      rw [idsM_iff r j]
      constructor
      · rintro ⟨q, hq, e⟩; exact ⟨q, List.mem_cons_of_mem _ hq, e⟩
      · rintro ⟨q, hq, e⟩
        rcases List.mem_cons.1 hq with rfl | hq
        · rw [e, Nat.beq_refl] at h; cases h
        · exact ⟨q, hq, e⟩
def boxesH (ZT : List (Nat × List Z)) : List (TypeId × Nat) → List (Nat × Res)
  | [] => []
  | p :: r => (p.2 + 1000, .box (zAV ((look ZT p.1).getD []))) :: boxesH ZT r
def boxesF : List (TypeId × Nat) → List (Nat × AV) → List (Nat × AV)
  | [], fr => fr
  | p :: r, fr => (p.2, .ptr (p.2 + 1000) 0) :: boxesF r fr
theorem look_boxesH (ZT : List (Nat × List Z)) : ∀ (L : List (TypeId × Nat)) (j : Nat) (r : Res), look (boxesH ZT L) j = some r → ∃ p ∈ L, p.2 + 1000 = j ∧ r = .box (zAV ((look ZT p.1).getD []))
  | [], j, r, h => by simp [boxesH, look] at h
  | p :: L, j, r, h => by
    unfold boxesH at h
    rw [look_cons] at h
    split at h
    · rename_i e
      injection h with h
      exact ⟨p, List.mem_cons_self, e, h.symm⟩
    · obtain ⟨q, hq, h2⟩ := look_boxesH ZT L j r h
      exact ⟨q, List.mem_cons_of_mem _ hq, h2⟩
theorem look_boxesF : ∀ (L : List (TypeId × Nat)) (fr : List (Nat × AV)) (x : Nat) (a : AV), look (boxesF L fr) x = some a → (∃ p ∈ L, p.2 = x ∧ a = .ptr (x + 1000) 0) ∨ ((∀ p ∈ L, p.2 ≠ x) ∧ look fr x = some a)
  | [], fr, x, a, h => .inr ⟨by simp, h⟩
  | p :: L, fr, x, a, h => by
    unfold boxesF at h
    rw [look_cons] at h
    split at h
    · rename_i e
      injection h with h
      exact .inl ⟨p, List.mem_cons_self, e, by rw [← h, e]⟩
    · rename_i e
      rcases look_boxesF L fr x a h with ⟨q, hq, h2⟩ | ⟨h2, h3⟩
      · exact .inl ⟨q, List.mem_cons_of_mem _ hq, h2⟩
      · refine .inr ⟨fun q hq => ?_, h3⟩
        rcases List.mem_cons.1 hq with rfl | hq
        · exact e
        · exact h2 q hq
def stillsN (pre : List Oper) (fr : List (Nat × AV)) : Bool := pre.all fun o => match o.dst with
  | some x => match isAlloc o with
    | some _ => match look fr x with | some .any => true | _ => false
    | none => match look fr x with | some a => a.still | none => false
  | none => false
theorem a_region_tailN {id : Nat} {l pre tail : List Oper} {o1 : Oper} {p1 p2 : TypeId × Nat} {L : List (TypeId × Nat)} {ZT : List (Nat × List Z)} (hsp : splitT l = (pre, o1 :: tail)) (hal : allocD pre = p1 :: p2 :: L) (hm : P.follows .mixedOrders = true) (htc : tailOk l.toArray pre.length n = true) (hc : regOk pre.toArray n = true) (hdep : depsOk pre.toArray = true)
    (hZ : ZOk P ZT) (hz : (allocD pre).all (fun p => (look ZT p.1).isSome) = true) (hu : usesH (idsM (p1 :: p2 :: L)) (dropH (idsM (p1 :: p2 :: L)) H) = true)
    (ev : EvK P pre.toArray H (fun fr' => True ∧ stillsN pre fr' = true ∧ AOps P c n l.toArray (o1 :: tail) Q (boxesF (p1 :: p2 :: L) (markF (idsM (p1 :: p2 :: L)) fr')) (boxesH ZT (p1 :: p2 :: L) ++ dropH (idsM (p1 :: p2 :: L)) H)) pre fr) : ACode P c n (.region id l.toArray true) Q fr H := fun S γ tmps w0 hr => by
  obtain ⟨as, h1, _, hst, h2⟩ := ev.ev
  have e : pre ++ (o1 :: tail) = l := by have := splitT_app l; rw [hsp] at this; exact this
  subst e
  rw [← hal] at hu h2
  clear hal
  have hlen := h1.len
  have hdst' : ∀ {i : Nat} {o : Oper}, pre[i]? = some o → dstOf pre.toArray i = o.dst := fun ho => by unfold dstOf; simp [ho]
  have hlk : ∀ {i : Nat} {o : Oper} {x : Nat}, pre[i]? = some o → o.dst = some x → look (frAfter pre as fr) x = as[i]? := fun {i o x} hi hd =>
    frAfter_in pre as fr i o hi hd (fun k o' hk hd' => dst_unique hc ((hdst' hk).trans hd') ((hdst' hi).trans hd)) hlen
  have hzz : ∀ (i : Nat) (t : TypeId) (d : Nat), (pre[i]?).bind isAlloc = some (t, d) → ∃ zs, look ZT t = some zs := fun i t d h => by
    have := List.all_eq_true.1 hz _ (mem_allocD pre i _ h)
    exact Option.isSome_iff_exists.1 this
  have hbind : ∀ {i : Nat} {p : TypeId × Nat}, (pre[i]?).bind isAlloc = some p → ∃ o, pre[i]? = some o ∧ isAlloc o = some p := fun {i p} h => by
    cases ho : pre[i]? with
    | none => rw [ho] at h; cases h
    | some o => rw [ho] at h; exact ⟨o, rfl, h⟩
  have hany : ∀ (i : Nat) (td : TypeId × Nat), (pre[i]?).bind isAlloc = some td → (as[i]?).getD AV.any = AV.any := fun i td h => by
    obtain ⟨o, ho, ha⟩ := hbind h
    obtain ⟨_, hd, _⟩ := isAlloc_at ha
    have h4 := List.all_eq_true.1 hst o (List.mem_of_getElem? ho)
    simp only [hd, ha, hlk ho hd] at h4
    split at h4
    · rename_i h5; rw [h5]; rfl
    · cases h4
  refine region_core3 hZ hzz hany hm htc hc hdep h1 hr ?_
  intro vs w x hf hD
  -- what became of each new block
  have hnew : ∀ p ∈ allocD pre, ∃ i b arr, dstOf pre.toArray i = some p.2 ∧ (pre[i]?).bind isAlloc = some p ∧ vs i = .pointer (some ⟨b, 0, none⟩) ∧ (fill vs pre 0 tmps).getD p.2 undef = .pointer (some ⟨b, 0, none⟩) ∧ w0.heap.size ≤ b ∧ b < w.heap.size ∧ w.heap[b]? = some (.cells arr p.1) ∧ arr.toList = ((look ZT p.1).getD []).map Z.val := by
    intro p hp
    obtain ⟨i, o, ho, ha⟩ := allocD_mem pre p hp
    obtain ⟨_, hd, _⟩ := isAlloc_at ha
    have hdi := (hdst' ho).trans hd
    have hbi : (pre[i]?).bind isAlloc = some p := by rw [ho]; exact ha
    obtain ⟨b, arr, zs, hv, hb, hlt, hh, hzs, harr⟩ := (hf i p.2 hdi).2.2 p.1 p.2 hbi
    exact ⟨i, b, arr, hdi, hbi, hv, by rw [fill_get vs (by rw [hr.size]; exact hc) hdi, hv], hb, hlt, hh, by rw [hzs]; exact harr⟩
  let γ' : Nat → Value := fun j => match idsM (allocD pre) j with | true => (fill vs pre 0 tmps).getD (j - 1000) undef | false => γ j
  have hγn : ∀ p ∈ allocD pre, γ' (p.2 + 1000) = (fill vs pre 0 tmps).getD p.2 undef := fun p hp => by
    show (match idsM (allocD pre) (p.2 + 1000) with | true => (fill vs pre 0 tmps).getD (p.2 + 1000 - 1000) undef | false => γ (p.2 + 1000)) = _
    rw [(idsM_iff _ _).2 ⟨p, hp, rfl⟩, Nat.add_sub_cancel]
  have hγo : ∀ j, idsM (allocD pre) j = false → γ' j = γ j := fun j hj => by
    show (match idsM (allocD pre) j with | true => (fill vs pre 0 tmps).getD (j - 1000) undef | false => γ j) = _
    rw [hj]
  have hst' : St S γ' w (boxesH ZT (allocD pre)) := by
    refine ⟨?_, ?_, ?_, ?_, ?_⟩
    · intro j r hj
      obtain ⟨p, hp, rfl, rfl⟩ := look_boxesH ZT _ j r hj
      obtain ⟨i, b, arr, _, _, _, hv, _, _, hh, ha⟩ := hnew p hp
      rw [hγn p hp, hv]
      exact ⟨b, arr, p.1, rfl, hh, by rw [ha]; exact zAV_holds _⟩
    · intro j1 j2 r1 r2 b hj1 hj2 hb1 hb2
      obtain ⟨p, hp, rfl, rfl⟩ := look_boxesH ZT _ j1 r1 hj1
      obtain ⟨q, hq, rfl, rfl⟩ := look_boxesH ZT _ j2 r2 hj2
      obtain ⟨i, b1, _, hi1, hi2, hv1, hv, _⟩ := hnew p hp
      obtain ⟨k, b2, _, hk1, hk2, hw1, hw, _⟩ := hnew q hq
      rw [hγn p hp, hv] at hb1
      rw [hγn q hq, hw] at hb2
      simp [rblk] at hb1 hb2
      subst hb1
      by_cases hik : i = k
      · subst hik
        rw [hi1] at hk1
        injection hk1 with hk1
        rw [hk1]
      · exact absurd (hD i k _ _ hik hi1 hk1) (fun h => h p q hi2 hk2 b1 hv1 (by rw [hw1, hb2]))
    · intro j r b hj hb hS
      obtain ⟨p, hp, rfl, rfl⟩ := look_boxesH ZT _ j r hj
      obtain ⟨i, b1, _, _, _, _, hv, hb0, _⟩ := hnew p hp
      rw [hγn p hp, hv] at hb
      simp [rblk] at hb
      subst hb
      have := hr.st.sz _ hS
      omega
    · intro b hS
      exact Nat.lt_of_lt_of_le (hr.st.sz b hS) x.size
    · intro j
      cases hj : idsM (allocD pre) j with
      | false => rw [hγo j hj]; exact hr.st.one j
      | true =>
        obtain ⟨p, hp, rfl⟩ := (idsM_iff _ _).1 hj
        obtain ⟨i, b1, _, _, _, _, hv, _⟩ := hnew p hp
        rw [hγn p hp, hv]; rfl
  have he := hr.eff (idsM (allocD pre)) (idsM (allocD pre)) (w' := w) (S' := S) (γ' := γ') (Hn := boxesH ZT (allocD pre)) (fun _ h => h) (Keep.of_ext x) (fun _ h => h) (fun _ h => .inl h) hst'
    (fun j r b hj hb => by
      obtain ⟨p, hp, rfl, rfl⟩ := look_boxesH ZT _ j r hj
      obtain ⟨i, b1, _, _, _, _, hv, hb0, _⟩ := hnew p hp
      rw [hγn p hp, hv] at hb
      simp [rblk] at hb
      subst hb
      exact .inl hb0)
    (fun j r hj => by
      obtain ⟨p, hp, rfl, rfl⟩ := look_boxesH ZT _ j r hj
      exact (idsM_iff _ _).2 ⟨p, hp, rfl⟩)
    hγo (fun j hj => by
      cases h : idsM (allocD pre) j with
      | false => rfl
      | true =>
        obtain ⟨p, hp, rfl⟩ := (idsM_iff _ _).1 h
        have := c.lt _ hj
        omega) hu
  refine h2 S γ' _ w ⟨he.st, ?_, he.up, he.own, he.ids, by rw [fill_size]; exact hr.size, he.keep⟩
  intro y av hl
  rcases look_boxesF _ _ y av hl with ⟨p, hp, rfl, rfl⟩ | ⟨hno, hl⟩
  · obtain ⟨i, b1, _, _, _, _, hv, _⟩ := hnew p hp
    rw [hv]
    simp only [AV.holds]
    exact ⟨b1, by rw [hγn p hp, hv]; rfl, rfl⟩
  · rw [look_markF] at hl
    cases hf0 : look (frAfter pre as fr) y with
    | none => rw [hf0] at hl; cases hl
    | some a0 =>
      rw [hf0] at hl
      simp only [Option.map_some, Option.some.injEq] at hl
      rcases frame_after hc h1 hr.size vs hf0 with ⟨h, e⟩ | ⟨i, hi', ha, e⟩
      · rw [e]
        refine he.fr y av ?_
        rw [look_markF, h]
        simp only [Option.map_some, hl]
      · rw [e]
        cases hus : a0.uses (fun j => !(idsM (allocD pre) j)) with
        | false => rw [hus] at hl; subst hl; simp [AV.holds]
        | true =>
          rw [hus] at hl
          subst hl
          have h3 := (hf i y hi').2.1
          rw [ha] at h3
          obtain ⟨oi, hoi, hod⟩ : ∃ o, pre[i]? = some o ∧ o.dst = some y := by
            unfold dstOf at hi'
            cases ho' : pre[i]? with
            | none => simp [ho'] at hi'
            | some o => exact ⟨o, rfl, by simpa [ho'] using hi'⟩
          have h4 := List.all_eq_true.1 hst oi (List.mem_of_getElem? hoi)
          cases hia : isAlloc oi with
          | some p =>
            have hp := mem_allocD pre i p (by rw [hoi]; exact hia)
            obtain ⟨_, hd, _⟩ := isAlloc_at hia
            rw [hod] at hd
            injection hd with hd
            exact absurd hd.symm (hno p hp)
          | none =>
            simp only [hod, hia, hf0] at h4
            exact AV.still_any (fun j => !(idsM (allocD pre) j)) (fun j hj => hγo j (by simpa using hj)) a0 _ h4 hus h3
end
end Go.Proofs.Ytjmcbacdogjdeaa
