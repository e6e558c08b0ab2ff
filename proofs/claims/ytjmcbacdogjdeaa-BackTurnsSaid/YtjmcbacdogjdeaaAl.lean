/- Regions whose last operations follow all others, over abstract frames. Nothing of the program stands here. -/
import Derived.Test.YtjmcbacdogjdeaaAk
import Derived.Test.YtjmcbacdogjdeaaTail
namespace Go.Proofs.Ytjmcbacdogjdeaa
open Go Go.RowKit
set_option linter.unusedVariables false
set_option linter.unusedSimpArgs false
set_option maxHeartbeats 2000000
section
variable {P : Program} {ops : Array Oper} {a0 : Act} {w0 : World} {F : Nat → Value → World → Prop} {Q : Exit → Act → World → Prop} {n m : Nat} {G : World → World → Prop}
theorem factsTail_any2 (hG : PreG G) (hc : tailOk ops m n = true) (hn : n = a0.tmps.size) (hmono : ∀ i v w w', F i v w → G w w' → F i v w') (hop : FactsOk2 G P (ops.extract 0 m) a0 w0 F 0 (ops.toList.take m))
    (hend : ∀ a w, TInv G ops m a0 w0 F (Array.ofFn fun i : Fin ops.size => decide (i.1 < m)) a w → wpList P ops Q (ops.toList.drop m) a w) :
    ∀ (fuel : Nat) (listed : Array Bool) (a : Act) (w : World), listed.size = ops.size → (listed.toList.countP (fun b => !b)) ≤ fuel → TInv G ops m a0 w0 F listed a w → wpAny P .any ops Q fuel listed a w := by
  obtain ⟨hall, hmlt, hclo⟩ := tail_parts hc
  have hsub : ∀ j, j < m → (ops.extract 0 m)[j]? = ops[j]? := fun j hj => by
    rw [Array.getElem?_extract, if_pos (by omega)]; simp
  have hdst : ∀ j d, dstOf (ops.extract 0 m) j = some d → j < m ∧ dstOf ops j = some d := by
    intro j d h
    by_cases hj : j < m
    · exact ⟨hj, by unfold dstOf at h ⊢; rw [← hsub j hj]; exact h⟩
    · unfold dstOf at h
      rw [Array.getElem?_extract, if_neg (by omega)] at h
      cases h
  have fin : ∀ (fuel : Nat) (listed : Array Bool) (a : Act) (w : World), listed.size = ops.size → (listed.toList.countP (fun b => !b)) ≤ fuel → TInv G ops m a0 w0 F listed a w → (∀ j, j < m → listed.getD j false = true) → wpAny P .any ops Q fuel listed a w := by
    intro fuel listed a w hs hf h hpre
    have hl : ∀ j, j < ops.size → listed.getD j false = decide (j < m) := by
      intro j hj
      by_cases hjm : j < m
      · rw [hpre j hjm]; simp [hjm]
      · rw [h.later j (by omega)]; simp [hjm]
    have hcount := count_listed hs (by omega) hl
    refine tail_any hc _ m fuel listed a w rfl hs hl (Nat.le_refl _) (by simp; omega) (hend a w ?_)
    have he : listed = Array.ofFn fun i : Fin ops.size => decide (i.1 < m) := by
      apply Array.ext
      · simpa using hs
      · intro k h1 h2
        have := hl k (by omega)
        simp only [Array.getD_eq_getD_getElem?, Array.getElem?_eq_getElem h1, Option.getD_some] at this
        simpa using this
    rw [← he]
    exact h
  intro fuel
  induction fuel with
  | zero =>
    intro listed a w hs hf h
    refine fin 0 listed a w hs hf h ?_
    intro j hj
    have h0 : listed.toList.countP (fun b => !b) = 0 := by omega
    rw [List.countP_eq_zero] at h0
    have hlt : j < listed.size := by omega
    have := h0 listed[j] (by simp)
    simp only [Array.getD_eq_getD_getElem?, Array.getElem?_eq_getElem hlt, Option.getD_some]
    simpa using this
  | succ fuel ih =>
    intro listed a w hs hf h
    by_cases hpre : ∀ j, j < m → listed.getD j false = true
    · exact fin _ listed a w hs hf h hpre
    · have hready : ∀ i ∈ Region.ready .any ops listed, i < m := by
        intro i hi
        obtain ⟨o, ho, hl, hneed⟩ := (ready_iff hs).1 hi
        by_cases him : i < m
        · exact him
        · exfalso
          by_cases hgt : m < i
          · have := hneed _ ((hall i o ho).2.2.2 hgt)
            rw [h.later (i - 1) (by omega)] at this
            cases this
          · have e : i = m := by omega
            subst e
            apply hpre
            intro j hj
            refine clo_listed h.closed i (needsAt ops i) ?_ j (hclo j hj)
            intro k hk
            unfold needsAt at hk
            rw [ho] at hk
            exact hneed k hk
      refine ⟨fun hr => ?_, ?_⟩
      · exfalso
        apply hpre
        intro j
        induction j using Nat.strongRecOn with
        | ind j ihj =>
          intro hj
          cases hl : listed.getD j false with
          | true => rfl
          | false =>
            exfalso
            have ho := Array.getElem?_eq_getElem (show j < ops.size by omega)
            have hm : j ∈ Region.ready .any ops listed := (ready_iff hs).2 ⟨ops[j], ho, hl, fun k hk => by
              have := (hall j _ ho).1 k hk
              exact ihj k this (by omega)⟩
            rw [hr] at hm
            cases hm
      · intro i hi
        have him := hready i hi
        obtain ⟨o, ho, hl, hneed⟩ := (ready_iff hs).1 hi
        have hlt : i < listed.size := by rw [hs]; exact (Array.getElem?_eq_some_iff.1 ho).1
        obtain ⟨_, hguard, hdd, _⟩ := hall i o ho
        obtain ⟨d, hd, hdn, huniq⟩ := hdd him
        have hdi : dstOf ops i = some d := by unfold dstOf; rw [ho]; exact hd
        have hcount : (listed.setIfInBounds i true).toList.countP (fun b => !b) ≤ fuel := by
          simp only [Array.getD_eq_getD_getElem?, Array.getElem?_eq_getElem hlt, Option.getD_some] at hl
          have hl' : listed.toList[i] = false := by simpa using hl
          have hlt' : i < listed.toList.length := by simpa using hlt
          have e1 : (listed.setIfInBounds i true).toList = listed.toList.set i true := by simp
          rw [e1]
          have := List.countP_set (p := fun b => !b) (l := listed.toList) (i := i) (a := true) hlt'
          have hpos : 0 < listed.toList.countP (fun b => !b) := List.countP_pos_iff.2 ⟨listed.toList[i], List.getElem_mem _, by rw [hl']; rfl⟩
          rw [this, hl']
          simp only [Bool.not_false, Bool.not_true, if_true, Bool.false_eq_true, if_false]
          omega
        have hk : Known (ops.extract 0 m) a0 F o a.eval w := by
          refine ⟨fun _ => rfl, fun _ => rfl, ?_, ?_⟩
          · intro t ht
            have := h.out t (by
              intro j hj he
              unfold outside at ht
              have hoj : ∃ o', ops[j]? = some o' ∧ o'.dst = some t := by
                unfold dstOf at he
                cases hx : ops[j]? with
                | none => simp [hx] at he
                | some o' => exact ⟨o', rfl, by simpa [hx] using he⟩
              obtain ⟨o', ho', hd'⟩ := hoj
              have := Array.all_eq_true'.1 ht o' (Array.mem_of_getElem? ((hsub j hj).trans ho'))
              simp [hd'] at this)
            simp only [Act.eval, Array.getD_eq_getD_getElem?, this]
          · intro j d' hj hd'
            obtain ⟨hjm, hd2⟩ := hdst j d' hd'
            exact h.facts j d' hjm (hneed j (by simpa using hj)) hd2
        have hop' := hop.get i o (by
          rw [List.getElem?_take, if_pos him]; simpa using ho)
        rw [Nat.zero_add] at hop'
        have hok := hop' a.eval w h.ext hk (fun _ => rfl)
        have next : ∀ (v : Value) (w' : World), G w w' → F i v w' → wpAny P .any ops Q fuel (listed.setIfInBounds i true) (a.put o.dst v) w' := fun v w' hx hv => by
          refine ih _ _ _ (by simpa using hs) hcount ?_
          have hput : a.put o.dst v = { a with tmps := a.tmps.setIfInBounds d v } := by rw [hd]; rfl
          rw [hput]
          have hset : ∀ j, (listed.setIfInBounds i true).getD j false = if j = i then true else listed.getD j false := by
            intro j
            simp only [Array.getD_eq_getD_getElem?, Array.getElem?_setIfInBounds]
            by_cases hji : i = j
            · subst hji; rw [if_pos rfl, if_pos hlt]; simp
            · rw [if_neg hji, if_neg (by omega)]
          refine ⟨hG.trans h.ext hx, by simpa using h.size, h.defers, ?_, ?_, ?_, ?_⟩
          · intro t ht
            have hne : d ≠ t := fun e => ht i him (by rw [← e]; exact hdi)
            simp only [Array.getElem?_setIfInBounds, if_neg hne]
            exact h.out t ht
          · intro j e hjm hj hje
            by_cases hij : j = i
            · subst hij
              rw [hdi] at hje
              injection hje with hje
              subst hje
              simp only [Array.getD_eq_getD_getElem?, Array.getElem?_setIfInBounds]
              rw [if_pos trivial, if_pos (by rw [h.size, ← hn]; exact hdn)]
              simpa using hv
            · have hed : d ≠ e := fun he => hij (huniq j hjm (by rw [he]; exact hje)).symm
              simp only [Array.getD_eq_getD_getElem?, Array.getElem?_setIfInBounds, if_neg hed]
              rw [hset, if_neg hij] at hj
              have := h.facts j e hjm hj hje
              simp only [Array.getD_eq_getD_getElem?] at this
              exact hmono _ _ _ _ this hx
          · intro j hj
            rw [hset, if_neg (by omega)]
            exact h.later j hj
          · intro j o' ho' hj k hk
            rw [hset]
            split
            · rfl
            · rw [hset] at hj
              by_cases hji : j = i
              · subst hji
                rw [ho] at ho'
                injection ho' with ho'
                subst ho'
                exact hneed k hk
              · rw [if_neg hji] at hj
                exact h.closed j o' ho' hj k hk
        unfold wpOp
        simp only [ho]
        have run : Outcome P (fun v w' => G w w' ∧ F i v w') ((execOp a.eval o).run P w) → o.wp P a w (wpAny P .any ops Q fuel (listed.setIfInBounds i true)) Q := fun hr =>
          Outcome.upon (hr.mono fun v w' ⟨hx, hv⟩ => next v w' hx hv)
        cases hg : o.guard with
        | none =>
          simp only [hg] at hok
          rw [if_pos (by simp [Region.wanted, hg])]
          exact .inl (run hok)
        | some jb =>
          obtain ⟨j, want⟩ := jb
          simp only [hg] at hok
          obtain ⟨d, hd, hyes, hno⟩ := hok
          have hd' : ((ops[j]?).bind (·.dst)) = some d := (hdst j d hd).2
          by_cases hb : a.eval (.tmp d) = .bool want
          · have hy : yielded ops a.tmps j = some want := by
              unfold yielded
              rw [hd']
              simp only [Act.eval, Array.getD_eq_getD_getElem?] at hb
              cases ht : a.tmps[d]? with
              | none => simp [ht, undef] at hb
              | some v =>
                simp only [ht, Option.getD_some] at hb
                subst hb
                simp [ht]
            rw [if_pos (by simp [Region.wanted, hg, hy])]
            exact .inl (run (hyes hb))
          · have hy : yielded ops a.tmps j ≠ some want := by
              unfold yielded
              rw [hd']
              intro he
              apply hb
              simp only [Act.eval, Array.getD_eq_getD_getElem?]
              cases ht : a.tmps[d]? with
              | none => simp [ht] at he
              | some v =>
                simp only [Option.getD_some]
                cases v <;> simp_all
            rw [if_neg (by simp [Region.wanted, hg, hy])]
            exact next _ _ (hG.refl w) (hno hb)

theorem wp_region_tail2 {id : Nat} {pre tail : List Oper} {tmps : Array Value} {defers : List Deferred} (hG : PreG G) (hm : P.follows .mixedOrders = true) (hc : tailOk (pre ++ tail).toArray pre.length tmps.size = true) (hmono : ∀ i v w w', F i v w → G w w' → F i v w')
    (hop : FactsOk2 G P pre.toArray ⟨tmps, defers⟩ w0 F 0 pre)
    (hend : ∀ (vs : Nat → Value) (w : World), G w0 w → (∀ i d, dstOf pre.toArray i = some d → F i (vs i) w) → wpList P (pre ++ tail).toArray Q tail ⟨fill vs pre 0 tmps, defers⟩ w) :
    (Code.region id (pre ++ tail).toArray true).wp P Q ⟨tmps, defers⟩ w0 := by
  obtain ⟨hall, hmlt, hclo⟩ := tail_parts hc
  have hpre : ∀ j, j < pre.length → (pre ++ tail).toArray[j]? = pre.toArray[j]? := fun j hj => by simp [List.getElem?_append_left hj]
  have hdp : ∀ j, j < pre.length → dstOf (pre ++ tail).toArray j = dstOf pre.toArray j := fun j hj => by unfold dstOf; rw [hpre j hj]
  refine wp_region_any hm ?_
  refine factsTail_any2 (w0 := w0) (a0 := ⟨tmps, defers⟩) (F := F) hG hc rfl hmono (by simpa using hop) ?_ _ _ _ _ (by simp) (by have := List.countP_le_length (p := fun b : Bool => !b) (l := List.replicate (pre ++ tail).toArray.size false); simpa using this) ?_
  · intro a w h
    have hd : (pre ++ tail).toArray.toList.drop pre.length = tail := by simp
    rw [hd]
    have hfacts : ∀ i d, dstOf pre.toArray i = some d → F i (a.tmps.getD d undef) w := fun i d hd => by
      have hlt : i < pre.length := by
        unfold dstOf at hd
        cases ho : pre.toArray[i]? with
        | none => simp [ho] at hd
        | some o => simpa using (Array.getElem?_eq_some_iff.1 ho).1
      refine h.facts i d hlt ?_ (by rw [hdp i hlt]; exact hd)
      simp only [List.size_toArray, List.length_append] at hmlt
      have h2 : i < (pre ++ tail).toArray.size := by simp; omega
      simp only [Array.getD_eq_getD_getElem?, Array.getElem?_ofFn]
      rw [dif_pos h2]
      simpa using hlt
    have hq := hend (fun i => match dstOf pre.toArray i with | some d => a.tmps.getD d undef | none => undef) w h.ext (fun i d hd => by simpa [hd] using hfacts i d hd)
    have ha : a = ⟨fill (fun i => match dstOf pre.toArray i with | some d => a.tmps.getD d undef | none => undef) pre 0 tmps, defers⟩ := by
      cases a with
      | mk t2 d2 =>
        have hdd := h.defers
        simp only at hdd
        subst hdd
        congr 1
        apply Array.ext'
        apply List.ext_getElem?
        intro t
        simp only [Array.getElem?_toList]
        by_cases hex : ∃ o ∈ pre, o.dst = some t
        · obtain ⟨o, ho, hdt⟩ := hex
          obtain ⟨i, hi, rfl⟩ := List.getElem_of_mem ho
          have hoi : (pre ++ tail).toArray[i]? = some pre[i] := by rw [hpre i hi]; simp [hi]
          have hdi : dstOf (pre ++ tail).toArray i = some t := by unfold dstOf; rw [hoi]; exact hdt
          obtain ⟨d', hd', hlt, huniq⟩ := (hall i _ hoi).2.2.1 hi
          have hte : t = d' := by
            have := hdt.symm.trans hd'
            injection this
          have hlt2 : t < tmps.size := by rw [hte]; exact hlt
          rw [fill_in _ pre 0 tmps i pre[i] t (by simp) hdt hlt2 (fun j o' hj hd2 => by
            have hjl : j < pre.length := (List.getElem?_eq_some_iff.1 hj).1
            refine (huniq j hjl ?_).symm
            rw [hdp j hjl]
            unfold dstOf
            rw [show pre.toArray[j]? = some o' from by simpa using hj, ← hte]
            exact hd2)]
          rw [Nat.zero_add, show dstOf pre.toArray i = some t from by rw [← hdp i hi]; exact hdi]
          have hsz := h.size
          simp only at hsz
          simp only [Array.getD_eq_getD_getElem?]
          rw [Array.getElem?_eq_getElem (show t < t2.size from by rw [hsz]; exact hlt2)]
          rfl
        · rw [fill_out]
          · refine h.out t (fun j hj he => hex ?_)
            rw [hdp j hj] at he
            unfold dstOf at he
            cases ho : pre.toArray[j]? with
            | none => simp [ho] at he
            | some o =>
              simp only [ho, Option.bind_some] at he
              exact ⟨o, by simpa using Array.mem_of_getElem? ho, he⟩
          · intro o ho hd2
            exact hex ⟨o, ho, hd2⟩
    rw [ha]
    exact hq
  · exact ⟨hG.drew _, rfl, rfl, fun _ _ => rfl, fun i d _ hi _ => by
      simp only [Array.getD_eq_getD_getElem?, Array.getElem?_replicate] at hi
      split at hi <;> simp at hi, fun j _ => by
      simp only [Array.getD_eq_getD_getElem?, Array.getElem?_replicate]
      split <;> rfl, fun j o _ hj => by
      simp only [Array.getD_eq_getD_getElem?, Array.getElem?_replicate] at hj
      split at hj <;> simp at hj⟩

end
section
variable {P : Program} {c : Ctx} {n : Nat} {Q : AQ} {fr : List (Nat × AV)} {H : List (Nat × Res)} {ops : Array Oper}
def RF (S : Nat → Prop) (γ : Nat → Value) (w0 : World) (as : List AV) (kx : Nat) (X : World → Value → World → Prop) : Nat → Value → World → Prop :=
  fun i v w => w0.heap.size ≤ w.heap.size ∧ ((as[i]?).getD .any).holds (FreshS S w0 w) γ w v ∧ (i = kx → X w0 v w)
theorem region_core {id : Nat} {pre tail : List Oper} {as : List AV} (kx : Nat) (X : World → Value → World → Prop) (hmX : ∀ {w0 v w w'}, X w0 v w → Ext w w' → X w0 v w')
    (hXop : ∀ o, pre[kx]? = some o → o.guard = none ∧ ∀ ρ w0 w, w0.heap.size ≤ w.heap.size → Outcome P (fun v w' => Ext w w' ∧ X w0 v w') ((execOp ρ o).run P w)) (hany : (as[kx]?).getD .any = .any)
    (hm : P.follows .mixedOrders = true) (htc : tailOk (pre ++ tail).toArray pre.length n = true) (hc : regOk pre.toArray n = true) (hdep : depsOk pre.toArray = true) (ev : Ev P pre.toArray H pre fr as)
    {S : Nat → Prop} {γ : Nat → Value} {tmps : Array Value} {w0 : World} (hr : Rel c n fr H S γ tmps w0) {Q : Exit → Act → World → Prop}
    (hend : ∀ (vs : Nat → Value) (w : World), Ext w0 w → (∀ i d, dstOf pre.toArray i = some d → RF S γ w0 as kx X i (vs i) w) → wpList P (pre ++ tail).toArray Q tail ⟨fill vs pre 0 tmps, []⟩ w) :
    (Code.region id (pre ++ tail).toArray true).wp P Q ⟨tmps, []⟩ w0 := by
  have hlen := ev.len
  subst_vars
  have hsz := hr.size
  have huniq : ∀ {i j : Nat} {d : Tmp}, dstOf pre.toArray i = some d → dstOf pre.toArray j = some d → i = j := fun hi hj => dst_unique hc hi hj
  have hdst : ∀ {i : Nat} {o : Oper}, pre[i]? = some o → dstOf pre.toArray i = o.dst := fun ho => by unfold dstOf; simp [ho]
  have hlook : ∀ (i : Nat) {j : Nat} {x : Tmp}, dstOf pre.toArray j = some x → j < i → look (frAfter (pre.take i) (as.take i) fr) x = as[j]? := by
    intro i j x hj hji
    have hjo : ∃ o, pre[j]? = some o ∧ o.dst = some x := by
      unfold dstOf at hj
      cases ho : pre[j]? with
      | none => simp [ho] at hj
      | some o => exact ⟨o, rfl, by simpa [ho] using hj⟩
    obtain ⟨o, ho, hd⟩ := hjo
    rw [frAfter_in (pre.take i) (as.take i) fr j o (by rw [List.getElem?_take, if_pos hji]; exact ho) hd ?_ (by simp [hlen])]
    · rw [List.getElem?_take, if_pos hji]
    · intro k o' hk hd'
      rw [List.getElem?_take] at hk
      split at hk
      · exact huniq ((hdst hk).trans hd') ((hdst ho).trans hd)
      · cases hk
  have hout : ∀ (i : Nat) {x : Tmp}, outside pre.toArray x = true → look (frAfter (pre.take i) (as.take i) fr) x = look fr x := by
    intro i x hx
    apply frAfter_out
    intro o ho he
    unfold outside at hx
    have := Array.all_eq_true'.1 hx o (by simpa using List.mem_of_mem_take ho)
    simp [he] at this
  have hsame : ∀ {w w' : World}, w0.heap.size ≤ w.heap.size → Ext w w' → Same (FreshS S w0 w) w w' := by
    intro w w' hle x b hb
    apply x.block
    rcases hb with hb | ⟨_, hb⟩
    · have := hr.st.sz b hb; omega
    · exact hb
  have hsub : ∀ {w w' : World}, Ext w w' → ∀ b, FreshS S w0 w b → FreshS S w0 w' b := by
    intro w w' x b hb
    rcases hb with hb | ⟨h1, h2⟩
    · exact .inl hb
    · exact .inr ⟨h1, Nat.lt_of_lt_of_le h2 x.size⟩
  refine wp_region_tail2 (F := RF S γ w0 as kx X) preExt hm (by rw [hsz]; exact htc) ?_ (factsOk2_of ?_) hend
  · rintro i v w w' ⟨hle, hh, hX⟩ x
    exact ⟨Nat.le_trans hle x.size, AV.ext (hsub x) (hsame hle x) hh, fun e => hmX (hX e) x⟩
  · intro i o ho ρ w hx hk hglob
    rw [Nat.zero_add]
    obtain ⟨a, ha, ⟨d, hd⟩, hoa⟩ := ev.get i o ho
    obtain ⟨_, hneeds, hguard⟩ := op_check hc (i := i) (o := o) (by simpa using ho)
    have hdo : (o.op.operands.toList.all fun | .tmp t => outside pre.toArray t || (needs o).any fun j => dstOf pre.toArray j == some t | _ => true) = true := by
      unfold depsOk at hdep
      rw [List.all_eq_true] at hdep
      have := hdep o (by simpa using List.mem_of_getElem? ho)
      simp only [Bool.and_eq_true] at this
      exact this.1
    have hF : ∀ {j : Nat} {x : Tmp} {av : AV}, (needs o).contains j = true → dstOf pre.toArray j = some x → look (frAfter (pre.take i) (as.take i) fr) x = some av → av.holds (FreshS S w0 w) γ w (ρ (.tmp x)) := by
      intro j x av hj hjd hl
      have hji := hneeds j (by simpa using hj)
      rw [hlook i hjd hji] at hl
      have := (hk.dep j x hj hjd).2.1
      rw [hl] at this
      exact this
    have henv : Env (frAfter (pre.take i) (as.take i) fr) H (fun x => x ∈ o.op.operands) ρ (FreshS S w0 w) γ w := by
      refine ⟨hr.st.ext hx, ?_, hk.const, hk.func, hglob⟩
      intro x av hu hl
      rw [List.all_eq_true] at hdo
      have := hdo (.tmp x) (by simpa using hu)
      simp only [Bool.or_eq_true] at this
      rcases this with ho' | ho'
      · rw [hk.out x ho']
        rw [hout i ho'] at hl
        exact AV.ext freshS_sub (same_of_ext hr.st.sz hx) (hr.fr x av hl)
      · rw [List.any_eq_true] at ho'
        obtain ⟨j, hj, hjd⟩ := ho'
        exact hF (by simpa using hj) (by simpa using hjd) hl
    by_cases hik : i = kx
    · obtain ⟨hgn, hrun⟩ := hXop o (by rw [← hik]; exact ho)
      simp only [hgn]
      refine (hrun ρ w0 w hx.size).mono ?_
      rintro v w' ⟨x, hXv⟩
      refine ⟨x, Nat.le_trans hx.size x.size, ?_, fun _ => hXv⟩
      rw [hik, hany]
      simp only [Option.getD_some, AV.holds]
    have run : ∀ a' : AV, SOp P o (frAfter (pre.take i) (as.take i) fr) H a' → (∀ v w', a'.holds (FreshS S w0 w') γ w' v → a.holds (FreshS S w0 w') γ w' v) → Outcome P (fun v w' => Ext w w' ∧ RF S γ w0 as kx X i v w') ((execOp ρ o).run P w) := by
      intro a' hs hi
      refine (hs _ γ w ρ henv).mono ?_
      rintro v w' ⟨x, hv⟩
      refine ⟨x, Nat.le_trans hx.size x.size, ?_, fun e => absurd e hik⟩
      rw [ha]
      refine hi v w' (AV.ext ?_ (fun _ _ => rfl) hv)
      rintro b (hb | ⟨h1, h2⟩)
      · exact hsub x b hb
      · exact .inr ⟨Nat.le_trans hx.size h1, h2⟩
    cases hoa with
    | plain hg hs =>
      simp only [hg]
      exact run _ hs (fun _ _ h => h)
    | @guard a j dj want b hg hdj hl hs =>
      simp only [hg]
      have hb := hF (hguard j want hg) hdj hl
      simp only [AV.holds] at hb
      refine ⟨dj, hdj, fun he => ?_, fun he => ?_⟩
      · have hbw : b = want := by rw [he] at hb; simpa using hb.symm
        refine run _ (hs hbw) fun v w' hv => ?_
        simp only [AV.holds]
        exact ⟨fun _ => hv, fun hn => absurd hbw hn⟩
      · refine ⟨hx.size, ?_, fun e => absurd e hik⟩
        rw [ha]
        simp only [Option.getD_some, AV.holds]
        refine ⟨fun hbw => absurd (by rw [hb, hbw]) he, fun _ => trivial⟩
    | @guardw a j dj want b p hg hdj hl hs =>
      simp only [hg]
      have hb := hF (hguard j want hg) hdj hl
      simp only [AV.holds] at hb
      refine ⟨dj, hdj, fun he => ?_, fun he => ?_⟩
      · have hbw : p ∧ b = want := by
          by_cases hp : p
          · have h1 := hb.1 hp
            rw [he] at h1
            exact ⟨hp, by simpa using h1.symm⟩
          · have h1 := hb.2 hp
            rw [he] at h1
            simp [undef] at h1
        refine run _ (hs hbw) fun v w' hv => ?_
        simp only [AV.holds]
        exact ⟨fun _ => hv, fun hn => absurd hbw hn⟩
      · refine ⟨hx.size, ?_, fun e => absurd e hik⟩
        rw [ha]
        simp only [Option.getD_some, AV.holds]
        refine ⟨fun hbw => absurd (by rw [hb.1 hbw.1, hbw.2]) he, fun _ => trivial⟩

theorem frame_after {pre : List Oper} {as : List AV} (hc : regOk pre.toArray n = true) (ev : Ev P pre.toArray H pre fr as) {tmps : Array Value} (hsz : tmps.size = n) (vs : Nat → Value) {y : Nat} {av : AV} (hl : look (frAfter pre as fr) y = some av) :
    (look fr y = some av ∧ (fill vs pre 0 tmps).getD y undef = tmps.getD y undef) ∨ ∃ i, dstOf pre.toArray i = some y ∧ as[i]? = some av ∧ (fill vs pre 0 tmps).getD y undef = vs i := by
  have hlen := ev.len
  have hdst : ∀ {i : Nat} {o : Oper}, pre[i]? = some o → dstOf pre.toArray i = o.dst := fun ho => by unfold dstOf; simp [ho]
  by_cases hex : ∃ o ∈ pre, o.dst = some y
  · right
    obtain ⟨o, hmem, hd⟩ := hex
    obtain ⟨i, hi⟩ := List.getElem?_of_mem hmem
    have hdi := (hdst hi).trans hd
    rw [frAfter_in pre as fr i o hi hd (fun k o' hk hd' => dst_unique hc ((hdst hk).trans hd') hdi) hlen] at hl
    exact ⟨i, hdi, hl, fill_get vs (by rw [hsz]; exact hc) hdi⟩
  · left
    have hno : ∀ o ∈ pre, o.dst ≠ some y := fun o ho e => hex ⟨o, ho, e⟩
    rw [frAfter_out pre as fr hno] at hl
    refine ⟨hl, ?_⟩
    have hfo := fill_out vs pre 0 tmps y hno
    simp only [Array.getD_eq_getD_getElem?, hfo]
def splitT : List Oper → List Oper × List Oper
  | [] => ([], [])
  | o :: r => match o.dst with
    | none => ([], o :: r)
    | some _ => match splitT r with | (a, b) => (o :: a, b)
theorem splitT_app : ∀ (l : List Oper), (splitT l).1 ++ (splitT l).2 = l
  | [] => rfl
  | o :: r => by
    have ih := splitT_app r
    unfold splitT
    split
    · rfl
    · simp only [List.cons_append, ih]
theorem a_region_tail {id : Nat} {l pre tail : List Oper} {o1 : Oper} (hsp : splitT l = (pre, o1 :: tail)) (hm : P.follows .mixedOrders = true) (htc : tailOk l.toArray pre.length n = true) (hc : regOk pre.toArray n = true) (hdep : depsOk pre.toArray = true)
    (ev : EvK P pre.toArray H (fun fr' => AOps P c n l.toArray (o1 :: tail) Q fr' H) pre fr) : ACode P c n (.region id l.toArray true) Q fr H := fun S γ tmps w0 hr => by
  obtain ⟨as, h1, h2⟩ := ev.ev
  have e : pre ++ (o1 :: tail) = l := by have := splitT_app l; rw [hsp] at this; exact this
  subst e
  refine region_core pre.length (fun _ _ _ => True) (fun _ _ => trivial) (fun o ho => by simp at ho) (by rw [List.getElem?_eq_none (by rw [h1.len]; omega)]; rfl) hm htc hc hdep h1 hr ?_
  intro vs w x hf
  have hrx := hr.ext x
  refine h2 (FreshS S w0 w) γ _ w ⟨hrx.st, ?_, hrx.up, hrx.own, hrx.ids, by rw [fill_size]; exact hr.size, hrx.keep⟩
  intro y av hl
  rcases frame_after hc h1 hr.size vs hl with ⟨h, e⟩ | ⟨i, hi, ha, e⟩
  · rw [e]; exact hrx.fr y av h
  · rw [e]
    have := (hf i y hi).2.1
    rw [ha] at this
    exact this
mutual
/-- nothing read from memory that is not named -/
def AV.still : AV → Bool
  | .snap _ => false
  | .agg cs => AV.stillL cs
  | .tup cs => AV.stillL cs
  | .fn _ cs => AV.stillL cs
  | .when _ a => AV.still a
  | _ => true
def AV.stillL : List AV → Bool
  | [] => true
  | c :: cs => AV.still c && AV.stillL cs
end
mutual
theorem AV.still_any {S S' : Nat → Prop} {γ γ' : Nat → Value} {w w' : World} (p : Nat → Bool) (hg : ∀ j, p j = true → γ' j = γ j) : ∀ (a : AV) (v : Value), a.still = true → a.uses p = true → a.holds S γ w v → a.holds S' γ' w' v
  | .any, v, _, _, _ => by simp [AV.holds]
  | .lit u, v, _, _, h => by simpa [AV.holds] using h
  | .snap F, v, hf, _, h => by simp [AV.still] at hf
  | .own j, v, _, hu, h => by
    simp only [AV.holds, AV.uses] at h hu ⊢
    rw [hg j hu]; exact h
  | .ptr j off, v, _, hu, h => by
    simp only [AV.holds, AV.uses] at h hu ⊢
    rw [hg j hu]; exact h
  | .fn f cs, v, hf, hu, h => by
    simp only [AV.holds, AV.still, AV.uses] at h hf hu ⊢
    obtain ⟨vs, rfl, h⟩ := h
    exact ⟨vs, rfl, AV.still_anyL p hg cs vs hf hu h⟩
  | .agg cs, v, hf, hu, h => by
    simp only [AV.holds, AV.still, AV.uses] at h hf hu ⊢
    obtain ⟨vs, rfl, h⟩ := h
    exact ⟨vs, rfl, AV.still_anyL p hg cs vs hf hu h⟩
  | .tup cs, v, hf, hu, h => by
    simp only [AV.holds, AV.still, AV.uses] at h hf hu ⊢
    obtain ⟨vs, rfl, h⟩ := h
    exact ⟨vs, rfl, AV.still_anyL p hg cs vs hf hu h⟩
  | .when q a, v, hf, hu, h => by
    simp only [AV.holds, AV.still, AV.uses] at h hf hu ⊢
    exact ⟨fun hq => AV.still_any p hg a v hf hu (h.1 hq), h.2⟩
theorem AV.still_anyL {S S' : Nat → Prop} {γ γ' : Nat → Value} {w w' : World} (p : Nat → Bool) (hg : ∀ j, p j = true → γ' j = γ j) : ∀ (cs : List AV) (vs : List Value), AV.stillL cs = true → AV.usesL p cs = true → AV.holdsL S γ w cs vs → AV.holdsL S' γ' w' cs vs
  | [], vs, _, _, h => by simpa [AV.holdsL] using h
  | c :: cs, vs, hf, hu, h => by
    simp only [AV.holdsL, AV.stillL, AV.usesL, Bool.and_eq_true] at h hf hu ⊢
    obtain ⟨v, vs', rfl, h1, h2⟩ := h
    exact ⟨v, vs', rfl, AV.still_any p hg c v hf.1 hu.1 h1, AV.still_anyL p hg cs vs' hf.2 hu.2 h2⟩
end
theorem sop_alloc_any {o : Oper} {ZT : List (Nat × List Z)} {t : TypeId} {zs : List Z} (ho : o.op = .alloc t := by rfl) (hZ : ZOk P ZT := by assumption) (hz : look ZT t = some zs := by rfl) : SOp P o fr H .any := fun S γ w ρ env => by
  obtain ⟨i, z, hi, hiz, hzc⟩ := hZ.zero hz
  refine outc (v := .pointer (some ⟨w.heap.size, 0, none⟩)) (w' := w.alloc (.cells z.cells t)) ?_ ?_
  · simp [execOp, ho, Instr.alloc, zeroValue, typeInfo, hi, hiz, newVar, newRow]
  · exact ⟨Ext.alloc w _, by simp [AV.holds]⟩
def isAlloc (o : Oper) : Option (TypeId × Nat) := match o.op, o.dst, o.guard with
  | .alloc t, some d, none => some (t, d)
  | _, _, _ => none
def allocOf : Nat → List Oper → Option (Nat × TypeId × Nat)
  | _, [] => none
  | i, o :: r => match isAlloc o with
    | some (t, d) => some (i, t, d)
    | none => allocOf (i + 1) r
theorem allocOf_at : ∀ (l : List Oper) (i k : Nat) (t : TypeId) (d : Nat), allocOf i l = some (k, t, d) → ∃ o, i ≤ k ∧ l[k - i]? = some o ∧ o.op = .alloc t ∧ o.dst = some d ∧ o.guard = none
  | [], i, k, t, d, h => by simp [allocOf] at h
  | o :: r, i, k, t, d, h => by
    unfold allocOf at h
    cases ha : isAlloc o with
    | some p =>
      rw [ha] at h
      simp only [Option.some.injEq, Prod.mk.injEq] at h
      obtain ⟨rfl, h1, h2⟩ := h
      refine ⟨o, Nat.le_refl _, by simp, ?_⟩
      unfold isAlloc at ha
      split at ha
      · rename_i t' d' h3 h4 h5
        simp only [Option.some.injEq] at ha
        subst ha
        simp only at h1 h2
        subst h1 h2
        exact ⟨h3, h4, h5⟩
      · cases ha
    | none =>
      rw [ha] at h
      obtain ⟨o', h1, h2, h3⟩ := allocOf_at r (i + 1) k t d h
      refine ⟨o', by omega, ?_, h3⟩
      rw [show k - i = (k - (i + 1)) + 1 from by omega]
      simpa using h2
theorem look_markF (M : Nat → Bool) : ∀ (fr : List (Nat × AV)) (x : Nat), look (markF M fr) x = (look fr x).map fun a => match a.uses (fun j => !(M j)) with | true => a | false => .any
  | [], x => rfl
  | (k, b) :: fr, x => by
    have ih := look_markF M fr x
    unfold markF at ih ⊢
    simp only [List.map_cons]
    rw [look_cons, look_cons]
    split
    · rfl
    · exact ih
def stillsAt (d : Nat) (pre : List Oper) (fr : List (Nat × AV)) : Bool := pre.all fun o => match o.dst with
  | some x => Nat.beq x d || (match look fr x with | some a => a.still | none => false)
  | none => false
theorem tailA_k {A B C : Prop} (h1 : A) (h2 : B) (h3 : C) : A ∧ B ∧ C := ⟨h1, h2, h3⟩
theorem a_region_tailA {id : Nat} {l pre tail : List Oper} {o1 : Oper} {k d : Nat} {t : TypeId} {ZT : List (Nat × List Z)} {zs : List Z} (hsp : splitT l = (pre, o1 :: tail)) (hal : allocOf 0 pre = some (k, t, d)) (hm : P.follows .mixedOrders = true) (htc : tailOk l.toArray pre.length n = true) (hc : regOk pre.toArray n = true) (hdep : depsOk pre.toArray = true)
    (hZ : ZOk P ZT) (hz : look ZT t = some zs) (hn : Nat.blt d n = true) (hu : usesH (one1 (d + 1000)) (dropH (one1 (d + 1000)) H) = true)
    (ev : EvK P pre.toArray H (fun fr' => look fr' d = some .any ∧ stillsAt d pre fr' = true ∧ AOps P c n l.toArray (o1 :: tail) Q ((d, .ptr (d + 1000) 0) :: markF (one1 (d + 1000)) fr') ((d + 1000, .box (zAV zs)) :: dropH (one1 (d + 1000)) H)) pre fr) : ACode P c n (.region id l.toArray true) Q fr H := fun S γ tmps w0 hr => by
  obtain ⟨as, h1, hda, hst, h2⟩ := ev.ev
  have e : pre ++ (o1 :: tail) = l := by have := splitT_app l; rw [hsp] at this; exact this
  subst e
  obtain ⟨ok, _, hok, hop, hdst, hg⟩ := allocOf_at pre 0 k t d hal
  rw [Nat.sub_zero] at hok
  have hlen := h1.len
  have hkl := (List.getElem?_eq_some_iff.1 hok).1
  have hdst' : ∀ {i : Nat} {o : Oper}, pre[i]? = some o → dstOf pre.toArray i = o.dst := fun ho => by unfold dstOf; simp [ho]
  have hlk : ∀ {i : Nat} {o : Oper} {x : Nat}, pre[i]? = some o → o.dst = some x → look (frAfter pre as fr) x = as[i]? := fun {i o x} hi hd =>
    frAfter_in pre as fr i o hi hd (fun k o' hk hd' => dst_unique hc ((hdst' hk).trans hd') ((hdst' hi).trans hd)) hlen
  have hak : as[k]? = some .any := by rw [← hlk hok hdst]; exact hda
  obtain ⟨zi, z, hi, hiz, hzc⟩ := hZ.zero hz
  refine region_core k (fun w0 v w => ∃ b arr, v = .pointer (some ⟨b, 0, none⟩) ∧ w0.heap.size ≤ b ∧ b < w.heap.size ∧ w.heap[b]? = some (.cells arr t) ∧ arr.toList = zs.map Z.val) ?_ ?_ (by rw [hak]; rfl) hm htc hc hdep h1 hr ?_
  · rintro w0 v w w' ⟨b, arr, rfl, hb, hlt, hh, ha⟩ x
    exact ⟨b, arr, rfl, hb, Nat.lt_of_lt_of_le hlt x.size, (x.block b hlt).trans hh, ha⟩
  · intro o ho
    rw [hok] at ho
    injection ho with ho
    subst ho
    refine ⟨hg, fun ρ w0 w hle => ?_⟩
    refine outc (v := .pointer (some ⟨w.heap.size, 0, none⟩)) (w' := w.alloc (.cells z.cells t)) ?_ ?_
    · simp [execOp, hop, Instr.alloc, zeroValue, typeInfo, hi, hiz, newVar, newRow]
    · have hnew := heap_alloc_new w (.cells z.cells t)
      exact ⟨Ext.alloc w _, w.heap.size, z.cells, rfl, hle, (Array.getElem?_eq_some_iff.1 hnew).1, hnew, hzc⟩
  · intro vs w x hf
    obtain ⟨b, arr, hv, hb, hlt, hh, harr⟩ := (hf k d ((hdst' hok).trans hdst)).2.2 rfl
    have he := hr.eff1 (d + 1000) (w' := w) (r := .box (zAV zs)) (v := .pointer (some ⟨b, 0, none⟩)) (Keep.of_ext x) ⟨b, arr, t, rfl, hh, by rw [harr]; exact zAV_holds zs⟩ rfl
      (fun b' hb' => by simp [rblk] at hb'; subst hb'; exact .inl hb) (Nat.ble_eq_true_of_le (by omega)) hu
    refine h2 S (upd γ (d + 1000) (.pointer (some ⟨b, 0, none⟩))) _ w ⟨he.st, ?_, he.up, he.own, he.ids, by rw [fill_size]; exact hr.size, he.keep⟩
    intro y av hl
    rw [look_cons] at hl
    by_cases hyd : d = y
    · subst hyd
      rw [if_pos rfl] at hl
      injection hl with hl
      subst hl
      rw [fill_get vs (by rw [hr.size]; exact hc) ((hdst' hok).trans hdst), hv]
      exact ptr_new
    · rw [if_neg hyd, look_markF] at hl
      cases hf0 : look (frAfter pre as fr) y with
      | none => rw [hf0] at hl; cases hl
      | some a0 =>
        rw [hf0] at hl
        simp only [Option.map_some, Option.some.injEq] at hl
        rcases frame_after hc h1 hr.size vs hf0 with ⟨h, e⟩ | ⟨i, hi', ha, e⟩
        · rw [e]
          refine he.fr y av ?_
          rw [look_markF, h]
          simp only [Option.map_some, hl]
        · rw [e]
          cases hus : a0.uses (fun j => !(one1 (d + 1000) j)) with
          | false => rw [hus] at hl; subst hl; simp [AV.holds]
          | true =>
            rw [hus] at hl
            subst hl
            have h3 := (hf i y hi').2.1
            rw [ha] at h3
            obtain ⟨oi, hoi, hod⟩ : ∃ o, pre[i]? = some o ∧ o.dst = some y := by
              unfold dstOf at hi'
              cases ho' : pre[i]? with
              | none => simp [ho'] at hi'
              | some o => exact ⟨o, rfl, by simpa [ho'] using hi'⟩
            have h4 := List.all_eq_true.1 hst oi (List.mem_of_getElem? hoi)
            simp only [hod, hf0, Bool.or_eq_true] at h4
            rcases h4 with h4 | h4
            · exact absurd (Nat.eq_of_beq_eq_true h4).symm hyd
            · refine AV.still_any (fun j => !(one1 (d + 1000) j)) (fun j hj => upd_other ?_) a0 _ h4 hus h3
              rintro rfl
              rw [one1_iff.2 rfl] at hj; cases hj
end
end Go.Proofs.Ytjmcbacdogjdeaa
