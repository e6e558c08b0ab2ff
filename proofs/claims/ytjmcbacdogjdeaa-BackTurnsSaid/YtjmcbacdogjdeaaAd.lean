/- Regions that draw their order, over abstract frames. Nothing of the program stands here. -/
import Derived.Test.YtjmcbacdogjdeaaAc
namespace Go.Proofs.Ytjmcbacdogjdeaa
open Go Go.RowKit
set_option linter.unusedVariables false
section
variable {P : Program} {c : Ctx} {n : Nat} {Q : AQ} {fr : List (Nat × AV)} {H : List (Nat × Res)} {ops : Array Oper}
theorem Ev.len {l : List Oper} {as : List AV} (h : Ev P ops H l fr as) : as.length = l.length := by
  induction h with
  | nil => rfl
  | cons _ _ _ ih => simp [ih]
theorem Ev.get {l : List Oper} {as : List AV} (h : Ev P ops H l fr as) : ∀ (i : Nat) (o : Oper), l[i]? = some o → ∃ a, as[i]? = some a ∧ (∃ d, o.dst = some d) ∧ OpAv P ops (frAfter (l.take i) (as.take i) fr) H o a := by
  induction h with
  | nil => intro i o h; simp at h
  | @cons fr o rest d a as hd ha _ ih =>
    intro i o' ho'
    cases i with
    | zero =>
      simp at ho'; subst ho'
      exact ⟨a, rfl, ⟨d, hd⟩, by simpa [frAfter] using ha⟩
    | succ i =>
      obtain ⟨a', h1, h2, h3⟩ := ih i o' (by simpa using ho')
      refine ⟨a', by simpa using h1, h2, ?_⟩
      simpa [frAfter, hd] using h3
theorem frAfter_out {x : Nat} : ∀ (l : List Oper) (as : List AV) (fr : List (Nat × AV)), (∀ o ∈ l, o.dst ≠ some x) → look (frAfter l as fr) x = look fr x
  | [], as, fr, _ => by cases as <;> rfl
  | o :: l, [], fr, _ => rfl
  | o :: l, a :: as, fr, h => by
    have h0 := h o List.mem_cons_self
    have ht := fun o' ho' => h o' (List.mem_cons_of_mem _ ho')
    cases hd : o.dst with
    | none =>
      simp only [frAfter, hd]
      exact frAfter_out l as fr ht
    | some d =>
      simp only [frAfter, hd]
      rw [frAfter_out l as _ ht, look_cons, if_neg (fun e => h0 (by rw [hd, e]))]
theorem frAfter_in {x : Nat} : ∀ (l : List Oper) (as : List AV) (fr : List (Nat × AV)) (j : Nat) (o : Oper), l[j]? = some o → o.dst = some x → (∀ i o', l[i]? = some o' → o'.dst = some x → i = j) → as.length = l.length → look (frAfter l as fr) x = as[j]?
  | [], as, fr, j, o, h, _, _, _ => by simp at h
  | o0 :: l, [], fr, j, o, _, _, _, hl => by simp at hl
  | o0 :: l, a :: as, fr, 0, o, h, hd, hu, hl => by
    simp at h; subst h
    simp only [frAfter, hd]
    rw [frAfter_out]
    · simp [look_cons]
    · intro o' ho' he
      obtain ⟨k, hk⟩ := List.getElem?_of_mem ho'
      have := hu (k + 1) o' (by simpa using hk) he
      omega
  | o0 :: l, a :: as, fr, j + 1, o, h, hd, hu, hl => by
    have ih := fun fr => frAfter_in l as fr j o (by simpa using h) hd (fun i o' hi ho' => by
      have := hu (i + 1) o' (by simpa using hi) ho'
      omega) (by simpa using hl)
    cases hd0 : o0.dst with
    | none => simp only [frAfter, hd0]; rw [ih]; simp
    | some d => simp only [frAfter, hd0]; rw [ih]; simp

theorem a_region_ev {id : Nat} {l : List Oper} {as : List AV} (hm : P.follows .mixedOrders = true) (hc : regOk l.toArray n = true) (hdep : depsOk l.toArray = true) (ev : Ev P l.toArray H l fr as) (h : Q .normal (frAfter l as fr) H) :
    ACode P c n (.region id l.toArray true) Q fr H := fun S γ tmps w0 hr => by
  have hlen := ev.len
  subst_vars
  have hsz := hr.size
  have huniq : ∀ {i j : Nat} {d : Tmp}, dstOf l.toArray i = some d → dstOf l.toArray j = some d → i = j := fun hi hj => dst_unique hc hi hj
  have hdst : ∀ {i : Nat} {o : Oper}, l[i]? = some o → dstOf l.toArray i = o.dst := fun ho => by unfold dstOf; simp [ho]
  have hlook : ∀ (i : Nat) {j : Nat} {x : Tmp}, dstOf l.toArray j = some x → j < i → look (frAfter (l.take i) (as.take i) fr) x = as[j]? := by
    intro i j x hj hji
    have hjo : ∃ o, l[j]? = some o ∧ o.dst = some x := by
      unfold dstOf at hj
      cases ho : l[j]? with
      | none => simp [ho] at hj
      | some o => exact ⟨o, rfl, by simpa [ho] using hj⟩
    obtain ⟨o, ho, hd⟩ := hjo
    rw [frAfter_in (l.take i) (as.take i) fr j o (by rw [List.getElem?_take, if_pos hji]; exact ho) hd ?_ (by simp [hlen])]
    · rw [List.getElem?_take, if_pos hji]
    · intro k o' hk hd'
      rw [List.getElem?_take] at hk
      split at hk
      · exact huniq ((hdst hk).trans hd') ((hdst ho).trans hd)
      · cases hk
  have hout : ∀ (i : Nat) {x : Tmp}, outside l.toArray x = true → look (frAfter (l.take i) (as.take i) fr) x = look fr x := by
    intro i x hx
    apply frAfter_out
    intro o ho he
    unfold outside at hx
    have := Array.all_eq_true'.1 hx o (by simpa using List.mem_of_mem_take ho)
    simp [he] at this
  let F : Nat → Value → World → Prop := fun i v w => w0.heap.size ≤ w.heap.size ∧ ((as[i]?).getD .any).holds (FreshS S w0 w) γ w v
  have hsame : ∀ {w w' : World}, w0.heap.size ≤ w.heap.size → Ext w w' → Same (FreshS S w0 w) w w' := by
    intro w w' hle x b hb
    apply x.block
    rcases hb with hb | ⟨_, hb⟩
    · have := hr.st.sz b hb; omega
    · exact hb
  have hsub : ∀ {w w' : World}, Ext w w' → ∀ b, FreshS S w0 w b → FreshS S w0 w' b := by
    intro w w' x b hb
    rcases hb with hb | ⟨h1, h2⟩
    · exact .inl hb
    · exact .inr ⟨h1, Nat.lt_of_lt_of_le h2 x.size⟩
  refine wp_region_lit_facts2 (F := F) preExt hm (by rw [hsz]; exact hc) ?_ (factsOk2_of ?_) ?_
  · rintro i v w w' ⟨hle, hh⟩ x
    exact ⟨Nat.le_trans hle x.size, AV.ext (hsub x) (hsame hle x) hh⟩
  · intro i o ho ρ w hx hk hglob
    rw [Nat.zero_add]
    obtain ⟨a, ha, ⟨d, hd⟩, hoa⟩ := ev.get i o ho
    obtain ⟨_, hneeds, hguard⟩ := op_check hc (i := i) (o := o) (by simpa using ho)
    have hdo : (o.op.operands.toList.all fun | .tmp t => outside l.toArray t || (needs o).any fun j => dstOf l.toArray j == some t | _ => true) = true := by
      unfold depsOk at hdep
      rw [List.all_eq_true] at hdep
      have := hdep o (by simpa using List.mem_of_getElem? ho)
      simp only [Bool.and_eq_true] at this
      exact this.1
    have hF : ∀ {j : Nat} {x : Tmp} {av : AV}, (needs o).contains j = true → dstOf l.toArray j = some x → look (frAfter (l.take i) (as.take i) fr) x = some av → av.holds (FreshS S w0 w) γ w (ρ (.tmp x)) := by
      intro j x av hj hjd hl
      have hji := hneeds j (by simpa using hj)
      rw [hlook i hjd hji] at hl
      have := (hk.dep j x hj hjd).2
      rw [hl] at this
      exact this
    have henv : Env (frAfter (l.take i) (as.take i) fr) H (fun x => x ∈ o.op.operands) ρ (FreshS S w0 w) γ w := by
      refine ⟨hr.st.ext hx, ?_, hk.const, hk.func, hglob⟩
      intro x av hu hl
      rw [List.all_eq_true] at hdo
      have := hdo (.tmp x) (by simpa using hu)
      simp only [Bool.or_eq_true] at this
      rcases this with ho' | ho'
      · rw [hk.out x ho']
        rw [hout i ho'] at hl
        exact AV.ext freshS_sub (same_of_ext hr.st.sz hx) (hr.fr x av hl)
      · rw [List.any_eq_true] at ho'
        obtain ⟨j, hj, hjd⟩ := ho'
        exact hF (by simpa using hj) (by simpa using hjd) hl
    have run : ∀ a' : AV, SOp P o (frAfter (l.take i) (as.take i) fr) H a' → (∀ v w', a'.holds (FreshS S w0 w') γ w' v → a.holds (FreshS S w0 w') γ w' v) → Outcome P (fun v w' => Ext w w' ∧ F i v w') ((execOp ρ o).run P w) := by
      intro a' hs hi
      refine (hs _ γ w ρ henv).mono ?_
      rintro v w' ⟨x, hv⟩
      refine ⟨x, Nat.le_trans hx.size x.size, ?_⟩
      rw [ha]
      refine hi v w' (AV.ext ?_ (fun _ _ => rfl) hv)
      rintro b (hb | ⟨h1, h2⟩)
      · exact hsub x b hb
      · exact .inr ⟨Nat.le_trans hx.size h1, h2⟩
    cases hoa with
    | plain hg hs =>
      simp only [hg]
      exact run _ hs (fun _ _ h => h)
    | @guard a j dj want b hg hdj hl hs =>
      simp only [hg]
      have hb := hF (hguard j want hg) hdj hl
      simp only [AV.holds] at hb
      refine ⟨dj, hdj, fun he => ?_, fun he => ?_⟩
      · have hbw : b = want := by rw [he] at hb; simpa using hb.symm
        refine run _ (hs hbw) fun v w' hv => ?_
        simp only [AV.holds]
        exact ⟨fun _ => hv, fun hn => absurd hbw hn⟩
      · refine ⟨hx.size, ?_⟩
        rw [ha]
        simp only [Option.getD_some, AV.holds]
        refine ⟨fun hbw => absurd (by rw [hb, hbw]) he, fun _ => trivial⟩
    | @guardw a j dj want b p hg hdj hl hs =>
      simp only [hg]
      have hb := hF (hguard j want hg) hdj hl
      simp only [AV.holds] at hb
      refine ⟨dj, hdj, fun he => ?_, fun he => ?_⟩
      · have hbw : p ∧ b = want := by
          by_cases hp : p
          · have h1 := hb.1 hp
            rw [he] at h1
            exact ⟨hp, by simpa using h1.symm⟩
          · have h1 := hb.2 hp
            rw [he] at h1
            simp [undef] at h1
        refine run _ (hs hbw) fun v w' hv => ?_
        simp only [AV.holds]
        exact ⟨fun _ => hv, fun hn => absurd hbw hn⟩
      · refine ⟨hx.size, ?_⟩
        rw [ha]
        simp only [Option.getD_some, AV.holds]
        refine ⟨fun hbw => absurd (by rw [hb.1 hbw.1, hbw.2]) he, fun _ => trivial⟩
  · intro vs w x hf
    have hrx := hr.ext x
    refine ⟨frAfter l as fr, H, FreshS S w0 w, γ, h, ⟨hrx.st, ?_, hrx.up, hrx.own, hrx.ids, ?_, hrx.keep⟩, rfl⟩
    · intro y av hl
      by_cases ho : outside l.toArray y = true
      · have := hout l.length ho
        rw [List.take_length, List.take_of_length_le (by omega)] at this
        rw [this] at hl
        have hfo := fill_out vs l 0 tmps y (by
          intro o hmem he
          unfold outside at ho
          have := Array.all_eq_true'.1 ho o (by simpa using hmem)
          simp [he] at this)
        simp only [Array.getD_eq_getD_getElem?, hfo]
        have := hrx.fr y av hl
        simpa only [Array.getD_eq_getD_getElem?] using this
      · have hex : ∃ i, dstOf l.toArray i = some y := by
          unfold outside at ho
          rw [Array.all_eq_true'] at ho
          simp only [List.mem_toArray, bne_iff_ne, ne_eq, Classical.not_forall, Decidable.not_not] at ho
          obtain ⟨o, hmem, hd⟩ := ho
          obtain ⟨i, hi⟩ := List.getElem?_of_mem hmem
          exact ⟨i, (hdst hi).trans hd⟩
        obtain ⟨i, hi⟩ := hex
        have hil : i < l.length := by
          unfold dstOf at hi
          cases ho' : l[i]? with
          | none => simp [ho'] at hi
          | some o => exact (List.getElem?_eq_some_iff.1 ho').1
        have := hlook l.length hi hil
        rw [List.take_length, List.take_of_length_le (by omega)] at this
        rw [this] at hl
        rw [fill_get vs (by rw [hsz]; exact hc) hi]
        have hfi := (hf i y hi).2
        rw [hl] at hfi
        exact hfi
    · rw [fill_size]; exact hsz
/-- the same, going on with what is known behind the region -/
inductive EvK (P : Program) (ops : Array Oper) (H : List (Nat × Res)) (K : List (Nat × AV) → Prop) : List Oper → List (Nat × AV) → Prop
  | nil {fr : List (Nat × AV)} (h : K fr) : EvK P ops H K [] fr
  | cons {fr : List (Nat × AV)} {o : Oper} {rest : List Oper} {d : Nat} {a : AV} (hd : o.dst = some d) (h : OpAv P ops fr H o a) (next : EvK P ops H K rest ((d, a) :: fr)) : EvK P ops H K (o :: rest) fr
theorem EvK.ev {K : List (Nat × AV) → Prop} {l : List Oper} (h : EvK P ops H K l fr) : ∃ as, Ev P ops H l fr as ∧ K (frAfter l as fr) := by
  induction h with
  | nil h => exact ⟨[], .nil, h⟩
  | @cons fr o rest d a hd ha _ ih =>
    obtain ⟨as, h1, h2⟩ := ih
    exact ⟨a :: as, .cons hd ha h1, by simpa [frAfter, hd] using h2⟩
theorem a_region_any {id : Nat} {l : List Oper} (hm : P.follows .mixedOrders = true) (hc : regOk l.toArray n = true) (hdep : depsOk l.toArray = true) (ev : EvK P l.toArray H (fun fr' => Q .normal fr' H) l fr) :
    ACode P c n (.region id l.toArray true) Q fr H := by
  obtain ⟨as, h1, h2⟩ := ev.ev
  exact a_region_ev hm hc hdep h1 h2
end
end Go.Proofs.Ytjmcbacdogjdeaa
