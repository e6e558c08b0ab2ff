/- Code over abstract frames: sequences, tests, blocks, loops, regions; calls by contract. Nothing of the program stands here. -/
import Derived.Test.YtjmcbacdogjdeaaAo
import Derived.Test.YtjmcbacdogjdeaaAr
import Derived.Deep.LoopGhost
namespace Go.Proofs.Ytjmcbacdogjdeaa
open Go Go.RowKit
set_option linter.unusedVariables false

def AQ := Exit → List (Nat × AV) → List (Nat × Res) → Prop
def lift (c : Ctx) (n : Nat) (Q : AQ) : Exit → Act → World → Prop := fun e a w => ∃ fr H S γ, Q e fr H ∧ Rel c n fr H S γ a.tmps w ∧ a.defers = []
def ACode (P : Program) (c : Ctx) (n : Nat) (code : Code) (Q : AQ) (fr : List (Nat × AV)) (H : List (Nat × Res)) : Prop :=
  ∀ S γ tmps w, Rel c n fr H S γ tmps w → code.wp P (lift c n Q) ⟨tmps, []⟩ w
def AOps (P : Program) (c : Ctx) (n : Nat) (ops : Array Oper) (rest : List Oper) (Q : AQ) (fr : List (Nat × AV)) (H : List (Nat × Res)) : Prop :=
  ∀ S γ tmps w, Rel c n fr H S γ tmps w → wpList P ops (lift c n Q) rest ⟨tmps, []⟩ w

section
variable {P : Program} {c : Ctx} {n : Nat} {Q : AQ} {fr : List (Nat × AV)} {H : List (Nat × Res)}
def AThen (next : List (Nat × AV) → List (Nat × Res) → Prop) (Q : AQ) : AQ
  | .normal, fr, H => next fr H
  | .exit id, fr, H => Q (.exit id) fr H
  | .goto l, fr, H => Q (.goto l) fr H
  | .ret, fr, H => Q .ret fr H
  | .panic _, _, _ => False
  | .outgrown, _, _ => False
def ABlock (id : Nat) (Q : AQ) : AQ
  | .normal, fr, H => Q .normal fr H
  | .exit i, fr, H => match Nat.beq i id with
    | true => Q .normal fr H
    | false => Q (.exit i) fr H
  | .goto l, fr, H => Q (.goto l) fr H
  | .ret, fr, H => Q .ret fr H
  | .panic _, _, _ => False
  | .outgrown, _, _ => False
theorem at_normal {next : List (Nat × AV) → List (Nat × Res) → Prop} (h : next fr H) : AThen next Q .normal fr H := h
theorem at_exit {next : List (Nat × AV) → List (Nat × Res) → Prop} {id : Nat} (h : Q (.exit id) fr H) : AThen next Q (.exit id) fr H := h
theorem at_ret {next : List (Nat × AV) → List (Nat × Res) → Prop} (h : Q .ret fr H) : AThen next Q .ret fr H := h
theorem ab_normal {id : Nat} (h : Q .normal fr H) : ABlock id Q .normal fr H := h
theorem ab_ret {id : Nat} (h : Q .ret fr H) : ABlock id Q .ret fr H := h
theorem ab_same {id : Nat} (h : Q .normal fr H) : ABlock id Q (.exit id) fr H := by
  show (match Nat.beq id id with | true => Q .normal fr H | false => Q (.exit id) fr H)
  rw [Nat.beq_refl]; exact h
theorem ab_other {i id : Nat} (hne : Nat.beq i id = false) (h : Q (.exit i) fr H) : ABlock id Q (.exit i) fr H := by
  show (match Nat.beq i id with | true => Q .normal fr H | false => Q (.exit i) fr H)
  rw [hne]; exact h
theorem a_seq {x y : Code} (h : ACode P c n x (AThen (ACode P c n y Q) Q) fr H) : ACode P c n (.seq x y) Q fr H := fun S γ tmps w hr => by
  refine wp_seq (wp_mono (h S γ tmps w hr) ?_)
  rintro e ⟨t, d⟩ w' ⟨fr', H', S', γ', hq, hr', rfl⟩
  cases e with
  | normal => exact hq S' γ' t w' hr'
  | panic _ => exact hq.elim
  | outgrown => exact hq.elim
  | _ => exact ⟨fr', H', S', γ', hq, hr', rfl⟩
theorem a_block {id : Nat} {x : Code} (h : ACode P c n x (ABlock id Q) fr H) : ACode P c n (.block id x) Q fr H := fun S γ tmps w hr => by
  refine wp_block (wp_mono (h S γ tmps w hr) ?_)
  rintro e ⟨t, d⟩ w' ⟨fr', H', S', γ', hq, hr', rfl⟩
  cases e with
  | exit i =>
    by_cases hi : i = id
    · subst hi
      simp only [Exit.inBlock, if_true]
      refine ⟨fr', H', S', γ', ?_, hr', rfl⟩
      simpa [ABlock] using hq
    · simp only [Exit.inBlock, if_neg hi]
      refine ⟨fr', H', S', γ', ?_, hr', rfl⟩
      have : Nat.beq i id = false := by
        cases hb : Nat.beq i id with
        | false => rfl
        | true => exact absurd (Nat.eq_of_beq_eq_true hb) hi
      simpa [ABlock, this] using hq
  | panic _ => exact hq.elim
  | outgrown => exact hq.elim
  | _ => exact ⟨fr', H', S', γ', hq, hr', rfl⟩
theorem a_skip (h : Q .normal fr H) : ACode P c n .skip Q fr H := fun S γ tmps w hr => wp_skip ⟨fr, H, S, γ, h, hr, rfl⟩
theorem a_label {l : Nat} (h : Q .normal fr H) : ACode P c n (.label l) Q fr H := fun S γ tmps w hr => wp_label ⟨fr, H, S, γ, h, hr, rfl⟩
theorem a_exit {id : Nat} (h : Q (.exit id) fr H) : ACode P c n (.exit id) Q fr H := fun S γ tmps w hr => wp_exit ⟨fr, H, S, γ, h, hr, rfl⟩
theorem a_ret (h : Q .ret fr H) : ACode P c n .ret Q fr H := fun S γ tmps w hr => wp_ret ⟨fr, H, S, γ, h, hr, rfl⟩
def AScope (Q : AQ) : AQ
  | .goto _, _, _ => False
  | e, fr, H => Q e fr H
theorem a_scope {x : Code} (h : ACode P c n x (AScope Q) fr H) : ACode P c n (.scope x) Q fr H := fun S γ tmps w hr => by
  refine wp_scope_straight (wp_mono (h S γ tmps w hr) ?_)
  rintro e ⟨t, d⟩ w' ⟨fr', H', S', γ', hq, hr', rfl⟩
  cases e with
  | goto l => exact hq.elim
  | _ => exact ⟨fr', H', S', γ', hq, hr', rfl⟩
theorem a_cond {t : Tmp} {x y : Code} {b : Bool} (hc : look fr t = some (.lit (.bool b))) (ht : b = true → ACode P c n x Q fr H) (hf : b = false → ACode P c n y Q fr H) : ACode P c n (.cond (.tmp t) x y) Q fr H := fun S γ tmps w hr => by
  have h1 := hr.fr t _ hc
  simp only [AV.holds] at h1
  exact wp_cond_split (t := b) h1 (fun e => ht e S γ tmps w hr) (fun e => hf e S γ tmps w hr)
theorem a_condc {x y : Code} {b : Bool} (ht : b = true → ACode P c n x Q fr H) (hf : b = false → ACode P c n y Q fr H) : ACode P c n (.cond (.const (.bool b)) x y) Q fr H := fun S γ tmps w hr =>
  wp_cond_split (t := b) rfl (fun e => ht e S γ tmps w hr) (fun e => hf e S γ tmps w hr)

/-- the entries of a list, but for those behind another of the same key, are found -/
def CovL.{u} {β : Type u} (f : Nat → Option β) : List Nat → List (Nat × β) → Prop
  | _, [] => True
  | seen, (x, v) :: r => match seen.any (Nat.beq x) with
    | true => CovL f seen r
    | false => f x = some v ∧ CovL f (x :: seen) r
theorem CovL.look.{u} {β : Type u} {f : Nat → Option β} : ∀ {r : List (Nat × β)} {seen : List Nat}, CovL f seen r → ∀ x v, look r x = some v → x ∉ seen → f x = some v
  | [], _, _, x, v, h, _ => by simp [Go.Proofs.Ytjmcbacdogjdeaa.look] at h
  | (k, u) :: r, seen, h, x, v, hl, hs => by
    rw [look_cons] at hl
    simp only [CovL] at h
    by_cases hk : k = x
    · subst hk
      rw [if_pos rfl] at hl
      simp only [Option.some.injEq] at hl; subst hl
      cases hb : seen.any (Nat.beq k) with
      | true =>
        exfalso
        rw [List.any_eq_true] at hb
        obtain ⟨y, hy, he⟩ := hb
        rw [Nat.eq_of_beq_eq_true he] at hs
        exact hs hy
      | false => rw [hb] at h; exact h.1
    · rw [if_neg hk] at hl
      cases hb : seen.any (Nat.beq k) with
      | true => rw [hb] at h; exact CovL.look h x v hl hs
      | false =>
        rw [hb] at h
        exact CovL.look h.2 x v hl (by simp only [List.mem_cons, not_or]; exact ⟨fun e => hk e.symm, hs⟩)
theorem covL_nil.{u} {β : Type u} {f : Nat → Option β} {seen : List Nat} : CovL f seen [] := trivial
theorem covL_cons.{u} {β : Type u} {f : Nat → Option β} {seen : List Nat} {x : Nat} {v : β} {r : List (Nat × β)} (h1 : seen.any (Nat.beq x) = false) (h2 : f x = some v) (h3 : CovL f (x :: seen) r) : CovL f seen ((x, v) :: r) := by
  unfold CovL; rw [h1]; exact ⟨h2, h3⟩
theorem covL_dup.{u} {β : Type u} {f : Nat → Option β} {seen : List Nat} {x : Nat} {v : β} {r : List (Nat × β)} (h1 : seen.any (Nat.beq x) = true) (h3 : CovL f seen r) : CovL f seen ((x, v) :: r) := by
  unfold CovL; rw [h1]; exact h3
theorem cov_int {f : Nat → Option AV} {x : Nat} {k : IntKind} {a b : Int} (h : f x = some (.lit (.int k a))) (e : a = b) : f x = some (.lit (.int k b)) := e ▸ h
theorem cov_bool {f : Nat → Option AV} {x : Nat} {a b : Bool} (h : f x = some (.lit (.bool a))) (e : a = b) : f x = some (.lit (.bool b)) := e ▸ h
theorem cov_own {f : Nat → Option Res} {x : Nat} {e : Nat} {α : Type} {E : Enc α} {a b : List α} (h : f x = some (.own e E a)) (he : a = b) : f x = some (.own e E b) := he ▸ h
theorem cov_slice {f : Nat → Option AV} {x : Nat} {α : Type} {E : Enc α} {a b : List α} (h : f x = some (.snap (slF E a))) (he : a = b) : f x = some (.snap (slF E b)) := he ▸ h
structure Cov (fr' : List (Nat × AV)) (H' : List (Nat × Res)) (fr : List (Nat × AV)) (H : List (Nat × Res)) : Prop where
  fr : CovL (look fr') [] fr
  H : CovL (look H') [] H
theorem Rel.cov {fr' : List (Nat × AV)} {H' : List (Nat × Res)} {S : Nat → Prop} {γ : Nat → Value} {tmps : Array Value} {w : World} (h : Rel c n fr' H' S γ tmps w) (hc : Cov fr' H' fr H) : Rel c n fr H S γ tmps w := by
  have hH : ∀ j r, look H j = some r → look H' j = some r := fun j r hj => hc.H.look j r hj (by simp)
  refine ⟨⟨fun j r hj => h.st.res j r (hH j r hj), fun i j ri rj b hi hj => h.st.dis i j ri rj b (hH i ri hi) (hH j rj hj), fun j r b hj => h.st.live j r b (hH j r hj), h.st.sz, h.st.one⟩, fun x av hx => h.fr x av (hc.fr.look x av hx (by simp)), h.up, fun j r b hj => h.own j r b (hH j r hj), h.ids, h.size, h.keep⟩
theorem a_weaken {code : Code} {fr' : List (Nat × AV)} {H' : List (Nat × Res)} (hc : Cov fr H fr' H') (h : ACode P c n code Q fr' H') : ACode P c n code Q fr H := fun S γ tmps w hr => h S γ tmps w (hr.cov hc)
/-- a loop: what holds at each round's head, over what stands unchanged -/
theorem a_loop {ι : Type} {body : Code} (ov : ι → List (Nat × AV)) (oH : ι → List (Nat × Res)) (good : ι → Prop) (μ : ι → Nat) (i0 : ι) (h0 : good i0) (hc : Cov fr H (ov i0 ++ fr) (oH i0 ++ H))
    (round : ∀ i, good i → ACode P c n body (AThen (fun fr' H' => ∃ i', good i' ∧ μ i' < μ i ∧ Cov fr' H' (ov i' ++ fr) (oH i' ++ H)) Q) (ov i ++ fr) (oH i ++ H)) : ACode P c n (.loop body) Q fr H := fun S γ tmps w hr => by
  refine wp_loop_ghost (fun m a w => ∃ i, μ i = m ∧ good i ∧ ∃ S γ, Rel c n (ov i ++ fr) (oH i ++ H) S γ a.tmps w ∧ a.defers = []) (μ i0) ⟨i0, rfl, h0, S, γ, hr.cov hc, rfl⟩ ?_
  rintro m ⟨t, d⟩ w' ⟨i, rfl, hg, S', γ', hr', rfl⟩
  refine wp_mono (round i hg S' γ' t w' hr') ?_
  rintro e ⟨t2, d2⟩ w2 ⟨fr2, H2, S2, γ2, hq, hr2, rfl⟩
  cases e with
  | normal =>
    obtain ⟨i', hg', hm, hc'⟩ := hq
    exact ⟨μ i', hm, i', rfl, hg', S2, γ2, hr2.cov hc', rfl⟩
  | panic _ => exact hq.elim
  | outgrown => exact hq.elim
  | _ => exact ⟨fr2, H2, S2, γ2, hq, hr2, rfl⟩

/-- what an operation's guard makes of what is known of it -/
inductive OpAv (P : Program) (ops : Array Oper) (fr : List (Nat × AV)) (H : List (Nat × Res)) (o : Oper) : AV → Prop
  | plain {a : AV} (hg : o.guard = none) (h : SOp P o fr H a) : OpAv P ops fr H o a
  | guard {a : AV} {j dj : Nat} {want b : Bool} (hg : o.guard = some (j, want)) (hd : dstOf ops j = some dj) (hl : look fr dj = some (.lit (.bool b))) (h : b = want → SOp P o fr H a) : OpAv P ops fr H o (.when (b = want) a)
  | guardw {a : AV} {j dj : Nat} {want b : Bool} {p : Prop} (hg : o.guard = some (j, want)) (hd : dstOf ops j = some dj) (hl : look fr dj = some (.when p (.lit (.bool b)))) (h : p ∧ b = want → SOp P o fr H a) : OpAv P ops fr H o (.when (p ∧ b = want) a)

theorem freshS_sub {S : Nat → Prop} {w w' : World} : ∀ b, S b → FreshS S w w' b := fun b h => .inl h
theorem same_of_ext {S : Nat → Prop} {w w' : World} (hs : ∀ b, S b → b < w.heap.size) (h : Ext w w') : Same S w w' := fun b hb => h.block b (hs b hb)
theorem St.ext {S : Nat → Prop} {γ : Nat → Value} {w w' : World} (h : St S γ w H) (x : Ext w w') : St (FreshS S w w') γ w' H := by
  have hw := same_of_ext h.sz x
  refine ⟨fun j r hj => ?_, h.dis, fun j r b hj hb hs => ?_, fun b hb => ?_, h.one⟩
  · have hr := h.res j r hj
    exact Res.mono freshS_sub hw (fun _ => true) (fun _ _ => rfl) (by cases r <;> simp [Res.uses, AV.usesL_true]) (fun b hb => x.block b (Res.blk_lt hr hb)) hr
  · rcases hs with hs | ⟨h1, h2⟩
    · exact h.live j r b hj hb hs
    · have := Res.blk_lt (h.res j r hj) hb; omega
  · rcases hb with hb | ⟨_, hb⟩
    · have := h.sz b hb; have := x.size; omega
    · exact hb
theorem Rel.ext {S : Nat → Prop} {γ : Nat → Value} {tmps : Array Value} {w w' : World} (h : Rel c n fr H S γ tmps w) (x : Ext w w') : Rel c n fr H (FreshS S w w') γ tmps w' := by
  refine ⟨h.st.ext x, fun y av hy => AV.ext freshS_sub (same_of_ext h.st.sz x) (h.fr y av hy), fun b hb => ?_, h.own, h.ids, h.size, h.keep.trans (Keep.of_ext (L := fun _ => False) x) (fun _ h => h.elim)⟩
  rcases hb with hb | ⟨hb, _⟩
  · exact h.up b hb
  · have := h.keep.size; right; left; omega
theorem getD_set {tmps : Array Value} {d x : Nat} {v : Value} (hd : d < tmps.size) : (tmps.setIfInBounds d v).getD x undef = if d = x then v else tmps.getD x undef := by
  simp only [Array.getD_eq_getD_getElem?, Array.getElem?_setIfInBounds]
  by_cases h : d = x
  · subst h; simp [hd]
  · simp [h]
theorem Rel.put {S : Nat → Prop} {γ : Nat → Value} {tmps : Array Value} {w : World} {d : Nat} {v : Value} {a : AV} (h : Rel c n fr H S γ tmps w) (hd : d < n) (ha : a.holds S γ w v) : Rel c n ((d, a) :: fr) H S γ (tmps.setIfInBounds d v) w := by
  refine ⟨h.st, fun x av hx => ?_, h.up, h.own, h.ids, by simpa using h.size, h.keep⟩
  rw [look_cons] at hx
  rw [getD_set (by rw [h.size]; exact hd)]
  by_cases hk : d = x
  · rw [if_pos hk] at hx ⊢
    simp only [Option.some.injEq] at hx; subst hx
    exact ha
  · rw [if_neg hk] at hx ⊢
    exact h.fr x av hx
theorem Rel.env {S : Nat → Prop} {γ : Nat → Value} {tmps : Array Value} {ds : List Deferred} {w : World} (h : Rel c n fr H S γ tmps w) (use : Operand → Prop) : Env fr H use (Act.eval ⟨tmps, ds⟩) S γ w :=
  ⟨h.st, fun x av _ hx => h.fr x av hx, fun _ => rfl, fun _ => rfl, fun _ => rfl⟩
theorem yields {ops : Array Oper} {tmps : Array Value} {j dj : Nat} (hd : dstOf ops j = some dj) (b : Bool) : (yielded ops tmps j = some b) ↔ tmps.getD dj undef = .bool b := by
  unfold yielded
  have hd' : ((ops[j]?).bind (·.dst)) = some dj := hd
  rw [hd']
  simp only [Array.getD_eq_getD_getElem?]
  cases ht : tmps[dj]? with
  | none => simp [undef, ht]
  | some v => cases v <;> simp [ht]

section
variable {ops : Array Oper} {rest : List Oper} {o : Oper}
theorem ao_nil (h : Q .normal fr H) : AOps P c n ops [] Q fr H := fun S γ tmps w hr => ⟨fr, H, S, γ, h, hr, rfl⟩
/-- an operation that only makes -/
theorem ao_op {d : Nat} {a : AV} (hd : o.dst = some d) (hn : Nat.blt d n = true) (h : OpAv P ops fr H o a) (next : AOps P c n ops rest Q ((d, a) :: fr) H) : AOps P c n ops (o :: rest) Q fr H := fun S γ tmps w hr => by
  have hn' : d < n := Nat.le_of_ble_eq_true hn
  have run : ∀ a' : AV, SOp P o fr H a' → (∀ v w', a'.holds (FreshS S w w') γ w' v → a.holds (FreshS S w w') γ w' v) → o.wp P ⟨tmps, []⟩ w (wpList P ops (lift c n Q) rest) (lift c n Q) := by
    intro a' hs ha
    refine Outcome.upon ((hs S γ w _ (hr.env _)).mono ?_)
    rintro v w' ⟨x, hv⟩
    have hput : (Act.put ⟨tmps, []⟩ o.dst v) = ⟨tmps.setIfInBounds d v, []⟩ := by rw [hd]; rfl
    rw [hput]
    exact next _ γ _ w' ((hr.ext x).put hn' (ha v w' hv))
  have skip : a.holds S γ w undef → wpList P ops (lift c n Q) rest (Act.put ⟨tmps, []⟩ o.dst undef) w := by
    intro ha
    have hput : (Act.put ⟨tmps, []⟩ o.dst undef) = ⟨tmps.setIfInBounds d undef, []⟩ := by rw [hd]; rfl
    rw [hput]
    exact next S γ _ w (hr.put hn' ha)
  unfold wpList
  cases h with
  | plain hg hs =>
    rw [if_pos (by simp [Region.wanted, hg])]
    exact .inl (run _ hs (fun _ _ h => h))
  | @guard a j dj want b hg hdj hl hs =>
    have hb := hr.fr dj _ hl
    simp only [AV.holds] at hb
    have hy := yields (tmps := tmps) hdj want
    by_cases hbw : b = want
    · rw [if_pos (by simp [Region.wanted, hg, hy, hb, hbw])]
      refine .inl (run _ (hs hbw) fun v w' hv => ?_)
      simp only [AV.holds]
      exact ⟨fun _ => hv, fun hn => absurd hbw hn⟩
    · rw [if_neg (by simp [Region.wanted, hg, hy, hb, hbw])]
      refine skip ?_
      simp only [AV.holds]
      exact ⟨fun h => absurd h hbw, fun _ => trivial⟩
  | @guardw a j dj want b p hg hdj hl hs =>
    have hb := hr.fr dj _ hl
    simp only [AV.holds] at hb
    have hy := yields (tmps := tmps) hdj want
    by_cases hbw : p ∧ b = want
    · rw [if_pos (by simp [Region.wanted, hg, hy, hb.1 hbw.1, hbw.2])]
      refine .inl (run _ (hs hbw) fun v w' hv => ?_)
      simp only [AV.holds]
      exact ⟨fun _ => hv, fun hn => absurd hbw hn⟩
    · have hno : ¬ tmps.getD dj undef = .bool want := by
        intro e
        by_cases hp : p
        · have h1 := hb.1 hp
          rw [e] at h1
          simp only [Value.bool.injEq] at h1
          exact hbw ⟨hp, h1.symm⟩
        · have h1 := hb.2 hp
          rw [e] at h1
          simp [undef] at h1
      rw [if_neg (by simp only [Region.wanted, hg]; rw [beq_iff_eq, hy]; exact hno)]
      refine skip ?_
      simp only [AV.holds]
      exact ⟨fun h => absurd h hbw, fun _ => trivial⟩
end
theorem a_region {id : Nat} {l : List Oper} (h : AOps P c n l.toArray l Q fr H) : ACode P c n (.region id l.toArray false) Q fr H := fun S γ tmps w hr => wp_region_lit (h S γ tmps w hr)

/-- the operations of a region one behind the other, each of which only makes -/
inductive Ev (P : Program) (ops : Array Oper) (H : List (Nat × Res)) : List Oper → List (Nat × AV) → List AV → Prop
  | nil {fr : List (Nat × AV)} : Ev P ops H [] fr []
  | cons {fr : List (Nat × AV)} {o : Oper} {rest : List Oper} {d : Nat} {a : AV} {as : List AV} (hd : o.dst = some d) (h : OpAv P ops fr H o a) (next : Ev P ops H rest ((d, a) :: fr) as) : Ev P ops H (o :: rest) fr (a :: as)
/-- the frame behind operations -/
def frAfter : List Oper → List AV → List (Nat × AV) → List (Nat × AV)
  | o :: rest, a :: as, fr => match o.dst with
    | some d => frAfter rest as ((d, a) :: fr)
    | none => frAfter rest as fr
  | _, _, fr => fr
/-- an operation reads what lies outside, or what it must follow -/
def depsOk (ops : Array Oper) : Bool := ops.toList.all fun o => (o.op.operands.toList.all fun | .tmp t => outside ops t || (needs o).any fun j => dstOf ops j == some t | _ => true) && (match o.guard with | some (j, _) => (needs o).contains j | none => true)
end
end Go.Proofs.Ytjmcbacdogjdeaa
