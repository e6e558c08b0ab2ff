/- Words of our own for walks over abstract values, laid together. Nothing of the program stands here. -/
import Derived.Test.YtgdkeafdlehlaaaDoorG3
import Derived.LoopN
/- Regions that draw their order, whose effects follow one another while what only makes floats, over abstract frames. Nothing of the program stands here. -/
namespace Go.Proofs.YtgdkeafdlehlaaaDoor
open Go Go.RowKit
set_option linter.unusedVariables false
set_option linter.unusedSimpArgs false
set_option maxHeartbeats 2000000
/-- what an effect makes of a frame that holds E, and of the resources -/
def EOp (P : Program) (c : Ctx) (n : Nat) (o : Oper) (E : List (Nat × AV)) (H : List (Nat × Res)) (d : Nat) (out : AV) (M : Nat → Bool) (H' : List (Nat × Res)) : Prop :=
  ∀ (rest : List (Nat × AV)) (ops : Array Oper) (Q : AQ), Q .normal ((d, out) :: markF M (E ++ rest)) H' → AOps P c n ops [{ o with guard := none }] Q (E ++ rest) H
def EOp0 (P : Program) (c : Ctx) (n : Nat) (o : Oper) (E : List (Nat × AV)) (H : List (Nat × Res)) (H' : List (Nat × Res)) : Prop :=
  ∀ (rest : List (Nat × AV)) (ops : Array Oper) (Q : AQ), Q .normal (E ++ rest) H' → AOps P c n ops [{ o with guard := none }] Q (E ++ rest) H
inductive XK : Type 1 where
  | plain (full : Bool) (us : List AV) (a : AV)
  | eff (out : Option AV) (M : Nat → Bool) (H' : List (Nat × Res))
def XK.val : XK → Option AV
  | .plain _ _ a => some a
  | .eff out _ _ => out
def mark1 (M : Nat → Bool) (a : AV) : AV := match a.uses (fun j => !(M j)) with | true => a | false => .any
def maskL : List XK → AV → AV
  | [], a => a
  | .eff _ M _ :: r, a => maskL r (mark1 M a)
  | _ :: r, a => maskL r a
def hL : List XK → List (Nat × Res) → List (Nat × Res)
  | [], H => H
  | .eff _ _ H' :: r, _ => hL r H'
  | _ :: r, H => hL r H
def stepF (o : Oper) (k : XK) (fr : List (Nat × AV)) : List (Nat × AV) := match k with
  | .plain _ _ a => match o.dst with | some d => (d, a) :: fr | none => fr
  | .eff (some out) M _ => match o.dst with | some d => (d, out) :: markF M fr | none => markF M fr
  | .eff none M _ => markF M fr
def xFr : List Oper → List XK → List (Nat × AV) → List (Nat × AV)
  | o :: l, k :: ks, fr => xFr l ks (stepF o k fr)
  | _, _, fr => fr
def opAvs (o : Oper) (fr : List (Nat × AV)) : List AV := o.op.operands.toList.filterMap fun | .tmp t => look fr t | _ => none
def subF (fr : List (Nat × AV)) : List (Nat × AV) → Prop
  | [] => True
  | p :: r => look fr p.1 = some p.2 ∧ subF fr r
def isOpd (o : Oper) (t : Nat) : Bool := o.op.operands.toList.any fun | .tmp u => Nat.beq u t | _ => false
inductive GYes (ops : Array Oper) (o : Oper) (fr : List (Nat × AV)) : Prop
  | none (h : o.guard = none)
  | yes {j dj : Nat} {want : Bool} (h : o.guard = some (j, want)) (hd : dstOf ops j = some dj) (hl : look fr dj = some (.lit (.bool want)))
  | yesw {j dj : Nat} {want : Bool} {p : Prop} (h : o.guard = some (j, want)) (hd : dstOf ops j = some dj) (hl : look fr dj = some (.when p (.lit (.bool want)))) (hp : p)
inductive KX (P : Program) (c : Ctx) (n : Nat) (ops : Array Oper) (HN : List (Nat × Res)) (N : Nat → Bool) (fr : List (Nat × AV)) (H : List (Nat × Res)) (o : Oper) : XK → Prop
  | plain {a : AV} {d : Nat} (hd : o.dst = some d) (h : OpAv P ops fr HN o a) : KX P c n ops HN N fr H o (.plain false (opAvs o fr) a)
  | full {a : AV} {d : Nat} (hd : o.dst = some d) (h : OpAv P ops fr H o a) : KX P c n ops HN N fr H o (.plain true (opAvs o fr) a)
  | eff {E : List (Nat × AV)} {d : Nat} {out : AV} {M : Nat → Bool} {H' : List (Nat × Res)} (hd : o.dst = some d) (hg : GYes ops o fr) (hE : subF fr E) (hEo : (E.all fun p => isOpd o p.1) = true) (h : EOp P c n o E H d out M H') (hN : dropH N H' = dropH N H) : KX P c n ops HN N fr H o (.eff (some out) M H')
  | effU {E : List (Nat × AV)} {H' : List (Nat × Res)} (hd : o.dst = none) (hg : GYes ops o fr) (hE : subF fr E) (hEo : (E.all fun p => isOpd o p.1) = true) (h : EOp0 P c n o E H H') (hN : dropH N H' = dropH N H) : KX P c n ops HN N fr H o (.eff none (fun _ => false) H')
inductive Evx (P : Program) (c : Ctx) (n : Nat) (ops : Array Oper) (HN : List (Nat × Res)) (N : Nat → Bool) : List Oper → List (Nat × AV) → List (Nat × Res) → List XK → Prop
  | nil {fr : List (Nat × AV)} {H : List (Nat × Res)} : Evx P c n ops HN N [] fr H []
  | cons {fr : List (Nat × AV)} {H : List (Nat × Res)} {o : Oper} {rest : List Oper} {k : XK} {ks : List XK} (h : KX P c n ops HN N fr H o k) (next : Evx P c n ops HN N rest (stepF o k fr) (hL [k] H) ks) : Evx P c n ops HN N (o :: rest) fr H (k :: ks)
section
variable {P : Program} {c : Ctx} {n : Nat} {Q : AQ} {fr : List (Nat × AV)} {H HN : List (Nat × Res)} {l : List Oper} {N : Nat → Bool} {ops : Array Oper}
theorem hL_app : ∀ (a b : List XK) (H : List (Nat × Res)), hL (a ++ b) H = hL b (hL a H)
  | [], b, H => rfl
  | k :: a, b, H => by cases k <;> simp [hL, hL_app a b]
theorem hL_none : ∀ (a : List XK) (H : List (Nat × Res)), (∀ (i : Nat) (out : Option AV) (M : Nat → Bool) (H' : List (Nat × Res)), a[i]? ≠ some (.eff out M H')) → hL a H = H
  | [], H, _ => rfl
  | k :: a, H, h => by
    have ih := hL_none a H fun i out M H' hi => h (i + 1) out M H' (by simpa using hi)
    cases k with
    | plain f us b => simpa [hL] using ih
    | eff out M H' => exact absurd rfl (h 0 out M H')
theorem maskL_any : ∀ (ks : List XK), maskL ks .any = .any
  | [] => rfl
  | k :: ks => by cases k <;> simp [maskL, mark1, AV.uses, maskL_any ks]
theorem maskL_or : ∀ (ks : List XK) (a : AV), maskL ks a = .any ∨ (maskL ks a = a ∧ ∀ (e : Nat) (out : Option AV) (M : Nat → Bool) (H' : List (Nat × Res)), ks[e]? = some (.eff out M H') → a.uses (fun j => !(M j)) = true)
  | [], a => .inr ⟨rfl, by simp⟩
  | k :: ks, a => by
    cases k with
    | plain f us b =>
      rcases maskL_or ks a with h | ⟨h1, h2⟩
      · exact .inl (by simpa [maskL] using h)
      · refine .inr ⟨by simpa [maskL] using h1, fun e out M H' he => ?_⟩
        cases e with
        | zero => simp at he
        | succ e => exact h2 e out M H' (by simpa using he)
    | eff out M H' =>
      cases hu : a.uses (fun j => !(M j)) with
      | false => exact .inl (by simp [maskL, mark1, hu, maskL_any])
      | true =>
        have hm : mark1 M a = a := by simp [mark1, hu]
        rcases maskL_or ks a with h | ⟨h1, h2⟩
        · exact .inl (by simpa [maskL, hm] using h)
        · refine .inr ⟨by simpa [maskL, hm] using h1, fun e out' M' H'' he => ?_⟩
          cases e with
          | zero => simp at he; obtain ⟨_, rfl, _⟩ := he; exact hu
          | succ e => exact h2 e out' M' H'' (by simpa using he)
theorem maskL_eq : ∀ (ks : List XK) (a : AV), (∀ (e : Nat) (out : Option AV) (M : Nat → Bool) (H' : List (Nat × Res)), ks[e]? = some (.eff out M H') → a.uses (fun j => !(M j)) = true) → maskL ks a = a
  | [], a, _ => rfl
  | k :: ks, a, h => by
    have ih := maskL_eq ks a fun e out M H' he => h (e + 1) out M H' (by simpa using he)
    cases k with
    | plain f us b => simpa [maskL] using ih
    | eff out M H' => simp [maskL, mark1, h 0 out M H' rfl, ih]
theorem look_markF1 (M : Nat → Bool) (fr : List (Nat × AV)) (x : Nat) : look (markF M fr) x = (look fr x).map (mark1 M) := by
  rw [look_markF]; rfl
theorem xFr_look : ∀ (l : List Oper) (ks : List XK) (fr : List (Nat × AV)) (x : Nat) (av : AV), l.length = ks.length → look (xFr l ks fr) x = some av →
    (∃ (j : Nat) (o : Oper) (k : XK) (v : AV), l[j]? = some o ∧ ks[j]? = some k ∧ o.dst = some x ∧ k.val = some v ∧ av = maskL (ks.drop (j + 1)) v) ∨ ((∀ (j : Nat) (o : Oper) (k : XK) (v : AV), l[j]? = some o → ks[j]? = some k → k.val = some v → o.dst ≠ some x) ∧ ∃ a0, look fr x = some a0 ∧ av = maskL ks a0)
  | [], [], fr, x, av, _, h => .inr ⟨by simp, av, h, rfl⟩
  | [], k :: ks, fr, x, av, hl, h => by simp at hl
  | o :: l, [], fr, x, av, hl, h => by simp at hl
  | o :: l, k :: ks, fr, x, av, hl, h => by
    rcases xFr_look l ks (stepF o k fr) x av (by simpa using hl) h with ⟨j, o', k', v, h1, h2, h3, h4, h5⟩ | ⟨h1, a0, h2, h3⟩
    · exact .inl ⟨j + 1, o', k', v, by simpa using h1, by simpa using h2, h3, h4, by simpa using h5⟩
    · have up : (∀ v, k.val = some v → o.dst ≠ some x) → (∀ (j : Nat) (o' : Oper) (k' : XK) (v : AV), (o :: l)[j]? = some o' → (k :: ks)[j]? = some k' → k'.val = some v → o'.dst ≠ some x) := by
        intro h0 j o' k' v hj hk hv
        cases j with
        | zero => simp at hj hk; subst hj; subst hk; exact h0 v hv
        | succ j => exact h1 j o' k' v (by simpa using hj) (by simpa using hk) hv
      have here : ∀ v, k.val = some v → o.dst = some x → a0 = v → (∃ (j : Nat) (o' : Oper) (k' : XK) (v : AV), (o :: l)[j]? = some o' ∧ (k :: ks)[j]? = some k' ∧ o'.dst = some x ∧ k'.val = some v ∧ av = maskL ((k :: ks).drop (j + 1)) v) := by
        intro v hv hd e
        subst e
        exact ⟨0, o, k, a0, rfl, rfl, hd, hv, by simpa using h3⟩
      cases k with
      | plain f us a =>
        unfold stepF at h2
        simp only at h2
        cases hd : o.dst with
        | none =>
          rw [hd] at h2
          exact .inr ⟨up (fun v _ e => by rw [hd] at e; cases e), a0, h2, by simpa [maskL] using h3⟩
        | some d =>
          rw [hd] at h2
          simp only at h2
          rw [look_cons] at h2
          split at h2
          · rename_i e
            injection h2 with h2
            exact .inl (here a rfl (by rw [hd, e]) h2.symm)
          · rename_i e
            exact .inr ⟨up (fun v _ e' => by rw [hd] at e'; injection e' with e'; exact e e'), a0, h2, by simpa [maskL] using h3⟩
      | eff out M H' =>
        cases out with
        | none =>
          unfold stepF at h2
          simp only at h2
          rw [look_markF1] at h2
          cases hl0 : look fr x with
          | none => rw [hl0] at h2; cases h2
          | some b =>
            rw [hl0] at h2
            simp only [Option.map_some, Option.some.injEq] at h2
            exact .inr ⟨up (fun v hv => by simp [XK.val] at hv), b, rfl, by rw [h3, ← h2]; rfl⟩
        | some out =>
          unfold stepF at h2
          simp only at h2
          cases hd : o.dst with
          | none =>
            rw [hd] at h2
            simp only at h2
            rw [look_markF1] at h2
            cases hl0 : look fr x with
            | none => rw [hl0] at h2; cases h2
            | some b =>
              rw [hl0] at h2
              simp only [Option.map_some, Option.some.injEq] at h2
              exact .inr ⟨up (fun v _ e => by rw [hd] at e; cases e), b, rfl, by rw [h3, ← h2]; rfl⟩
          | some d =>
            rw [hd] at h2
            simp only at h2
            rw [look_cons] at h2
            split at h2
            · rename_i e
              injection h2 with h2
              exact .inl (here out rfl (by rw [hd, e]) h2.symm)
            · rename_i e
              rw [look_markF1] at h2
              cases hl0 : look fr x with
              | none => rw [hl0] at h2; cases h2
              | some b =>
                rw [hl0] at h2
                simp only [Option.map_some, Option.some.injEq] at h2
                exact .inr ⟨up (fun v _ e' => by rw [hd] at e'; injection e' with e'; exact e e'), b, rfl, by rw [h3, ← h2]; rfl⟩
theorem Evx.len {m : List Oper} {ks : List XK} (h : Evx P c n ops HN N m fr H ks) : ks.length = m.length := by
  induction h with
  | nil => rfl
  | cons _ _ ih => simp [ih]
theorem hL_cons (k : XK) (ks : List XK) (H : List (Nat × Res)) : hL (k :: ks) H = hL ks (hL [k] H) := by cases k <;> rfl
theorem Evx.get {m : List Oper} {ks : List XK} (h : Evx P c n ops HN N m fr H ks) : ∀ (i : Nat) (o : Oper), m[i]? = some o → ∃ k, ks[i]? = some k ∧ KX P c n ops HN N (xFr (m.take i) (ks.take i) fr) (hL (ks.take i) H) o k := by
  induction h with
  | nil => intro i o h; simp at h
  | @cons fr H o rest k ks h1 _ ih =>
    intro i o' ho'
    cases i with
    | zero =>
      simp at ho'; subst ho'
      exact ⟨k, rfl, by simpa [xFr, hL] using h1⟩
    | succ i =>
      obtain ⟨k', h2, h3⟩ := ih i o' (by simpa using ho')
      refine ⟨k', by simpa using h2, ?_⟩
      rw [List.take_succ_cons, List.take_succ_cons, hL_cons]
      exact h3
/-- the judgement that a walk goes by -/
inductive EvX (P : Program) (c : Ctx) (n : Nat) (ops : Array Oper) (HN : List (Nat × Res)) (N : Nat → Bool) : (List (Nat × AV) → List (Nat × Res) → List XK → Prop) → List Oper → List (Nat × AV) → List (Nat × Res) → Prop
  | nil {K : List (Nat × AV) → List (Nat × Res) → List XK → Prop} {fr : List (Nat × AV)} {H : List (Nat × Res)} (h : K fr H []) : EvX P c n ops HN N K [] fr H
  | cons {K : List (Nat × AV) → List (Nat × Res) → List XK → Prop} {fr : List (Nat × AV)} {H : List (Nat × Res)} {o : Oper} {rest : List Oper} {k : XK} (h : KX P c n ops HN N fr H o k) (next : EvX P c n ops HN N (fun f H ks => K f H (k :: ks)) rest (stepF o k fr) (hL [k] H)) : EvX P c n ops HN N K (o :: rest) fr H
theorem EvX.ev {K : List (Nat × AV) → List (Nat × Res) → List XK → Prop} {m : List Oper} (h : EvX P c n ops HN N K m fr H) : ∃ ks, Evx P c n ops HN N m fr H ks ∧ K (xFr m ks fr) (hL ks H) ks := by
  induction h with
  | nil h => exact ⟨[], .nil, h⟩
  | @cons K fr H o rest k h1 _ ih =>
    obtain ⟨ks, h2, h3⟩ := ih
    exact ⟨k :: ks, .cons h1 h2, by rw [hL_cons]; exact h3⟩
theorem evx_plain {K : List (Nat × AV) → List (Nat × Res) → List XK → Prop} {o : Oper} {rest : List Oper} {a : AV} {d : Nat} (hd : o.dst = some d) (h : OpAv P ops fr HN o a) (next : EvX P c n ops HN N (fun f H ks => K f H (.plain false (opAvs o fr) a :: ks)) rest ((d, a) :: fr) H) : EvX P c n ops HN N K (o :: rest) fr H :=
  .cons (.plain hd h) (by simpa [stepF, hd, hL] using next)
theorem evx_full {K : List (Nat × AV) → List (Nat × Res) → List XK → Prop} {o : Oper} {rest : List Oper} {a : AV} {d : Nat} (hd : o.dst = some d) (h : OpAv P ops fr H o a) (next : EvX P c n ops HN N (fun f H ks => K f H (.plain true (opAvs o fr) a :: ks)) rest ((d, a) :: fr) H) : EvX P c n ops HN N K (o :: rest) fr H :=
  .cons (.full hd h) (by simpa [stepF, hd, hL] using next)
theorem evx_eff {K : List (Nat × AV) → List (Nat × Res) → List XK → Prop} {o : Oper} {rest : List Oper} {E : List (Nat × AV)} {d : Nat} {out : AV} {M : Nat → Bool} {H' : List (Nat × Res)} (hd : o.dst = some d) (hg : GYes ops o fr) (hE : subF fr E) (hEo : (E.all fun p => isOpd o p.1) = true) (h : EOp P c n o E H d out M H') (hN : dropH N H' = dropH N H)
    (next : EvX P c n ops HN N (fun f H ks => K f H (.eff (some out) M H' :: ks)) rest ((d, out) :: markF M fr) H') : EvX P c n ops HN N K (o :: rest) fr H :=
  .cons (.eff hd hg hE hEo h hN) (by simpa [stepF, hd, hL] using next)
def unaff (a : AV) (M : Nat → Bool) : Bool := a.uses fun j => !(M j)
def unaffL : List AV → (Nat → Bool) → Bool
  | [], _ => true
  | a :: r, M => unaff a M && unaffL r M
theorem unaffL_at {M : Nat → Bool} : ∀ {us : List AV}, unaffL us M = true → ∀ a ∈ us, a.uses (fun j => !(M j)) = true
  | b :: r, h, a, ha => by
    simp only [unaffL, Bool.and_eq_true] at h
    rcases List.mem_cons.1 ha with rfl | ha
    · exact h.1
    · exact unaffL_at h.2 a ha
def reach (ops : Array Oper) (i j : Nat) : Bool := (clo ops i (needsAt ops i)).contains j
/-- is op i, which only makes, at peace with effect e? -/
def peace (ops : Array Oper) (i e : Nat) (full : Bool) (us : List AV) (a : AV) (M : Nat → Bool) : Bool := match Nat.blt i e with
  | true => match reach ops e i with
    | true => true
    | false => match full with | true => false | false => unaff a M && unaffL us M
  | false => match reach ops i e with
    | true => true
    | false => match full with | true => false | false => unaff a M
def okX (ops : Array Oper) (all : List XK) : Nat → List XK → Bool
  | _, [] => true
  | i, .plain full us a :: r => peaceL i full us a 0 all && okX ops all (i + 1) r
  | i, .eff _ _ _ :: r => afterL i 0 all && okX ops all (i + 1) r
where
  peaceL (i : Nat) (full : Bool) (us : List AV) (a : AV) : Nat → List XK → Bool
    | _, [] => true
    | e, .eff _ M _ :: r => peace ops i e full us a M && peaceL i full us a (e + 1) r
    | e, _ :: r => peaceL i full us a (e + 1) r
  afterL (i : Nat) : Nat → List XK → Bool
    | _, [] => true
    | e, .eff _ _ _ :: r => (match Nat.blt e i with | true => reach ops i e | false => true) && afterL i (e + 1) r
    | e, _ :: r => afterL i (e + 1) r
theorem peaceL_at {i : Nat} {full : Bool} {us : List AV} {a : AV} : ∀ {all : List XK} {s : Nat}, okX.peaceL ops i full us a s all = true → ∀ (e : Nat) (out : Option AV) (M : Nat → Bool) (H' : List (Nat × Res)), all[e]? = some (.eff out M H') → peace ops i (s + e) full us a M = true
  | [], s, _, e, out, M, H', he => by simp at he
  | k :: r, s, h, e, out, M, H', he => by
    cases k with
    | plain f us' b =>
      cases e with
      | zero => simp at he
      | succ e =>
        have := peaceL_at (all := r) (s := s + 1) (by simpa [okX.peaceL] using h) e out M H' (by simpa using he)
        rwa [show s + (e + 1) = s + 1 + e by omega]
    | eff out' M' H'' =>
      simp only [okX.peaceL, Bool.and_eq_true] at h
      cases e with
      | zero => simp at he; obtain ⟨_, rfl, _⟩ := he; exact h.1
      | succ e =>
        have := peaceL_at (all := r) (s := s + 1) h.2 e out M H' (by simpa using he)
        rwa [show s + (e + 1) = s + 1 + e by omega]
theorem afterL_at {i : Nat} : ∀ {all : List XK} {s : Nat}, okX.afterL ops i s all = true → ∀ (e : Nat) (out : Option AV) (M : Nat → Bool) (H' : List (Nat × Res)), all[e]? = some (.eff out M H') → s + e < i → reach ops i (s + e) = true
  | [], s, _, e, out, M, H', he, _ => by simp at he
  | k :: r, s, h, e, out, M, H', he, hlt => by
    cases k with
    | plain f us' b =>
      cases e with
      | zero => simp at he
      | succ e =>
        have := afterL_at (all := r) (s := s + 1) (by simpa [okX.afterL] using h) e out M H' (by simpa using he) (by omega)
        rwa [show s + (e + 1) = s + 1 + e by omega]
    | eff out' M' H'' =>
      simp only [okX.afterL, Bool.and_eq_true] at h
      cases e with
      | zero =>
        have hb : Nat.blt s i = true := Nat.ble_eq_true_of_le (by omega)
        have := h.1
        rw [hb] at this
        simpa using this
      | succ e =>
        have := afterL_at (all := r) (s := s + 1) h.2 e out M H' (by simpa using he) (by omega)
        rwa [show s + (e + 1) = s + 1 + e by omega]
theorem okX_at {all : List XK} : ∀ {ks : List XK} {s : Nat}, okX ops all s ks = true → ∀ (i : Nat) (k : XK), ks[i]? = some k → (match k with | .plain full us a => okX.peaceL ops (s + i) full us a 0 all = true | .eff _ _ _ => okX.afterL ops (s + i) 0 all = true)
  | [], s, _, i, k, hk => by simp at hk
  | k0 :: r, s, h, i, k, hk => by
    cases i with
    | zero =>
      simp at hk; subst hk
      cases k0 with
      | plain f us a => simp only [okX, Bool.and_eq_true] at h; exact h.1
      | eff out M H' => simp only [okX, Bool.and_eq_true] at h; exact h.1
    | succ i =>
      have h' : okX ops all (s + 1) r = true := by cases k0 <;> (simp only [okX, Bool.and_eq_true] at h; exact h.2)
      have := okX_at h' i k (by simpa using hk)
      rwa [show s + (i + 1) = s + 1 + i by omega]
def tabL (g : Nat → Option AV) : Nat → List (Nat × AV)
  | 0 => []
  | k + 1 => match g k with
    | some a => (k, a) :: tabL g k
    | none => tabL g k
theorem look_tabL (g : Nat → Option AV) (t : Nat) : ∀ (B : Nat), look (tabL g B) t = if t < B then g t else none
  | 0 => by simp [tabL, look]
  | B + 1 => by
    have ih := look_tabL g t B
    unfold tabL
    by_cases htB : B = t
    · subst htB
      cases hg : g B with
      | some a => simp only; rw [look_cons, if_pos rfl, if_pos (by omega)]
      | none => simp only; rw [ih, if_neg (by omega), if_pos (by omega)]
    · cases hg : g B with
      | some a =>
        simp only
        rw [look_cons, if_neg htB, ih]
        by_cases h : t < B
        · rw [if_pos h, if_pos (by omega)]
        · rw [if_neg h, if_neg (by omega)]
      | none =>
        simp only
        rw [ih]
        by_cases h : t < B
        · rw [if_pos h, if_pos (by omega)]
        · rw [if_neg h, if_neg (by omega)]
def keyB : List (Nat × AV) → Nat
  | [] => 0
  | p :: r => max (p.1 + 1) (keyB r)
theorem look_keyB : ∀ {fr : List (Nat × AV)} {x : Nat} {a : AV}, look fr x = some a → x < keyB fr
  | [], x, a, h => by simp [look] at h
  | p :: r, x, a, h => by
    obtain ⟨k, b⟩ := p
    rw [look_cons] at h
    simp only [keyB]
    split at h
    · rename_i e; omega
    · have := look_keyB h; omega
theorem subF_at : ∀ {E : List (Nat × AV)}, subF fr E → ∀ x a, look E x = some a → look fr x = some a
  | [], _, x, a, h => by simp [look] at h
  | p :: r, hs, x, a, h => by
    obtain ⟨k, b⟩ := p
    rw [look_cons] at h
    split at h
    · rename_i e
      injection h with h
      subst e; subst h
      exact hs.1
    · exact subF_at hs.2 x a h
theorem wp_monoQ {o : Oper} {a : Act} {w : World} {K K' : Act → World → Prop} {Q Q' : Exit → Act → World → Prop} (h : ∀ a w, K a w → K' a w) (hp : ∀ ch a w, Q (.panic ch) a w → Q' (.panic ch) a w) (hl : LetsOut Q → LetsOut Q') (hh : o.wp P a w K Q) : o.wp P a w K' Q' := by
  unfold Oper.wp at *
  generalize (execOp a.eval o).run P w = r at *
  unfold Oper.upon at *
  split at hh
  · exact h _ _ hh
  · exact h _ _ hh
  · exact h _ _ hh
  · refine Calls.mono hh ?_
    intro e w' he
    cases e with
    | returned v => exact h _ _ he
    | panicked ch => exact hp _ _ _ he
    | outgrown => exact hl he
  · exact Rows.mono hh fun v w' hv => h _ _ hv
  · exact hp _ _ _ hh
  · exact hh.elim
theorem look_app0 : ∀ (A B : List (Nat × AV)) (j : Nat), look (A ++ B) j = (look A j).or (look B j)
  | [], B, j => by simp [look]
  | (k, v) :: A, B, j => by
    rw [List.cons_append, look_cons, look_cons, look_app0 A B j]
    split <;> simp
theorem look_mem0 : ∀ {A : List (Nat × AV)} {j : Nat} {r : AV}, look A j = some r → (j, r) ∈ A
  | [], j, r, h => by simp [look] at h
  | (k, v) :: A, j, r, h => by
    rw [look_cons] at h
    split at h
    · rename_i e; subst e; simp at h; subst h; exact List.mem_cons_self
    · exact List.mem_cons_of_mem _ (look_mem0 h)
def memN : List Nat → Nat → Bool
  | [], _ => false
  | k :: r, j => match Nat.beq k j with | true => true | false => memN r j
theorem clo_lt {l : List Oper} (hb : ∀ {i : Nat} {o : Oper}, l[i]? = some o → ∀ j ∈ needs o, j < i) (b : Nat) : ∀ (n : Nat) (S : List Nat), (∀ k ∈ S, k < b) → ∀ k ∈ clo l.toArray n S, k < b
  | 0, S, h, k, hk => h k hk
  | n + 1, S, h, k, hk => by
    refine clo_lt hb b n _ ?_ k hk
    split
    · rename_i hc
      intro x hx
      rcases List.mem_append.1 hx with hx | hx
      · exact h x hx
      · unfold needsAt at hx
        cases ho : l.toArray[n]? with
        | none => rw [ho] at hx; cases hx
        | some o =>
          rw [ho] at hx
          have h1 := hb (i := n) (o := o) (by simpa using ho) x hx
          have h2 := h n (by simpa using hc)
          omega
    · exact h
theorem clo_lt' {l : List Oper} (hb : ∀ {i : Nat} {o : Oper}, l[i]? = some o → ∀ j ∈ needs o, j < i) {i j : Nat} {o : Oper} (ho : l[i]? = some o) (h : reach l.toArray i j = true) : j < i := by
  unfold reach at h
  refine clo_lt hb i i (needsAt l.toArray i) ?_ j (by simpa using h)
  intro k hk
  unfold needsAt at hk
  rw [show l.toArray[i]? = some o by simpa using ho] at hk
  exact hb ho k hk
structure XInv (c : Ctx) (n : Nat) (l : List Oper) (ks : List XK) (fr : List (Nat × AV)) (H : List (Nat × Res)) (S : Nat → Prop) (γ : Nat → Value) (m : Nat) (listed : Array Bool) (a : Act) (w : World) : Prop where
  bound : ∀ (e : Nat) (out : Option AV) (M : Nat → Bool) (H' : List (Nat × Res)), ks[e]? = some (.eff out M H') → (listed.getD e false = true ↔ e < m)
  rel : Rel c n [] (hL (ks.take m) H) S γ a.tmps w
  defers : a.defers = []
  closed : Closed l.toArray listed
  f1 : ∀ (i : Nat) (k : XK) (v : AV) (d : Nat), ks[i]? = some k → k.val = some v → dstOf l.toArray i = some d → listed.getD i false = true → (∀ (e : Nat) (out : Option AV) (M : Nat → Bool) (H' : List (Nat × Res)), ks[e]? = some (.eff out M H') → listed.getD e false = true → i < e → v.uses (fun j => !(M j)) = true) → v.holds S γ w (a.tmps.getD d undef)
  f2 : ∀ (x : Nat) (av : AV), (∀ i, dstOf l.toArray i = some x → listed.getD i false = false) → look fr x = some av → (∀ (e : Nat) (out : Option AV) (M : Nat → Bool) (H' : List (Nat × Res)), ks[e]? = some (.eff out M H') → listed.getD e false = true → av.uses (fun j => !(M j)) = true) → av.holds S γ w (a.tmps.getD x undef)
theorem Rel.nilF {S : Nat → Prop} {γ : Nat → Value} {tmps : Array Value} {w : World} (h : Rel c n fr H S γ tmps w) : Rel c n [] H S γ tmps w :=
  ⟨h.st, fun x av hx => by simp [look] at hx, h.up, h.own, h.ids, h.size, h.keep⟩
theorem hL_drop {ks : List XK} (h : Evx P c n ops HN N l fr H ks) : ∀ m, dropH N (hL (ks.take m) H) = dropH N H := by
  induction h with
  | nil => intro m; simp [hL]
  | @cons fr H o rest k ks h1 _ ih =>
    intro m
    cases m with
    | zero => simp [hL]
    | succ m =>
      rw [List.take_succ_cons, hL_cons, ih m]
      cases h1 with
      | plain _ _ => rfl
      | full _ _ => rfl
      | eff _ _ _ _ _ hN => simpa [hL] using hN
      | effU _ _ _ _ _ hN => simpa [hL] using hN
theorem hL_bound {ks : List XK} {p : Nat → Prop} {m m' : Nat} (hm : ∀ (e : Nat) (out : Option AV) (M : Nat → Bool) (H' : List (Nat × Res)), ks[e]? = some (.eff out M H') → (p e ↔ e < m)) (hm' : ∀ (e : Nat) (out : Option AV) (M : Nat → Bool) (H' : List (Nat × Res)), ks[e]? = some (.eff out M H') → (p e ↔ e < m')) (H : List (Nat × Res)) : hL (ks.take m) H = hL (ks.take m') H := by
  have key : ∀ {a b : Nat}, a ≤ b → (∀ (e : Nat) (out : Option AV) (M : Nat → Bool) (H' : List (Nat × Res)), ks[e]? = some (.eff out M H') → (p e ↔ e < a)) → (∀ (e : Nat) (out : Option AV) (M : Nat → Bool) (H' : List (Nat × Res)), ks[e]? = some (.eff out M H') → (p e ↔ e < b)) → hL (ks.take b) H = hL (ks.take a) H := by
    intro a b hab ha hb
    have e1 : ks.take b = ks.take a ++ (ks.drop a).take (b - a) := by
      rw [← List.take_add]; congr 1; omega
    rw [e1, hL_app]
    apply hL_none
    intro i out M H' hi
    rw [List.getElem?_take] at hi
    split at hi
    · rename_i hlt
      rw [List.getElem?_drop] at hi
      have h1 := ha _ _ _ _ hi
      have h2 := hb _ _ _ _ hi
      have : a + i < a := h1.1 (h2.2 (by omega))
      omega
    · cases hi
  rcases Nat.le_total m m' with h | h
  · exact (key h hm hm').symm
  · exact key h hm' hm
def depsX (ops : Array Oper) : Bool := (List.range ops.size).all fun i => match ops[i]? with
  | none => true
  | some o => (o.op.operands.toList.all fun | .tmp t => outside ops t || ((needs o).any fun j => dstOf ops j == some t) || ((List.range ops.size).all fun j => dstOf ops j != some t || reach ops j i) | _ => true) && (match o.guard with | some (j, _) => (needs o).contains j | none => true)
theorem a_region_X (NL : List Nat) {id : Nat} (hm : P.follows .mixedOrders = true) (hb : backB l.toArray = true) (hc : uOk l.toArray n = true) (hdep : depsX l.toArray = true)
    (ev : EvX P c n l.toArray (dropH (memN NL) H) (memN NL) (fun fr' H' ks => True ∧ okX l.toArray ks 0 ks = true ∧ Q .normal fr' H') l fr H) : ACode P c n (.region id l.toArray true) Q fr H := fun S0 γ0 tmps0 w00 hr => by
  classical
  obtain ⟨ks, h1, _, hok, h2⟩ := ev.ev
  clear ev
  have hlen := h1.len
  have hdst : ∀ {i : Nat} {o : Oper}, l[i]? = some o → dstOf l.toArray i = o.dst := fun ho => by unfold dstOf; simp [ho]
  have hdo : ∀ {i d : Nat}, dstOf l.toArray i = some d → ∃ o, l[i]? = some o ∧ o.dst = some d := fun {i d} h => by
    unfold dstOf at h
    cases ho : l[i]? with
    | none => simp [ho] at h
    | some o => exact ⟨o, rfl, by simpa [ho] using h⟩
  have okp : ∀ (i : Nat) (full : Bool) (us : List AV) (a : AV), ks[i]? = some (.plain full us a) → ∀ (e : Nat) (out : Option AV) (M : Nat → Bool) (H' : List (Nat × Res)), ks[e]? = some (.eff out M H') → peace l.toArray i e full us a M = true := fun i full us a hi e out M H' he => by
    have h3 := okX_at hok i _ hi
    simp only [Nat.zero_add] at h3
    simpa using peaceL_at h3 e out M H' he
  have oka : ∀ (i : Nat) (out : Option AV) (M : Nat → Bool) (H' : List (Nat × Res)), ks[i]? = some (.eff out M H') → ∀ (e : Nat) (out : Option AV) (M : Nat → Bool) (H' : List (Nat × Res)), ks[e]? = some (.eff out M H') → e < i → reach l.toArray i e = true := fun i out M H' hi e out' M' H'' he hlt => by
    have h3 := okX_at hok i _ hi
    simp only [Nat.zero_add] at h3
    simpa using afterL_at h3 e out' M' H'' he (by omega)
  have hkd : ∀ {i : Nat} {k : XK}, ks[i]? = some k → ∃ o, l[i]? = some o ∧ KX P c n l.toArray (dropH (memN NL) H) (memN NL) (xFr (l.take i) (ks.take i) fr) (hL (ks.take i) H) o k := fun {i k} h => by
    have hlt : i < l.length := by have := (List.getElem?_eq_some_iff.1 h).1; omega
    obtain ⟨k', h3, h4⟩ := h1.get i l[i] (List.getElem?_eq_getElem hlt)
    rw [h] at h3; injection h3 with h3; subst h3
    exact ⟨_, List.getElem?_eq_getElem hlt, h4⟩
  have hval : ∀ {i d : Nat}, dstOf l.toArray i = some d → ∃ k v, ks[i]? = some k ∧ k.val = some v := fun {i d} h => by
    obtain ⟨o, ho, hd⟩ := hdo h
    obtain ⟨k, hk, hkx⟩ := h1.get i o ho
    cases hkx with
    | plain _ _ => exact ⟨_, _, hk, rfl⟩
    | full _ _ => exact ⟨_, _, hk, rfl⟩
    | eff _ _ _ _ _ _ => exact ⟨_, _, hk, rfl⟩
    | effU hd' _ _ _ _ _ => rw [hd'] at hd; cases hd
  have houtl : ∀ {x : Tmp}, outside l.toArray x = true → ∀ i, dstOf l.toArray i ≠ some x := by
    intro x hx i hi
    obtain ⟨o, ho, hd⟩ := hdo hi
    unfold outside at hx
    have := Array.all_eq_true'.1 hx o (by simpa using List.mem_of_getElem? ho)
    simp [hd] at this
  have hset : ∀ {listed : Array Bool} {i : Nat}, i < listed.size → ∀ j, (listed.setIfInBounds i true).getD j false = if j = i then true else listed.getD j false := by
    intro listed i hlt j
    simp only [Array.getD_eq_getD_getElem?, Array.getElem?_setIfInBounds]
    by_cases hji : i = j
    · subst hji; rw [if_pos rfl, if_pos hlt]; simp
    · rw [if_neg hji, if_neg (by omega)]
  -- what an operation looks at
  have hdx : ∀ {i : Nat} {o : Oper}, l[i]? = some o → ((o.op.operands.toList.all fun | .tmp t => outside l.toArray t || ((needs o).any fun j => dstOf l.toArray j == some t) || ((List.range l.toArray.size).all fun j => dstOf l.toArray j != some t || reach l.toArray j i) | _ => true) && (match o.guard with | some (j, _) => (needs o).contains j | none => true)) = true := fun {i o} ho => by
    have hil : i < l.toArray.size := by simpa using (List.getElem?_eq_some_iff.1 ho).1
    have := List.all_eq_true.1 hdep i (List.mem_range.2 hil)
    rw [show l.toArray[i]? = some o by simpa using ho] at this
    exact this
  have hops : ∀ {i : Nat} {o : Oper}, l[i]? = some o → ∀ x, Operand.tmp x ∈ o.op.operands.toList → (∃ j, j ∈ needs o ∧ dstOf l.toArray j = some x) ∨ ∀ j, dstOf l.toArray j = some x → reach l.toArray j i = true := fun {i o} ho x hx => by
    have := hdx ho
    simp only [Bool.and_eq_true] at this
    have h3 := List.all_eq_true.1 this.1 (.tmp x) hx
    simp only [Bool.or_eq_true] at h3
    rcases h3 with (h3 | h3) | h3
    · exact .inr fun j hj => absurd hj (houtl h3 j)
    · rw [List.any_eq_true] at h3
      obtain ⟨j, hj, hjd⟩ := h3
      exact .inl ⟨j, hj, by simpa using hjd⟩
    · refine .inr fun j hj => ?_
      obtain ⟨o', ho', _⟩ := hdo hj
      have hjl : j < l.toArray.size := by simpa using (List.getElem?_eq_some_iff.1 ho').1
      have h4 := List.all_eq_true.1 h3 j (List.mem_range.2 hjl)
      simpa [hj] using h4
  have hgrd : ∀ {i : Nat} {o : Oper}, l[i]? = some o → ∀ j want, o.guard = some (j, want) → j ∈ needs o := fun {i o} ho j want hg => by
    have := hdx ho
    simp only [Bool.and_eq_true] at this
    have h3 := this.2
    rw [hg] at h3
    simpa using h3
  have hback : ∀ {i : Nat} {o : Oper}, l[i]? = some o → ∀ j ∈ needs o, j < i := fun {i o} ho j hj => backB_at hb (by simpa using ho) j hj
  have htk : ∀ (i : Nat), (l.take i).length = (ks.take i).length := fun i => by simp [hlen]
  -- the frame ahead of an operation, slot by slot
  have hframe : ∀ {i : Nat} {o : Oper}, l[i]? = some o → ∀ x av, ((∃ j, j ∈ needs o ∧ dstOf l.toArray j = some x) ∨ ∀ j, dstOf l.toArray j = some x → reach l.toArray j i = true) → look (xFr (l.take i) (ks.take i) fr) x = some av →
      (∃ j k v, j < i ∧ j ∈ needs o ∧ ks[j]? = some k ∧ k.val = some v ∧ dstOf l.toArray j = some x ∧ (av = .any ∨ (av = v ∧ ∀ (e : Nat) (out : Option AV) (M : Nat → Bool) (H' : List (Nat × Res)), ks[e]? = some (.eff out M H') → j < e → e < i → v.uses (fun j => !(M j)) = true)) ∧ ((∀ (e : Nat) (out : Option AV) (M : Nat → Bool) (H' : List (Nat × Res)), ks[e]? = some (.eff out M H') → j < e → e < i → v.uses (fun j => !(M j)) = true) → av = v)) ∨
      ((∀ j, dstOf l.toArray j = some x → reach l.toArray j i = true) ∧ ∃ a0, look fr x = some a0 ∧ (av = .any ∨ (av = a0 ∧ ∀ (e : Nat) (out : Option AV) (M : Nat → Bool) (H' : List (Nat × Res)), ks[e]? = some (.eff out M H') → e < i → a0.uses (fun j => !(M j)) = true)) ∧ ((∀ (e : Nat) (out : Option AV) (M : Nat → Bool) (H' : List (Nat × Res)), ks[e]? = some (.eff out M H') → e < i → a0.uses (fun j => !(M j)) = true) → av = a0)) := fun {i o} ho x av hx hl => by
    have hil : i < l.length := (List.getElem?_eq_some_iff.1 ho).1
    rcases xFr_look _ _ _ _ _ (htk i) hl with ⟨j, o', k, v, g1, g2, g3, g4, g5⟩ | ⟨g1, a0, g2, g3⟩
    · rw [List.getElem?_take] at g1 g2
      split at g1
      · rename_i hji
        rw [if_pos hji] at g2
        have hjd := (hdst g1).trans g3
        refine .inl ⟨j, k, v, hji, ?_, g2, g4, hjd, ?_⟩
        · rcases hx with ⟨j', hj', hd'⟩ | hx
          · have := (uOk_at hc hjd).2 j' hd'
            rw [this]; exact hj'
          · have := hx j hjd
            have h0 := clo_lt' hback g1 this
            omega
        · refine ⟨?_, fun hall => g5.trans (maskL_eq _ _ fun e out M H' he => ?_)⟩
          · rcases maskL_or ((ks.take i).drop (j + 1)) v with h | ⟨h3, h4⟩
            · exact .inl (g5.trans h)
            · refine .inr ⟨g5.trans h3, fun e out M H' he hje hei => h4 (e - (j + 1)) out M H' ?_⟩
              rw [List.getElem?_drop, List.getElem?_take, if_pos (by omega), show j + 1 + (e - (j + 1)) = e by omega]
              exact he
          · rw [List.getElem?_drop, List.getElem?_take] at he
            split at he
            · exact hall _ out M H' he (by omega) (by omega)
            · cases he
      · cases g1
    · refine .inr ⟨?_, a0, g2, ?_⟩
      · rcases hx with ⟨j', hj', hd'⟩ | hx
        · exfalso
          have hji := hback ho j' hj'
          obtain ⟨o', ho', hd⟩ := hdo hd'
          obtain ⟨k, v, hk, hv⟩ := hval hd'
          exact g1 j' o' k v (by rw [List.getElem?_take, if_pos hji]; exact ho') (by rw [List.getElem?_take, if_pos hji]; exact hk) hv hd
        · exact hx
      · refine ⟨?_, fun hall => g3.trans (maskL_eq _ _ fun e out M H' he => ?_)⟩
        · rcases maskL_or (ks.take i) a0 with h | ⟨h3, h4⟩
          · exact .inl (g3.trans h)
          · refine .inr ⟨g3.trans h3, fun e out M H' he hei => h4 e out M H' ?_⟩
            rw [List.getElem?_take, if_pos hei]; exact he
        · rw [List.getElem?_take] at he
          split at he
          · exact hall _ out M H' he (by omega)
          · cases he
  -- what an operation looks at holds
  have hsee : ∀ {i : Nat} {o : Oper} {listed : Array Bool} {a : Act} {w : World} {S : Nat → Prop} {γ : Nat → Value} {m : Nat}, l[i]? = some o → listed.getD i false = false → (∀ j ∈ needs o, listed.getD j false = true) → (∀ j, reach l.toArray j i = true → listed.getD j false = false) → XInv c n l ks fr H S γ m listed a w → ∀ x av, ((∃ j, j ∈ needs o ∧ dstOf l.toArray j = some x) ∨ ∀ j, dstOf l.toArray j = some x → reach l.toArray j i = true) → look (xFr (l.take i) (ks.take i) fr) x = some av → (∀ (e : Nat) (out : Option AV) (M : Nat → Bool) (H' : List (Nat × Res)), ks[e]? = some (.eff out M H') → listed.getD e false = true → i < e → av.uses (fun j => !(M j)) = true) → av.holds S γ w (a.tmps.getD x undef) := fun {i o listed a w S γ m} ho hl hneed hno' hI x av hx hlk hun => by
    rcases hframe ho x av hx hlk with ⟨j, k, v, hji, hjn, hk, hv, hd, rfl | ⟨rfl, hm2⟩, _⟩ | ⟨hno, a0, ha0, rfl | ⟨rfl, hm2⟩, _⟩
    · simp [AV.holds]
    · refine hI.f1 j k av x hk hv hd (hneed j hjn) fun e out M H' he hel hje => ?_
      by_cases hei : e < i
      · exact hm2 e out M H' he hje hei
      · have : e ≠ i := fun e' => by subst e'; rw [hl] at hel; cases hel
        exact hun e out M H' he hel (by omega)
    · simp [AV.holds]
    · refine hI.f2 x av (fun j hj => hno' j (hno j hj)) ha0 fun e out M H' he hel => ?_
      by_cases hei : e < i
      · exact hm2 e out M H' he hei
      · have : e ≠ i := fun e' => by subst e'; rw [hl] at hel; cases hel
        exact hun e out M H' he hel (by omega)
  have hreach : ∀ {i j : Nat} {o : Oper} {listed : Array Bool}, l[i]? = some o → Closed l.toArray listed → (∀ k ∈ needs o, listed.getD k false = true) → reach l.toArray i j = true → listed.getD j false = true := fun {i j o listed} ho hcl hneed hre => by
    refine clo_listed hcl i (needsAt l.toArray i) ?_ j (by simpa [reach] using hre)
    intro k hk
    unfold needsAt at hk
    rw [show l.toArray[i]? = some o by simpa using ho] at hk
    exact hneed k hk
  refine region_inv (Inv := fun listed a w => ∃ S γ m, XInv c n l ks fr H S γ m listed a w) hm hb ?_ ?_ ?_
  · have hf : ∀ i, (Array.replicate l.toArray.size false).getD i false = false := fun i => by
      simp only [Array.getD_eq_getD_getElem?, Array.getElem?_replicate]
      split <;> rfl
    have x0 : Ext w00 { w00 with drawn := w00.drawn + 1 } := ⟨rfl, rfl, rfl, Nat.le_refl _, fun _ _ => rfl⟩
    have hr0 := hr.ext x0
    refine ⟨_, _, 0, ?_, hr0.nilF, rfl, ?_, ?_, ?_⟩
    · intro e out M H' _; rw [hf]; simp
    · intro j o ho hj; rw [hf] at hj; cases hj
    · intro i k v d _ _ _ hj; rw [hf] at hj; cases hj
    · intro x av _ hx _
      exact hr0.fr x av hx
  · rintro i o listed ⟨tm, df⟩ w hs ho hl hneed ⟨S, γ, m, hI⟩
    have hdf : df = [] := hI.defers
    subst hdf
    have hol : l[i]? = some o := by simpa using ho
    have hlt : i < listed.size := by rw [hs]; exact (Array.getElem?_eq_some_iff.1 ho).1
    obtain ⟨k, hki, hko⟩ := h1.get i o hol
    have hcl : Closed l.toArray (listed.setIfInBounds i true) := by
      intro j o' ho' hj k hk'
      rw [hset hlt]
      split
      · rfl
      · rw [hset hlt] at hj
        by_cases hji : j = i
        · subst hji
          rw [ho] at ho'
          injection ho' with ho'
          subst ho'
          exact hneed k hk'
        · rw [if_neg hji] at hj
          exact hI.closed j o' ho' hj k hk'
    have hnof : ∀ {e : Nat}, listed.getD e false = true → reach l.toArray e i = false := fun {e} he => by
      cases hre : reach l.toArray e i with
      | false => rfl
      | true =>
        have hel : e < l.length := by
          have : e < listed.size := by
            apply Classical.byContradiction
            intro hn
            rw [Array.getD_eq_getD_getElem?, Array.getElem?_eq_none (by omega)] at he
            cases he
          rw [hs] at this; simpa using this
        have hoe := List.getElem?_eq_getElem hel
        have := hreach hoe hI.closed (hI.closed e _ (by simp) he) hre
        rw [hl] at this; cases this
    have hlate : ∀ j, reach l.toArray j i = true → listed.getD j false = false := fun j hj => by
      cases hl2 : listed.getD j false with
      | false => rfl
      | true => rw [hnof hl2] at hj; cases hj
    have hmem : ∀ {x : Nat} {av : AV} {fr' : List (Nat × AV)}, Operand.tmp x ∈ o.op.operands.toList → look fr' x = some av → av ∈ opAvs o fr' := fun {x av fr'} hx hlk => by
      unfold opAvs
      exact List.mem_filterMap.2 ⟨.tmp x, hx, hlk⟩
    -- an operation that only makes
    have plain : ∀ (full : Bool) (av : AV) (d : Nat) (HX : List (Nat × Res)), k = .plain full (opAvs o (xFr (l.take i) (ks.take i) fr)) av → o.dst = some d → OpAv P l.toArray (xFr (l.take i) (ks.take i) fr) HX o av → St S γ w HX → wpOp P l.toArray (lift c n Q) i (fun a' w' => ∃ S γ m, XInv c n l ks fr H S γ m (listed.setIfInBounds i true) a' w') ⟨tm, []⟩ w := by
      intro full av d HX hke hd hoa hstx
      subst hke
      have hdi := (hdst hol).trans hd
      obtain ⟨hdn, huq⟩ := uOk_at hc hdi
      have hdt : d < tm.size := by rw [hI.rel.size]; exact hdn
      have hput : ∀ v, (Act.put ⟨tm, []⟩ o.dst v) = ⟨tm.setIfInBounds d v, []⟩ := fun v => by rw [hd]; rfl
      have hoth : ∀ {j e : Nat}, j ≠ i → dstOf l.toArray j = some e → d ≠ e := fun hj he e => hj (huq _ (by rw [e]; exact he)).symm
      have noeff : ∀ {e : Nat} {out : Option AV} {M : Nat → Bool} {H' : List (Nat × Res)}, ks[e]? = some (.eff out M H') → e ≠ i := fun he e' => by subst e'; rw [hki] at he; cases he
      have hun : ∀ (e : Nat) (out : Option AV) (M : Nat → Bool) (H' : List (Nat × Res)), ks[e]? = some (.eff out M H') → listed.getD e false = true → i < e → av.uses (fun j => !(M j)) = true ∧ unaffL (opAvs o (xFr (l.take i) (ks.take i) fr)) M = true := fun e out M H' he hel hie => by
        have hp := okp i _ _ _ hki e out M H' he
        unfold peace at hp
        have hb1 : Nat.blt i e = true := Nat.ble_eq_true_of_le (by omega)
        rw [hb1, hnof hel] at hp
        cases full with
        | true => cases hp
        | false =>
          simp only [Bool.and_eq_true] at hp
          exact hp
      have next : ∀ (v : Value) (w' : World), Ext w w' → av.holds (FreshS S w w') γ w' v → ∃ S γ m, XInv c n l ks fr H S γ m (listed.setIfInBounds i true) ⟨tm.setIfInBounds d v, []⟩ w' := fun v w' x hv => by
        have hrx := hI.rel.ext x
        have hsm : Same S w w' := same_of_ext hI.rel.st.sz x
        refine ⟨FreshS S w w', γ, m, ?_, ⟨hrx.st, fun y a hy => by simp [look] at hy, hrx.up, hrx.own, hrx.ids, by simpa using hrx.size, hrx.keep⟩, rfl, hcl, ?_, ?_⟩
        · intro e out M H' he
          rw [hset hlt, if_neg (noeff he)]
          exact hI.bound e out M H' he
        · intro j kj vj dj hj hvj hdj hlj hunj
          show AV.holds _ _ _ _ ((tm.setIfInBounds d v).getD dj undef)
          rw [getD_set hdt]
          by_cases hji : j = i
          · subst hji
            rw [hki] at hj; injection hj with hj; subst hj
            simp only [XK.val, Option.some.injEq] at hvj; subst hvj
            rw [hdi] at hdj; injection hdj with hdj; subst hdj
            rw [if_pos rfl]; exact hv
          · rw [if_neg (hoth hji hdj)]
            rw [hset hlt, if_neg hji] at hlj
            refine AV.ext freshS_sub hsm (hI.f1 j kj vj dj hj hvj hdj hlj fun e out M H' he hel hje => hunj e out M H' he ?_ hje)
            rw [hset hlt, if_neg (noeff he)]; exact hel
        · intro y a hno hy huny
          show AV.holds _ _ _ _ ((tm.setIfInBounds d v).getD y undef)
          have hyd : d ≠ y := fun e => by
            have := hno i (by rw [← e]; exact hdi)
            rw [hset hlt, if_pos rfl] at this; cases this
          rw [getD_set hdt, if_neg hyd]
          refine AV.ext freshS_sub hsm (hI.f2 y a (fun j hj => by
            have := hno j hj
            rw [hset hlt] at this
            split at this
            · cases this
            · exact this) hy fun e out M H' he hel => huny e out M H' he ?_)
          rw [hset hlt, if_neg (noeff he)]; exact hel
      have henv : Env (xFr (l.take i) (ks.take i) fr) HX (fun x => x ∈ o.op.operands) (Act.eval ⟨tm, []⟩) S γ w := by
        refine ⟨hstx, ?_, fun _ => rfl, fun _ => rfl, fun _ => rfl⟩
        intro x a hux hlx
        have hux' : Operand.tmp x ∈ o.op.operands.toList := by simpa using hux
        exact hsee hol hl hneed hlate hI x a (hops hol x hux') hlx fun e out M H' he hel hie => unaffL_at (hun e out M H' he hel hie).2 a (hmem hux' hlx)
      have hgv : ∀ {j dj : Nat} {want : Bool} {a : AV}, o.guard = some (j, want) → dstOf l.toArray j = some dj → look (xFr (l.take i) (ks.take i) fr) dj = some a → (∀ p, a.uses p = true) → a.holds S γ w (tm.getD dj undef) := fun {j dj want a} hg hdj hlk hu => by
        exact hsee hol hl hneed hlate hI dj a (.inl ⟨j, hgrd hol j want hg, hdj⟩) hlk fun e out M H' _ _ _ => hu _
      have run : ∀ a' : AV, SOp P o (xFr (l.take i) (ks.take i) fr) HX a' → (∀ v w', a'.holds (FreshS S w w') γ w' v → av.holds (FreshS S w w') γ w' v) → o.wp P ⟨tm, []⟩ w (fun a' w' => ∃ S γ m, XInv c n l ks fr H S γ m (listed.setIfInBounds i true) a' w') (lift c n Q) := by
        intro a' hs' ha
        refine Outcome.upon ((hs' S γ w _ henv).mono ?_)
        rintro v w' ⟨x, hv⟩
        rw [hput]
        exact next v w' x (ha v w' hv)
      have skip : av.holds (FreshS S w w) γ w undef → ∃ S γ m, XInv c n l ks fr H S γ m (listed.setIfInBounds i true) (Act.put ⟨tm, []⟩ o.dst undef) w := fun hv => by
        rw [hput]; exact next undef w (Ext.refl w) hv
      have yields : ∀ {j dj : Nat}, dstOf l.toArray j = some dj → ∀ want : Bool, (yielded l.toArray tm j = some want ↔ tm.getD dj undef = .bool want) := fun {j dj} hd' want => by
        unfold yielded
        unfold dstOf at hd'
        rw [hd']
        simp only [Array.getD_eq_getD_getElem?]
        cases ht : tm[dj]? with
        | none => simp [ht, undef]
        | some u =>
          simp only [ht, Option.getD_some]
          cases u <;> simp [ht]
      unfold wpOp
      simp only [ho]
      cases hoa with
      | plain hg hs' =>
        rw [if_pos (by simp [Region.wanted, hg])]
        exact .inl (run _ hs' (fun _ _ h => h))
      | @guard a j dj want b hg hdj hlk hs' =>
        have hb := hgv hg hdj hlk (fun p => rfl)
        simp only [AV.holds] at hb
        have hy := yields hdj want
        by_cases hbw : b = want
        · rw [if_pos (by simp [Region.wanted, hg, hy, hb, hbw])]
          refine .inl (run _ (hs' hbw) fun v w' hv => ?_)
          simp only [AV.holds]
          exact ⟨fun _ => hv, fun hn => absurd hbw hn⟩
        · rw [if_neg (by simp [Region.wanted, hg, hy, hb, hbw])]
          refine skip ?_
          simp only [AV.holds]
          exact ⟨fun h => absurd h hbw, fun _ => trivial⟩
      | @guardw a j dj want b p hg hdj hlk hs' =>
        have hb := hgv hg hdj hlk (fun p => rfl)
        simp only [AV.holds] at hb
        have hy := yields hdj want
        by_cases hbw : p ∧ b = want
        · rw [if_pos (by simp [Region.wanted, hg, hy, hb.1 hbw.1, hbw.2])]
          refine .inl (run _ (hs' hbw) fun v w' hv => ?_)
          simp only [AV.holds]
          exact ⟨fun _ => hv, fun hn => absurd hbw hn⟩
        · have hno : ¬ tm.getD dj undef = .bool want := by
            intro e
            by_cases hp : p
            · have h3 := hb.1 hp
              rw [e] at h3
              simp only [Value.bool.injEq] at h3
              exact hbw ⟨hp, h3.symm⟩
            · have h3 := hb.2 hp
              rw [e] at h3
              simp [undef] at h3
          rw [if_neg (by simp only [Region.wanted, hg]; rw [beq_iff_eq, hy]; exact hno)]
          refine skip ?_
          simp only [AV.holds]
          exact ⟨fun h => absurd h hbw, fun _ => trivial⟩
    have yields : ∀ {j dj : Nat}, dstOf l.toArray j = some dj → ∀ want : Bool, (yielded l.toArray tm j = some want ↔ tm.getD dj undef = .bool want) := fun {j dj} hd' want => by
      unfold yielded
      unfold dstOf at hd'
      rw [hd']
      simp only [Array.getD_eq_getD_getElem?]
      cases ht : tm[dj]? with
      | none => simp [ht, undef]
      | some u =>
        simp only [ht, Option.getD_some]
        cases u <;> simp [ht]
    -- an effect
    have effect : ∀ (out : Option AV) (M : Nat → Bool) (H' : List (Nat × Res)) (E : List (Nat × AV)), k = .eff out M H' → GYes l.toArray o (xFr (l.take i) (ks.take i) fr) → subF (xFr (l.take i) (ks.take i) fr) E → (E.all fun p => isOpd o p.1) = true → (∀ d, o.dst = some d → ∃ v, out = some v) →
        (∀ L : List (Nat × AV), Rel c n (E ++ L) (hL (ks.take i) H) S γ tm w → o.wp P ⟨tm, []⟩ w (fun a' w' => ∃ FR S' γ', (∀ d, o.dst = some d → ∃ v, out = some v ∧ look FR d = some v) ∧ (∀ x, o.dst ≠ some x → look FR x = (look (E ++ L) x).map (mark1 M)) ∧ Rel c n FR H' S' γ' a'.tmps w' ∧ a'.defers = []) (fun _ _ _ => False)) →
        wpOp P l.toArray (lift c n Q) i (fun a' w' => ∃ S γ m, XInv c n l ks fr H S γ m (listed.setIfInBounds i true) a' w') ⟨tm, []⟩ w := by
      intro out M H' E hke hg hE hEo hdo' run
      subst hke
      have hbi : ∀ (e : Nat) (out : Option AV) (M : Nat → Bool) (H' : List (Nat × Res)), ks[e]? = some (.eff out M H') → (listed.getD e false = true ↔ e < i) := fun e out' M' H'' he => by
        constructor
        · intro hel
          apply Classical.byContradiction
          intro hn
          have hei : e ≠ i := fun e' => by subst e'; rw [hl] at hel; cases hel
          have := oka e out' M' H'' he i out M H' hki (by omega)
          rw [hnof hel] at this; cases this
        · intro hlt'
          exact hreach hol hI.closed hneed (oka i out M H' hki e out' M' H'' he hlt')
      have hH : hL (ks.take m) H = hL (ks.take i) H := hL_bound (p := fun e => listed.getD e false = true) hI.bound hbi H
      let P1 : Nat → AV → Prop := fun t v => ∃ (j : Nat) (k : XK), ks[j]? = some k ∧ k.val = some v ∧ dstOf l.toArray j = some t ∧ listed.getD j false = true ∧ ∀ (e : Nat) (out : Option AV) (M : Nat → Bool) (H' : List (Nat × Res)), ks[e]? = some (.eff out M H') → listed.getD e false = true → j < e → v.uses (fun j => !(M j)) = true
      let P2 : Nat → AV → Prop := fun t v => (∀ j, dstOf l.toArray j = some t → listed.getD j false = false) ∧ look fr t = some v ∧ ∀ (e : Nat) (out : Option AV) (M : Nat → Bool) (H' : List (Nat × Res)), ks[e]? = some (.eff out M H') → listed.getD e false = true → v.uses (fun j => !(M j)) = true
      have huni : ∀ t u v, (P1 t u ∨ P2 t u) → (P1 t v ∨ P2 t v) → u = v := by
        rintro t u v (⟨j, k, q1, q2, q3, q4, _⟩ | ⟨q1, q2, _⟩) (⟨j', k', r1, r2, r3, r4, _⟩ | ⟨r1, r2, _⟩)
        · have := (uOk_at hc q3).2 j' r3
          subst this
          rw [q1] at r1; injection r1 with r1; subst r1
          rw [q2] at r2; injection r2
        · rw [r1 j q3] at q4; cases q4
        · rw [q1 j' r3] at r4; cases r4
        · rw [q2] at r2; injection r2
      let g : Nat → Option AV := fun t => if h : ∃ v, P1 t v ∨ P2 t v then some h.choose else none
      have hg1 : ∀ t v, g t = some v → P1 t v ∨ P2 t v := fun t v hgt => by
        simp only [g] at hgt
        split at hgt
        · rename_i h
          injection hgt with hgt
          rw [← hgt]; exact h.choose_spec
        · cases hgt
      have hg2 : ∀ t v, (P1 t v ∨ P2 t v) → g t = some v := fun t v h => by
        have hex : ∃ v, P1 t v ∨ P2 t v := ⟨v, h⟩
        simp only [g, dif_pos hex]
        rw [huni t _ v hex.choose_spec h]
      have hlL : ∀ t, t < max (keyB fr) n → look (tabL g (max (keyB fr) n)) t = g t := fun t ht => by
        rw [look_tabL, if_pos ht]
      have hopd : ∀ x a, look E x = some a → Operand.tmp x ∈ o.op.operands.toList := fun x a hx => by
        have h3 := List.all_eq_true.1 hEo _ (look_mem0 hx)
        unfold isOpd at h3
        rw [List.any_eq_true] at h3
        obtain ⟨y, hy, h4⟩ := h3
        cases y with
        | tmp u => have := Nat.eq_of_beq_eq_true h4; simp only at this; subst this; exact hy
        | _ => cases h4
      have hrel : Rel c n (E ++ tabL g (max (keyB fr) n)) (hL (ks.take i) H) S γ tm w := by
        rw [← hH]
        refine ⟨hI.rel.st, fun x av hx => ?_, hI.rel.up, hI.rel.own, hI.rel.ids, hI.rel.size, hI.rel.keep⟩
        rw [look_app0] at hx
        cases hEx : look E x with
        | some a =>
          rw [hEx] at hx
          simp only [Option.some_or, Option.some.injEq] at hx
          subst hx
          exact hsee hol hl hneed hlate hI x a (hops hol x (hopd x a hEx)) (subF_at hE x a hEx) fun e out' M' H'' he hel hie => by
            have := (hbi e out' M' H'' he).1 hel
            omega
        | none =>
          rw [hEx] at hx
          simp only [Option.none_or] at hx
          rw [look_tabL] at hx
          split at hx
          · rcases hg1 x av hx with ⟨j, k, q1, q2, q3, q4, q5⟩ | ⟨q1, q2, q3⟩
            · exact hI.f1 j k av x q1 q2 q3 q4 q5
            · exact hI.f2 x av q1 q2 q3
          · cases hx
      have hgv : ∀ {j dj : Nat} {want : Bool} {a : AV}, o.guard = some (j, want) → dstOf l.toArray j = some dj → look (xFr (l.take i) (ks.take i) fr) dj = some a → (∀ p, a.uses p = true) → a.holds S γ w (tm.getD dj undef) := fun {j dj want a} hg hdj hlk hu => by
        exact hsee hol hl hneed hlate hI dj a (.inl ⟨j, hgrd hol j want hg, hdj⟩) hlk fun e out M H' _ _ _ => hu _
      have hwant : Region.wanted o (yielded l.toArray tm) = true := by
        cases hg with
        | none h => simp [Region.wanted, h]
        | yes h hd hlk =>
          have hb := hgv h hd hlk (fun p => rfl)
          simp only [AV.holds] at hb
          simp [Region.wanted, h, yields hd, hb]
        | yesw h hd hlk hp =>
          have hb := hgv h hd hlk (fun p => rfl)
          simp only [AV.holds] at hb
          simp [Region.wanted, h, yields hd, hb.1 hp]
      unfold wpOp
      simp only [ho]
      rw [if_pos hwant]
      refine .inl (wp_monoQ ?_ (fun _ _ _ h => h.elim) (fun ⟨_, _, h⟩ => h.elim) (run _ hrel))
      rintro ⟨tm', df'⟩ w' ⟨FR, S', γ', hF1, hF2, hrel', hdef⟩
      have hki' : (listed.setIfInBounds i true).getD i false = true := by rw [hset hlt, if_pos rfl]
      refine ⟨S', γ', i + 1, ?_, ?_, hdef, hcl, ?_, ?_⟩
      · intro e out' M' H'' he
        rw [hset hlt]
        by_cases hei : e = i
        · rw [if_pos hei]; simp [hei]
        · rw [if_neg hei, hbi e out' M' H'' he]
          constructor <;> intro h <;> omega
      · have e1 : ks.take (i + 1) = ks.take i ++ [.eff out M H'] := by rw [List.take_add_one, hki]; rfl
        rw [e1, hL_app]
        exact hrel'.nilF
      · intro j kj vj dj hj hvj hdj hlj hunj
        show AV.holds _ _ _ _ (tm'.getD dj undef)
        by_cases hji : j = i
        · subst hji
          rw [hki] at hj; injection hj with hj; subst hj
          obtain ⟨v, hv, hlv⟩ := hF1 dj ((hdst hol).symm.trans hdj)
          simp only [XK.val] at hvj
          rw [hv] at hvj; injection hvj with hvj; subst hvj
          exact hrel'.fr dj v hlv
        · rw [hset hlt, if_neg hji] at hlj
          have hne : o.dst ≠ some dj := fun e => hji ((uOk_at hc hdj).2 i ((hdst hol).trans e))
          have huse : vj.uses (fun j => !(M j)) = true := by
            by_cases hjl : j < i
            · exact hunj i out M H' hki hki' hjl
            · cases kj with
              | eff out' M' H'' =>
                have := (hbi j out' M' H'' hj).1 hlj
                omega
              | plain full us a =>
                simp only [XK.val, Option.some.injEq] at hvj; subst hvj
                have hp := okp j full us a hj i out M H' hki
                unfold peace at hp
                have hb1 : Nat.blt j i = false := by
                  cases hb2 : Nat.blt j i with
                  | false => rfl
                  | true => have := Nat.le_of_ble_eq_true hb2; omega
                rw [hb1, hnof hlj] at hp
                cases full with
                | true => cases hp
                | false => exact hp
          have hbet : ∀ (e : Nat) (out : Option AV) (M : Nat → Bool) (H' : List (Nat × Res)), ks[e]? = some (.eff out M H') → j < e → e < i → vj.uses (fun j => !(M j)) = true := fun e out' M' H'' he hje hei => by
            refine hunj e out' M' H'' he ?_ hje
            rw [hset hlt, if_neg (by omega)]
            exact (hbi e out' M' H'' he).2 hei
          have hlk : look (E ++ tabL g (max (keyB fr) n)) dj = some vj := by
            rw [look_app0]
            cases hEx : look E dj with
            | some a =>
              simp only [Option.some_or, Option.some.injEq]
              rcases hframe hol dj a (hops hol dj (hopd dj a hEx)) (subF_at hE dj a hEx) with ⟨j', k', v', _, _, q1, q2, q3, _, q4⟩ | ⟨q1, _⟩
              · have := (uOk_at hc hdj).2 j' q3
                subst this
                rw [hj] at q1; injection q1 with q1; subst q1
                rw [hvj] at q2; injection q2 with q2; subst q2
                exact q4 hbet
              · have := hlate j (q1 j hdj)
                rw [hlj] at this; cases this
            | none =>
              simp only [Option.none_or]
              rw [hlL dj (by have := (uOk_at hc hdj).1; omega)]
              refine hg2 dj vj (.inl ⟨j, kj, hj, hvj, hdj, hlj, fun e out' M' H'' he hel hje => hunj e out' M' H'' he ?_ hje⟩)
              rw [hset hlt]; split
              · rfl
              · exact hel
          refine hrel'.fr dj vj ?_
          rw [hF2 dj hne, hlk]
          simp [mark1, huse]
      · intro x av hno hx hun
        show AV.holds _ _ _ _ (tm'.getD x undef)
        have hne : o.dst ≠ some x := fun e => by
          have := hno i ((hdst hol).trans e)
          rw [hki'] at this; cases this
        have hno2 : ∀ j, dstOf l.toArray j = some x → listed.getD j false = false := fun j hj => by
          have := hno j hj
          rw [hset hlt] at this
          split at this
          · cases this
          · exact this
        have huse := hun i out M H' hki hki'
        have hlk : look (E ++ tabL g (max (keyB fr) n)) x = some av := by
          rw [look_app0]
          cases hEx : look E x with
          | some a =>
            simp only [Option.some_or, Option.some.injEq]
            rcases hframe hol x a (hops hol x (hopd x a hEx)) (subF_at hE x a hEx) with ⟨j', k', v', _, qn, _, _, q3, _⟩ | ⟨_, a0, q2, _, q4⟩
            · have := hno2 j' q3
              rw [hneed j' qn] at this; cases this
            · rw [hx] at q2; injection q2 with q2; subst q2
              refine q4 fun e out' M' H'' he hei => hun e out' M' H'' he ?_
              rw [hset hlt, if_neg (by omega)]
              exact (hbi e out' M' H'' he).2 hei
          | none =>
            simp only [Option.none_or]
            rw [hlL x (by have := look_keyB hx; omega)]
            refine hg2 x av (.inr ⟨hno2, hx, fun e out' M' H'' he hel => hun e out' M' H'' he ?_⟩)
            rw [hset hlt]; split
            · rfl
            · exact hel
        refine hrel'.fr x av ?_
        rw [hF2 x hne, hlk]
        simp [mark1, huse]
    cases hko with
    | @plain av d hd hoa =>
      refine plain false av d _ rfl hd hoa ?_
      have hdr := hL_drop h1 m
      have hst := hI.rel.st
      have sub : ∀ j r, look (dropH (memN NL) H) j = some r → look (hL (ks.take m) H) j = some r := fun j r hj => by
        rw [← hdr, look_drop] at hj
        split at hj
        · cases hj
        · exact hj
      exact ⟨fun j r hj => hst.res j r (sub j r hj), fun i j ri rj b hi hj => hst.dis i j ri rj b (sub i ri hi) (sub j rj hj), fun j r b hj => hst.live j r b (sub j r hj), hst.sz, hst.one⟩
    | @full av d hd hoa =>
      refine plain true av d _ rfl hd hoa ?_
      have hbi : ∀ (e : Nat) (out : Option AV) (M : Nat → Bool) (H' : List (Nat × Res)), ks[e]? = some (.eff out M H') → (listed.getD e false = true ↔ e < i) := fun e out M H' he => by
        have hei : e ≠ i := fun e' => by subst e'; rw [hki] at he; cases he
        have hp := okp i true _ av hki e out M H' he
        unfold peace at hp
        by_cases hie : i < e
        · have hb1 : Nat.blt i e = true := Nat.ble_eq_true_of_le (by omega)
          rw [hb1] at hp
          constructor
          · intro hel
            rw [hnof hel] at hp; cases hp
          · intro; omega
        · have hb1 : Nat.blt i e = false := by
            cases hb2 : Nat.blt i e with
            | false => rfl
            | true => have := Nat.le_of_ble_eq_true hb2; omega
          rw [hb1] at hp
          cases hre : reach l.toArray i e with
          | false => rw [hre] at hp; cases hp
          | true => exact ⟨fun _ => by omega, fun _ => hreach hol hI.closed hneed hre⟩
      rw [← hL_bound (p := fun e => listed.getD e false = true) hI.bound hbi H]
      exact hI.rel.st
    | @eff E d out M H' hd hg hE hEo hop hN =>
      refine effect (some out) M H' E rfl hg hE hEo (fun _ _ => ⟨out, rfl⟩) fun L hrel => ?_
      have hA := hop L l.toArray (fun e fr' H'' => e = .normal ∧ fr' = (d, out) :: markF M (E ++ L) ∧ H'' = H') ⟨rfl, rfl, rfl⟩ S γ tm w hrel
      unfold wpList at hA
      rw [if_pos (by simp [Region.wanted])] at hA
      rcases hA with hA | ⟨_, a2, w2, _, _, _, _, ⟨h3, _⟩, _⟩
      · refine wp_monoQ ?_ ?_ ?_ (show o.wp P ⟨tm, []⟩ w _ _ from hA)
        · rintro ⟨t', d'⟩ w' ⟨fr', H'', S', γ', ⟨_, rfl, rfl⟩, hrel', hdef⟩
          refine ⟨_, S', γ', ?_, ?_, hrel', hdef⟩
          · intro d2 hd2
            rw [hd] at hd2; injection hd2 with hd2; subst hd2
            exact ⟨out, rfl, by rw [look_cons, if_pos rfl]⟩
          · intro x hx
            rw [look_cons, if_neg (fun e => hx (by rw [hd, e])), look_markF1]
        · rintro ch a2 w2 ⟨_, _, _, _, ⟨h3, _⟩, _⟩; cases h3
        · rintro ⟨a2, w2, _, _, _, _, ⟨h3, _⟩, _⟩; cases h3
      · cases h3
    | @effU E H' hd hg hE hEo hop hN =>
      refine effect none (fun _ => false) H' E rfl hg hE hEo (fun d' hd' => by rw [hd] at hd'; cases hd') fun L hrel => ?_
      have hA := hop L l.toArray (fun e fr' H'' => e = .normal ∧ fr' = E ++ L ∧ H'' = H') ⟨rfl, rfl, rfl⟩ S γ tm w hrel
      unfold wpList at hA
      rw [if_pos (by simp [Region.wanted])] at hA
      rcases hA with hA | ⟨_, a2, w2, _, _, _, _, ⟨h3, _⟩, _⟩
      · refine wp_monoQ ?_ ?_ ?_ (show o.wp P ⟨tm, []⟩ w _ _ from hA)
        · rintro ⟨t', d'⟩ w' ⟨fr', H'', S', γ', ⟨_, rfl, rfl⟩, hrel', hdef⟩
          refine ⟨_, S', γ', ?_, ?_, hrel', hdef⟩
          · intro d2 hd2
            rw [hd] at hd2; cases hd2
          · intro x _
            cases look (E ++ L) x with
            | none => rfl
            | some a =>
              have : a.uses (fun _ => true) = true := AV.uses_true a
              simp [mark1, this]
        · rintro ch a2 w2 ⟨_, _, _, _, ⟨h3, _⟩, _⟩; cases h3
        · rintro ⟨a2, w2, _, _, _, _, ⟨h3, _⟩, _⟩; cases h3
      · cases h3
  · rintro listed ⟨tm, df⟩ w hall ⟨S, γ, m, hI⟩
    have hdf : df = [] := hI.defers
    subst hdf
    have hli : ∀ {e : Nat} {k : XK}, ks[e]? = some k → listed.getD e false = true := fun {e k} he => hall e (by have := (List.getElem?_eq_some_iff.1 he).1; simpa [hlen] using this)
    have hH : hL (ks.take m) H = hL ks H := by
      have := hL_bound (p := fun e => listed.getD e false = true) (m' := ks.length) hI.bound (fun e out M H' he => ⟨fun _ => (List.getElem?_eq_some_iff.1 he).1, fun _ => hli he⟩) H
      rwa [List.take_length] at this
    refine ⟨_, _, S, γ, h2, ?_, rfl⟩
    rw [← hH]
    refine ⟨hI.rel.st, fun y av hy => ?_, hI.rel.up, hI.rel.own, hI.rel.ids, hI.rel.size, hI.rel.keep⟩
    rcases xFr_look _ _ _ _ _ hlen.symm hy with ⟨j, o, k, v, g1, g2, g3, g4, g5⟩ | ⟨g1, a0, g2, g3⟩
    · rcases maskL_or (ks.drop (j + 1)) v with h | ⟨h3, h4⟩
      · rw [g5, h]; simp [AV.holds]
      · rw [g5, h3]
        refine hI.f1 j k v y g2 g4 ((hdst g1).trans g3) (hli g2) fun e out M H' he _ hje => h4 (e - (j + 1)) out M H' ?_
        rw [List.getElem?_drop, show j + 1 + (e - (j + 1)) = e by omega]; exact he
    · rcases maskL_or ks a0 with h | ⟨h3, h4⟩
      · rw [g3, h]; simp [AV.holds]
      · rw [g3, h3]
        refine hI.f2 y a0 ?_ g2 fun e out M H' he _ => h4 e out M H' he
        intro i hi
        obtain ⟨o, ho, hd⟩ := hdo hi
        obtain ⟨k, v, hk, hv⟩ := hval hi
        exact absurd hd (g1 i o k v ho hk hv)
end
end Go.Proofs.YtgdkeafdlehlaaaDoor

/- Slices that are made or clipped, guards that are known, effects in drawn regions, freezing behind a pointer. Nothing of the program stands here. -/
namespace Go.Proofs.YtgdkeafdlehlaaaDoor
open Go Go.RowKit
set_option linter.unusedVariables false
set_option linter.unusedSimpArgs false
section
variable {P : Program} {T : List (Nat × TI)} {o : Oper} {fr : List (Nat × AV)} {H : List (Nat × Res)} {c : Ctx} {n : Nat} {Q : AQ} {ops : Array Oper} {rest : List Oper}
variable {S : Nat → Prop} {γ : Nat → Value} {w : World} {x y : Operand} {t t' : TypeId} {s b : Nat}
theorem getB (cs : Array Value) (j : Nat) (h : j < cs.size) : cs[j]! = cs[j] := getElem!_pos cs j h
theorem made_list (cs : Array Value) : ∀ (n : Nat), (madeCells cs (n * cs.size)).toList = (List.replicate n cs.toList).flatten
  | 0 => by simp [madeCells]
  | n + 1 => by
    have ih := made_list cs n
    rcases Nat.eq_zero_or_pos cs.size with h0 | h0
    · have hc : cs.toList = [] := by apply List.eq_nil_of_length_eq_zero; simpa using h0
      simp [madeCells, h0, hc]
    have e1 : (madeCells cs ((n + 1) * cs.size)).toList = (List.range (n * cs.size + cs.size)).map (fun i => cs[i % cs.size]!) := by
      simp [madeCells, Nat.add_mul]
    have e2 : (madeCells cs (n * cs.size)).toList = (List.range (n * cs.size)).map (fun i => cs[i % cs.size]!) := by
      simp [madeCells]
    rw [e1, List.range_add, List.map_append, ← e2, ih, List.map_map]
    have e3 : (List.range cs.size).map ((fun i => cs[i % cs.size]!) ∘ fun x => n * cs.size + x) = cs.toList := by
      apply List.ext_getElem
      · simp
      · intro i h1 h2
        have hi : i < cs.size := by simpa using h2
        simp only [List.getElem_map, List.getElem_range, Function.comp]
        rw [Nat.mul_comm, Nat.mul_add_mod, Nat.mod_eq_of_lt hi, getB cs i hi]
        simp
    rw [e3]
    simp [List.replicate_succ']
theorem holds_made {α : Type} {E : Enc α} {z : α} {zs : List Z} {cs : List Value} (hz : E.cells z = zAV zs) (hcs : cs = zs.map Z.val) : ∀ (n : Nat), AV.holdsL S γ w (E.all (List.replicate n z)) ((List.replicate n cs).flatten)
  | 0 => by simp [Enc.all, AV.holdsL]
  | n + 1 => by
    have ih := holds_made (E := E) hz hcs n
    have e1 : E.all (List.replicate (n + 1) z) = E.cells z ++ E.all (List.replicate n z) := by simp [Enc.all, List.replicate_succ]
    rw [e1, List.replicate_succ, List.flatten_cons, hz, hcs]
    exact AV.holdsL_app (zAV_holds zs) (hcs ▸ ih)
theorem zval_one (z : Z) : z.val.oneCell' = true := by cases z <;> rfl
theorem ao_makeSlice {d e es eb : Nat} {ek : TK} {ZT : List (Nat × List Z)} {zs : List Z} {m : Int} {α : Type} (E : Enc α) (z : α) (hg : o.guard = none := by rfl) (hd : o.dst = some d := by rfl) (hn : Nat.blt d n = true := by rfl) (ho : o.op = .makeSlice t x y := by rfl) (hT : TTOk P T := by assumption) (ht : look T t = some ⟨.slice e, s, b⟩ := by rfl) (he : look T e = some ⟨ek, es, eb⟩ := by rfl) (hZ : ZOk P ZT := by assumption) (hz : look ZT e = some zs := by rfl) (hE : E.cells z = zAV zs := by rfl) (hs : es = E.size := by rfl)
    (hx : Opv fr x (.lit (.int .i64 m)) := by exact opv_std) (hy : Opv fr y (.lit (.int .i64 m)) := by exact opv_std) (h0 : 0 ≤ m := by omega) (hm : eb * m ≤ 281474976710656 := by omega) (hm2 : m ≤ 281474976710656 := by omega)
    (hu : usesH (one1 (d + 1000)) (dropH (one1 (d + 1000)) H) = true := by rfl)
    (next : AOps P c n ops rest Q ((d, .own (d + 1000)) :: markF (one1 (d + 1000)) fr) ((d + 1000, .own e E (List.replicate m.toNat z)) :: dropH (one1 (d + 1000)) H)) : AOps P c n ops (o :: rest) Q fr H := fun S γ tmps w hr => by
  refine ao_plain hg ?_
  have env := hr.env (ds := []) (fun _ => True)
  have h1 := env.lit hx trivial
  have h2 := env.lit hy trivial
  obtain ⟨zi, zv, hi, hiz, hzc⟩ := hZ.zero hz
  obtain ⟨_, _, j, zv', hj, hsz, hby, hjz, hcz⟩ := hT.ok e _ he
  rw [hi] at hj; injection hj with hj; subst hj
  rw [hiz] at hjz; injection hjz with hjz; subst hjz
  simp only at hsz hby hcz
  have hrun := run_make (P := P) w t e zi zv (hT.slice ht) hi hiz .i64 .i64 m m h0 (Int.le_refl _) (by rw [hby]; exact hm) (by omega)
  have hex : (execOp (Act.eval ⟨tmps, []⟩) o).run P w = .ok (.value (.slice (some ⟨w.heap.size, 0, none⟩) m.toNat m.toNat)) (w.alloc (.cells (madeCells zv.cells (m.toNat * zi.size)) e)) := by
    simp only [execOp, ho, h1, h2, Sem.run_bind, hrun, Result.andThen_ok, Sem.run_pure]
  rw [hex]
  have hput : ∀ v, (Act.put ⟨tmps, []⟩ o.dst v) = ⟨tmps.setIfInBounds d v, []⟩ := fun v => by rw [hd]; rfl
  show wpList P ops (lift c n Q) rest (Act.put ⟨tmps, []⟩ o.dst _) _
  rw [hput]
  have hkJ : Nat.ble 1000 (d + 1000) = true := Nat.ble_eq_true_of_le (by omega)
  have hsize : zi.size = zv.cells.size := by omega
  have hmax : m.toNat ≤ maxLen := by simp only [maxLen]; omega
  have hl := made_list zv.cells m.toNat
  rw [← hsize] at hl
  have hlen : (madeCells zv.cells (m.toNat * zi.size)).size = m.toNat * E.size := by rw [size_madeCells]; simp only [hsz, hs]
  have hr' := hr.eff1 (d + 1000) (w' := w.alloc (.cells (madeCells zv.cells (m.toNat * zi.size)) e)) (r := .own e E (List.replicate m.toNat z)) (v := .slice (some ⟨w.heap.size, 0, none⟩) m.toNat m.toNat) (keep_alloc _ w _)
    ⟨(madeCells zv.cells (m.toNat * zi.size)).toList, ⟨by simp [hlen], _, _, by simp, .inr ⟨w.heap.size, _, rfl, Nat.zero_le _, .of (heap_alloc_new w _), by simp, hmax, by rw [hlen]; exact Nat.le_refl _, by
      rw [List.take_of_length_le]; simp [hlen]⟩⟩, by rw [hl]; exact holds_made hE hzc _, fun u hu => by
      rw [hl] at hu
      simp only [List.mem_flatten, List.mem_replicate] at hu
      obtain ⟨l, ⟨_, rfl⟩, hu⟩ := hu
      rw [hzc] at hu
      obtain ⟨q, _, rfl⟩ := List.mem_map.1 hu
      exact zval_one q⟩ rfl (fun b hb => by
        left
        cases hm0 : m.toNat with
        | zero => rw [hm0] at hb; simp [rblk, wblk] at hb
        | succ q => rw [hm0] at hb; simp [rblk, wblk] at hb; omega) hkJ hu
  exact next S _ _ _ (hr'.put (Nat.le_of_ble_eq_true hn) (by simp only [AV.holds]; rw [upd_same]))
theorem ao_clip {d j e es eb : Nat} {ek : TK} {hi mx : Operand} {α : Type} {E : Enc α} {xs : List α} {m m' : Int} (hg : o.guard = none := by rfl) (hd : o.dst = some d := by rfl) (hn : Nat.blt d n = true := by rfl) (ho : o.op = .slice t x none (some hi) (some mx) := by rfl) (hT : TTOk P T := by assumption) (ht : look T t = some ⟨.slice e, s, b⟩ := by rfl) (he : look T e = some ⟨ek, es, eb⟩ := by rfl)
    (hx : Opv fr x (.own j) := by exact opv_std) (hj : look H j = some (.own e E xs) := by rfl) (hh : Opv fr hi (.lit (.int .i64 m)) := by exact opv_std) (hm : Opv fr mx (.lit (.int .i64 m')) := by exact opv_std) (e1 : m = (xs.length : Int) := by first | rfl | omega) (e2 : m' = (xs.length : Int) := by first | rfl | omega) (hs : es = E.size := by rfl)
    (hu : usesH (one1 (d + 1000)) (dropH (fun i => one1 j i || one1 (d + 1000) i) H) = true := by rfl)
    (next : AOps P c n ops rest Q ((d, .own (d + 1000)) :: markF (one1 (d + 1000)) fr) ((d + 1000, .own e E xs) :: dropH (fun i => one1 j i || one1 (d + 1000) i) H)) : AOps P c n ops (o :: rest) Q fr H := fun S γ tmps w hr => by
  refine ao_plain hg ?_
  have env := hr.env (ds := []) (fun _ => True)
  have h1 := env.get hx trivial
  have h2 := env.lit hh trivial
  have h3 := env.lit hm trivial
  simp only [AV.holds] at h1
  subst e1; subst e2
  obtain ⟨vs, ho', hh', h1'⟩ := hr.st.res j _ hj
  have hrow := ho'
  obtain ⟨hl, A, cp, hv, hcase⟩ := ho'
  have hle : xs.length ≤ cp := by
    rcases hcase with ⟨h, h'⟩ | ⟨_, _, _, _, _, h, _⟩
    · omega
    · exact h
  have hA : (if xs.length = 0 then A else A.map (·.add (0 * es))) = A := by
    split
    · rfl
    · rcases hcase with ⟨h, _⟩ | ⟨g, cur, rfl, _⟩
      · contradiction
      · simp [Addr.add]
  have hex : (execOp (Act.eval ⟨tmps, []⟩) o).run P w = .ok (.value (.slice A xs.length xs.length)) w := by
    have hsz := hT.size he w
    simp only at hsz
    have n1 : ((xs.length : Nat) : Int) ≤ ((cp : Nat) : Int) := by omega
    simp [execOp, ho, h1, hv, h2, h3, Instr.sliceAt, Instr.slice, run_underlying (hT.slice ht), Instr.sliceBounds, Instr.sliceBound, asIntOf, hle, hsz]
    simpa using hA
  rw [hex]
  have hput : ∀ v, (Act.put ⟨tmps, []⟩ o.dst v) = ⟨tmps.setIfInBounds d v, []⟩ := fun v => by rw [hd]; rfl
  show wpList P ops (lift c n Q) rest (Act.put ⟨tmps, []⟩ o.dst _) _
  rw [hput]
  have hkJ : 1000 ≤ d + 1000 := by omega
  have hblk : ∀ b, rblk (.slice A xs.length xs.length) = some b → rblk (γ j) = some b := fun b hb => by
    rw [hv]
    rcases hcase with ⟨h, h'⟩ | ⟨g, cur, rfl, _⟩
    · rw [h] at hb; cases A <;> simp [rblk, wblk] at hb
    · cases hx0 : xs.length with
      | zero => rw [hx0] at hb; simp [rblk, wblk] at hb
      | succ q =>
        rw [hx0] at hb hle
        cases cp with
        | zero => omega
        | succ r => simpa [rblk, wblk] using hb
  have hown : Own w 0 e E.size (.slice A xs.length xs.length) xs.length vs := by
    refine ⟨hl, A, xs.length, rfl, ?_⟩
    rcases hcase with ⟨h, h'⟩ | ⟨g, cur, rfl, h0, hg', hnc, hcm, hcs, htk⟩
    · exact .inl ⟨h, h⟩
    · exact .inr ⟨g, cur, rfl, h0, hg', Nat.le_refl _, by omega, Nat.le_trans (Nat.mul_le_mul_right _ hnc) hcs, htk⟩
  have hst : St S (upd γ (d + 1000) (.slice A xs.length xs.length)) w [(d + 1000, .own e E xs)] := by
    refine ⟨?_, ?_, ?_, hr.st.sz, ?_⟩
    · intro i r hi
      obtain ⟨rfl, rfl⟩ := look_one hi
      rw [upd_same]
      exact ⟨vs, hown, hh', h1'⟩
    · intro i i' ri rj b hi hi' _ _
      rw [(look_one hi).1, (look_one hi').1]
    · intro i r b hi hb hS
      obtain ⟨rfl, rfl⟩ := look_one hi
      rw [upd_same] at hb
      exact hr.st.live j _ b hj (hblk b hb) hS
    · intro i
      by_cases hi : i = d + 1000
      · subst hi; rw [upd_same]; rfl
      · rw [upd_other hi]; exact hr.st.one i
  have he' := hr.eff (fun i => one1 j i || one1 (d + 1000) i) (one1 (d + 1000)) (w' := w) (S' := S) (γ' := upd γ (d + 1000) (.slice A xs.length xs.length)) (Hn := [(d + 1000, .own e E xs)]) (fun i hi => by simp [hi]) (Keep.refl _ _) (fun _ h => h) (fun b h => .inl h) hst
    (fun i r b hi hb => by
      obtain ⟨rfl, rfl⟩ := look_one hi
      rw [upd_same] at hb
      exact .inr ⟨j, _, by simp [one1_iff.2 rfl], hj, hblk b hb⟩)
    (fun i r hi => by rw [(look_one hi).1]; simp [one1_iff.2 rfl])
    (fun i hi => upd_other (by rintro rfl; rw [one1_iff.2 rfl] at hi; cases hi))
    (fun i hi => by
      have := c.lt i hi
      cases hb : one1 (d + 1000) i with
      | false => rfl
      | true => have := one1_iff.1 hb; omega) hu
  exact next S _ _ _ (he'.put (Nat.le_of_ble_eq_true hn) (by simp only [AV.holds]; rw [upd_same]))
/-- guards that are known -/
theorem sop_false {o : Oper} (h : False) : SOp P o fr H .any := h.elim
theorem ao_yes {j dj : Nat} {want g : Bool} (hgd : o.guard = some (j, want) := by rfl) (hd : dstOf ops j = some dj := by rfl) (hl : look fr dj = some (.lit (.bool g)) := by rfl) (hw : g = want := by first | rfl | assumption)
    (next : AOps P c n ops ({ o with guard := none } :: rest) Q fr H) : AOps P c n ops (o :: rest) Q fr H := fun S γ tmps w hr => by
  have h1 := next S γ tmps w hr
  have hv := hr.fr dj _ hl
  simp only [AV.holds] at hv
  unfold wpList at h1 ⊢
  rw [if_pos (by simp [Region.wanted])] at h1
  have hy : yielded ops tmps j = some want := by
    unfold yielded
    unfold dstOf at hd
    rw [hd]
    simp only [Array.getD_eq_getD_getElem?] at hv
    cases ht : tmps[dj]? with
    | none => simp [ht, undef] at hv
    | some u =>
      simp only [ht, Option.getD_some] at hv
      subst hv; subst hw
      simp [ht]
  rw [if_pos (by simp [Region.wanted, hgd, hy])]
  exact h1
theorem ao_no {d j dj : Nat} {want g : Bool} (hgd : o.guard = some (j, want) := by rfl) (hdd : o.dst = some d := by rfl) (hn : Nat.blt d n = true := by rfl) (hd : dstOf ops j = some dj := by rfl) (hl : look fr dj = some (.lit (.bool g)) := by rfl) (hw : g = !want := by first | rfl | assumption)
    (next : AOps P c n ops rest Q ((d, .when False .any) :: fr) H) : AOps P c n ops (o :: rest) Q fr H := by
  have hne : g ≠ want := by rw [hw]; cases want <;> simp
  have := ao_op (P := P) (c := c) (n := n) (Q := Q) (rest := rest) (H := H) (o := o) (ops := ops) (fr := fr) (a := .when (g = want) .any) hdd hn (.guard hgd hd hl fun h => absurd h hne) (by
    intro S γ tmps w hr
    refine next S γ tmps w ⟨hr.st, fun x av hx => ?_, hr.up, hr.own, hr.ids, hr.size, hr.keep⟩
    rw [look_cons] at hx
    split at hx
    · rename_i e
      injection hx with hx
      have := hr.fr d (.when (g = want) .any) (by rw [look_cons, if_pos rfl])
      subst e; subst hx
      simp only [AV.holds] at this ⊢
      exact ⟨fun h => h.elim, fun _ => this.2 hne⟩
    · rename_i e
      exact hr.fr x av (by rw [look_cons, if_neg e]; exact hx))
  exact this
/-- effects: the entries of the operands -/
def opEs (o : Oper) (fr : List (Nat × AV)) : List (Nat × AV) := esOf o.op.operands.toList
where
  esOf : List Operand → List (Nat × AV)
    | [] => []
    | .tmp t :: r => match look fr t with
      | some a => (t, a) :: esOf r
      | none => esOf r
    | _ :: r => esOf r
theorem subF_es (fr : List (Nat × AV)) : ∀ (l : List Operand), subF fr (opEs.esOf fr l)
  | [] => trivial
  | .tmp t :: r => by
    unfold opEs.esOf
    cases h : look fr t with
    | none => exact subF_es fr r
    | some a => exact ⟨h, subF_es fr r⟩
  | .const _ :: r => subF_es fr r
  | .func _ :: r => subF_es fr r
  | .global _ :: r => subF_es fr r
theorem es_mem (fr : List (Nat × AV)) : ∀ (l : List Operand) (p : Nat × AV), p ∈ opEs.esOf fr l → Operand.tmp p.1 ∈ l
  | [], p, h => by cases h
  | .tmp t :: r, p, h => by
    unfold opEs.esOf at h
    cases hl : look fr t with
    | none => rw [hl] at h; exact List.mem_cons_of_mem _ (es_mem fr r p h)
    | some a =>
      rw [hl] at h
      rcases List.mem_cons.1 h with rfl | h
      · exact List.mem_cons_self
      · exact List.mem_cons_of_mem _ (es_mem fr r p h)
  | .const _ :: r, p, h => List.mem_cons_of_mem _ (es_mem fr r p h)
  | .func _ :: r, p, h => List.mem_cons_of_mem _ (es_mem fr r p h)
  | .global _ :: r, p, h => List.mem_cons_of_mem _ (es_mem fr r p h)
theorem es_opd (o : Oper) (fr : List (Nat × AV)) : ((opEs o fr).all fun p => isOpd o p.1) = true := by
  rw [List.all_eq_true]
  intro p hp
  have := es_mem fr _ p hp
  unfold isOpd
  rw [List.any_eq_true]
  exact ⟨_, this, by simp⟩
variable {HN : List (Nat × Res)} {N : Nat → Bool}
theorem evx_eff' {K : List (Nat × AV) → List (Nat × Res) → List XK → Prop} {d : Nat} {out : AV} {M : Nat → Bool} {H' : List (Nat × Res)} (hd : o.dst = some d) (hg : GYes ops o fr) (h : EOp P c n o (opEs o fr) H d out M H') (hN : dropH N H' = dropH N H)
    (next : EvX P c n ops HN N (fun f H ks => K f H (.eff (some out) M H' :: ks)) rest ((d, out) :: markF M fr) H') : EvX P c n ops HN N K (o :: rest) fr H :=
  evx_eff hd hg (subF_es fr _) (es_opd o fr) h hN next
theorem evx_effU' {K : List (Nat × AV) → List (Nat × Res) → List XK → Prop} {H' : List (Nat × Res)} (hd : o.dst = none) (hg : GYes ops o fr) (h : EOp0 P c n o (opEs o fr) H H') (hN : dropH N H' = dropH N H)
    (next : EvX P c n ops HN N (fun f H ks => K f H (.eff none (fun _ => false) H' :: ks)) rest fr H') : EvX P c n ops HN N K (o :: rest) fr H :=
  .cons (.effU hd hg (subF_es fr _) (es_opd o fr) h hN) (by simpa [stepF, hL, markF_none] using next)
theorem markF_idem (M : Nat → Bool) (fr : List (Nat × AV)) : markF M (markF M fr) = markF M fr := by
  unfold markF
  rw [List.map_map]
  apply List.map_congr_left
  intro p _
  simp only [Function.comp]
  cases h : p.2.uses (fun j => !(M j)) with
  | true => simp [h]
  | false => simp [AV.uses]
/-- a slice of one's own that a cell of one's own names, once it is only read -/
def frzC {α : Type} (j : Nat) (E : Enc α) (xs : List α) : List AV → List AV
  | [] => []
  | .own i :: r => (match Nat.beq i j with | true => .snap (slF E xs) | false => .own i) :: frzC j E xs r
  | a :: r => a :: frzC j E xs r
theorem frzC_holds {S' : Nat → Prop} {α : Type} {E : Enc α} {xs : List α} {j e : Nat} (hst : St S γ w H) (hj : look H j = some (.own e E xs)) (hS : ∀ b, S b → S' b) (hb : ∀ b, rblk (γ j) = some b → S' b) : ∀ (cs : List AV) (vs : List Value), AV.holdsL S γ w cs vs → AV.holdsL S' γ w (frzC j E xs cs) vs
  | [], vs, h => h
  | a :: r, vs, h => by
    simp only [AV.holdsL] at h
    obtain ⟨v, vs', rfl, h1, h2⟩ := h
    have ih := frzC_holds hst hj hS hb r vs' h2
    have keep : AV.holdsL S' γ w (a :: frzC j E xs r) (v :: vs') := by
      simp only [AV.holdsL]
      exact ⟨v, vs', rfl, AV.ext hS (fun _ _ => rfl) h1, ih⟩
    cases a with
    | own i =>
      unfold frzC
      cases hi : Nat.beq i j with
      | false => simpa [hi] using keep
      | true =>
        have := Nat.eq_of_beq_eq_true hi
        subst this
        simp only [AV.holdsL]
        refine ⟨v, vs', rfl, ?_, ih⟩
        simp only [AV.holds] at h1 ⊢
        rw [h1]
        exact own_snap hst hj hS hb
    | _ => exact keep
theorem Rel.freezeIn {α : Type} {E : Enc α} {xs : List α} {e : Nat} {cs : List AV} {tmps : Array Value} (hr : Rel c n fr H S γ tmps w) (i j : Nat) (hi : look H i = some (.box cs)) (hj : look H j = some (.own e E xs)) : Rel c n (frzO j E xs fr) ((i, .box (frzC j E xs cs)) :: dropH (fun q => one1 i q || one1 j q) H) (fun b => S b ∨ rblk (γ j) = some b) γ tmps w := by
  have h0 := hr.freezeOwn j hj
  have hij : i ≠ j := by
    rintro rfl
    rw [hi] at hj; injection hj with hj; cases hj
  have hlk : ∀ q r, look ((i, Res.box (frzC j E xs cs)) :: dropH (fun q => one1 i q || one1 j q) H) q = some r → (q = i ∧ r = .box (frzC j E xs cs)) ∨ (q ≠ i ∧ look (dropH (one1 j) H) q = some r) := fun q r hq => by
    rw [look_cons] at hq
    split at hq
    · rename_i e
      injection hq with hq
      exact .inl ⟨e.symm, hq.symm⟩
    · rename_i e
      rw [look_drop] at hq
      split at hq
      · cases hq
      · rename_i h1
        refine .inr ⟨fun h => e h.symm, ?_⟩
        rw [look_drop, if_neg (fun h => h1 (by simp [h]))]
        exact hq
  have hi' : look (dropH (one1 j) H) i = some (.box cs) := by
    rw [look_drop, if_neg (fun h => hij (one1_iff.1 h).symm)]; exact hi
  refine ⟨⟨fun q r hq => ?_, fun q q' r r' b hq hq' hb hb' => ?_, fun q r b hq hb hS => ?_, h0.st.sz, h0.st.one⟩, h0.fr, h0.up, fun q r b hq hb => ?_, h0.ids, h0.size, h0.keep⟩
  · rcases hlk q r hq with ⟨rfl, rfl⟩ | ⟨_, h⟩
    · obtain ⟨g, arr, e', hv, hh, hc⟩ := hr.st.res q _ hi
      exact ⟨g, arr, e', hv, hh, frzC_holds hr.st hj (fun b h => .inl h) (fun b h => .inr h) cs _ hc⟩
    · exact h0.st.res q r h
  · have : ∀ q r, look ((i, Res.box (frzC j E xs cs)) :: dropH (fun q => one1 i q || one1 j q) H) q = some r → ∃ r', look (dropH (one1 j) H) q = some r' := fun q r hq => by
      rcases hlk q r hq with ⟨rfl, _⟩ | ⟨_, h⟩
      · exact ⟨_, hi'⟩
      · exact ⟨_, h⟩
    obtain ⟨r1, h1⟩ := this q r hq
    obtain ⟨r2, h2⟩ := this q' r' hq'
    exact h0.st.dis q q' r1 r2 b h1 h2 hb hb'
  · rcases hlk q r hq with ⟨rfl, _⟩ | ⟨_, h⟩
    · exact h0.st.live q _ b hi' hb hS
    · exact h0.st.live q r b h hb hS
  · rcases hlk q r hq with ⟨rfl, _⟩ | ⟨_, h⟩
    · exact h0.own q _ b hi' hb
    · exact h0.own q r b h hb
theorem a_freezeIn {code : Code} {α : Type} {E : Enc α} {xs : List α} {e : Nat} {cs : List AV} (i j : Nat) (hi : look H i = some (.box cs)) (hj : look H j = some (.own e E xs)) (h : ACode P c n code Q (frzO j E xs fr) ((i, .box (frzC j E xs cs)) :: dropH (fun q => one1 i q || one1 j q) H)) : ACode P c n code Q fr H := fun S γ tmps w hr => h _ γ tmps w (hr.freezeIn i j hi hj)
theorem Rel.sub {fr' : List (Nat × AV)} {H' : List (Nat × Res)} {tmps : Array Value} (h : Rel c n fr' H' S γ tmps w) (hf : ∀ x a, look fr x = some a → look fr' x = some a) (hH : ∀ j r, look H j = some r → look H' j = some r) : Rel c n fr H S γ tmps w :=
  ⟨⟨fun j r hj => h.st.res j r (hH j r hj), fun i j ri rj b hi hj => h.st.dis i j ri rj b (hH i ri hi) (hH j rj hj), fun j r b hj => h.st.live j r b (hH j r hj), h.st.sz, h.st.one⟩, fun x a hx => h.fr x a (hf x a hx), h.up, fun j r b hj => h.own j r b (hH j r hj), h.ids, h.size, h.keep⟩
theorem fresh_none {Hin Hout : List (Nat × Res)} (h : idsOf Hout = idsOf Hin) (ρ : Nat → Nat) : anyId ρ (freshIds Hin Hout) = fun _ => false := by
  have : freshIds Hin Hout = [] := by
    unfold freshIds
    rw [h, List.filter_eq_nil_iff]
    intro j hj
    simpa using hj
  rw [this]; rfl
theorem look_renH_at {ρ : Nat → Nat} : ∀ {H : List (Nat × Res)} {j : Nat}, j ∈ idsOf H → ∃ r, look (renH ρ H) (ρ j) = some r
  | (k, r) :: H, j, h => by
    have e : renH ρ ((k, r) :: H) = (ρ k, r.ren ρ) :: renH ρ H := rfl
    rw [e, look_cons]
    split
    · exact ⟨_, rfl⟩
    · rename_i hne
      refine look_renH_at (H := H) ?_
      have h' : j = k ∨ j ∈ idsOf H := by simpa [idsOf] using h
      rcases h' with rfl | h'
      · exact absurd rfl hne
      · exact h'
def callOk0 (ρ : Nat → Nat) (out : AV) (Hin Hout : List (Nat × Res)) : Bool :=
  AV.uses (fun j => (idsOf Hout).contains j) out && (Hout.all fun p => p.2.uses fun j => (idsOf Hout).contains j) && injB ρ (idsOf Hin ++ idsOf Hout) && ((freshIds Hin Hout).all fun j => Nat.ble 1000 (ρ j))
theorem callOk0_ok {ρ : Nat → Nat} {out : AV} {Hin Hout H : List (Nat × Res)} (hids : idsOf Hout = idsOf Hin) (h : callOk0 ρ out Hin Hout = true) : callOk ρ out Hin Hout H = true := by
  unfold callOk
  unfold callOk0 at h
  rw [h, fresh_none hids, usesH_none]; rfl
theorem usesH_cons' {M : Nat → Bool} {p : Nat × Res} {r : List (Nat × Res)} (h1 : p.2.uses (fun j => !(M j)) = true) (h2 : usesH M r = true) : usesH M (p :: r) = true := by
  unfold usesH at *
  rw [List.all_cons, h1, h2]; rfl
theorem usesH_all {α : Type} (E : Enc α) (xs : List α) (p : Nat → Bool) : (Res.box (E.all xs)).uses p = true := AV.usesL_weak (Enc.all_plain E xs)
/-- a call that leaves resources qs0 they are -/
theorem ao_callK (L : List (Nat × Nat)) {f : FuncId} {zs : Array Operand} {tys : Array TypeId} {qs0 : List AV} {Hin : List (Nat × Res)} {out : AV} {d : Nat} (hC : Con P f qs0 Hin fun a h => a = out ∧ h = Hin) (hg : o.guard = none := by rfl) (hd : o.dst = some d := by rfl) (hn : Nat.blt d n = true := by rfl)
    (ho : o.op = .call { callee := .value (.func f), args := zs, argTypes := tys } := by rfl) (hf : entersB P f = true := by kernel_rfl) (hargs : ArgsOk false fr H zs.toList (AV.renL (renC L d) qs0) := by repeat (first | exact .nil | refine .cons (by exact opv_std) ?_ | refine .lend rfl (by exact opv_std) (by rfl) ?_ | refine .nilS (by exact opv_std) ?_ | refine .lentS (by exact opv_std) ?_))
    (hin : HinOk H (renC L d) Hin := by repeat (first | exact trivial | refine ⟨rfl, ?_⟩)) (hinj : injB (renC L d) (idsOf Hin) = true := by rfl)
    (hok : callOk0 (renC L d) out Hin Hin = true := by rfl)
    (next : AOps P c n ops rest Q ((d, out.ren (renC L d)) :: fr) H) : AOps P c n ops (o :: rest) Q fr H := by
  refine ao_callG (B := false) L hC hg hd hn ho hf hargs hin hinj (fun h => by cases h) (callOk0_ok rfl hok) (.inl rfl) ?_
  intro S γ tmps w hr
  refine next S γ tmps w (hr.sub (fun x a hx => ?_) fun j r hj => ?_)
  · rw [fresh_none rfl, markF_none]; exact hx
  · rw [look_append]
    cases hl : look (renH (renC L d) Hin) j with
    | some r' =>
      simp only [Option.some_or, Option.some.injEq]
      obtain ⟨i, r0, h1, h2, h3⟩ := look_renH_inj (injB_iff hinj) hl
      have := hin.at i r0 h1
      rw [h2, hj] at this
      injection this with this
      rw [h3, this]
    | none =>
      simp only [Option.none_or]
      rw [look_drop, if_neg]
      · exact hj
      · intro hD
        obtain ⟨i, hi, rfl⟩ := anyId_iff.1 hD
        have hi' : i ∈ idsOf Hin := by simpa using hi
        obtain ⟨r', hr'⟩ := look_renH_at (ρ := renC L d) hi'
        rw [hr'] at hl; cases hl
/-- a call that changes resources, and makes none -/
theorem ao_callS (L : List (Nat × Nat)) {f : FuncId} {zs : Array Operand} {tys : Array TypeId} {qs0 : List AV} {Hin Hout : List (Nat × Res)} {out : AV} {d : Nat} (hC : Con P f qs0 Hin fun a h => a = out ∧ h = Hout) (hg : o.guard = none := by rfl) (hd : o.dst = some d := by rfl) (hn : Nat.blt d n = true := by rfl)
    (ho : o.op = .call { callee := .value (.func f), args := zs, argTypes := tys } := by rfl) (hf : entersB P f = true := by kernel_rfl) (hargs : ArgsOk false fr H zs.toList (AV.renL (renC L d) qs0) := by repeat (first | exact .nil | refine .cons (by exact opv_std) ?_ | refine .lend rfl (by exact opv_std) (by rfl) ?_ | refine .nilS (by exact opv_std) ?_ | refine .lentS (by exact opv_std) ?_))
    (hin : HinOk H (renC L d) Hin := by repeat (first | exact trivial | refine ⟨rfl, ?_⟩)) (hinj : injB (renC L d) (idsOf Hin) = true := by rfl)
    (hok : callOk0 (renC L d) out Hin Hout = true := by rfl) (hids : idsOf Hout = idsOf Hin := by rfl)
    (next : AOps P c n ops rest Q ((d, out.ren (renC L d)) :: fr) (renH (renC L d) Hout ++ H)) : AOps P c n ops (o :: rest) Q fr H := by
  refine ao_callG (B := false) L hC hg hd hn ho hf hargs hin hinj (fun h => by cases h) (callOk0_ok hids hok) (.inl rfl) ?_
  intro S γ tmps w hr
  refine next S γ tmps w (hr.sub (fun x a hx => ?_) fun j r hj => ?_)
  · rw [fresh_none hids, markF_none]; exact hx
  · rw [look_append] at hj ⊢
    cases hl : look (renH (renC L d) Hout) j with
    | some r' => rw [hl] at hj; simpa using hj
    | none =>
      rw [hl] at hj
      simp only [Option.none_or] at hj ⊢
      rw [look_drop, if_neg]
      · exact hj
      · intro hD
        obtain ⟨i, hi, rfl⟩ := anyId_iff.1 hD
        have hi' : i ∈ idsOf Hout := by rw [hids] at hi ⊢; simpa using hi
        obtain ⟨r', hr'⟩ := look_renH_at (ρ := renC L d) hi'
        rw [hr'] at hl; cases hl
theorem aops_id (h : AOps P c n ops rest Q fr H) : AOps P c n ops rest Q fr H := h
theorem a_frz (id i j : Nat) {ops : Array Oper} {b : Bool} {α : Type} {E : Enc α} {xs : List α} {e : Nat} {cs : List AV} (hi : look H i = some (.box cs) := by rfl) (hj : look H j = some (.own e E xs) := by rfl) (hp : AV.usesL (fun _ => false) (frzC j E xs cs) = true := by rfl) (h : ACode P c n (.region id ops b) Q (frzB i (frzC j E xs cs) (frzO j E xs fr)) (dropH (one1 i) ((i, .box (frzC j E xs cs)) :: dropH (fun q => one1 i q || one1 j q) H))) : ACode P c n (.region id ops b) Q fr H :=
  a_freezeIn i j hi hj (a_freezeBox i (by rw [look_cons, if_pos rfl]) hp h)
end
end Go.Proofs.YtgdkeafdlehlaaaDoor

/- Arrays of one's own, by numbers that are not known; picks that are known. Nothing of the program stands here. -/
namespace Go.Proofs.YtgdkeafdlehlaaaDoor
open Go Go.RowKit
set_option linter.unusedVariables false
set_option linter.unusedSimpArgs false
section
variable {P : Program} {T : List (Nat × TI)} {o : Oper} {fr : List (Nat × AV)} {H : List (Nat × Res)} {c : Ctx} {n : Nat} {Q : AQ} {ops : Array Oper} {rest : List Oper}
variable {S : Nat → Prop} {γ : Nat → Value} {w : World} {x y : Operand} {t t' : TypeId} {s b : Nat}
theorem ao_storeP {x y : Operand} {t j off : Nat} {ti : TI} {cs ds : List AV} {a : AV} (hg : o.guard = none := by rfl) (hd : o.dst = none := by rfl) (ho : o.op = .store t x y := by rfl) (hT : TTOk P T := by assumption) (ht : look T t = some ti := by rfl) (hx : Opv fr x (.ptr j off) := by exact opv_std) (hj : look H j = some (.box cs) := by rfl)
    (hy : Opv fr y a := by exact opv_std) (hc : cellsOf a = some ds := by rfl) (h1 : AV.allOneL ds = true := by rfl) (hl : Nat.beq ds.length ti.size = true := by rfl) (hb' : off + ti.size ≤ cs.length)
    (next : AOps P c n ops rest Q fr ((j, .box (setAll cs off ds)) :: dropH (one1 j) H)) : AOps P c n ops (o :: rest) Q fr H := fun S γ tmps w hr => by
  refine ao_plain hg ?_
  have env := hr.env (ds := []) (fun _ => True)
  have hxv := env.get hx trivial
  have hyv := env.get hy trivial
  simp only [AV.holds] at hxv
  obtain ⟨g, hg', hxv⟩ := hxv
  obtain ⟨arr, e, hh, hL⟩ := box_cell hr.st hj hg'
  have hcs := cellsOf_holds hr.st.one hc hyv
  have hl' : ds.length = ti.size := Nat.eq_of_beq_eq_true hl
  have hlv := AV.holdsL_len hcs
  have hla := AV.holdsL_len hL
  obtain ⟨w', h2, h3, h4, h5⟩ := storeCells_run (P := P) (off := off) (Act.eval ⟨tmps, []⟩ y).cells.toList 0 arr w hh (allOne_of (hγ := hr.st.one) h1 hcs) (by simp only [Array.length_toList] at hla; omega)
  have hrun : (execOp (Act.eval ⟨tmps, []⟩) o).run P w = .ok .skip w' := by
    have hsz : (Act.eval ⟨tmps, []⟩ y).cells.size = ti.size := by
      rw [← Array.length_toList, hlv, hl']
    simp only [execOp, ho, Instr.storeAt, hxv, Instr.sureAddr, storeVar, Sem.run_bind, Sem.run_pure, Result.andThen_ok, hT.size ht, hsz, ne_eq, not_true_eq_false, if_false, h2]
  rw [hrun]
  have hput : (Act.put ⟨tmps, []⟩ o.dst undef) = ⟨tmps, []⟩ := by rw [hd]; rfl
  show wpList P ops (lift c n Q) rest (Act.put ⟨tmps, []⟩ o.dst undef) w'
  rw [hput]
  obtain ⟨g', arr', e', hv, hh', _⟩ := hr.st.res j _ hj
  have hgg : g' = g := by rw [hv] at hg'; simpa [gof] using hg'
  subst hgg
  have hrb : rblk (γ j) = some g' := by rw [hv]; rfl
  refine next S γ tmps w' (hr.same1 j hj ⟨h3.os, h3.tape, h3.output, h3.size, fun b hb hn => h3.block b hb (fun e => hn (by rw [hrb, e]))⟩ ⟨g', _, e, hv, h4, ?_⟩)
  have hsame : Same S w w' := fun b hs => h3.block b (hr.st.sz b hs) (fun e => by subst e; exact hr.st.live j _ b hj hrb hs)
  have := holdsL_setAll (S := S) (γ := γ) (w := w) off hcs hL
  simp only [Nat.add_zero]
  exact AV.extL (fun _ h => h) hsame (by simpa using this)


theorem TTOk.array {e : TypeId} {nn : Nat} (h : TTOk P T) (ht : look T t = some ⟨.array nn e, s, b⟩) : P.underlying t = some (.array nn e) := by
  obtain ⟨hk, _⟩ := h.ok t _ ht
  unfold tkOf at hk
  cases hu : P.underlying t with
  | none => rw [hu] at hk; cases hk
  | some d => rw [hu] at hk; cases d <;> first | (simp at hk; obtain ⟨rfl, rfl⟩ := hk; rfl) | exact absurd hk (by simp)
theorem sop_index_arr {e : TypeId} {nn j off : Nat} {ei : TI} {m : Int} {kd : IntKind} (ho : o.op = .indexAddr t x y := by rfl) (hT : TTOk P T := by assumption) (ht : look T t = some ⟨.array nn e, s, b⟩ := by rfl) (he : look T e = some ei := by rfl)
    (hx : Opv fr x (.ptr j off) := by exact opv_std) (hy : Opv fr y (.lit (.int kd m)) := by exact opv_std) (h0 : 0 ≤ m := by omega) (hk : m < (nn : Int) := by omega) : SOp P o fr H (.ptr j (off + m.toNat * ei.size)) := fun S γ w ρ h => by
  have h1 := h.get hx (by simp [ho, Op.operands])
  have h2 := h.lit hy (by simp [ho, Op.operands])
  simp only [AV.holds] at h1
  obtain ⟨g, hg, hv⟩ := h1
  refine outs (v := .pointer (some ⟨g, off + m.toNat * ei.size, none⟩)) ?_ (by simp only [AV.holds]; exact ⟨g, hg, rfl⟩)
  simp [execOp, ho, Instr.indexAt, h2, hv, asIntOf, run_underlying (hT.array ht), Instr.sureAddr, h0, hk, hT.size he, addr_add_ne]
theorem all_one_get {α : Type} [Inhabited α] {E : Enc α} {xs : List α} {k : Nat} {d : AV} (hs : E.size = 1) (hk : k < xs.length) (hd : E.cells (nth xs k) = [d]) : (E.all xs)[k]? = some d := by
  have h1 := E.all_at xs k hk
  rw [hs, Nat.mul_one] at h1
  have h2 : nth xs k = xs[k] := by simp [nth, hk]
  rw [h2] at hd
  rw [hd] at h1
  have : ((E.all xs).drop k)[0]? = some d := by rw [h1]; rfl
  simpa using this
theorem all_one_set {α : Type} [Inhabited α] {E : Enc α} (hs : E.size = 1) {x' : α} {d : AV} (hx : E.cells x' = [d]) : ∀ (xs : List α) (k : Nat), k < xs.length → (E.all xs).set k d = E.all (xs.set k x')
  | [], k, h => by simp at h
  | a :: xs, 0, _ => by
    have hl := E.len a
    rw [hs] at hl
    obtain ⟨u, hu⟩ := List.length_eq_one_iff.1 hl
    have e1 : E.all (a :: xs) = E.cells a ++ E.all xs := rfl
    have e2 : E.all ((a :: xs).set 0 x') = E.cells x' ++ E.all xs := rfl
    rw [e1, e2, hu, hx]; rfl
  | a :: xs, k + 1, h => by
    have hl := E.len a
    rw [hs] at hl
    obtain ⟨u, hu⟩ := List.length_eq_one_iff.1 hl
    have e1 : E.all (a :: xs) = E.cells a ++ E.all xs := rfl
    have e2 : E.all ((a :: xs).set (k + 1) x') = E.cells a ++ E.all (xs.set k x') := rfl
    rw [e1, e2, hu]
    simp only [List.cons_append, List.nil_append, List.set_cons_succ]
    rw [all_one_set hs hx xs k (by simpa using h)]
theorem sop_load_arr {α : Type} [Inhabited α] {E : Enc α} {xs : List α} {j k sz : Nat} {ti : TI} {d : AV} (ho : o.op = .load t x := by rfl) (hT : TTOk P T := by assumption) (ht : look T t = some ti := by rfl) (ha : ti.kind.agg = false := by rfl) (hx : Opv fr x (.ptr j (0 + k * sz)) := by exact opv_std) (hj : look H j = some (.box (E.all xs)) := by rfl) (hsz : sz = 1 := by rfl) (hs : E.size = 1 := by rfl) (hk : k < xs.length := by omega) (hd : E.cells (nth xs k) = [d] := by rfl) (hp : d.uses (fun _ => false) = true := by rfl) : SOp P o fr H d := fun S γ w ρ h => by
  subst hsz
  have h1 := h.get hx (by simp [ho, Op.operands])
  simp only [AV.holds] at h1
  obtain ⟨g, hg, hv⟩ := h1
  obtain ⟨arr, e, hh, hL⟩ := box_cell h.st hj hg
  obtain ⟨v, hv2, hc⟩ := AV.holdsL_get hL k d (all_one_get hs hk hd)
  rw [Nat.zero_add, Nat.mul_one] at hv
  have h0 : w.cell? ⟨g, k, none⟩ = some v := by
    rw [cell_of_row w g k arr e (0, 0) hh]
    simpa using hv2
  refine outs (v := v) ?_ hc
  simp only [execOp, ho, Instr.loadAt, hv, Instr.sureAddr, Sem.run_bind, Sem.run_pure, Result.andThen_ok, load_run1 hT ht ha h0]
theorem ao_store_arr {α : Type} [Inhabited α] {E : Enc α} {xs : List α} {j k sz : Nat} {ti : TI} {a d : AV} (hg : o.guard = none := by rfl) (hd : o.dst = none := by rfl) (ho : o.op = .store t x y := by rfl) (hT : TTOk P T := by assumption) (ht : look T t = some ti := by rfl) (hx : Opv fr x (.ptr j (0 + k * sz)) := by exact opv_std) (hj : look H j = some (.box (E.all xs)) := by rfl) (hsz : sz = 1 := by rfl) (hs : E.size = 1 := by rfl) (hk : k < xs.length := by omega)
    (hy : Opv fr y a := by exact opv_std) (hc : cellsOf a = some [d] := by rfl) (h1 : AV.allOneL [d] = true := by rfl) (hl : ti.size = 1 := by rfl) (hE : E.cells (E.read [d]) = [d] := by rfl)
    (next : AOps P c n ops rest Q fr ((j, .box (E.all (xs.set k (E.read [d])))) :: dropH (one1 j) H)) : AOps P c n ops (o :: rest) Q fr H := by
  subst hsz
  refine ao_storeP hg hd ho hT ht hx hj hy hc h1 (by rw [hl]; rfl) (by rw [E.all_len, hs, hl]; omega) ?_
  have e : setAll (E.all xs) (0 + k * 1) [d] = E.all (xs.set k (E.read [d])) := by
    rw [Nat.zero_add, Nat.mul_one]
    show (E.all xs).set k d = _
    exact all_one_set hs hE xs k hk
  rw [e]; exact next
theorem sop_pick_no {c : Operand} {g : Bool} (ho : o.op = .pick c y (.const (.bool false)) := by rfl) (hc : Opv fr c (.lit (.bool g)) := by exact opv_std) (hg : g = false := by first | rfl | assumption) : SOp P o fr H (.lit (.bool false)) := fun S γ w ρ h => by
  have h1 := h.lit hc (by simp [ho, Op.operands])
  refine outl ?_
  subst hg
  simp [execOp, ho, h1, asBool, h.const]
theorem sop_pick_yes {c : Operand} {g : Bool} (ho : o.op = .pick c (.const (.bool true)) y := by rfl) (hc : Opv fr c (.lit (.bool g)) := by exact opv_std) (hg : g = true := by first | rfl | assumption) : SOp P o fr H (.lit (.bool true)) := fun S γ w ρ h => by
  have h1 := h.lit hc (by simp [ho, Op.operands])
  refine outl ?_
  subst hg
  simp [execOp, ho, h1, asBool, h.const]
end
section
variable {P : Program} {T : List (Nat × TI)} {fr : List (Nat × AV)} {H : List (Nat × Res)} {o : Oper}
/-- the beginning of a slice of one's own -/
theorem sop_slice_pre {α : Type} {E : Enc α} {xs : List α} {x yhi : Operand} {t s b j e e' es eb m : Nat} {ek : TK} {ih : Int} (ho : o.op = .slice t x none (some yhi) none := by rfl) (hT : TTOk P T := by assumption) (ht : look T t = some ⟨.slice e, s, b⟩ := by rfl) (he : look T e = some ⟨ek, es, eb⟩ := by rfl) (hx : Opv fr x (.own j) := by exact opv_std) (hj : look H j = some (.own e' E xs) := by rfl) (hs : es = E.size := by rfl) (hhi : Opv fr yhi (.lit (.int .i64 ih)) := by exact opv_std) (hih : ih = (m : Int) := by first | rfl | omega) (h2 : m ≤ xs.length := by omega) (h0 : 0 < xs.length := by omega) : SOp P o fr H (.pre j m) := fun S γ w ρ h => by
  have hv := h.get hx (by simp [ho, Op.operands])
  have e2 := h.lit hhi (by simp [ho, Op.operands])
  subst hih hs
  simp only [AV.holds] at hv
  obtain ⟨g, cp, cur, vs, hgv, _, hgo, _, hnc, _⟩ := own_form h.st hj h0
  rw [hgv] at hv
  refine outs (v := .slice (some ⟨g, 0, none⟩) m (cp + 1)) ?_ (by simp only [AV.holds]; exact ⟨g, cp + 1, hgo, by omega, rfl⟩)
  have h3 : m ≤ cp + 1 := by omega
  simp [execOp, ho, hv, Instr.sliceAt, Instr.slice, run_underlying (hT.slice ht), Instr.sliceBounds, Instr.sliceBound, asIntOf, e2, hT.size he, h3, addr_add_ne]
end
end Go.Proofs.YtgdkeafdlehlaaaDoor

/- Small drawn regions, all orders one by one, over abstract frames. Nothing of the program stands here. -/
namespace Go.Proofs.YtgdkeafdlehlaaaDoor
open Go Go.RowKit
set_option linter.unusedVariables false
section
variable {P : Program} {c : Ctx} {n : Nat} {Q : AQ} {fr : List (Nat × AV)} {H : List (Nat × Res)} {ops : Array Oper} {fuel : Nat} {listed : Array Bool}
def AAny (P : Program) (c : Ctx) (n : Nat) (ops : Array Oper) (Q : AQ) (fuel : Nat) (listed : Array Bool) (fr : List (Nat × AV)) (H : List (Nat × Res)) : Prop :=
  ∀ S γ tmps w, Rel c n fr H S γ tmps w → wpAny P .any ops (lift c n Q) fuel listed ⟨tmps, []⟩ w
def QStep (P : Program) (c : Ctx) (n : Nat) (ops : Array Oper) (Q : AQ) (fuel : Nat) (listed : Array Bool) (i : Nat) : AQ
  | .normal, fr, H => AAny P c n ops Q fuel (listed.setIfInBounds i true) fr H
  | .exit id, fr, H => Q (.exit id) fr H
  | .goto l, fr, H => Q (.goto l) fr H
  | .ret, fr, H => Q .ret fr H
  | .panic ch, fr, H => Q (.panic ch) fr H
  | .outgrown, fr, H => Q .outgrown fr H
def AReady (P : Program) (c : Ctx) (n : Nat) (ops : Array Oper) (Q : AQ) (fuel : Nat) (listed : Array Bool) (fr : List (Nat × AV)) (H : List (Nat × Res)) : List Nat → Prop
  | [] => True
  | i :: r => (∃ o, ops[i]? = some o ∧ AOps P c n ops [o] (QStep P c n ops Q fuel listed i) fr H) ∧ AReady P c n ops Q fuel listed fr H r
theorem aready_at : ∀ {L : List Nat}, AReady P c n ops Q fuel listed fr H L → ∀ i ∈ L, ∃ o, ops[i]? = some o ∧ AOps P c n ops [o] (QStep P c n ops Q fuel listed i) fr H
  | j :: r, h, i, hi => by
    rcases List.mem_cons.1 hi with rfl | hi
    · exact h.1
    · exact aready_at h.2 i hi
theorem qstep_k {i : Nat} (h : AAny P c n ops Q fuel (listed.setIfInBounds i true) fr H) : QStep P c n ops Q fuel listed i .normal fr H := h
theorem any_step (L : List Nat) (hL : Region.ready .any ops listed = L) (hne : L.isEmpty = false) (h : AReady P c n ops Q fuel listed fr H L) : AAny P c n ops Q (fuel + 1) listed fr H := fun S γ tmps w hr => by
  refine ⟨fun h0 => ?_, fun i hi => ?_⟩
  · rw [h0] at hL; subst hL; cases hne
  · rw [hL] at hi
    obtain ⟨o, ho, hA⟩ := aready_at h i hi
    have h1 := hA S γ tmps w hr
    have key : ∀ a w, lift c n (QStep P c n ops Q fuel listed i) .normal a w → wpAny P .any ops (lift c n Q) fuel (listed.setIfInBounds i true) a w := by
      rintro ⟨t, d⟩ w' ⟨fr', H', S', γ', hq, hr', rfl⟩
      exact hq S' γ' t w' hr'
    unfold wpList at h1
    unfold wpOp
    simp only [ho]
    split
    · rename_i hw
      rw [if_pos hw] at h1
      rcases h1 with h1 | ⟨ha, hl⟩
      · exact .inl (wp_monoQ key (fun _ _ _ h => h) (fun h => h) h1)
      · exact .inr ⟨ha, hl⟩
    · rename_i hw
      rw [if_neg hw] at h1
      exact key _ _ h1
theorem any_end (hL : Region.ready .any ops listed = []) (h : Q .normal fr H) : AAny P c n ops Q fuel listed fr H := fun S γ tmps w hr => by
  cases fuel with
  | zero => exact ⟨hL, fr, H, S, γ, h, hr, rfl⟩
  | succ fuel => exact ⟨fun _ => ⟨fr, H, S, γ, h, hr, rfl⟩, fun i hi => by rw [hL] at hi; cases hi⟩
theorem a_region_E {id : Nat} {l : List Oper} (m : Nat) (hm : P.follows .mixedOrders = true) (hs : l.toArray.size = m) (h : AAny P c n l.toArray Q m (Array.replicate m false) fr H) : ACode P c n (.region id l.toArray true) Q fr H := fun S γ tmps w hr => by
  have x0 : Ext w { w with drawn := w.drawn + 1 } := ⟨rfl, rfl, rfl, Nat.le_refl _, fun _ _ => rfl⟩
  subst hs
  exact wp_region_any hm (h _ γ tmps _ (hr.ext x0))
end
end Go.Proofs.YtgdkeafdlehlaaaDoor

/- Literal slices that are changed, slices with room, function values that change what they name. Nothing of the program stands here. -/
namespace Go.Proofs.YtgdkeafdlehlaaaDoor
open Go Go.RowKit
set_option linter.unusedVariables false
set_option linter.unusedSimpArgs false
section
variable {P : Program} {T : List (Nat × TI)} {o : Oper} {fr : List (Nat × AV)} {H : List (Nat × Res)} {c : Ctx} {n : Nat} {Q : AQ} {ops : Array Oper} {rest : List Oper}
variable {S : Nat → Prop} {γ : Nat → Value} {w : World} {x y : Operand} {t t' : TypeId} {s b : Nat}
/-- the operands of a literal slice, qs0 cells -/
inductive PartsB (fr : List (Nat × AV)) (sz : Nat) : Nat → List (Nat × Operand) → List AV → Prop
  | nil {i : Nat} : PartsB fr sz i [] []
  | cons {i : Nat} {x : Operand} {a : AV} {cs ds : List AV} {ps : List (Nat × Operand)} (h : Opv fr x a) (hc : cellsOf a = some cs) (hl : Nat.beq cs.length sz = true) (hr : PartsB fr sz (i + 1) ps ds) : PartsB fr sz i ((i, x) :: ps) (cs ++ ds)
theorem PartsB.get {use : Operand → Prop} {ρ : Operand → Value} {sz i : Nat} {ps : List (Nat × Operand)} {ds : List AV} (h : PartsB fr sz i ps ds) (env : Env fr H use ρ S γ w) (hu : ∀ p ∈ ps, use p.2) :
    ∃ vs : List Value, ps.map (fun p => (p.1, ρ p.2)) = (vs.zipIdx i).map (fun p => (p.2, p.1)) ∧ vs.length = ps.length ∧ (∀ v ∈ vs, v.cells.size = sz) ∧ AV.holdsL S γ w ds (vs.flatMap fun v => v.cells.toList) := by
  induction h with
  | nil => exact ⟨[], rfl, rfl, by simp, by simp [AV.holdsL]⟩
  | @cons i x a cs ds ps h hc hl _ ih =>
    obtain ⟨vs, h1, h2, h3, h4⟩ := ih fun p hp => hu p (List.mem_cons_of_mem _ hp)
    have hx := cellsOf_holds env.st.one hc (env.get h (hu _ List.mem_cons_self))
    have hln := AV.holdsL_len hx
    refine ⟨ρ x :: vs, ?_, by simp [h2], ?_, ?_⟩
    · rw [List.map_cons, List.zipIdx_cons, List.map_cons, h1]
    · intro v hv
      rcases List.mem_cons.1 hv with rfl | hv
      · rw [← Array.length_toList, hln, Nat.eq_of_beq_eq_true hl]
      · exact h3 v hv
    · rw [List.flatMap_cons]
      exact AV.holdsL_app hx h4
/-- a literal slice whose cells are one's own -/
theorem ao_buildBox {d e len es eb : Nat} {ek : TK} {ps : Array (Nat × Operand)} {cs : List AV} (hg : o.guard = none := by rfl) (hd : o.dst = some d := by rfl) (hn : Nat.blt d n = true := by rfl) (ho : o.op = .buildSlice t len ps := by rfl) (hT : TTOk P T := by assumption) (ht : look T t = some ⟨.slice e, s, b⟩ := by rfl) (he : look T e = some ⟨ek, es, eb⟩ := by rfl)
    (hp : PartsB fr es 0 ps.toList cs := by repeat (first | exact PartsB.nil | (refine PartsB.cons (by exact opv_std) rfl rfl ?_))) (hlen : Nat.beq ps.size len = true := by rfl) (hbig : Nat.ble (len * es) 1000 = true := by rfl) (hpos : Nat.blt 0 (len * es) = true := by rfl)
    (hu : usesH (one1 (d + 1000)) (dropH (one1 (d + 1000)) H) = true := by rfl) (hcu : AV.usesL (fun j => !(one1 (d + 1000) j)) cs = true := by rfl)
    (next : AOps P c n ops rest Q ((d, .sl (d + 1000) 0 len len) :: markF (one1 (d + 1000)) fr) ((d + 1000, .box cs) :: dropH (one1 (d + 1000)) H)) : AOps P c n ops (o :: rest) Q fr H := fun S γ tmps w hr => by
  refine ao_plain hg ?_
  have env := hr.env (ds := []) (fun _ => True)
  obtain ⟨vs, h1, h2, h3, h4⟩ := hp.get env (fun _ _ => trivial)
  obtain ⟨i, z, hi, hi1, _, hz, hzs⟩ := hT.info he
  simp only at hi1 hzs
  have hlen' : vs.length = len := by rw [h2, Array.length_toList]; exact Nat.eq_of_beq_eq_true hlen
  have hbig' : len * es ≤ 1000 := Nat.le_of_ble_eq_true hbig
  have hpos' : 0 < len * es := Nat.lt_of_lt_of_le Nat.zero_lt_one (Nat.le_of_ble_eq_true hpos)
  obtain ⟨cells', hf1, hf2⟩ := fill_parts (size := es) vs 0 ((Array.range (len * es)).map (z.cells[· % z.cells.size]!)) _ h1 h3 (by simp [hlen'])
  have hrun : (execOp (Act.eval ⟨tmps, []⟩) o).run P w = .ok (.value (.slice (some ⟨w.heap.size, 0, none⟩) len len)) (w.alloc (.cells cells' e)) := by
    have hnb : ¬ (len * es > 2 ^ 24) := by omega
    have h0 : ¬ (len * es = 0) := by omega
    have hf1' : Instr.fill (fun i => some (i * es, es)) ((Array.range (len * es)).map (z.cells[· % z.cells.size]!)) ((ps.map fun (i, x) => (i, Act.eval ⟨tmps, []⟩ x)).toList) = some cells' := by
      have : (ps.map fun (i, x) => (i, Act.eval ⟨tmps, []⟩ x)).toList = ps.toList.map (fun p => (p.1, Act.eval ⟨tmps, []⟩ p.2)) := by rw [Array.toList_map]
      rw [this]
      exact hf1
    simp only [execOp, ho, Instr.buildSlice, Sem.run_bind, run_underlying (hT.slice ht), hT.size he, Result.andThen_ok, h0, if_false, hnb, Sem.run_pure, zeroValue, typeInfo, hi, hz, run_program, hf1']
    simp [newRow]
  refine outc hrun ?_
  have hput : ∀ v, (Act.put ⟨tmps, []⟩ o.dst v) = ⟨tmps.setIfInBounds d v, []⟩ := fun v => by rw [hd]; rfl
  rw [hput]
  have hc' : AV.holdsL S γ w cs cells'.toList := by rw [hf2]; simpa using h4
  exact next S _ _ _ ((hr.newBox (d + 1000) hc' (Nat.ble_eq_true_of_le (by omega)) hu hcu).put (Nat.le_of_ble_eq_true hn) (by simp only [AV.holds]; exact ⟨_, by rw [upd_same]; rfl, rfl⟩))
theorem sop_len_sl {j off m k e : Nat} (ho : o.op = .call { callee := .builtin .len, args := #[x], argTypes := #[t] } := by rfl) (hT : TTOk P T := by assumption) (ht : look T t = some ⟨.slice e, s, b⟩ := by rfl) (hx : Opv fr x (.sl j off m k) := by exact opv_std) : SOp P o fr H (.lit (.int .i64 (m : Int))) := fun S γ w ρ h => by
  have h1 := h.get hx (by simp [ho, Op.operands, Call.operands])
  simp only [AV.holds] at h1
  obtain ⟨g, _, hv⟩ := h1
  refine outl ?_
  simp [execOp, ho, resolve, invoke, builtin, hv, Builtin.len_, run_underlying (hT.slice ht)]
  rfl
/-- the place of one of a literal slice's parts -/
theorem sop_index_sl {j off m cp e k es eb : Nat} {ek : TK} {kd : IntKind} {i : Int} (ho : o.op = .indexAddr t x y := by rfl) (hT : TTOk P T := by assumption) (ht : look T t = some ⟨.slice e, s, b⟩ := by rfl) (he : look T e = some ⟨ek, es, eb⟩ := by rfl) (hx : Opv fr x (.sl j off m cp) := by exact opv_std) (hy : Opv fr y (.lit (.int kd i)) := by exact opv_std) (hi : i = (k : Int) := by first | rfl | omega) (hk : k < m := by first | omega | (simp only [List.length_append, List.length_cons, List.length_nil, List.length_take, List.length_drop, List.length_replicate, List.length_map, List.length_set]; omega) | simp only [List.length_replicate, List.length_append, List.length_map, List.length_set]) : SOp P o fr H (.ptr j (off + k * es)) := fun S γ w ρ h => by
  have h1 := h.get hx (by simp [ho, Op.operands])
  have h2 := h.lit hy (by simp [ho, Op.operands])
  simp only [AV.holds] at h1
  obtain ⟨g, hg, hv⟩ := h1
  refine outs (v := .pointer (some ⟨g, off + k * es, none⟩)) ?_ (by simp only [AV.holds]; exact ⟨g, hg, rfl⟩)
  subst hi
  simp [execOp, ho, Instr.indexAt, hv, h2, asIntOf, run_underlying (hT.slice ht), hk, hT.size he, addr_add_ne]
/-- the place of one of the data of one's own, through a part of them -/
theorem sop_index_slO {j a m cp e k es eb : Nat} {ek : TK} {kd : IntKind} {i : Int} {α : Type} {E : Enc α} {xs : List α} {e' : Nat} (ho : o.op = .indexAddr t x y := by rfl) (hT : TTOk P T := by assumption) (ht : look T t = some ⟨.slice e, s, b⟩ := by rfl) (he : look T e = some ⟨ek, es, eb⟩ := by rfl) (hx : Opv fr x (.sl j (a * E.size) m cp) := by exact opv_std) (hj : look H j = some (.own e' E xs) := by rfl) (hs : es = E.size := by rfl) (hy : Opv fr y (.lit (.int kd i)) := by exact opv_std) (hi : i = (k : Int) := by first | rfl | omega) (hk : k < m := by first | omega | (simp only [List.length_append, List.length_cons, List.length_nil, List.length_take, List.length_drop, List.length_replicate, List.length_map, List.length_set]; omega) | simp only [List.length_replicate, List.length_append, List.length_map, List.length_set]) : SOp P o fr H (.ptr j ((a + k) * E.size + 0)) := by
  subst hs
  have := sop_index_sl (P := P) (H := H) ho hT ht he hx hy hi hk
  rwa [← Nat.add_mul] at this
/-- a part of a part -/
theorem sop_slice_sl {j a m cp e es eb lo hi : Nat} {ek : TK} {α : Type} {E : Enc α} {xs : List α} {e' : Nat} {ylo yhi : Operand} (ho : o.op = .slice t x (some ylo) (some yhi) none := by rfl) (hT : TTOk P T := by assumption) (ht : look T t = some ⟨.slice e, s, b⟩ := by rfl) (he : look T e = some ⟨ek, es, eb⟩ := by rfl) (hx : Opv fr x (.sl j (a * E.size) m cp) := by exact opv_std) (hj : look H j = some (.own e' E xs) := by rfl) (hs : es = E.size := by rfl) {il ih : Int} (hlo : Opv fr ylo (.lit (.int .i64 il)) := by exact opv_std) (hhi : Opv fr yhi (.lit (.int .i64 ih)) := by exact opv_std) (hil : il = (lo : Int) := by first | rfl | omega) (hih : ih = (hi : Int) := by first | exact (Int.natCast_add _ _).symm | rfl | omega) (h1 : lo ≤ hi := by first | omega | (simp only [List.length_append, List.length_cons, List.length_nil, List.length_take, List.length_drop, List.length_replicate, List.length_map, List.length_set]; omega) | simp only [List.length_replicate, List.length_append, List.length_map, List.length_set]) (h2 : hi ≤ cp := by first | omega | (simp only [List.length_append, List.length_cons, List.length_nil, List.length_take, List.length_drop, List.length_replicate, List.length_map, List.length_set]; omega) | simp only [List.length_replicate, List.length_append, List.length_map, List.length_set]) (h3 : lo < cp := by first | omega | (simp only [List.length_append, List.length_cons, List.length_nil, List.length_take, List.length_drop, List.length_replicate, List.length_map, List.length_set]; omega) | simp only [List.length_replicate, List.length_append, List.length_map, List.length_set]) : SOp P o fr H (.sl j ((a + lo) * E.size) (hi - lo) (cp - lo)) := fun S γ w ρ h => by
  have hv := h.get hx (by simp [ho, Op.operands])
  have e1 := h.lit hlo (by simp [ho, Op.operands])
  have e2 := h.lit hhi (by simp [ho, Op.operands])
  subst hil hih hs
  simp only [AV.holds] at hv
  obtain ⟨g, hg, hv⟩ := hv
  refine outs (v := .slice (some ⟨g, (a + lo) * E.size, none⟩) (hi - lo) (cp - lo)) ?_ (by simp only [AV.holds]; exact ⟨g, hg, rfl⟩)
  have e3 : ¬ cp = lo := by omega
  simp [execOp, ho, hv, Instr.sliceAt, Instr.slice, run_underlying (hT.slice ht), Instr.sliceBounds, Instr.sliceBound, asIntOf, e1, e2, hT.size he, h2, h1, e3, addr_add_ne, Nat.add_mul]
/-- a slice with nothing in it, but with room -/
theorem ao_makeRoom {d e es eb : Nat} {ek : TK} {ZT : List (Nat × List Z)} {zs : List Z} {m : Int} {α : Type} (E : Enc α) (z : α) (hg : o.guard = none := by rfl) (hd : o.dst = some d := by rfl) (hn : Nat.blt d n = true := by rfl) (ho : o.op = .makeSlice t x y := by rfl) (hT : TTOk P T := by assumption) (ht : look T t = some ⟨.slice e, s, b⟩ := by rfl) (he : look T e = some ⟨ek, es, eb⟩ := by rfl) (hZ : ZOk P ZT := by assumption) (hz : look ZT e = some zs := by rfl) (hE : E.cells z = zAV zs := by rfl) (hs : es = E.size := by rfl)
    (hx : Opv fr x (.lit (.int .i64 0)) := by exact opv_std) (hy : Opv fr y (.lit (.int .i64 m)) := by exact opv_std) (h0 : 0 < m := by omega) (hm : eb * m ≤ 281474976710656 := by omega) (hm2 : m ≤ 281474976710656 := by omega)
    (hu : usesH (one1 (d + 1000)) (dropH (one1 (d + 1000)) H) = true := by rfl)
    (next : AOps P c n ops rest Q ((d, .sl (d + 1000) (0 * E.size) 0 m.toNat) :: markF (one1 (d + 1000)) fr) ((d + 1000, .own e E (List.replicate m.toNat z)) :: dropH (one1 (d + 1000)) H)) : AOps P c n ops (o :: rest) Q fr H := fun S γ tmps w hr => by
  refine ao_plain hg ?_
  have env := hr.env (ds := []) (fun _ => True)
  have h1 := env.lit hx trivial
  have h2 := env.lit hy trivial
  obtain ⟨zi, zv, hi, hiz, hzc⟩ := hZ.zero hz
  obtain ⟨_, _, j, zv', hj, hsz, hby, hjz, hcz⟩ := hT.ok e _ he
  rw [hi] at hj; injection hj with hj; subst hj
  rw [hiz] at hjz; injection hjz with hjz; subst hjz
  simp only at hsz hby hcz
  have hrun := run_make (P := P) w t e zi zv (hT.slice ht) hi hiz .i64 .i64 0 m (Int.le_refl _) (by omega) (by rw [hby]; exact hm) (by omega)
  have hex : (execOp (Act.eval ⟨tmps, []⟩) o).run P w = .ok (.value (.slice (some ⟨w.heap.size, 0, none⟩) 0 m.toNat)) (w.alloc (.cells (madeCells zv.cells (m.toNat * zi.size)) e)) := by
    simp only [execOp, ho, h1, h2, Sem.run_bind, hrun, Result.andThen_ok, Sem.run_pure]
    rfl
  rw [hex]
  have hput : ∀ v, (Act.put ⟨tmps, []⟩ o.dst v) = ⟨tmps.setIfInBounds d v, []⟩ := fun v => by rw [hd]; rfl
  show wpList P ops (lift c n Q) rest (Act.put ⟨tmps, []⟩ o.dst _) _
  rw [hput]
  have hkJ : Nat.ble 1000 (d + 1000) = true := Nat.ble_eq_true_of_le (by omega)
  have hsize : zi.size = zv.cells.size := by omega
  have hmax : m.toNat ≤ maxLen := by simp only [maxLen]; omega
  have hl := made_list zv.cells m.toNat
  rw [← hsize] at hl
  have hlen : (madeCells zv.cells (m.toNat * zi.size)).size = m.toNat * E.size := by rw [size_madeCells]; simp only [hsz, hs]
  have hr' := hr.eff1 (d + 1000) (w' := w.alloc (.cells (madeCells zv.cells (m.toNat * zi.size)) e)) (r := .own e E (List.replicate m.toNat z)) (v := .slice (some ⟨w.heap.size, 0, none⟩) m.toNat m.toNat) (keep_alloc _ w _)
    ⟨(madeCells zv.cells (m.toNat * zi.size)).toList, ⟨by simp [hlen], _, _, by simp, .inr ⟨w.heap.size, _, rfl, Nat.zero_le _, .of (heap_alloc_new w _), by simp, hmax, by rw [hlen]; exact Nat.le_refl _, by
      rw [List.take_of_length_le]; simp [hlen]⟩⟩, by rw [hl]; exact holds_made hE hzc _, fun u hu => by
      rw [hl] at hu
      simp only [List.mem_flatten, List.mem_replicate] at hu
      obtain ⟨l, ⟨_, rfl⟩, hu⟩ := hu
      rw [hzc] at hu
      obtain ⟨q, _, rfl⟩ := List.mem_map.1 hu
      exact zval_one q⟩ rfl (fun b hb => by
        left
        cases hm0 : m.toNat with
        | zero => rw [hm0] at hb; simp [rblk, wblk] at hb
        | succ q => rw [hm0] at hb; simp [rblk, wblk] at hb; omega) hkJ hu
  exact next S _ _ _ (hr'.put (Nat.le_of_ble_eq_true hn) (by simp only [AV.holds]; exact ⟨_, by rw [upd_same]; rfl, by rw [Nat.zero_mul]⟩))
/-- appending into room -/
theorem ao_append_room {d e j cp es eb : Nat} {ek : TK} {sx : Operand} {α : Type} {E : Enc α} {zs ys : List α} (hg : o.guard = none := by rfl) (hd : o.dst = some d := by rfl) (hn : Nat.blt d n = true := by rfl) (ho : o.op = .call { callee := .builtin .append, args := #[sx, x], argTypes := #[t, t] } := by rfl)
    (hT : TTOk P T := by assumption) (ht : look T t = some ⟨.slice e, s, b⟩ := by rfl) (he : look T e = some ⟨ek, es, eb⟩ := by rfl)
    (hsx : Opv fr sx (.sl j (0 * E.size) 0 cp) := by exact opv_std) (hj : look H j = some (.own e E zs) := by rfl) (hs : es = E.size := by rfl) (hE : Nat.blt 0 es = true := by rfl) (hx : Src fr H x E ys := by first | exact .snap (by exact opv_std) | exact .own (by exact opv_std) rfl | exact .nil (by exact opv_std)) (hm : ys.length ≤ cp := by first | omega | (simp only [List.length_append, List.length_cons, List.length_nil, List.length_take, List.length_drop, List.length_replicate, List.length_map, List.length_set]; omega) | simp only [List.length_replicate, List.length_append, List.length_map, List.length_set]) (hz : zs.length = cp := by first | omega | (simp only [List.length_append, List.length_cons, List.length_nil, List.length_take, List.length_drop, List.length_replicate, List.length_map, List.length_set]; omega) | simp only [List.length_replicate, List.length_append, List.length_map, List.length_set]) (hz0 : 0 < cp := by first | omega | (simp only [List.length_append, List.length_cons, List.length_nil, List.length_take, List.length_drop, List.length_replicate, List.length_map, List.length_set]; omega) | simp only [List.length_replicate, List.length_append, List.length_map, List.length_set])
    (next : AOps P c n ops rest Q ((d, .sl j (0 * E.size) ys.length cp) :: fr) ((j, .own e E (ys ++ zs.drop ys.length)) :: dropH (one1 j) H)) : AOps P c n ops (o :: rest) Q fr H := fun S γ tmps w hr => by
  refine ao_plain hg ?_
  have env := hr.env (ds := []) (fun _ => True)
  have hsv := env.get hsx trivial
  simp only [AV.holds] at hsv
  obtain ⟨g', hg', hsv⟩ := hsv
  obtain ⟨g, cq, cur, vs, hgv, hrb, hgo, hh, hnc, hcm, hcs, htk, hcc, hv1⟩ := own_form hr.st hj (by omega)
  rw [hgo] at hg'
  simp only [Option.some.injEq] at hg'; subst hg'
  obtain ⟨B, dd, us, hxv, hdd, hrow, hus, hu1⟩ := hx.get env trivial
  obtain ⟨i, z, hi, hi1, hi2, hzz, hzs⟩ := hT.info he
  simp only at hi1 hi2 hzs
  have hlen := AV.holdsL_len hus
  rw [Enc.all_len] at hlen
  have hE' : 0 < es := Nat.lt_of_lt_of_le Nat.zero_lt_one (Nat.le_of_ble_eq_true hE)
  have hcz : zs.length * E.size ≤ cur.size := Nat.le_trans (Nat.mul_le_mul_right _ hnc) hcs
  have hfit : ys.length * E.size ≤ zs.length * E.size := Nat.mul_le_mul_right _ (by omega)
  have hrr : ∃ w', (Builtin.append_ #[t, t] o.type #[.slice (some ⟨g, 0, none⟩) 0 cp, .slice B ys.length dd]).run P w = .ok (.slice (some ⟨g, 0, none⟩) ys.length cp) w' ∧
      Blk w' g (us ++ cur.toList.drop us.length).toArray e ∧ w.grownBy w' (some g) := by
    by_cases hm0 : ys.length = 0
    · have hn0 : us = [] := List.eq_nil_of_length_eq_zero (by simp [hlen, hm0])
      subst hn0
      refine ⟨w, ?_, by simpa using hh, ⟨rfl, rfl, rfl, Nat.le_refl _, fun _ _ _ => rfl⟩⟩
      rw [hm0]
      exact run_app_zero (P := P) w t o.type e i (hT.slice ht) hi _ 0 cp B dd (by omega)
    · have hne : us ≠ [] := by
        intro h0
        rw [h0] at hlen
        rcases Nat.mul_eq_zero.1 (hlen.symm.trans (by simp)) with h | h <;> omega
      obtain ⟨ad, rfl, hnews⟩ := hrow hne
      have hrr := run_append_roomT (P := P) w t o.type e i (hT.slice ht) hi g 0 cp cur hh ad ys.length dd us (by rw [hlen, hi1, hs]) hnews hu1 (by omega) (by rw [Nat.zero_mul, Nat.zero_add, hlen]; omega)
      rw [Nat.zero_mul, Nat.zero_add] at hrr
      refine ⟨_, hrr, ?_, ⟨rfl, rfl, rfl, by simp, fun k _ hk => setRow_other w g k _ (fun e => hk (by rw [e]))⟩⟩
      have := hh.setRow (new := (us ++ cur.toList.drop us.length).toArray) (by simp only [List.size_toArray, List.length_append, List.length_drop, Array.length_toList]; omega)
      simpa using this
  obtain ⟨w', hrun, hheap, hgr⟩ := hrr
  have hexec : (execOp (Act.eval ⟨tmps, []⟩) o).run P w = .ok (.value (.slice (some ⟨g, 0, none⟩) ys.length cp)) w' := by
    unfold execOp
    simp only [ho, resolve, invoke, builtin, Sem.run_bind, Sem.run_pure, Result.andThen_ok, List.map_toArray, List.map_cons, List.map_nil, hsv, Nat.zero_mul, hxv, hrun]
  refine outc hexec ?_
  have hput : ∀ v, (Act.put ⟨tmps, []⟩ o.dst v) = ⟨tmps.setIfInBounds d v, []⟩ := fun v => by rw [hd]; rfl
  rw [hput]
  have hsame : Same S w w' := fun b hs => hgr.block b (hr.st.sz b hs) (fun e => by injection e with e; subst e; exact hr.st.live j _ b hj hrb hs)
  have hnl : (us ++ cur.toList.drop us.length).length = cur.size := by rw [List.length_append, List.length_drop]; have e1 : cur.toList.length = cur.size := Array.length_toList; omega
  have hdl : ((ys ++ zs.drop ys.length) : List α).length = zs.length := by rw [List.length_append, List.length_drop]; omega
  have hnew : AV.holdsL S noγ w' (E.all (ys ++ zs.drop ys.length)) (us ++ vs.drop us.length) := by
    rw [Enc.all_append]
    refine AV.holdsL_app (AV.extL (fun _ h => h) hsame hus) ?_
    rw [← Enc.all_drop, ← hlen]
    exact AV.extL (fun _ h => h) hsame (AV.holdsL_drop hcc _)
  have hr' := hr.same1 j (r' := .own e E (ys ++ zs.drop ys.length)) hj (w' := w') ⟨hgr.os, hgr.tape, hgr.output, hgr.size, fun b hb hn => hgr.block b hb (fun e => hn (by rw [hrb, e]))⟩ ⟨us ++ vs.drop us.length, ⟨?_, _, cq + 1, hgv.trans (by rw [hdl]), .inr ⟨g, _, rfl, Nat.zero_le _, hheap, by rw [hdl]; exact hnc, hcm, ?_, ?_⟩⟩, hnew, ?_⟩
  · refine next S γ _ w' (hr'.put (Nat.le_of_ble_eq_true hn) ?_)
    simp only [AV.holds]
    exact ⟨g, hgo, by rw [Nat.zero_mul]⟩
  · have := AV.holdsL_len hnew
    rw [Enc.all_len] at this
    exact this
  · rw [List.size_toArray, hnl]; exact hcs
  · show List.take _ _ = _
    have e1 : (ys ++ zs.drop ys.length).length * E.size = us.length + (zs.length * E.size - us.length) := by rw [hdl, hlen]; omega
    rw [e1, List.take_append, List.take_of_length_le (by omega), Nat.add_sub_cancel_left, ← htk, List.drop_take]
  · intro u hu
    rcases List.mem_append.1 hu with h | h
    · exact hu1 u h
    · exact hv1 u (List.mem_of_mem_drop h)
theorem snap_room {S' : Nat → Prop} {j e cp : Nat} {α : Type} {E : Enc α} {zs : List α} {k : Nat} {v : Value} (hst : St S γ w H) (hj : look H j = some (.own e E zs)) (hS : ∀ b, S b → S' b) (hb : ∀ b, rblk (γ j) = some b → S' b) (h : (AV.sl j (0 * E.size) k cp).holds S γ w v) (hk : k ≤ zs.length) (hc : zs.length ≤ cp) (h0 : 0 < zs.length) : (roomF E (zs.take k) (zs.drop k)).holds S' w v := by
  obtain ⟨g, cq, cur, vs, hgv, hrb, hgo, hh, hnc, hcm, hcs, htk, hcc, hv1⟩ := own_form hst hj h0
  simp only [AV.holds] at h
  obtain ⟨g', hg', hv⟩ := h
  rw [hgo] at hg'
  simp only [Option.some.injEq] at hg'; subst hg'
  refine ⟨some ⟨g, 0, none⟩, cp, vs, by rw [hv, Nat.zero_mul, List.length_take, Nat.min_eq_left hk], by rw [List.length_take, List.length_drop]; omega, fun _ => ⟨_, rfl, hb _ hrb, fun i u hu => ?_⟩, ?_, hv1⟩
  · rw [addr_add_ne, Nat.zero_add, hh.cell]
    rw [← htk, List.getElem?_take] at hu
    split at hu
    · simpa using hu
    · cases hu
  · rw [List.take_append_drop]
    exact AV.extL hS (fun _ _ => rfl) hcc
/-- what lies in a slice with room is only read from here on -/
theorem a_freezeRoom {code : Code} (x j k : Nat) {e cp : Nat} {α : Type} {E : Enc α} {zs : List α} (hx : look fr x = some (.sl j (0 * E.size) k cp)) (hj : look H j = some (.own e E zs)) (hk : k ≤ zs.length) (hc : zs.length ≤ cp) (h0 : 0 < zs.length) (h : ACode P c n code Q ((x, .snap (roomF E (zs.take k) (zs.drop k))) :: frzO j E zs fr) (dropH (one1 j) H)) : ACode P c n code Q fr H := fun S γ tmps w hr => by
  have h1 := snap_room hr.st hj (S' := fun b => S b ∨ rblk (γ j) = some b) (fun b h => .inl h) (fun b h => .inr h) (hr.fr x _ hx) hk hc h0
  have hr' := hr.freezeOwn j hj
  refine h _ γ tmps w ⟨hr'.st, fun y av hy => ?_, hr'.up, hr'.own, hr'.ids, hr'.size, hr'.keep⟩
  rw [look_cons] at hy
  split at hy
  · rename_i e; subst e; injection hy with hy; subst hy
    simp only [AV.holds]; exact h1
  · exact hr'.fr y av hy
/-- the same, ahead of a region -/
theorem a_frzRoom (id x j : Nat) {l : Array Oper} {d : Bool} {k e cp : Nat} {α : Type} {E : Enc α} {zs : List α} (hx : look fr x = some (.sl j (0 * E.size) k cp) := by rfl) (hj : look H j = some (.own e E zs) := by rfl) (hk : k ≤ zs.length := by first | omega | (simp only [List.length_append, List.length_cons, List.length_nil, List.length_take, List.length_drop, List.length_replicate, List.length_map, List.length_set]; omega) | simp only [List.length_replicate, List.length_append, List.length_map, List.length_set]) (hc : zs.length ≤ cp := by first | omega | (simp only [List.length_append, List.length_cons, List.length_nil, List.length_take, List.length_drop, List.length_replicate, List.length_map, List.length_set]; omega) | simp only [List.length_replicate, List.length_append, List.length_map, List.length_set]) (h0 : 0 < zs.length := by first | omega | (simp only [List.length_append, List.length_cons, List.length_nil, List.length_take, List.length_drop, List.length_replicate, List.length_map, List.length_set]; omega) | simp only [List.length_replicate, List.length_append, List.length_map, List.length_set]) (h : ACode P c n (.region id l d) Q ((x, .snap (roomF E (zs.take k) (zs.drop k))) :: frzO j E zs fr) (dropH (one1 j) H)) : ACode P c n (.region id l d) Q fr H := a_freezeRoom x j k hx hj hk hc h0 h
/-- the room behind what was lent -/
theorem sop_slice_room {e es eb : Nat} {ek : TK} {α : Type} {E : Enc α} {xs zs : List α} {ylo yhi : Operand} (ho : o.op = .slice t x (some ylo) (some yhi) none := by rfl) (hT : TTOk P T := by assumption) (ht : look T t = some ⟨.slice e, s, b⟩ := by rfl) (he : look T e = some ⟨ek, es, eb⟩ := by rfl) (hx : Opv fr x (.snap (roomF E xs zs)) := by exact opv_std) (hs : es = E.size := by rfl) {il ih : Int} (hlo : Opv fr ylo (.lit (.int .i64 il)) := by exact opv_std) (hhi : Opv fr yhi (.lit (.int .i64 ih)) := by exact opv_std) (hil : il = (xs.length : Int) := by first | rfl | omega) (hih : ih = (xs.length : Int) + (zs.length : Int) := by first | rfl | omega | (simp only [List.length_cons, List.length_nil]; omega)) (h0 : 0 < zs.length := by first | omega | (simp only [List.length_append, List.length_cons, List.length_nil, List.length_take, List.length_drop, List.length_replicate, List.length_map, List.length_set]; omega) | simp only [List.length_replicate, List.length_append, List.length_map, List.length_set]) : SOp P o fr H (.snap (slF E zs)) := fun S γ w ρ h => by
  have h1 := h.get hx (by simp [ho, Op.operands])
  have e1 := h.lit hlo (by simp [ho, Op.operands])
  have e2 := h.lit hhi (by simp [ho, Op.operands])
  simp only [AV.holds] at h1
  obtain ⟨A, cp, vs, hv, hc, hr, hh, h1'⟩ := h1
  subst hil hs
  obtain ⟨k, hk⟩ : ∃ k, k = xs.length + zs.length := ⟨_, rfl⟩
  have hih' : ih = (k : Int) := by omega
  subst hih'
  have hk1 : xs.length ≤ k := by omega
  have hk2 : k ≤ cp := by omega
  have e3 : ¬ cp = xs.length := by omega
  have hrun : (execOp ρ o).run P w = .ok (.value (.slice (A.map (·.add (xs.length * E.size))) zs.length (cp - xs.length))) w := by
    have e5 : zs.length = k - xs.length := by omega
    rw [e5]
    simp [execOp, ho, hv, Instr.sliceAt, Instr.slice, run_underlying (hT.slice ht), Instr.sliceBounds, Instr.sliceBound, asIntOf, e1, e2, hT.size he, e3, hk1, hk2]
  refine outs hrun ?_
  simp only [AV.holds]
  refine ⟨_, cp - xs.length, vs.drop (xs.length * E.size), rfl, by omega, ?_, ?_, fun u hu => h1' u (List.mem_of_mem_drop hu)⟩
  · intro hne
    have hne2 : vs ≠ [] := by intro e; subst e; simp at hne
    obtain ⟨ad, rfl, hb, hcell⟩ := hr hne2
    refine ⟨_, rfl, by rw [addr_block]; exact hb, fun j u hu => ?_⟩
    rw [addr_add2]
    apply hcell
    simpa using hu
  · have := AV.holdsL_drop hh (xs.length * E.size)
    rwa [Enc.all_drop, List.drop_left] at this
theorem sop_len_room {α : Type} {E : Enc α} {xs zs : List α} {e : Nat} (ho : o.op = .call { callee := .builtin .len, args := #[x], argTypes := #[t] } := by rfl) (hT : TTOk P T := by assumption) (ht : look T t = some ⟨.slice e, s, b⟩ := by rfl) (hx : Opv fr x (.snap (roomF E xs zs)) := by exact opv_std) : SOp P o fr H (.lit (.int .i64 (xs.length : Int))) := fun S γ w ρ h => by
  have h1 := h.get hx (by simp [ho, Op.operands, Call.operands])
  simp only [AV.holds] at h1
  obtain ⟨A, cp, vs, hv, _⟩ := h1
  refine outl ?_
  simp [execOp, ho, resolve, invoke, builtin, hv, Builtin.len_, run_underlying (hT.slice ht)]
  rfl
/-- function values that name what they change -/
inductive CapsA (fr : List (Nat × AV)) : List Operand → List AV → Prop
  | nil : CapsA fr [] []
  | cons {x : Operand} {a : AV} {xs : List Operand} {qs0 : List AV} (h : Opv fr x a) (hr : CapsA fr xs qs0) : CapsA fr (x :: xs) (a :: qs0)
theorem CapsA.holds {use : Operand → Prop} {ρ : Operand → Value} {xs : List Operand} {qs0 : List AV} (h : CapsA fr xs qs0) (env : Env fr H use ρ S γ w) (hu : ∀ x ∈ xs, use x) : AV.holdsL S γ w qs0 (xs.map ρ) := by
  induction h with
  | nil => simp [AV.holdsL]
  | cons h _ ih =>
    simp only [List.map_cons, AV.holdsL]
    exact ⟨_, _, rfl, env.get h (hu _ List.mem_cons_self), ih fun x hx => hu x (List.mem_cons_of_mem _ hx)⟩
theorem sop_makeFn {f : FuncId} {caps : Array Operand} {cs : List AV} (ho : o.op = .makeFunc (.func f) #[] caps := by rfl) (hcaps : CapsA fr caps.toList cs := by repeat (first | exact .nil | refine .cons (by exact opv_std) ?_)) : SOp P o fr H (.fn f cs) := fun S γ w ρ env => by
  have h1 := hcaps.holds env (fun x hx => by simp [ho, Op.operands]; simpa using hx)
  refine outs (v := .func (.func f) #[] (caps.map ρ)) (by simp [execOp, ho, Instr.makeFunc]) ?_
  simp only [AV.holds]
  exact ⟨caps.toList.map ρ, by congr 1; apply Array.ext'; simp, h1⟩
/-- a call of such a function value -/
theorem ao_callF (L : List (Nat × Nat)) {f tf : Nat} {zs : Array Operand} {tys : Array TypeId} {qs0 cs : List AV} {Hin Hout : List (Nat × Res)} {out : AV} {d : Nat} (hC : Con P f qs0 Hin fun a h => a = out ∧ h = Hout) (hg : o.guard = none := by rfl) (hd : o.dst = some d := by rfl) (hn : Nat.blt d n = true := by rfl)
    (ho : o.op = .call { callee := .value (.tmp tf), args := zs, argTypes := tys } := by rfl) (hfn : look fr tf = some (.fn f cs) := by rfl) (hcs : cs = AV.renL (renC L d) (qs0.drop zs.size) := by rfl) (hf : entersB P f = true := by kernel_rfl) (hargs : ArgsOk false fr H zs.toList (AV.renL (renC L d) (qs0.take zs.size)) := by repeat (first | exact .nil | refine .cons (by exact opv_std) ?_ | refine .lend rfl (by exact opv_std) (by rfl) ?_ | refine .nilS (by exact opv_std) ?_ | refine .lentS (by exact opv_std) ?_))
    (hin : HinOk H (renC L d) Hin := by repeat (first | exact trivial | refine ⟨rfl, ?_⟩)) (hinj : injB (renC L d) (idsOf Hin) = true := by rfl)
    (hok : callOk (renC L d) out Hin Hout H = true := by rfl)
    (next : AOps P c n ops rest Q ((d, out.ren (renC L d)) :: markF (anyId (renC L d) (freshIds Hin Hout)) fr) (renH (renC L d) Hout ++ dropH (anyId (renC L d) (idsOf Hin ++ idsOf Hout)) H)) : AOps P c n ops (o :: rest) Q fr H := fun S γ tmps w hr => by
  refine ao_plain hg ?_
  have env := hr.env (ds := []) (fun _ => True)
  have hinj' := injB_iff hinj
  have hin' : ∀ j r, look Hin j = some r → look H (renC L d j) = some (r.ren (renC L d)) := fun j r h => hin.at j r h
  have hl : ∀ b, LentS false S γ H b → b < w.heap.size := by
    rintro b (h | ⟨h, _⟩)
    · exact hr.st.sz b h
    · cases h
  have hS1 : ∀ b, S b → LentS false S γ H b := fun b h => .inl h
  have hst : St (LentS false S γ H) (fun j => γ (renC L d j)) w Hin := by
    refine ⟨fun j r hj => ?_, fun i j ri rj b hi hj hbi hbj => ?_, fun j r b hj hb hs => ?_, hr.st.sz.to hS1 (fun _ _ => rfl) hl, fun j => hr.st.one _⟩
    · have h0 := hr.st.res (renC L d j) _ (hin' j r hj)
      rw [Res.holds_ren] at h0
      exact Res.mono hS1 (fun _ _ => rfl) (fun _ => true) (fun _ _ => rfl) (by cases r <;> simp [Res.uses, AV.usesL_true]) (fun _ _ => rfl) h0
    · have := hr.st.dis (renC L d i) (renC L d j) _ _ b (hin' i ri hi) (hin' j rj hj) hbi hbj
      exact hinj' i j (look_ids hi) (look_ids hj) this
    · rcases hs with hs | ⟨hB, _⟩
      · exact hr.st.live (renC L d j) _ b (hin' j r hj) hb hs
      · cases hB
  have hfv := hr.fr tf _ hfn
  simp only [AV.holds] at hfv
  obtain ⟨us, hfv, hus⟩ := hfv
  have ha1 := AV.extL (S' := LentS false S γ H) hS1 (fun _ _ => rfl) hus
  rw [hcs] at ha1
  have ha2 := AV.holdsL_app (hargs.holds env (fun _ _ => trivial)) ha1
  have ren_app : ∀ (p q : List AV), AV.renL (renC L d) p ++ AV.renL (renC L d) q = AV.renL (renC L d) (p ++ q) := by
    intro p q
    induction p with
    | nil => rfl
    | cons a p ih => simp only [AV.renL, List.cons_append, ih]
  rw [ren_app, List.take_append_drop] at ha2
  have hcall := hC (LentS false S γ H) (fun j => γ (renC L d j)) w _ hst ((AV.holdsL_ren (renC L d) qs0 _).1 ha2)
  unfold entersB at hf
  cases hfc : P.funcs[f]? with
  | none => simp [hfc] at hf
  | some fn =>
    simp only [hfc, Bool.and_eq_true, Bool.not_eq_true'] at hf
    have hrun : (execOp (Act.eval ⟨tmps, []⟩) o).run P w = .ok (.enter f (zs.map (Act.eval ⟨tmps, []⟩) ++ us.toArray)) w := by
      have g1 : ¬ fn.name = "runtime.NumGoroutine" := by simpa using hf.1
      have g2 : ¬ fn.body = none := by intro e; simp [e] at hf
      have e1 : Act.eval ⟨tmps, []⟩ (.tmp tf) = .func (.func f) #[] us.toArray := hfv
      simp [execOp, ho, resolve, e1, Deferred.ofValue, invoke, callFunc, hfc, g1, g2]
    rw [hrun]
    show Calls P f (zs.map (Act.eval ⟨tmps, []⟩) ++ us.toArray) w _
    rw [show (List.map (Act.eval ⟨tmps, []⟩) zs.toList ++ us).toArray = zs.map (Act.eval ⟨tmps, []⟩) ++ us.toArray from by apply Array.ext'; simp] at hcall
    refine hcall.mono ?_
    rintro e w' ⟨v, out', Hout', S', γ', rfl, ⟨rfl, rfl⟩, hp⟩
    obtain ⟨S2, γ2, hrel, hval⟩ := hr.call (renC L d) hin' hok (B := false) (S1 := LentS false S γ H) (fun b hb => hb) (.inl rfl) hp
    refine ⟨v, rfl, ?_⟩
    have hput : ∀ v, (Act.put ⟨tmps, []⟩ o.dst v) = ⟨tmps.setIfInBounds d v, []⟩ := fun v => by rw [hd]; rfl
    show wpList P ops (lift c n Q) rest (Act.put ⟨tmps, []⟩ o.dst v) w'
    rw [hput]
    exact next S2 γ2 _ w' (hrel.put (Nat.le_of_ble_eq_true hn) hval)
/-- one that changes resources, and makes none -/
theorem ao_callFS (L : List (Nat × Nat)) {f tf : Nat} {zs : Array Operand} {tys : Array TypeId} {qs0 cs : List AV} {Hin Hout : List (Nat × Res)} {out : AV} {d : Nat} (hC : Con P f qs0 Hin fun a h => a = out ∧ h = Hout) (hg : o.guard = none := by rfl) (hd : o.dst = some d := by rfl) (hn : Nat.blt d n = true := by rfl)
    (ho : o.op = .call { callee := .value (.tmp tf), args := zs, argTypes := tys } := by rfl) (hfn : look fr tf = some (.fn f cs) := by rfl) (hcs : cs = AV.renL (renC L d) (qs0.drop zs.size) := by rfl) (hf : entersB P f = true := by kernel_rfl) (hargs : ArgsOk false fr H zs.toList (AV.renL (renC L d) (qs0.take zs.size)) := by repeat (first | exact .nil | refine .cons (by exact opv_std) ?_ | refine .lend rfl (by exact opv_std) (by rfl) ?_ | refine .nilS (by exact opv_std) ?_ | refine .lentS (by exact opv_std) ?_))
    (hin : HinOk H (renC L d) Hin := by repeat (first | exact trivial | refine ⟨rfl, ?_⟩)) (hinj : injB (renC L d) (idsOf Hin) = true := by rfl)
    (hok : callOk0 (renC L d) out Hin Hout = true := by rfl) (hids : idsOf Hout = idsOf Hin := by rfl)
    (next : AOps P c n ops rest Q ((d, out.ren (renC L d)) :: fr) (renH (renC L d) Hout ++ H)) : AOps P c n ops (o :: rest) Q fr H := by
  refine ao_callF L hC hg hd hn ho hfn hcs hf hargs hin hinj (callOk0_ok hids hok) ?_
  intro S γ tmps w hr
  refine next S γ tmps w (hr.sub (fun x a hx => ?_) fun j r hj => ?_)
  · rw [fresh_none hids, markF_none]; exact hx
  · rw [look_append] at hj ⊢
    cases hl : look (renH (renC L d) Hout) j with
    | some r' => rw [hl] at hj; simpa using hj
    | none =>
      rw [hl] at hj
      simp only [Option.none_or] at hj ⊢
      rw [look_drop, if_neg]
      · exact hj
      · intro hD
        obtain ⟨i, hi, rfl⟩ := anyId_iff.1 hD
        have hi' : i ∈ idsOf Hout := by rw [hids] at hi ⊢; simpa using hi
        obtain ⟨r', hr'⟩ := look_renH_at (ρ := renC L d) hi'
        rw [hr'] at hl; cases hl
/-- a contract told of worlds -/
theorem con_calls {f : FuncId} {args : List AV} {F : SFact} (h : ∀ (S : Nat → Prop) (γ : Nat → Value) (w : World) (vs : List Value), SzA S w → AV.holdsL S γ w args vs → Calls P f vs.toArray w fun e w' => ∃ v, e = .returned v ∧ Ext w w' ∧ F.holds (FreshS S w w') w' v) : Con P f args [] fun a hz => a = .snap F ∧ hz = [] := fun S γ w vs hst hargs => by
  refine (h S γ w vs hst.sz hargs).mono ?_
  rintro e w' ⟨v, rfl, hx, hF⟩
  refine ⟨v, .snap F, [], FreshS S w w', γ, rfl, ⟨rfl, rfl⟩, ⟨hx.os, hx.tape, hx.output, hx.size, fun b hb _ => hx.block b hb⟩, ?_, by simpa only [AV.holds] using hF, ⟨fun j r h => by simp [look] at h, fun i j ri rj b h => by simp [look] at h, fun j r b h => by simp [look] at h, ?_, hst.one⟩, fun j r b h => by simp [look] at h, fun _ _ _ => rfl⟩
  · rintro b (h | ⟨h, _⟩)
    · exact .inl h
    · exact .inr (.inl h)
  · refine hst.sz.to freshS_sub (same_of_ext hst.sz hx) ?_
    rintro b (h | ⟨_, h⟩)
    · have := hst.sz b h; have := hx.size; omega
    · exact h
/-- what is known, of some slots and resources alone -/
def live.{u} {β : Type u} (ks : List Nat) (f : List (Nat × β)) : List (Nat × β) := ks.filterMap fun k => (look f k).map fun v => (k, v)
theorem look_live.{u} {β : Type u} (f : List (Nat × β)) : ∀ (ks : List Nat) (x : Nat) (v : β), look (live ks f) x = some v → look f x = some v
  | [], x, v, h => by simp [live, look] at h
  | k :: ks, x, v, h => by
    unfold live at h
    rw [List.filterMap_cons] at h
    cases hk : look f k with
    | none =>
      rw [hk] at h
      exact look_live f ks x v h
    | some u =>
      rw [hk] at h
      simp only [Option.map_some] at h
      rw [look_cons] at h
      split at h
      · rename_i e; subst e; rw [← h]; exact hk
      · exact look_live f ks x v h
theorem a_live {code : Code} {fr' : List (Nat × AV)} {H' : List (Nat × Res)} (ks js : List Nat) (hf : live ks fr = fr') (hH : live js H = H') (h : ACode P c n code Q fr' H') : ACode P c n code Q fr H := fun S γ tmps w hr =>
  h S γ tmps w (hr.sub (fun x a hx => look_live fr ks x a (by rw [hf]; exact hx)) (fun j r hj => look_live H js j r (by rw [hH]; exact hj)))
/-- a loop of so many rounds at most, round by round -/
def ARounds (P : Program) (c : Ctx) (n : Nat) (body : Code) (Q : AQ) : Nat → List (Nat × AV) → List (Nat × Res) → Prop
  | 0, _, _ => False
  | k + 1, fr, H => ACode P c n body (AThen (ARounds P c n body Q k) Q) fr H
theorem ar_step {body : Code} {k : Nat} (h : ACode P c n body (AThen (ARounds P c n body Q k) Q) fr H) : ARounds P c n body Q (k + 1) fr H := h
theorem ar_rounds {body : Code} : ∀ (k : Nat) (fr : List (Nat × AV)) (H : List (Nat × Res)), ARounds P c n body Q k fr H → ∀ S γ tmps w, Rel c n fr H S γ tmps w → Code.rounds P body (lift c n Q) k ⟨tmps, []⟩ w
  | 0, _, _, h, _, _, _, _, _ => h.elim
  | k + 1, fr, H, h, S, γ, tmps, w, hr => by
    rw [rounds_succ]
    refine wp_mono (h S γ tmps w hr) ?_
    rintro e ⟨t, d⟩ w' ⟨fr', H', S', γ', hq, hr', rfl⟩
    cases e with
    | normal => exact ar_rounds k fr' H' hq S' γ' t w' hr'
    | panic _ => exact hq.elim
    | outgrown => exact hq.elim
    | _ => exact ⟨fr', H', S', γ', hq, hr', rfl⟩
theorem a_loopN {body : Code} (k : Nat) (h : ARounds P c n body Q k fr H) : ACode P c n (.loop body) Q fr H := fun S γ tmps w hr => wp_loop_rounds k (ar_rounds k fr H h S γ tmps w hr)
end
end Go.Proofs.YtgdkeafdlehlaaaDoor

/- What an operation that only makes comes to: the standard lemmas, tried one by one; side conditions. Nothing of the program stands here. -/
namespace Go.Proofs.YtgdkeafdlehlaaaDoor
open Go Go.RowKit
set_option linter.unusedVariables false
theorem sop_std {P : Program} {o : Oper} {fr : List (Nat × AV)} {H : List (Nat × Res)} {out : AV} (h : SOp P o fr H out := by first | exact sop_move | exact sop_assign | exact sop_pick_or | exact sop_pick_and | exact sop_add_in | exact sop_sub_in | exact sop_mul_in | exact sop_add_u64in | exact sop_sub_u64in | exact sop_add_u8 | exact sop_add | exact sop_sub | exact sop_mul | exact sop_lss | exact sop_leq | exact sop_gtr | exact sop_geq | exact sop_eql | exact sop_neq | exact sop_eqlb | exact sop_neqb | exact sop_not | exact sop_conv_i64 | exact sop_conv_u64in | exact sop_conv_u64 | exact sop_conv_u8in | exact sop_conv_u8 | exact sop_conv_u32in | exact sop_conv | exact sop_len_snap | exact sop_len_own | exact sop_len_lit | exact sop_len_str | exact sop_field_ptr | exact sop_field_place | exact sop_load_place | exact sop_load_place_agg | exact sop_load_box | exact sop_load_box_agg | exact sop_index_snap | exact sop_index_snapZ | exact sop_index_own | exact sop_index_ownZ | exact sop_load_own | exact sop_load_own1 | exact sop_load_own_agg | exact sop_extract | exact sop_eql_err | exact sop_neq_err | exact sop_eql_ifnil | exact sop_neq_ifnil | exact sop_assert_err | exact sop_mkErr | exact sop_eqnil_ptr | exact sop_eqnil_place | exact sop_eqnil_nil | exact sop_nilCheck_ptr | exact sop_nilCheck_place | exact sop_pick_no | exact sop_pick_yes | exact sop_index_arr | exact sop_load_arr | exact sop_rem_in | exact sop_quo_in | exact sop_rem | exact sop_quo | exact sop_shr_in | exact sop_shr | exact sop_shl | exact sop_and | exact sop_or | exact sop_xor | exact sop_neg | exact sop_min2 | exact sop_max2 | exact sop_build | exact sop_fieldv | exact sop_fieldv_agg | exact sop_eql_struct | exact sop_neq_struct | exact sop_buildSlice | exact sop_slice_snap | exact sop_alloc_any) : SOp P o fr H out := h
theorem sop_bx {P : Program} {o : Oper} {fr : List (Nat × AV)} {H : List (Nat × Res)} {out : AV} (h : SOp P o fr H out := by first | exact sop_slice_lo | exact sop_slice_hi | exact sop_slice_mid | exact sop_conv_b | exact sop_conv_bi | exact sop_conv_bu | exact sop_conv_br | exact sop_conv_ru | exact sop_or128 | exact sop_and127 | exact sop_xor_b | exact sop_add_b | exact sop_xor_rb | exact sop_xor_poly | exact sop_half | exact sop_rnot | exact sop_str | exact sop_str_own | exact sop_str_nil | exact sop_eql_str | exact sop_neq_str | exact sop_buildSlice (E := encU) | exact sop_len_sl | exact sop_len_room | exact sop_index_slO (E := encU) | exact sop_slice_sl (E := encU) | exact sop_slice_room) : SOp P o fr H out := h
theorem sd {p : Prop} (h : p := by first | rfl | omega | (simp only [List.length_append, List.length_cons, List.length_nil, List.length_set, List.length_replicate, List.length_take, List.length_drop, List.length_map]; omega)) : p := h
theorem sd0 {p : Prop} (h : p := by first | omega | (simp only [List.length_append, List.length_cons, List.length_nil, List.length_set, List.length_replicate, List.length_take, List.length_drop, List.length_map]; omega)) : p := h
theorem decs : (∀ {α : Type} [BEq α] [LawfulBEq α] (a : α), (a != a) = false) ∧ ((¬True) = False) ∧ ((¬False) = True) ∧ (∀ p : Prop, (p ∨ p) = p) ∧ (∀ p : Prop, (p ∧ False) = False) ∧ (∀ p : Prop, (False ∧ p) = False) ∧ (∀ p : Prop, (p ∨ True) = True) ∧ (∀ p : Prop, (True ∨ p) = True) ∧ (∀ p : Prop, (p ∨ False) = p) ∧ (∀ p : Prop, (False ∨ p) = p) ∧ (∀ p : Prop, (p ∧ True) = p) ∧ (∀ p : Prop, (True ∧ p) = p) ∧ (∀ p : Prop, (p ∧ p) = p) ∧ (∀ {p : Prop} [Decidable p], (decide p = true) = p) ∧ (∀ {p : Prop} {x : Decidable p}, decide p = false ↔ ¬p) ∧ (∀ a b : Bool, ((a && b) = true) = (a = true ∧ b = true)) ∧ (∀ a b : Bool, ((a || b) = true) = (a = true ∨ b = true)) ∧ (∀ {x y : Bool}, (x || y) = false ↔ x = false ∧ y = false) ∧ (∀ {x y : Bool}, (x && y) = false ↔ x = false ∨ y = false) ∧ (∀ b : Bool, ((!b) = true) = (b = false)) ∧ (∀ b : Bool, ((!b) = false) = (b = true)) ∧ ((!true) = false) ∧ ((!false) = true) ∧ (∀ {a : Prop}, ¬¬a ↔ a) ∧ (∀ {a b : Nat}, ¬a < b ↔ b ≤ a) ∧ (∀ {a b : Int}, ¬a < b ↔ b ≤ a) ∧ (∀ {a b : Int}, ¬a ≤ b ↔ b < a) :=
  ⟨bne_self_eq_false, not_true_eq_false, not_false_eq_true, or_self, and_false, false_and, or_true, true_or, or_false, false_or, and_true, true_and, and_self, decide_eq_true_eq, decide_eq_false_iff_not, Bool.and_eq_true, Bool.or_eq_true, Bool.or_eq_false_iff, Bool.and_eq_false_iff, Bool.not_eq_true', Bool.not_eq_false', Bool.not_true, Bool.not_false, Classical.not_not, Nat.not_lt, Int.not_lt, Int.not_le⟩
section
variable {P : Program} {T : List (Nat × TI)} {c : Ctx} {n : Nat} {Q : AQ} {fr : List (Nat × AV)} {H : List (Nat × Res)} {id : Nat} {l pre tail : List Oper} {o1 : Oper} {ZT : List (Nat × List Z)} {zs : List Z} {k d : Nat} {t : TypeId} {p1 p2 : TypeId × Nat} {L : List (TypeId × Nat)}
theorem rU (hsel : uSel1 0 0 l = true := by rfl) (hm : P.follows .mixedOrders = true := by kernel_rfl) (hb : backB l.toArray = true := by kernel_rfl) (hc : uOk l.toArray n = true := by kernel_rfl) (hdep : depsOk l.toArray = true := by kernel_rfl) (hT : TTOk P T := by assumption) (hZ : ZOk P ZT := by assumption) (hu : usesH (idsM (allocD l)) (dropH (idsM (allocD l)) H) = true := by rfl)
    (ev : EvU P T ZT l H (fun fr' ks => True ∧ okU (idsM (allocD l)) ks = true ∧ Q .normal (uF (allocU ks ks) (markF (idsM (allocD l)) fr')) (uH (allocU ks ks) ++ dropH (idsM (allocD l)) H)) l fr) : ACode P c n (.region id l.toArray true) Q fr H := a_region_U' hsel hm hb hc hdep hT hZ hu ev
theorem rA (hsp : splitT l = (pre, o1 :: tail) := by rfl) (hal : allocOf 0 pre = some (k, t, d) := by rfl) (hm : P.follows .mixedOrders = true := by kernel_rfl) (htc : tailOk l.toArray pre.length n = true := by kernel_rfl) (hc : regOk pre.toArray n = true := by kernel_rfl) (hdep : depsOk pre.toArray = true := by kernel_rfl)
    (hZ : ZOk P ZT := by assumption) (hz : look ZT t = some zs := by rfl) (hn : Nat.blt d n = true := by rfl) (hu : usesH (one1 (d + 1000)) (dropH (one1 (d + 1000)) H) = true := by rfl)
    (ev : EvK P pre.toArray H (fun fr' => look fr' d = some .any ∧ stillsAt d pre fr' = true ∧ AOps P c n l.toArray (o1 :: tail) Q ((d, .ptr (d + 1000) 0) :: markF (one1 (d + 1000)) fr') ((d + 1000, .box (zAV zs)) :: dropH (one1 (d + 1000)) H)) pre fr) : ACode P c n (.region id l.toArray true) Q fr H := a_region_tailA hsp hal hm htc hc hdep hZ hz hn hu ev
theorem rN (hsp : splitT l = (pre, o1 :: tail) := by rfl) (hal : allocD pre = p1 :: p2 :: L := by rfl) (hm : P.follows .mixedOrders = true := by kernel_rfl) (htc : tailOk l.toArray pre.length n = true := by kernel_rfl) (hc : regOk pre.toArray n = true := by kernel_rfl) (hdep : depsOk pre.toArray = true := by kernel_rfl)
    (hZ : ZOk P ZT := by assumption) (hz : (allocD pre).all (fun p => (look ZT p.1).isSome) = true := by rfl) (hu : usesH (idsM (p1 :: p2 :: L)) (dropH (idsM (p1 :: p2 :: L)) H) = true := by rfl)
    (ev : EvK P pre.toArray H (fun fr' => True ∧ stillsN pre fr' = true ∧ AOps P c n l.toArray (o1 :: tail) Q (boxesF (p1 :: p2 :: L) (markF (idsM (p1 :: p2 :: L)) fr')) (boxesH ZT (p1 :: p2 :: L) ++ dropH (idsM (p1 :: p2 :: L)) H)) pre fr) : ACode P c n (.region id l.toArray true) Q fr H := a_region_tailN hsp hal hm htc hc hdep hZ hz hu ev
theorem rT (hsp : splitT l = (pre, o1 :: tail) := by rfl) (hm : P.follows .mixedOrders = true := by kernel_rfl) (htc : tailOk l.toArray pre.length n = true := by kernel_rfl) (hc : regOk pre.toArray n = true := by kernel_rfl) (hdep : depsOk pre.toArray = true := by kernel_rfl)
    (ev : EvK P pre.toArray H (fun fr' => AOps P c n l.toArray (o1 :: tail) Q fr' H) pre fr) : ACode P c n (.region id l.toArray true) Q fr H := a_region_tail hsp hm htc hc hdep ev
theorem rR (hsp : splitR [] l = (pre, o1 :: tail) := by rfl) (hm : P.follows .mixedOrders = true := by kernel_rfl) (htc : tailOk l.toArray pre.length n = true := by kernel_rfl) (hc : regOk pre.toArray n = true := by kernel_rfl) (hdep : depsOk pre.toArray = true := by kernel_rfl)
    (ev : EvK P pre.toArray H (fun fr' => AOps P c n l.toArray (o1 :: tail) Q fr' H) pre fr) : ACode P c n (.region id l.toArray true) Q fr H := a_region_tailR hsp hm htc hc hdep ev
theorem rO (hm : P.follows .mixedOrders = true := by kernel_rfl) (hc : regOk l.toArray n = true := by kernel_rfl) (hdep : depsOk l.toArray = true := by kernel_rfl) (ev : EvK P l.toArray H (fun fr' => Q .normal fr' H) l fr) : ACode P c n (.region id l.toArray true) Q fr H := a_region_any hm hc hdep ev
end
end Go.Proofs.YtgdkeafdlehlaaaDoor
