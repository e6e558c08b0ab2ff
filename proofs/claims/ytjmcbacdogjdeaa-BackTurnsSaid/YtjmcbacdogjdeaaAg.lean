/- Contracts and calls, over abstract frames. Nothing of the program stands here. -/
import Derived.Test.YtjmcbacdogjdeaaAf
import Derived.Test.YtjmcbacdogjdeaaOut
namespace Go.Proofs.Ytjmcbacdogjdeaa
open Go Go.RowKit
set_option linter.unusedVariables false

mutual
def AV.ren (ρ : Nat → Nat) : AV → AV
  | .own j => .own (ρ j)
  | .ptr j off => .ptr (ρ j) off
  | .agg cs => .agg (AV.renL ρ cs)
  | .tup cs => .tup (AV.renL ρ cs)
  | .fn f cs => .fn f (AV.renL ρ cs)
  | .when p a => .when p (AV.ren ρ a)
  | .any => .any
  | .lit v => .lit v
  | .snap F => .snap F
def AV.renL (ρ : Nat → Nat) : List AV → List AV
  | [] => []
  | c :: cs => AV.ren ρ c :: AV.renL ρ cs
end
mutual
theorem AV.holds_ren {S : Nat → Prop} {γ : Nat → Value} {w : World} (ρ : Nat → Nat) : ∀ (a : AV) (v : Value), (a.ren ρ).holds S γ w v ↔ a.holds S (fun j => γ (ρ j)) w v
  | .any, v => by simp [AV.ren, AV.holds]
  | .lit u, v => by simp [AV.ren, AV.holds]
  | .snap F, v => by simp [AV.ren, AV.holds]
  | .own j, v => by simp [AV.ren, AV.holds]
  | .ptr j off, v => by simp [AV.ren, AV.holds]
  | .agg cs, v => by simp only [AV.ren, AV.holds, AV.holdsL_ren ρ cs]
  | .tup cs, v => by simp only [AV.ren, AV.holds, AV.holdsL_ren ρ cs]
  | .fn f cs, v => by simp only [AV.ren, AV.holds, AV.holdsL_ren ρ cs]
  | .when p a, v => by simp only [AV.ren, AV.holds, AV.holds_ren ρ a]
theorem AV.holdsL_ren {S : Nat → Prop} {γ : Nat → Value} {w : World} (ρ : Nat → Nat) : ∀ (cs : List AV) (vs : List Value), AV.holdsL S γ w (AV.renL ρ cs) vs ↔ AV.holdsL S (fun j => γ (ρ j)) w cs vs
  | [], vs => by simp [AV.renL, AV.holdsL]
  | c :: cs, vs => by simp only [AV.renL, AV.holdsL, AV.holds_ren ρ c, AV.holdsL_ren ρ cs]
end
def Res.ren (ρ : Nat → Nat) : Res → Res
  | .box cs => .box (AV.renL ρ cs)
  | .own e E xs => .own e E xs
theorem Res.holds_ren {S : Nat → Prop} {γ : Nat → Value} {w : World} (ρ : Nat → Nat) (r : Res) (v : Value) : (r.ren ρ).holds S γ w v ↔ r.holds S (fun j => γ (ρ j)) w v := by
  cases r with
  | box cs => simp only [Res.ren, Res.holds, AV.holdsL_ren]
  | own e E xs => simp only [Res.ren, Res.holds]
mutual
/-- reads nothing from memory but through its resources -/
def AV.noS : AV → Bool
  | .snap _ => false
  | .agg cs => AV.noSL cs
  | .tup cs => AV.noSL cs
  | .fn _ cs => AV.noSL cs
  | .when _ a => AV.noS a
  | _ => true
def AV.noSL : List AV → Bool
  | [] => true
  | c :: cs => AV.noS c && AV.noSL cs
end
mutual
theorem AV.noS_any {S S' : Nat → Prop} {γ γ' : Nat → Value} {w w' : World} (p : Nat → Bool) (hg : ∀ j, p j = true → γ' j = γ j) : ∀ (a : AV) (v : Value), a.noS = true → a.uses p = true → a.holds S γ w v → a.holds S' γ' w' v
  | .any, v, _, _, _ => by simp [AV.holds]
  | .lit u, v, _, _, h => by simpa [AV.holds] using h
  | .snap F, v, hf, _, h => by simp [AV.noS] at hf
  | .own j, v, _, hu, h => by
    simp only [AV.holds, AV.uses] at h hu ⊢
    rw [hg j hu]; exact h
  | .ptr j off, v, _, hu, h => by
    simp only [AV.holds, AV.uses] at h hu ⊢
    rw [hg j hu]; exact h
  | .agg cs, v, hf, hu, h => by
    simp only [AV.holds, AV.noS, AV.uses] at h hf hu ⊢
    obtain ⟨vs, rfl, h⟩ := h
    exact ⟨vs, rfl, AV.noS_anyL p hg cs vs hf hu h⟩
  | .tup cs, v, hf, hu, h => by
    simp only [AV.holds, AV.noS, AV.uses] at h hf hu ⊢
    obtain ⟨vs, rfl, h⟩ := h
    exact ⟨vs, rfl, AV.noS_anyL p hg cs vs hf hu h⟩
  | .fn f cs, v, hf, hu, h => by
    simp only [AV.holds, AV.noS, AV.uses] at h hf hu ⊢
    obtain ⟨vs, rfl, h⟩ := h
    exact ⟨vs, rfl, AV.noS_anyL p hg cs vs hf hu h⟩
  | .when q a, v, hf, hu, h => by
    simp only [AV.holds, AV.noS, AV.uses] at h hf hu ⊢
    exact ⟨fun hq => AV.noS_any p hg a v hf hu (h.1 hq), h.2⟩
theorem AV.noS_anyL {S S' : Nat → Prop} {γ γ' : Nat → Value} {w w' : World} (p : Nat → Bool) (hg : ∀ j, p j = true → γ' j = γ j) : ∀ (cs : List AV) (vs : List Value), AV.noSL cs = true → AV.usesL p cs = true → AV.holdsL S γ w cs vs → AV.holdsL S' γ' w' cs vs
  | [], vs, _, _, h => by simpa [AV.holdsL] using h
  | c :: cs, vs, hf, hu, h => by
    simp only [AV.holdsL, AV.noSL, AV.usesL, Bool.and_eq_true] at h hf hu ⊢
    obtain ⟨v, vs', rfl, h1, h2⟩ := h
    exact ⟨v, vs', rfl, AV.noS_any p hg c v hf.1 hu.1 h1, AV.noS_anyL p hg cs vs' hf.2 hu.2 h2⟩
end
mutual
theorem AV.ren_id (ρ : Nat → Nat) : ∀ (a : AV), a.uses (fun _ => false) = true → a.ren ρ = a
  | .any, _ => rfl
  | .lit _, _ => rfl
  | .snap _, _ => rfl
  | .own j, h => by simp [AV.uses] at h
  | .ptr j off, h => by simp [AV.uses] at h
  | .agg cs, h => by simp only [AV.uses] at h; simp only [AV.ren, AV.renL_id ρ cs h]
  | .tup cs, h => by simp only [AV.uses] at h; simp only [AV.ren, AV.renL_id ρ cs h]
  | .fn f cs, h => by simp only [AV.uses] at h; simp only [AV.ren, AV.renL_id ρ cs h]
  | .when p a, h => by simp only [AV.uses] at h; simp only [AV.ren, AV.ren_id ρ a h]
theorem AV.renL_id (ρ : Nat → Nat) : ∀ (cs : List AV), AV.usesL (fun _ => false) cs = true → AV.renL ρ cs = cs
  | [], _ => rfl
  | c :: cs, h => by
    simp only [AV.usesL, Bool.and_eq_true] at h
    simp only [AV.renL, AV.ren_id ρ c h.1, AV.renL_id ρ cs h.2]
end
def Enc.isFlat {α : Type} (E : Enc α) : Prop := ∀ x, AV.flatL (E.cells x) = true
def Res.isFlat : Res → Prop
  | .box cs => AV.flatL cs = true
  | .own _ E _ => E.isFlat
theorem flatL_app : ∀ (cs ds : List AV), AV.flatL (cs ++ ds) = (AV.flatL cs && AV.flatL ds)
  | [], ds => by simp [AV.flatL]
  | c :: cs, ds => by simp [AV.flatL, flatL_app cs ds, Bool.and_assoc]
theorem Enc.isFlat.all {α : Type} {E : Enc α} (h : E.isFlat) (xs : List α) : AV.flatL (E.all xs) = true := by
  induction xs with
  | nil => rfl
  | cons x xs ih =>
    have : E.all (x :: xs) = E.cells x ++ E.all xs := rfl
    rw [this, flatL_app, h x, ih]; rfl
theorem Res.flat_any {S S' : Nat → Prop} {γ γ' : Nat → Value} {w : World} {r : Res} (hf : r.isFlat) {v : Value} (h : r.holds S γ w v) : r.holds S' γ' w v := by
  cases r with
  | box cs =>
    obtain ⟨g, arr, e, rfl, hg, hc⟩ := h
    exact ⟨g, arr, e, rfl, hg, AV.flat_anyL cs _ hf hc⟩
  | own e E xs =>
    obtain ⟨vs, ho, hc, h1⟩ := h
    exact ⟨vs, ho, AV.flat_anyL _ _ (hf.all xs) hc, h1⟩

/-- the blocks that resources may change -/
def blks (γ : Nat → Value) (H : List (Nat × Res)) (b : Nat) : Prop := ∃ j r, look H j = some r ∧ rblk (γ j) = some b
structure CPost (S : Nat → Prop) (γ : Nat → Value) (w : World) (Hin : List (Nat × Res)) (out : AV) (Hout : List (Nat × Res)) (v : Value) (w' : World) (S' : Nat → Prop) (γ' : Nat → Value) : Prop where
  keep : Keep (blks γ Hin) w w'
  up : ∀ b, S' b → S b ∨ w.heap.size ≤ b ∨ blks γ Hin b
  val : out.holds S' γ' w' v
  st : St S' γ' w' Hout
  own : ∀ j r b, look Hout j = some r → rblk (γ' j) = some b → w.heap.size ≤ b ∨ blks γ Hin b
  same : ∀ j r, look Hin j = some r → γ' j = γ j
/-- a call of f answers, and leaves resources, as the post says -/
def Con (P : Program) (f : FuncId) (args : List AV) (Hin : List (Nat × Res)) (post : AV → List (Nat × Res) → Prop) : Prop :=
  ∀ S γ w vs, St S γ w Hin → AV.holdsL S γ w args vs → Calls P f vs.toArray w fun e w' => ∃ v out Hout S' γ', e = .returned v ∧ post out Hout ∧ CPost S γ w Hin out Hout v w' S' γ'
/-- a call that only answers -/
def Con0 (P : Program) (f : FuncId) (args : List AV) (out : AV) : Prop := Con P f args [] fun a h => a = out ∧ h = []

def argF : Nat → List AV → List (Nat × AV)
  | _, [] => []
  | i, a :: as => (i, a) :: argF (i + 1) as
theorem look_argF : ∀ (as : List AV) (i x : Nat) (a : AV), look (argF i as) x = some a → i ≤ x ∧ as[x - i]? = some a
  | [], i, x, a, h => by simp [argF, look] at h
  | b :: as, i, x, a, h => by
    simp only [argF] at h
    rw [look_cons] at h
    split at h
    · rename_i e; subst e
      simp only [Option.some.injEq] at h; subst h
      simp
    · have := look_argF as (i + 1) x a h
      refine ⟨by omega, ?_⟩
      rw [show x - i = (x - (i + 1)) + 1 from by omega]
      simpa using this.2
/-- what a function's results read as -/
inductive ResOk (T : List (Nat × TI)) (fr : List (Nat × AV)) (H : List (Nat × Res)) : List ResultVar → List AV → Prop
  | nil : ResOk T fr H [] []
  | tmp {t : Tmp} {a : AV} {rs : List ResultVar} {as : List AV} (h : look fr t = some a) (hr : ResOk T fr H rs as) : ResOk T fr H (.tmp t :: rs) (a :: as)
  | cell {ad : Tmp} {ty j off : Nat} {ti : TI} {cs : List AV} {a : AV} {rs : List ResultVar} {as : List AV} (h : look fr ad = some (.ptr j off)) (hj : look H j = some (.box cs)) (ht : look T ty = some ti) (ha : ti.kind.agg = false) (hc : cs[off]? = some a) (hr : ResOk T fr H rs as) : ResOk T fr H (.cell ad ty :: rs) (a :: as)
  | cellA {ad : Tmp} {ty j off : Nat} {ti : TI} {cs : List AV} {rs : List ResultVar} {as : List AV} (h : look fr ad = some (.ptr j off)) (hj : look H j = some (.box cs)) (ht : look T ty = some ti) (ha : ti.kind.agg = true) (hl : Nat.ble (off + ti.size) cs.length = true) (hr : ResOk T fr H rs as) : ResOk T fr H (.cell ad ty :: rs) (.agg ((cs.drop off).take ti.size) :: as)
def outOf : List AV → AV
  | [a] => a
  | as => .tup as
def valOf : List Value → Value
  | [v] => v
  | vs => .tuple vs.toArray
def AEnd (T : List (Nat × TI)) (rs : List ResultVar) (post : AV → List (Nat × Res) → Prop) : AQ
  | .normal, fr, H => ∃ as Hout, ResOk T fr H rs as ∧ CovL (look H) [] Hout ∧ post (outOf as) Hout
  | .ret, fr, H => ∃ as Hout, ResOk T fr H rs as ∧ CovL (look H) [] Hout ∧ post (outOf as) Hout
  | _, _, _ => False

/-- what one result reads as -/
inductive ResVal (T : List (Nat × TI)) (fr : List (Nat × AV)) (H : List (Nat × Res)) : ResultVar → AV → Prop
  | tmp {t : Tmp} {a : AV} (h : look fr t = some a) : ResVal T fr H (.tmp t) a
  | cell {ad : Tmp} {ty j off : Nat} {ti : TI} {cs : List AV} {a : AV} (h : look fr ad = some (.ptr j off)) (hj : look H j = some (.box cs)) (ht : look T ty = some ti) (ha : ti.kind.agg = false) (hc : cs[off]? = some a) : ResVal T fr H (.cell ad ty) a
  | cellA {ad : Tmp} {ty j off : Nat} {ti : TI} {cs : List AV} (h : look fr ad = some (.ptr j off)) (hj : look H j = some (.box cs)) (ht : look T ty = some ti) (ha : ti.kind.agg = true) (hl : Nat.ble (off + ti.size) cs.length = true) : ResVal T fr H (.cell ad ty) (.agg ((cs.drop off).take ti.size))
theorem ResVal.cons {T : List (Nat × TI)} {fr : List (Nat × AV)} {H : List (Nat × Res)} {r : ResultVar} {a : AV} {rs : List ResultVar} {as : List AV} (h : ResVal T fr H r a) (hr : ResOk T fr H rs as) : ResOk T fr H (r :: rs) (a :: as) := by
  cases h with
  | tmp h => exact .tmp h hr
  | cell h hj ht ha hc => exact .cell h hj ht ha hc hr
  | cellA h hj ht ha hl => exact .cellA h hj ht ha hl hr
theorem aend {T : List (Nat × TI)} {rs : List ResultVar} {post : AV → List (Nat × Res) → Prop} {e : Exit} {fr : List (Nat × AV)} {H : List (Nat × Res)} (he : e = .ret ∨ e = .normal) (as : List AV) (Hout : List (Nat × Res)) (h : ResOk T fr H rs as) (hc : CovL (look H) [] Hout) (hp : post (outOf as) Hout) : AEnd T rs post e fr H := by
  rcases he with rfl | rfl <;> exact ⟨as, Hout, h, hc, hp⟩
theorem aend0 {T : List (Nat × TI)} {post : AV → List (Nat × Res) → Prop} {e : Exit} {fr : List (Nat × AV)} {H : List (Nat × Res)} (he : e = .ret ∨ e = .normal) (Hout : List (Nat × Res)) (hc : CovL (look H) [] Hout) (hp : post (.tup []) Hout) : AEnd T [] post e fr H :=
  aend he [] Hout (.nil) hc hp
theorem aend1 {T : List (Nat × TI)} {r : ResultVar} {a : AV} {post : AV → List (Nat × Res) → Prop} {e : Exit} {fr : List (Nat × AV)} {H : List (Nat × Res)} (he : e = .ret ∨ e = .normal) (Hout : List (Nat × Res)) (h0 : ResVal T fr H r a) (hc : CovL (look H) [] Hout) (hp : post (a) Hout) : AEnd T [r] post e fr H :=
  aend he [a] Hout (h0.cons (.nil)) hc hp
theorem aend2 {T : List (Nat × TI)} {r r1 : ResultVar} {a a1 : AV} {post : AV → List (Nat × Res) → Prop} {e : Exit} {fr : List (Nat × AV)} {H : List (Nat × Res)} (he : e = .ret ∨ e = .normal) (Hout : List (Nat × Res)) (h0 : ResVal T fr H r a) (h1 : ResVal T fr H r1 a1) (hc : CovL (look H) [] Hout) (hp : post (.tup [a, a1]) Hout) : AEnd T [r, r1] post e fr H :=
  aend he [a, a1] Hout (h0.cons (h1.cons (.nil))) hc hp
theorem aend3 {T : List (Nat × TI)} {r r1 r2 : ResultVar} {a a1 a2 : AV} {post : AV → List (Nat × Res) → Prop} {e : Exit} {fr : List (Nat × AV)} {H : List (Nat × Res)} (he : e = .ret ∨ e = .normal) (Hout : List (Nat × Res)) (h0 : ResVal T fr H r a) (h1 : ResVal T fr H r1 a1) (h2 : ResVal T fr H r2 a2) (hc : CovL (look H) [] Hout) (hp : post (.tup [a, a1, a2]) Hout) : AEnd T [r, r1, r2] post e fr H :=
  aend he [a, a1, a2] Hout (h0.cons (h1.cons (h2.cons (.nil)))) hc hp
section
variable {P : Program} {T : List (Nat × TI)} {c : Ctx} {n : Nat} {Q : AQ} {fr : List (Nat × AV)} {H : List (Nat × Res)} {ops : Array Oper} {rest : List Oper} {o : Oper}
variable {S : Nat → Prop} {γ : Nat → Value} {tmps : Array Value} {w : World}
def resRun (tmps : Array Value) : ResultVar → Sem Value
  | .tmp t => pure (tmps.getD t undef)
  | .cell a t => do loadVar t (← asAddr (tmps.getD a undef))
theorem resOk_run (hT : TTOk P T) (hr : Rel c n fr H S γ tmps w) {rs : List ResultVar} {as : List AV} (h : ResOk T fr H rs as) :
    ∃ vs : List Value, vs.length = rs.length ∧ AV.holdsL S γ w as vs ∧ ∀ (i : Nat) (r : ResultVar), rs[i]? = some r → ∃ v, vs[i]? = some v ∧ (resRun tmps r).run P w = .ok v w := by
  induction h with
  | nil => exact ⟨[], rfl, by simp [AV.holdsL], fun i r h => by simp at h⟩
  | @tmp t a rs as h _ ih =>
    obtain ⟨vs, h1, h2, h3⟩ := ih
    refine ⟨tmps.getD t undef :: vs, by simp [h1], ?_, fun i r hi => ?_⟩
    · simp only [AV.holdsL]; exact ⟨_, _, rfl, hr.fr t a h, h2⟩
    · cases i with
      | zero => simp at hi; subst hi; exact ⟨_, rfl, by simp [resRun]⟩
      | succ i => simpa using h3 i r (by simpa using hi)
  | @cell ad ty j off ti cs a rs as h hj ht ha hc _ ih =>
    obtain ⟨vs, h1, h2, h3⟩ := ih
    have hp := hr.fr ad _ h
    simp only [AV.holds] at hp
    obtain ⟨g, hg, hv⟩ := hp
    obtain ⟨arr, e, hh, hl⟩ := box_cell hr.st hj hg
    obtain ⟨v, hv2, hcv⟩ := AV.holdsL_get hl off a hc
    have h0 : w.cell? ⟨g, off, none⟩ = some v := by
      rw [cell_of_row w g off _ _ _ hh]; simpa using hv2
    refine ⟨v :: vs, by simp [h1], ?_, fun i r hi => ?_⟩
    · simp only [AV.holdsL]; exact ⟨_, _, rfl, hcv, h2⟩
    · cases i with
      | zero => simp at hi; subst hi; exact ⟨_, rfl, by simp only [resRun, hv, asAddr, Sem.run_bind, Sem.run_pure, Result.andThen_ok, load_run1 hT ht ha h0]⟩
      | succ i => simpa using h3 i r (by simpa using hi)
  | @cellA ad ty j off ti cs rs as h hj ht ha hl _ ih =>
    obtain ⟨vs, h1, h2, h3⟩ := ih
    have hp := hr.fr ad _ h
    simp only [AV.holds] at hp
    obtain ⟨g, hg, hv⟩ := hp
    obtain ⟨arr, e, hh, hL⟩ := box_cell hr.st hj hg
    have hlen := AV.holdsL_len hL
    have hle : off + ti.size ≤ cs.length := Nat.le_of_ble_eq_true hl
    have hload := load_run (w := w) hT ht ha (ad := ⟨g, off, none⟩) (vs := (arr.toList.drop off).take ti.size) (by rw [List.length_take, List.length_drop]; omega) (by
      intro k u hu
      rw [addr_add_ne, cell_of_row w g _ _ _ _ hh]
      rw [List.getElem?_take] at hu
      split at hu
      · simpa using hu
      · cases hu)
    refine ⟨.agg ((arr.toList.drop off).take ti.size).toArray :: vs, by simp [h1], ?_, fun i r hi => ?_⟩
    · simp only [AV.holdsL, AV.holds]; exact ⟨_, _, rfl, ⟨_, rfl, AV.holdsL_take (AV.holdsL_drop hL off) _⟩, h2⟩
    · cases i with
      | zero => simp at hi; subst hi; exact ⟨_, rfl, by simp only [resRun, hv, asAddr, Sem.run_bind, Sem.run_pure, Result.andThen_ok, hload]⟩
      | succ i => simpa using h3 i r (by simpa using hi)
theorem results_run {fn : Func} {rs : List ResultVar} (hrs : fn.results = rs.toArray) (hl : rs.length ≤ 4) {vs : List Value} (hlen : vs.length = rs.length) (h : ∀ (i : Nat) (r : ResultVar), rs[i]? = some r → ∃ v, vs[i]? = some v ∧ (resRun tmps r).run P w = .ok v w) :
    (results fn tmps).run P w = .ok (valOf vs) w := by
  have key : (results fn tmps) = (do let vs ← rs.toArray.mapM (resRun tmps); pure (if h : vs.size = 1 then vs[0] else .tuple vs)) := by
    unfold results
    rw [hrs]
    congr 1
  rw [key]
  match rs, vs, hlen, h, hl with
  | [], [], _, _, _ => simp [valOf]
  | [r], [v], _, h, _ =>
    obtain ⟨_, h1, h2⟩ := h 0 r rfl
    simp at h1; subst h1
    simp [h2, valOf]
  | [r, r'], [v, v'], _, h, _ =>
    obtain ⟨_, h1, h2⟩ := h 0 r rfl
    obtain ⟨_, h3, h4⟩ := h 1 r' rfl
    simp at h1 h3; subst h1; subst h3
    simp [h2, h4, valOf]
  | [r, r', r''], [v, v', v''], _, h, _ =>
    obtain ⟨_, h1, h2⟩ := h 0 r rfl
    obtain ⟨_, h3, h4⟩ := h 1 r' rfl
    obtain ⟨_, h5, h6⟩ := h 2 r'' rfl
    simp at h1 h3 h5; subst h1; subst h3; subst h5
    simp [h2, h4, h6, valOf]
  | [r, r', r'', r3], [v, v', v'', v3], _, h, _ =>
    obtain ⟨_, h1, h2⟩ := h 0 r rfl
    obtain ⟨_, h3, h4⟩ := h 1 r' rfl
    obtain ⟨_, h5, h6⟩ := h 2 r'' rfl
    obtain ⟨_, h7, h8⟩ := h 3 r3 rfl
    simp at h1 h3 h5 h7; subst h1; subst h3; subst h5; subst h7
    simp [h2, h4, h6, h8, valOf]
  | _ :: _ :: _ :: _ :: _ :: _, _, _, _, hl => simp at hl
theorem outOf_holds {as : List AV} {vs : List Value} (h : AV.holdsL S γ w as vs) : (outOf as).holds S γ w (valOf vs) := by
  match as, h with
  | [], h => simp only [AV.holdsL] at h; subst h; simp [outOf, valOf, AV.holds, AV.holdsL]
  | [a], h =>
    simp only [AV.holdsL] at h
    obtain ⟨v, vs', rfl, h1, rfl⟩ := h
    exact h1
  | a :: a' :: as, h =>
    have h' := h
    simp only [AV.holdsL] at h
    obtain ⟨v, vs', rfl, h1, v', vs'', rfl, h2, h3⟩ := h
    simp only [outOf, AV.holds]
    exact ⟨_, rfl, h'⟩
theorem con_of {f : FuncId} {fn : Func} {code : Code} {rs : List ResultVar} {args : List AV} {Hin : List (Nat × Res)} {post : AV → List (Nat × Res) → Prop} (hT : TTOk P T) (hf : P.funcs[f]? = some fn) (hb : fn.body = some code) (hn : fn.ntmps = n) (hrs : fn.results = rs.toArray) (hl : Nat.ble rs.length 4 = true)
    (hlt : (Hin.all fun p => Nat.blt p.1 1000) = true) (hlen : Nat.ble args.length n = true) (h : ∀ c, ACode P c n code (AEnd T rs post) (argF 0 args) Hin) : Con P f args Hin post := by
  intro S γ w vs hst hargs
  have hlv := AV.holdsL_len hargs
  have hle : args.length ≤ n := Nat.le_of_ble_eq_true hlen
  subst hn
  refine calls_of_wp hf hb ?_
  have hJ : ∀ j, (∃ r, look Hin j = some r) → j < 1000 := by
    rintro j ⟨r, hj⟩
    rw [List.all_eq_true] at hlt
    exact Nat.le_of_ble_eq_true (hlt _ (look_mem hj))
  let c : Ctx := ⟨w, S, blks γ Hin, fun j => ∃ r, look Hin j = some r, γ, hJ⟩
  have hrel : Rel c fn.ntmps (argF 0 args) Hin S γ (vs.toArray ++ Array.replicate (fn.ntmps - vs.toArray.size) undef) w := by
    refine ⟨hst, fun x av hx => ?_, fun b hb => .inl hb, fun j r b hj hb => .inr ⟨j, r, hj, hb⟩, fun _ _ => rfl, by simp; omega, Keep.refl _ _⟩
    obtain ⟨_, hx⟩ := look_argF args 0 x av hx
    obtain ⟨v, hv, hh⟩ := AV.holdsL_get hargs x av (by simpa using hx)
    have hxl := (List.getElem?_eq_some_iff.1 hv).1
    rw [Array.getD_eq_getD_getElem?, Array.getElem?_append_left (by simpa using hxl)]
    simpa [hv] using hh
  refine wp_mono (h c S γ _ w hrel) ?_
  rintro e ⟨t, d⟩ w' ⟨fr', H', S', γ', hq, hr', rfl⟩
  have fin : (∃ as Hout, ResOk T fr' H' rs as ∧ CovL (look H') [] Hout ∧ post (outOf as) Hout) → ∃ v, (results fn t).run P w' = .ok v w' ∧ ∃ v' out Hout S' γ', Ending.returned v = .returned v' ∧ post out Hout ∧ CPost S γ w Hin out Hout v' w' S' γ' := by
    rintro ⟨as, Hout, hres, hcov, hpost⟩
    obtain ⟨us, h1, h2, h3⟩ := resOk_run hT hr' hres
    have hrc := hr'.cov (fr := []) (H := Hout) ⟨trivial, hcov⟩
    refine ⟨_, results_run hrs (Nat.le_of_ble_eq_true hl) h1 h3, _, _, Hout, S', γ', rfl, hpost, hr'.keep, hr'.up, outOf_holds h2, hrc.st, hrc.own, fun j r hj => hr'.ids j ⟨r, hj⟩⟩
  cases e with
  | normal => exact ⟨rfl, fin hq⟩
  | ret => exact ⟨rfl, fin hq⟩
  | _ => exact hq.elim

/-- the operands of a call: as they are; a slice of one's own, lent; a nil slice -/
inductive ArgsOk (B : Bool) (fr : List (Nat × AV)) (H : List (Nat × Res)) : List Operand → List AV → Prop
  | nil : ArgsOk B fr H [] []
  | cons {x : Operand} {a : AV} {xs : List Operand} {as : List AV} (h : Opv fr x a) (hr : ArgsOk B fr H xs as) : ArgsOk B fr H (x :: xs) (a :: as)
  | lend {x : Operand} {j e : Nat} {α : Type} {E : Enc α} {ys : List α} {xs : List Operand} {as : List AV} (hB : B = true) (h : Opv fr x (.own j)) (hj : look H j = some (.own e E ys)) (hr : ArgsOk B fr H xs as) : ArgsOk B fr H (x :: xs) (.snap (slF E ys) :: as)
  | nilS {x : Operand} {α : Type} {E : Enc α} {xs : List Operand} {as : List AV} (h : Opv fr x (.lit (.slice none 0 0))) (hr : ArgsOk B fr H xs as) : ArgsOk B fr H (x :: xs) (.snap (slF E []) :: as)
def LentS (B : Bool) (S : Nat → Prop) (γ : Nat → Value) (H : List (Nat × Res)) : Nat → Prop := fun b => S b ∨ (B = true ∧ blks γ H b)
theorem own_snap {S' : Nat → Prop} {j e : Nat} {α : Type} {E : Enc α} {ys : List α} (hst : St S γ w H) (hj : look H j = some (.own e E ys)) (hS : ∀ b, S b → S' b) (hb : ∀ b, rblk (γ j) = some b → S' b) : (slF E ys).holds S' w (γ j) := by
  obtain ⟨vs, ho, hh, h1⟩ := hst.res j _ hj
  have ho' := ho
  obtain ⟨A, c, hv, hc, _, hrow⟩ := ho.row
  refine ⟨A, c, vs, hv, hc, ?_, AV.extL hS (fun _ _ => rfl) hh, h1⟩
  intro hne
  obtain ⟨ad, hA, hcell⟩ := hrow hne
  refine ⟨ad, hA, hb _ ?_, hcell⟩
  subst hA
  rw [hv]
  have hlen := AV.holdsL_len hh
  obtain ⟨_, A2, c2, hv2, ⟨hz, _⟩ | ⟨g, cur, _, _, _, hnc, _⟩⟩ := ho'
  · exfalso
    apply hne
    rw [Enc.all_len, hz, Nat.zero_mul] at hlen
    exact List.eq_nil_of_length_eq_zero hlen
  · have : 0 < ys.length := by
      rcases Nat.eq_zero_or_pos ys.length with h | h
      · exfalso; apply hne
        rw [Enc.all_len, h, Nat.zero_mul] at hlen
        exact List.eq_nil_of_length_eq_zero hlen
      · exact h
    cases c with
    | zero => omega
    | succ c => rfl
theorem ArgsOk.holds {B : Bool} {use : Operand → Prop} {ρ : Operand → Value} {xs : List Operand} {as : List AV} (h : ArgsOk B fr H xs as) (env : Env fr H use ρ S γ w) (hu : ∀ x ∈ xs, use x) : AV.holdsL (LentS B S γ H) γ w as (xs.map ρ) := by
  have hS : ∀ b, S b → LentS B S γ H b := fun b h => .inl h
  induction h with
  | nil => simp [AV.holdsL]
  | cons h _ ih =>
    simp only [List.map_cons, AV.holdsL]
    exact ⟨_, _, rfl, AV.ext hS (fun _ _ => rfl) (env.get h (hu _ List.mem_cons_self)), ih fun x hx => hu x (List.mem_cons_of_mem _ hx)⟩
  | @lend x j e α E ys xs as hB h hj _ ih =>
    simp only [List.map_cons, AV.holdsL, AV.holds]
    refine ⟨_, _, rfl, ?_, ih fun x hx => hu x (List.mem_cons_of_mem _ hx)⟩
    have h1 := env.get h (hu _ List.mem_cons_self)
    simp only [AV.holds] at h1
    rw [h1]
    exact own_snap env.st hj hS fun b hb => .inr ⟨hB, j, _, hj, hb⟩
  | nilS h _ ih =>
    simp only [List.map_cons, AV.holdsL, AV.holds]
    refine ⟨_, _, rfl, ?_, ih fun x hx => hu x (List.mem_cons_of_mem _ hx)⟩
    rw [env.lit h (hu _ List.mem_cons_self)]
    exact ⟨none, 0, [], rfl, Nat.le_refl _, fun h => absurd rfl h, by simp [Enc.all, AV.holdsL], by simp⟩
theorem St.nil (hs : ∀ b, S b → b < w.heap.size) (h1 : ∀ j, (γ j).oneCell' = true) : St S γ w [] :=
  ⟨fun j r h => by simp [look] at h, fun i j ri rj b h => by simp [look] at h, fun j r b h => by simp [look] at h, hs, h1⟩
/-- a call that only answers, anywhere -/
theorem sop_call {B : Bool} {f : FuncId} {xs : Array Operand} {tys : Array TypeId} {as : List AV} {out : AV} (ho : o.op = .call { callee := .value (.func f), args := xs, argTypes := tys } := by rfl) (hf : entersB P f = true := by kernel_rfl) (hC : Con0 P f as out) (hargs : ArgsOk B fr H xs.toList as := by repeat (first | exact .nil | refine .cons (by first | exact .un rfl (by first | assumption | exact And.left (by assumption) | exact And.left (And.left (by assumption)) | exact And.left (And.left (And.left (by assumption)))) | exact .of rfl) ?_ | refine .lend rfl (by first | exact .un rfl (by first | assumption | exact And.left (by assumption) | exact And.left (And.left (by assumption)) | exact And.left (And.left (And.left (by assumption)))) | exact .of rfl) (by rfl) ?_ | refine .nilS (by first | exact .un rfl (by first | assumption | exact And.left (by assumption) | exact And.left (And.left (by assumption)) | exact And.left (And.left (And.left (by assumption)))) | exact .of rfl) ?_))
    (hout : AV.uses (fun _ => false) out = true) (hB : B = false ∨ out.flat = true := by first | exact .inl rfl | exact .inr rfl | exact .inr (fun _ => rfl)) : SOp P o fr H out := fun S γ w ρ env => by
  have hl : ∀ b, LentS B S γ H b → b < w.heap.size := by
    rintro b (h | ⟨_, j, r, hj, hb⟩)
    · exact env.st.sz b h
    · exact Res.blk_lt (env.st.res j r hj) hb
  refine out_call ho (env.func f) hf ?_
  have hcall := hC (LentS B S γ H) γ w _ (St.nil hl env.st.one) (hargs.holds env (fun x hx => by simp [ho, Op.operands, Call.operands]; right; simpa using hx))
  rw [show (List.map ρ xs.toList).toArray = Array.map ρ xs from by rw [← Array.toList_map]] at hcall
  refine hcall.mono ?_
  rintro e w' ⟨v, out', Hout, S', γ', rfl, ⟨rfl, rfl⟩, hp⟩
  have hx : Ext w w' := ⟨hp.keep.os, hp.keep.tape, hp.keep.output, hp.keep.size, fun b hb => hp.keep.block b hb (by rintro ⟨j, r, hj, _⟩; simp [look] at hj)⟩
  refine ⟨v, rfl, hx, ?_⟩
  rcases hB with rfl | hB
  · refine AV.mono (fun b hb => ?_) (fun _ _ => rfl) (fun _ => false) (fun _ h => by cases h) out' v hout hp.val
    rcases hp.up b hb with (h | ⟨h, _⟩) | h | ⟨j, r, hj, _⟩
    · exact .inl h
    · cases h
    · exact .inr ⟨h, hp.st.sz b hb⟩
    · simp [look] at hj
  · exact AV.flat_any out' v hB hp.val
end
end Go.Proofs.Ytjmcbacdogjdeaa
