/- A function named as an argument, as one that keeps what is said of it. Nothing of the program stands here. -/
import Derived.Test.YtbahngmjbpaglaaS0
namespace Go.Proofs.Ytbahngmjbpaglaa
open Go Go.RowKit
set_option linter.unusedVariables false
set_option linter.unusedSimpArgs false

section
variable {P : Program}
theorem fn_snap {f : FuncId} {spec : List AV → AV → Prop} (hf : entersB P f = true) (hC : ∀ qs out, spec qs out → Con P f qs [] fun a h => a = out ∧ h = []) (hout : ∀ qs out, spec qs out → AV.uses (fun _ => false) out = true) {S : Nat → Prop} {γ : Nat → Value} {w : World} {v : Value} (h : (AV.fn f []).holds S γ w v) : (AV.snap (fnF P spec)).holds S γ w v := by
  simp only [AV.holds] at h ⊢
  obtain ⟨vs0, rfl, hv0⟩ := h
  simp only [AV.holdsL] at hv0
  subst hv0
  refine ⟨f, _, rfl, hf, fun S' γ' w' vs qs out hs hw hsz h1' hsp hvs => ?_⟩
  have hcall := hC qs out hsp S' γ' w' _ (St.nil hsz h1') hvs
  rw [show vs.toArray ++ ([] : List Value).toArray = vs.toArray from by simp]
  refine hcall.mono ?_
  rintro en w2 ⟨v, out', Hout, S2, γ2, rfl, ⟨rfl, rfl⟩, hp⟩
  refine ⟨v, rfl, ⟨hp.keep.os, hp.keep.tape, hp.keep.output, hp.keep.size, fun b hb => hp.keep.block b hb (by rintro ⟨j, r, hj, _⟩; simp [look] at hj)⟩, ?_⟩
  refine AV.mono (fun b hb => ?_) (fun _ _ => rfl) (fun _ => false) (fun _ h => by cases h) out' v (hout qs out' hsp) hp.val
  rcases hp.up b hb with h | h | ⟨j, r, hj, _⟩
  · exact .inl h
  · exact .inr ⟨h, hp.st.sz b hb⟩
  · simp [look] at hj
theorem con_fn2 {f g : FuncId} {a : AV} {spec : List AV → AV → Prop} {Hin : List (Nat × Res)} {post : AV → List (Nat × Res) → Prop} (hf : entersB P f = true) (hC : ∀ qs out, spec qs out → Con P f qs [] fun a h => a = out ∧ h = []) (hout : ∀ qs out, spec qs out → AV.uses (fun _ => false) out = true) (h : Con P g [a, .snap (fnF P spec)] Hin post) : Con P g [a, .fn f []] Hin post := fun S γ w vs hst hv => h S γ w vs hst (by
  simp only [AV.holdsL] at hv ⊢
  obtain ⟨v, vs', rfl, h1, v2, vs2, rfl, h2, h3⟩ := hv
  exact ⟨v, _, rfl, h1, v2, _, rfl, fn_snap hf hC hout h2, h3⟩)
end
end Go.Proofs.Ytbahngmjbpaglaa
