/- A call that changes what it is lent: its contract throws when the arguments do not fit. Nothing of the program stands here. -/
import Derived.Test.YtbahngmjbpaglaaS0
namespace Go.Proofs.Ytbahngmjbpaglaa
open Go Go.RowKit
set_option linter.unusedVariables false
set_option linter.unusedSimpArgs false
section
variable {P : Program} {T : List (Nat × TI)} {o : Oper} {fr : List (Nat × AV)} {H : List (Nat × Res)} {c : Ctx} {n : Nat} {Q : AQ} {ops : Array Oper} {rest : List Oper}
variable {S : Nat → Prop} {γ : Nat → Value} {w : World} {x y : Operand} {t t' : TypeId} {s b : Nat}
variable {HN : List (Nat × Res)} {N : Nat → Bool}
theorem ao_callSM (L : List (Nat × Nat)) {f : FuncId} {zs : Array Operand} {tys : Array TypeId} {qs : List AV} {Hin Hout : List (Nat × Res)} {out : AV} {d : Nat} (hC : Con P f qs Hin fun a h => a = out ∧ h = Hout) (hg : o.guard = none := by rfl) (hd : o.dst = some d := by rfl) (hn : Nat.blt d n = true := by rfl)
    (ho : o.op = .call { callee := .value (.func f), args := zs, argTypes := tys } := by rfl) (hf : entersB P f = true := by kernel_rfl) (hargs : ArgsOk false fr H zs.toList (AV.renL (renC L d) qs) := by ((repeat (first | exact .nil | refine .cons (by exact opv_std) ?_ | refine .lend rfl (by exact opv_std) (by rfl) ?_ | refine .nilS (by exact opv_std) ?_ | refine .lentS (by exact opv_std) ?_)); (first | done | fail)))
    (hin : HinOk H (renC L d) Hin := by ((repeat (first | exact trivial | refine ⟨rfl, ?_⟩)); (first | done | fail))) (hinj : injB (renC L d) (idsOf Hin) = true := by rfl)
    (hok : callOk0 (renC L d) out Hin Hout = true := by rfl) (hids : idsOf Hout = idsOf Hin := by rfl)
    (next : AOps P c n ops rest Q ((d, out.ren (renC L d)) :: fr) (renH (renC L d) Hout ++ H)) : AOps P c n ops (o :: rest) Q fr H := by
  refine ao_callG (B := false) L hC hg hd hn ho hf hargs hin hinj (fun h => by cases h) (callOk0_ok hids hok) (.inl rfl) ?_
  intro S γ tmps w hr
  refine next S γ tmps w (hr.sub (fun x a hx => ?_) fun j r hj => ?_)
  · rw [fresh_none hids, markF_none]; exact hx
  · rw [look_append] at hj ⊢
    cases hl : look (renH (renC L d) Hout) j with
    | some r' => rw [hl] at hj; simpa using hj
    | none =>
      rw [hl] at hj
      simp only [Option.none_or] at hj ⊢
      rw [look_drop, if_neg]
      · exact hj
      · intro hD
        obtain ⟨i, hi, rfl⟩ := anyId_iff.1 hD
        have hi' : i ∈ idsOf Hout := by rw [hids] at hi ⊢; simpa using hi
        obtain ⟨r', hr'⟩ := look_renH_at (ρ := renC L d) hi'
        rw [hr'] at hl; cases hl
end
end Go.Proofs.Ytbahngmjbpaglaa
