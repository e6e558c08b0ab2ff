/- Calls whose arguments must fit: they throw when they do not. Nothing of the program stands here. -/
import Derived.Test.YtgdkeafdlehlaaaDoorG2
namespace Go.Proofs.YtgdkeafdlehlaaaDoor
open Go Go.RowKit
set_option linter.unusedVariables false
section
variable {P : Program} {T : List (Nat × TI)} {fr : List (Nat × AV)} {H : List (Nat × Res)} {o : Oper} {x y : Operand} {t t' : TypeId} {s bt s' bt' : Nat} {j : IntKind} {a b : Int}
theorem sop_callCM {f : FuncId} {zs : Array Operand} {tys : Array TypeId} {qs0 : List AV} {out : AV} (hC : Con P f qs0 [] fun a h => a = out ∧ h = []) (ho : o.op = .call { callee := .value (.func f), args := zs, argTypes := tys } := by rfl) (hf : entersB P f = true := by kernel_rfl) (hargs : ArgsOk true fr H zs.toList qs0 := by ((repeat (first | exact .nil | refine .cons (by exact opv_std) ?_ | refine .lend rfl (by exact opv_std) (by rfl) ?_ | refine .nilS (by exact opv_std) ?_ | refine .lentS (by exact opv_std) ?_)); first | done | fail))
    (hout : AV.uses (fun _ => false) out = true := by rfl) (hB : out.flat = true := by rfl) : SOp P o fr H out := sop_call (B := true) ho hf hC hargs hout (.inr hB)
theorem sop_callNM {f : FuncId} {zs : Array Operand} {tys : Array TypeId} {qs0 : List AV} {out : AV} (hC : Con P f qs0 [] fun a h => a = out ∧ h = []) (ho : o.op = .call { callee := .value (.func f), args := zs, argTypes := tys } := by rfl) (hf : entersB P f = true := by kernel_rfl) (hargs : ArgsOk false fr H zs.toList qs0 := by ((repeat (first | exact .nil | refine .cons (by exact opv_std) ?_ | refine .lend rfl (by exact opv_std) (by rfl) ?_ | refine .nilS (by exact opv_std) ?_ | refine .lentS (by exact opv_std) ?_)); first | done | fail))
    (hout : AV.uses (fun _ => false) out = true := by rfl) : SOp P o fr H out := sop_call (B := false) ho hf hC hargs hout (.inl rfl)
end
end Go.Proofs.YtgdkeafdlehlaaaDoor
