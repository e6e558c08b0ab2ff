/- A call that answers a new slice: its arguments must fit, else it throws. Nothing of the program stands here. -/
import Derived.Test.YtbahngmjbpaglaaS0
namespace Go.Proofs.Ytbahngmjbpaglaa
open Go Go.RowKit
set_option linter.unusedVariables false
section
variable {P : Program} {T : List (Nat × TI)} {fr : List (Nat × AV)} {H : List (Nat × Res)} {o : Oper} {x y : Operand} {t t' : TypeId} {s bt s' bt' : Nat} {j : IntKind} {a b : Int}
variable {P : Program} {T : List (Nat × TI)} {c : Ctx} {n : Nat} {Q : AQ} {fr : List (Nat × AV)} {H : List (Nat × Res)} {ops : Array Oper} {rest : List Oper} {o : Oper}
variable {α : Type} {E : Enc α} {xs : List α} {x y : Operand} {t e s b j : Nat} {ei : TI} {m : Int} {kd : IntKind}
theorem sop_callOCM {f : FuncId} {zs : Array Operand} {tys : Array TypeId} {qs : List AV} {k : Nat} {ys : List α} (hC : Con P f qs [] fun a h => a = .own k ∧ h = [(k, .own e E ys)]) (ho : o.op = .call { callee := .value (.func f), args := zs, argTypes := tys } := by rfl) (hf : entersB P f = true := by kernel_rfl)
    (hargs : ArgsOk true fr H zs.toList qs := by ((repeat (first | exact .nil | refine .cons (by exact opv_std) ?_ | refine .lend rfl (by exact opv_std) (by rfl) ?_ | refine .nilS (by exact opv_std) ?_ | refine .lentS (by exact opv_std) ?_)); first | done | fail)) (hE : E.isFlat := by intro _; rfl) : SOp P o fr H (.snap (slF E ys)) := sop_callO (B := true) ho hf hC hargs (.inr hE)
end
end Go.Proofs.Ytbahngmjbpaglaa
