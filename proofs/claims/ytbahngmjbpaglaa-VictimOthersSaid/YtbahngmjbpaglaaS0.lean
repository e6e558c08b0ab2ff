/- Numbers and blocks as they lie in memory; what a comparing function answers. -/
import Derived.Test.YtbahngmjbpaglaaTT1215
import Derived.Test.YtbahngmjbpaglaaSo
import Derived.Test.YtbahngmjbpaglaaBg
import Derived.Test.YtbahngmjbpaglaaBh
import Derived.Test.YtbahngmjbpaglaaBi
namespace Go.Proofs.Ytbahngmjbpaglaa
open Go Go.RowKit
set_option linter.unusedVariables false
set_option linter.unusedSimpArgs false

section
variable {P : Program} {c : Ctx} {n : Nat} {Q : AQ} {fr : List (Nat × AV)} {H : List (Nat × Res)}
theorem a_reownC {code : Code} (j : Nat) {α : Type} {E : Enc α} {e : Nat} {xs ys : List α} (hj : look H j = some (.own e E xs)) (he : xs = ys) (h : ACode P c n code Q fr ((j, .own e E ys) :: H)) : ACode P c n code Q fr H := fun S γ tmps w hr => by
  subst he
  refine h S γ tmps w (hr.sub (fun _ _ h => h) fun i r hi => ?_)
  rw [look_cons] at hi
  split at hi
  · rename_i e; subst e; rw [← hi]; exact hj
  · exact hi
end
theorem sop_falseL {P : Program} {fr : List (Nat × AV)} {H : List (Nat × Res)} {o : Oper} (h : False) : SOp P o fr H (.lit (.bool false)) := h.elim
def encI : Enc Int := ⟨1, fun n => [.lit (.int .i64 n)], fun _ => rfl, fun _ => rfl, fun _ => rfl, fun l => match l with
  | [.lit (.int _ a)] => a
  | _ => 0⟩
structure Blk where
  id : Int
  clean : Int
  dirty : Int
  other : Int
  wear : Int
  deriving DecidableEq, Inhabited
def encB : Enc Blk := ⟨5, fun b => [.lit (.int .i64 b.id), .lit (.int .i64 b.clean), .lit (.int .i64 b.dirty), .lit (.int .i64 b.other), .lit (.int .i64 b.wear)], fun _ => rfl, fun _ => rfl, fun _ => rfl, fun l => match l with
  | [.lit (.int _ a), .lit (.int _ b), .lit (.int _ c), .lit (.int _ d), .lit (.int _ e)] => ⟨a, b, c, d, e⟩
  | _ => default⟩
def cspI (dom : Int → Prop) (cmp : Int → Int → Int) : List AV → AV → Prop := fun zs out => ∃ x y, dom x ∧ dom y ∧ zs = [.lit (.int .i64 (x)), .lit (.int .i64 (y))] ∧ out = .lit (.int .i64 (cmp x y))
theorem cspI_mk {dom : Int → Prop} {cmp : Int → Int → Int} {x y : Int} (hx : dom x) (hy : dom y) : cspI dom cmp [.lit (.int .i64 (x)), .lit (.int .i64 (y))] (.lit (.int .i64 (cmp x y))) := ⟨x, y, hx, hy, rfl, rfl⟩
def cspB (dom : Blk → Prop) (cmp : Blk → Blk → Int) : List AV → AV → Prop := fun zs out => ∃ x y, dom x ∧ dom y ∧ zs = [.agg (encB.cells (x)), .agg (encB.cells (y))] ∧ out = .lit (.int .i64 (cmp x y))
theorem cspB_mk {dom : Blk → Prop} {cmp : Blk → Blk → Int} {x y : Blk} (hx : dom x) (hy : dom y) : cspB dom cmp [.agg (encB.cells (x)), .agg (encB.cells (y))] (.lit (.int .i64 (cmp x y))) := ⟨x, y, hx, hy, rfl, rfl⟩
end Go.Proofs.Ytbahngmjbpaglaa
