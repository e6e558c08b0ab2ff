/- More of what single operations come to: length, difference, or, append behind nothing. Nothing of the program stands here. -/
import Derived.Test.YtobbgjgcgohdgaaOut
import Derived.Test.YtobbgjgcgohdgaaApp
import Derived.Laws.BitsAllLaws
namespace Go.Proofs.Ytobbgjgcgohdgaa
open Go Go.RowKit
set_option linter.unusedVariables false
/-- a slice made by the call, of these bytes -/
def Fact.own (base : Nat) (e : TypeId) (l : List UInt8) : Fact := ⟨fun v w => Own w base e 1 v l.length (bvs l), fun _ _ _ h x => h.ext x⟩
/-- a new row of two cells -/
def Fact.row2 (u v : Value) : Fact := ⟨fun x w => ∃ A c, x = .slice A 2 c ∧ Row w A [u, v], fun _ _ _ ⟨A, c, h, hr⟩ x => ⟨A, c, h, hr.ext x⟩⟩
section
variable {P : Program} {ρ : Operand → Value} {w : World} {R : Value → World → Prop} {o : Oper}
theorem out_len {x : Operand} {t e : TypeId} {A : Option Addr} {n c : Nat} (ho : o.op = .call { callee := .builtin .len, args := #[x], argTypes := #[t] }) (ht : P.underlying t = some (.slice e)) (hx : ρ x = .slice A n c) (h : R (.int .i64 (n : Int)) w) : Outcome P R ((execOp ρ o).run P w) := by
  have hrun : (execOp ρ o).run P w = .ok (.value (.int .i64 (n : Int))) w := by
    simp [go_sem, execOp, ho, resolve, invoke, builtin, hx, Builtin.len_, run_underlying ht]
  rw [hrun]; exact h
theorem out_sub {x y : Operand} {t t' : TypeId} {k : IntKind} {a b : Int} (ho : o.op = .binOp .sub t x y t') (hx : ρ x = .int k a) (hy : ρ y = .int k b) (h : R (.int k (k.wrap (a - b))) w) : Outcome P R ((execOp ρ o).run P w) := by
  have hrun : (execOp ρ o).run P w = .ok (.value (.int k (k.wrap (a - b)))) w := by
    simp [execOp, ho, hx, hy, go_sem]
  rw [hrun]; exact h
theorem out_or {x y : Operand} {t t' : TypeId} {k : IntKind} {a b : Int} (ho : o.op = .binOp .or t x y t') (hx : ρ x = .int k a) (hy : ρ y = .int k b) (h : R (.int k (bits .or k a b)) w) : Outcome P R ((execOp ρ o).run P w) := by
  have hrun : (execOp ρ o).run P w = .ok (.value (.int k (bits .or k a b))) w := by
    simp [execOp, ho, hx, hy, go_sem]
  rw [hrun]; exact h
theorem out_app_nil {s x : Operand} {t e : TypeId} {i : TypeInfo} {z : Value} {l : List UInt8} (ho : o.op = .call { callee := .builtin .append, args := #[s, x], argTypes := #[t, t] })
    (ht : P.underlying t = some (.slice e)) (hi : P.info? e = some i) (hz : i.zero = some z) (hsize : i.size = 1) (hby : i.bytes = 1) (hzs : z.cells.size = 1)
    (hs : ρ s = .slice none 0 0) (hx : RB w (ρ x) l) (hl : l.length ≤ 1000000)
    (h : ∀ v w', Ext w w' → Own w' w.heap.size e 1 v l.length (bvs l) → R v w') : Outcome P R ((execOp ρ o).run P w) := by
  obtain ⟨B, d, hxv, hd, hr⟩ := hx
  obtain ⟨v', w', hrr, h2, h3, h4⟩ := run_app (P := P) w w.heap.size t o.type e i z 1 1 ht hi hz hsize hby hzs (by decide) (.slice none 0 0) 0 [] (Own.nil _ _ _ _ _) B l.length d (bvs l) (by simp [bvs]) hr (bvs_one l) (by omega) (by unfold maxLen; omega) (Nat.le_refl _)
  have hrun : (execOp ρ o).run P w = .ok (.value v') w' := by
    unfold execOp
    simp only [ho, resolve, invoke, builtin, Sem.run_bind, Sem.run_pure, Result.andThen_ok, List.map_toArray, List.map_cons, List.map_nil, hs, hxv, hrr]
  rw [hrun]
  exact h v' w' (ext_of_grown h3) (by simpa using h2)
end
end Go.Proofs.Ytobbgjgcgohdgaa
