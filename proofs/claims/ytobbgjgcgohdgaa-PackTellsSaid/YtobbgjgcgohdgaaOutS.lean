/- What a conversion of bytes to a text, and comparing two of these, come to. Nothing of the program stands here. -/
import Derived.Test.YtobbgjgcgohdgaaOutB
import Derived.Laws.BytesArg
import Derived.Lib.Strings
namespace Go.Proofs.Ytobbgjgcgohdgaa
open Go Go.RowKit
set_option linter.unusedVariables false
/-- bytes as a text -/
def strOf (l : List UInt8) : ByteArray := ⟨l.toArray⟩
theorem strOf_inj {l m : List UInt8} : strOf l = strOf m ↔ l = m := by
  constructor
  · intro h
    injection h with h
    exact List.toArray_inj h
  · rintro rfl; rfl
section
variable {P : Program} {ρ : Operand → Value} {w : World} {R : Value → World → Prop} {o : Oper}
theorem run_rb_string {v : Value} {l : List UInt8} {src dst e : TypeId} (hs : P.underlying src = some (.slice e)) (he : P.underlying e = some (.int .u8)) (hd : P.underlying dst = some .string) (h : RB w v l) :
    (convert src dst v).run P w = .ok (.string (strOf l)) w := by
  obtain ⟨A, c, rfl, hc, hr⟩ := h
  cases A with
  | none =>
    have hl0 : l = [] := by
      rcases l with _ | ⟨x, l⟩
      · rfl
      · obtain ⟨ad, h, _⟩ := hr (by simp [bvs])
        cases h
    subst hl0
    rw [run_convert_bytes_nil w src e hs he _ _ dst hd]
    rfl
  | some ad =>
    have hm : bvs l = (l.map (fun b => (b.toNat : Int))).map (Value.int .u8) := by simp [bvs, bv, Function.comp_def]
    have hl : (loadCells ad l.length).run P w = .ok ((l.map (fun b => (b.toNat : Int))).map (Value.int .u8)).toArray w := by
      have := run_loadCells_list (P := P) w ad (bvs l) (fun j v hj => by
        obtain ⟨ad', h1, h2⟩ := hr (by intro e; rw [e] at hj; simp at hj)
        cases h1
        exact h2 j v hj)
      rw [hm] at this
      simpa using this
    rw [run_convert_bytes_string w src dst e _ _ c hs he hd, run_bytesToString w _ _ c _ hl, foldl_push_bytes]
    simp [strOf, Function.comp_def]
theorem out_string {src dst e : TypeId} {x : Operand} {l : List UInt8} (ho : o.op = .convert src dst x) (hs : P.underlying src = some (.slice e)) (he : P.underlying e = some (.int .u8)) (hd : P.underlying dst = some .string)
    (hx : RB w (ρ x) l) (h : R (.string (strOf l)) w) : Outcome P R ((execOp ρ o).run P w) := by
  have hrun : (execOp ρ o).run P w = .ok (.value (.string (strOf l))) w := by
    simp [execOp, ho, run_rb_string hs he hd hx]
  rw [hrun]; exact h
theorem out_neq_str {x y : Operand} {t t' : TypeId} {l m : List UInt8} (ho : o.op = .binOp .neq t x y t') (hx : ρ x = .string (strOf l)) (hy : ρ y = .string (strOf m)) (h : R (.bool (decide (l ≠ m))) w) : Outcome P R ((execOp ρ o).run P w) := by
  have hrun : (execOp ρ o).run P w = .ok (.value (.bool (decide (l ≠ m)))) w := by
    by_cases e : l = m
    · subst e
      simp [execOp, ho, hx, hy, go_sem]
    · have e' : ¬ (strOf l).toList = (strOf m).toList := by rw [ByteArray.toList_eq, ByteArray.toList_eq]; exact fun h => e (by simpa [strOf] using h)
      simp [execOp, ho, hx, hy, go_sem, e, e']
  rw [hrun]; exact h
theorem out_add {x y : Operand} {t t' : TypeId} {k : IntKind} {a b : Int} (ho : o.op = .binOp .add t x y t') (hx : ρ x = .int k a) (hy : ρ y = .int k b) (h : R (.int k (k.wrap (a + b))) w) : Outcome P R ((execOp ρ o).run P w) := by
  have hrun : (execOp ρ o).run P w = .ok (.value (.int k (k.wrap (a + b)))) w := by
    simp [execOp, ho, hx, hy, go_sem]
  rw [hrun]; exact h
end
end Go.Proofs.Ytobbgjgcgohdgaa
