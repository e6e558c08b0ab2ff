/- What single operations come to, as facts; slices that read as bytes. Nothing of the program stands here. -/
import Derived.Test.YtjmcbacdogjdeaaReg
import Derived.Test.YtjmcbacdogjdeaaBytes
namespace Go.Proofs.Ytjmcbacdogjdeaa
open Go Go.RowKit
set_option linter.unusedVariables false

/-- a fact of a value in a world that may grow -/
structure FactG (G : World → World → Prop) where
  holds : Value → World → Prop
  mono : ∀ v w w', holds v w → G w w' → holds v w'
abbrev Fact := FactG Ext
def Fact.any {G : World → World → Prop} : FactG G := ⟨fun _ _ => True, fun _ _ _ _ _ => trivial⟩
def Fact.eq {G : World → World → Prop} (u : Value) : FactG G := ⟨fun v _ => v = u, fun _ _ _ h _ => h⟩
def Fact.rb (l : List UInt8) : Fact := ⟨fun v w => RB w v l, fun _ _ _ h x => h.ext x⟩
def Fact.rbs (ls : List (List UInt8)) : Fact := ⟨fun v w => RP w v ls, fun _ _ _ h x => h.ext x⟩
def Fact.lent (l : List UInt8) : Fact := ⟨fun v w => Lent w v l, fun _ _ _ h x => h.ext x⟩
/-- a new row of one cell -/
def Fact.row1 (u : Value) : Fact := ⟨fun v w => ∃ A c, v = .slice A 1 c ∧ Row w A [u], fun _ _ _ ⟨A, c, h, hr⟩ x => ⟨A, c, h, hr.ext x⟩⟩
def ofs {G : World → World → Prop} (fs : List (FactG G)) : Nat → Value → World → Prop := fun i v w => (fs.getD i Fact.any).holds v w
theorem ofs_mono {G : World → World → Prop} (fs : List (FactG G)) : ∀ i v w w', ofs fs i v w → G w w' → ofs fs i v w' := fun i => (fs.getD i Fact.any).mono

section
variable {P : Program} {ρ : Operand → Value} {w : World} {R : Value → World → Prop} {o : Oper}
theorem out_move {x : Operand} (ho : o.op = .move x) (h : R (ρ x) w) : Outcome P R ((execOp ρ o).run P w) := by
  simp only [execOp, ho, Sem.run_pure]; exact h
theorem out_assign {x : Operand} (ho : o.op = .assign x) (h : R (ρ x) w) : Outcome P R ((execOp ρ o).run P w) := by
  simp only [execOp, ho, Sem.run_pure]; exact h
theorem out_pick {c a b : Operand} {t : Bool} (ho : o.op = .pick c a b) (hc : ρ c = .bool t) (h : R (if t then ρ a else ρ b) w) : Outcome P R ((execOp ρ o).run P w) := by
  simp only [execOp, ho, hc, asBool, Sem.run_bind, Sem.run_pure, Result.andThen_ok]; exact h
def entersB (P : Program) (f : FuncId) : Bool := match P.funcs[f]? with | some fn => !(fn.name == "runtime.NumGoroutine") && !fn.body.isNone | none => false
theorem out_call {f : FuncId} {args : Array Operand} {tys : Array TypeId} (ho : o.op = .call { callee := .value (.func f), args := args, argTypes := tys })
    (hρ : ρ (.func f) = .func (.func f) #[] #[]) (hf : entersB P f = true)
    (h : Calls P f (args.map ρ) w fun e w' => ∃ v, e = .returned v ∧ R v w') : Outcome P R ((execOp ρ o).run P w) := by
  unfold entersB at hf
  cases hfn : P.funcs[f]? with
  | none => simp [hfn] at hf
  | some fn =>
    simp only [hfn, Bool.and_eq_true, Bool.not_eq_true'] at hf
    have hrun : (execOp ρ o).run P w = .ok (.enter f (args.map ρ)) w := by
      have h1 : ¬ fn.name = "runtime.NumGoroutine" := by simpa using hf.1
      have h2 : ¬ fn.body = none := by intro e; simp [e] at hf
      simp [execOp, ho, resolve, hρ, Deferred.ofValue, invoke, callFunc, hfn, h1, h2]
    rw [hrun]
    exact h
theorem out_value {v : Value} {w' : World} (hrun : (execOp ρ o).run P w = .ok (.value v) w') (h : R v w') : Outcome P R ((execOp ρ o).run P w) := by
  rw [hrun]; exact h
theorem out_slice {t e : TypeId} {x : Operand} {lo hi : Option Operand} {i : TypeInfo} {l : List UInt8} {a b : Nat} (ho : o.op = .slice t x lo hi none)
    (ht : P.underlying t = some (.slice e)) (hi_ : P.info? e = some i) (hz : i.size = 1) (hv : RB w (ρ x) l)
    (hlo : match lo with | none => a = 0 | some y => ρ y = .int .i64 a) (hhi : match hi with | none => b = l.length | some y => ρ y = .int .i64 b) (hab : a ≤ b) (hbl : b ≤ l.length)
    (h : ∀ u, RB w u ((l.drop a).take (b - a)) → R u w) : Outcome P R ((execOp ρ o).run P w) := by
  obtain ⟨A, c, hx, hc, hr⟩ := hv
  have hrun : (execOp ρ o).run P w = .ok (.value (.slice (if c = a then A else A.map (·.add (a * 1))) (b - a) (c - a))) w := by
    have e1 : ¬ c < b := by omega
    have e2 : b ≤ c := by omega
    cases lo with
    | none =>
      simp only at hlo
      subst hlo
      cases hi with
      | none =>
        simp only at hhi
        subst hhi
        simp [execOp, ho, hx, Instr.sliceAt, Instr.slice, run_underlying ht, Instr.sliceBounds, sizeOf, typeInfo, hi_]
      | some y =>
        simp only at hhi
        simp [execOp, ho, hx, Instr.sliceAt, Instr.slice, run_underlying ht, Instr.sliceBounds, Instr.sliceBound, asIntOf, hhi, sizeOf, typeInfo, hi_, e2]
    | some z =>
      simp only at hlo
      cases hi with
      | none =>
        simp only at hhi
        subst hhi
        have e3 : a ≤ l.length := hab
        simp [execOp, ho, hx, Instr.sliceAt, Instr.slice, run_underlying ht, Instr.sliceBounds, Instr.sliceBound, asIntOf, hlo, sizeOf, typeInfo, hi_, hz, e3]
      | some y =>
        simp only at hhi
        simp [execOp, ho, hx, Instr.sliceAt, Instr.slice, run_underlying ht, Instr.sliceBounds, Instr.sliceBound, asIntOf, hlo, hhi, sizeOf, typeInfo, hi_, hz, e2, hab]
  rw [hrun]
  refine h _ ⟨if c = a then A else A.map (·.add (a * 1)), c - a, ?_, ?_, ?_⟩
  · simp; omega
  · simp; omega
  · intro hne
    have hlen : ((l.drop a).take (b - a)).length ≠ 0 := by
      intro h0
      apply hne
      have := List.eq_nil_of_length_eq_zero h0
      rw [this]; rfl
    have hpos : a < l.length := by simp at hlen; omega
    obtain ⟨ad, rfl, hcell⟩ := hr (by intro e; have : l.length = 0 := (by rw [← bvs_len, e]; rfl); omega)
    rw [if_neg (by omega)]
    refine ⟨ad.add (a * 1), rfl, fun j u hu => ?_⟩
    rw [addr_add2, Nat.mul_one]
    apply hcell
    rw [← hu]
    simp only [bvs, List.getElem?_map, List.getElem?_take, List.getElem?_drop]
    have hj : j < b - a := by
      have := (List.getElem?_eq_some_iff.1 hu).1
      simp [bvs] at this
      omega
    rw [if_pos hj]

theorem known_out {G : World → World → Prop} {ops : Array Oper} {a0 : Act} {w0 : World} {F : Nat → Value → World → Prop} (fact : FactG G) (hk : Known ops a0 F o ρ w) (t : Tmp) (ho : outside ops t = true) (hx : G w0 w) (h : fact.holds (a0.tmps.getD t undef) w0) : fact.holds (ρ (.tmp t)) w := by
  rw [hk.out t ho]
  exact fact.mono _ _ _ h hx
theorem out_eql {x y : Operand} {t t' : TypeId} {k : IntKind} {a b : Int} (ho : o.op = .binOp .eql t x y t') (hx : ρ x = .int k a) (hy : ρ y = .int k b) (h : R (.bool (a == b)) w) : Outcome P R ((execOp ρ o).run P w) := by
  refine out_value (v := .bool (a == b)) (w' := w) ?_ h
  simp [go_sem, ho, hx, hy]
/-- the call's answer, told as a value -/
def Ret (R : Value → World → Prop) : Ending → World → Prop := fun e w => ∃ v, e = .returned v ∧ R v w
theorem out_call0 {f : FuncId} {tys : Array TypeId} {S : Value → World → Prop} (ho : o.op = .call { callee := .value (.func f), args := #[], argTypes := tys })
    (hρ : ρ (.func f) = .func (.func f) #[] #[]) (hf : entersB P f = true) (h : Calls P f #[] w (Ret S)) (hS : ∀ v w', S v w' → R v w') : Outcome P R ((execOp ρ o).run P w) :=
  out_call ho hρ hf ((show Calls P f (Array.map ρ #[]) w (Ret S) from by simpa using h).mono fun e w' ⟨v, he, hv⟩ => ⟨v, he, hS _ _ hv⟩)
theorem out_call1 {f : FuncId} {x : Operand} {tys : Array TypeId} {S : Value → World → Prop} (ho : o.op = .call { callee := .value (.func f), args := #[x], argTypes := tys })
    (hρ : ρ (.func f) = .func (.func f) #[] #[]) (hf : entersB P f = true) (h : Calls P f #[ρ x] w (Ret S)) (hS : ∀ v w', S v w' → R v w') : Outcome P R ((execOp ρ o).run P w) :=
  out_call ho hρ hf ((show Calls P f (Array.map ρ #[x]) w (Ret S) from by simpa using h).mono fun e w' ⟨v, he, hv⟩ => ⟨v, he, hS _ _ hv⟩)
theorem out_call2 {f : FuncId} {x y : Operand} {tys : Array TypeId} {S : Value → World → Prop} (ho : o.op = .call { callee := .value (.func f), args := #[x, y], argTypes := tys })
    (hρ : ρ (.func f) = .func (.func f) #[] #[]) (hf : entersB P f = true) (h : Calls P f #[ρ x, ρ y] w (Ret S)) (hS : ∀ v w', S v w' → R v w') : Outcome P R ((execOp ρ o).run P w) :=
  out_call ho hρ hf ((show Calls P f (Array.map ρ #[x, y]) w (Ret S) from by simpa using h).mono fun e w' ⟨v, he, hv⟩ => ⟨v, he, hS _ _ hv⟩)
theorem out_call3 {f : FuncId} {x y z : Operand} {tys : Array TypeId} {S : Value → World → Prop} (ho : o.op = .call { callee := .value (.func f), args := #[x, y, z], argTypes := tys })
    (hρ : ρ (.func f) = .func (.func f) #[] #[]) (hf : entersB P f = true) (h : Calls P f #[ρ x, ρ y, ρ z] w (Ret S)) (hS : ∀ v w', S v w' → R v w') : Outcome P R ((execOp ρ o).run P w) :=
  out_call ho hρ hf ((show Calls P f (Array.map ρ #[x, y, z]) w (Ret S) from by simpa using h).mono fun e w' ⟨v, he, hv⟩ => ⟨v, he, hS _ _ hv⟩)
theorem set1 {f : Nat → Value} (v : Value) : (Array.map f (Array.range 1)).setIfInBounds 0 v = #[v] := by
  apply Array.ext'; simp [Array.toList_range, List.range_succ]
theorem set2 {f : Nat → Value} (v u : Value) : ((Array.map f (Array.range 2)).setIfInBounds 0 v).setIfInBounds 1 u = #[v, u] := by
  apply Array.ext'; simp [Array.toList_range, List.range_succ]
theorem set3 {f : Nat → Value} (v u x : Value) : (((Array.map f (Array.range 3)).setIfInBounds 0 v).setIfInBounds 1 u).setIfInBounds 2 x = #[v, u, x] := by
  apply Array.ext'; simp [Array.toList_range, List.range_succ]
theorem out_build1 {t e : TypeId} {x0 : Operand} {z : Value} {i : TypeInfo} (ho : o.op = .buildSlice t 1 #[(0, x0)]) (ht : P.underlying t = some (.slice e)) (hi : P.info? e = some i) (hz : i.zero = some z) (hs : i.size = 1)
    (h0 : (ρ x0).cells = #[ρ x0]) (h : R (.slice (some ⟨w.heap.size, 0, none⟩) 1 1) (w.alloc (.cells [ρ x0].toArray e))) : Outcome P R ((execOp ρ o).run P w) := by
  refine out_value (v := .slice (some ⟨w.heap.size, 0, none⟩) 1 1) (w' := w.alloc (.cells [ρ x0].toArray e)) ?_ h
  simp [execOp, ho, Instr.buildSlice, run_underlying ht, sizeOf, typeInfo, hi, hs, zeroValue, hz, Instr.fill, h0, newRow, set1]
theorem out_build2 {t e : TypeId} {x0 x1 : Operand} {z : Value} {i : TypeInfo} (ho : o.op = .buildSlice t 2 #[(0, x0), (1, x1)]) (ht : P.underlying t = some (.slice e)) (hi : P.info? e = some i) (hz : i.zero = some z) (hs : i.size = 1)
    (h0 : (ρ x0).cells = #[ρ x0]) (h1 : (ρ x1).cells = #[ρ x1]) (h : R (.slice (some ⟨w.heap.size, 0, none⟩) 2 2) (w.alloc (.cells [ρ x0, ρ x1].toArray e))) : Outcome P R ((execOp ρ o).run P w) := by
  refine out_value (v := .slice (some ⟨w.heap.size, 0, none⟩) 2 2) (w' := w.alloc (.cells [ρ x0, ρ x1].toArray e)) ?_ h
  simp [execOp, ho, Instr.buildSlice, run_underlying ht, sizeOf, typeInfo, hi, hs, zeroValue, hz, Instr.fill, h0, h1, newRow, set2]
theorem out_build3 {t e : TypeId} {x0 x1 x2 : Operand} {z : Value} {i : TypeInfo} (ho : o.op = .buildSlice t 3 #[(0, x0), (1, x1), (2, x2)]) (ht : P.underlying t = some (.slice e)) (hi : P.info? e = some i) (hz : i.zero = some z) (hs : i.size = 1)
    (h0 : (ρ x0).cells = #[ρ x0]) (h1 : (ρ x1).cells = #[ρ x1]) (h2 : (ρ x2).cells = #[ρ x2]) (h : R (.slice (some ⟨w.heap.size, 0, none⟩) 3 3) (w.alloc (.cells [ρ x0, ρ x1, ρ x2].toArray e))) : Outcome P R ((execOp ρ o).run P w) := by
  refine out_value (v := .slice (some ⟨w.heap.size, 0, none⟩) 3 3) (w' := w.alloc (.cells [ρ x0, ρ x1, ρ x2].toArray e)) ?_ h
  simp [execOp, ho, Instr.buildSlice, run_underlying ht, sizeOf, typeInfo, hi, hs, zeroValue, hz, Instr.fill, h0, h1, h2, newRow, set3]
theorem RB.one {v : Value} {l : List UInt8} (h : RB w v l) : v.cells = #[v] := by
  obtain ⟨A, c, rfl, _⟩ := h
  rfl

theorem out_index {t e : TypeId} {x y : Operand} {i : TypeInfo} {A : Option Addr} {n c k : Nat} {ad : Addr} (ho : o.op = .indexAddr t x y) (ht : P.underlying t = some (.slice e)) (hi : P.info? e = some i) (hz : i.size = 1)
    (hx : ρ x = .slice A n c) (hA : A = some ad) (hy : ρ y = .int .i64 ((k : Nat) : Int)) (hk : k < n) (h : R (.pointer (some (ad.add k))) w) : Outcome P R ((execOp ρ o).run P w) := by
  refine out_value (v := .pointer (some (ad.add k))) (w' := w) ?_ h
  subst hA
  have e1 : ¬ n ≤ k := by omega
  simp [go_sem, ho, hx, hy, ht, hi, hz, sizeOf, typeInfo, hk]

theorem out_load_int {t : TypeId} {x : Operand} {k : IntKind} {p : Addr} {m : Int} (ho : o.op = .load t x) (ht : P.underlying t = some (.int k))
    (hx : ρ x = .pointer (some p)) (hc : w.cell? p = some (.int k m)) (h : R (.int k m) w) : Outcome P R ((execOp ρ o).run P w) := by
  refine out_value (v := .int k m) (w' := w) ?_ h
  have ha : Sem.run P (isAgg t) w = .ok false w := by simp [isAgg, run_underlying ht]
  simp [go_sem, ho, hx, hc, ha]
theorem out_xor {t t' : TypeId} {x y : Operand} {k : IntKind} {a b : Int} (ho : o.op = .binOp .xor t x y t') (hx : ρ x = .int k a) (hy : ρ y = .int k b) (h : R (.int k (bits .xor k a b)) w) : Outcome P R ((execOp ρ o).run P w) := by
  refine out_value (v := .int k (bits .xor k a b)) (w' := w) ?_ h
  simp [go_sem, ho, hx, hy]

theorem row1_new {w : World} {u v : Value} {e : TypeId} (h : v = u) : ∃ A c, (.slice (some ⟨w.heap.size, 0, none⟩) 1 1 : Value) = .slice A 1 c ∧ Row (w.alloc (.cells [v].toArray e)) A [u] := by
  subst h
  exact ⟨_, _, rfl, Row.new w [v] e (0, 0)⟩
end
end Go.Proofs.Ytjmcbacdogjdeaa
