/- What single operations make of abstract values. Nothing of the program stands here. -/
import Derived.Test.YtjmcbacdogjdeaaAv
namespace Go.Proofs.Ytjmcbacdogjdeaa
open Go Go.RowKit
set_option linter.unusedVariables false

/-- kinds of types -/
inductive TK where
  | int (k : IntKind) | bool | str | slice (e : TypeId) | struct (fs : List (TypeId × Nat)) | array (n : Nat) (e : TypeId) | ptr (e : TypeId) | iface | other
  deriving DecidableEq
structure TI where
  kind : TK
  size : Nat
  bytes : Nat
def TK.agg : TK → Bool
  | .struct _ => true
  | .array _ _ => true
  | _ => false
def tkOf (P : Program) (t : TypeId) : TK := match P.underlying t with
  | some (.int k) => .int k
  | some .bool => .bool
  | some .string => .str
  | some (.slice e) => .slice e
  | some (.struct fs) => .struct (fs.toList.map fun f => (f.type, f.offset))
  | some (.array n e) => .array n e
  | some (.pointer e) => .ptr e
  | some (.interface _) => .iface
  | _ => .other
/-- does a table tell a program's types? -/
def ttB (P : Program) (T : List (Nat × TI)) : Bool := T.all fun (t, i) => decide (tkOf P t = i.kind) && decide (i.kind ≠ .other) && (match P.info? t with | some j => decide (j.size = i.size) && decide (j.bytes = i.bytes) && (match j.zero with | some z => decide (z.cells.size = i.size) | none => false) | none => false)
structure TTOk (P : Program) (T : List (Nat × TI)) : Prop where
  ok : ∀ t i, look T t = some i → tkOf P t = i.kind ∧ i.kind ≠ .other ∧ ∃ j z, P.info? t = some j ∧ j.size = i.size ∧ j.bytes = i.bytes ∧ j.zero = some z ∧ z.cells.size = i.size
theorem ttOk {P : Program} {T : List (Nat × TI)} (h : ttB P T = true) : TTOk P T := by
  refine ⟨fun t i hl => ?_⟩
  unfold ttB at h
  rw [List.all_eq_true] at h
  have hm : (t, i) ∈ T := by
    clear h
    induction T with
    | nil => simp [look] at hl
    | cons p r ih =>
      obtain ⟨k, v⟩ := p
      rw [look_cons] at hl
      split at hl
      · rename_i e; subst e; simp at hl; subst hl; exact List.mem_cons_self
      · exact List.mem_cons_of_mem _ (ih hl)
  have := h _ hm
  simp only [Bool.and_eq_true, decide_eq_true_eq] at this
  obtain ⟨⟨h1, h2⟩, h3⟩ := this
  refine ⟨h1, h2, ?_⟩
  cases hi : P.info? t with
  | none => simp [hi] at h3
  | some j =>
    simp only [hi, Bool.and_eq_true, decide_eq_true_eq] at h3
    obtain ⟨⟨h4, h5⟩, h6⟩ := h3
    cases hz : j.zero with
    | none => simp [hz] at h6
    | some z =>
      simp only [hz, decide_eq_true_eq] at h6
      exact ⟨j, z, rfl, h4, h5, hz, h6⟩
section
variable {P : Program} {T : List (Nat × TI)} {t : TypeId} {i : TI}
theorem TTOk.size (h : TTOk P T) (hl : look T t = some i) (w : World) : (sizeOf t).run P w = .ok i.size w := by
  obtain ⟨_, _, j, z, hj, h1, _⟩ := h.ok t i hl
  simp [sizeOf, typeInfo, hj, h1]
theorem TTOk.info (h : TTOk P T) (hl : look T t = some i) : ∃ j z, P.info? t = some j ∧ j.size = i.size ∧ j.bytes = i.bytes ∧ j.zero = some z ∧ z.cells.size = i.size := by
  obtain ⟨_, _, j, z, hj, h1, h2, h3⟩ := h.ok t i hl
  exact ⟨j, z, hj, h1, h2, h3⟩
theorem TTOk.agg (h : TTOk P T) (hl : look T t = some i) (w : World) : (isAgg t).run P w = .ok i.kind.agg w := by
  obtain ⟨hk, hn, _⟩ := h.ok t i hl
  unfold tkOf at hk
  cases hu : P.underlying t with
  | none => rw [hu] at hk; exact absurd hk.symm hn
  | some d =>
    rw [hu] at hk
    have : (underlying t).run P w = .ok d w := run_underlying hu w
    cases d <;> simp only at hk <;> first | (exact absurd hk.symm hn) | (rw [← hk]; simp [isAgg, this, TK.agg])
theorem TTOk.slice (h : TTOk P T) {e s b : Nat} (hl : look T t = some ⟨.slice e, s, b⟩) : P.underlying t = some (.slice e) := by
  obtain ⟨hk, _⟩ := h.ok t _ hl
  unfold tkOf at hk
  cases hu : P.underlying t with
  | none => rw [hu] at hk; cases hk
  | some d => rw [hu] at hk; cases d <;> simp_all
theorem TTOk.str (h : TTOk P T) {s b : Nat} (hl : look T t = some ⟨.str, s, b⟩) : P.underlying t = some .string := by
  obtain ⟨hk, _⟩ := h.ok t _ hl
  unfold tkOf at hk
  cases hu : P.underlying t with
  | none => rw [hu] at hk; cases hk
  | some d => rw [hu] at hk; cases d <;> first | rfl | exact absurd hk (by simp)
theorem TTOk.int (h : TTOk P T) {s b : Nat} {k : IntKind} (hl : look T t = some ⟨.int k, s, b⟩) : P.underlying t = some (.int k) := by
  obtain ⟨hk, _⟩ := h.ok t _ hl
  unfold tkOf at hk
  cases hu : P.underlying t with
  | none => rw [hu] at hk; cases hk
  | some d => rw [hu] at hk; cases d <;> simp_all
theorem TTOk.field (h : TTOk P T) {fs : List (TypeId × Nat)} {s b f ft off : Nat} (hl : look T t = some ⟨.struct fs, s, b⟩) (hf : fs[f]? = some (ft, off)) :
    ∃ F fl, P.underlying t = some (.struct F) ∧ F[f]? = some fl ∧ fl.type = ft ∧ fl.offset = off := by
  obtain ⟨hk, _⟩ := h.ok t _ hl
  unfold tkOf at hk
  cases hu : P.underlying t with
  | none => rw [hu] at hk; cases hk
  | some d =>
    rw [hu] at hk
    cases d <;> simp only [reduceCtorEq] at hk
    rename_i F
    refine ⟨F, ?_⟩
    simp only [TK.struct.injEq] at hk
    rw [← hk] at hf
    simp only [List.getElem?_map, Option.map_eq_some_iff] at hf
    obtain ⟨fl, h1, h2⟩ := hf
    refine ⟨fl, rfl, by simpa using h1, ?_, ?_⟩
    · exact congrArg Prod.fst h2
    · exact congrArg Prod.snd h2
end

def opv (fr : List (Nat × AV)) : Operand → Option AV
  | .tmp t => look fr t
  | .const v => some (.lit v)
  | .func f => some (.fn f [])
  | .global g => some (.lit (.pointer (some ⟨g, 0, none⟩)))
inductive Opv (fr : List (Nat × AV)) (x : Operand) (a : AV) : Prop
  | of (h : opv fr x = some a)
  | un {p : Prop} (h : opv fr x = some (.when p a)) (hp : p)
/-- what is known where an operation runs -/
structure Env (fr : List (Nat × AV)) (H : List (Nat × Res)) (use : Operand → Prop) (ρ : Operand → Value) (S : Nat → Prop) (γ : Nat → Value) (w : World) : Prop where
  st : St S γ w H
  tmp : ∀ x av, use (.tmp x) → look fr x = some av → av.holds S γ w (ρ (.tmp x))
  const : ∀ v, ρ (.const v) = v
  func : ∀ f, ρ (.func f) = .func (.func f) #[] #[]
  glob : ∀ g, ρ (.global g) = .pointer (some ⟨g, 0, none⟩)
def FreshS (S : Nat → Prop) (w w' : World) : Nat → Prop := fun b => S b ∨ (w.heap.size ≤ b ∧ b < w'.heap.size)
/-- an operation that only makes: whatever the order, its outcome reads so -/
def SOp (P : Program) (o : Oper) (fr : List (Nat × AV)) (H : List (Nat × Res)) (out : AV) : Prop :=
  ∀ S γ w ρ, Env fr H (fun x => x ∈ o.op.operands) ρ S γ w → Outcome P (fun v w' => Ext w w' ∧ out.holds (FreshS S w w') γ w' v) ((execOp ρ o).run P w)

section
variable {P : Program} {T : List (Nat × TI)} {o : Oper} {fr : List (Nat × AV)} {H : List (Nat × Res)}
variable {S : Nat → Prop} {γ : Nat → Value} {w : World} {ρ : Operand → Value} {use : Operand → Prop}
theorem Env.get (h : Env fr H use ρ S γ w) {x : Operand} {a : AV} (hx : Opv fr x a) (hu : use x) : a.holds S γ w (ρ x) := by
  have key : ∀ b, opv fr x = some b → b.holds S γ w (ρ x) := by
    intro b hb
    cases x with
    | tmp t => exact h.tmp t b hu hb
    | const v =>
      simp only [opv, Option.some.injEq] at hb; subst hb
      simp only [AV.holds]; exact h.const v
    | func f =>
      simp only [opv, Option.some.injEq] at hb; subst hb
      simp only [AV.holds, AV.holdsL]
      exact ⟨[], by rw [h.func], rfl⟩
    | global g =>
      simp only [opv, Option.some.injEq] at hb; subst hb
      simp only [AV.holds]; exact h.glob g
  cases hx with
  | of hb => exact key _ hb
  | un hb hp =>
    have := key _ hb
    simp only [AV.holds] at this
    exact this.1 hp
theorem Env.lit (h : Env fr H use ρ S γ w) {x : Operand} {v : Value} (hx : Opv fr x (.lit v)) (hu : use x) : ρ x = v := by
  have := h.get hx hu
  simpa only [AV.holds] using this
theorem outc {R : Value → World → Prop} {v : Value} {w' : World} (hrun : (execOp ρ o).run P w = .ok (.value v) w') (h : R v w') : Outcome P R ((execOp ρ o).run P w) := by
  rw [hrun]; exact h
theorem outs {out : AV} {v : Value} (hrun : (execOp ρ o).run P w = .ok (.value v) w) (h : out.holds S γ w v) : Outcome P (fun v w' => Ext w w' ∧ out.holds (FreshS S w w') γ w' v) ((execOp ρ o).run P w) :=
  outc hrun ⟨Ext.refl w, AV.ext (fun _ h => .inl h) (fun _ _ => rfl) h⟩
theorem outl {v : Value} (hrun : (execOp ρ o).run P w = .ok (.value v) w) : Outcome P (fun v' w' => Ext w w' ∧ (AV.lit v).holds (FreshS S w w') γ w' v') ((execOp ρ o).run P w) :=
  outc hrun ⟨Ext.refl w, by simp only [AV.holds]⟩

theorem sop_move {x : Operand} {a : AV} (ho : o.op = .move x := by rfl) (hx : Opv fr x a := by first | exact .un rfl (by first | assumption | exact And.left (by assumption) | exact And.left (And.left (by assumption)) | exact And.left (And.left (And.left (by assumption)))) | exact .of rfl) : SOp P o fr H a := fun S γ w ρ h =>
  outs (v := ρ x) (by simp only [execOp, ho, Sem.run_pure]) (h.get hx (by simp [ho, Op.operands]))
theorem sop_assign {x : Operand} {a : AV} (ho : o.op = .assign x := by rfl) (hx : Opv fr x a := by first | exact .un rfl (by first | assumption | exact And.left (by assumption) | exact And.left (And.left (by assumption)) | exact And.left (And.left (And.left (by assumption)))) | exact .of rfl) : SOp P o fr H a := fun S γ w ρ h =>
  outs (v := ρ x) (by simp only [execOp, ho, Sem.run_pure]) (h.get hx (by simp [ho, Op.operands]))
/-- the value of an operand that is looked at under a condition -/
inductive OpvIf (q : Prop) (fr : List (Nat × AV)) (x : Operand) (a : AV) : Prop
  | of (h : opv fr x = some a)
  | un {p : Prop} (h : opv fr x = some (.when p a)) (hp : q → p)
theorem OpvIf.opv {q : Prop} {x : Operand} {a : AV} (h : OpvIf q fr x a) (hq : q) : Opv fr x a := by
  cases h with
  | of h => exact .of h
  | un h hp => exact .un h (hp hq)
theorem sop_pick_or {c y : Operand} {b z : Bool} (ho : o.op = .pick c (.const (.bool true)) y := by rfl) (hc : Opv fr c (.lit (.bool b)) := by first | exact .un rfl (by first | assumption | exact And.left (by assumption) | exact And.left (And.left (by assumption)) | exact And.left (And.left (And.left (by assumption)))) | exact .of rfl) (hy : OpvIf (b = false) fr y (.lit (.bool z)) := by first | exact .un rfl (fun h => h) | exact .un rfl (fun h => ⟨by assumption, h⟩) | exact .of rfl) : SOp P o fr H (.lit (.bool (b || z))) := fun S γ w ρ h => by
  have h1 := h.lit hc (by simp [ho, Op.operands])
  refine outl ?_
  cases b with
  | true => simp [execOp, ho, h1, asBool, h.const]
  | false =>
    have h2 := h.lit (hy.opv rfl) (by simp [ho, Op.operands])
    simp [execOp, ho, h1, asBool, h2]
theorem sop_pick_and {c y : Operand} {b z : Bool} (ho : o.op = .pick c y (.const (.bool false)) := by rfl) (hc : Opv fr c (.lit (.bool b)) := by first | exact .un rfl (by first | assumption | exact And.left (by assumption) | exact And.left (And.left (by assumption)) | exact And.left (And.left (And.left (by assumption)))) | exact .of rfl) (hy : OpvIf (b = true) fr y (.lit (.bool z)) := by first | exact .un rfl (fun h => h) | exact .un rfl (fun h => ⟨by assumption, h⟩) | exact .of rfl) : SOp P o fr H (.lit (.bool (b && z))) := fun S γ w ρ h => by
  have h1 := h.lit hc (by simp [ho, Op.operands])
  refine outl ?_
  cases b with
  | false => simp [execOp, ho, h1, asBool, h.const]
  | true =>
    have h2 := h.lit (hy.opv rfl) (by simp [ho, Op.operands])
    simp [execOp, ho, h1, asBool, h2]
section
variable {x y : Operand} {t t' : TypeId} {k : IntKind} {a b : Int}
theorem run_bin {op : BinOp} {u v : Value} (ho : o.op = .binOp op t x y t') (hx : ρ x = u) (hy : ρ y = v) (hu : ∀ cs, u ≠ .agg cs) (hi : u ≠ .nilIface) : (execOp ρ o).run P w = ((binOp op t u v).run P w).andThen fun r w => .ok (.value r) w := by
  have : (eqGuard op t x y u v).run P w = .ok () w := by
    unfold eqGuard
    cases op <;> cases u <;> simp_all
  simp only [execOp, ho, hx, hy, Sem.run_bind, this, Result.andThen_ok, Sem.run_pure]
theorem sop_add (ho : o.op = .binOp .add t x y t' := by rfl) (hx : Opv fr x (.lit (.int k a)) := by first | exact .un rfl (by first | assumption | exact And.left (by assumption) | exact And.left (And.left (by assumption)) | exact And.left (And.left (And.left (by assumption)))) | exact .of rfl) (hy : Opv fr y (.lit (.int k b)) := by first | exact .un rfl (by first | assumption | exact And.left (by assumption) | exact And.left (And.left (by assumption)) | exact And.left (And.left (And.left (by assumption)))) | exact .of rfl) : SOp P o fr H (.lit (.int k (k.wrap (a + b)))) := fun S γ w ρ h => by
  refine outl ?_
  rw [run_bin ho (h.lit hx (by simp [ho, Op.operands])) (h.lit hy (by simp [ho, Op.operands])) (by simp) (by simp)]
  simp [go_sem]
theorem sop_sub (ho : o.op = .binOp .sub t x y t' := by rfl) (hx : Opv fr x (.lit (.int k a)) := by first | exact .un rfl (by first | assumption | exact And.left (by assumption) | exact And.left (And.left (by assumption)) | exact And.left (And.left (And.left (by assumption)))) | exact .of rfl) (hy : Opv fr y (.lit (.int k b)) := by first | exact .un rfl (by first | assumption | exact And.left (by assumption) | exact And.left (And.left (by assumption)) | exact And.left (And.left (And.left (by assumption)))) | exact .of rfl) : SOp P o fr H (.lit (.int k (k.wrap (a - b)))) := fun S γ w ρ h => by
  refine outl ?_
  rw [run_bin ho (h.lit hx (by simp [ho, Op.operands])) (h.lit hy (by simp [ho, Op.operands])) (by simp) (by simp)]
  simp [go_sem]
theorem sop_mul (ho : o.op = .binOp .mul t x y t' := by rfl) (hx : Opv fr x (.lit (.int k a)) := by first | exact .un rfl (by first | assumption | exact And.left (by assumption) | exact And.left (And.left (by assumption)) | exact And.left (And.left (And.left (by assumption)))) | exact .of rfl) (hy : Opv fr y (.lit (.int k b)) := by first | exact .un rfl (by first | assumption | exact And.left (by assumption) | exact And.left (And.left (by assumption)) | exact And.left (And.left (And.left (by assumption)))) | exact .of rfl) : SOp P o fr H (.lit (.int k (k.wrap (a * b)))) := fun S γ w ρ h => by
  refine outl ?_
  rw [run_bin ho (h.lit hx (by simp [ho, Op.operands])) (h.lit hy (by simp [ho, Op.operands])) (by simp) (by simp)]
  simp [go_sem]
theorem wrap_i64_in {n : Int} (h : -9223372036854775808 ≤ n ∧ n ≤ 9223372036854775807) : IntKind.i64.wrap n = n := IntWalk.i64_in n h
theorem wrap_u64_in {n : Int} (h : 0 ≤ n ∧ n ≤ 18446744073709551615) : IntKind.u64.wrap n = n := by
  simp only [IntKind.wrap, IntKind.bits, IntKind.signed, Bool.false_and, Bool.false_eq_true, if_false]; omega
theorem wrap_u32_in {n : Int} (h : 0 ≤ n ∧ n ≤ 4294967295) : IntKind.u32.wrap n = n := by
  simp only [IntKind.wrap, IntKind.bits, IntKind.signed, Bool.false_and, Bool.false_eq_true, if_false]; omega
theorem wrap_u8_in {n : Int} (h : 0 ≤ n ∧ n ≤ 255) : IntKind.u8.wrap n = n := by
  simp only [IntKind.wrap, IntKind.bits, IntKind.signed, Bool.false_and, Bool.false_eq_true, if_false]; omega
theorem wrap_i32_in {n : Int} (h : -2147483648 ≤ n ∧ n ≤ 2147483647) : IntKind.i32.wrap n = n := by
  rw [IntKind.wrap_i32]; omega
theorem sop_cast {u v : Value} (h : SOp P o fr H (.lit u)) (e : u = v := by rfl) : SOp P o fr H (.lit v) := e ▸ h
theorem sop_add_in (ho : o.op = .binOp .add t x y t' := by rfl) (hx : Opv fr x (.lit (.int .i64 a)) := by first | exact .un rfl (by first | assumption | exact And.left (by assumption) | exact And.left (And.left (by assumption)) | exact And.left (And.left (And.left (by assumption)))) | exact .of rfl) (hy : Opv fr y (.lit (.int .i64 b)) := by first | exact .un rfl (by first | assumption | exact And.left (by assumption) | exact And.left (And.left (by assumption)) | exact And.left (And.left (And.left (by assumption)))) | exact .of rfl) (hi : -9223372036854775808 ≤ a + b ∧ a + b ≤ 9223372036854775807 := by first | omega | (simp only [List.length_append, List.length_cons, List.length_nil, List.length_take, List.length_drop, List.length_replicate, List.length_map, List.length_set]; omega)) : SOp P o fr H (.lit (.int .i64 (a + b))) :=
  sop_cast (sop_add ho hx hy) (by rw [wrap_i64_in hi])
theorem sop_sub_in (ho : o.op = .binOp .sub t x y t' := by rfl) (hx : Opv fr x (.lit (.int .i64 a)) := by first | exact .un rfl (by first | assumption | exact And.left (by assumption) | exact And.left (And.left (by assumption)) | exact And.left (And.left (And.left (by assumption)))) | exact .of rfl) (hy : Opv fr y (.lit (.int .i64 b)) := by first | exact .un rfl (by first | assumption | exact And.left (by assumption) | exact And.left (And.left (by assumption)) | exact And.left (And.left (And.left (by assumption)))) | exact .of rfl) (hi : -9223372036854775808 ≤ a - b ∧ a - b ≤ 9223372036854775807 := by first | omega | (simp only [List.length_append, List.length_cons, List.length_nil, List.length_take, List.length_drop, List.length_replicate, List.length_map, List.length_set]; omega)) : SOp P o fr H (.lit (.int .i64 (a - b))) :=
  sop_cast (sop_sub ho hx hy) (by rw [wrap_i64_in hi])
theorem sop_mul_in (ho : o.op = .binOp .mul t x y t' := by rfl) (hx : Opv fr x (.lit (.int .i64 a)) := by first | exact .un rfl (by first | assumption | exact And.left (by assumption) | exact And.left (And.left (by assumption)) | exact And.left (And.left (And.left (by assumption)))) | exact .of rfl) (hy : Opv fr y (.lit (.int .i64 b)) := by first | exact .un rfl (by first | assumption | exact And.left (by assumption) | exact And.left (And.left (by assumption)) | exact And.left (And.left (And.left (by assumption)))) | exact .of rfl) (hi : -9223372036854775808 ≤ a * b ∧ a * b ≤ 9223372036854775807 := by first | omega | (simp only [List.length_append, List.length_cons, List.length_nil, List.length_take, List.length_drop, List.length_replicate, List.length_map, List.length_set]; omega)) : SOp P o fr H (.lit (.int .i64 (a * b))) :=
  sop_cast (sop_mul ho hx hy) (by rw [wrap_i64_in hi])
theorem sop_lss (ho : o.op = .binOp .lss t x y t' := by rfl) (hx : Opv fr x (.lit (.int k a)) := by first | exact .un rfl (by first | assumption | exact And.left (by assumption) | exact And.left (And.left (by assumption)) | exact And.left (And.left (And.left (by assumption)))) | exact .of rfl) (hy : Opv fr y (.lit (.int k b)) := by first | exact .un rfl (by first | assumption | exact And.left (by assumption) | exact And.left (And.left (by assumption)) | exact And.left (And.left (And.left (by assumption)))) | exact .of rfl) : SOp P o fr H (.lit (.bool (decide (a < b)))) := fun S γ w ρ h => by
  refine outl ?_
  rw [run_bin ho (h.lit hx (by simp [ho, Op.operands])) (h.lit hy (by simp [ho, Op.operands])) (by simp) (by simp)]
  simp [go_sem]
theorem sop_leq (ho : o.op = .binOp .leq t x y t' := by rfl) (hx : Opv fr x (.lit (.int k a)) := by first | exact .un rfl (by first | assumption | exact And.left (by assumption) | exact And.left (And.left (by assumption)) | exact And.left (And.left (And.left (by assumption)))) | exact .of rfl) (hy : Opv fr y (.lit (.int k b)) := by first | exact .un rfl (by first | assumption | exact And.left (by assumption) | exact And.left (And.left (by assumption)) | exact And.left (And.left (And.left (by assumption)))) | exact .of rfl) : SOp P o fr H (.lit (.bool (decide (a ≤ b)))) := fun S γ w ρ h => by
  refine outl ?_
  rw [run_bin ho (h.lit hx (by simp [ho, Op.operands])) (h.lit hy (by simp [ho, Op.operands])) (by simp) (by simp)]
  simp [go_sem]
theorem sop_gtr (ho : o.op = .binOp .gtr t x y t' := by rfl) (hx : Opv fr x (.lit (.int k a)) := by first | exact .un rfl (by first | assumption | exact And.left (by assumption) | exact And.left (And.left (by assumption)) | exact And.left (And.left (And.left (by assumption)))) | exact .of rfl) (hy : Opv fr y (.lit (.int k b)) := by first | exact .un rfl (by first | assumption | exact And.left (by assumption) | exact And.left (And.left (by assumption)) | exact And.left (And.left (And.left (by assumption)))) | exact .of rfl) : SOp P o fr H (.lit (.bool (decide (b < a)))) := fun S γ w ρ h => by
  refine outl ?_
  rw [run_bin ho (h.lit hx (by simp [ho, Op.operands])) (h.lit hy (by simp [ho, Op.operands])) (by simp) (by simp)]
  simp [go_sem]
theorem sop_geq (ho : o.op = .binOp .geq t x y t' := by rfl) (hx : Opv fr x (.lit (.int k a)) := by first | exact .un rfl (by first | assumption | exact And.left (by assumption) | exact And.left (And.left (by assumption)) | exact And.left (And.left (And.left (by assumption)))) | exact .of rfl) (hy : Opv fr y (.lit (.int k b)) := by first | exact .un rfl (by first | assumption | exact And.left (by assumption) | exact And.left (And.left (by assumption)) | exact And.left (And.left (And.left (by assumption)))) | exact .of rfl) : SOp P o fr H (.lit (.bool (decide (b ≤ a)))) := fun S γ w ρ h => by
  refine outl ?_
  rw [run_bin ho (h.lit hx (by simp [ho, Op.operands])) (h.lit hy (by simp [ho, Op.operands])) (by simp) (by simp)]
  simp [go_sem]
theorem sop_eql (ho : o.op = .binOp .eql t x y t' := by rfl) (hx : Opv fr x (.lit (.int k a)) := by first | exact .un rfl (by first | assumption | exact And.left (by assumption) | exact And.left (And.left (by assumption)) | exact And.left (And.left (And.left (by assumption)))) | exact .of rfl) (hy : Opv fr y (.lit (.int k b)) := by first | exact .un rfl (by first | assumption | exact And.left (by assumption) | exact And.left (And.left (by assumption)) | exact And.left (And.left (And.left (by assumption)))) | exact .of rfl) : SOp P o fr H (.lit (.bool (decide (a = b)))) := fun S γ w ρ h => by
  refine outl ?_
  rw [run_bin ho (h.lit hx (by simp [ho, Op.operands])) (h.lit hy (by simp [ho, Op.operands])) (by simp) (by simp)]
  simp [go_sem]
  rw [Bool.eq_iff_iff]; simp
theorem sop_neq (ho : o.op = .binOp .neq t x y t' := by rfl) (hx : Opv fr x (.lit (.int k a)) := by first | exact .un rfl (by first | assumption | exact And.left (by assumption) | exact And.left (And.left (by assumption)) | exact And.left (And.left (And.left (by assumption)))) | exact .of rfl) (hy : Opv fr y (.lit (.int k b)) := by first | exact .un rfl (by first | assumption | exact And.left (by assumption) | exact And.left (And.left (by assumption)) | exact And.left (And.left (And.left (by assumption)))) | exact .of rfl) : SOp P o fr H (.lit (.bool (decide (a ≠ b)))) := fun S γ w ρ h => by
  refine outl ?_
  rw [run_bin ho (h.lit hx (by simp [ho, Op.operands])) (h.lit hy (by simp [ho, Op.operands])) (by simp) (by simp)]
  simp [go_sem]
  rw [Bool.eq_iff_iff]; simp
theorem sop_eqlb {a b : Bool} (ho : o.op = .binOp .eql t x y t' := by rfl) {s bt : Nat} (hT : TTOk P T := by assumption) (ht : look T t = some ⟨.bool, s, bt⟩ := by rfl) (hx : Opv fr x (.lit (.bool a)) := by first | exact .un rfl (by first | assumption | exact And.left (by assumption) | exact And.left (And.left (by assumption)) | exact And.left (And.left (And.left (by assumption)))) | exact .of rfl) (hy : Opv fr y (.lit (.bool b)) := by first | exact .un rfl (by first | assumption | exact And.left (by assumption) | exact And.left (And.left (by assumption)) | exact And.left (And.left (And.left (by assumption)))) | exact .of rfl) : SOp P o fr H (.lit (.bool (a == b))) := fun S γ w ρ h => by
  have hb : P.underlying t = some .bool := by
    obtain ⟨hk, _⟩ := hT.ok t _ ht
    unfold tkOf at hk
    cases hu : P.underlying t with
    | none => rw [hu] at hk; cases hk
    | some d => rw [hu] at hk; cases d <;> first | rfl | exact absurd hk (by simp)
  refine outl ?_
  rw [run_bin ho (h.lit hx (by simp [ho, Op.operands])) (h.lit hy (by simp [ho, Op.operands])) (by simp) (by simp)]
  simp [go_sem, hb]
theorem sop_neqb {a b : Bool} (ho : o.op = .binOp .neq t x y t' := by rfl) {s bt : Nat} (hT : TTOk P T := by assumption) (ht : look T t = some ⟨.bool, s, bt⟩ := by rfl) (hx : Opv fr x (.lit (.bool a)) := by first | exact .un rfl (by first | assumption | exact And.left (by assumption) | exact And.left (And.left (by assumption)) | exact And.left (And.left (And.left (by assumption)))) | exact .of rfl) (hy : Opv fr y (.lit (.bool b)) := by first | exact .un rfl (by first | assumption | exact And.left (by assumption) | exact And.left (And.left (by assumption)) | exact And.left (And.left (And.left (by assumption)))) | exact .of rfl) : SOp P o fr H (.lit (.bool (a != b))) := fun S γ w ρ h => by
  have hb : P.underlying t = some .bool := by
    obtain ⟨hk, _⟩ := hT.ok t _ ht
    unfold tkOf at hk
    cases hu : P.underlying t with
    | none => rw [hu] at hk; cases hk
    | some d => rw [hu] at hk; cases d <;> first | rfl | exact absurd hk (by simp)
  refine outl ?_
  rw [run_bin ho (h.lit hx (by simp [ho, Op.operands])) (h.lit hy (by simp [ho, Op.operands])) (by simp) (by simp)]
  simp [go_sem, hb]
  cases a <;> cases b <;> rfl
theorem sop_not {b : Bool} (ho : o.op = .unOp .not t x := by rfl) (hx : Opv fr x (.lit (.bool b)) := by first | exact .un rfl (by first | assumption | exact And.left (by assumption) | exact And.left (And.left (by assumption)) | exact And.left (And.left (And.left (by assumption)))) | exact .of rfl) : SOp P o fr H (.lit (.bool (!b))) := fun S γ w ρ h => by
  refine outl ?_
  simp [go_sem, ho, h.lit hx (by simp [ho, Op.operands])]
theorem sop_conv (ho : o.op = .convert t t' x := by rfl) {s bt : Nat} {j : IntKind} (hT : TTOk P T := by assumption) (ht : look T t = some ⟨.int j, s, bt⟩ := by rfl) {s' bt' : Nat} (ht' : look T t' = some ⟨.int k, s', bt'⟩ := by rfl) (hx : Opv fr x (.lit (.int j a)) := by first | exact .un rfl (by first | assumption | exact And.left (by assumption) | exact And.left (And.left (by assumption)) | exact And.left (And.left (And.left (by assumption)))) | exact .of rfl) : SOp P o fr H (.lit (.int k (k.wrap a))) := fun S γ w ρ h => by
  refine outl ?_
  simp [go_sem, ho, h.lit hx (by simp [ho, Op.operands]), hT.int ht, hT.int ht']
end
/-- a binary operation on two exact values, by its own run -/
theorem sop_bin {x y : Operand} {t t' : TypeId} {op : BinOp} {u v r : Value} (ho : o.op = .binOp op t x y t' := by rfl) (hx : Opv fr x (.lit u) := by first | exact .un rfl (by first | assumption | exact And.left (by assumption) | exact And.left (And.left (by assumption)) | exact And.left (And.left (And.left (by assumption)))) | exact .of rfl) (hy : Opv fr y (.lit v) := by first | exact .un rfl (by first | assumption | exact And.left (by assumption) | exact And.left (And.left (by assumption)) | exact And.left (And.left (And.left (by assumption)))) | exact .of rfl) (hrun : ∀ w : World, (eqGuard op t x y u v).run P w = .ok () w ∧ (binOp op t u v).run P w = .ok r w := by rfl) : SOp P o fr H (.lit r) := fun S γ w ρ h => by
  refine outl ?_
  simp only [execOp, ho, h.lit hx (by simp [ho, Op.operands]), h.lit hy (by simp [ho, Op.operands]), Sem.run_bind, (hrun w).1, (hrun w).2, Result.andThen_ok, Sem.run_pure]

theorem sop_len_snap {α : Type} {E : Enc α} {xs : List α} {x : Operand} {t e s b : Nat} (ho : o.op = .call { callee := .builtin .len, args := #[x], argTypes := #[t] } := by rfl) (hT : TTOk P T := by assumption) (ht : look T t = some ⟨.slice e, s, b⟩ := by rfl) (hx : Opv fr x (.snap (slF E xs)) := by first | exact .un rfl (by first | assumption | exact And.left (by assumption) | exact And.left (And.left (by assumption)) | exact And.left (And.left (And.left (by assumption)))) | exact .of rfl) : SOp P o fr H (.lit (.int .i64 (xs.length : Int))) := fun S γ w ρ h => by
  have h1 := h.get hx (by simp [ho, Op.operands, Call.operands])
  simp only [AV.holds] at h1
  obtain ⟨A, c, vs, hv, _⟩ := h1
  refine outl ?_
  simp [execOp, ho, resolve, invoke, builtin, Builtin.len_, run_underlying (hT.slice ht), hv, goInt]
theorem sop_len_own {α : Type} {E : Enc α} {xs : List α} {x : Operand} {j e' t e s b : Nat} (ho : o.op = .call { callee := .builtin .len, args := #[x], argTypes := #[t] } := by rfl) (hT : TTOk P T := by assumption) (ht : look T t = some ⟨.slice e, s, b⟩ := by rfl) (hx : Opv fr x (.own j) := by first | exact .un rfl (by first | assumption | exact And.left (by assumption) | exact And.left (And.left (by assumption)) | exact And.left (And.left (And.left (by assumption)))) | exact .of rfl) (hj : look H j = some (.own e' E xs) := by rfl) : SOp P o fr H (.lit (.int .i64 (xs.length : Int))) := fun S γ w ρ h => by
  have h1 := h.get hx (by simp [ho, Op.operands, Call.operands])
  simp only [AV.holds] at h1
  obtain ⟨vs, ho2, _⟩ := h.st.res j _ hj
  obtain ⟨A, c, hv, _⟩ := ho2.row
  rw [← h1] at hv
  refine outl ?_
  simp [execOp, ho, resolve, invoke, builtin, Builtin.len_, run_underlying (hT.slice ht), hv, goInt]
theorem sop_len_lit {x : Operand} {A : Option Addr} {n c t e s b : Nat} (ho : o.op = .call { callee := .builtin .len, args := #[x], argTypes := #[t] } := by rfl) (hT : TTOk P T := by assumption) (ht : look T t = some ⟨.slice e, s, b⟩ := by rfl) (hx : Opv fr x (.lit (.slice A n c)) := by first | exact .un rfl (by first | assumption | exact And.left (by assumption) | exact And.left (And.left (by assumption)) | exact And.left (And.left (And.left (by assumption)))) | exact .of rfl) : SOp P o fr H (.lit (.int .i64 (n : Int))) := fun S γ w ρ h => by
  have h1 := h.lit hx (by simp [ho, Op.operands, Call.operands])
  refine outl ?_
  simp [execOp, ho, resolve, invoke, builtin, Builtin.len_, run_underlying (hT.slice ht), h1, goInt]
theorem sop_len_str {x : Operand} {u : ByteArray} {t s b : Nat} (ho : o.op = .call { callee := .builtin .len, args := #[x], argTypes := #[t] } := by rfl) (hT : TTOk P T := by assumption) (ht : look T t = some ⟨.str, s, b⟩ := by rfl) (hx : Opv fr x (.lit (.string u)) := by first | exact .un rfl (by first | assumption | exact And.left (by assumption) | exact And.left (And.left (by assumption)) | exact And.left (And.left (And.left (by assumption)))) | exact .of rfl) : SOp P o fr H (.lit (.int .i64 (u.size : Int))) := fun S γ w ρ h => by
  have h1 := h.lit hx (by simp [ho, Op.operands, Call.operands])
  refine outl ?_
  simp [execOp, ho, resolve, invoke, builtin, Builtin.len_, run_underlying (hT.str ht), h1, goInt]

theorem addr_add_ne {g off n : Nat} : (⟨g, off, none⟩ : Addr).add n = ⟨g, off + n, none⟩ := by
  unfold Addr.add; split <;> simp_all
theorem sop_field_ptr {x : Operand} {t f j off : Nat} {fs : List (TypeId × Nat)} {s b ft fo : Nat} {fi : TI} (ho : o.op = .fieldAddr t x f := by rfl) (hT : TTOk P T := by assumption) (ht : look T t = some ⟨.struct fs, s, b⟩ := by rfl) (hf : fs[f]? = some (ft, fo) := by rfl) (hft : look T ft = some fi := by rfl) (hz : Nat.beq fi.size 0 = false := by rfl) (hx : Opv fr x (.ptr j off) := by first | exact .un rfl (by first | assumption | exact And.left (by assumption) | exact And.left (And.left (by assumption)) | exact And.left (And.left (And.left (by assumption)))) | exact .of rfl) : SOp P o fr H (.ptr j (off + fo)) := fun S γ w ρ h => by
  have h1 := h.get hx (by simp [ho, Op.operands])
  simp only [AV.holds] at h1
  obtain ⟨g, hg, hv⟩ := h1
  obtain ⟨F, fl, hu, hfl, h3, h4⟩ := hT.field ht hf
  have hz' : ¬ fi.size = 0 := fun e => by simp [e] at hz
  refine outs (v := .pointer (some ⟨g, off + fo, none⟩)) ?_ (by simp only [AV.holds]; exact ⟨g, hg, rfl⟩)
  simp [execOp, ho, Instr.fieldAt, run_underlying hu, hfl, hv, Instr.sureAddr, fieldPlace, h3, h4, hT.size hft, hz', addr_add_ne]
theorem sop_field_place {x : Operand} {t f : Nat} {fs : List (TypeId × Nat)} {s b ft fo : Nat} {fi : TI} {cs : List AV} (ho : o.op = .fieldAddr t x f := by rfl) (hT : TTOk P T := by assumption) (ht : look T t = some ⟨.struct fs, s, b⟩ := by rfl) (hf : fs[f]? = some (ft, fo) := by rfl) (hft : look T ft = some fi := by rfl) (hz : Nat.beq fi.size 0 = false := by rfl) (hx : Opv fr x (.snap (placeF cs)) := by first | exact .un rfl (by first | assumption | exact And.left (by assumption) | exact And.left (And.left (by assumption)) | exact And.left (And.left (And.left (by assumption)))) | exact .of rfl) : SOp P o fr H (.snap (placeF (cs.drop fo))) := fun S γ w ρ h => by
  have h1 := h.get hx (by simp [ho, Op.operands])
  simp only [AV.holds] at h1
  obtain ⟨ad, vs, hv, hr, hh⟩ := h1
  obtain ⟨F, fl, hu, hfl, h3, h4⟩ := hT.field ht hf
  have hz' : ¬ fi.size = 0 := fun e => by simp [e] at hz
  refine outs (v := .pointer (some (ad.add fo))) ?_ ?_
  · simp [execOp, ho, Instr.fieldAt, run_underlying hu, hfl, hv, Instr.sureAddr, fieldPlace, h3, h4, hT.size hft, hz']
  · simp only [AV.holds]
    refine ⟨ad.add fo, vs.drop fo, rfl, ?_, AV.holdsL_drop hh fo⟩
    intro hn
    have hne : vs ≠ [] := by intro e; subst e; simp at hn
    obtain ⟨ad', he, hb, hc⟩ := hr hne
    simp only [Option.some.injEq] at he; subst he
    exact ⟨_, rfl, by rw [addr_block]; exact hb, fun j u hu => by rw [addr_add2]; exact hc _ _ (by simpa using hu)⟩
theorem loadCells_run {ad : Addr} : ∀ (n i : Nat) (acc : Array Value) (vs : List Value), vs.length = n → (∀ j u, vs[j]? = some u → w.cell? (ad.add (i + j)) = some u) → (loadCellsFrom ad i n acc).run P w = .ok (acc ++ vs.toArray) w
  | 0, i, acc, vs, hl, _ => by
    have : vs = [] := List.eq_nil_of_length_eq_zero hl
    subst this; simp [loadCellsFrom]
  | n + 1, i, acc, vs, hl, h => by
    cases vs with
    | nil => simp at hl
    | cons v vs =>
      have h0 := h 0 v rfl
      simp only [Nat.add_zero] at h0
      have := loadCells_run n (i + 1) (acc.push v) vs (by simpa using hl) (fun j u hu => by
        have := h (j + 1) u (by simpa using hu)
        rwa [show i + (j + 1) = i + 1 + j from by omega] at this)
      simp [loadCellsFrom, load, Sem.run, Sem.run_bind, h0, this]
theorem load_run {t : Nat} {ti : TI} {ad : Addr} {vs : List Value} (hT : TTOk P T) (ht : look T t = some ti) (ha : ti.kind.agg = true) (hl : vs.length = ti.size) (hc : ∀ j u, vs[j]? = some u → w.cell? (ad.add j) = some u) : (loadVar t ad).run P w = .ok (.agg vs.toArray) w := by
  have := loadCells_run (P := P) (w := w) (ad := ad) ti.size 0 #[] vs hl (by simpa using hc)
  simp only [loadVar, Sem.run_bind, hT.agg ht, ha, Result.andThen_ok, if_true, hT.size ht, loadCells, this, Sem.run_pure]
  simp
theorem load_run1 {t : Nat} {ti : TI} {ad : Addr} {v : Value} (hT : TTOk P T) (ht : look T t = some ti) (ha : ti.kind.agg = false) (hc : w.cell? ad = some v) : (loadVar t ad).run P w = .ok v w := by
  simp only [loadVar, Sem.run_bind, hT.agg ht, ha, Result.andThen_ok, Bool.false_eq_true, if_false, load, Sem.run, hc]
theorem sop_load_place {x : Operand} {t : Nat} {ti : TI} {c : AV} {cs : List AV} (ho : o.op = .load t x := by rfl) (hT : TTOk P T := by assumption) (ht : look T t = some ti := by rfl) (ha : ti.kind.agg = false := by rfl) (hx : Opv fr x (.snap (placeF (c :: cs))) := by first | exact .un rfl (by first | assumption | exact And.left (by assumption) | exact And.left (And.left (by assumption)) | exact And.left (And.left (And.left (by assumption)))) | exact .of rfl) (hp : c.uses (fun _ => false) = true := by rfl) : SOp P o fr H c := fun S γ w ρ h => by
  have h1 := h.get hx (by simp [ho, Op.operands])
  simp only [AV.holds] at h1
  obtain ⟨ad, vs, hv, hr, hh⟩ := h1
  simp only [AV.holdsL] at hh
  obtain ⟨v, vs', rfl, hc, _⟩ := hh
  obtain ⟨ad', he, hb, hcell⟩ := hr (by simp)
  simp only [Option.some.injEq] at he; subst he
  have h0 := hcell 0 v rfl
  have : ad.add 0 = ad := by simp [Addr.add]
  rw [this] at h0
  refine outs (v := v) ?_ (AV.mono (fun _ h => h) (fun _ _ => rfl) (fun _ => false) (fun _ h => by cases h) c v hp hc)
  simp only [execOp, ho, Instr.loadAt, hv, Instr.sureAddr, Sem.run_bind, Sem.run_pure, Result.andThen_ok, load_run1 hT ht ha h0]
theorem sop_load_place_agg {x : Operand} {t : Nat} {ti : TI} {cs : List AV} (ho : o.op = .load t x := by rfl) (hT : TTOk P T := by assumption) (ht : look T t = some ti := by rfl) (ha : ti.kind.agg = true := by rfl) (hx : Opv fr x (.snap (placeF cs)) := by first | exact .un rfl (by first | assumption | exact And.left (by assumption) | exact And.left (And.left (by assumption)) | exact And.left (And.left (And.left (by assumption)))) | exact .of rfl) (hl : Nat.ble ti.size cs.length = true := by rfl) (hp : AV.usesL (fun _ => false) cs = true := by rfl) : SOp P o fr H (.agg (cs.take ti.size)) := fun S γ w ρ h => by
  have h1 := h.get hx (by simp [ho, Op.operands])
  simp only [AV.holds] at h1
  obtain ⟨ad, vs, hv, hr, hh⟩ := h1
  have hlen := AV.holdsL_len hh
  have hle : ti.size ≤ cs.length := Nat.le_of_ble_eq_true hl
  refine outs (v := .agg (vs.take ti.size).toArray) ?_ ?_
  · simp only [execOp, ho, Instr.loadAt, hv, Instr.sureAddr, Sem.run_bind, Sem.run_pure, Result.andThen_ok]
    rw [load_run hT ht ha (vs := vs.take ti.size) (by rw [List.length_take]; omega)]
    · rfl
    intro j u hu
    have hne : vs ≠ [] := by intro e; subst e; simp at hu
    obtain ⟨ad', he, hb, hcell⟩ := hr hne
    simp only [Option.some.injEq] at he; subst he
    rw [List.getElem?_take] at hu
    split at hu
    · exact hcell j u hu
    · cases hu
  · simp only [AV.holds]
    exact ⟨_, rfl, AV.holdsL_take (plainL hp hh) _⟩
theorem box_cell {j : Nat} {cs : List AV} {g : Nat} (hs : St S γ w H) (hj : look H j = some (.box cs)) (hg : gof (γ j) = some g) : ∃ arr e, w.heap[g]? = some (.cells arr e (0, 0)) ∧ AV.holdsL S γ w cs arr.toList := by
  obtain ⟨g', arr, e, hv, hh, hc⟩ := hs.res j _ hj
  rw [hv] at hg
  simp [gof] at hg; subst hg
  exact ⟨arr, e, hh, hc⟩
theorem sop_load_box {x : Operand} {t j off : Nat} {ti : TI} {cs : List AV} {c : AV} (ho : o.op = .load t x := by rfl) (hT : TTOk P T := by assumption) (ht : look T t = some ti := by rfl) (ha : ti.kind.agg = false := by rfl) (hx : Opv fr x (.ptr j off) := by first | exact .un rfl (by first | assumption | exact And.left (by assumption) | exact And.left (And.left (by assumption)) | exact And.left (And.left (And.left (by assumption)))) | exact .of rfl) (hj : look H j = some (.box cs) := by rfl) (hc : cs[off]? = some c := by rfl) : SOp P o fr H c := fun S γ w ρ h => by
  have h1 := h.get hx (by simp [ho, Op.operands])
  simp only [AV.holds] at h1
  obtain ⟨g, hg, hv⟩ := h1
  obtain ⟨arr, e, hh, hl⟩ := box_cell h.st hj hg
  obtain ⟨v, hv2, hcv⟩ := AV.holdsL_get hl off c hc
  have h0 : w.cell? ⟨g, off, none⟩ = some v := by
    rw [cell_of_row w g off _ _ _ hh]; simpa using hv2
  refine outs (v := v) ?_ hcv
  simp only [execOp, ho, Instr.loadAt, hv, Instr.sureAddr, Sem.run_bind, Sem.run_pure, Result.andThen_ok, load_run1 hT ht ha h0]
theorem sop_load_box_agg {x : Operand} {t j off : Nat} {ti : TI} {cs : List AV} (ho : o.op = .load t x := by rfl) (hT : TTOk P T := by assumption) (ht : look T t = some ti := by rfl) (ha : ti.kind.agg = true := by rfl) (hx : Opv fr x (.ptr j off) := by first | exact .un rfl (by first | assumption | exact And.left (by assumption) | exact And.left (And.left (by assumption)) | exact And.left (And.left (And.left (by assumption)))) | exact .of rfl) (hj : look H j = some (.box cs) := by rfl) (hl : Nat.ble (off + ti.size) cs.length = true := by rfl) : SOp P o fr H (.agg ((cs.drop off).take ti.size)) := fun S γ w ρ h => by
  have h1 := h.get hx (by simp [ho, Op.operands])
  simp only [AV.holds] at h1
  obtain ⟨g, hg, hv⟩ := h1
  obtain ⟨arr, e, hh, hL⟩ := box_cell h.st hj hg
  have hlen := AV.holdsL_len hL
  have hle : off + ti.size ≤ cs.length := Nat.le_of_ble_eq_true hl
  refine outs (v := .agg ((arr.toList.drop off).take ti.size).toArray) ?_ ?_
  · simp only [execOp, ho, Instr.loadAt, hv, Instr.sureAddr, Sem.run_bind, Sem.run_pure, Result.andThen_ok]
    rw [load_run hT ht ha (vs := (arr.toList.drop off).take ti.size) (by rw [List.length_take, List.length_drop]; omega)]
    · rfl
    intro j u hu
    rw [addr_add_ne, cell_of_row w g _ _ _ _ hh]
    rw [List.getElem?_take] at hu
    split at hu
    · simpa using hu
    · cases hu
  · simp only [AV.holds]
    exact ⟨_, rfl, AV.holdsL_take (AV.holdsL_drop hL off) _⟩
def nth {α : Type} [Inhabited α] (xs : List α) (k : Nat) : α := xs.getD k default
theorem nth_eq {α : Type} [Inhabited α] {xs : List α} {k : Nat} (h : k < xs.length) : nth xs k = xs[k] := by
  unfold nth; simp [h]
theorem sl_at {α : Type} [Inhabited α] {E : Enc α} {xs : List α} {v : Value} (hv : (slF E xs).holds S w v) {k : Nat} (hk : k < xs.length) (hE : Nat.blt 0 E.size = true) : ∃ A c, v = .slice (some A) xs.length c ∧ xs.length ≤ c ∧ (placeF (E.cells (nth xs k))).holds S w (.pointer (some (A.add (k * E.size)))) := by
  obtain ⟨A, c, vs, rfl, hc, hr, hh, h1⟩ := hv
  have hE' : 0 < E.size := Nat.lt_of_lt_of_le Nat.zero_lt_one (Nat.le_of_ble_eq_true hE)
  have hlen := AV.holdsL_len hh
  rw [Enc.all_len] at hlen
  have hpos : k * E.size + E.size ≤ xs.length * E.size := by
    have := Nat.mul_le_mul_right E.size (show k + 1 ≤ xs.length from hk)
    rwa [Nat.add_mul, Nat.one_mul] at this
  obtain ⟨ad, rfl, hb, hcell⟩ := hr (by intro e; subst e; simp at hlen; omega)
  refine ⟨ad, c, rfl, hc, ad.add (k * E.size), (vs.drop (k * E.size)).take E.size, rfl, ?_, ?_⟩
  · intro _
    refine ⟨_, rfl, by rw [addr_block]; exact hb, fun j u hu => ?_⟩
    rw [addr_add2]
    apply hcell
    rw [List.getElem?_take] at hu
    split at hu
    · simpa using hu
    · cases hu
  · have := AV.holdsL_drop hh (k * E.size)
    rw [Enc.all_at E xs k hk] at this
    have := (AV.holdsL_split this).1
    rw [E.len] at this
    rw [nth_eq hk]; exact this
theorem sop_index_snap {α : Type} [Inhabited α] {E : Enc α} {xs : List α} {x y : Operand} {t e s b k : Nat} {ei : TI} {n : Int} {kd : IntKind} (ho : o.op = .indexAddr t x y := by rfl) (hT : TTOk P T := by assumption) (ht : look T t = some ⟨.slice e, s, b⟩ := by rfl) (he : look T e = some ei := by rfl)
    (hx : Opv fr x (.snap (slF E xs)) := by first | exact .un rfl (by first | assumption | exact And.left (by assumption) | exact And.left (And.left (by assumption)) | exact And.left (And.left (And.left (by assumption)))) | exact .of rfl) (hy : Opv fr y (.lit (.int kd n)) := by first | exact .un rfl (by first | assumption | exact And.left (by assumption) | exact And.left (And.left (by assumption)) | exact And.left (And.left (And.left (by assumption)))) | exact .of rfl) (hn : n = (k : Int) := by first | rfl | omega) (hk : k < xs.length := by first | omega | (simp only [List.length_append, List.length_cons, List.length_nil, List.length_take, List.length_drop, List.length_replicate, List.length_map, List.length_set]; omega)) (hs : ei.size = E.size := by rfl) (hE : Nat.blt 0 E.size = true := by rfl) : SOp P o fr H (.snap (placeF (E.cells (nth xs k)))) := fun S γ w ρ h => by
  have h1 := h.get hx (by simp [ho, Op.operands])
  have h2 := h.lit hy (by simp [ho, Op.operands])
  simp only [AV.holds] at h1
  obtain ⟨A, c, hv, hc, hp⟩ := sl_at h1 hk hE
  refine outs (v := .pointer (some (A.add (k * E.size)))) ?_ (by simp only [AV.holds]; exact hp)
  subst hn
  simp [execOp, ho, Instr.indexAt, hv, h2, asIntOf, run_underlying (hT.slice ht), hk, hT.size he, hs]
theorem sop_extract {x : Operand} {i : Nat} {cs : List AV} {c : AV} (ho : o.op = .extract x i := by rfl) (hx : Opv fr x (.tup cs) := by first | exact .un rfl (by first | assumption | exact And.left (by assumption) | exact And.left (And.left (by assumption)) | exact And.left (And.left (And.left (by assumption)))) | exact .of rfl) (hc : cs[i]? = some c := by rfl) : SOp P o fr H c := fun S γ w ρ h => by
  have h1 := h.get hx (by simp [ho, Op.operands])
  simp only [AV.holds] at h1
  obtain ⟨vs, hv, hl⟩ := h1
  obtain ⟨v, hv2, hcv⟩ := AV.holdsL_get hl i c hc
  refine outs (v := v) ?_ hcv
  simp [execOp, ho, Instr.extract, hv, hv2]
theorem sop_slice_snap {α : Type} {E : Enc α} {xs : List α} {x : Operand} {lo hi : Option Operand} {t e s b a c : Nat} {ei : TI} (ho : o.op = .slice t x lo hi none := by rfl) (hT : TTOk P T := by assumption) (ht : look T t = some ⟨.slice e, s, b⟩ := by rfl) (he : look T e = some ei := by rfl)
    (hx : Opv fr x (.snap (slF E xs)) := by first | exact .un rfl (by first | assumption | exact And.left (by assumption) | exact And.left (And.left (by assumption)) | exact And.left (And.left (And.left (by assumption)))) | exact .of rfl) (hlo : match lo with | none => a = 0 | some y => Opv fr y (.lit (.int .i64 a)) := by first | rfl | (first | exact .un rfl (by first | assumption | exact And.left (by assumption) | exact And.left (And.left (by assumption)) | exact And.left (And.left (And.left (by assumption)))) | exact .of rfl)) (hhi : match hi with | none => c = xs.length | some y => Opv fr y (.lit (.int .i64 c)) := by first | rfl | (first | exact .un rfl (by first | assumption | exact And.left (by assumption) | exact And.left (And.left (by assumption)) | exact And.left (And.left (And.left (by assumption)))) | exact .of rfl)) (hac : a ≤ c := by first | omega | (simp only [List.length_append, List.length_cons, List.length_nil, List.length_take, List.length_drop, List.length_replicate, List.length_map, List.length_set]; omega)) (hcl : c ≤ xs.length := by first | omega | (simp only [List.length_append, List.length_cons, List.length_nil, List.length_take, List.length_drop, List.length_replicate, List.length_map, List.length_set]; omega)) (hs : ei.size = E.size := by rfl) :
    SOp P o fr H (.snap (slF E ((xs.drop a).take (c - a)))) := fun S γ w ρ h => by
  have h1 := h.get hx (by simp [ho, Op.operands])
  simp only [AV.holds] at h1
  obtain ⟨A, cp, vs, hv, hc, hr, hh, ho1⟩ := h1
  have hrun : (execOp ρ o).run P w = .ok (.value (.slice (if cp = a then A else A.map (·.add (a * E.size))) (c - a) (cp - a))) w := by
    have e2 : c ≤ cp := by omega
    cases lo with
    | none =>
      simp only at hlo
      subst hlo
      cases hi with
      | none =>
        simp only at hhi
        subst hhi
        simp [execOp, ho, hv, Instr.sliceAt, Instr.slice, run_underlying (hT.slice ht), Instr.sliceBounds, hT.size he, hs]
      | some y =>
        have hy := h.lit hhi (by simp [ho, Op.operands])
        simp [execOp, ho, hv, Instr.sliceAt, Instr.slice, run_underlying (hT.slice ht), Instr.sliceBounds, Instr.sliceBound, asIntOf, hy, hT.size he, hs, e2]
    | some z =>
      have hz := h.lit hlo (by simp [ho, Op.operands])
      cases hi with
      | none =>
        simp only at hhi
        subst hhi
        simp [execOp, ho, hv, Instr.sliceAt, Instr.slice, run_underlying (hT.slice ht), Instr.sliceBounds, Instr.sliceBound, asIntOf, hz, hT.size he, hs, hac]
      | some y =>
        have hy := h.lit hhi (by simp [ho, Op.operands])
        simp [execOp, ho, hv, Instr.sliceAt, Instr.slice, run_underlying (hT.slice ht), Instr.sliceBounds, Instr.sliceBound, asIntOf, hy, hz, hT.size he, hs, e2, hac]
  have hlen : ((xs.drop a).take (c - a)).length = c - a := by simp; omega
  refine outs hrun ?_
  simp only [AV.holds]
  refine ⟨_, cp - a, (vs.drop (a * E.size)).take ((c - a) * E.size), by rw [hlen], by rw [hlen]; omega, ?_, ?_, fun u hu => ho1 u (List.mem_of_mem_drop (List.mem_of_mem_take hu))⟩
  · intro hne
    have hne2 : vs ≠ [] := by intro e; subst e; simp at hne
    have hca : ¬ cp = a := by
      intro e
      apply hne
      have : c - a = 0 := by omega
      simp [this]
    obtain ⟨ad, rfl, hb, hcell⟩ := hr hne2
    rw [if_neg hca]
    refine ⟨_, rfl, by rw [addr_block]; exact hb, fun j u hu => ?_⟩
    rw [addr_add2]
    apply hcell
    rw [List.getElem?_take] at hu
    split at hu
    · simpa using hu
    · cases hu
  · have := AV.holdsL_take (AV.holdsL_drop hh (a * E.size)) ((c - a) * E.size)
    rwa [Enc.all_drop, Enc.all_take] at this
end
end Go.Proofs.Ytjmcbacdogjdeaa
