/- Errors, pointers that may be nil, slices that are made, calls that hand resources on, answers known less exactly. Nothing of the program stands here. -/
import Derived.Test.YtjmcbacdogjdeaaAk
import Derived.Test.YtjmcbacdogjdeaaAl
import Derived.Laws.MakeOwn
namespace Go.Proofs.Ytjmcbacdogjdeaa
open Go Go.RowKit
set_option linter.unusedVariables false
set_option linter.unusedSimpArgs false
theorem bool_ft {x : Bool} (h : x = true) (h2 : x = false) : False := by rw [h] at h2; cases h2
/-- an error: none, or one that bears a number other than 0 -/
def errF (tp : TypeId) (c : Int) : SFact where
  holds S w v := (c = 0 ∧ v = .nilIface) ∨ (c ≠ 0 ∧ ∃ p, v = .iface tp p ∧ (placeF [.lit (.int .i64 c)]).holds S w p)
  mono := by
    rintro S S' w w' v (⟨h, rfl⟩ | ⟨h, p, rfl, hp⟩) hs hw
    · exact .inl ⟨h, rfl⟩
    · exact .inr ⟨h, p, rfl, (placeF _).mono hp hs hw⟩
  one := by
    rintro S w v (⟨_, rfl⟩ | ⟨_, p, rfl, _⟩) <;> rfl
section
variable {P : Program} {T : List (Nat × TI)} {o : Oper} {fr : List (Nat × AV)} {H : List (Nat × Res)} {c : Ctx} {n : Nat} {Q : AQ} {ops : Array Oper} {rest : List Oper}
variable {S : Nat → Prop} {γ : Nat → Value} {w : World} {x y : Operand} {t t' tp : TypeId} {k : Int} {s b : Nat}
theorem TTOk.iface (h : TTOk P T) (ht : look T t = some ⟨.iface, s, b⟩) : ∃ ms, P.underlying t = some (.interface ms) := by
  obtain ⟨hk, _⟩ := h.ok t _ ht
  unfold tkOf at hk
  cases hu : P.underlying t with
  | none => rw [hu] at hk; cases hk
  | some d => rw [hu] at hk; cases d <;> first | exact ⟨_, rfl⟩ | exact absurd hk (by simp)
theorem TTOk.ptr {e : TypeId} (h : TTOk P T) (ht : look T t = some ⟨.ptr e, s, b⟩) : P.underlying t = some (.pointer e) := by
  obtain ⟨hk, _⟩ := h.ok t _ ht
  unfold tkOf at hk
  cases hu : P.underlying t with
  | none => rw [hu] at hk; cases hk
  | some d => rw [hu] at hk; cases d <;> first | (simp at hk; subst hk; rfl) | exact absurd hk (by simp)
theorem sop_eql_err (ho : o.op = .binOp .eql t x (.const .nilIface) t' := by rfl) (hT : TTOk P T := by assumption) (ht : look T t = some ⟨.iface, s, b⟩ := by rfl) (hx : Opv fr x (.snap (errF tp k)) := by first | exact .un rfl (by first | assumption | exact And.left (by assumption) | exact And.left (And.left (by assumption)) | exact And.left (And.left (And.left (by assumption)))) | exact .of rfl) : SOp P o fr H (.lit (.bool (decide (k = 0)))) := fun S γ w ρ h => by
  have h1 := h.get hx (by simp [ho, Op.operands])
  have hy : ρ (.const .nilIface) = .nilIface := h.const _
  obtain ⟨ms, hu⟩ := hT.iface ht
  simp only [AV.holds] at h1
  refine outl ?_
  rcases h1 with ⟨hc, hv⟩ | ⟨hc, p, hv, _⟩
  · simp [execOp, ho, hv, hy, eqGuard, go_sem, hu, hc]
  · simp [execOp, ho, hv, hy, eqGuard, go_sem, hu, hc]
theorem sop_neq_err (ho : o.op = .binOp .neq t x (.const .nilIface) t' := by rfl) (hT : TTOk P T := by assumption) (ht : look T t = some ⟨.iface, s, b⟩ := by rfl) (hx : Opv fr x (.snap (errF tp k)) := by first | exact .un rfl (by first | assumption | exact And.left (by assumption) | exact And.left (And.left (by assumption)) | exact And.left (And.left (And.left (by assumption)))) | exact .of rfl) : SOp P o fr H (.lit (.bool (decide (k ≠ 0)))) := fun S γ w ρ h => by
  have h1 := h.get hx (by simp [ho, Op.operands])
  have hy : ρ (.const .nilIface) = .nilIface := h.const _
  obtain ⟨ms, hu⟩ := hT.iface ht
  simp only [AV.holds] at h1
  refine outl ?_
  rcases h1 with ⟨hc, hv⟩ | ⟨hc, p, hv, _⟩
  · simp [execOp, ho, hv, hy, eqGuard, go_sem, hu, hc]
  · simp [execOp, ho, hv, hy, eqGuard, go_sem, hu, hc]
theorem sop_eql_ifnil (ho : o.op = .binOp .eql t x (.const .nilIface) t' := by rfl) (hT : TTOk P T := by assumption) (ht : look T t = some ⟨.iface, s, b⟩ := by rfl) (hx : Opv fr x (.lit .nilIface) := by first | exact .un rfl (by first | assumption | exact And.left (by assumption) | exact And.left (And.left (by assumption)) | exact And.left (And.left (And.left (by assumption)))) | exact .of rfl) : SOp P o fr H (.lit (.bool true)) := fun S γ w ρ h => by
  have hv := h.lit hx (by simp [ho, Op.operands])
  have hy : ρ (.const .nilIface) = .nilIface := h.const _
  obtain ⟨ms, hu⟩ := hT.iface ht
  refine outl ?_
  simp [execOp, ho, hv, hy, eqGuard, go_sem, hu]
theorem sop_neq_ifnil (ho : o.op = .binOp .neq t x (.const .nilIface) t' := by rfl) (hT : TTOk P T := by assumption) (ht : look T t = some ⟨.iface, s, b⟩ := by rfl) (hx : Opv fr x (.lit .nilIface) := by first | exact .un rfl (by first | assumption | exact And.left (by assumption) | exact And.left (And.left (by assumption)) | exact And.left (And.left (And.left (by assumption)))) | exact .of rfl) : SOp P o fr H (.lit (.bool false)) := fun S γ w ρ h => by
  have hv := h.lit hx (by simp [ho, Op.operands])
  have hy : ρ (.const .nilIface) = .nilIface := h.const _
  obtain ⟨ms, hu⟩ := hT.iface ht
  refine outl ?_
  simp [execOp, ho, hv, hy, eqGuard, go_sem, hu]
/-- what the error is made of -/
theorem sop_assert_err {e : TypeId} (ho : o.op = .typeAssert x t tp true := by rfl) (hT : TTOk P T := by assumption) (ht : look T tp = some ⟨.ptr e, s, b⟩ := by rfl) (hx : Opv fr x (.snap (errF tp k)) := by first | exact .un rfl (by first | assumption | exact And.left (by assumption) | exact And.left (And.left (by assumption)) | exact And.left (And.left (And.left (by assumption)))) | exact .of rfl) (hk : k ≠ 0 := by first | assumption | omega) : SOp P o fr H (.tup [.snap (placeF [.lit (.int .i64 k)]), .lit (.bool true)]) := fun S γ w ρ h => by
  have h1 := h.get hx (by simp [ho, Op.operands])
  simp only [AV.holds] at h1
  rcases h1 with ⟨hc, hv⟩ | ⟨hc, p, hv, hp⟩
  · exact absurd hc hk
  · refine outs (v := .tuple #[p, .bool true]) ?_ ?_
    · simp [execOp, ho, hv, Instr.typeAssert, run_underlying (hT.ptr ht)]
    · simp only [AV.holds, AV.holdsL]
      exact ⟨[p, .bool true], rfl, p, [.bool true], rfl, hp, .bool true, [], rfl, rfl, rfl⟩
theorem sop_mkErr {e : TypeId} {cs : List AV} (ho : o.op = .makeInterface tp x := by rfl) (hT : TTOk P T := by assumption) (ht : look T tp = some ⟨.ptr e, s, b⟩ := by rfl) (hx : Opv fr x (.snap (placeF (.lit (.int .i64 k) :: cs))) := by first | exact .un rfl (by first | assumption | exact And.left (by assumption) | exact And.left (And.left (by assumption)) | exact And.left (And.left (And.left (by assumption)))) | exact .of rfl) (hk : k ≠ 0 := by first | assumption | omega) : SOp P o fr H (.snap (errF tp k)) := fun S γ w ρ h => by
  have h1 := h.get hx (by simp [ho, Op.operands])
  simp only [AV.holds] at h1
  refine outs (v := .iface tp (ρ x)) ?_ ?_
  · simp [execOp, ho, Instr.makeInterface, run_underlying (hT.ptr ht)]
  · obtain ⟨ad, vs, hv, hr, hh⟩ := h1
    simp only [AV.holdsL] at hh
    obtain ⟨v, vs', rfl, hc, _⟩ := hh
    simp only [AV.holds]
    refine .inr ⟨hk, _, rfl, ad, [v], hv, ?_, ?_⟩
    · intro hn
      obtain ⟨ad', he, hb, hcell⟩ := hr (by simp)
      refine ⟨ad', he, hb, fun j u hu => hcell j u ?_⟩
      cases j with
      | zero => simpa using hu
      | succ j => simp at hu
    · simp only [AV.holdsL]
      exact ⟨v, [], rfl, hc, rfl⟩
theorem ao_mkErr {e : TypeId} {cs : List AV} {d tm j : Nat} (hg : o.guard = none := by rfl) (hd : o.dst = some d := by rfl) (hn : Nat.blt d n = true := by rfl) (ho : o.op = .makeInterface tp (.tmp tm) := by rfl) (hT : TTOk P T := by assumption) (ht : look T tp = some ⟨.ptr e, s, b⟩ := by rfl) (hx : look fr tm = some (.ptr j 0) := by rfl) (hj : look H j = some (.box (.lit (.int .i64 k) :: cs)) := by rfl) (hp : AV.usesL (fun _ => false) (.lit (.int .i64 k) :: cs) = true := by rfl)
    (hx2 : look (frzB j (.lit (.int .i64 k) :: cs) fr) tm = some (.snap (placeF (.lit (.int .i64 k) :: cs))) := by rfl) (hk : k ≠ 0 := by first | assumption | omega)
    (next : AOps P c n ops rest Q ((d, .snap (errF tp k)) :: frzB j (.lit (.int .i64 k) :: cs) fr) (dropH (one1 j) H)) : AOps P c n ops (o :: rest) Q fr H :=
  ao_freezeBox j hj hp (ao_op hd hn (.plain hg (sop_mkErr ho hT ht (.of hx2) hk)) next)
/-- pointers and nil -/
theorem sop_eqnil_ptr {e : TypeId} {j off : Nat} (ho : o.op = .binOp .eql t x (.const (.pointer none)) t' := by rfl) (hT : TTOk P T := by assumption) (ht : look T t = some ⟨.ptr e, s, b⟩ := by rfl) (hx : Opv fr x (.ptr j off) := by first | exact .un rfl (by first | assumption | exact And.left (by assumption) | exact And.left (And.left (by assumption)) | exact And.left (And.left (And.left (by assumption)))) | exact .of rfl) : SOp P o fr H (.lit (.bool false)) := fun S γ w ρ h => by
  have h1 := h.get hx (by simp [ho, Op.operands])
  have hy : ρ (.const (.pointer none)) = .pointer none := h.const _
  simp only [AV.holds] at h1
  obtain ⟨g, _, hv⟩ := h1
  refine outl ?_
  simp [execOp, ho, hv, hy, eqGuard, go_sem, hT.ptr ht]
theorem sop_eqnil_place {e : TypeId} {cs : List AV} (ho : o.op = .binOp .eql t x (.const (.pointer none)) t' := by rfl) (hT : TTOk P T := by assumption) (ht : look T t = some ⟨.ptr e, s, b⟩ := by rfl) (hx : Opv fr x (.snap (placeF cs)) := by first | exact .un rfl (by first | assumption | exact And.left (by assumption) | exact And.left (And.left (by assumption)) | exact And.left (And.left (And.left (by assumption)))) | exact .of rfl) : SOp P o fr H (.lit (.bool false)) := fun S γ w ρ h => by
  have h1 := h.get hx (by simp [ho, Op.operands])
  have hy : ρ (.const (.pointer none)) = .pointer none := h.const _
  simp only [AV.holds] at h1
  obtain ⟨g, _, hv, _⟩ := h1
  refine outl ?_
  simp [execOp, ho, hv, hy, eqGuard, go_sem, hT.ptr ht]
theorem sop_eqnil_nil {e : TypeId} (ho : o.op = .binOp .eql t x (.const (.pointer none)) t' := by rfl) (hT : TTOk P T := by assumption) (ht : look T t = some ⟨.ptr e, s, b⟩ := by rfl) (hx : Opv fr x (.lit (.pointer none)) := by first | exact .un rfl (by first | assumption | exact And.left (by assumption) | exact And.left (And.left (by assumption)) | exact And.left (And.left (And.left (by assumption)))) | exact .of rfl) : SOp P o fr H (.lit (.bool true)) := fun S γ w ρ h => by
  have hv := h.lit hx (by simp [ho, Op.operands])
  have hy : ρ (.const (.pointer none)) = .pointer none := h.const _
  refine outl ?_
  simp [execOp, ho, hv, hy, eqGuard, go_sem, hT.ptr ht]
theorem sop_nilCheck_ptr {j off : Nat} (ho : o.op = .nilCheck x := by rfl) (hx : Opv fr x (.ptr j off) := by first | exact .un rfl (by first | assumption | exact And.left (by assumption) | exact And.left (And.left (by assumption)) | exact And.left (And.left (And.left (by assumption)))) | exact .of rfl) : SOp P o fr H (.ptr j off) := fun S γ w ρ h => by
  have h1 := h.get hx (by simp [ho, Op.operands])
  refine outs (v := ρ x) ?_ h1
  simp only [AV.holds] at h1
  obtain ⟨g, _, hv⟩ := h1
  simp [execOp, ho, hv]
theorem sop_nilCheck_place {cs : List AV} (ho : o.op = .nilCheck x := by rfl) (hx : Opv fr x (.snap (placeF cs)) := by first | exact .un rfl (by first | assumption | exact And.left (by assumption) | exact And.left (And.left (by assumption)) | exact And.left (And.left (And.left (by assumption)))) | exact .of rfl) : SOp P o fr H (.snap (placeF cs)) := fun S γ w ρ h => by
  have h1 := h.get hx (by simp [ho, Op.operands])
  refine outs (v := ρ x) ?_ h1
  simp only [AV.holds] at h1
  obtain ⟨g, _, hv, _⟩ := h1
  simp [execOp, ho, hv]
/-- a function's answer, known less exactly -/
inductive Wk : AV → AV → Prop
  | refl (a : AV) : Wk a a
  | nilErr (tp : TypeId) : Wk (.lit .nilIface) (.snap (errF tp 0))
  | err {tp : TypeId} {a b : Int} (h : a = b) : Wk (.snap (errF tp a)) (.snap (errF tp b))
  | nilSl {α : Type} (E : Enc α) {A : Option Addr} {xs : List α} (h : xs = []) : Wk (.lit (.slice A 0 0)) (.snap (slF E xs))
  | sl {α : Type} {E : Enc α} {xs ys : List α} (h : xs = ys) : Wk (.snap (slF E xs)) (.snap (slF E ys))
  | int {k : IntKind} {a b : Int} (h : a = b) : Wk (.lit (.int k a)) (.lit (.int k b))
  | bool {a b : Bool} (h : a = b) : Wk (.lit (.bool a)) (.lit (.bool b))
  | any (a : AV) : Wk a .any
inductive WkL : List AV → List AV → Prop
  | nil : WkL [] []
  | cons {a b : AV} {as bs : List AV} (h : Wk a b) (hr : WkL as bs) : WkL (a :: as) (b :: bs)
inductive WkT : AV → AV → Prop
  | one {a b : AV} (h : Wk a b) : WkT a b
  | tup {as bs : List AV} (h : WkL as bs) : WkT (.tup as) (.tup bs)
theorem Wk.holds {a b : AV} {v : Value} (h : Wk a b) (ha : a.holds S γ w v) : b.holds S γ w v := by
  cases h with
  | refl => exact ha
  | nilErr tp => simp only [AV.holds] at ha ⊢; exact .inl ⟨rfl, ha⟩
  | err h => subst h; exact ha
  | @nilSl α E A xs h =>
    subst h
    simp only [AV.holds] at ha ⊢
    exact ⟨A, 0, [], ha, Nat.le_refl _, fun h => absurd rfl h, by simp [Enc.all, AV.holdsL], by simp⟩
  | sl h => subst h; exact ha
  | int h => subst h; exact ha
  | bool h => subst h; exact ha
  | any => simp [AV.holds]
theorem WkL.holds {as bs : List AV} {vs : List Value} (h : WkL as bs) (ha : AV.holdsL S γ w as vs) : AV.holdsL S γ w bs vs := by
  induction h generalizing vs with
  | nil => exact ha
  | cons h _ ih =>
    simp only [AV.holdsL] at ha ⊢
    obtain ⟨v, vs', rfl, h1, h2⟩ := ha
    exact ⟨v, vs', rfl, h.holds h1, ih h2⟩
theorem WkT.holds {a b : AV} {v : Value} (h : WkT a b) (ha : a.holds S γ w v) : b.holds S γ w v := by
  cases h with
  | one h => exact h.holds ha
  | tup h =>
    simp only [AV.holds] at ha ⊢
    obtain ⟨vs, rfl, h1⟩ := ha
    exact ⟨vs, rfl, h.holds h1⟩
theorem con_wk {f : FuncId} {args : List AV} {Hin : List (Nat × Res)} {post post' : AV → List (Nat × Res) → Prop} (h : Con P f args Hin post) (hw : ∀ a hz, post a hz → ∃ a', WkT a a' ∧ post' a' hz) : Con P f args Hin post' := fun S γ w vs hst hargs => by
  refine (h S γ w vs hst hargs).mono ?_
  rintro e w' ⟨v, out, Hout, S', γ', rfl, hpost, hp⟩
  obtain ⟨a', hwk, hp'⟩ := hw out Hout hpost
  exact ⟨v, a', Hout, S', γ', rfl, hp', hp.keep, hp.up, hwk.holds hp.val, hp.st, hp.own, hp.same⟩
/-- a nil slice that is handed back becomes one's own -/
theorem a_ret_own (x e : Nat) {α : Type} (E : Enc α) (k : Nat) {A : Option Addr} (hx : look fr x = some (.lit (.slice A 0 0)) := by rfl) (hkJ : Nat.ble 1000 k = true := by rfl) (hu : usesH (one1 k) (dropH (one1 k) H) = true := by rfl)
    (h : Q .ret ((x, .own k) :: markF (one1 k) fr) ((k, .own e E []) :: dropH (one1 k) H)) : ACode P c n .ret Q fr H :=
  a_ownNil x e E k hx hkJ hu (a_ret h)
/-- resources that a call is handed -/
def HinOk (H : List (Nat × Res)) (ρ : Nat → Nat) : List (Nat × Res) → Prop
  | [] => True
  | p :: r => look H (ρ p.1) = some (p.2.ren ρ) ∧ HinOk H ρ r
theorem HinOk.at {H : List (Nat × Res)} {ρ : Nat → Nat} : ∀ {Hin : List (Nat × Res)}, HinOk H ρ Hin → ∀ j r, look Hin j = some r → look H (ρ j) = some (r.ren ρ)
  | [], _, j, r, h => by simp [look] at h
  | p :: q, hh, j, r, h => by
    obtain ⟨i, s⟩ := p
    rw [look_cons] at h
    split at h
    · rename_i e
      subst e
      injection h with h
      subst h
      exact hh.1
    · exact HinOk.at hh.2 j r h
def renC (L : List (Nat × Nat)) (d : Nat) (j : Nat) : Nat := match L with
  | [] => d + 1000 * (j + 1)
  | p :: r => match Nat.beq p.1 j with
    | true => p.2
    | false => renC r d j
def flatR : List (Nat × Res) → Prop
  | [] => True
  | p :: r => p.2.isFlat ∧ flatR r
theorem flatR_at : ∀ {L : List (Nat × Res)}, flatR L → ∀ p ∈ L, p.2.isFlat
  | p :: r, h, x, hx => by
    rcases List.mem_cons.1 hx with rfl | hx
    · exact h.1
    · exact flatR_at h.2 x hx
/-- a call that hands resources on, and makes some -/
theorem ao_callG (L : List (Nat × Nat)) {B : Bool} {f : FuncId} {zs : Array Operand} {tys : Array TypeId} {as : List AV} {Hin Hout : List (Nat × Res)} {out : AV} {d : Nat} (hC : Con P f as Hin fun a h => a = out ∧ h = Hout) (hg : o.guard = none := by rfl) (hd : o.dst = some d := by rfl) (hn : Nat.blt d n = true := by rfl)
    (ho : o.op = .call { callee := .value (.func f), args := zs, argTypes := tys } := by rfl) (hf : entersB P f = true := by kernel_rfl) (hargs : ArgsOk B fr H zs.toList (AV.renL (renC L d) as) := by repeat (first | exact .nil | refine .cons (by first | exact .un rfl (by first | assumption | exact And.left (by assumption) | exact And.left (And.left (by assumption)) | exact And.left (And.left (And.left (by assumption)))) | exact .of rfl) ?_ | refine .lend rfl (by first | exact .un rfl (by first | assumption | exact And.left (by assumption) | exact And.left (And.left (by assumption)) | exact And.left (And.left (And.left (by assumption)))) | exact .of rfl) (by rfl) ?_ | refine .nilS (by first | exact .un rfl (by first | assumption | exact And.left (by assumption) | exact And.left (And.left (by assumption)) | exact And.left (And.left (And.left (by assumption)))) | exact .of rfl) ?_))
    (hin : HinOk H (renC L d) Hin := by repeat (first | exact trivial | refine ⟨rfl, ?_⟩)) (hinj : injB (renC L d) (idsOf Hin) = true := by rfl) (hlend : B = true → Hin = [] := by first | (intro h; cases h; done) | (intro _; rfl))
    (hok : callOk (renC L d) out Hin Hout H = true := by rfl) (hB : B = false ∨ (out.noS = true ∧ flatR Hout) := by first | exact .inl rfl | exact .inr ⟨rfl, by repeat (first | exact trivial | refine ⟨by first | (intro _; rfl) | rfl, ?_⟩)⟩)
    (next : AOps P c n ops rest Q ((d, out.ren (renC L d)) :: markF (anyId (renC L d) (freshIds Hin Hout)) fr) (renH (renC L d) Hout ++ dropH (anyId (renC L d) (idsOf Hin ++ idsOf Hout)) H)) : AOps P c n ops (o :: rest) Q fr H := by
  refine ao_call (B := B) hg hd hn ho hf hC (renC L d) hargs (fun j r h => hin.at j r h) hinj hlend ?_
  rintro out' Hout' ⟨rfl, rfl⟩
  exact ⟨hok, hB.imp id fun h => ⟨h.1, flatR_at h.2⟩, next⟩
theorem ao_callR (L : List (Nat × Nat)) {f : FuncId} {zs : Array Operand} {tys : Array TypeId} {as : List AV} {Hin Hout : List (Nat × Res)} {out : AV} {d : Nat} (hC : Con P f as Hin fun a h => a = out ∧ h = Hout) (hg : o.guard = none := by rfl) (hd : o.dst = some d := by rfl) (hn : Nat.blt d n = true := by rfl)
    (ho : o.op = .call { callee := .value (.func f), args := zs, argTypes := tys } := by rfl) (hf : entersB P f = true := by kernel_rfl) (hargs : ArgsOk false fr H zs.toList (AV.renL (renC L d) as) := by repeat (first | exact .nil | refine .cons (by first | exact .un rfl (by first | assumption | exact And.left (by assumption) | exact And.left (And.left (by assumption)) | exact And.left (And.left (And.left (by assumption)))) | exact .of rfl) ?_ | refine .lend rfl (by first | exact .un rfl (by first | assumption | exact And.left (by assumption) | exact And.left (And.left (by assumption)) | exact And.left (And.left (And.left (by assumption)))) | exact .of rfl) (by rfl) ?_ | refine .nilS (by first | exact .un rfl (by first | assumption | exact And.left (by assumption) | exact And.left (And.left (by assumption)) | exact And.left (And.left (And.left (by assumption)))) | exact .of rfl) ?_))
    (hin : HinOk H (renC L d) Hin := by repeat (first | exact trivial | refine ⟨rfl, ?_⟩)) (hinj : injB (renC L d) (idsOf Hin) = true := by rfl)
    (hok : callOk (renC L d) out Hin Hout H = true := by rfl)
    (next : AOps P c n ops rest Q ((d, out.ren (renC L d)) :: markF (anyId (renC L d) (freshIds Hin Hout)) fr) (renH (renC L d) Hout ++ dropH (anyId (renC L d) (idsOf Hin ++ idsOf Hout)) H)) : AOps P c n ops (o :: rest) Q fr H :=
  ao_callG (B := false) L hC hg hd hn ho hf hargs hin hinj (fun h => by cases h) hok (.inl rfl) next
theorem ao_callL (L : List (Nat × Nat)) {f : FuncId} {zs : Array Operand} {tys : Array TypeId} {as : List AV} {Hout : List (Nat × Res)} {out : AV} {d : Nat} (hC : Con P f as [] fun a h => a = out ∧ h = Hout) (hg : o.guard = none := by rfl) (hd : o.dst = some d := by rfl) (hn : Nat.blt d n = true := by rfl)
    (ho : o.op = .call { callee := .value (.func f), args := zs, argTypes := tys } := by rfl) (hf : entersB P f = true := by kernel_rfl) (hargs : ArgsOk true fr H zs.toList (AV.renL (renC L d) as) := by repeat (first | exact .nil | refine .cons (by first | exact .un rfl (by first | assumption | exact And.left (by assumption) | exact And.left (And.left (by assumption)) | exact And.left (And.left (And.left (by assumption)))) | exact .of rfl) ?_ | refine .lend rfl (by first | exact .un rfl (by first | assumption | exact And.left (by assumption) | exact And.left (And.left (by assumption)) | exact And.left (And.left (And.left (by assumption)))) | exact .of rfl) (by rfl) ?_ | refine .nilS (by first | exact .un rfl (by first | assumption | exact And.left (by assumption) | exact And.left (And.left (by assumption)) | exact And.left (And.left (And.left (by assumption)))) | exact .of rfl) ?_))
    (hok : callOk (renC L d) out [] Hout H = true := by rfl) (hB : out.noS = true := by rfl) (hB2 : flatR Hout := by repeat (first | exact trivial | refine ⟨by first | (intro _; rfl) | rfl, ?_⟩))
    (next : AOps P c n ops rest Q ((d, out.ren (renC L d)) :: markF (anyId (renC L d) (freshIds [] Hout)) fr) (renH (renC L d) Hout ++ dropH (anyId (renC L d) (idsOf [] ++ idsOf Hout)) H)) : AOps P c n ops (o :: rest) Q fr H :=
  ao_callG (B := true) L hC hg hd hn ho hf hargs trivial rfl (fun _ => rfl) hok (.inr ⟨hB, hB2⟩) next
end
end Go.Proofs.Ytjmcbacdogjdeaa
