/- Structs that hold a struct, compared; a nil slice in a box read qs0 an empty one. Nothing of the program stands here. -/
import Derived.Test.YtgdkeafdlehlaaaDoorBe
namespace Go.Proofs.YtgdkeafdlehlaaaDoor
open Go Go.RowKit
set_option linter.unusedVariables false
set_option linter.unusedSimpArgs false
section
variable {P : Program} {T : List (Nat × TI)} {o : Oper} {fr : List (Nat × AV)} {H : List (Nat × Res)} {S : Nat → Prop} {γ : Nat → Value} {w : World}
def flat2 (P : Program) (t t2 : TypeId) (ks : List TK) : Bool :=
  (match P.underlying t with | some (.struct _) => true | _ => false) && !(P.stoodInHeld t) && !(P.eqGuardType P.depth t) && (match (P.fieldsOf t).toList with | [f, g] => tkOf P f.type == .bool && f.name != "_" && g.name != "_" && f.offset == 0 && g.offset == 1 && g.type == t2 | _ => false) && flatFields P t2 ks && (match P.info? t2 with | some i => i.size == ks.length | none => false)
theorem EqOk.len {ks : List TK} {cs ds : List AV} {r : Bool} (h : EqOk ks cs ds r) : cs.length = ks.length ∧ ds.length = ks.length := by
  induction h with
  | nil => exact ⟨rfl, rfl⟩
  | int h ih => simp [ih.1, ih.2]
  | bool h ih => simp [ih.1, ih.2]
theorem flat2_eq {t t2 : TypeId} {ks : List TK} {a b : Bool} {cs ds : List AV} {r : Bool} {xs ys : List Value} (hf : flat2 P t t2 ks = true) (h : EqOk ks cs ds r) (hx : AV.holdsL S γ w (.lit (.bool a) :: cs) xs) (hy : AV.holdsL S γ w (.lit (.bool b) :: ds) ys) (x y : Operand) (op : BinOp) :
    (eqGuard op t x y (.agg xs.toArray) (.agg ys.toArray)).run P w = .ok () w ∧ (Op.equalIn 10000 t (.agg xs.toArray) (.agg ys.toArray)).run P w = .ok (decide (a = b) && r) w := by
  unfold flat2 at hf
  simp only [Bool.and_eq_true, Bool.not_eq_true'] at hf
  obtain ⟨⟨⟨⟨⟨h1, h2⟩, h3⟩, h4⟩, h5⟩, h6⟩ := hf
  have hu : P.underlying t = some (.struct (P.fieldsOf t)) := by
    unfold Program.fieldsOf
    cases hu : P.underlying t with
    | none => simp [hu] at h1
    | some d => cases d <;> simp_all
  refine ⟨run_eqGuard_agg w op t x y _ _ h3, ?_⟩
  rw [run_equalIn_agg w 9999 t _ _ hu h2]
  simp only [AV.holdsL, AV.holds] at hx hy
  obtain ⟨u, us, rfl, rfl, hx'⟩ := hx
  obtain ⟨u', us', rfl, rfl, hy'⟩ := hy
  cases hfs : (P.fieldsOf t).toList with
  | nil => rw [hfs] at h4; simp at h4
  | cons f l1 =>
    cases l1 with
    | nil => rw [hfs] at h4; simp at h4
    | cons g l2 =>
      cases l2 with
      | cons _ _ => rw [hfs] at h4; simp at h4
      | nil =>
        rw [hfs] at h4
        simp only [Bool.and_eq_true, beq_iff_eq] at h4
        obtain ⟨⟨⟨⟨⟨f1, f2⟩, f3⟩, f4⟩, f5⟩, f6⟩ := h4
        have hund : P.underlying f.type = some .bool := by
          unfold tkOf at f1
          cases hu : P.underlying f.type with
          | none => rw [hu] at f1; cases f1
          | some d => rw [hu] at f1; cases d <;> first | rfl | exact absurd f1 (by simp)
        have hag : (isAgg f.type).run P w = .ok false w := by simp [isAgg, run_underlying hund]
        have hp1 : (part f.type (Value.bool a :: us).toArray f.offset).run P w = .ok (.bool a) w := by simp [part, hag, f4]
        have hp2 : (part f.type (Value.bool b :: us').toArray f.offset).run P w = .ok (.bool b) w := by simp [part, hag, f4]
        have hne : f.name ≠ "_" := by simpa using f2
        have hne2 : g.name ≠ "_" := by simpa using f3
        unfold flatFields at h5
        simp only [Bool.and_eq_true, beq_iff_eq, Bool.not_eq_true'] at h5
        obtain ⟨⟨⟨⟨⟨g1, g2⟩, g3⟩, g4⟩, g5⟩, g6⟩ := h5
        have hu2 : P.underlying t2 = some (.struct (P.fieldsOf t2)) := by
          unfold Program.fieldsOf
          cases hu : P.underlying t2 with
          | none => simp [hu] at g1
          | some d => cases d <;> simp_all
        obtain ⟨i, hi, hsz⟩ : ∃ i, P.info? t2 = some i ∧ i.size = ks.length := by
          cases hi : P.info? t2 with
          | none => rw [hi] at h6; cases h6
          | some i => rw [hi] at h6; exact ⟨i, rfl, by simpa using h6⟩
        have hag2 : (isAgg t2).run P w = .ok true w := by simp [isAgg, run_underlying hu2]
        have hln := h.len
        have lx := AV.holdsL_len hx'
        have ly := AV.holdsL_len hy'
        have hq1 : (part g.type (Value.bool a :: us).toArray g.offset).run P w = .ok (.agg us.toArray) w := by
          rw [f6, f5]
          simp [part, hag2, sizeOf, typeInfo, hi, hsz]
          try exact List.take_of_length_le (by omega)
        have hq2 : (part g.type (Value.bool b :: us').toArray g.offset).run P w = .ok (.agg us'.toArray) w := by
          rw [f6, f5]
          simp [part, hag2, sizeOf, typeInfo, hi, hsz]
          try exact List.take_of_length_le (by omega)
        have hin : (Op.equalIn 9999 g.type (.agg us.toArray) (.agg us'.toArray)).run P w = .ok r w := by
          rw [f6, run_equalIn_agg w 9998 t2 _ _ hu2 g2]
          exact eqFields_run (d := 9997) h _ 0 us us' g4 g5 (by rw [g6, List.range_eq_range']) (by simpa using hx') (by simpa using hy')
        simp only [Op.eqFields, hne, hne2, ne_eq, not_false_eq_true, if_true, Sem.run_bind, hp1, hp2, Result.andThen_ok, run_equalIn_bool' w 9998 f.type a b hund]
        by_cases hab : a = b
        · subst hab
          simp only [beq_self_eq_true, decide_true, Bool.true_and]
          simp
          rw [hq1]
          simp only [Result.andThen_ok]
          rw [hq2]
          simp only [Result.andThen_ok]
          rw [hin]
          cases r <;> rfl
        · have : (a == b) = false := by simpa using hab
          simp [hab, this]
theorem sop_eql_struct2 {x y : Operand} {t t' : TypeId} (t2 : TypeId) {ks : List TK} {a b : Bool} {cs ds : List AV} {r : Bool} (ho : o.op = .binOp .eql t x y t' := by rfl) (hx : Opv fr x (.agg (.lit (.bool a) :: cs)) := by exact opv_std) (hy : Opv fr y (.agg (.lit (.bool b) :: ds)) := by exact opv_std) (hf : flat2 P t t2 ks = true := by kernel_rfl) (he : EqOk ks cs ds r := by repeat (first | exact EqOk.nil | apply EqOk.int | apply EqOk.bool)) : SOp P o fr H (.lit (.bool ((decide (a = b) && r)))) := fun S γ w ρ h => by
  have h1 := h.get hx (by simp [ho, Op.operands])
  have h2 := h.get hy (by simp [ho, Op.operands])
  simp only [AV.holds] at h1 h2
  obtain ⟨xs, hxv, hx'⟩ := h1
  obtain ⟨ys, hyv, hy'⟩ := h2
  obtain ⟨g1, g2⟩ := flat2_eq hf he hx' hy' x y .eql
  refine outl ?_
  simp only [execOp, ho, hxv, hyv, Sem.run_bind, g1, Result.andThen_ok, run_eql_struct, g2, Sem.run_pure]
theorem sop_neq_struct2 {x y : Operand} {t t' : TypeId} (t2 : TypeId) {ks : List TK} {a b : Bool} {cs ds : List AV} {r : Bool} (ho : o.op = .binOp .neq t x y t' := by rfl) (hx : Opv fr x (.agg (.lit (.bool a) :: cs)) := by exact opv_std) (hy : Opv fr y (.agg (.lit (.bool b) :: ds)) := by exact opv_std) (hf : flat2 P t t2 ks = true := by kernel_rfl) (he : EqOk ks cs ds r := by repeat (first | exact EqOk.nil | apply EqOk.int | apply EqOk.bool)) : SOp P o fr H (.lit (.bool (!(decide (a = b) && r)))) := fun S γ w ρ h => by
  have h1 := h.get hx (by simp [ho, Op.operands])
  have h2 := h.get hy (by simp [ho, Op.operands])
  simp only [AV.holds] at h1 h2
  obtain ⟨xs, hxv, hx'⟩ := h1
  obtain ⟨ys, hyv, hy'⟩ := h2
  obtain ⟨g1, g2⟩ := flat2_eq hf he hx' hy' x y .neq
  refine outl ?_
  simp only [execOp, ho, hxv, hyv, Sem.run_bind, g1, Result.andThen_ok, run_neq_struct, g2, Sem.run_pure]
theorem con_boxnil {f : FuncId} {args : List AV} {Hin : List (Nat × Res)} {out : AV} {α : Type} (E : Enc α) {cs : List AV} (hC : Con P f args Hin fun a h => a = out ∧ h = [(0, .box (.lit (.slice none 0 0) :: cs))]) : Con P f args Hin fun a h => a = out ∧ h = [(0, .box (.snap (slF E []) :: cs))] := fun S γ w vs hst hargs => by
  refine (hC S γ w vs hst hargs).mono ?_
  rintro en w' ⟨v, out0, Hout, S', γ', rfl, ⟨rfl, rfl⟩, hp⟩
  have hk : ∀ j r, look [((0 : Nat), Res.box (.snap (slF E []) :: cs))] j = some r → j = 0 ∧ r = .box (.snap (slF E []) :: cs) := fun j r h => by
    rw [look_cons] at h
    split at h
    · rename_i e; injection h with h; exact ⟨e.symm, h.symm⟩
    · simp [look] at h
  have h0 : look [((0 : Nat), Res.box (.lit (.slice none 0 0) :: cs))] 0 = some (.box (.lit (.slice none 0 0) :: cs)) := by rw [look_cons, if_pos rfl]
  refine ⟨v, out0, _, S', γ', rfl, ⟨rfl, rfl⟩, ⟨hp.keep, hp.up, hp.val, ⟨fun j r h => ?_, fun i j ri rj b hi hj hbi hbj => ?_, fun j r b h => ?_, hp.st.sz, hp.st.one⟩, fun j r b h => ?_, hp.same⟩⟩
  · obtain ⟨rfl, rfl⟩ := hk j r h
    obtain ⟨g, arr, e, h1, h2, h3⟩ := hp.st.res 0 _ h0
    refine ⟨g, arr, e, h1, h2, ?_⟩
    simp only [AV.holdsL, AV.holds] at h3 ⊢
    obtain ⟨u, us, e1, e2, h4⟩ := h3
    refine ⟨u, us, e1, ?_, h4⟩
    subst e2
    exact ⟨none, 0, [], rfl, Nat.le_refl _, fun hne => absurd rfl hne, by simp [Enc.all, AV.holdsL], by simp⟩
  · rw [(hk i ri hi).1, (hk j rj hj).1]
  · obtain ⟨rfl, rfl⟩ := hk j r h
    exact hp.st.live 0 _ b h0
  · obtain ⟨rfl, rfl⟩ := hk j r h
    exact hp.own 0 _ b h0
end
end Go.Proofs.YtgdkeafdlehlaaaDoor
