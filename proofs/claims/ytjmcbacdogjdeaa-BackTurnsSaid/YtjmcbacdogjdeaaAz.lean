/- Arrays of one's own, by numbers that are not known; picks that are known. Nothing of the program stands here. -/
import Derived.Test.YtjmcbacdogjdeaaAy
namespace Go.Proofs.Ytjmcbacdogjdeaa
open Go Go.RowKit
set_option linter.unusedVariables false
set_option linter.unusedSimpArgs false
section
variable {P : Program} {T : List (Nat × TI)} {o : Oper} {fr : List (Nat × AV)} {H : List (Nat × Res)} {c : Ctx} {n : Nat} {Q : AQ} {ops : Array Oper} {rest : List Oper}
variable {S : Nat → Prop} {γ : Nat → Value} {w : World} {x y : Operand} {t t' : TypeId} {s b : Nat}
theorem ao_storeP {x y : Operand} {t j off : Nat} {ti : TI} {cs ds : List AV} {a : AV} (hg : o.guard = none := by rfl) (hd : o.dst = none := by rfl) (ho : o.op = .store t x y := by rfl) (hT : TTOk P T := by assumption) (ht : look T t = some ti := by rfl) (hx : Opv fr x (.ptr j off) := by first | exact .un rfl (by first | assumption | exact And.left (by assumption) | exact And.left (And.left (by assumption)) | exact And.left (And.left (And.left (by assumption)))) | exact .of rfl) (hj : look H j = some (.box cs) := by rfl)
    (hy : Opv fr y a := by first | exact .un rfl (by first | assumption | exact And.left (by assumption) | exact And.left (And.left (by assumption)) | exact And.left (And.left (And.left (by assumption)))) | exact .of rfl) (hc : cellsOf a = some ds := by rfl) (h1 : AV.allOneL ds = true := by rfl) (hl : Nat.beq ds.length ti.size = true := by rfl) (hb' : off + ti.size ≤ cs.length)
    (next : AOps P c n ops rest Q fr ((j, .box (setAll cs off ds)) :: dropH (one1 j) H)) : AOps P c n ops (o :: rest) Q fr H := fun S γ tmps w hr => by
  refine ao_plain hg ?_
  have env := hr.env (ds := []) (fun _ => True)
  have hxv := env.get hx trivial
  have hyv := env.get hy trivial
  simp only [AV.holds] at hxv
  obtain ⟨g, hg', hxv⟩ := hxv
  obtain ⟨arr, e, hh, hL⟩ := box_cell hr.st hj hg'
  have hcs := cellsOf_holds hr.st.one hc hyv
  have hl' : ds.length = ti.size := Nat.eq_of_beq_eq_true hl
  have hlv := AV.holdsL_len hcs
  have hla := AV.holdsL_len hL
  obtain ⟨w', h2, h3, h4, h5⟩ := storeCells_run (P := P) (off := off) (Act.eval ⟨tmps, []⟩ y).cells.toList 0 arr w hh (allOne_of (hγ := hr.st.one) h1 hcs) (by simp only [Array.length_toList] at hla; omega)
  have hrun : (execOp (Act.eval ⟨tmps, []⟩) o).run P w = .ok .skip w' := by
    have hsz : (Act.eval ⟨tmps, []⟩ y).cells.size = ti.size := by
      rw [← Array.length_toList, hlv, hl']
    simp only [execOp, ho, Instr.storeAt, hxv, Instr.sureAddr, storeVar, Sem.run_bind, Sem.run_pure, Result.andThen_ok, hT.size ht, hsz, ne_eq, not_true_eq_false, if_false, h2]
  rw [hrun]
  have hput : (Act.put ⟨tmps, []⟩ o.dst undef) = ⟨tmps, []⟩ := by rw [hd]; rfl
  show wpList P ops (lift c n Q) rest (Act.put ⟨tmps, []⟩ o.dst undef) w'
  rw [hput]
  obtain ⟨g', arr', e', hv, hh', _⟩ := hr.st.res j _ hj
  have hgg : g' = g := by rw [hv] at hg'; simpa [gof] using hg'
  subst hgg
  have hrb : rblk (γ j) = some g' := by rw [hv]; rfl
  refine next S γ tmps w' (hr.same1 j hj ⟨h3.os, h3.tape, h3.output, h3.size, fun b hb hn => h3.block b hb (fun e => hn (by rw [hrb, e]))⟩ ⟨g', _, e, hv, h4, ?_⟩)
  have hsame : Same S w w' := fun b hs => h3.block b (hr.st.sz b hs) (fun e => by subst e; exact hr.st.live j _ b hj hrb hs)
  have := holdsL_setAll (S := S) (γ := γ) (w := w) off hcs hL
  simp only [Nat.add_zero]
  exact AV.extL (fun _ h => h) hsame (by simpa using this)


theorem TTOk.array {e : TypeId} {nn : Nat} (h : TTOk P T) (ht : look T t = some ⟨.array nn e, s, b⟩) : P.underlying t = some (.array nn e) := by
  obtain ⟨hk, _⟩ := h.ok t _ ht
  unfold tkOf at hk
  cases hu : P.underlying t with
  | none => rw [hu] at hk; cases hk
  | some d => rw [hu] at hk; cases d <;> first | (simp at hk; obtain ⟨rfl, rfl⟩ := hk; rfl) | exact absurd hk (by simp)
theorem sop_index_arr {e : TypeId} {nn j off : Nat} {ei : TI} {m : Int} {kd : IntKind} (ho : o.op = .indexAddr t x y := by rfl) (hT : TTOk P T := by assumption) (ht : look T t = some ⟨.array nn e, s, b⟩ := by rfl) (he : look T e = some ei := by rfl)
    (hx : Opv fr x (.ptr j off) := by first | exact .un rfl (by first | assumption | exact And.left (by assumption) | exact And.left (And.left (by assumption)) | exact And.left (And.left (And.left (by assumption)))) | exact .of rfl) (hy : Opv fr y (.lit (.int kd m)) := by first | exact .un rfl (by first | assumption | exact And.left (by assumption) | exact And.left (And.left (by assumption)) | exact And.left (And.left (And.left (by assumption)))) | exact .of rfl) (h0 : 0 ≤ m := by omega) (hk : m < (nn : Int) := by omega) : SOp P o fr H (.ptr j (off + m.toNat * ei.size)) := fun S γ w ρ h => by
  have h1 := h.get hx (by simp [ho, Op.operands])
  have h2 := h.lit hy (by simp [ho, Op.operands])
  simp only [AV.holds] at h1
  obtain ⟨g, hg, hv⟩ := h1
  refine outs (v := .pointer (some ⟨g, off + m.toNat * ei.size, none⟩)) ?_ (by simp only [AV.holds]; exact ⟨g, hg, rfl⟩)
  simp [execOp, ho, Instr.indexAt, h2, hv, asIntOf, run_underlying (hT.array ht), Instr.sureAddr, h0, hk, hT.size he, addr_add_ne]
theorem all_one_get {α : Type} [Inhabited α] {E : Enc α} {xs : List α} {k : Nat} {d : AV} (hs : E.size = 1) (hk : k < xs.length) (hd : E.cells (nth xs k) = [d]) : (E.all xs)[k]? = some d := by
  have h1 := E.all_at xs k hk
  rw [hs, Nat.mul_one] at h1
  have h2 : nth xs k = xs[k] := by simp [nth, hk]
  rw [h2] at hd
  rw [hd] at h1
  have : ((E.all xs).drop k)[0]? = some d := by rw [h1]; rfl
  simpa using this
theorem all_one_set {α : Type} [Inhabited α] {E : Enc α} (hs : E.size = 1) {x' : α} {d : AV} (hx : E.cells x' = [d]) : ∀ (xs : List α) (k : Nat), k < xs.length → (E.all xs).set k d = E.all (xs.set k x')
  | [], k, h => by simp at h
  | a :: xs, 0, _ => by
    have hl := E.len a
    rw [hs] at hl
    obtain ⟨u, hu⟩ := List.length_eq_one_iff.1 hl
    have e1 : E.all (a :: xs) = E.cells a ++ E.all xs := rfl
    have e2 : E.all ((a :: xs).set 0 x') = E.cells x' ++ E.all xs := rfl
    rw [e1, e2, hu, hx]; rfl
  | a :: xs, k + 1, h => by
    have hl := E.len a
    rw [hs] at hl
    obtain ⟨u, hu⟩ := List.length_eq_one_iff.1 hl
    have e1 : E.all (a :: xs) = E.cells a ++ E.all xs := rfl
    have e2 : E.all ((a :: xs).set (k + 1) x') = E.cells a ++ E.all (xs.set k x') := rfl
    rw [e1, e2, hu]
    simp only [List.cons_append, List.nil_append, List.set_cons_succ]
    rw [all_one_set hs hx xs k (by simpa using h)]
theorem sop_load_arr {α : Type} [Inhabited α] {E : Enc α} {xs : List α} {j k sz : Nat} {ti : TI} {d : AV} (ho : o.op = .load t x := by rfl) (hT : TTOk P T := by assumption) (ht : look T t = some ti := by rfl) (ha : ti.kind.agg = false := by rfl) (hx : Opv fr x (.ptr j (0 + k * sz)) := by first | exact .un rfl (by first | assumption | exact And.left (by assumption) | exact And.left (And.left (by assumption)) | exact And.left (And.left (And.left (by assumption)))) | exact .of rfl) (hj : look H j = some (.box (E.all xs)) := by rfl) (hsz : sz = 1 := by rfl) (hs : E.size = 1 := by rfl) (hk : k < xs.length := by omega) (hd : E.cells (nth xs k) = [d] := by rfl) (hp : d.uses (fun _ => false) = true := by rfl) : SOp P o fr H d := fun S γ w ρ h => by
  subst hsz
  have h1 := h.get hx (by simp [ho, Op.operands])
  simp only [AV.holds] at h1
  obtain ⟨g, hg, hv⟩ := h1
  obtain ⟨arr, e, hh, hL⟩ := box_cell h.st hj hg
  obtain ⟨v, hv2, hc⟩ := AV.holdsL_get hL k d (all_one_get hs hk hd)
  rw [Nat.zero_add, Nat.mul_one] at hv
  have h0 : w.cell? ⟨g, k, none⟩ = some v := by
    rw [cell_of_row w g k arr e (0, 0) hh]
    simpa using hv2
  refine outs (v := v) ?_ hc
  simp only [execOp, ho, Instr.loadAt, hv, Instr.sureAddr, Sem.run_bind, Sem.run_pure, Result.andThen_ok, load_run1 hT ht ha h0]
theorem ao_store_arr {α : Type} [Inhabited α] {E : Enc α} {xs : List α} {j k sz : Nat} {ti : TI} {a d : AV} (hg : o.guard = none := by rfl) (hd : o.dst = none := by rfl) (ho : o.op = .store t x y := by rfl) (hT : TTOk P T := by assumption) (ht : look T t = some ti := by rfl) (hx : Opv fr x (.ptr j (0 + k * sz)) := by first | exact .un rfl (by first | assumption | exact And.left (by assumption) | exact And.left (And.left (by assumption)) | exact And.left (And.left (And.left (by assumption)))) | exact .of rfl) (hj : look H j = some (.box (E.all xs)) := by rfl) (hsz : sz = 1 := by rfl) (hs : E.size = 1 := by rfl) (hk : k < xs.length := by omega)
    (hy : Opv fr y a := by first | exact .un rfl (by first | assumption | exact And.left (by assumption) | exact And.left (And.left (by assumption)) | exact And.left (And.left (And.left (by assumption)))) | exact .of rfl) (hc : cellsOf a = some [d] := by rfl) (h1 : AV.allOneL [d] = true := by rfl) (hl : ti.size = 1 := by rfl) (hE : E.cells (E.read [d]) = [d] := by rfl)
    (next : AOps P c n ops rest Q fr ((j, .box (E.all (xs.set k (E.read [d])))) :: dropH (one1 j) H)) : AOps P c n ops (o :: rest) Q fr H := by
  subst hsz
  refine ao_storeP hg hd ho hT ht hx hj hy hc h1 (by rw [hl]; rfl) (by rw [E.all_len, hs, hl]; omega) ?_
  have e : setAll (E.all xs) (0 + k * 1) [d] = E.all (xs.set k (E.read [d])) := by
    rw [Nat.zero_add, Nat.mul_one]
    show (E.all xs).set k d = _
    exact all_one_set hs hE xs k hk
  rw [e]; exact next
theorem sop_pick_no {c : Operand} {g : Bool} (ho : o.op = .pick c y (.const (.bool false)) := by rfl) (hc : Opv fr c (.lit (.bool g)) := by first | exact .un rfl (by first | assumption | exact And.left (by assumption) | exact And.left (And.left (by assumption)) | exact And.left (And.left (And.left (by assumption)))) | exact .of rfl) (hg : g = false := by first | rfl | assumption) : SOp P o fr H (.lit (.bool false)) := fun S γ w ρ h => by
  have h1 := h.lit hc (by simp [ho, Op.operands])
  refine outl ?_
  subst hg
  simp [execOp, ho, h1, asBool, h.const]
theorem sop_pick_yes {c : Operand} {g : Bool} (ho : o.op = .pick c (.const (.bool true)) y := by rfl) (hc : Opv fr c (.lit (.bool g)) := by first | exact .un rfl (by first | assumption | exact And.left (by assumption) | exact And.left (And.left (by assumption)) | exact And.left (And.left (And.left (by assumption)))) | exact .of rfl) (hg : g = true := by first | rfl | assumption) : SOp P o fr H (.lit (.bool true)) := fun S γ w ρ h => by
  have h1 := h.lit hc (by simp [ho, Op.operands])
  refine outl ?_
  subst hg
  simp [execOp, ho, h1, asBool, h.const]
end
end Go.Proofs.Ytjmcbacdogjdeaa
