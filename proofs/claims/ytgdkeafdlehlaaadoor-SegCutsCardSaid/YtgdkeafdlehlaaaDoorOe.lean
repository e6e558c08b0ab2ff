/- What is known by old blocks alone is moved, and cut; elements that may be had back. Nothing of the program stands here. -/
import Derived.Test.YtgdkeafdlehlaaaDoorOd
namespace Go.Proofs.YtgdkeafdlehlaaaDoor
open Go Go.RowKit
set_option linter.unusedVariables false
section
variable {P : Program} {T : List (Nat × TI)} {o : Oper} {fr fr' : List (Nat × AV)} {H H' : List (Nat × Res)} {c : Ctx} {n : Nat} {Q : AQ} {S : Nat → Prop} {γ : Nat → Value} {w : World} {N : Nat} {F : SFact} {x : Operand}
theorem sop_move_old (ho : o.op = .move x := by rfl) (hx : Opv fr x (.snap (oldF N F)) := by exact opv_std) : SOp P o fr H (.snap F) := fun S γ w ρ h => by
  have h1 := h.get hx (by simp [ho, Op.operands])
  simp only [AV.holds] at h1
  refine outs (v := ρ x) ?_ (by simp only [AV.holds]; exact oldF_wk h1)
  simp [execOp, ho]
theorem sop_move_keep (d : Nat) (hd : o.dst = some d := by rfl) (ho : o.op = .move x := by rfl) (hx : Opv fr x (.snap (oldF N F)) := by exact opv_std) : SOp P o fr H (.snap (oldF N F)) := fun S γ w ρ h => by
  have h1 := h.get hx (by simp [ho, Op.operands])
  refine outs (v := ρ x) ?_ h1
  simp [execOp, ho]
theorem slF_slice {α : Type} {E : Enc α} {xs : List α} {A : Option Addr} {m cp a c : Nat} (h : (slF E xs).holds S w (.slice A m cp)) (hac : a ≤ c) (hc : c ≤ xs.length) : (slF E ((xs.drop a).take (c - a))).holds S w (.slice (if cp = a then A else A.map (·.add (a * E.size))) (c - a) (cp - a)) := by
  obtain ⟨A', c', vs, hv, hcc, hr, hh, ho1⟩ := h
  injection hv with e1 e2 e3
  subst e1 e2 e3
  have hlen : ((xs.drop a).take (c - a)).length = c - a := by simp; omega
  refine ⟨_, cp - a, (vs.drop (a * E.size)).take ((c - a) * E.size), by rw [hlen], by rw [hlen]; omega, ?_, ?_, fun u hu => ho1 u (List.mem_of_mem_drop (List.mem_of_mem_take hu))⟩
  · intro hne
    have hne2 : vs ≠ [] := by intro e; subst e; simp at hne
    have hca : ¬ cp = a := by
      intro e
      apply hne
      have : c - a = 0 := by omega
      simp [this]
    obtain ⟨ad, rfl, hb, hcell⟩ := hr hne2
    rw [if_neg hca]
    refine ⟨_, rfl, by rw [addr_block]; exact hb, fun j u hu => ?_⟩
    rw [addr_add2]
    apply hcell
    rw [List.getElem?_take] at hu
    split at hu
    · simpa using hu
    · cases hu
  · have := AV.holdsL_take (AV.holdsL_drop hh (a * E.size)) ((c - a) * E.size)
    rwa [Enc.all_drop, Enc.all_take] at this
theorem sop_slice_old {α : Type} {E : Enc α} {xs : List α} {ylo yhi : Operand} {t e s b : Nat} {ei : TI} {i j : Int} (ho : o.op = .slice t x (some ylo) (some yhi) none := by rfl) (hT : TTOk P T := by assumption) (ht : look T t = some ⟨.slice e, s, b⟩ := by rfl) (he : look T e = some ei := by rfl) (hx : Opv fr x (.snap (oldF N (slF E xs))) := by exact opv_std) (hlo : Opv fr ylo (.lit (.int .i64 i)) := by exact opv_std) (hhi : Opv fr yhi (.lit (.int .i64 j)) := by exact opv_std) (h0 : 0 ≤ i := by omega) (h1 : i ≤ j := by omega) (h2 : j ≤ (xs.length : Int) := by omega) (hs : ei.size = E.size := by rfl) : SOp P o fr H (.snap (oldF N (slF E ((xs.take j.toNat).drop i.toNat)))) := fun S γ w ρ h => by
  obtain ⟨a, rfl⟩ := Int.eq_ofNat_of_zero_le h0
  obtain ⟨c, rfl⟩ := Int.eq_ofNat_of_zero_le (Int.le_trans h0 h1)
  have hx1 := h.get hx (by simp [ho, Op.operands])
  have hz := h.lit hlo (by simp [ho, Op.operands])
  have hy := h.lit hhi (by simp [ho, Op.operands])
  simp only [AV.holds] at hx1
  obtain ⟨p1, p2, p3⟩ := hx1
  have p1' := p1
  obtain ⟨A, cp, vs, hv, hc, _⟩ := p1'
  have e2 : c ≤ cp := by omega
  have e3 : a ≤ c := by omega
  have hrun : (execOp ρ o).run P w = .ok (.value (.slice (if cp = a then A else A.map (·.add (a * E.size))) (c - a) (cp - a))) w := by
    simp [execOp, ho, hv, Instr.sliceAt, Instr.slice, run_underlying (hT.slice ht), Instr.sliceBounds, Instr.sliceBound, asIntOf, hy, hz, hT.size he, hs, e2, e3]
  rw [hv] at p1
  have hsl := slF_slice p1 e3 (by omega)
  have hF : ∀ b, blo S N b → blo (FreshS S w w) N b := fun b h => ⟨.inl h.1, h.2⟩
  refine outs hrun ?_
  simp only [AV.holds, Int.toNat_natCast]
  rw [List.drop_take]
  first | exact ⟨(slF E _).mono hsl hF (fun _ _ => rfl), amb_mono p2 hF (fun _ _ => rfl), fun h => .inl (p3 h)⟩ | exact ⟨hsl, p2, p3⟩
theorem all_wk {α : Type} {E E' : Enc α} (hE : ∀ (x : α) (us : List Value), AV.holdsL S noγ w (E.cells x) us → AV.holdsL S noγ w (E'.cells x) us) : ∀ (xs : List α) (vs : List Value), AV.holdsL S noγ w (E.all xs) vs → AV.holdsL S noγ w (E'.all xs) vs
  | [], vs, h => by simpa [Enc.all] using h
  | x :: xs, vs, h => by
    have e1 : E.all (x :: xs) = E.cells x ++ E.all xs := rfl
    have e2 : E'.all (x :: xs) = E'.cells x ++ E'.all xs := rfl
    rw [e1] at h
    rw [e2]
    have h2 := AV.holdsL_split h
    have := AV.holdsL_app (hE x _ h2.1) (all_wk hE xs _ h2.2)
    rwa [List.take_append_drop] at this
theorem slF_wk {α : Type} {E E' : Enc α} {xs : List α} {v : Value} (hE : ∀ (x : α) (us : List Value), AV.holdsL S noγ w (E.cells x) us → AV.holdsL S noγ w (E'.cells x) us) (h : (slF E xs).holds S w v) : (slF E' xs).holds S w v := by
  obtain ⟨A, c, vs, rfl, hc, hr, hh, h1⟩ := h
  exact ⟨A, c, vs, rfl, hc, hr, all_wk hE xs vs hh, h1⟩
theorem all_rest (N e : Nat) : ∀ ls : List (List UInt8), (encRo N e).all (ls.map some) = (encOw N e).all ls
  | [] => rfl
  | l :: ls => by
    have e1 : (encRo N e).all ((l :: ls).map some) = AV.snap (ownF N e l) :: (encRo N e).all (ls.map some) := rfl
    have e2 : (encOw N e).all (l :: ls) = AV.snap (ownF N e l) :: (encOw N e).all ls := rfl
    rw [e1, e2, all_rest N e ls]
theorem a_rest {code : Code} (j : Nat) {e e' : Nat} {ls : List (List UInt8)} (hj : look H j = some (.own e' (encOw N e) ls) := by rfl) (h : ACode P c n code Q fr ((j, .own e' (encRo N e) (ls.map some)) :: H)) : ACode P c n code Q fr H := fun S γ tmps w hr =>
  h S γ tmps w (hr.redesc hj (by
    obtain ⟨vs, h1, h2, h3⟩ := hr.st.res j _ hj
    exact ⟨vs, by rw [List.length_map]; exact h1, by rw [all_rest]; exact h2, h3⟩))
/-- a law's contract, of a world of at most N blocks -/
def ConB (P : Program) (f : FuncId) (N : Nat) (args : List AV) (post : AV → List (Nat × Res) → Prop) : Prop :=
  ∀ S γ w vs, w.heap.size ≤ N → St S γ w [] → AV.holdsL S γ w args vs → Calls P f vs.toArray w fun e w' => ∃ v out Hout S' γ', e = .returned v ∧ post out Hout ∧ CPost S γ w [] out Hout v w' S' γ'
theorem con_ofB {f : FuncId} {fn : Func} {code : Code} {rs : List ResultVar} {args : List AV} {post : AV → List (Nat × Res) → Prop} (hT : TTOk P T) (hf : P.funcs[f]? = some fn) (hb : fn.body = some code) (hn : fn.ntmps = n) (hrs : fn.results = rs.toArray) (hl : Nat.ble rs.length 4 = true)
    (hlen : Nat.ble args.length n = true) (h : ∀ c : Ctx, c.w.heap.size ≤ N → ACode P c n code (AEnd T rs post) (argF 0 args) []) : ConB P f N args post := by
  intro S γ w vs hN hst hargs
  have hlv := AV.holdsL_len hargs
  have hle : args.length ≤ n := Nat.le_of_ble_eq_true hlen
  subst hn
  refine calls_of_wp hf hb ?_
  have hJ : ∀ j, (∃ r, look ([] : List (Nat × Res)) j = some r) → j < 1000 := by
    rintro j ⟨r, hj⟩
    simp [look] at hj
  let c : Ctx := ⟨w, S, blks γ [], fun j => ∃ r, look ([] : List (Nat × Res)) j = some r, γ, hJ⟩
  have hrel : Rel c fn.ntmps (argF 0 args) [] S γ (vs.toArray ++ Array.replicate (fn.ntmps - vs.toArray.size) undef) w := by
    refine ⟨hst, fun x av hx => ?_, fun b hb => .inl hb, fun j r b hj hb => .inr ⟨j, r, hj, hb⟩, fun _ _ => rfl, by simp; omega, Keep.refl _ _⟩
    obtain ⟨_, hx⟩ := look_argF args 0 x av hx
    obtain ⟨v, hv, hh⟩ := AV.holdsL_get hargs x av (by simpa using hx)
    have hxl := (List.getElem?_eq_some_iff.1 hv).1
    rw [Array.getD_eq_getD_getElem?, Array.getElem?_append_left (by simpa using hxl)]
    simpa [hv] using hh
  refine wp_mono (h c hN S γ _ w hrel) ?_
  rintro e ⟨t, d⟩ w' ⟨fr', H', S', γ', hq, hr', rfl⟩
  have fin : (∃ qs0 Hout, ResOk T fr' H' rs qs0 ∧ CovL (look H') [] Hout ∧ post (outOf qs0) Hout) → ∃ v, (results fn t).run P w' = .ok v w' ∧ ∃ v' out Hout S' γ', Ending.returned v = .returned v' ∧ post out Hout ∧ CPost S γ w [] out Hout v' w' S' γ' := by
    rintro ⟨qs0, Hout, hres, hcov, hpost⟩
    obtain ⟨us, h1, h2, h3⟩ := resOk_run hT hr' hres
    have hrc := hr'.cov (fr := []) (H := Hout) ⟨trivial, hcov⟩
    refine ⟨_, results_run hrs (Nat.le_of_ble_eq_true hl) h1 h3, _, _, Hout, S', γ', rfl, hpost, hr'.keep, hr'.up, outOf_holds h2, hrc.st, hrc.own, fun j r hj => hr'.ids j ⟨r, hj⟩⟩
  cases e with
  | normal => exact ⟨rfl, fin hq⟩
  | ret => exact ⟨rfl, fin hq⟩
  | _ => exact hq.elim
theorem con_extB {W : World} {f : FuncId} {args : List AV} (h : ConB P f W.heap.size args fun a hz => a = .lit (.bool true) ∧ hz = []) {vs : List Value} (hv : AV.holdsL (Was W) noγ W args vs) (ha : ambHolds (Was W) W := by exact trivial) : Calls P f vs.toArray W fun e w' => e = .returned (.bool true) ∧ Ext W w' := by
  refine (h (Was W) noγ W vs (Nat.le_refl _) (St.nil ⟨fun b h => h, ha⟩ (fun _ => rfl)) hv).mono ?_
  rintro e w' ⟨v, out, Hout, S', γ', rfl, ⟨rfl, rfl⟩, hp⟩
  have hval := hp.val
  simp only [AV.holds] at hval
  subst hval
  exact ⟨rfl, ⟨hp.keep.os, hp.keep.tape, hp.keep.output, hp.keep.size, fun b hb => hp.keep.block b hb (by rintro ⟨j, r, hj, _⟩; simp [look] at hj)⟩⟩
theorem old_was {W : World} {v : Value} (h : F.holds (Was W) W v) (ha : ambHolds (Was W) W) : (oldF W.heap.size F).holds (Was W) W v := by
  have hb : ∀ b, Was W b → blo (Was W) W.heap.size b := fun b h => ⟨h, h⟩
  exact ⟨F.mono h hb (fun _ _ => rfl), amb_mono ha hb (fun _ _ => rfl), fun h => by show W.heap.size - 1 < W.heap.size; omega⟩
end
end Go.Proofs.YtgdkeafdlehlaaaDoor
