/- Runes of a text. Nothing of the program stands here. -/
import Derived.Test.YtgdkeafdlehlaaaDoorCa
import Derived.Lib.TrimUEq
import Derived.Laws.IdiomStrings
import Derived.Laws.AppendOwn
import Derived.Laws.Cover4
namespace Go.Proofs.YtgdkeafdlehlaaaDoor
open Go Go.RowKit
set_option linter.unusedVariables false
set_option linter.unusedSimpArgs false
def encR : Enc Int := ⟨1, fun n => [.lit (.int .i32 n)], fun _ => rfl, fun _ => rfl, fun _ => rfl, fun l => match l with
  | [.lit (.int _ a)] => a
  | _ => 0⟩
/-- a text's runes from a place on -/
def rnsF (u : ByteArray) : Nat → Nat → List Int
  | 0, _ => []
  | f + 1, i => if i < u.size then ((Utf8.decode u i).1 : Int) :: rnsF u f (i + (Utf8.decode u i).2) else []
def rns (l : List UInt8) : List Int := rnsF (strOf l) l.length 0
theorem runesFrom_rns (u : ByteArray) : ∀ (f i : Nat) (acc : Array Value), Conv.runesFrom u f i acc = acc ++ ((rnsF u f i).map fun r => Value.int .i32 r).toArray
  | 0, _, acc => by simp [Conv.runesFrom, rnsF]
  | f + 1, i, acc => by
    unfold Conv.runesFrom rnsF
    split
    · simp only
      rw [runesFrom_rns u f]
      simp
    · simp
theorem rnsF_len (u : ByteArray) : ∀ (f i : Nat), (rnsF u f i).length ≤ f
  | 0, _ => Nat.le_refl _
  | f + 1, i => by
    have := rnsF_len u f (i + (Utf8.decode u i).2)
    unfold rnsF
    split
    · simp only [List.length_cons]; omega
    · simp
theorem rns_len (l : List UInt8) : (rns l).length ≤ l.length := rnsF_len _ _ _
theorem runes_rns (l : List UInt8) : Conv.runesFrom (strOf l) (strOf l).size 0 #[] = ((rns l).map fun r => Value.int .i32 r).toArray := by
  rw [runesFrom_rns, strOf_size]
  simp [rns]
theorem encR_all {xs : List Int} : encR.all xs = xs.map fun r => .lit (.int .i32 r) := by
  induction xs with
  | nil => rfl
  | cons x xs ih =>
    have : encR.all (x :: xs) = encR.cells x ++ encR.all xs := rfl
    rw [this, ih]; rfl
theorem encR_holds {S : Nat → Prop} {γ : Nat → Value} {w : World} (xs : List Int) : AV.holdsL S γ w (encR.all xs) (xs.map fun r => .int .i32 r) := by
  induction xs with
  | nil => simp [Enc.all, AV.holdsL]
  | cons x xs ih =>
    have : encR.all (x :: xs) = .lit (.int .i32 x) :: encR.all xs := rfl
    rw [this]
    simp only [List.map_cons, AV.holdsL, AV.holds]
    exact ⟨_, _, rfl, rfl, ih⟩
section
variable {P : Program} {T : List (Nat × TI)} {c : Ctx} {n : Nat} {Q : AQ} {fr : List (Nat × AV)} {H : List (Nat × Res)} {ops : Array Oper} {rest : List Oper} {o : Oper}
variable {x : Operand} {t t' d e s b s1 b1 s2 b2 : Nat} {l : List UInt8}
theorem ao_runes (hg : o.guard = none := by rfl) (hd : o.dst = some d := by rfl) (hn : Nat.blt d n = true := by rfl) (ho : o.op = .convert t t' x := by rfl) (hT : TTOk P T := by assumption) (ht : look T t = some ⟨.str, s, b⟩ := by rfl) (ht' : look T t' = some ⟨.slice e, s1, b1⟩ := by rfl) (he : look T e = some ⟨.int .i32, s2, b2⟩ := by rfl) (hx : Opv fr x (.lit (.string (strOf l))) := by exact opv_std)
    (hl : l.length ≤ 70368744177664 := by first | omega | (simp only [List.length_append, List.length_cons, List.length_nil, List.length_take, List.length_drop, List.length_replicate, List.length_map, List.length_set]; omega)) (hu : usesH (one1 (d + 1000)) (dropH (one1 (d + 1000)) H) = true := by rfl)
    (next : AOps P c n ops rest Q ((d, .own (d + 1000)) :: markF (one1 (d + 1000)) fr) ((d + 1000, .own e encR (rns l)) :: dropH (one1 (d + 1000)) H)) : AOps P c n ops (o :: rest) Q fr H := fun S γ tmps w hr => by
  refine ao_plain hg ?_
  have hv := (hr.env (ds := []) (fun _ => True)).lit hx trivial
  have hrl := rns_len l
  have hrun := run_runes_of_string w t t' e (strOf l) (hT.str ht) (hT.slice ht') (hT.int he) (by rw [runes_rns]; simp; omega)
  rw [runes_rns] at hrun
  have hsz : ((rns l).map fun r => Value.int .i32 r).toArray.size = (rns l).length := by simp
  rw [hsz] at hrun
  refine outc (v := .slice (some ⟨w.heap.size, 0, none⟩) (rns l).length (grownCap w (rns l).length 0 e)) (w' := w.drew.alloc (.cells (((rns l).map fun r => Value.int .i32 r).toArray ++ Array.replicate (grownCap w (rns l).length 0 e - (rns l).length) (.int .i32 0)) e)) ?_ ?_
  · simp only [execOp, ho, hv]
    exact (congrArg (fun r => r) (by simp [hrun]))
  · have hput : ∀ v, (Act.put ⟨tmps, []⟩ o.dst v) = ⟨tmps.setIfInBounds d v, []⟩ := fun v => by rw [hd]; rfl
    rw [hput]
    have hc1 := grownCap_ge w (rns l).length 0 e
    have hc2 := grownCap_le_maxLen w (rns l).length 0 e (by unfold maxLen; omega)
    have hown : (Res.own e encR (rns l)).holds S (upd γ (d + 1000) (.slice (some ⟨w.heap.size, 0, none⟩) (rns l).length (grownCap w (rns l).length 0 e))) (w.drew.alloc (.cells (((rns l).map fun r => Value.int .i32 r).toArray ++ Array.replicate (grownCap w (rns l).length 0 e - (rns l).length) (.int .i32 0)) e)) (.slice (some ⟨w.heap.size, 0, none⟩) (rns l).length (grownCap w (rns l).length 0 e)) := by
      refine ⟨(rns l).map fun r => .int .i32 r, ⟨?_, _, _, rfl, .inr ⟨w.heap.size, _, rfl, Nat.zero_le _, .of (heap_alloc_new w.drew _), hc1, hc2, ?_, ?_⟩⟩, encR_holds _, ?_⟩
      · show _ = (rns l).length * 1
        simp
      · show grownCap w (rns l).length 0 e * 1 ≤ _
        simp; omega
      · show List.take ((rns l).length * 1) _ = _
        simp
      · intro u hu
        obtain ⟨r, _, rfl⟩ := List.mem_map.1 hu
        rfl
    refine next S _ _ _ (Rel.put (hr.eff1 (d + 1000) (r := .own e encR (rns l)) (Keep.of_ext ((Ext.drew w).trans (Ext.alloc w.drew _))) hown rfl (fun b hb => ?_) (Nat.ble_eq_true_of_le (by omega)) hu) (Nat.le_of_ble_eq_true hn) ?_)
    · refine .inl ?_
      cases hcc : grownCap w (rns l).length 0 e with
      | zero => rw [hcc] at hb; simp [rblk, wblk] at hb
      | succ k => rw [hcc] at hb; simp [rblk, wblk] at hb; omega
    · simp only [AV.holds]; rw [upd_same]
end
/-- the bytes of runes, one behind the other -/
def rb (xs : List Int) : List UInt8 := (runesBytes xs).data.toList
theorem strOf_rb (xs : List Int) : strOf (rb xs) = runesBytes xs := by
  unfold strOf rb
  simp
theorem encR_vs {S : Nat → Prop} {γ : Nat → Value} {w : World} : ∀ {xs : List Int} {vs : List Value}, AV.holdsL S γ w (encR.all xs) vs → vs = xs.map (Value.int .i32)
  | [], vs, h => by simpa [Enc.all, AV.holdsL] using h
  | x :: xs, vs, h => by
    have e : encR.all (x :: xs) = .lit (.int .i32 x) :: encR.all xs := rfl
    rw [e] at h
    simp only [AV.holdsL, AV.holds] at h
    obtain ⟨v, vs', rfl, rfl, h⟩ := h
    rw [encR_vs h]; rfl
section
variable {P : Program} {T : List (Nat × TI)} {o : Oper} {fr : List (Nat × AV)} {H : List (Nat × Res)}
variable {x : Operand} {t t' e s b s1 b1 s2 b2 : Nat} {xs : List Int}
theorem sop_runes (ho : o.op = .convert t t' x := by rfl) (hT : TTOk P T := by assumption) (ht : look T t = some ⟨.slice e, s, b⟩ := by rfl) (he : look T e = some ⟨.int .i32, s2, b2⟩ := by rfl) (ht' : look T t' = some ⟨.str, s1, b1⟩ := by rfl) (hx : Src fr H x encR xs := by first | exact .snap (by exact opv_std) | exact .own (by exact opv_std) (by rfl) | exact .nil (by exact opv_std)) : SOp P o fr H (.lit (.string (strOf (rb xs)))) := fun S γ w ρ h => by
  obtain ⟨A, d, vs, hv, hd, hrow, hh, h1⟩ := hx.get h (by simp [ho, Op.operands])
  have hvs := encR_vs hh
  subst hvs
  refine outl ?_
  rw [strOf_rb]
  simp only [execOp, ho, hv]
  have hrun : (convert t t' (.slice A xs.length d)).run P w = .ok (.string (runesBytes xs)) w := by
    cases A with
    | none =>
      have : xs = [] := by
        rcases xs with _ | ⟨a, xs⟩
        · rfl
        · obtain ⟨ad, hA, _⟩ := hrow (by simp)
          cases hA
      subst this
      exact run_convert_runes_nil w t t' e _ _ (hT.slice ht) (hT.int he) (hT.str ht')
    | some a =>
      have := run_convert_runes w t t' e a xs.length d xs (Nat.le_refl _) (hT.slice ht) (hT.int he) (hT.str ht') (fun j hj => by
        obtain ⟨ad, hA, hc⟩ := hrow (by intro e; rw [List.map_eq_nil_iff] at e; subst e; simp at hj)
        cases hA
        refine hc j _ ?_
        rw [List.getElem?_map, List.getElem?_eq_getElem hj]
        simp [List.getD, List.getElem?_eq_getElem hj])
      rwa [List.take_length] at this
  simp [hrun]
end
end Go.Proofs.YtgdkeafdlehlaaaDoor
