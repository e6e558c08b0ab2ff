/- Texts qs0 data: side by side, parts, letters, order; ranges over a text. Nothing of the program stands here. -/
import Derived.Test.YtgdkeafdlehlaaaDoorG5
import GoSem.Core.Utf8
namespace Go.Proofs.YtgdkeafdlehlaaaDoor
open Go Go.RowKit
set_option linter.unusedVariables false
set_option linter.unusedSimpArgs false
theorem strOf_size (l : List UInt8) : (strOf l).size = l.length := by simp [strOf, ByteArray.size]
theorem strOf_data (l : List UInt8) : (strOf l).data.toList = l := by simp [strOf]
theorem strOf_app (l m : List UInt8) : strOf l ++ strOf m = strOf (l ++ m) := by
  apply ByteArray.ext
  simp [strOf]
theorem strOf_extract (l : List UInt8) (a c : Nat) : (strOf l).extract a c = strOf ((l.drop a).take (c - a)) := by
  apply ByteArray.ext
  rw [ByteArray.data_extract]
  apply Array.toList_inj.1
  rw [Array.toList_extract]
  simp [strOf, List.extract]
section
variable {P : Program} {T : List (Nat × TI)} {o : Oper} {fr : List (Nat × AV)} {H : List (Nat × Res)}
variable {x y : Operand} {t t' : TypeId} {s b : Nat} {l m : List UInt8} {i j : Int}
theorem sop_cat (ho : o.op = .binOp .add t x y t' := by rfl) (hx : Opv fr x (.lit (.string (strOf l))) := by exact opv_std) (hy : Opv fr y (.lit (.string (strOf m))) := by exact opv_std) (hn : l.length + m.length ≤ 9223372036854775807 := by first | omega | (simp only [List.length_append, List.length_cons, List.length_nil, List.length_take, List.length_drop, List.length_replicate, List.length_map, List.length_set]; omega)) : SOp P o fr H (.lit (.string (strOf (l ++ m)))) := fun S γ w ρ h => by
  have h1 := h.lit hx (by simp [ho, Op.operands])
  have h2 := h.lit hy (by simp [ho, Op.operands])
  refine outl ?_
  rw [← strOf_app]
  have e1 := strOf_size l
  have e2 := strOf_size m
  have e3 : ¬ ((strOf l).size : Int) + ((strOf m).size : Int) > IntKind.i64.max := by
    rw [e1, e2]
    show ¬ _ > (9223372036854775807 : Int)
    omega
  have e4 : (strOf l).size + (strOf m).size ≤ 9223372036854775807 := by omega
  simp [execOp, ho, h1, h2, go_sem, e3, e4]
theorem sop_slice_str (lo hi : Nat) (ylo yhi : Operand) (ho : o.op = .slice t x (some ylo) (some yhi) none := by rfl) (hT : TTOk P T := by assumption) (ht : look T t = some ⟨.str, s, b⟩ := by rfl) (hx : Opv fr x (.lit (.string (strOf l))) := by exact opv_std) (hlo : Opv fr ylo (.lit (.int .i64 (lo : Int))) := by exact opv_std) (hhi : Opv fr yhi (.lit (.int .i64 (hi : Int))) := by exact opv_std) (h0 : lo ≤ hi := by first | omega | (simp only [List.length_append, List.length_cons, List.length_nil, List.length_take, List.length_drop, List.length_replicate, List.length_map, List.length_set]; omega)) (h1 : hi ≤ l.length := by first | omega | (simp only [List.length_append, List.length_cons, List.length_nil, List.length_take, List.length_drop, List.length_replicate, List.length_map, List.length_set]; omega)) : SOp P o fr H (.lit (.string (strOf ((l.drop lo).take (hi - lo))))) := fun S γ w ρ h => by
  have g1 := h.lit hx (by simp [ho, Op.operands])
  have g2 := h.lit hlo (by simp [ho, Op.operands])
  have g3 := h.lit hhi (by simp [ho, Op.operands])
  refine outl ?_
  have e1 := strOf_size l
  simp [execOp, ho, g1, g2, g3, Instr.sliceAt, Instr.slice, run_underlying (hT.str ht), Instr.sliceBounds, Instr.sliceBound, asIntOf, e1, h0, h1, strOf_extract]
theorem sop_slice_str_lo {i : Int} (ho : o.op = .slice t x (some y) none none := by rfl) (hT : TTOk P T := by assumption) (ht : look T t = some ⟨.str, s, b⟩ := by rfl) (hx : Opv fr x (.lit (.string (strOf l))) := by exact opv_std) (hy : Opv fr y (.lit (.int .i64 i)) := by exact opv_std) (h0 : 0 ≤ i := by omega) (h1 : i ≤ (l.length : Int) := by first | omega | (simp only [List.length_append, List.length_cons, List.length_nil, List.length_take, List.length_drop, List.length_replicate, List.length_map, List.length_set]; omega)) : SOp P o fr H (.lit (.string (strOf (l.drop i.toNat)))) := fun S γ w ρ h => by
  obtain ⟨k, rfl⟩ := Int.eq_ofNat_of_zero_le h0
  have g1 := h.lit hx (by simp [ho, Op.operands])
  have g2 := h.lit hy (by simp [ho, Op.operands])
  refine outl ?_
  have e1 := strOf_size l
  have e2 : k ≤ l.length := by omega
  have e3 : (l.drop k).take (l.length - k) = l.drop k := List.take_of_length_le (by simp)
  simp [execOp, ho, g1, g2, Instr.sliceAt, Instr.slice, run_underlying (hT.str ht), Instr.sliceBounds, Instr.sliceBound, asIntOf, e1, e2, strOf_extract, e3]
theorem sop_slice_str_hi {i : Int} (ho : o.op = .slice t x none (some y) none := by rfl) (hT : TTOk P T := by assumption) (ht : look T t = some ⟨.str, s, b⟩ := by rfl) (hx : Opv fr x (.lit (.string (strOf l))) := by exact opv_std) (hy : Opv fr y (.lit (.int .i64 i)) := by exact opv_std) (h0 : 0 ≤ i := by omega) (h1 : i ≤ (l.length : Int) := by first | omega | (simp only [List.length_append, List.length_cons, List.length_nil, List.length_take, List.length_drop, List.length_replicate, List.length_map, List.length_set]; omega)) : SOp P o fr H (.lit (.string (strOf (l.take i.toNat)))) := fun S γ w ρ h => by
  obtain ⟨k, rfl⟩ := Int.eq_ofNat_of_zero_le h0
  have g1 := h.lit hx (by simp [ho, Op.operands])
  have g2 := h.lit hy (by simp [ho, Op.operands])
  refine outl ?_
  have e1 := strOf_size l
  have e2 : k ≤ l.length := by omega
  simp [execOp, ho, g1, g2, Instr.sliceAt, Instr.slice, run_underlying (hT.str ht), Instr.sliceBounds, Instr.sliceBound, asIntOf, e1, e2, strOf_extract]
theorem sop_index_str {i : Int} (ho : o.op = .index t x y := by rfl) (hT : TTOk P T := by assumption) (ht : look T t = some ⟨.str, s, b⟩ := by rfl) (hx : Opv fr x (.lit (.string (strOf l))) := by exact opv_std) (hy : Opv fr y (.lit (.int .i64 i)) := by exact opv_std) (h0 : 0 ≤ i := by omega) (h1 : i < (l.length : Int) := by first | omega | (simp only [List.length_append, List.length_cons, List.length_nil, List.length_take, List.length_drop, List.length_replicate, List.length_map, List.length_set]; omega)) : SOp P o fr H (.lit (.int .u8 ((nth l i.toNat).toNat : Int))) := fun S γ w ρ h => by
  obtain ⟨k, rfl⟩ := Int.eq_ofNat_of_zero_le h0
  have g1 := h.lit hx (by simp [ho, Op.operands])
  have g2 := h.lit hy (by simp [ho, Op.operands])
  have hk : k < l.length := by omega
  have e1 : (strOf l)[k]? = some l[k] := by
    rw [getElem?_pos (strOf l) k (by rw [strOf_size]; exact hk)]
    rfl
  refine outl ?_
  have e2 : (nth l (Int.toNat (k : Int))) = l[k] := by rw [Int.toNat_natCast, nth_eq hk]
  rw [e2]
  simp [execOp, ho, g1, g2, Instr.index, run_underlying (hT.str ht), asIntOf, e1]
theorem sop_lss_str (ho : o.op = .binOp .lss t x y t' := by rfl) (hx : Opv fr x (.lit (.string (strOf l))) := by exact opv_std) (hy : Opv fr y (.lit (.string (strOf m))) := by exact opv_std) : SOp P o fr H (.lit (.bool (Op.bytesLess l m))) := fun S γ w ρ h => by
  have h1 := h.lit hx (by simp [ho, Op.operands])
  have h2 := h.lit hy (by simp [ho, Op.operands])
  refine outl ?_
  have e1 : (strOf l).toList = l := by rw [ByteArray.toList_eq, strOf_data]
  have e2 : (strOf m).toList = m := by rw [ByteArray.toList_eq, strOf_data]
  simp [execOp, ho, h1, h2, go_sem, e1, e2]
end
section
variable {P : Program} {T : List (Nat × TI)} {c : Ctx} {n : Nat} {Q : AQ} {fr : List (Nat × AV)} {H : List (Nat × Res)} {ops : Array Oper} {rest : List Oper} {o : Oper}
variable {x : Operand} {t d s b : Nat} {u : ByteArray}
theorem ao_range (hg : o.guard = none := by rfl) (hd : o.dst = some d := by rfl) (hn : Nat.blt d n = true := by rfl) (ho : o.op = .range t x := by rfl) (hT : TTOk P T := by assumption) (ht : look T t = some ⟨.str, s, b⟩ := by rfl) (hx : Opv fr x (.lit (.string u)) := by exact opv_std)
    (hu : usesH (one1 (d + 1000)) (dropH (one1 (d + 1000)) H) = true := by rfl)
    (next : AOps P c n ops rest Q ((d, .ptr (d + 1000) 0) :: markF (one1 (d + 1000)) fr) ((d + 1000, .iter u 0) :: dropH (one1 (d + 1000)) H)) : AOps P c n ops (o :: rest) Q fr H := fun S γ tmps w hr => by
  refine ao_plain hg ?_
  have hv := (hr.env (ds := []) (fun _ => True)).lit hx trivial
  refine outc (v := .pointer (some ⟨w.heap.size, 0, none⟩)) (w' := w.alloc (.stringIter u 0)) ?_ ?_
  · simp [execOp, ho, hv, Instr.range, run_underlying (hT.str ht)]
  · have hput : ∀ v, (Act.put ⟨tmps, []⟩ o.dst v) = ⟨tmps.setIfInBounds d v, []⟩ := fun v => by rw [hd]; rfl
    rw [hput]
    refine next S _ _ _ (Rel.put (hr.eff1 (d + 1000) (r := .iter u 0) (v := .pointer (some ⟨w.heap.size, 0, none⟩)) (keep_alloc _ w _) ⟨w.heap.size, rfl, heap_alloc_new w _⟩ rfl (fun b hb => ?_) (Nat.ble_eq_true_of_le (by omega)) hu) (Nat.le_of_ble_eq_true hn) ptr_new)
    simp [rblk] at hb; subst hb; exact .inl (Nat.le_refl _)
theorem run_next_more {w : World} {g pos : Nat} {ty : TypeId} (hg : w.heap[g]? = some (.stringIter u pos)) (h : pos < u.size) : (Instr.next (.pointer (some ⟨g, 0, none⟩)) true ty).run P w = .ok (.tuple #[.bool true, .int .i64 pos, .int .i32 (Utf8.decode u pos).1]) { w with heap := w.heap.setIfInBounds g (.stringIter u (pos + (Utf8.decode u pos).2)) } := by
  simp only [Instr.next, getObj, setObj, Sem.run_bind, Sem.run, hg, Result.andThen, h, if_true]
  simp [goInt]
theorem run_next_over {w : World} {g pos : Nat} {ty : TypeId} (hg : w.heap[g]? = some (.stringIter u pos)) (h : ¬ pos < u.size) : (Instr.next (.pointer (some ⟨g, 0, none⟩)) true ty).run P w = .ok (.tuple #[.bool false]) w := by
  simp [Instr.next, getObj, Sem.run, hg, h]
theorem iter_at {S : Nat → Prop} {γ : Nat → Value} {w : World} {j pos g : Nat} (hst : St S γ w H) (hj : look H j = some (.iter u pos)) (hg : gof (γ j) = some g) : w.heap[g]? = some (.stringIter u pos) ∧ γ j = .pointer (some ⟨g, 0, none⟩) := by
  obtain ⟨g', hv, hh⟩ := hst.res j _ hj
  rw [hv] at hg
  have : g' = g := by simpa [gof] using hg
  subst this
  exact ⟨hh, hv⟩
theorem ao_next_more {j pos : Nat} (hg : o.guard = none := by rfl) (hd : o.dst = some d := by rfl) (hn : Nat.blt d n = true := by rfl) (ho : o.op = .next x true := by rfl) (hx : Opv fr x (.ptr j 0) := by exact opv_std) (hj : look H j = some (.iter u pos) := by rfl) (hp : pos < u.size := by first | omega | (simp only [List.length_append, List.length_cons, List.length_nil, List.length_take, List.length_drop, List.length_replicate, List.length_map, List.length_set]; omega))
    (next : AOps P c n ops rest Q ((d, .tup [.lit (.bool true), .lit (.int .i64 (pos : Int)), .lit (.int .i32 ((Utf8.decode u pos).1 : Int))]) :: fr) ((j, .iter u (pos + (Utf8.decode u pos).2)) :: dropH (one1 j) H)) : AOps P c n ops (o :: rest) Q fr H := fun S γ tmps w hr => by
  refine ao_plain hg ?_
  have hv := (hr.env (ds := []) (fun _ => True)).get hx trivial
  simp only [AV.holds] at hv
  obtain ⟨g, hgo, hv⟩ := hv
  obtain ⟨hh, hγ⟩ := iter_at hr.st hj hgo
  have hlt : g < w.heap.size := (Array.getElem?_eq_some_iff.1 hh).1
  have hv2 : Act.eval ⟨tmps, []⟩ x = .pointer (some ⟨g, 0, none⟩) := hv
  refine outc (v := .tuple #[.bool true, .int .i64 (pos : Int), .int .i32 ((Utf8.decode u pos).1 : Int)]) (w' := { w with heap := w.heap.setIfInBounds g (.stringIter u (pos + (Utf8.decode u pos).2)) }) ?_ ?_
  · simp only [execOp, ho, hv2]
    simp [run_next_more hh hp]
  · have hput : ∀ v, (Act.put ⟨tmps, []⟩ o.dst v) = ⟨tmps.setIfInBounds d v, []⟩ := fun v => by rw [hd]; rfl
    rw [hput]
    refine next S γ _ _ (Rel.put (hr.same1 j hj (r' := .iter u (pos + (Utf8.decode u pos).2)) ⟨rfl, rfl, rfl, by simp, fun b hb hne => ?_⟩ ⟨g, hγ, ?_⟩) (Nat.le_of_ble_eq_true hn) ?_)
    · have : g ≠ b := by
        rintro rfl
        exact hne (by rw [hγ]; rfl)
      simp [Array.getElem?_setIfInBounds, this]
    · simp [Array.getElem?_setIfInBounds, hlt]
    · simp only [AV.holds, AV.holdsL]
      exact ⟨_, rfl, _, _, rfl, rfl, _, _, rfl, rfl, _, _, rfl, rfl, rfl⟩
theorem ao_next_over {j pos : Nat} (hg : o.guard = none := by rfl) (hd : o.dst = some d := by rfl) (hn : Nat.blt d n = true := by rfl) (ho : o.op = .next x true := by rfl) (hx : Opv fr x (.ptr j 0) := by exact opv_std) (hj : look H j = some (.iter u pos) := by rfl) (hp : ¬ pos < u.size := by first | omega | (simp only [List.length_append, List.length_cons, List.length_nil, List.length_take, List.length_drop, List.length_replicate, List.length_map, List.length_set]; omega))
    (next : AOps P c n ops rest Q ((d, .tup [.lit (.bool false)]) :: fr) H) : AOps P c n ops (o :: rest) Q fr H := fun S γ tmps w hr => by
  refine ao_plain hg ?_
  have hv := (hr.env (ds := []) (fun _ => True)).get hx trivial
  simp only [AV.holds] at hv
  obtain ⟨g, hgo, hv⟩ := hv
  obtain ⟨hh, hγ⟩ := iter_at hr.st hj hgo
  have hv2 : Act.eval ⟨tmps, []⟩ x = .pointer (some ⟨g, 0, none⟩) := hv
  refine outc (v := .tuple #[.bool false]) (w' := w) ?_ ?_
  · simp only [execOp, ho, hv2]
    simp [run_next_over hh hp]
  · have hput : ∀ v, (Act.put ⟨tmps, []⟩ o.dst v) = ⟨tmps.setIfInBounds d v, []⟩ := fun v => by rw [hd]; rfl
    rw [hput]
    refine next S γ _ _ (hr.put (Nat.le_of_ble_eq_true hn) ?_)
    simp only [AV.holds, AV.holdsL]
    exact ⟨_, rfl, _, _, rfl, rfl, rfl⟩
end
end Go.Proofs.YtgdkeafdlehlaaaDoor
