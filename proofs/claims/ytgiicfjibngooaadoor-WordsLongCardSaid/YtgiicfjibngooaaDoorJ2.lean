/- Words of our own for walks over abstract values, laid together. Nothing of the program stands here. -/
import Derived.Test.YtgiicfjibngooaaDoorG5
import Derived.Laws.AppendOwn
import Derived.Test.YtgiicfjibngooaaDoorG2
import Derived.Test.YtgiicfjibngooaaDoorJ1
import Derived.Laws.IdiomStrings
import Derived.Test.YtgiicfjibngooaaDoorG4
import Derived.Test.YtgiicfjibngooaaDoorG3
/- A resource called another name; zeros appended. Nothing of the program stands here. -/
namespace Go.Proofs.YtgiicfjibngooaaDoor
open Go Go.RowKit
set_option linter.unusedVariables false
set_option linter.unusedSimpArgs false
section
variable {P : Program} {T : List (Nat × TI)} {o : Oper} {fr : List (Nat × AV)} {H : List (Nat × Res)} {c : Ctx} {n : Nat} {Q : AQ} {ops : Array Oper} {rest : List Oper}
variable {S : Nat → Prop} {γ : Nat → Value} {w : World} {x y : Operand} {t t' : TypeId} {s b : Nat}
end
section
variable {P : Program} (w : World)
end
section
variable {P : Program} {T : List (Nat × TI)} {o : Oper} {fr : List (Nat × AV)} {H : List (Nat × Res)} {c : Ctx} {n : Nat} {Q : AQ} {ops : Array Oper} {rest : List Oper}
variable {x : Operand} {t tz : TypeId} {s b s2 b2 : Nat}
end
end Go.Proofs.YtgiicfjibngooaaDoor

/- Structs that hold a struct, compared; a nil slice in a box read qs0 an empty one. Nothing of the program stands here. -/
namespace Go.Proofs.YtgiicfjibngooaaDoor
open Go Go.RowKit
set_option linter.unusedVariables false
set_option linter.unusedSimpArgs false
section
variable {P : Program} {T : List (Nat × TI)} {o : Oper} {fr : List (Nat × AV)} {H : List (Nat × Res)} {S : Nat → Prop} {γ : Nat → Value} {w : World}
theorem EqOk.len {ks : List TK} {cs ds : List AV} {r : Bool} (h : EqOk ks cs ds r) : cs.length = ks.length ∧ ds.length = ks.length := by
  induction h with
  | nil => exact ⟨rfl, rfl⟩
  | int h ih => simp [ih.1, ih.2]
  | bool h ih => simp [ih.1, ih.2]
end
end Go.Proofs.YtgiicfjibngooaaDoor

/- A nil slice in a slot, read qs0 an empty one. Nothing of the program stands here. -/
namespace Go.Proofs.YtgiicfjibngooaaDoor
open Go Go.RowKit
set_option linter.unusedVariables false
section
variable {P : Program} {fr : List (Nat × AV)} {H : List (Nat × Res)} {c : Ctx} {n : Nat} {Q : AQ}
end
end Go.Proofs.YtgiicfjibngooaaDoor

/- Calls whose arguments must fit: they throw when they do not. Nothing of the program stands here. -/
namespace Go.Proofs.YtgiicfjibngooaaDoor
open Go Go.RowKit
set_option linter.unusedVariables false
section
variable {P : Program} {T : List (Nat × TI)} {fr : List (Nat × AV)} {H : List (Nat × Res)} {o : Oper} {x y : Operand} {t t' : TypeId} {s bt s' bt' : Nat} {j : IntKind} {a b : Int}
theorem sop_callCM {f : FuncId} {zs : Array Operand} {tys : Array TypeId} {qs0 : List AV} {out : AV} (hC : Con P f qs0 [] fun a h => a = out ∧ h = []) (ho : o.op = .call { callee := .value (.func f), args := zs, argTypes := tys } := by rfl) (hf : entersB P f = true := by kernel_rfl) (hargs : ArgsOk true fr H zs.toList qs0 := by ((repeat (first | exact .nil | refine .cons (by exact opv_std) ?_ | refine .lend rfl (by exact opv_std) (by rfl) ?_ | refine .nilS (by exact opv_std) ?_ | refine .lentS (by exact opv_std) ?_)); first | done | fail))
    (hout : AV.uses (fun _ => false) out = true := by rfl) (hB : out.flat = true := by rfl) : SOp P o fr H out := sop_call (B := true) ho hf hC hargs hout (.inr hB)
theorem sop_callNM {f : FuncId} {zs : Array Operand} {tys : Array TypeId} {qs0 : List AV} {out : AV} (hC : Con P f qs0 [] fun a h => a = out ∧ h = []) (ho : o.op = .call { callee := .value (.func f), args := zs, argTypes := tys } := by rfl) (hf : entersB P f = true := by kernel_rfl) (hargs : ArgsOk false fr H zs.toList qs0 := by ((repeat (first | exact .nil | refine .cons (by exact opv_std) ?_ | refine .lend rfl (by exact opv_std) (by rfl) ?_ | refine .nilS (by exact opv_std) ?_ | refine .lentS (by exact opv_std) ?_)); first | done | fail))
    (hout : AV.uses (fun _ => false) out = true := by rfl) : SOp P o fr H out := sop_call (B := false) ho hf hC hargs hout (.inl rfl)
end
end Go.Proofs.YtgiicfjibngooaaDoor

/- Bytes of a text; letters by numbers of any kind; parts of an own array; answers of two literals; low bits. Nothing of the program stands here. -/
namespace Go.Proofs.YtgiicfjibngooaaDoor
open Go Go.RowKit
set_option linter.unusedVariables false
set_option linter.unusedSimpArgs false
section
variable {P : Program} {T : List (Nat × TI)} {o : Oper} {fr : List (Nat × AV)} {H : List (Nat × Res)}
variable {x y : Operand} {t t' e s b s' b' s2 b2 : Nat} {l m : List UInt8}
theorem encU_holds {S : Nat → Prop} {γ : Nat → Value} {w : World} (xs : List UInt8) : AV.holdsL S γ w (encU.all xs) (bvs xs) := by
  induction xs with
  | nil => simp [Enc.all, AV.holdsL, bvs]
  | cons x xs ih =>
    have : encU.all (x :: xs) = .lit (.int .u8 (x.toNat : Int)) :: encU.all xs := rfl
    rw [this]
    simp only [bvs, List.map_cons, AV.holdsL, AV.holds]
    exact ⟨_, _, rfl, rfl, ih⟩
/-- []byte(s), to be read only -/
theorem sop_bytes (ho : o.op = .convert t t' x := by rfl) (hT : TTOk P T := by assumption) (ht : look T t = some ⟨.str, s, b⟩ := by rfl) (ht' : look T t' = some ⟨.slice e, s', b'⟩ := by rfl) (he : look T e = some ⟨.int .u8, s2, b2⟩ := by rfl) (hx : Opv fr x (.lit (.string (strOf l))) := by exact opv_std) : SOp P o fr H (.snap (slF encU l)) := fun S γ w ρ h => by
  have h1 := h.lit hx (by simp [ho, Op.operands])
  have hrun := run_bytes_of_string w t t' e (strOf l) (hT.str ht) (hT.slice ht') (hT.int he)
  have hsz : (strOf l).size = l.length := strOf_size l
  rw [hsz] at hrun
  refine outc (v := .slice (some ⟨w.heap.size, 0, none⟩) l.length (grownCap w l.length 0 e)) (w' := w.drew.alloc (.cells (bytesRow (strOf l) (grownCap w l.length 0 e)) e ((bytesRow (strOf l) (grownCap w l.length 0 e)).size, (bytesRow (strOf l) (grownCap w l.length 0 e)).size + 1))) ?_ ?_
  · simp only [execOp, ho, h1]
    exact (congrArg (fun r => r) (by simp [hrun]))
  · refine ⟨(Ext.drew w).trans (Ext.alloc w.drew _), ?_⟩
    have hg := heap_alloc_new w.drew (.cells (bytesRow (strOf l) (grownCap w l.length 0 e)) e ((bytesRow (strOf l) (grownCap w l.length 0 e)).size, (bytesRow (strOf l) (grownCap w l.length 0 e)).size + 1))
    simp only [AV.holds]
    refine ⟨some ⟨w.heap.size, 0, none⟩, grownCap w l.length 0 e, bvs l, rfl, grownCap_ge w l.length 0 e, ?_, encU_holds l, ?_⟩
    · intro _
      refine ⟨_, rfl, .inr ⟨Nat.le_refl _, by have := (Array.getElem?_eq_some_iff.1 hg).1; exact this⟩, fun j u hj => ?_⟩
      have hj1 : j < l.length := by
        have := (List.getElem?_eq_some_iff.1 hj).1
        simpa [bvs] using this
      rw [addr_add_ne, Nat.zero_add]
      refine (cell_of_row _ w.heap.size j _ e _ hg).trans ?_
      unfold bytesRow
      rw [Array.getElem?_append_left (by simp [strOf]; exact hj1)]
      rw [← hj]
      simp [strOf, bvs]
      rfl
    · intro u hu
      unfold bvs at hu
      obtain ⟨r, _, rfl⟩ := List.mem_map.1 hu
      rfl
theorem sop_index_strK {i : Int} {k : IntKind} (ho : o.op = .index t x y := by rfl) (hT : TTOk P T := by assumption) (ht : look T t = some ⟨.str, s, b⟩ := by rfl) (hx : Opv fr x (.lit (.string (strOf l))) := by exact opv_std) (hy : Opv fr y (.lit (.int k i)) := by exact opv_std) (h0 : 0 ≤ i := by omega) (h1 : i < (l.length : Int) := by first | omega | (simp only [List.length_append, List.length_cons, List.length_nil, List.length_take, List.length_drop, List.length_replicate, List.length_map, List.length_set]; omega)) : SOp P o fr H (.lit (.int .u8 ((nth l i.toNat).toNat : Int))) := fun S γ w ρ h => by
  obtain ⟨k, rfl⟩ := Int.eq_ofNat_of_zero_le h0
  have g1 := h.lit hx (by simp [ho, Op.operands])
  have g2 := h.lit hy (by simp [ho, Op.operands])
  have hk : k < l.length := by omega
  have e1 : (strOf l)[k]? = some l[k] := by
    rw [getElem?_pos (strOf l) k (by rw [strOf_size]; exact hk)]
    rfl
  refine outl ?_
  have e2 : (nth l (Int.toNat (k : Int))) = l[k] := by rw [Int.toNat_natCast, nth_eq hk]
  rw [e2]
  simp [execOp, ho, g1, g2, Instr.index, run_underlying (hT.str ht), asIntOf, e1]
/-- a part of an own array, qs0 a slice -/
theorem sop_slice_arr {nn j : Nat} {ei : TI} {i : Int} (ho : o.op = .slice t x (some y) none none := by rfl) (hT : TTOk P T := by assumption) (ht : look T t = some ⟨.array nn e, s, b⟩ := by rfl) (he : look T e = some ei := by rfl) (h1s : ei.size = 1 := by rfl)
    (hx : Opv fr x (.ptr j 0) := by exact opv_std) (hy : Opv fr y (.lit (.int .i64 i)) := by exact opv_std) (h0 : 0 ≤ i := by omega) (hk : i < (nn : Int) := by omega) : SOp P o fr H (.sl j i.toNat (nn - i.toNat) (nn - i.toNat)) := fun S γ w ρ h => by
  obtain ⟨k, rfl⟩ := Int.eq_ofNat_of_zero_le h0
  have g1 := h.get hx (by simp [ho, Op.operands])
  have g2 := h.lit hy (by simp [ho, Op.operands])
  simp only [AV.holds] at g1
  obtain ⟨g, hg, hv⟩ := g1
  have hk' : k ≤ nn := by omega
  have hk2 : ¬ nn = k := by omega
  refine outs (v := .slice (some ⟨g, k, none⟩) (nn - k) (nn - k)) ?_ (by simp only [AV.holds, Int.toNat_natCast]; exact ⟨g, hg, rfl⟩)
  simp [execOp, ho, hv, g2, Instr.sliceAt, Instr.slice, run_underlying (hT.array ht), Instr.sliceBounds, Instr.sliceBound, asIntOf, hT.size he, h1s, Instr.sureAddr, hk', hk2, addr_add_ne]
theorem sop_str_sl {j off mm kk : Nat} (ho : o.op = .convert t t' x := by rfl) (hT : TTOk P T := by assumption) (ht : look T t = some ⟨.slice e, s, b⟩ := by rfl) (he : look T e = some ⟨.int .u8, s2, b2⟩ := by rfl) (ht' : look T t' = some ⟨.str, s', b'⟩ := by rfl) (hx : Opv fr x (.sl j off mm kk) := by exact opv_std) (hj : look H j = some (.box (encU.all l)) := by rfl) (hl : off + mm = l.length := by first | omega | (simp only [List.length_append, List.length_cons, List.length_nil, List.length_take, List.length_drop, List.length_replicate, List.length_map, List.length_set]; omega)) (hk : mm ≤ kk := by omega) : SOp P o fr H (.lit (.string (strOf (l.drop off)))) := fun S γ w ρ h => by
  have h1 := h.get hx (by simp [ho, Op.operands])
  simp only [AV.holds] at h1
  obtain ⟨g, hg, hv⟩ := h1
  obtain ⟨arr, e', hh, hL⟩ := box_cell h.st hj hg
  have hvs := encU_vs hL
  have hrb : RB w (ρ x) (l.drop off) := by
    refine ⟨some ⟨g, off, none⟩, kk, ?_, by rw [List.length_drop]; omega, ?_⟩
    · rw [hv, List.length_drop, show l.length - off = mm by omega]
    · intro _
      refine ⟨_, rfl, fun i u hi => ?_⟩
      rw [addr_add_ne]
      refine (cell_of_row w g _ arr _ _ hh).trans ?_
      rw [← Array.getElem?_toList, hvs, ← hi]
      simp [bvs, bv, List.getElem?_drop]
  refine outl ?_
  simp [execOp, ho, run_rb_string (hT.slice ht) (hT.int he) (hT.str ht') hrb]
theorem bits_and_lo {k m : Nat} (x : Int) (hx : 0 ≤ x) (hx2 : x < 18446744073709551616) (hm : k < 64) (hk : m + 1 = 2 ^ k) : bits .and .u64 x (m : Int) = x % (2 ^ k : Nat) := by
  obtain ⟨n, rfl⟩ := Int.eq_ofNat_of_zero_le hx
  have h2 : 2 ^ k ≤ 2 ^ 63 := Nat.pow_le_pow_right (by omega) (by omega)
  rw [bits_and_u64_nat n m (by omega) (by omega)]
  have : m = 2 ^ k - 1 := by omega
  rw [this, Nat.and_two_pow_sub_one_eq_mod]
  rfl
/-- the lowest four bits -/
theorem sop_and15 {a c : Int} (ho : o.op = .binOp .and t x y t' := by rfl) (hx : Opv fr x (.lit (.int .u64 a)) := by exact opv_std) (hy : Opv fr y (.lit (.int .u64 c)) := by exact opv_std) (hc : c = 15 := by first | rfl | omega) (h0 : 0 ≤ a := by omega) (h1 : a < 18446744073709551616 := by omega) : SOp P o fr H (.lit (.int .u64 (a % 16))) :=
  sop_cast (sop_and ho hx hy) (by subst hc; exact congrArg (fun r => Value.int .u64 r) (bits_and_lo (k := 4) (m := 15) a h0 h1 (by omega) rfl))
theorem bits_or_lo (a d : Int) (h0 : 0 ≤ a) (hd0 : 0 ≤ d) (hd : d < 16) : bits .or .u64 (a * 16 % 18446744073709551616) d = (a * 16 + d) % 18446744073709551616 := by
  obtain ⟨n, rfl⟩ := Int.eq_ofNat_of_zero_le h0
  obtain ⟨r, rfl⟩ := Int.eq_ofNat_of_zero_le hd0
  have e1 : ((n : Int) * 16 % 18446744073709551616) = ((2 ^ 4 * (n % 1152921504606846976) : Nat) : Int) := by omega
  rw [e1, bits_or_u64_nat _ _ (by omega) (by omega), ← Nat.two_pow_add_eq_or_of_lt (show r < 2 ^ 4 by omega)]
  omega
theorem sop_shl4 {a c : Int} {k' : IntKind} (ho : o.op = .binOp .shl t x y t' := by rfl) (hx : Opv fr x (.lit (.int .u64 a)) := by exact opv_std) (hy : Opv fr y (.lit (.int k' c)) := by exact opv_std) (hc : c = 4 := by first | rfl | omega) : SOp P o fr H (.lit (.int .u64 (a * 16 % 18446744073709551616))) :=
  sop_cast (sop_shl ho hx hy (by omega)) (by subst hc; rw [IntKind.wrap_u64]; rfl)
theorem sop_or4 {a d : Int} (ho : o.op = .binOp .or t x y t' := by rfl) (hx : Opv fr x (.lit (.int .u64 (a * 16 % 18446744073709551616))) := by exact opv_std) (hy : Opv fr y (.lit (.int .u64 d)) := by exact opv_std) (h0 : 0 ≤ a := by omega) (hd0 : 0 ≤ d := by omega) (hd : d < 16 := by omega) : SOp P o fr H (.lit (.int .u64 ((a * 16 + d) % 18446744073709551616))) :=
  sop_cast (sop_or ho hx hy) (congrArg (fun r => Value.int .u64 r) (bits_or_lo a d h0 hd0 hd))
theorem lits_holdsL {S : Nat → Prop} {γ : Nat → Value} {w : World} : ∀ us : List Value, AV.holdsL S γ w (us.map AV.lit) us
  | [] => by simp [AV.holdsL]
  | u :: us => by
    simp only [List.map_cons, AV.holdsL, AV.holds]
    exact ⟨u, us, rfl, rfl, lits_holdsL us⟩
/-- an answer of some literals -/
theorem con_lits {P : Program} {f : FuncId} {us rs : List Value} (h : ∀ (S : Nat → Prop) (w : World), SzA S w → Calls P f us.toArray w fun e w' => e = .returned (.tuple rs.toArray) ∧ Ext w w') : Con P f (us.map AV.lit) [] fun a hz => a = .tup (rs.map AV.lit) ∧ hz = [] := fun S γ w vs hst hargs => by
  have := holdsL_lits hargs
  subst this
  refine (h S w hst.sz).mono ?_
  rintro e w' ⟨rfl, hx⟩
  refine ⟨_, .tup (rs.map AV.lit), [], FreshS S w w', γ, rfl, ⟨rfl, rfl⟩, ⟨hx.os, hx.tape, hx.output, hx.size, fun b hb _ => hx.block b hb⟩, ?_, by simp only [AV.holds]; exact ⟨rs, rfl, lits_holdsL rs⟩, ⟨fun j r h => by simp [look] at h, fun i j ri rj b h => by simp [look] at h, fun j r b h => by simp [look] at h, ?_, hst.one⟩, fun j r b h => by simp [look] at h, fun _ _ _ => rfl⟩
  · rintro b (h | ⟨h, _⟩)
    · exact .inl h
    · exact .inr (.inl h)
  · refine hst.sz.to freshS_sub (same_of_ext hst.sz hx) ?_
    rintro b (h | ⟨_, h⟩)
    · have := hst.sz b h; have := hx.size; omega
    · exact h
/-- an answer that some fact tells of -/
theorem con_fact {P : Program} {f : FuncId} {us : List Value} {F : SFact} (h : ∀ (S : Nat → Prop) (w : World), SzA S w → Calls P f us.toArray w fun e w' => ∃ v, e = .returned v ∧ Ext w w' ∧ F.holds (FreshS S w w') w' v) : Con P f (us.map AV.lit) [] fun a hz => a = .snap F ∧ hz = [] := fun S γ w vs hst hargs => by
  have := holdsL_lits hargs
  subst this
  refine (h S w hst.sz).mono ?_
  rintro e w' ⟨v, rfl, hx, hf⟩
  refine ⟨v, .snap F, [], FreshS S w w', γ, rfl, ⟨rfl, rfl⟩, ⟨hx.os, hx.tape, hx.output, hx.size, fun b hb _ => hx.block b hb⟩, ?_, by simp only [AV.holds]; exact hf, ⟨fun j r h => by simp [look] at h, fun i j ri rj b h => by simp [look] at h, fun j r b h => by simp [look] at h, ?_, hst.one⟩, fun j r b h => by simp [look] at h, fun _ _ _ => rfl⟩
  · rintro b (h | ⟨h, _⟩)
    · exact .inl h
    · exact .inr (.inl h)
  · refine hst.sz.to freshS_sub (same_of_ext hst.sz hx) ?_
    rintro b (h | ⟨_, h⟩)
    · have := hst.sz b h; have := hx.size; omega
    · exact h
theorem sop_sub_u8in {a c : Int} (ho : o.op = .binOp .sub t x y t' := by rfl) (hx : Opv fr x (.lit (.int .u8 a)) := by exact opv_std) (hy : Opv fr y (.lit (.int .u8 c)) := by exact opv_std) (h0 : 0 ≤ a - c := by omega) (h1 : a - c ≤ 255 := by omega) : SOp P o fr H (.lit (.int .u8 (a - c))) :=
  sop_cast (sop_sub ho hx hy) (congrArg (fun r => Value.int .u8 r) (by rw [IntKind.wrap_u8]; omega))
theorem sop_add_u8in {a c : Int} (ho : o.op = .binOp .add t x y t' := by rfl) (hx : Opv fr x (.lit (.int .u8 a)) := by exact opv_std) (hy : Opv fr y (.lit (.int .u8 c)) := by exact opv_std) (h0 : 0 ≤ a + c := by omega) (h1 : a + c ≤ 255 := by omega) : SOp P o fr H (.lit (.int .u8 (a + c))) :=
  sop_cast (sop_add ho hx hy) (congrArg (fun r => Value.int .u8 r) (by rw [IntKind.wrap_u8]; omega))
theorem sop_mul16_u64in {a c : Int} (ho : o.op = .binOp .mul t x y t' := by rfl) (hx : Opv fr x (.lit (.int .u64 a)) := by exact opv_std) (hy : Opv fr y (.lit (.int .u64 c)) := by exact opv_std) (hc : c = 16 := by first | rfl | omega) (h0 : 0 ≤ a := by omega) (h1 : a < 1152921504606846976 := by omega) : SOp P o fr H (.lit (.int .u64 (a * 16))) :=
  sop_cast (sop_mul ho hx hy) (congrArg (fun r => Value.int .u64 r) (by subst hc; rw [IntKind.wrap_u64]; omega))
/-- some four bits down -/
theorem sop_shr_4i {a i : Nat} {c : Int} {k' : IntKind} (ho : o.op = .binOp .shr t x y t' := by rfl) (hx : Opv fr x (.lit (.int .u64 (a : Int))) := by exact opv_std) (hy : Opv fr y (.lit (.int k' c)) := by exact opv_std) (hc : c = 4 * (i : Int)) (hi : i ≤ 15) : SOp P o fr H (.lit (.int .u64 ((a / 16 ^ i : Nat) : Int))) :=
  sop_cast (sop_shr ho hx hy (by omega)) (congrArg (fun r => Value.int .u64 r) (by
    have e1 : c.toNat = 4 * i := by omega
    have e2 : min (4 * i) IntKind.u64.bits = 4 * i := Nat.min_eq_left (by show 4 * i ≤ 64; omega)
    rw [e1, e2, Int.fdiv_eq_ediv_of_nonneg _ (by exact Int.le_of_lt (Int.pow_pos (by omega)))]
    have e3 : (2 : Int) ^ (4 * i) = ((16 ^ i : Nat) : Int) := by
      rw [Int.pow_mul]
      push_cast
      rfl
    rw [e3]
    rfl))
/-- one letter of a text -/
theorem sop_slice_str1 {i j : Int} {ylo yhi : Operand} (ho : o.op = .slice t x (some ylo) (some yhi) none := by rfl) (hT : TTOk P T := by assumption) (ht : look T t = some ⟨.str, s, b⟩ := by rfl) (hx : Opv fr x (.lit (.string (strOf l))) := by exact opv_std) (hlo : Opv fr ylo (.lit (.int .i64 i)) := by exact opv_std) (hhi : Opv fr yhi (.lit (.int .i64 j)) := by exact opv_std) (hj : j = i + 1 := by first | rfl | omega) (h0 : 0 ≤ i := by omega) (h1 : i < (l.length : Int) := by first | omega | (simp only [List.length_append, List.length_cons, List.length_nil, List.length_take, List.length_drop, List.length_replicate, List.length_map, List.length_set]; omega)) : SOp P o fr H (.lit (.string (strOf [nth l i.toNat]))) := by
  obtain ⟨k, rfl⟩ := Int.eq_ofNat_of_zero_le h0
  have hk : k < l.length := by omega
  have e : (l.drop k).take (k + 1 - k) = [nth l (Int.toNat (k : Int))] := by
    rw [Int.toNat_natCast, nth_eq hk, List.drop_eq_getElem_cons hk, Nat.add_sub_cancel_left]
    rfl
  have := sop_slice_str k (k + 1) ylo yhi (P := P) (fr := fr) (H := H) ho hT ht hx hlo (by rw [hj] at hhi; exact_mod_cast hhi) (by omega) (by omega)
  rwa [e] at this
/-- an interface value that is not nil -/
def nnF : SFact where
  holds S w v := ∃ t p, v = .iface t p
  mono := by
    rintro S S' w w' v h hs hw
    exact h
  one := by
    rintro S w v ⟨t, p, rfl⟩
    rfl
theorem sop_neq_nn (ho : o.op = .binOp .neq t x (.const .nilIface) t' := by rfl) (hT : TTOk P T := by assumption) (ht : look T t = some ⟨.iface, s, b⟩ := by rfl) (hx : Opv fr x (.snap nnF) := by exact opv_std) : SOp P o fr H (.lit (.bool true)) := fun S γ w ρ h => by
  have h1 := h.get hx (by simp [ho, Op.operands])
  simp only [AV.holds] at h1
  obtain ⟨a, p, hv⟩ := h1
  have h2 : ρ (.const .nilIface) = .nilIface := h.const _
  obtain ⟨ms, hu⟩ := hT.iface ht
  refine outl ?_
  simp [execOp, ho, hv, h2, eqGuard, go_sem, hu]
theorem sop_neq_il {p : Value} {tt : TypeId} (ho : o.op = .binOp .neq t x (.const .nilIface) t' := by rfl) (hT : TTOk P T := by assumption) (ht : look T t = some ⟨.iface, s, b⟩ := by rfl) (hx : Opv fr x (.lit (.iface tt p)) := by exact opv_std) : SOp P o fr H (.lit (.bool true)) := fun S γ w ρ h => by
  have h1 := h.lit hx (by simp [ho, Op.operands])
  have h2 : ρ (.const .nilIface) = .nilIface := h.const _
  obtain ⟨ms, hu⟩ := hT.iface ht
  refine outl ?_
  simp [execOp, ho, h1, h2, eqGuard, go_sem, hu]
theorem sop_neq_in (ho : o.op = .binOp .neq t x (.const .nilIface) t' := by rfl) (hT : TTOk P T := by assumption) (ht : look T t = some ⟨.iface, s, b⟩ := by rfl) (hx : Opv fr x (.lit .nilIface) := by exact opv_std) : SOp P o fr H (.lit (.bool false)) := fun S γ w ρ h => by
  have h1 := h.lit hx (by simp [ho, Op.operands])
  have h2 : ρ (.const .nilIface) = .nilIface := h.const _
  obtain ⟨ms, hu⟩ := hT.iface ht
  refine outl ?_
  simp [execOp, ho, h1, h2, eqGuard, go_sem, hu]
/-- a number in an interface -/
theorem sop_mkIface {n : Int} {k k' : IntKind} (ho : o.op = .makeInterface t x := by rfl) (hT : TTOk P T := by assumption) (ht : look T t = some ⟨.int k, s, b⟩ := by rfl) (hx : Opv fr x (.lit (.int k' n)) := by exact opv_std) : SOp P o fr H (.lit (.iface t (.int k' n))) := fun S γ w ρ h => by
  have h1 := h.lit hx (by simp [ho, Op.operands])
  refine outl ?_
  have hrun : (Instr.makeInterface t (.int k' n)).run P w = .ok (.iface t (.int k' n)) w := by
    unfold Instr.makeInterface
    rw [Sem.run_bind, run_underlying (hT.int ht)]
    rfl
  simp [execOp, ho, h1, hrun]
end
section
variable {P : Program} {c : Ctx} {n : Nat} {Q : AQ} {fr : List (Nat × AV)} {H : List (Nat × Res)}
theorem encU_read (u : UInt8) : encU.read [.lit (.int .u8 (u.toNat : Int))] = u := by
  show UInt8.ofNat (Int.toNat (u.toNat : Int)) = u
  rw [Int.toNat_natCast, UInt8.ofNat_toNat]
theorem ao_store_arrU {T : List (Nat × TI)} {ops : Array Oper} {rest : List Oper} {o : Oper} {x y : Operand} {t : TypeId} {xs : List UInt8} {u : UInt8} {j k sz : Nat} {ti : TI} (hg : o.guard = none := by rfl) (hd : o.dst = none := by rfl) (ho : o.op = .store t x y := by rfl) (hT : TTOk P T := by assumption) (ht : look T t = some ti := by rfl) (hx : Opv fr x (.ptr j (0 + k * sz)) := by exact opv_std) (hj : look H j = some (.box (encU.all xs)) := by rfl) (hsz : sz = 1 := by rfl) (hk : k < xs.length := by omega)
    (hy : Opv fr y (.lit (.int .u8 (u.toNat : Int))) := by exact opv_std) (hl : ti.size = 1 := by rfl)
    (next : AOps P c n ops rest Q fr ((j, .box (encU.all (xs.set k u))) :: dropH (one1 j) H)) : AOps P c n ops (o :: rest) Q fr H :=
  ao_store_arr (E := encU) hg hd ho hT ht hx hj hsz rfl hk hy rfl rfl hl (by rw [encU_read]; rfl) (by rw [encU_read]; exact next)
theorem a_reboxC {code : Code} (j : Nat) (cs' : List AV) {cs : List AV} (hj : look H j = some (.box cs)) (he : cs = cs') (h : ACode P c n code Q fr ((j, .box cs') :: H)) : ACode P c n code Q fr H := fun S γ tmps w hr => by
  subst he
  refine h S γ tmps w (hr.sub (fun _ _ h => h) fun i r hi => ?_)
  rw [look_cons] at hi
  split at hi
  · rename_i e; subst e; rw [← hi]; exact hj
  · exact hi
end
end Go.Proofs.YtgiicfjibngooaaDoor

/- Interface values that hold structs: making them, asking for a type, calling a method. Nothing of the program stands here. -/
namespace Go.Proofs.YtgiicfjibngooaaDoor
open Go Go.RowKit
set_option linter.unusedVariables false
set_option linter.unusedSimpArgs false
/-- an interface value that holds a value of type t which is qs0 a says -/
def ifF (t : TypeId) (a : AV) : SFact where
  holds S w v := ∃ u, v = .iface t u ∧ a.holds S noγ w u
  mono := by
    rintro S S' w w' v ⟨u, rfl, h⟩ hs hw
    exact ⟨u, rfl, AV.ext hs hw h⟩
  one := by
    rintro S w v ⟨u, rfl, _⟩
    rfl
theorem plainA {S : Nat → Prop} {γ γ' : Nat → Value} {w : World} {a : AV} {v : Value} (hp : a.uses (fun _ => false) = true) (h : a.holds S γ w v) : a.holds S γ' w v :=
  AV.mono (fun _ h => h) (fun _ _ => rfl) (fun _ => false) (fun _ h => by cases h) a v hp h
section
variable {P : Program} {T : List (Nat × TI)} {fr : List (Nat × AV)} {H : List (Nat × Res)} {o : Oper} {x : Operand} {t xt t' s b : Nat}
theorem TTOk.structU {fs : List (TypeId × Nat)} (h : TTOk P T) (hl : look T t = some ⟨.struct fs, s, b⟩) : ∃ d, P.underlying t = some (.struct d) := by
  obtain ⟨hk, _⟩ := h.ok t _ hl
  unfold tkOf at hk
  cases hu : P.underlying t with
  | none => rw [hu] at hk; cases hk
  | some d =>
    rw [hu] at hk
    cases d <;> simp only [reduceCtorEq] at hk
    exact ⟨_, rfl⟩
theorem sop_mkIfaceA {fs : List (TypeId × Nat)} {a : AV} (ho : o.op = .makeInterface t x := by rfl) (hT : TTOk P T := by assumption) (ht : look T t = some ⟨.struct fs, s, b⟩ := by rfl) (hx : Opv fr x a := by exact opv_std) (hp : a.uses (fun _ => false) = true := by rfl) : SOp P o fr H (.snap (ifF t a)) := fun S γ w ρ h => by
  have h1 := h.get hx (by simp [ho, Op.operands])
  obtain ⟨d, hu⟩ := hT.structU ht
  refine outs (v := .iface t (ρ x)) ?_ ⟨_, rfl, plainA hp h1⟩
  simp [execOp, ho, Instr.makeInterface, run_underlying hu]
theorem sop_mkIfaceP {e : TypeId} {F : SFact} (ho : o.op = .makeInterface t x := by rfl) (hT : TTOk P T := by assumption) (ht : look T t = some ⟨.ptr e, s, b⟩ := by rfl) (hx : Opv fr x (.snap F) := by exact opv_std) : SOp P o fr H (.snap (ifF t (.snap F))) := fun S γ w ρ h => by
  have h1 := h.get hx (by simp [ho, Op.operands])
  refine outs (v := .iface t (ρ x)) ?_ ⟨_, rfl, plainA rfl h1⟩
  simp [execOp, ho, Instr.makeInterface, run_underlying (hT.ptr ht)]
theorem sop_ta_yes {fs : List (TypeId × Nat)} {a : AV} (ho : o.op = .typeAssert x xt t true := by rfl) (hT : TTOk P T := by assumption) (ht : look T t = some ⟨.struct fs, s, b⟩ := by rfl) (hx : Opv fr x (.snap (ifF t a)) := by exact opv_std) (hp : a.uses (fun _ => false) = true := by rfl) : SOp P o fr H (.tup [a, .lit (.bool true)]) := fun S γ w ρ h => by
  have h1 := h.get hx (by simp [ho, Op.operands])
  simp only [AV.holds] at h1
  obtain ⟨u, hv, ha⟩ := h1
  obtain ⟨d, hu⟩ := hT.structU ht
  refine outs (v := .tuple #[u, .bool true]) ?_ ?_
  · simp [execOp, ho, hv, Instr.typeAssert, run_underlying hu]
  · simp only [AV.holds, AV.holdsL]
    exact ⟨[u, .bool true], rfl, u, [.bool true], rfl, plainA hp ha, .bool true, [], rfl, rfl, rfl⟩
/-- the zero value of a struct -/
def zAggB (P : Program) (t : TypeId) (zs : List Z) : Bool := match (P.info? t).bind (·.zero) with
  | some (.agg cs) => zerosB zs cs.toList
  | _ => false
theorem zAggB_eq {zs : List Z} (h : zAggB P t zs = true) (w : World) : (zeroValue t).run P w = .ok (.agg (zs.map Z.val).toArray) w := by
  unfold zAggB at h
  cases hi : P.info? t with
  | none => simp [hi] at h
  | some i =>
    cases hz : i.zero with
    | none => simp [hi, hz] at h
    | some z =>
      simp only [hi, hz, Option.bind_some] at h
      cases z with
      | agg cs =>
        have := zerosB_eq h
        simp [zeroValue, typeInfo, hi, hz, ← this]
      | _ => simp at h
theorem sop_ta_no {fs : List (TypeId × Nat)} {ZT : List (Nat × List Z)} {zs : List Z} {a : AV} (ho : o.op = .typeAssert x xt t true := by rfl) (hT : TTOk P T := by assumption) (ht : look T t = some ⟨.struct fs, s, b⟩ := by rfl) (hZ : ZOk P ZT := by assumption) (hz : look ZT t = some zs := by rfl) (hx : Opv fr x (.snap (ifF t' a)) := by exact opv_std) (hne : Nat.beq t' t = false := by rfl) (hb : zAggB P t zs = true := by kernel_rfl) : SOp P o fr H (.tup [.agg (zAV zs), .lit (.bool false)]) := fun S γ w ρ h => by
  have h1 := h.get hx (by simp [ho, Op.operands])
  simp only [AV.holds] at h1
  obtain ⟨u, hv, ha⟩ := h1
  obtain ⟨d, hu⟩ := hT.structU ht
  have hne' : ¬ t' = t := fun e => by subst e; rw [Nat.beq_refl] at hne; cases hne
  refine outs (v := .tuple #[.agg (zs.map Z.val).toArray, .bool false]) ?_ ?_
  · simp [execOp, ho, hv, Instr.typeAssert, run_underlying hu, hne', zAggB_eq hb]
  · simp only [AV.holds, AV.holdsL]
    exact ⟨[_, .bool false], rfl, _, [.bool false], rfl, ⟨_, rfl, zAV_holds zs⟩, .bool false, [], rfl, rfl, rfl⟩
theorem sop_ta_nil {fs : List (TypeId × Nat)} {ZT : List (Nat × List Z)} {zs : List Z} (ho : o.op = .typeAssert x xt t true := by rfl) (hT : TTOk P T := by assumption) (ht : look T t = some ⟨.struct fs, s, b⟩ := by rfl) (hZ : ZOk P ZT := by assumption) (hz : look ZT t = some zs := by rfl) (hx : Opv fr x (.lit .nilIface) := by exact opv_std) (hb : zAggB P t zs = true := by kernel_rfl) : SOp P o fr H (.tup [.agg (zAV zs), .lit (.bool false)]) := fun S γ w ρ h => by
  have hv := h.lit hx (by simp [ho, Op.operands])
  obtain ⟨d, hu⟩ := hT.structU ht
  refine outs (v := .tuple #[.agg (zs.map Z.val).toArray, .bool false]) ?_ ?_
  · simp [execOp, ho, hv, Instr.typeAssert, run_underlying hu, zAggB_eq hb]
  · simp only [AV.holds, AV.holdsL]
    exact ⟨[_, .bool false], rfl, _, [.bool false], rfl, ⟨_, rfl, zAV_holds zs⟩, .bool false, [], rfl, rfl, rfl⟩
theorem sop_eqn_if {a : AV} (ho : o.op = .binOp .eql t x (.const .nilIface) t' := by rfl) (hT : TTOk P T := by assumption) (ht : look T t = some ⟨.iface, s, b⟩ := by rfl) (hx : Opv fr x (.snap (ifF xt a)) := by exact opv_std) : SOp P o fr H (.lit (.bool false)) := fun S γ w ρ h => by
  have h1 := h.get hx (by simp [ho, Op.operands])
  simp only [AV.holds] at h1
  obtain ⟨u, hv, ha⟩ := h1
  have hy : ρ (.const .nilIface) = .nilIface := h.const _
  obtain ⟨ms, hu⟩ := hT.iface ht
  refine outl ?_
  simp [execOp, ho, hv, hy, eqGuard, go_sem, hu]
/-- that method of type t is f, of the value itself -/
def methB (P : Program) (t : TypeId) (nm : String) (f : FuncId) : Bool := match P.info? t with
  | some i => match i.methods.find? (·.name == nm) with
    | some m => match m.path.toList with
      | [] => match m.func with
        | some (g, false) => match P.underlying t with
          | some (.struct _) => Nat.beq g f
          | _ => false
        | _ => false
      | _ => false
    | none => false
  | none => false
theorem out_invoke {R : Value → World → Prop} {ρ : Operand → Value} {w : World} {f : FuncId} {nm : String} {tys : Array TypeId} {u : Value} (ho : o.op = .call { callee := .invoke x nm, args := #[], argTypes := tys }) (hx : ρ x = .iface t u) (hm : methB P t nm f = true) (hf : entersB P f = true)
    (h : Calls P f #[u] w fun e w' => ∃ v, e = .returned v ∧ R v w') : Outcome P R ((execOp ρ o).run P w) := by
  unfold entersB at hf
  cases hfn : P.funcs[f]? with
  | none => simp [hfn] at hf
  | some fn =>
    simp only [hfn, Bool.and_eq_true, Bool.not_eq_true'] at hf
    have hrun : (execOp ρ o).run P w = .ok (.enter f #[u]) w := by
      have h1 : ¬ fn.name = "runtime.NumGoroutine" := by simpa using hf.1
      have h2 : ¬ fn.body = none := by intro e; simp [e] at hf
      unfold methB at hm
      cases hi : P.info? t with
      | none => simp [hi] at hm
      | some i =>
        simp only [hi] at hm
        cases hf2 : i.methods.find? (·.name == nm) with
        | none => simp [hf2] at hm
        | some m =>
          simp only [hf2] at hm
          cases hp : m.path.toList with
          | cons _ _ => simp [hp] at hm
          | nil =>
            simp only [hp] at hm
            cases hg : m.func with
            | none => simp [hg] at hm
            | some gp =>
              obtain ⟨g, pr⟩ := gp
              cases pr with
              | true => simp [hg] at hm
              | false =>
                simp only [hg] at hm
                cases hu : P.underlying t with
                | none => simp [hu] at hm
                | some d =>
                  cases d <;> simp only [hu, reduceCtorEq, Bool.false_eq_true] at hm
                  have := Nat.eq_of_beq_eq_true hm
                  subst this
                  have hk : ∀ k, (method (k + 1) t u nm).run P w = .ok (g, u) w := fun k => by
                    simp [method, typeInfo, hi, hf2, hp, hg, follow, receiverAt, run_underlying hu, Place.get]
                  have hk2 : ∀ k, 0 < k → (method k t u nm).run P w = .ok (g, u) w := fun k h => by
                    obtain ⟨k', rfl⟩ : ∃ k', k = k' + 1 := ⟨k - 1, by omega⟩
                    exact hk k'
                  have hc : (callMethod (.iface t u) nm #[]).run P w = .ok (.enter g #[u]) w := by
                    have h3 : 0 < P.types.size + Made.depth := by have : Made.depth = 100 := rfl; omega
                    generalize hK : P.types.size + Made.depth = K at h3
                    have h4 := hk2 K h3
                    simp only [callMethod, Sem.run_bind, run_program, Result.andThen_ok, hK, h4]
                    simp [callFunc, hfn, h1, h2]
                  have hi2 : (invoke (.fn (.method nm) #[]) #[.iface t u]).run P w = .ok (.enter g #[u]) w := by
                    have : (#[Value.iface t u].extract 1 #[Value.iface t u].size) = #[] := rfl
                    simp only [invoke]
                    exact hc
                  simp only [execOp, ho, resolve, hx, Sem.run_bind, Sem.run_pure, Result.andThen_ok, List.map_toArray, List.map_nil, Array.append_empty]
                  exact hi2
    rw [hrun]
    exact h
theorem sop_invoke {f : FuncId} {nm : String} {tys : Array TypeId} {a : AV} {out : AV} (hC : Con P f [a] [] fun z h => z = out ∧ h = []) (ho : o.op = .call { callee := .invoke x nm, args := #[], argTypes := tys } := by rfl) (hx : Opv fr x (.snap (ifF t a)) := by exact opv_std) (hm : methB P t nm f = true := by kernel_rfl) (hf : entersB P f = true := by kernel_rfl)
    (hout : AV.uses (fun _ => false) out = true := by rfl) : SOp P o fr H out := fun S γ w ρ env => by
  have h1 := env.get hx (by simp [ho, Op.operands, Call.operands])
  simp only [AV.holds] at h1
  obtain ⟨u, hv, ha⟩ := h1
  refine out_invoke ho hv hm hf ?_
  have hcall := hC S noγ w [u] (St.nil env.st.sz (fun _ => rfl)) ⟨u, [], rfl, ha, rfl⟩
  refine hcall.mono ?_
  rintro e w' ⟨v, out', Hout, S', γ', rfl, ⟨rfl, rfl⟩, hp⟩
  have hx2 : Ext w w' := ⟨hp.keep.os, hp.keep.tape, hp.keep.output, hp.keep.size, fun b hb => hp.keep.block b hb (by rintro ⟨j, r, hj, _⟩; simp [look] at hj)⟩
  refine ⟨v, rfl, hx2, ?_⟩
  refine AV.mono (fun b hb => ?_) (fun _ _ => rfl) (fun _ => false) (fun _ h => by cases h) out' v hout hp.val
  rcases hp.up b hb with h | h | ⟨j, r, hj, _⟩
  · exact .inl h
  · exact .inr ⟨h, hp.st.sz b hb⟩
  · simp [look] at hj
end
end Go.Proofs.YtgiicfjibngooaaDoor

/- A walk cut in two ahead of a region: ways that part and meet again are walked on once. Nothing of the program stands here. -/
namespace Go.Proofs.YtgiicfjibngooaaDoor
open Go Go.RowKit
set_option linter.unusedVariables false
/-- the region that a code begins with -/
def headR : Code → Nat
  | .region id _ _ => id
  | .seq x _ => headR x
  | .block _ x => headR x
  | .loop x => headR x
  | .scope x => headR x
  | _ => 1000000
/-- what of a sequence begins with that region -/
def sufR (id : Nat) : Code → Code
  | .seq x y => match Nat.beq (headR y) id with
    | true => y
    | false => sufR id y
  | c => c
def hasR (id : Nat) : Code → Bool
  | .seq x y => match Nat.beq (headR y) id with
    | true => true
    | false => hasR id y
  | c => false
structure AHold (p : Prop) : Prop where
  go : p
section
variable {P : Program} {c : Ctx} {n : Nat} {Q : AQ} {fr : List (Nat × AV)} {H : List (Nat × Res)}
/-- what is left when a way reaches the cut -/
structure AMid {ι : Type} (good : ι → Prop) (mid : ι → List (Nat × AV)) (midH : ι → List (Nat × Res)) (fr' : List (Nat × AV)) (H' : List (Nat × Res)) : Prop where
  go : ∃ i, good i ∧ Cov fr' H' (mid i) (midH i)
theorem amid {ι : Type} {good : ι → Prop} {mid : ι → List (Nat × AV)} {midH : ι → List (Nat × Res)} (i : ι) (hg : good i) (hc : Cov fr H (mid i) (midH i)) : AMid good mid midH fr H := ⟨i, hg, hc⟩
/-- a sequence, up to the cut -/
def ACut (P : Program) (c : Ctx) (n : Nat) (id : Nat) (M : List (Nat × AV) → List (Nat × Res) → Prop) (Q : AQ) : Code → List (Nat × AV) → List (Nat × Res) → Prop
  | .seq x y, fr, H => match Nat.beq (headR y) id with
    | true => ACode P c n x (AThen M Q) fr H
    | false => ACode P c n x (AThen (ACut P c n id M Q y) Q) fr H
  | _, _, _ => False
theorem acut_at {id : Nat} {M : List (Nat × AV) → List (Nat × Res) → Prop} {x y : Code} (hid : Nat.beq (headR y) id = true) (h : ACode P c n x (AThen M Q) fr H) : ACut P c n id M Q (.seq x y) fr H := by
  unfold ACut; rw [hid]; exact h
theorem acut_go {id : Nat} {M : List (Nat × AV) → List (Nat × Res) → Prop} {x y : Code} (hid : Nat.beq (headR y) id = false) (h : ACode P c n x (AThen (ACut P c n id M Q y) Q) fr H) : ACut P c n id M Q (.seq x y) fr H := by
  unfold ACut; rw [hid]; exact h
theorem a_thenM {x : Code} {M N : List (Nat × AV) → List (Nat × Res) → Prop} (h : ACode P c n x (AThen M Q) fr H) (hm : ∀ fr H, M fr H → N fr H) : ACode P c n x (AThen N Q) fr H := fun S γ tmps w hr => by
  refine wp_mono (h S γ tmps w hr) ?_
  rintro e a w' ⟨fr', H', S', γ', hq, hr', hd⟩
  refine ⟨fr', H', S', γ', ?_, hr', hd⟩
  cases e with
  | normal => exact hm _ _ hq
  | _ => exact hq
theorem acut_join {id : Nat} {M : List (Nat × AV) → List (Nat × Res) → Prop} : ∀ (x : Code), (∀ fr H, M fr H → ACode P c n (sufR id x) Q fr H) → ∀ (fr : List (Nat × AV)) (H : List (Nat × Res)), ACut P c n id M Q x fr H → ACode P c n x Q fr H
  | .seq x y, hm, fr, H, h => by
    unfold ACut at h
    unfold sufR at hm
    refine a_seq ?_
    cases hb : Nat.beq (headR y) id with
    | true => rw [hb] at h hm; exact a_thenM h hm
    | false => rw [hb] at h hm; exact a_thenM h (acut_join y hm)
  | .skip, _, _, _, h => h.elim
  | .region _ _ _, _, _, _, h => h.elim
  | .cond _ _ _, _, _, _, h => h.elim
  | .block _ _, _, _, _, h => h.elim
  | .loop _, _, _, _, h => h.elim
  | .rangeFunc _ _ _ _, _, _, _, h => h.elim
  | .exit _, _, _, _, h => h.elim
  | .scope _, _, _, _, h => h.elim
  | .label _, _, _, _, h => h.elim
  | .goto _, _, _, _, h => h.elim
  | .ret, _, _, _, h => h.elim
  | .refuse _, _, _, _, h => h.elim
/-- at a sequence that begins with region 'first': cut it ahead of region 'id'; both halves wait -/
theorem a_cutAt (first id : Nat) {x y : Code} {ι : Type} (good : ι → Prop) (mid : ι → List (Nat × AV)) (midH : ι → List (Nat × Res)) (hf : Nat.beq (headR x) first = true := by rfl) (hc : hasR id x = true := by rfl) (hs : sufR id x = y := by rfl)
    (hx : AHold (ACut P c n id (AMid good mid midH) Q x fr H)) (hy : ∀ i, good i → ACode P c n y Q (mid i) (midH i)) : ACode P c n x Q fr H :=
  acut_join x (fun fr H ⟨i, hg, hc⟩ => by rw [hs]; exact a_weaken hc (hy i hg)) fr H hx.go
end
end Go.Proofs.YtgiicfjibngooaaDoor

/- Weaker answers of contracts. -/
namespace Go.Proofs.YtgiicfjibngooaaDoor
open Go Go.RowKit
set_option linter.unusedVariables false
set_option linter.unusedSimpArgs false

theorem con_weak {P : Program} {f : FuncId} {args : List AV} {Hin : List (Nat × Res)} {post post' : AV → List (Nat × Res) → Prop} (h : Con P f args Hin post) (hw : ∀ a hz, post a hz → ∃ a', (∀ (S : Nat → Prop) (γ : Nat → Value) (w : World) (v : Value), AV.holds S γ w a v → AV.holds S γ w a' v) ∧ post' a' hz) : Con P f args Hin post' := fun S γ w vs hst hargs => by
  refine (h S γ w vs hst hargs).mono ?_
  rintro e w' ⟨v, out, Hout, S', γ', rfl, hpost, hp⟩
  obtain ⟨a', hwk, hp'⟩ := hw out Hout hpost
  exact ⟨v, a', Hout, S', γ', rfl, hp', hp.keep, hp.up, hwk _ _ _ _ hp.val, hp.st, hp.own, hp.same⟩
theorem nil_sl {α : Type} (E : Enc α) (S : Nat → Prop) (w : World) : (slF E []).holds S w (.slice none 0 0) := ⟨none, 0, [], rfl, Nat.le_refl _, fun h => absurd rfl h, by simp [Enc.all, AV.holdsL], by simp⟩
end Go.Proofs.YtgiicfjibngooaaDoor

/- A nil slice within a box may be one's own. Nothing of the program stands here. -/
namespace Go.Proofs.YtgiicfjibngooaaDoor
open Go Go.RowKit
set_option linter.unusedVariables false
section
variable {P : Program} {T : List (Nat × TI)} {c : Ctx} {n : Nat} {Q : AQ} {fr : List (Nat × AV)} {H : List (Nat × Res)} {S : Nat → Prop} {γ : Nat → Value} {w : World}
/-- a resource is told in other words -/
theorem Rel.redesc {tmps : Array Value} (h : Rel c n fr H S γ tmps w) {i : Nat} {r r' : Res} (hi : look H i = some r) (hr : r'.holds S γ w (γ i)) : Rel c n fr ((i, r') :: H) S γ tmps w := by
  have key : ∀ j q, look ((i, r') :: H) j = some q → ∃ q', look H j = some q' := fun j q hj => by
    rw [look_cons] at hj
    split at hj
    · rename_i e; subst e; exact ⟨r, hi⟩
    · exact ⟨q, hj⟩
  refine ⟨⟨fun j q hj => ?_, fun a b ra rb x ha hb => ?_, fun j q b hj => ?_, h.st.sz, h.st.one⟩, h.fr, h.up, fun j q b hj => ?_, h.ids, h.size, h.keep⟩
  · rw [look_cons] at hj
    split at hj
    · rename_i e
      subst e
      simp only [Option.some.injEq] at hj
      subst hj
      exact hr
    · exact h.st.res j q hj
  · obtain ⟨ra', ha'⟩ := key a ra ha
    obtain ⟨rb', hb'⟩ := key b rb hb
    exact h.st.dis a b ra' rb' x ha' hb'
  · obtain ⟨q', hq⟩ := key j q hj
    exact h.st.live j q' b hq
  · obtain ⟨q', hq⟩ := key j q hj
    exact h.own j q' b hq
theorem holdsL_atset {cs : List AV} {vs : List Value} {off : Nat} {a b : AV} (h : AV.holdsL S γ w cs vs) (ha : cs[off]? = some a) (hb : ∀ v, a.holds S γ w v → b.holds S γ w v) : AV.holdsL S γ w (cs.set off b) vs := by
  induction cs generalizing vs off with
  | nil => simp at ha
  | cons x cs ih =>
    simp only [AV.holdsL] at h
    obtain ⟨v, vs', rfl, h1, h2⟩ := h
    cases off with
    | zero =>
      simp only [List.getElem?_cons_zero, Option.some.injEq] at ha
      subst ha
      rw [List.set_cons_zero]
      simp only [AV.holdsL]
      exact ⟨v, vs', rfl, hb v h1, h2⟩
    | succ off =>
      rw [List.set_cons_succ]
      simp only [AV.holdsL]
      exact ⟨v, vs', rfl, h1, ih h2 (by simpa using ha)⟩
theorem a_ownNilIn {code : Code} (i off k e : Nat) {α : Type} (E : Enc α) {cs : List AV} {A : Option Addr} (hi : look ((k, .own e E []) :: dropH (one1 k) H) i = some (.box cs) := by rfl) (ho : cs[off]? = some (.lit (.slice A 0 0)) := by rfl) (hkJ : Nat.ble 1000 k = true := by rfl) (hu : usesH (one1 k) (dropH (one1 k) H) = true := by rfl)
    (h : ACode P c n code Q (markF (one1 k) fr) ((i, .box (cs.set off (.own k))) :: (k, .own e E []) :: dropH (one1 k) H)) : ACode P c n code Q fr H := fun S γ tmps w hr => by
  have hr' := hr.eff1 k (w' := w) (r := .own e E []) (v := .slice A 0 0) (Keep.refl _ _) ⟨[], by simpa using Own.nil w 0 e E.size A, by simp [Enc.all, AV.holdsL], by simp⟩ rfl (fun b hb => by cases A <;> simp [rblk, wblk] at hb) hkJ hu
  refine h S _ tmps w (hr'.redesc hi ?_)
  obtain ⟨g, arr, e', hv, hh, hL⟩ := hr'.st.res i _ hi
  refine ⟨g, arr, e', hv, hh, holdsL_atset hL ho fun v hv' => ?_⟩
  simp only [AV.holds] at hv' ⊢
  rw [upd_same]; exact hv'

theorem holdsL_dull {cs : List AV} {vs : List Value} (off : Nat) (h : AV.holdsL S γ w cs vs) : AV.holdsL S γ w (cs.set off .any) vs := by
  cases ho : cs[off]? with
  | none =>
    rw [List.getElem?_eq_none_iff] at ho
    rwa [List.set_eq_of_length_le ho]
  | some a => exact holdsL_atset h ho fun v _ => by simp only [AV.holds]
theorem Rel.dull {tmps : Array Value} (h : Rel c n fr H S γ tmps w) {i : Nat} {cs : List AV} (off : Nat) (hi : look H i = some (.box cs)) : Rel c n fr ((i, .box (cs.set off .any)) :: dropH (one1 i) H) S γ tmps w := by
  have hr := h.redesc (r' := .box (cs.set off .any)) hi (by
    obtain ⟨g, arr, e', hv, hh, hL⟩ := h.st.res i _ hi
    exact ⟨g, arr, e', hv, hh, holdsL_dull off hL⟩)
  refine hr.sub (fun _ _ h => h) fun j r hj => ?_
  rw [look_cons] at hj
  rw [look_cons]
  split at hj
  · rename_i e
    rw [if_pos e]
    exact hj
  · rename_i hne
    rw [if_neg hne]
    rw [look_drop, if_neg (by rw [one1_iff]; exact fun e => hne e)] at hj
    exact hj
/-- appending to one's own slice that a box names: the box's word is stale till the answer is stored -/
theorem ao_append_in (i off : Nat) {j e t : Nat} {s b : Nat} {o : Oper} {ops : Array Oper} {rest : List Oper} {α : Type} {E : Enc α} {xs : List α} {x : Operand} {cs : List AV} {d es eb : Nat} {ek : TK} {sx : Operand} {ys : List α} (hg : o.guard = none := by rfl) (hd : o.dst = some d := by rfl) (hn : Nat.blt d n = true := by rfl) (ho : o.op = .call { callee := .builtin .append, args := #[sx, x], argTypes := #[t, t] } := by rfl)
    (hT : TTOk P T := by assumption) (ht : look T t = some ⟨.slice e, s, b⟩ := by rfl) (he : look T e = some ⟨ek, es, eb⟩ := by rfl)
    (hsx : Opv fr sx (.own j) := by exact opv_std) (hj : look ((i, .box (cs.set off .any)) :: dropH (one1 i) H) j = some (.own e E xs) := by rfl) (hx : Src fr ((i, .box (cs.set off .any)) :: dropH (one1 i) H) x E ys := by first | exact .snap (by exact opv_std) | exact .own (by exact opv_std) rfl | exact .nil (by exact opv_std)) (hm : xs.length + ys.length ≤ 9223372036854775807 := by first | omega | (simp only [List.length_append, List.length_cons, List.length_nil, List.length_take, List.length_drop, List.length_replicate, List.length_map, List.length_set]; omega)) (hb : (xs.length + ys.length) * eb ≤ 140737488355328 := by first | omega | (simp only [List.length_append, List.length_cons, List.length_nil, List.length_take, List.length_drop, List.length_replicate, List.length_map, List.length_set]; omega)) (hs : es = E.size := by rfl) (hE : Nat.blt 0 es = true := by rfl)
    (hi : look H i = some (.box cs) := by rfl) (hkJ : Nat.ble 1000 j = true := by rfl) (hu : usesH (one1 j) (dropH (one1 j) (dropH (one1 j) ((i, .box (cs.set off .any)) :: dropH (one1 i) H))) = true := by rfl)
    (next : AOps P c n ops rest Q ((d, .own j) :: markF (one1 j) fr) ((j, .own e E (xs ++ ys)) :: dropH (one1 j) (dropH (one1 j) ((i, .box (cs.set off .any)) :: dropH (one1 i) H)))) : AOps P c n ops (o :: rest) Q fr H := fun S γ tmps w hr =>
  ao_append_same (hg := hg) (hd := hd) (hn := hn) (ho := ho) (hT := hT) (ht := ht) (he := he) (hsx := hsx) (hj := hj) (hx := hx) (hm := hm) (hb := hb) (hs := hs) (hE := hE) (hkJ := hkJ) (hu := hu) (next := next) S γ tmps w (hr.dull off hi)
end
end Go.Proofs.YtgiicfjibngooaaDoor
