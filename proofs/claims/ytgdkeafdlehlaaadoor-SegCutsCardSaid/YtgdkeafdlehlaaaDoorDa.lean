/- Bytes of a text; letters by numbers of any kind; parts of an own array; answers of two literals; low bits. Nothing of the program stands here. -/
import Derived.Test.YtgdkeafdlehlaaaDoorCd
import Derived.Test.YtgdkeafdlehlaaaDoorBe
import Derived.Laws.IdiomStrings
namespace Go.Proofs.YtgdkeafdlehlaaaDoor
open Go Go.RowKit
set_option linter.unusedVariables false
set_option linter.unusedSimpArgs false
section
variable {P : Program} {T : List (Nat × TI)} {o : Oper} {fr : List (Nat × AV)} {H : List (Nat × Res)}
variable {x y : Operand} {t t' e s b s' b' s2 b2 : Nat} {l m : List UInt8}
theorem encU_holds {S : Nat → Prop} {γ : Nat → Value} {w : World} (xs : List UInt8) : AV.holdsL S γ w (encU.all xs) (bvs xs) := by
  induction xs with
  | nil => simp [Enc.all, AV.holdsL, bvs]
  | cons x xs ih =>
    have : encU.all (x :: xs) = .lit (.int .u8 (x.toNat : Int)) :: encU.all xs := rfl
    rw [this]
    simp only [bvs, List.map_cons, AV.holdsL, AV.holds]
    exact ⟨_, _, rfl, rfl, ih⟩
/-- []byte(s), to be read only -/
theorem sop_bytes (ho : o.op = .convert t t' x := by rfl) (hT : TTOk P T := by assumption) (ht : look T t = some ⟨.str, s, b⟩ := by rfl) (ht' : look T t' = some ⟨.slice e, s', b'⟩ := by rfl) (he : look T e = some ⟨.int .u8, s2, b2⟩ := by rfl) (hx : Opv fr x (.lit (.string (strOf l))) := by exact opv_std) : SOp P o fr H (.snap (slF encU l)) := fun S γ w ρ h => by
  have h1 := h.lit hx (by simp [ho, Op.operands])
  have hrun := run_bytes_of_string w t t' e (strOf l) (hT.str ht) (hT.slice ht') (hT.int he)
  have hsz : (strOf l).size = l.length := strOf_size l
  rw [hsz] at hrun
  refine outc (v := .slice (some ⟨w.heap.size, 0, none⟩) l.length (grownCap w l.length 0 e)) (w' := w.drew.alloc (.cells (bytesRow (strOf l) (grownCap w l.length 0 e)) e ((bytesRow (strOf l) (grownCap w l.length 0 e)).size, (bytesRow (strOf l) (grownCap w l.length 0 e)).size + 1))) ?_ ?_
  · simp only [execOp, ho, h1]
    exact (congrArg (fun r => r) (by simp [hrun]))
  · refine ⟨(Ext.drew w).trans (Ext.alloc w.drew _), ?_⟩
    have hg := heap_alloc_new w.drew (.cells (bytesRow (strOf l) (grownCap w l.length 0 e)) e ((bytesRow (strOf l) (grownCap w l.length 0 e)).size, (bytesRow (strOf l) (grownCap w l.length 0 e)).size + 1))
    simp only [AV.holds]
    refine ⟨some ⟨w.heap.size, 0, none⟩, grownCap w l.length 0 e, bvs l, rfl, grownCap_ge w l.length 0 e, ?_, encU_holds l, ?_⟩
    · intro _
      refine ⟨_, rfl, .inr ⟨Nat.le_refl _, by have := (Array.getElem?_eq_some_iff.1 hg).1; exact this⟩, fun j u hj => ?_⟩
      have hj1 : j < l.length := by
        have := (List.getElem?_eq_some_iff.1 hj).1
        simpa [bvs] using this
      rw [addr_add_ne, Nat.zero_add]
      refine (cell_of_row _ w.heap.size j _ e _ hg).trans ?_
      unfold bytesRow
      rw [Array.getElem?_append_left (by simp [strOf]; exact hj1)]
      rw [← hj]
      simp [strOf, bvs]
      rfl
    · intro u hu
      unfold bvs at hu
      obtain ⟨r, _, rfl⟩ := List.mem_map.1 hu
      rfl
theorem sop_index_strK {i : Int} {k : IntKind} (ho : o.op = .index t x y := by rfl) (hT : TTOk P T := by assumption) (ht : look T t = some ⟨.str, s, b⟩ := by rfl) (hx : Opv fr x (.lit (.string (strOf l))) := by exact opv_std) (hy : Opv fr y (.lit (.int k i)) := by exact opv_std) (h0 : 0 ≤ i := by omega) (h1 : i < (l.length : Int) := by first | omega | (simp only [List.length_append, List.length_cons, List.length_nil, List.length_take, List.length_drop, List.length_replicate, List.length_map, List.length_set]; omega)) : SOp P o fr H (.lit (.int .u8 ((nth l i.toNat).toNat : Int))) := fun S γ w ρ h => by
  obtain ⟨k, rfl⟩ := Int.eq_ofNat_of_zero_le h0
  have g1 := h.lit hx (by simp [ho, Op.operands])
  have g2 := h.lit hy (by simp [ho, Op.operands])
  have hk : k < l.length := by omega
  have e1 : (strOf l)[k]? = some l[k] := by
    rw [getElem?_pos (strOf l) k (by rw [strOf_size]; exact hk)]
    rfl
  refine outl ?_
  have e2 : (nth l (Int.toNat (k : Int))) = l[k] := by rw [Int.toNat_natCast, nth_eq hk]
  rw [e2]
  simp [execOp, ho, g1, g2, Instr.index, run_underlying (hT.str ht), asIntOf, e1]
/-- a part of an own array, qs0 a slice -/
theorem sop_slice_arr {nn j : Nat} {ei : TI} {i : Int} (ho : o.op = .slice t x (some y) none none := by rfl) (hT : TTOk P T := by assumption) (ht : look T t = some ⟨.array nn e, s, b⟩ := by rfl) (he : look T e = some ei := by rfl) (h1s : ei.size = 1 := by rfl)
    (hx : Opv fr x (.ptr j 0) := by exact opv_std) (hy : Opv fr y (.lit (.int .i64 i)) := by exact opv_std) (h0 : 0 ≤ i := by omega) (hk : i < (nn : Int) := by omega) : SOp P o fr H (.sl j i.toNat (nn - i.toNat) (nn - i.toNat)) := fun S γ w ρ h => by
  obtain ⟨k, rfl⟩ := Int.eq_ofNat_of_zero_le h0
  have g1 := h.get hx (by simp [ho, Op.operands])
  have g2 := h.lit hy (by simp [ho, Op.operands])
  simp only [AV.holds] at g1
  obtain ⟨g, hg, hv⟩ := g1
  have hk' : k ≤ nn := by omega
  have hk2 : ¬ nn = k := by omega
  refine outs (v := .slice (some ⟨g, k, none⟩) (nn - k) (nn - k)) ?_ (by simp only [AV.holds, Int.toNat_natCast]; exact ⟨g, hg, rfl⟩)
  simp [execOp, ho, hv, g2, Instr.sliceAt, Instr.slice, run_underlying (hT.array ht), Instr.sliceBounds, Instr.sliceBound, asIntOf, hT.size he, h1s, Instr.sureAddr, hk', hk2, addr_add_ne]
theorem sop_str_sl {j off mm kk : Nat} (ho : o.op = .convert t t' x := by rfl) (hT : TTOk P T := by assumption) (ht : look T t = some ⟨.slice e, s, b⟩ := by rfl) (he : look T e = some ⟨.int .u8, s2, b2⟩ := by rfl) (ht' : look T t' = some ⟨.str, s', b'⟩ := by rfl) (hx : Opv fr x (.sl j off mm kk) := by exact opv_std) (hj : look H j = some (.box (encU.all l)) := by rfl) (hl : off + mm = l.length := by first | omega | (simp only [List.length_append, List.length_cons, List.length_nil, List.length_take, List.length_drop, List.length_replicate, List.length_map, List.length_set]; omega)) (hk : mm ≤ kk := by omega) : SOp P o fr H (.lit (.string (strOf (l.drop off)))) := fun S γ w ρ h => by
  have h1 := h.get hx (by simp [ho, Op.operands])
  simp only [AV.holds] at h1
  obtain ⟨g, hg, hv⟩ := h1
  obtain ⟨arr, e', hh, hL⟩ := box_cell h.st hj hg
  have hvs := encU_vs hL
  have hrb : RB w (ρ x) (l.drop off) := by
    refine ⟨some ⟨g, off, none⟩, kk, ?_, by rw [List.length_drop]; omega, ?_⟩
    · rw [hv, List.length_drop, show l.length - off = mm by omega]
    · intro _
      refine ⟨_, rfl, fun i u hi => ?_⟩
      rw [addr_add_ne]
      refine (cell_of_row w g _ arr _ _ hh).trans ?_
      rw [← Array.getElem?_toList, hvs, ← hi]
      simp [bvs, bv, List.getElem?_drop]
  refine outl ?_
  simp [execOp, ho, run_rb_string (hT.slice ht) (hT.int he) (hT.str ht') hrb]
theorem bits_and_lo {k m : Nat} (x : Int) (hx : 0 ≤ x) (hx2 : x < 18446744073709551616) (hm : k < 64) (hk : m + 1 = 2 ^ k) : bits .and .u64 x (m : Int) = x % (2 ^ k : Nat) := by
  obtain ⟨n, rfl⟩ := Int.eq_ofNat_of_zero_le hx
  have h2 : 2 ^ k ≤ 2 ^ 63 := Nat.pow_le_pow_right (by omega) (by omega)
  rw [bits_and_u64_nat n m (by omega) (by omega)]
  have : m = 2 ^ k - 1 := by omega
  rw [this, Nat.and_two_pow_sub_one_eq_mod]
  rfl
/-- the lowest four bits -/
theorem sop_and15 {a c : Int} (ho : o.op = .binOp .and t x y t' := by rfl) (hx : Opv fr x (.lit (.int .u64 a)) := by exact opv_std) (hy : Opv fr y (.lit (.int .u64 c)) := by exact opv_std) (hc : c = 15 := by first | rfl | omega) (h0 : 0 ≤ a := by omega) (h1 : a < 18446744073709551616 := by omega) : SOp P o fr H (.lit (.int .u64 (a % 16))) :=
  sop_cast (sop_and ho hx hy) (by subst hc; exact congrArg (fun r => Value.int .u64 r) (bits_and_lo (k := 4) (m := 15) a h0 h1 (by omega) rfl))
theorem bits_or_lo (a d : Int) (h0 : 0 ≤ a) (hd0 : 0 ≤ d) (hd : d < 16) : bits .or .u64 (a * 16 % 18446744073709551616) d = (a * 16 + d) % 18446744073709551616 := by
  obtain ⟨n, rfl⟩ := Int.eq_ofNat_of_zero_le h0
  obtain ⟨r, rfl⟩ := Int.eq_ofNat_of_zero_le hd0
  have e1 : ((n : Int) * 16 % 18446744073709551616) = ((2 ^ 4 * (n % 1152921504606846976) : Nat) : Int) := by omega
  rw [e1, bits_or_u64_nat _ _ (by omega) (by omega), ← Nat.two_pow_add_eq_or_of_lt (show r < 2 ^ 4 by omega)]
  omega
theorem sop_shl4 {a c : Int} {k' : IntKind} (ho : o.op = .binOp .shl t x y t' := by rfl) (hx : Opv fr x (.lit (.int .u64 a)) := by exact opv_std) (hy : Opv fr y (.lit (.int k' c)) := by exact opv_std) (hc : c = 4 := by first | rfl | omega) : SOp P o fr H (.lit (.int .u64 (a * 16 % 18446744073709551616))) :=
  sop_cast (sop_shl ho hx hy (by omega)) (by subst hc; rw [IntKind.wrap_u64]; rfl)
theorem sop_or4 {a d : Int} (ho : o.op = .binOp .or t x y t' := by rfl) (hx : Opv fr x (.lit (.int .u64 (a * 16 % 18446744073709551616))) := by exact opv_std) (hy : Opv fr y (.lit (.int .u64 d)) := by exact opv_std) (h0 : 0 ≤ a := by omega) (hd0 : 0 ≤ d := by omega) (hd : d < 16 := by omega) : SOp P o fr H (.lit (.int .u64 ((a * 16 + d) % 18446744073709551616))) :=
  sop_cast (sop_or ho hx hy) (congrArg (fun r => Value.int .u64 r) (bits_or_lo a d h0 hd0 hd))
theorem lits_holdsL {S : Nat → Prop} {γ : Nat → Value} {w : World} : ∀ us : List Value, AV.holdsL S γ w (us.map AV.lit) us
  | [] => by simp [AV.holdsL]
  | u :: us => by
    simp only [List.map_cons, AV.holdsL, AV.holds]
    exact ⟨u, us, rfl, rfl, lits_holdsL us⟩
/-- an answer of some literals -/
theorem con_lits {P : Program} {f : FuncId} {us rs : List Value} (h : ∀ (S : Nat → Prop) (w : World), SzA S w → Calls P f us.toArray w fun e w' => e = .returned (.tuple rs.toArray) ∧ Ext w w') : Con P f (us.map AV.lit) [] fun a hz => a = .tup (rs.map AV.lit) ∧ hz = [] := fun S γ w vs hst hargs => by
  have := holdsL_lits hargs
  subst this
  refine (h S w hst.sz).mono ?_
  rintro e w' ⟨rfl, hx⟩
  refine ⟨_, .tup (rs.map AV.lit), [], FreshS S w w', γ, rfl, ⟨rfl, rfl⟩, ⟨hx.os, hx.tape, hx.output, hx.size, fun b hb _ => hx.block b hb⟩, ?_, by simp only [AV.holds]; exact ⟨rs, rfl, lits_holdsL rs⟩, ⟨fun j r h => by simp [look] at h, fun i j ri rj b h => by simp [look] at h, fun j r b h => by simp [look] at h, ?_, hst.one⟩, fun j r b h => by simp [look] at h, fun _ _ _ => rfl⟩
  · rintro b (h | ⟨h, _⟩)
    · exact .inl h
    · exact .inr (.inl h)
  · refine hst.sz.to freshS_sub (same_of_ext hst.sz hx) ?_
    rintro b (h | ⟨_, h⟩)
    · have := hst.sz b h; have := hx.size; omega
    · exact h
/-- an answer that some fact tells of -/
theorem con_fact {P : Program} {f : FuncId} {us : List Value} {F : SFact} (h : ∀ (S : Nat → Prop) (w : World), SzA S w → Calls P f us.toArray w fun e w' => ∃ v, e = .returned v ∧ Ext w w' ∧ F.holds (FreshS S w w') w' v) : Con P f (us.map AV.lit) [] fun a hz => a = .snap F ∧ hz = [] := fun S γ w vs hst hargs => by
  have := holdsL_lits hargs
  subst this
  refine (h S w hst.sz).mono ?_
  rintro e w' ⟨v, rfl, hx, hf⟩
  refine ⟨v, .snap F, [], FreshS S w w', γ, rfl, ⟨rfl, rfl⟩, ⟨hx.os, hx.tape, hx.output, hx.size, fun b hb _ => hx.block b hb⟩, ?_, by simp only [AV.holds]; exact hf, ⟨fun j r h => by simp [look] at h, fun i j ri rj b h => by simp [look] at h, fun j r b h => by simp [look] at h, ?_, hst.one⟩, fun j r b h => by simp [look] at h, fun _ _ _ => rfl⟩
  · rintro b (h | ⟨h, _⟩)
    · exact .inl h
    · exact .inr (.inl h)
  · refine hst.sz.to freshS_sub (same_of_ext hst.sz hx) ?_
    rintro b (h | ⟨_, h⟩)
    · have := hst.sz b h; have := hx.size; omega
    · exact h
theorem sop_add_i32in {a c : Int} (ho : o.op = .binOp .add t x y t' := by rfl) (hx : Opv fr x (.lit (.int .i32 a)) := by exact opv_std) (hy : Opv fr y (.lit (.int .i32 c)) := by exact opv_std) (h0 : -2147483648 ≤ a + c := by omega) (h1 : a + c ≤ 2147483647 := by omega) : SOp P o fr H (.lit (.int .i32 (a + c))) :=
  sop_cast (sop_add ho hx hy) (congrArg (fun r => Value.int .i32 r) (wrap_i32_in ⟨h0, h1⟩))
theorem sop_sub_u8in {a c : Int} (ho : o.op = .binOp .sub t x y t' := by rfl) (hx : Opv fr x (.lit (.int .u8 a)) := by exact opv_std) (hy : Opv fr y (.lit (.int .u8 c)) := by exact opv_std) (h0 : 0 ≤ a - c := by omega) (h1 : a - c ≤ 255 := by omega) : SOp P o fr H (.lit (.int .u8 (a - c))) :=
  sop_cast (sop_sub ho hx hy) (congrArg (fun r => Value.int .u8 r) (by rw [IntKind.wrap_u8]; omega))
theorem sop_add_u8in {a c : Int} (ho : o.op = .binOp .add t x y t' := by rfl) (hx : Opv fr x (.lit (.int .u8 a)) := by exact opv_std) (hy : Opv fr y (.lit (.int .u8 c)) := by exact opv_std) (h0 : 0 ≤ a + c := by omega) (h1 : a + c ≤ 255 := by omega) : SOp P o fr H (.lit (.int .u8 (a + c))) :=
  sop_cast (sop_add ho hx hy) (congrArg (fun r => Value.int .u8 r) (by rw [IntKind.wrap_u8]; omega))
theorem sop_mul16_u64in {a c : Int} (ho : o.op = .binOp .mul t x y t' := by rfl) (hx : Opv fr x (.lit (.int .u64 a)) := by exact opv_std) (hy : Opv fr y (.lit (.int .u64 c)) := by exact opv_std) (hc : c = 16 := by first | rfl | omega) (h0 : 0 ≤ a := by omega) (h1 : a < 1152921504606846976 := by omega) : SOp P o fr H (.lit (.int .u64 (a * 16))) :=
  sop_cast (sop_mul ho hx hy) (congrArg (fun r => Value.int .u64 r) (by subst hc; rw [IntKind.wrap_u64]; omega))
/-- some four bits down -/
theorem sop_shr_4i {a i : Nat} {c : Int} {k' : IntKind} (ho : o.op = .binOp .shr t x y t' := by rfl) (hx : Opv fr x (.lit (.int .u64 (a : Int))) := by exact opv_std) (hy : Opv fr y (.lit (.int k' c)) := by exact opv_std) (hc : c = 4 * (i : Int)) (hi : i ≤ 15) : SOp P o fr H (.lit (.int .u64 ((a / 16 ^ i : Nat) : Int))) :=
  sop_cast (sop_shr ho hx hy (by omega)) (congrArg (fun r => Value.int .u64 r) (by
    have e1 : c.toNat = 4 * i := by omega
    have e2 : min (4 * i) IntKind.u64.bits = 4 * i := Nat.min_eq_left (by show 4 * i ≤ 64; omega)
    rw [e1, e2, Int.fdiv_eq_ediv_of_nonneg _ (by exact Int.le_of_lt (Int.pow_pos (by omega)))]
    have e3 : (2 : Int) ^ (4 * i) = ((16 ^ i : Nat) : Int) := by
      rw [Int.pow_mul]
      push_cast
      rfl
    rw [e3]
    rfl))
/-- one letter of a text -/
theorem sop_slice_str1 {i j : Int} {ylo yhi : Operand} (ho : o.op = .slice t x (some ylo) (some yhi) none := by rfl) (hT : TTOk P T := by assumption) (ht : look T t = some ⟨.str, s, b⟩ := by rfl) (hx : Opv fr x (.lit (.string (strOf l))) := by exact opv_std) (hlo : Opv fr ylo (.lit (.int .i64 i)) := by exact opv_std) (hhi : Opv fr yhi (.lit (.int .i64 j)) := by exact opv_std) (hj : j = i + 1 := by first | rfl | omega) (h0 : 0 ≤ i := by omega) (h1 : i < (l.length : Int) := by first | omega | (simp only [List.length_append, List.length_cons, List.length_nil, List.length_take, List.length_drop, List.length_replicate, List.length_map, List.length_set]; omega)) : SOp P o fr H (.lit (.string (strOf [nth l i.toNat]))) := by
  obtain ⟨k, rfl⟩ := Int.eq_ofNat_of_zero_le h0
  have hk : k < l.length := by omega
  have e : (l.drop k).take (k + 1 - k) = [nth l (Int.toNat (k : Int))] := by
    rw [Int.toNat_natCast, nth_eq hk, List.drop_eq_getElem_cons hk, Nat.add_sub_cancel_left]
    rfl
  have := sop_slice_str k (k + 1) ylo yhi (P := P) (fr := fr) (H := H) ho hT ht hx hlo (by rw [hj] at hhi; exact_mod_cast hhi) (by omega) (by omega)
  rwa [e] at this
/-- an interface value that is not nil -/
def nnF : SFact where
  holds S w v := ∃ t p, v = .iface t p
  mono := by
    rintro S S' w w' v h hs hw
    exact h
  one := by
    rintro S w v ⟨t, p, rfl⟩
    rfl
theorem sop_neq_nn (ho : o.op = .binOp .neq t x (.const .nilIface) t' := by rfl) (hT : TTOk P T := by assumption) (ht : look T t = some ⟨.iface, s, b⟩ := by rfl) (hx : Opv fr x (.snap nnF) := by exact opv_std) : SOp P o fr H (.lit (.bool true)) := fun S γ w ρ h => by
  have h1 := h.get hx (by simp [ho, Op.operands])
  simp only [AV.holds] at h1
  obtain ⟨a, p, hv⟩ := h1
  have h2 : ρ (.const .nilIface) = .nilIface := h.const _
  obtain ⟨ms, hu⟩ := hT.iface ht
  refine outl ?_
  simp [execOp, ho, hv, h2, eqGuard, go_sem, hu]
theorem sop_neq_il {p : Value} {tt : TypeId} (ho : o.op = .binOp .neq t x (.const .nilIface) t' := by rfl) (hT : TTOk P T := by assumption) (ht : look T t = some ⟨.iface, s, b⟩ := by rfl) (hx : Opv fr x (.lit (.iface tt p)) := by exact opv_std) : SOp P o fr H (.lit (.bool true)) := fun S γ w ρ h => by
  have h1 := h.lit hx (by simp [ho, Op.operands])
  have h2 : ρ (.const .nilIface) = .nilIface := h.const _
  obtain ⟨ms, hu⟩ := hT.iface ht
  refine outl ?_
  simp [execOp, ho, h1, h2, eqGuard, go_sem, hu]
theorem sop_neq_in (ho : o.op = .binOp .neq t x (.const .nilIface) t' := by rfl) (hT : TTOk P T := by assumption) (ht : look T t = some ⟨.iface, s, b⟩ := by rfl) (hx : Opv fr x (.lit .nilIface) := by exact opv_std) : SOp P o fr H (.lit (.bool false)) := fun S γ w ρ h => by
  have h1 := h.lit hx (by simp [ho, Op.operands])
  have h2 : ρ (.const .nilIface) = .nilIface := h.const _
  obtain ⟨ms, hu⟩ := hT.iface ht
  refine outl ?_
  simp [execOp, ho, h1, h2, eqGuard, go_sem, hu]
/-- a number in an interface -/
theorem sop_mkIface {n : Int} {k k' : IntKind} (ho : o.op = .makeInterface t x := by rfl) (hT : TTOk P T := by assumption) (ht : look T t = some ⟨.int k, s, b⟩ := by rfl) (hx : Opv fr x (.lit (.int k' n)) := by exact opv_std) : SOp P o fr H (.lit (.iface t (.int k' n))) := fun S γ w ρ h => by
  have h1 := h.lit hx (by simp [ho, Op.operands])
  refine outl ?_
  have hrun : (Instr.makeInterface t (.int k' n)).run P w = .ok (.iface t (.int k' n)) w := by
    unfold Instr.makeInterface
    rw [Sem.run_bind, run_underlying (hT.int ht)]
    rfl
  simp [execOp, ho, h1, hrun]
end
section
variable {P : Program} {c : Ctx} {n : Nat} {Q : AQ} {fr : List (Nat × AV)} {H : List (Nat × Res)}
theorem encU_read (u : UInt8) : encU.read [.lit (.int .u8 (u.toNat : Int))] = u := by
  show UInt8.ofNat (Int.toNat (u.toNat : Int)) = u
  rw [Int.toNat_natCast, UInt8.ofNat_toNat]
theorem ao_store_arrU {T : List (Nat × TI)} {ops : Array Oper} {rest : List Oper} {o : Oper} {x y : Operand} {t : TypeId} {xs : List UInt8} {u : UInt8} {j k sz : Nat} {ti : TI} (hg : o.guard = none := by rfl) (hd : o.dst = none := by rfl) (ho : o.op = .store t x y := by rfl) (hT : TTOk P T := by assumption) (ht : look T t = some ti := by rfl) (hx : Opv fr x (.ptr j (0 + k * sz)) := by exact opv_std) (hj : look H j = some (.box (encU.all xs)) := by rfl) (hsz : sz = 1 := by rfl) (hk : k < xs.length := by omega)
    (hy : Opv fr y (.lit (.int .u8 (u.toNat : Int))) := by exact opv_std) (hl : ti.size = 1 := by rfl)
    (next : AOps P c n ops rest Q fr ((j, .box (encU.all (xs.set k u))) :: dropH (one1 j) H)) : AOps P c n ops (o :: rest) Q fr H :=
  ao_store_arr (E := encU) hg hd ho hT ht hx hj hsz rfl hk hy rfl rfl hl (by rw [encU_read]; rfl) (by rw [encU_read]; exact next)
theorem a_reboxC {code : Code} (j : Nat) (cs' : List AV) {cs : List AV} (hj : look H j = some (.box cs)) (he : cs = cs') (h : ACode P c n code Q fr ((j, .box cs') :: H)) : ACode P c n code Q fr H := fun S γ tmps w hr => by
  subst he
  refine h S γ tmps w (hr.sub (fun _ _ h => h) fun i r hi => ?_)
  rw [look_cons] at hi
  split at hi
  · rename_i e; subst e; rw [← hi]; exact hj
  · exact hi
end
end Go.Proofs.YtgdkeafdlehlaaaDoor
