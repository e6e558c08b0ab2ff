/- Conversions and unsigned arithmetic over abstract frames. Nothing of the program stands here. -/
import Derived.Test.YtjmcbacdogjdeaaAj
namespace Go.Proofs.Ytjmcbacdogjdeaa
open Go Go.RowKit
set_option linter.unusedVariables false
section
variable {P : Program} {T : List (Nat × TI)} {fr : List (Nat × AV)} {H : List (Nat × Res)} {o : Oper} {x y : Operand} {t t' : TypeId} {s bt s' bt' : Nat} {j : IntKind} {a b : Int}
theorem sop_conv_i64 (ho : o.op = .convert t t' x := by rfl) (hT : TTOk P T := by assumption) (ht : look T t = some ⟨.int j, s, bt⟩ := by rfl) (ht' : look T t' = some ⟨.int .i64, s', bt'⟩ := by rfl) (hx : Opv fr x (.lit (.int j a)) := by first | exact .un rfl (by first | assumption | exact And.left (by assumption) | exact And.left (And.left (by assumption)) | exact And.left (And.left (And.left (by assumption)))) | exact .of rfl) (hi : -9223372036854775808 ≤ a ∧ a ≤ 9223372036854775807 := by first | omega | (simp only [List.length_append, List.length_cons, List.length_nil, List.length_take, List.length_drop, List.length_replicate, List.length_map, List.length_set]; omega)) : SOp P o fr H (.lit (.int .i64 a)) :=
  sop_cast (sop_conv ho hT ht ht' hx) (by rw [wrap_i64_in hi])
theorem sop_conv_u64in (ho : o.op = .convert t t' x := by rfl) (hT : TTOk P T := by assumption) (ht : look T t = some ⟨.int j, s, bt⟩ := by rfl) (ht' : look T t' = some ⟨.int .u64, s', bt'⟩ := by rfl) (hx : Opv fr x (.lit (.int j a)) := by first | exact .un rfl (by first | assumption | exact And.left (by assumption) | exact And.left (And.left (by assumption)) | exact And.left (And.left (And.left (by assumption)))) | exact .of rfl) (hi : 0 ≤ a ∧ a ≤ 18446744073709551615 := by first | omega | (simp only [List.length_append, List.length_cons, List.length_nil, List.length_take, List.length_drop, List.length_replicate, List.length_map, List.length_set]; omega)) : SOp P o fr H (.lit (.int .u64 a)) :=
  sop_cast (sop_conv ho hT ht ht' hx) (by rw [wrap_u64_in hi])
theorem sop_conv_u64 (ho : o.op = .convert t t' x := by rfl) (hT : TTOk P T := by assumption) (ht : look T t = some ⟨.int j, s, bt⟩ := by rfl) (ht' : look T t' = some ⟨.int .u64, s', bt'⟩ := by rfl) (hx : Opv fr x (.lit (.int j a)) := by first | exact .un rfl (by first | assumption | exact And.left (by assumption) | exact And.left (And.left (by assumption)) | exact And.left (And.left (And.left (by assumption)))) | exact .of rfl) : SOp P o fr H (.lit (.int .u64 (a % 18446744073709551616))) :=
  sop_cast (sop_conv ho hT ht ht' hx) (by rw [IntKind.wrap_u64])
theorem sop_conv_u8in (ho : o.op = .convert t t' x := by rfl) (hT : TTOk P T := by assumption) (ht : look T t = some ⟨.int j, s, bt⟩ := by rfl) (ht' : look T t' = some ⟨.int .u8, s', bt'⟩ := by rfl) (hx : Opv fr x (.lit (.int j a)) := by first | exact .un rfl (by first | assumption | exact And.left (by assumption) | exact And.left (And.left (by assumption)) | exact And.left (And.left (And.left (by assumption)))) | exact .of rfl) (hi : 0 ≤ a ∧ a ≤ 255 := by first | omega | (simp only [List.length_append, List.length_cons, List.length_nil, List.length_take, List.length_drop, List.length_replicate, List.length_map, List.length_set]; omega)) : SOp P o fr H (.lit (.int .u8 a)) :=
  sop_cast (sop_conv ho hT ht ht' hx) (by rw [wrap_u8_in hi])
theorem sop_conv_u8 (ho : o.op = .convert t t' x := by rfl) (hT : TTOk P T := by assumption) (ht : look T t = some ⟨.int j, s, bt⟩ := by rfl) (ht' : look T t' = some ⟨.int .u8, s', bt'⟩ := by rfl) (hx : Opv fr x (.lit (.int j a)) := by first | exact .un rfl (by first | assumption | exact And.left (by assumption) | exact And.left (And.left (by assumption)) | exact And.left (And.left (And.left (by assumption)))) | exact .of rfl) : SOp P o fr H (.lit (.int .u8 (a % 256))) :=
  sop_cast (sop_conv ho hT ht ht' hx) (by rw [IntKind.wrap_u8])
theorem sop_conv_u32in (ho : o.op = .convert t t' x := by rfl) (hT : TTOk P T := by assumption) (ht : look T t = some ⟨.int j, s, bt⟩ := by rfl) (ht' : look T t' = some ⟨.int .u32, s', bt'⟩ := by rfl) (hx : Opv fr x (.lit (.int j a)) := by first | exact .un rfl (by first | assumption | exact And.left (by assumption) | exact And.left (And.left (by assumption)) | exact And.left (And.left (And.left (by assumption)))) | exact .of rfl) (hi : 0 ≤ a ∧ a ≤ 4294967295 := by first | omega | (simp only [List.length_append, List.length_cons, List.length_nil, List.length_take, List.length_drop, List.length_replicate, List.length_map, List.length_set]; omega)) : SOp P o fr H (.lit (.int .u32 a)) :=
  sop_cast (sop_conv ho hT ht ht' hx) (by rw [wrap_u32_in hi])
theorem sop_add_u64in (ho : o.op = .binOp .add t x y t' := by rfl) (hx : Opv fr x (.lit (.int .u64 a)) := by first | exact .un rfl (by first | assumption | exact And.left (by assumption) | exact And.left (And.left (by assumption)) | exact And.left (And.left (And.left (by assumption)))) | exact .of rfl) (hy : Opv fr y (.lit (.int .u64 b)) := by first | exact .un rfl (by first | assumption | exact And.left (by assumption) | exact And.left (And.left (by assumption)) | exact And.left (And.left (And.left (by assumption)))) | exact .of rfl) (hi : 0 ≤ a + b ∧ a + b ≤ 18446744073709551615 := by first | omega | (simp only [List.length_append, List.length_cons, List.length_nil, List.length_take, List.length_drop, List.length_replicate, List.length_map, List.length_set]; omega)) : SOp P o fr H (.lit (.int .u64 (a + b))) :=
  sop_cast (sop_add ho hx hy) (by rw [wrap_u64_in hi])
theorem sop_sub_u64in (ho : o.op = .binOp .sub t x y t' := by rfl) (hx : Opv fr x (.lit (.int .u64 a)) := by first | exact .un rfl (by first | assumption | exact And.left (by assumption) | exact And.left (And.left (by assumption)) | exact And.left (And.left (And.left (by assumption)))) | exact .of rfl) (hy : Opv fr y (.lit (.int .u64 b)) := by first | exact .un rfl (by first | assumption | exact And.left (by assumption) | exact And.left (And.left (by assumption)) | exact And.left (And.left (And.left (by assumption)))) | exact .of rfl) (hi : 0 ≤ a - b ∧ a - b ≤ 18446744073709551615 := by first | omega | (simp only [List.length_append, List.length_cons, List.length_nil, List.length_take, List.length_drop, List.length_replicate, List.length_map, List.length_set]; omega)) : SOp P o fr H (.lit (.int .u64 (a - b))) :=
  sop_cast (sop_sub ho hx hy) (by rw [wrap_u64_in hi])
theorem sop_add_u8 (ho : o.op = .binOp .add t x y t' := by rfl) (hx : Opv fr x (.lit (.int .u8 a)) := by first | exact .un rfl (by first | assumption | exact And.left (by assumption) | exact And.left (And.left (by assumption)) | exact And.left (And.left (And.left (by assumption)))) | exact .of rfl) (hy : Opv fr y (.lit (.int .u8 b)) := by first | exact .un rfl (by first | assumption | exact And.left (by assumption) | exact And.left (And.left (by assumption)) | exact And.left (And.left (And.left (by assumption)))) | exact .of rfl) : SOp P o fr H (.lit (.int .u8 ((a + b) % 256))) :=
  sop_cast (sop_add ho hx hy) (by rw [IntKind.wrap_u8])
theorem sop_shr_in {k k' : IntKind} {m : Nat} (ho : o.op = .binOp .shr t x y t' := by rfl) (hx : Opv fr x (.lit (.int k a)) := by first | exact .un rfl (by first | assumption | exact And.left (by assumption) | exact And.left (And.left (by assumption)) | exact And.left (And.left (And.left (by assumption)))) | exact .of rfl) (hy : Opv fr y (.lit (.int k' b)) := by first | exact .un rfl (by first | assumption | exact And.left (by assumption) | exact And.left (And.left (by assumption)) | exact And.left (And.left (And.left (by assumption)))) | exact .of rfl) (hb : b = (m : Int) := by first | rfl | omega) (hm : Nat.ble m k.bits = true := by rfl) : SOp P o fr H (.lit (.int k (a / 2 ^ m))) :=
  sop_cast (sop_shr ho hx hy (by omega)) (by
    have h := Nat.le_of_ble_eq_true hm
    subst hb
    rw [Int.toNat_natCast, Nat.min_eq_left h, Int.fdiv_eq_ediv_of_nonneg _ (by exact Int.le_of_lt (Int.pow_pos (by omega)))])
/-- a number, from 0 to below n -/
def low (x n : Int) : Int := (x % 18446744073709551616) % n
theorem low_bd (x : Int) {n : Int} (h : 1 ≤ n) : 0 ≤ low x n ∧ low x n < n := ⟨Int.emod_nonneg _ (by omega), Int.emod_lt_of_pos _ (by omega)⟩
theorem take_nth {α : Type} [Inhabited α] (xs : List α) (k : Nat) (h : k < xs.length) : xs.take (k + 1) = xs.take k ++ [nth xs k] := by
  rw [List.take_succ_eq_append_getElem h, nth_eq h]
def fieldsB (P : Program) (t : TypeId) : List TK := (P.fieldsOf t).toList.map fun f => tkOf P f.type
end
mutual
theorem AV.uses_weak {p : Nat → Bool} : ∀ {a : AV}, a.uses (fun _ => false) = true → a.uses p = true
  | .any, _ => rfl
  | .lit _, _ => rfl
  | .snap _, _ => rfl
  | .own j, h => by simp [AV.uses] at h
  | .ptr j off, h => by simp [AV.uses] at h
  | .agg cs, h => by simp only [AV.uses] at h ⊢; exact AV.usesL_weak h
  | .tup cs, h => by simp only [AV.uses] at h ⊢; exact AV.usesL_weak h
  | .fn f cs, h => by simp only [AV.uses] at h ⊢; exact AV.usesL_weak h
  | .when q a, h => by simp only [AV.uses] at h ⊢; exact AV.uses_weak h
theorem AV.usesL_weak {p : Nat → Bool} : ∀ {cs : List AV}, AV.usesL (fun _ => false) cs = true → AV.usesL p cs = true
  | [], _ => rfl
  | c :: cs, h => by
    simp only [AV.usesL, Bool.and_eq_true] at h ⊢
    exact ⟨AV.uses_weak h.1, AV.usesL_weak h.2⟩
end
section
variable {P : Program} {T : List (Nat × TI)} {c : Ctx} {n : Nat} {Q : AQ} {fr : List (Nat × AV)} {H : List (Nat × Res)} {ops : Array Oper} {rest : List Oper} {o : Oper}
variable {α : Type} {E : Enc α} {xs : List α} {x y : Operand} {t e s b j : Nat} {ei : TI} {m : Int} {kd : IntKind}
theorem sop_index_snapZ [Inhabited α] (ho : o.op = .indexAddr t x y := by rfl) (hT : TTOk P T := by assumption) (ht : look T t = some ⟨.slice e, s, b⟩ := by rfl) (he : look T e = some ei := by rfl)
    (hx : Opv fr x (.snap (slF E xs)) := by first | exact .un rfl (by first | assumption | exact And.left (by assumption) | exact And.left (And.left (by assumption)) | exact And.left (And.left (And.left (by assumption)))) | exact .of rfl) (hy : Opv fr y (.lit (.int kd m)) := by first | exact .un rfl (by first | assumption | exact And.left (by assumption) | exact And.left (And.left (by assumption)) | exact And.left (And.left (And.left (by assumption)))) | exact .of rfl) (h0 : 0 ≤ m := by first | omega | (simp only [List.length_append, List.length_cons, List.length_nil, List.length_take, List.length_drop, List.length_replicate, List.length_map, List.length_set]; omega)) (hk : m < (xs.length : Int) := by first | omega | (simp only [List.length_append, List.length_cons, List.length_nil, List.length_take, List.length_drop, List.length_replicate, List.length_map, List.length_set]; omega)) (hs : ei.size = E.size := by rfl) (hE : Nat.blt 0 E.size = true := by rfl) : SOp P o fr H (.snap (placeF (E.cells (nth xs m.toNat)))) :=
  sop_index_snap (k := m.toNat) ho hT ht he hx hy (by omega) (by omega) hs hE
theorem sop_index_ownZ [Inhabited α] {e' : Nat} (ho : o.op = .indexAddr t x y := by rfl) (hT : TTOk P T := by assumption) (ht : look T t = some ⟨.slice e, s, b⟩ := by rfl) (he : look T e = some ei := by rfl)
    (hx : Opv fr x (.own j) := by first | exact .un rfl (by first | assumption | exact And.left (by assumption) | exact And.left (And.left (by assumption)) | exact And.left (And.left (And.left (by assumption)))) | exact .of rfl) (hj : look H j = some (.own e' E xs) := by rfl) (hy : Opv fr y (.lit (.int kd m)) := by first | exact .un rfl (by first | assumption | exact And.left (by assumption) | exact And.left (And.left (by assumption)) | exact And.left (And.left (And.left (by assumption)))) | exact .of rfl) (h0 : 0 ≤ m := by first | omega | (simp only [List.length_append, List.length_cons, List.length_nil, List.length_take, List.length_drop, List.length_replicate, List.length_map, List.length_set]; omega)) (hk : m < (xs.length : Int) := by first | omega | (simp only [List.length_append, List.length_cons, List.length_nil, List.length_take, List.length_drop, List.length_replicate, List.length_map, List.length_set]; omega)) (hs : ei.size = E.size := by rfl) : SOp P o fr H (.ptr j (m.toNat * E.size + 0)) :=
  sop_index_own (k := m.toNat) ho hT ht he hx hj hy (by omega) (by omega) hs
theorem ao_append_same {d es eb : Nat} {ek : TK} {sx : Operand} {ys : List α} (hg : o.guard = none := by rfl) (hd : o.dst = some d := by rfl) (hn : Nat.blt d n = true := by rfl) (ho : o.op = .call { callee := .builtin .append, args := #[sx, x], argTypes := #[t, t] } := by rfl)
    (hT : TTOk P T := by assumption) (ht : look T t = some ⟨.slice e, s, b⟩ := by rfl) (he : look T e = some ⟨ek, es, eb⟩ := by rfl)
    (hsx : Opv fr sx (.own j) := by first | exact .un rfl (by first | assumption | exact And.left (by assumption) | exact And.left (And.left (by assumption)) | exact And.left (And.left (And.left (by assumption)))) | exact .of rfl) (hj : look H j = some (.own e E xs) := by rfl) (hx : Src fr H x E ys := by first | exact .snap (by first | exact .un rfl (by first | assumption | exact And.left (by assumption) | exact And.left (And.left (by assumption)) | exact And.left (And.left (And.left (by assumption)))) | exact .of rfl) | exact .own (by first | exact .un rfl (by first | assumption | exact And.left (by assumption) | exact And.left (And.left (by assumption)) | exact And.left (And.left (And.left (by assumption)))) | exact .of rfl) rfl | exact .nil (by first | exact .un rfl (by first | assumption | exact And.left (by assumption) | exact And.left (And.left (by assumption)) | exact And.left (And.left (And.left (by assumption)))) | exact .of rfl)) (hm : xs.length + ys.length ≤ 9223372036854775807 := by first | omega | (simp only [List.length_append, List.length_cons, List.length_nil, List.length_take, List.length_drop, List.length_replicate, List.length_map, List.length_set]; omega)) (hb : (xs.length + ys.length) * eb ≤ 140737488355328 := by first | omega | (simp only [List.length_append, List.length_cons, List.length_nil, List.length_take, List.length_drop, List.length_replicate, List.length_map, List.length_set]; omega)) (hs : es = E.size := by rfl) (hE : Nat.blt 0 es = true := by rfl)
    (hkJ : Nat.ble 1000 j = true := by rfl) (hu : usesH (one1 j) (dropH (one1 j) (dropH (one1 j) H)) = true := by rfl)
    (next : AOps P c n ops rest Q ((d, .own j) :: markF (one1 j) fr) ((j, .own e E (xs ++ ys)) :: dropH (one1 j) (dropH (one1 j) H))) : AOps P c n ops (o :: rest) Q fr H :=
  ao_append hg hd hn ho hT ht he hsx hj hx hm hb hs hE j hkJ hu next
theorem ao_append_new {d es eb : Nat} {ek : TK} {sx : Operand} {ys : List α} (hg : o.guard = none := by rfl) (hd : o.dst = some d := by rfl) (hn : Nat.blt d n = true := by rfl) (ho : o.op = .call { callee := .builtin .append, args := #[sx, x], argTypes := #[t, t] } := by rfl)
    (hT : TTOk P T := by assumption) (ht : look T t = some ⟨.slice e, s, b⟩ := by rfl) (he : look T e = some ⟨ek, es, eb⟩ := by rfl)
    (hsx : Opv fr sx (.own j) := by first | exact .un rfl (by first | assumption | exact And.left (by assumption) | exact And.left (And.left (by assumption)) | exact And.left (And.left (And.left (by assumption)))) | exact .of rfl) (hj : look H j = some (.own e E xs) := by rfl) (hx : Src fr H x E ys := by first | exact .snap (by first | exact .un rfl (by first | assumption | exact And.left (by assumption) | exact And.left (And.left (by assumption)) | exact And.left (And.left (And.left (by assumption)))) | exact .of rfl) | exact .own (by first | exact .un rfl (by first | assumption | exact And.left (by assumption) | exact And.left (And.left (by assumption)) | exact And.left (And.left (And.left (by assumption)))) | exact .of rfl) rfl | exact .nil (by first | exact .un rfl (by first | assumption | exact And.left (by assumption) | exact And.left (And.left (by assumption)) | exact And.left (And.left (And.left (by assumption)))) | exact .of rfl)) (hm : xs.length + ys.length ≤ 9223372036854775807 := by first | omega | (simp only [List.length_append, List.length_cons, List.length_nil, List.length_take, List.length_drop, List.length_replicate, List.length_map, List.length_set]; omega)) (hb : (xs.length + ys.length) * eb ≤ 140737488355328 := by first | omega | (simp only [List.length_append, List.length_cons, List.length_nil, List.length_take, List.length_drop, List.length_replicate, List.length_map, List.length_set]; omega)) (hs : es = E.size := by rfl) (hE : Nat.blt 0 es = true := by rfl)
    (hu : usesH (one1 (d + 1000)) (dropH (one1 (d + 1000)) (dropH (one1 j) H)) = true := by rfl)
    (next : AOps P c n ops rest Q ((d, .own (d + 1000)) :: markF (one1 (d + 1000)) fr) ((d + 1000, .own e E (xs ++ ys)) :: dropH (one1 (d + 1000)) (dropH (one1 j) H))) : AOps P c n ops (o :: rest) Q fr H :=
  ao_append hg hd hn ho hT ht he hsx hj hx hm hb hs hE (d + 1000) (Nat.ble_eq_true_of_le (by omega)) hu next
theorem sop_callC {f : FuncId} {zs : Array Operand} {tys : Array TypeId} {as : List AV} {out : AV} (hC : Con P f as [] fun a h => a = out ∧ h = []) (ho : o.op = .call { callee := .value (.func f), args := zs, argTypes := tys } := by rfl) (hf : entersB P f = true := by kernel_rfl) (hargs : ArgsOk true fr H zs.toList as := by repeat (first | exact .nil | refine .cons (by first | exact .un rfl (by first | assumption | exact And.left (by assumption) | exact And.left (And.left (by assumption)) | exact And.left (And.left (And.left (by assumption)))) | exact .of rfl) ?_ | refine .lend rfl (by first | exact .un rfl (by first | assumption | exact And.left (by assumption) | exact And.left (And.left (by assumption)) | exact And.left (And.left (And.left (by assumption)))) | exact .of rfl) (by rfl) ?_ | refine .nilS (by first | exact .un rfl (by first | assumption | exact And.left (by assumption) | exact And.left (And.left (by assumption)) | exact And.left (And.left (And.left (by assumption)))) | exact .of rfl) ?_))
    (hout : AV.uses (fun _ => false) out = true := by rfl) (hB : out.flat = true := by rfl) : SOp P o fr H out := sop_call (B := true) ho hf hC hargs hout (.inr hB)
theorem sop_callN {f : FuncId} {zs : Array Operand} {tys : Array TypeId} {as : List AV} {out : AV} (hC : Con P f as [] fun a h => a = out ∧ h = []) (ho : o.op = .call { callee := .value (.func f), args := zs, argTypes := tys } := by rfl) (hf : entersB P f = true := by kernel_rfl) (hargs : ArgsOk false fr H zs.toList as := by repeat (first | exact .nil | refine .cons (by first | exact .un rfl (by first | assumption | exact And.left (by assumption) | exact And.left (And.left (by assumption)) | exact And.left (And.left (And.left (by assumption)))) | exact .of rfl) ?_ | refine .lend rfl (by first | exact .un rfl (by first | assumption | exact And.left (by assumption) | exact And.left (And.left (by assumption)) | exact And.left (And.left (And.left (by assumption)))) | exact .of rfl) (by rfl) ?_ | refine .nilS (by first | exact .un rfl (by first | assumption | exact And.left (by assumption) | exact And.left (And.left (by assumption)) | exact And.left (And.left (And.left (by assumption)))) | exact .of rfl) ?_))
    (hout : AV.uses (fun _ => false) out = true := by rfl) : SOp P o fr H out := sop_call (B := false) ho hf hC hargs hout (.inl rfl)
theorem sop_callOC {f : FuncId} {zs : Array Operand} {tys : Array TypeId} {as : List AV} {k : Nat} {ys : List α} (hC : Con P f as [] fun a h => a = .own k ∧ h = [(k, .own e E ys)]) (ho : o.op = .call { callee := .value (.func f), args := zs, argTypes := tys } := by rfl) (hf : entersB P f = true := by kernel_rfl)
    (hargs : ArgsOk true fr H zs.toList as := by repeat (first | exact .nil | refine .cons (by first | exact .un rfl (by first | assumption | exact And.left (by assumption) | exact And.left (And.left (by assumption)) | exact And.left (And.left (And.left (by assumption)))) | exact .of rfl) ?_ | refine .lend rfl (by first | exact .un rfl (by first | assumption | exact And.left (by assumption) | exact And.left (And.left (by assumption)) | exact And.left (And.left (And.left (by assumption)))) | exact .of rfl) (by rfl) ?_ | refine .nilS (by first | exact .un rfl (by first | assumption | exact And.left (by assumption) | exact And.left (And.left (by assumption)) | exact And.left (And.left (And.left (by assumption)))) | exact .of rfl) ?_)) (hE : E.isFlat := by intro _; rfl) : SOp P o fr H (.snap (slF E ys)) := sop_callO (B := true) ho hf hC hargs (.inr hE)
/-- a call that makes a slice of one's own -/
theorem ao_callO {f : FuncId} {zs : Array Operand} {tys : Array TypeId} {as : List AV} {k d : Nat} {ys : List α} (hC : Con P f as [] fun a h => a = .own k ∧ h = [(k, .own e E ys)]) (hg : o.guard = none := by rfl) (hd : o.dst = some d := by rfl) (hn : Nat.blt d n = true := by rfl) (ho : o.op = .call { callee := .value (.func f), args := zs, argTypes := tys } := by rfl) (hf : entersB P f = true := by kernel_rfl)
    (hargs : ArgsOk true fr H zs.toList as := by repeat (first | exact .nil | refine .cons (by first | exact .un rfl (by first | assumption | exact And.left (by assumption) | exact And.left (And.left (by assumption)) | exact And.left (And.left (And.left (by assumption)))) | exact .of rfl) ?_ | refine .lend rfl (by first | exact .un rfl (by first | assumption | exact And.left (by assumption) | exact And.left (And.left (by assumption)) | exact And.left (And.left (And.left (by assumption)))) | exact .of rfl) (by rfl) ?_ | refine .nilS (by first | exact .un rfl (by first | assumption | exact And.left (by assumption) | exact And.left (And.left (by assumption)) | exact And.left (And.left (And.left (by assumption)))) | exact .of rfl) ?_)) (has : AV.usesL (fun _ => false) as = true := by rfl) (hE : E.isFlat := by intro _; rfl) (hu : usesH (one1 (d + 1000)) (dropH (one1 (d + 1000)) H) = true := by rfl)
    (next : AOps P c n ops rest Q ((d, .own (d + 1000)) :: markF (one1 (d + 1000)) fr) ((d + 1000, .own e E ys) :: dropH (one1 (d + 1000)) H)) : AOps P c n ops (o :: rest) Q fr H := by
  refine ao_call (B := true) hg hd hn ho hf hC (fun _ => d + 1000) (by rw [AV.renL_id _ _ has]; exact hargs) (fun j r h => by simp [look] at h) rfl (fun _ => rfl) ?_
  rintro out Hout ⟨rfl, rfl⟩
  have hfr : freshIds [] [(k, Res.own e E ys)] = [k] := by simp [freshIds, idsOf]
  have hany : anyId (fun _ => d + 1000) [k] = one1 (d + 1000) := by
    funext i; simp [anyId, one1]
  have hids : idsOf ([] : List (Nat × Res)) ++ idsOf [(k, Res.own e E ys)] = [k] := rfl
  refine ⟨?_, .inr ⟨rfl, fun p hp => ?_⟩, ?_⟩
  · unfold callOk
    rw [hfr, hids, hany, hu]
    have h1 : Nat.ble 1000 (d + 1000) = true := Nat.ble_eq_true_of_le (by omega)
    simp [AV.uses, Res.uses, injB, h1, idsOf]
  · simp only [List.mem_singleton] at hp
    subst hp; exact hE
  · rw [hfr, hids, hany]
    exact next
/-- a call that writes over a slice of one's own -/
theorem ao_callW {f : FuncId} {zs : Array Operand} {tys : Array TypeId} {d : Nat} {good : List α → Prop} {out : AV} {x : Operand} (hC : Con P f [.own 0] [(0, .own e E xs)] fun a h => a = out ∧ ∃ ys, good ys ∧ h = [(0, .own e E ys)]) (hg : o.guard = none := by rfl) (hd : o.dst = some d := by rfl) (hn : Nat.blt d n = true := by rfl) (ho : o.op = .call { callee := .value (.func f), args := #[x], argTypes := tys } := by rfl) (hf : entersB P f = true := by kernel_rfl)
    (hx : Opv fr x (.own j) := by first | exact .un rfl (by first | assumption | exact And.left (by assumption) | exact And.left (And.left (by assumption)) | exact And.left (And.left (And.left (by assumption)))) | exact .of rfl) (hj : look H j = some (.own e E xs) := by rfl) (hout : out.uses (fun _ => false) = true := by rfl)
    (next : ∀ ys, good ys → AOps P c n ops rest Q ((d, out) :: markF (fun _ => false) fr) ((j, .own e E ys) :: dropH (one1 j) H)) : AOps P c n ops (o :: rest) Q fr H := by
  refine ao_call (B := false) hg hd hn ho hf hC (fun _ => j) (by exact .cons hx .nil) (fun i r h => by
    obtain ⟨rfl, rfl⟩ := look_one h
    exact hj) (by simp [injB, idsOf]) (fun h => by cases h) ?_
  rintro out' Hout ⟨rfl, ys, hgood, rfl⟩
  have hfr : freshIds [(0, Res.own e E xs)] [(0, Res.own e E ys)] = [] := by simp [freshIds, idsOf]
  have hany0 : anyId (fun _ => j) [] = fun _ => false := by funext i; simp [anyId]
  have hany : anyId (fun _ => j) (idsOf [(0, Res.own e E xs)] ++ idsOf [(0, Res.own e E ys)]) = one1 j := by
    funext i; simp [anyId, one1, idsOf]
  refine ⟨?_, .inl rfl, ?_⟩
  · unfold callOk
    rw [hfr, hany0, usesH_none]
    have : AV.uses (fun j => (idsOf [(0, Res.own e E ys)]).contains j) out' = true := by
      have key : ∀ (p : Nat → Bool), (∀ a : AV, a.uses (fun _ => false) = true → a.uses p = true) := by
        intro p a ha
        exact AV.uses_weak ha
      exact key _ _ hout
    rw [this]
    simp [Res.uses, injB, idsOf]
  · rw [hfr, hany0, hany]
    have : out'.ren (fun _ => j) = out' := AV.ren_id _ _ hout
    rw [this]
    exact next ys hgood
theorem ao_store_ownR [Inhabited α] {e' : Nat} {t k f : Nat} {ti : TI} {ds : List AV} {a : AV} (hg : o.guard = none := by rfl) (hd : o.dst = none := by rfl) (ho : o.op = .store t x y := by rfl) (hT : TTOk P T := by assumption) (ht : look T t = some ti := by rfl) (hx : Opv fr x (.ptr j (k * E.size + f)) := by first | exact .un rfl (by first | assumption | exact And.left (by assumption) | exact And.left (And.left (by assumption)) | exact And.left (And.left (And.left (by assumption)))) | exact .of rfl) (hj : look H j = some (.own e' E xs) := by rfl) (hk : k < xs.length := by first | omega | (simp only [List.length_append, List.length_cons, List.length_nil, List.length_take, List.length_drop, List.length_replicate, List.length_map, List.length_set]; omega))
    (hy : Opv fr y a := by first | exact .un rfl (by first | assumption | exact And.left (by assumption) | exact And.left (And.left (by assumption)) | exact And.left (And.left (And.left (by assumption)))) | exact .of rfl) (hc : cellsOf a = some ds := by rfl) (h1 : AV.allOneL ds = true := by rfl) (hu : AV.usesL (fun _ => false) ds = true := by rfl) (hl : Nat.beq ds.length ti.size = true := by rfl) (hb : Nat.ble (f + ti.size) E.size = true := by rfl) (hx' : E.cells (E.read (setAll (E.cells (nth xs k)) f ds)) = setAll (E.cells (nth xs k)) f ds := by rfl)
    (next : AOps P c n ops rest Q fr ((j, .own e' E (xs.set k (E.read (setAll (E.cells (nth xs k)) f ds)))) :: dropH (one1 j) H)) : AOps P c n ops (o :: rest) Q fr H :=
  ao_store_own hg hd ho hT ht hx hj hk hy hc h1 hu hl hb hx' next
/-- a call that uses a slice of one's own up -/
theorem ao_callX {f : FuncId} {tys : Array TypeId} {d : Nat} {out : AV} {z : Operand} (hC : Con P f [.own 0] [(0, .own e E xs)] fun a h => a = out ∧ h = []) (hg : o.guard = none := by rfl) (hd : o.dst = some d := by rfl) (hn : Nat.blt d n = true := by rfl) (ho : o.op = .call { callee := .value (.func f), args := #[z], argTypes := tys } := by rfl) (hf : entersB P f = true := by kernel_rfl)
    (hx : Opv fr z (.own j) := by first | exact .un rfl (by first | assumption | exact And.left (by assumption) | exact And.left (And.left (by assumption)) | exact And.left (And.left (And.left (by assumption)))) | exact .of rfl) (hj : look H j = some (.own e E xs) := by rfl) (hout : out.uses (fun _ => false) = true := by rfl)
    (next : AOps P c n ops rest Q ((d, out) :: fr) (dropH (one1 j) H)) : AOps P c n ops (o :: rest) Q fr H := by
  refine ao_call (B := false) hg hd hn ho hf hC (fun _ => j) (by exact .cons hx .nil) (fun i r h => by
    obtain ⟨rfl, rfl⟩ := look_one h
    exact hj) (by simp [injB, idsOf]) (fun h => by cases h) ?_
  rintro out' Hout ⟨rfl, rfl⟩
  have hfr : freshIds [(0, Res.own e E xs)] [] = [] := by simp [freshIds, idsOf]
  have hany0 : anyId (fun _ => j) [] = fun _ => false := by funext i; simp [anyId]
  have hany : anyId (fun _ => j) (idsOf [(0, Res.own e E xs)] ++ idsOf []) = one1 j := by
    funext i; simp [anyId, one1, idsOf]
  refine ⟨?_, .inl rfl, ?_⟩
  · unfold callOk
    rw [hfr, hany0, usesH_none, AV.uses_weak hout]
    simp [injB, idsOf]
  · rw [hfr, hany0, hany, markF_none]
    have : out'.ren (fun _ => j) = out' := AV.ren_id _ _ hout
    rw [this]
    exact next
/-- a call of a function value that is told -/
theorem sop_callfC {t : Tmp} {zs : Array Operand} {tys : Array TypeId} {as : List AV} {out : AV} {spec : List AV → AV → Prop} (hsp : spec as out) (ho : o.op = .call { callee := .value (.tmp t), args := zs, argTypes := tys } := by rfl) (hv : Opv fr (.tmp t) (.snap (fnF P spec)) := by first | exact .un rfl (by first | assumption | exact And.left (by assumption) | exact And.left (And.left (by assumption)) | exact And.left (And.left (And.left (by assumption)))) | exact .of rfl) (hargs : ArgsOk true fr H zs.toList as := by repeat (first | exact .nil | refine .cons (by first | exact .un rfl (by first | assumption | exact And.left (by assumption) | exact And.left (And.left (by assumption)) | exact And.left (And.left (And.left (by assumption)))) | exact .of rfl) ?_ | refine .lend rfl (by first | exact .un rfl (by first | assumption | exact And.left (by assumption) | exact And.left (And.left (by assumption)) | exact And.left (And.left (And.left (by assumption)))) | exact .of rfl) (by rfl) ?_ | refine .nilS (by first | exact .un rfl (by first | assumption | exact And.left (by assumption) | exact And.left (And.left (by assumption)) | exact And.left (And.left (And.left (by assumption)))) | exact .of rfl) ?_))
    (hB : out.flat = true := by rfl) : SOp P o fr H out := sop_callf (B := true) ho hv hargs hsp (.inr hB)
theorem sop_func {f : FuncId} {caps : Array Operand} {cs : List AV} {spec : List AV → AV → Prop} (hC : ∀ as out, spec as out → Con P f (as ++ cs) [] fun a h => a = out ∧ h = []) (ho : o.op = .makeFunc (.func f) #[] caps := by rfl) (hf : entersB P f = true := by kernel_rfl) (hcaps : CapsOk fr caps.toList cs := by repeat (first | exact .nil | refine .cons (by first | exact .un rfl (by first | assumption | exact And.left (by assumption) | exact And.left (And.left (by assumption)) | exact And.left (And.left (And.left (by assumption)))) | exact .of rfl) rfl ?_))
    (hout : ∀ as out, spec as out → AV.uses (fun _ => false) out = true) : SOp P o fr H (.snap (fnF P spec)) := sop_makeFunc spec ho hf hcaps hout hC
end
end Go.Proofs.Ytjmcbacdogjdeaa
