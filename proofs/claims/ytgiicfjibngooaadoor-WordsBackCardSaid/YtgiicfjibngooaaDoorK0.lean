/- Commands, and how they are said: plain. -/
import Derived.Test.YtgiicfjibngooaaDoorM8
import Derived.Test.YtgiicfjibngooaaDoorJ3
import Derived.Test.YtgiicfjibngooaaDoorJ2
import Derived.Lib.AppendIntMem
namespace Go.Proofs.YtgiicfjibngooaaDoor
open Go Go.RowKit
set_option linter.unusedVariables false
set_option linter.unusedSimpArgs false
attribute [local irreducible] ACode AOps AThen ABlock ACut

def encS : Enc (List UInt8) := ⟨1, fun l => [.lit (.string (strOf l))], fun _ => rfl, fun _ => rfl, fun _ => rfl, fun c => match c with
  | [.lit (.string s)] => s.data.toList
  | _ => default⟩
/-- a command -/
inductive Cmd where
  | no
  | dirty (a : Nat) (d : List UInt8)
  | fill (a : Nat) (d : List UInt8)
  | rd (a : Nat)
  | evict (a : Nat)
  | clean (a : Nat)
  | exi (a : Nat) (m : Int)
def cmdA : Cmd → AV
  | .no => .lit .nilIface
  | .dirty a d => .snap (ifF 67 (.agg [.lit (.int .u64 (a : Int)), .snap (slF encU d)]))
  | .fill a d => .snap (ifF 66 (.agg [.lit (.int .u64 (a : Int)), .snap (slF encU d)]))
  | .rd a => .snap (ifF 52 (.agg [.lit (.int .u64 (a : Int))]))
  | .evict a => .snap (ifF 68 (.agg [.lit (.int .u64 (a : Int))]))
  | .clean a => .snap (ifF 69 (.agg [.lit (.int .u64 (a : Int))]))
  | .exi a m => .snap (ifF 73 (.agg [.lit (.int .u64 (a : Int)), .lit (.int .i64 m)]))
/-- an order -/
structure Ord where
  kind : Int
  addr : Nat
  data : List UInt8
  many : Int
def ordA (o : Ord) : AV := .agg [.lit (.int .i64 o.kind), .lit (.int .u64 (o.addr : Int)), .snap (slF encU o.data), .lit (.int .i64 o.many)]
def ordC : Cmd → Ord
  | .no => ⟨0, 0, [], 0⟩
  | .dirty a d => ⟨1, a, d, 0⟩
  | .fill a d => ⟨2, a, d, 0⟩
  | .rd a => ⟨3, a, [], 0⟩
  | .evict a => ⟨4, a, [], 0⟩
  | .clean a => ⟨5, a, [], 0⟩
  | .exi a m => ⟨6, a, [], m⟩
def isC : Cmd → Bool
  | .no => false
  | _ => true
/-- the command of an order -/
def cmdO (o : Ord) : Cmd := if o.kind = 1 then .dirty o.addr o.data else if o.kind = 2 then .fill o.addr o.data else if o.kind = 3 then .rd o.addr else if o.kind = 4 then .evict o.addr else if o.kind = 5 then .clean o.addr else if o.kind = 6 then .exi o.addr o.many else .no
def itoU (n : Int) : List UInt8 := Lib.itoa n
theorem itoa_con (n : Int) (h0 : -9223372036854775808 ≤ n) (h1 : n ≤ 9223372036854775807) : Con Tryd.prog 35 [.lit (.int .i64 n)] [] (fun az hz => az = .lit (.string (strOf (itoU n))) ∧ hz = []) :=
  con_lit (us := [.int .i64 n]) fun S w hs => by
    obtain ⟨e, fz, hh⟩ := amb_p10 hs.amb
    refine (Tryd.strconv_Itoa n h0 h1 w ?_).mono ?_
    · unfold Lib.TabIs World.var?
      rw [show Tryd.prog.globalNamed "internal/strconv.uint64pow10" = some 3 by kernel_rfl]
      simp only [Option.bind_some]
      rw [hh]
    · rintro e w' ⟨rfl, k, os, rfl⟩
      exact ⟨rfl, Lib.below_grow _ w (Nat.le_refl _) k os⟩
theorem itoU_small : ∀ m : Fin 65, 1 ≤ (itoU (m.val : Int)).length ∧ (itoU (m.val : Int)).length ≤ 2 := by decide +kernel
def dgs (d : List UInt8) : List UInt8 := d.flatMap fun x => [hd (x.toNat / 16), hd (x.toNat % 16)]
theorem dgs_snoc (d : List UInt8) (x : UInt8) : dgs (d ++ [x]) = dgs d ++ [hd (x.toNat / 16), hd (x.toNat % 16)] := by simp [dgs]
theorem dgs_len (d : List UInt8) : (dgs d).length = 2 * d.length := by
  induction d with
  | nil => rfl
  | cons x d ih =>
    have : dgs (x :: d) = [hd (x.toNat / 16), hd (x.toNat % 16)] ++ dgs d := rfl
    rw [this, List.length_append, ih]
    simp only [List.length_cons, List.length_nil]; omega
def dataL (d : List UInt8) : List UInt8 := if d.length = 0 then [45] else dgs d
theorem dataL_len (d : List UInt8) : (dataL d).length ≤ 2 * d.length + 1 ∧ 1 ≤ (dataL d).length := by
  unfold dataL
  split
  · simp
  · rw [dgs_len]; omega
def okC : Cmd → Bool
  | .no => false
  | .dirty _ d => decide (d.length ≤ 256)
  | .fill _ d => decide (d.length ≤ 256)
  | .exi _ m => decide (0 ≤ m) && decide (m ≤ 64)
  | _ => true
def sayL : Cmd → List UInt8
  | .no => []
  | .dirty a d => [100, 105, 114, 116, 121] ++ [32] ++ hx a ++ ([32] ++ dataL d)
  | .fill a d => [102, 105, 108, 108] ++ [32] ++ hx a ++ ([32] ++ dataL d)
  | .rd a => [114, 101, 97, 100] ++ [32] ++ hx a
  | .evict a => [101, 118, 105, 99, 116] ++ [32] ++ hx a
  | .clean a => [99, 108, 101, 97, 110] ++ [32] ++ hx a
  | .exi a m => [101, 120, 105, 115, 116, 115] ++ [32] ++ hx a ++ ([32] ++ itoU m)
def sayS (c : Cmd) : List UInt8 := if okC c = true then sayL c else []
def sayE (c : Cmd) : Int := if okC c = true then 0 else 2
section
variable {P : Program} {T : List (Nat × TI)} {fr : List (Nat × AV)} {H : List (Nat × Res)} {o : Oper} {x y : Operand} {t t' : TypeId}
theorem and15_all : ∀ c : Fin 256, bits .and .u8 (c.val : Int) 15 = (c.val : Int) % 16 := by decide +kernel
theorem sop_and15b {u : UInt8} (ho : o.op = .binOp .and t x y t' := by rfl) (hx : Opv fr x (.lit (.int .u8 (u.toNat : Int))) := by exact opv_std) (hy : Opv fr y (.lit (.int .u8 15)) := by exact opv_std) : SOp P o fr H (.lit (.int .u8 ((u.toNat : Int) % 16))) :=
  sop_cast (sop_and ho hx hy) (congrArg (fun r => Value.int .u8 r) (and15_all ⟨u.toNat, u.toNat_lt⟩))
theorem shr4_all : ∀ c : Fin 256, ((c.val : Int)).fdiv (2 ^ (min (4 : Int).toNat IntKind.u8.bits)) = (c.val : Int) / 16 := by decide +kernel
theorem sop_shr4b {u : UInt8} {k' : IntKind} (ho : o.op = .binOp .shr t x y t' := by rfl) (hx : Opv fr x (.lit (.int .u8 (u.toNat : Int))) := by exact opv_std) (hy : Opv fr y (.lit (.int k' 4)) := by exact opv_std) : SOp P o fr H (.lit (.int .u8 ((u.toNat : Int) / 16))) :=
  sop_cast (sop_shr ho hx hy (by omega)) (congrArg (fun r => Value.int .u8 r) (shr4_all ⟨u.toNat, u.toNat_lt⟩))
end
theorem nil_ord {S : Nat → Prop} {γ : Nat → Value} {w : World} {v : Value} {k : Int} {a : Int} {m : Int} (h : AV.holds S γ w (.agg [.lit (.int .i64 k), .lit (.int .u64 a), .lit (.slice none 0 0), .lit (.int .i64 m)]) v) : AV.holds S γ w (.agg [.lit (.int .i64 k), .lit (.int .u64 a), .snap (slF encU []), .lit (.int .i64 m)]) v := by
  simp only [AV.holds, AV.holdsL] at h ⊢
  obtain ⟨vs, rfl, v1, r1, rfl, rfl, v2, r2, rfl, rfl, v3, r3, rfl, rfl, h4⟩ := h
  exact ⟨_, rfl, _, _, rfl, rfl, _, _, rfl, rfl, _, _, rfl, nil_sl encU S w, h4⟩
theorem nil_ordT {S : Nat → Prop} {γ : Nat → Value} {w : World} {v : Value} {k : Int} {a : Int} {m : Int} {b : AV} (h : AV.holds S γ w (.tup [.agg [.lit (.int .i64 k), .lit (.int .u64 a), .lit (.slice none 0 0), .lit (.int .i64 m)], b]) v) : AV.holds S γ w (.tup [.agg [.lit (.int .i64 k), .lit (.int .u64 a), .snap (slF encU []), .lit (.int .i64 m)], b]) v := by
  obtain ⟨vs, rfl, v1, r1, rfl, h1, h2⟩ := h
  exact ⟨_, rfl, v1, r1, rfl, nil_ord h1, h2⟩
end Go.Proofs.YtgiicfjibngooaaDoor
