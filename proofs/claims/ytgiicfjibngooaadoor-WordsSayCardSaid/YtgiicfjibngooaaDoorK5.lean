/- Reading bytes. -/
import Derived.Test.YtgiicfjibngooaaDoorK4
namespace Go.Proofs.YtgiicfjibngooaaDoor
open Go Go.RowKit
set_option linter.unusedVariables false
set_option linter.unusedSimpArgs false
attribute [local irreducible] ACode AOps AThen ABlock ACut

def okP (l : List UInt8) (k : Nat) : Bool := (List.range k).all fun j => decide (0 ≤ dig (nth l (2 * j))) && decide (0 ≤ dig (nth l (2 * j + 1)))
def byP (l : List UInt8) (j : Nat) : UInt8 := UInt8.ofNat (16 * (dig (nth l (2 * j))).toNat + (dig (nth l (2 * j + 1))).toNat)
def outP (l : List UInt8) (k : Nat) : List UInt8 := (List.range k).map (byP l)
theorem outP_succ (l : List UInt8) (k : Nat) : outP l (k + 1) = outP l k ++ [byP l k] := by unfold outP; rw [List.range_succ, List.map_append]; rfl
theorem outP_len (l : List UInt8) (k : Nat) : (outP l k).length = k := by simp [outP]
theorem okP_succ (l : List UInt8) (k : Nat) : okP l (k + 1) = true ↔ okP l k = true ∧ 0 ≤ dig (nth l (2 * k)) ∧ 0 ≤ dig (nth l (2 * k + 1)) := by
  unfold okP
  rw [List.range_succ, List.all_append, Bool.and_eq_true]
  simp
theorem okP_le {l : List UInt8} {k m : Nat} (h : okP l m = true) (hk : k ≤ m) : okP l k = true := by
  unfold okP at h ⊢
  rw [List.all_eq_true] at h ⊢
  exact fun j hj => h j (List.mem_range.2 (Nat.lt_of_lt_of_le (List.mem_range.1 hj) hk))
/-- bytes read back -/
def rdX (l : List UInt8) : List UInt8 × Bool := if l = [45] then ([], true) else if (l.length : Int) % 2 ≠ 0 then ([], false) else if okP l (l.length / 2) = true then (outP l (l.length / 2), true) else ([], false)
theorem nth_dgs : ∀ (d : List UInt8) (j : Nat), j < d.length → nth (dgs d) (2 * j) = hd ((nth d j).toNat / 16) ∧ nth (dgs d) (2 * j + 1) = hd ((nth d j).toNat % 16)
  | [], j, h => by simp at h
  | x :: d, 0, _ => ⟨rfl, rfl⟩
  | x :: d, j + 1, h => by
    have ih := nth_dgs d j (by simpa using h)
    have e : dgs (x :: d) = hd (x.toNat / 16) :: hd (x.toNat % 16) :: dgs d := rfl
    rw [e, show 2 * (j + 1) = 2 * j + 1 + 1 by omega]
    exact ih
theorem rd_data (d : List UInt8) : rdX (dataL d) = (d, true) := by
  unfold dataL
  by_cases hz : d.length = 0
  · rw [if_pos hz]
    obtain rfl : d = [] := List.eq_nil_of_length_eq_zero hz
    rfl
  · rw [if_neg hz]
    have hl := dgs_len d
    have hdg : ∀ j, j < d.length → dig (nth (dgs d) (2 * j)) = ((nth d j).toNat / 16 : Nat) ∧ dig (nth (dgs d) (2 * j + 1)) = ((nth d j).toNat % 16 : Nat) := fun j hj => by
      have hu := (nth d j).toNat_lt
      rw [(nth_dgs d j hj).1, (nth_dgs d j hj).2]
      exact ⟨dig_hd ⟨(nth d j).toNat / 16, by omega⟩, dig_hd ⟨(nth d j).toNat % 16, by omega⟩⟩
    unfold rdX
    rw [if_neg (fun e => by rw [e] at hl; simp at hl; omega), if_neg (by omega), hl, show 2 * d.length / 2 = d.length by omega]
    rw [if_pos (by
      unfold okP
      rw [List.all_eq_true]
      intro j hj
      have hj := List.mem_range.1 hj
      rw [(hdg j hj).1, (hdg j hj).2]
      simp only [Bool.and_eq_true, decide_eq_true_eq]
      omega)]
    have : outP (dgs d) d.length = d := by
      apply List.ext_getElem
      · rw [outP_len]
      · intro j h1 h2
        have hu := (nth d j).toNat_lt
        simp only [outP, List.getElem_map, List.getElem_range, byP]
        rw [(hdg j h2).1, (hdg j h2).2, Int.toNat_natCast, Int.toNat_natCast, show 16 * ((nth d j).toNat / 16) + (nth d j).toNat % 16 = (nth d j).toNat by omega, UInt8.ofNat_toNat, nth_eq h2]
    rw [this]
section
variable {P : Program} {T : List (Nat × TI)} {fr : List (Nat × AV)} {H : List (Nat × Res)} {o : Oper} {x y : Operand} {t t' : TypeId} {s bt s' bt' : Nat}
theorem shl_all : ∀ a : Fin 16, IntKind.i64.wrap ((a.val : Int) * 2 ^ (min (4 : Int).toNat IntKind.i64.bits)) = (a.val : Int) * 16 := by decide +kernel
theorem or_all : ∀ a b : Fin 16, bits .or .i64 ((a.val : Int) * 16) (b.val : Int) = (a.val : Int) * 16 + (b.val : Int) := by decide +kernel
theorem sop_shl16 {a : Int} {k' : IntKind} (ho : o.op = .binOp .shl t x y t' := by rfl) (hx : Opv fr x (.lit (.int .i64 a)) := by exact opv_std) (hy : Opv fr y (.lit (.int k' 4)) := by exact opv_std) (h0 : 0 ≤ a := by omega) (h1 : a < 16 := by omega) : SOp P o fr H (.lit (.int .i64 (a * 16))) :=
  sop_cast (sop_shl ho hx hy (by omega)) (congrArg (fun r => Value.int .i64 r) (by
    have := shl_all ⟨a.toNat, by omega⟩
    rwa [show ((a.toNat : Nat) : Int) = a by omega] at this))
theorem sop_or16 {a b : Int} (ho : o.op = .binOp .or t x y t' := by rfl) (hx : Opv fr x (.lit (.int .i64 (a * 16))) := by exact opv_std) (hy : Opv fr y (.lit (.int .i64 b)) := by exact opv_std) (h0 : 0 ≤ a := by omega) (h1 : a < 16 := by omega) (h2 : 0 ≤ b := by omega) (h3 : b < 16 := by omega) : SOp P o fr H (.lit (.int .i64 (a * 16 + b))) :=
  sop_cast (sop_or ho hx hy) (congrArg (fun r => Value.int .i64 r) (by
    have := or_all ⟨a.toNat, by omega⟩ ⟨b.toNat, by omega⟩
    rwa [show ((a.toNat : Nat) : Int) = a by omega, show ((b.toNat : Nat) : Int) = b by omega] at this))
end
theorem nil_tup {S : Nat → Prop} {γ : Nat → Value} {w : World} {v : Value} {b : AV} (h : AV.holds S γ w (.tup [.lit (.slice none 0 0), b]) v) : AV.holds S γ w (.tup [.snap (slF encU []), b]) v := by
  obtain ⟨vs, rfl, v1, r1, rfl, h1, h2⟩ := h
  rw [show v1 = .slice none 0 0 from h1] at *
  exact ⟨_, rfl, _, r1, rfl, nil_sl encU S w, h2⟩
end Go.Proofs.YtgiicfjibngooaaDoor
