/- Words of our own for walks over abstract values, laid together. Nothing of the program stands here. -/
import Derived.Test.YtgiicfjibngooaaDoorG4
import Derived.Laws.BitsLemmas
import Derived.Test.YtgiicfjibngooaaDoorG1
import Derived.Laws.BitsAllLaws
import Derived.Laws.BytesArg
import Derived.Lib.Strings
/- The plain law of the sum: a register of 32 bits, bytes pushed through it. Nothing of the program stands here. -/
namespace Go.Proofs.YtgiicfjibngooaaDoor
abbrev R := BitVec 32
def poly : R := 0x82F63B78#32
def bit (s : R) : R := if s &&& 1#32 = 1#32 then (s >>> 1) ^^^ poly else s >>> 1
def bit8 (s : R) : R := bit (bit (bit (bit (bit (bit (bit (bit s)))))))
def stp (r : R) (b : UInt8) : R := bit8 (r ^^^ b.toBitVec.zeroExtend 32)
def crc (r : R) (l : List UInt8) : R := l.foldl stp r
/-- all bits turned -/
def rnot (s : R) : R := ~~~ s
def more (s : R) (l : List UInt8) : R := rnot (crc (rnot s) l)
end Go.Proofs.YtgiicfjibngooaaDoor

/- The plain law of numbers laid into bytes: qs0 few bytes qs0 there may be, seven bits each; or so many bytes, the highest first. Nothing of the program stands here. -/
namespace Go.Proofs.YtgiicfjibngooaaDoor
theorem u8_eq {a b : UInt8} (h : a.toNat = b.toNat) : a = b := UInt8.toNat.inj h

end Go.Proofs.YtgiicfjibngooaaDoor

/- Bytes qs0 data, operations on bytes and on registers of a sum, contracts told of worlds. Nothing of the program stands here. -/
namespace Go.Proofs.YtgiicfjibngooaaDoor
open Go Go.RowKit
set_option linter.unusedVariables false
set_option linter.unusedSimpArgs false
def encU : Enc UInt8 := ⟨1, fun b => [.lit (.int .u8 (b.toNat : Int))], fun _ => rfl, fun _ => rfl, fun _ => rfl, fun l => match l with
  | [.lit (.int _ a)] => UInt8.ofNat a.toNat
  | _ => default⟩
/-- the lowest byte of a number -/
def b8i (a : Int) : UInt8 := UInt8.ofNat (a % 256).toNat
theorem b8i_int (a : Int) : ((b8i a).toNat : Int) = a % 256 := by
  have h1 := Int.emod_nonneg a (show (256 : Int) ≠ 0 by omega)
  have h2 := Int.emod_lt_of_pos a (show (0 : Int) < 256 by omega)
  unfold b8i
  rw [UInt8.toNat_ofNat']
  omega
section
variable {P : Program} {T : List (Nat × TI)} {o : Oper} {fr : List (Nat × AV)} {H : List (Nat × Res)} {c : Ctx} {n : Nat} {Q : AQ} {ops : Array Oper} {rest : List Oper}
variable {S : Nat → Prop} {γ : Nat → Value} {w : World} {x y : Operand} {t t' : TypeId} {s b s' b' : Nat} {u v : UInt8} {r q : R} {j : IntKind} {a : Int}
theorem sop_conv_b (ho : o.op = .convert t t' x := by rfl) (hT : TTOk P T := by assumption) (ht : look T t = some ⟨.int j, s, b⟩ := by rfl) (ht' : look T t' = some ⟨.int .u8, s', b'⟩ := by rfl) (hx : Opv fr x (.lit (.int j a)) := by exact opv_std) : SOp P o fr H (.lit (.int .u8 ((b8i a).toNat : Int))) :=
  sop_cast (sop_conv ho hT ht ht' hx) (by rw [IntKind.wrap_u8, b8i_int])
theorem encU_all {l : List UInt8} : encU.all l = l.map fun u => .lit (bv u) := by
  induction l with
  | nil => rfl
  | cons x l ih =>
    have : encU.all (x :: l) = encU.cells x ++ encU.all l := rfl
    rw [this, ih]; rfl
theorem encU_vs {l : List UInt8} {vs : List Value} (h : AV.holdsL S γ w (encU.all l) vs) : vs = bvs l := by
  rw [encU_all] at h
  induction l generalizing vs with
  | nil => simpa [AV.holdsL, bvs] using h
  | cons x l ih =>
    simp only [List.map_cons, AV.holdsL, AV.holds] at h
    obtain ⟨v, vs', rfl, rfl, h2⟩ := h
    rw [ih h2]; rfl
theorem encU_bvs (l : List UInt8) : AV.holdsL S γ w (encU.all l) (bvs l) := by
  rw [encU_all]
  induction l with
  | nil => simp [AV.holdsL, bvs]
  | cons x l ih =>
    simp only [List.map_cons, AV.holdsL, AV.holds, bvs]
    exact ⟨_, _, rfl, rfl, ih⟩
theorem sl_bytes {l : List UInt8} {z : Value} (h : (slF encU l).holds S w z) : ∃ A cp, z = .slice A l.length cp ∧ l.length ≤ cp ∧ Row w A (bvs l) := by
  obtain ⟨A, cp, vs, rfl, hc, hr, hh, _⟩ := h
  exact ⟨A, cp, rfl, hc, by rw [← encU_vs hh]; exact hr.row⟩
end
end Go.Proofs.YtgiicfjibngooaaDoor

/- More of what single operations come to: length, difference, or, append behind nothing. Nothing of the program stands here. -/
namespace Go.Proofs.YtgiicfjibngooaaDoor
open Go Go.RowKit
set_option linter.unusedVariables false
/-- a slice made by the call, of these bytes -/
def Fact.own (base : Nat) (e : TypeId) (l : List UInt8) : Fact := ⟨fun v w => Own w base e 1 v l.length (bvs l), fun _ _ _ h x => h.ext x⟩
section
variable {P : Program} {ρ : Operand → Value} {w : World} {R : Value → World → Prop} {o : Oper}
end
end Go.Proofs.YtgiicfjibngooaaDoor

/- What a conversion of bytes to a text, and comparing two of these, come to. Nothing of the program stands here. -/
namespace Go.Proofs.YtgiicfjibngooaaDoor
open Go Go.RowKit
set_option linter.unusedVariables false
/-- bytes qs0 a text -/
def strOf (l : List UInt8) : ByteArray := ⟨l.toArray⟩
section
variable {P : Program} {ρ : Operand → Value} {w : World} {R : Value → World → Prop} {o : Oper}
theorem run_rb_string {v : Value} {l : List UInt8} {src dst e : TypeId} (hs : P.underlying src = some (.slice e)) (he : P.underlying e = some (.int .u8)) (hd : P.underlying dst = some .string) (h : RB w v l) :
    (convert src dst v).run P w = .ok (.string (strOf l)) w := by
  obtain ⟨A, c, rfl, hc, hr⟩ := h
  cases A with
  | none =>
    have hl0 : l = [] := by
      rcases l with _ | ⟨x, l⟩
      · rfl
      · obtain ⟨ad, h, _⟩ := hr (by simp [bvs])
        cases h
    subst hl0
    rw [run_convert_bytes_nil w src e hs he _ _ dst hd]
    rfl
  | some ad =>
    have hm : bvs l = (l.map (fun b => (b.toNat : Int))).map (Value.int .u8) := by simp [bvs, bv, Function.comp_def]
    have hl : (loadCells ad l.length).run P w = .ok ((l.map (fun b => (b.toNat : Int))).map (Value.int .u8)).toArray w := by
      have := run_loadCells_list (P := P) w ad (bvs l) (fun j v hj => by
        obtain ⟨ad', h1, h2⟩ := hr (by intro e; rw [e] at hj; simp at hj)
        cases h1
        exact h2 j v hj)
      rw [hm] at this
      simpa using this
    rw [run_convert_bytes_string w src dst e _ _ c hs he hd, run_bytesToString w _ _ c _ hl, foldl_push_bytes]
    simp [strOf, Function.comp_def]
end
end Go.Proofs.YtgiicfjibngooaaDoor

/- Texts of bytes qs0 data. Nothing of the program stands here. -/
namespace Go.Proofs.YtgiicfjibngooaaDoor
open Go Go.RowKit
set_option linter.unusedVariables false
set_option linter.unusedSimpArgs false
section
variable {P : Program} {T : List (Nat × TI)} {o : Oper} {fr : List (Nat × AV)} {H : List (Nat × Res)}
variable {x y : Operand} {t t' e : TypeId} {s b s' b' s2 b2 : Nat} {l m : List UInt8}
theorem sl_rb {S : Nat → Prop} {w : World} {z : Value} (h : (slF encU l).holds S w z) : RB w z l := sl_bytes h
theorem sop_str (ho : o.op = .convert t t' x := by rfl) (hT : TTOk P T := by assumption) (ht : look T t = some ⟨.slice e, s, b⟩ := by rfl) (he : look T e = some ⟨.int .u8, s2, b2⟩ := by rfl) (ht' : look T t' = some ⟨.str, s', b'⟩ := by rfl) (hx : Opv fr x (.snap (slF encU l)) := by exact opv_std) : SOp P o fr H (.lit (.string (strOf l))) := fun S γ w ρ h => by
  have h1 := h.get hx (by simp [ho, Op.operands])
  simp only [AV.holds] at h1
  refine outl ?_
  simp [execOp, ho, run_rb_string (hT.slice ht) (hT.int he) (hT.str ht') (sl_rb h1)]
theorem sop_str_own {j e' : Nat} (ho : o.op = .convert t t' x := by rfl) (hT : TTOk P T := by assumption) (ht : look T t = some ⟨.slice e, s, b⟩ := by rfl) (he : look T e = some ⟨.int .u8, s2, b2⟩ := by rfl) (ht' : look T t' = some ⟨.str, s', b'⟩ := by rfl) (hx : Opv fr x (.own j) := by exact opv_std) (hj : look H j = some (.own e' encU l) := by rfl) : SOp P o fr H (.lit (.string (strOf l))) := fun S γ w ρ h => by
  have h1 := h.get hx (by simp [ho, Op.operands])
  simp only [AV.holds] at h1
  have h2 : (slF encU l).holds (fun b => S b ∨ rblk (γ j) = some b) w (ρ x) := by
    rw [h1]
    exact own_snap h.st hj (fun b h => .inl h) (fun b h => .inr h)
  refine outl ?_
  simp [execOp, ho, run_rb_string (hT.slice ht) (hT.int he) (hT.str ht') (sl_rb h2)]
theorem sop_eql_str (ho : o.op = .binOp .eql t x y t' := by rfl) (hx : Opv fr x (.lit (.string (strOf l))) := by exact opv_std) (hy : Opv fr y (.lit (.string (strOf m))) := by exact opv_std) : SOp P o fr H (.lit (.bool (decide (l = m)))) := fun S γ w ρ h => by
  have h1 := h.lit hx (by simp [ho, Op.operands])
  have h2 := h.lit hy (by simp [ho, Op.operands])
  refine outl ?_
  by_cases e : l = m
  · subst e
    simp [execOp, ho, h1, h2, go_sem]
  · have e' : ¬ (strOf l).toList = (strOf m).toList := by rw [ByteArray.toList_eq, ByteArray.toList_eq]; exact fun h => e (by simpa [strOf] using h)
    simp [execOp, ho, h1, h2, go_sem, e, e']
theorem sop_neq_str (ho : o.op = .binOp .neq t x y t' := by rfl) (hx : Opv fr x (.lit (.string (strOf l))) := by exact opv_std) (hy : Opv fr y (.lit (.string (strOf m))) := by exact opv_std) : SOp P o fr H (.lit (.bool (decide (l ≠ m)))) := fun S γ w ρ h => by
  have h1 := h.lit hx (by simp [ho, Op.operands])
  have h2 := h.lit hy (by simp [ho, Op.operands])
  refine outl ?_
  by_cases e : l = m
  · subst e
    simp [execOp, ho, h1, h2, go_sem]
  · have e' : ¬ (strOf l).toList = (strOf m).toList := by rw [ByteArray.toList_eq, ByteArray.toList_eq]; exact fun h => e (by simpa [strOf] using h)
    simp [execOp, ho, h1, h2, go_sem, e, e']
end
end Go.Proofs.YtgiicfjibngooaaDoor

/- Slicing by number, appending to nil qs0 a value that is only read. Nothing of the program stands here. -/
namespace Go.Proofs.YtgiicfjibngooaaDoor
open Go Go.RowKit
set_option linter.unusedVariables false
set_option linter.unusedSimpArgs false
section
variable {P : Program} {T : List (Nat × TI)} {o : Oper} {fr : List (Nat × AV)} {H : List (Nat × Res)}
variable {α : Type} {E : Enc α} {xs ys : List α} {x y : Operand} {t e s b : Nat} {ei : TI}
/-- one's own, only read from here on -/
theorem a_frzOwn {c : Ctx} {n : Nat} {Q : AQ} (id j : Nat) {l : Array Oper} {d : Bool} {e : Nat} {zs : List α} (hj : look H j = some (.own e E zs) := by rfl) (h : ACode P c n (.region id l d) Q (frzO j E zs fr) (dropH (one1 j) H)) : ACode P c n (.region id l d) Q fr H := a_freezeOwn j hj h
end
end Go.Proofs.YtgiicfjibngooaaDoor
