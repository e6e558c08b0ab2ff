/- Regions whose last operations write what earlier ones read, over abstract frames. Nothing of the program stands here. -/
import Derived.Test.YtjmcbacdogjdeaaAl
namespace Go.Proofs.Ytjmcbacdogjdeaa
open Go Go.RowKit
set_option linter.unusedVariables false
section
variable {P : Program} {c : Ctx} {n : Nat} {Q : AQ} {fr : List (Nat × AV)} {H : List (Nat × Res)} {ops : Array Oper}
def mem1 (x : Nat) : List Nat → Bool
  | [] => false
  | y :: r => match Nat.beq x y with | true => true | false => mem1 x r
def tmpsOf : List Operand → List Nat
  | [] => []
  | .tmp t :: r => t :: tmpsOf r
  | _ :: r => tmpsOf r
def splitR : List Nat → List Oper → List Oper × List Oper
  | _, [] => ([], [])
  | seen, o :: r => match o.dst with
    | none => ([], o :: r)
    | some d => match mem1 d seen with
      | true => ([], o :: r)
      | false => match splitR (tmpsOf o.op.operands.toList ++ seen) r with | (a, b) => (o :: a, b)
theorem splitR_app : ∀ (l : List Oper) (seen : List Nat), (splitR seen l).1 ++ (splitR seen l).2 = l
  | [], _ => rfl
  | o :: r, seen => by
    unfold splitR
    split
    · rfl
    · split
      · rfl
      · simp only [List.cons_append, splitR_app r]
theorem a_region_tailR {id : Nat} {l pre tail : List Oper} {o1 : Oper} (hsp : splitR [] l = (pre, o1 :: tail)) (hm : P.follows .mixedOrders = true) (htc : tailOk l.toArray pre.length n = true) (hc : regOk pre.toArray n = true) (hdep : depsOk pre.toArray = true)
    (ev : EvK P pre.toArray H (fun fr' => AOps P c n l.toArray (o1 :: tail) Q fr' H) pre fr) : ACode P c n (.region id l.toArray true) Q fr H := fun S γ tmps w0 hr => by
  obtain ⟨as, h1, h2⟩ := ev.ev
  have e : pre ++ (o1 :: tail) = l := by have := splitR_app l []; rw [hsp] at this; exact this
  subst e
  refine region_core pre.length (fun _ _ _ => True) (fun _ _ => trivial) (fun o ho => by simp at ho) (by rw [List.getElem?_eq_none (by rw [h1.len]; omega)]; rfl) hm htc hc hdep h1 hr ?_
  intro vs w x hf
  have hrx := hr.ext x
  refine h2 (FreshS S w0 w) γ _ w ⟨hrx.st, ?_, hrx.up, hrx.own, hrx.ids, by rw [fill_size]; exact hr.size, hrx.keep⟩
  intro y av hl
  rcases frame_after hc h1 hr.size vs hl with ⟨h, e⟩ | ⟨i, hi, ha, e⟩
  · rw [e]; exact hrx.fr y av h
  · rw [e]
    have := (hf i y hi).2.1
    rw [ha] at this
    exact this
end
end Go.Proofs.Ytjmcbacdogjdeaa
