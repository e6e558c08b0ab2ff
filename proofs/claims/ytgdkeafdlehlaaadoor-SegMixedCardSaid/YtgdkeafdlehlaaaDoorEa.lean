/- A walk cut in two ahead of a region: ways that part and meet again are walked on once. Nothing of the program stands here. -/
import Derived.Test.YtgdkeafdlehlaaaDoorG4
namespace Go.Proofs.YtgdkeafdlehlaaaDoor
open Go Go.RowKit
set_option linter.unusedVariables false
/-- the region that a code begins with -/
def headR : Code → Nat
  | .region id _ _ => id
  | .seq x _ => headR x
  | .block _ x => headR x
  | .loop x => headR x
  | .scope x => headR x
  | _ => 1000000
/-- what of a sequence begins with that region -/
def sufR (id : Nat) : Code → Code
  | .seq x y => match Nat.beq (headR y) id with
    | true => y
    | false => sufR id y
  | c => c
def hasR (id : Nat) : Code → Bool
  | .seq x y => match Nat.beq (headR y) id with
    | true => true
    | false => hasR id y
  | c => false
structure AHold (p : Prop) : Prop where
  go : p
section
variable {P : Program} {c : Ctx} {n : Nat} {Q : AQ} {fr : List (Nat × AV)} {H : List (Nat × Res)}
/-- what is left when a way reaches the cut -/
structure AMid {ι : Type} (good : ι → Prop) (mid : ι → List (Nat × AV)) (midH : ι → List (Nat × Res)) (fr' : List (Nat × AV)) (H' : List (Nat × Res)) : Prop where
  go : ∃ i, good i ∧ Cov fr' H' (mid i) (midH i)
theorem amid {ι : Type} {good : ι → Prop} {mid : ι → List (Nat × AV)} {midH : ι → List (Nat × Res)} (i : ι) (hg : good i) (hc : Cov fr H (mid i) (midH i)) : AMid good mid midH fr H := ⟨i, hg, hc⟩
/-- a sequence, up to the cut -/
def ACut (P : Program) (c : Ctx) (n : Nat) (id : Nat) (M : List (Nat × AV) → List (Nat × Res) → Prop) (Q : AQ) : Code → List (Nat × AV) → List (Nat × Res) → Prop
  | .seq x y, fr, H => match Nat.beq (headR y) id with
    | true => ACode P c n x (AThen M Q) fr H
    | false => ACode P c n x (AThen (ACut P c n id M Q y) Q) fr H
  | _, _, _ => False
theorem acut_at {id : Nat} {M : List (Nat × AV) → List (Nat × Res) → Prop} {x y : Code} (hid : Nat.beq (headR y) id = true) (h : ACode P c n x (AThen M Q) fr H) : ACut P c n id M Q (.seq x y) fr H := by
  unfold ACut; rw [hid]; exact h
theorem acut_go {id : Nat} {M : List (Nat × AV) → List (Nat × Res) → Prop} {x y : Code} (hid : Nat.beq (headR y) id = false) (h : ACode P c n x (AThen (ACut P c n id M Q y) Q) fr H) : ACut P c n id M Q (.seq x y) fr H := by
  unfold ACut; rw [hid]; exact h
theorem a_thenM {x : Code} {M N : List (Nat × AV) → List (Nat × Res) → Prop} (h : ACode P c n x (AThen M Q) fr H) (hm : ∀ fr H, M fr H → N fr H) : ACode P c n x (AThen N Q) fr H := fun S γ tmps w hr => by
  refine wp_mono (h S γ tmps w hr) ?_
  rintro e a w' ⟨fr', H', S', γ', hq, hr', hd⟩
  refine ⟨fr', H', S', γ', ?_, hr', hd⟩
  cases e with
  | normal => exact hm _ _ hq
  | _ => exact hq
theorem acut_join {id : Nat} {M : List (Nat × AV) → List (Nat × Res) → Prop} : ∀ (x : Code), (∀ fr H, M fr H → ACode P c n (sufR id x) Q fr H) → ∀ (fr : List (Nat × AV)) (H : List (Nat × Res)), ACut P c n id M Q x fr H → ACode P c n x Q fr H
  | .seq x y, hm, fr, H, h => by
    unfold ACut at h
    unfold sufR at hm
    refine a_seq ?_
    cases hb : Nat.beq (headR y) id with
    | true => rw [hb] at h hm; exact a_thenM h hm
    | false => rw [hb] at h hm; exact a_thenM h (acut_join y hm)
  | .skip, _, _, _, h => h.elim
  | .region _ _ _, _, _, _, h => h.elim
  | .cond _ _ _, _, _, _, h => h.elim
  | .block _ _, _, _, _, h => h.elim
  | .loop _, _, _, _, h => h.elim
  | .rangeFunc _ _ _ _, _, _, _, h => h.elim
  | .exit _, _, _, _, h => h.elim
  | .scope _, _, _, _, h => h.elim
  | .label _, _, _, _, h => h.elim
  | .goto _, _, _, _, h => h.elim
  | .ret, _, _, _, h => h.elim
  | .refuse _, _, _, _, h => h.elim
/-- at a sequence that begins with region 'first': cut it ahead of region 'id'; both halves wait -/
theorem a_cutAt (first id : Nat) {x y : Code} {ι : Type} (good : ι → Prop) (mid : ι → List (Nat × AV)) (midH : ι → List (Nat × Res)) (hf : Nat.beq (headR x) first = true := by rfl) (hc : hasR id x = true := by rfl) (hs : sufR id x = y := by rfl)
    (hx : AHold (ACut P c n id (AMid good mid midH) Q x fr H)) (hy : ∀ i, good i → ACode P c n y Q (mid i) (midH i)) : ACode P c n x Q fr H :=
  acut_join x (fun fr H ⟨i, hg, hc⟩ => by rw [hs]; exact a_weaken hc (hy i hg)) fr H hx.go
end
end Go.Proofs.YtgdkeafdlehlaaaDoor
