/- An answer of one's own, handed on qs0 read-only. Nothing of the program stands here. -/
import Derived.Test.YtgdkeafdlehlaaaDoorBe
namespace Go.Proofs.YtgdkeafdlehlaaaDoor
open Go Go.RowKit
set_option linter.unusedVariables false

/-- what is one's own, handed out to be read alone -/
def frz1 {α : Type} (k : Nat) (E : Enc α) (ys : List α) : AV → AV
  | .own i => match Nat.beq i k with | true => .snap (slF E ys) | false => .any
  | .ptr _ _ => .any
  | .sl _ _ _ _ => .any
  | .pre _ _ => .any
  | a => a
def frzT {α : Type} (k : Nat) (E : Enc α) (ys : List α) : AV → AV
  | .tup cs => .tup (cs.map (frz1 k E ys))
  | a => frz1 k E ys a
theorem frz1_holds {α : Type} {k : Nat} {E : Enc α} {ys : List α} {S S' : Nat → Prop} {γ : Nat → Value} {w : World} (hs : ∀ b, S b → S' b) (h : (slF E ys).holds S' w (γ k)) {a : AV} {v : Value} (ha : a.holds S γ w v) : (frz1 k E ys a).holds S' γ w v := by
  unfold frz1
  cases a <;> simp only
  case own i =>
    cases hb : Nat.beq i k with
    | false => simp [AV.holds]
    | true =>
      have := Nat.eq_of_beq_eq_true hb
      subst this
      simp only [AV.holds] at ha ⊢
      rw [ha]; exact h
  case ptr => simp [AV.holds]
  case sl => simp [AV.holds]
  case pre => simp [AV.holds]
  all_goals exact AV.ext hs (fun _ _ => rfl) ha
theorem frz1_holdsL {α : Type} {k : Nat} {E : Enc α} {ys : List α} {S S' : Nat → Prop} {γ : Nat → Value} {w : World} (hs : ∀ b, S b → S' b) (h : (slF E ys).holds S' w (γ k)) : ∀ {cs : List AV} {vs : List Value}, AV.holdsL S γ w cs vs → AV.holdsL S' γ w (cs.map (frz1 k E ys)) vs
  | [], vs, ha => by simpa [AV.holdsL] using ha
  | c :: cs, vs, ha => by
    simp only [AV.holdsL, List.map_cons] at ha ⊢
    obtain ⟨v, vs', rfl, h1, h2⟩ := ha
    exact ⟨v, vs', rfl, frz1_holds hs h h1, frz1_holdsL hs h h2⟩
theorem frzT_holds {α : Type} {k : Nat} {E : Enc α} {ys : List α} {S S' : Nat → Prop} {γ : Nat → Value} {w : World} (hs : ∀ b, S b → S' b) (h : (slF E ys).holds S' w (γ k)) {a : AV} {v : Value} (ha : a.holds S γ w v) : (frzT k E ys a).holds S' γ w v := by
  unfold frzT
  cases a
  case tup cs =>
    simp only [AV.holds] at ha ⊢
    obtain ⟨vs, rfl, h1⟩ := ha
    exact ⟨vs, rfl, frz1_holdsL hs h h1⟩
  all_goals exact frz1_holds hs h ha
theorem con_frz {P : Program} {f : FuncId} {args : List AV} {out : AV} {α : Type} {k e : Nat} {E : Enc α} {ys : List α} (hC : Con P f args [] fun a h => a = out ∧ h = [(k, .own e E ys)]) (out' : AV) (ho : frzT k E ys out = out') : Con P f args [] fun a h => a = out' ∧ h = [] := fun S γ w vs hst hargs => by
  refine (hC S γ w vs hst hargs).mono ?_
  rintro en w' ⟨v, out0, Hout, S', γ', rfl, ⟨rfl, rfl⟩, hp⟩
  have hlk : look [(k, Res.own e E ys)] k = some (.own e E ys) := by rw [look_cons, if_pos rfl]
  have hsn := own_snap (S' := fun b => S' b ∨ rblk (γ' k) = some b) hp.st hlk (fun b h => .inl h) (fun b h => .inr h)
  refine ⟨v, out', [], fun b => S' b ∨ rblk (γ' k) = some b, γ', rfl, ⟨rfl, rfl⟩, ⟨hp.keep, ?_, ?_, ⟨fun j r h => by simp [look] at h, fun i j ri rj b h => by simp [look] at h, fun j r b h => by simp [look] at h, ?_, hp.st.one⟩, fun j r b h => by simp [look] at h, fun j r h => by simp [look] at h⟩⟩
  · rintro b (h | h)
    · exact hp.up b h
    · exact .inr (hp.own k _ b hlk h)
  · rw [← ho]
    exact frzT_holds (fun b h => .inl h) hsn hp.val
  · refine hp.st.sz.to (fun b h => .inl h) (fun _ _ => rfl) ?_
    rintro b (h | h)
    · exact hp.st.sz b h
    · exact Res.blk_lt (hp.st.res k _ hlk) h
end Go.Proofs.YtgdkeafdlehlaaaDoor
