/- A nil slice within a box may be one's own. Nothing of the program stands here. -/
import Derived.Test.YtgdkeafdlehlaaaDoorDa
namespace Go.Proofs.YtgdkeafdlehlaaaDoor
open Go Go.RowKit
set_option linter.unusedVariables false
section
variable {P : Program} {T : List (Nat × TI)} {c : Ctx} {n : Nat} {Q : AQ} {fr : List (Nat × AV)} {H : List (Nat × Res)} {S : Nat → Prop} {γ : Nat → Value} {w : World}
/-- a resource is told in other words -/
theorem Rel.redesc {tmps : Array Value} (h : Rel c n fr H S γ tmps w) {i : Nat} {r r' : Res} (hi : look H i = some r) (hr : r'.holds S γ w (γ i)) : Rel c n fr ((i, r') :: H) S γ tmps w := by
  have key : ∀ j q, look ((i, r') :: H) j = some q → ∃ q', look H j = some q' := fun j q hj => by
    rw [look_cons] at hj
    split at hj
    · rename_i e; subst e; exact ⟨r, hi⟩
    · exact ⟨q, hj⟩
  refine ⟨⟨fun j q hj => ?_, fun a b ra rb x ha hb => ?_, fun j q b hj => ?_, h.st.sz, h.st.one⟩, h.fr, h.up, fun j q b hj => ?_, h.ids, h.size, h.keep⟩
  · rw [look_cons] at hj
    split at hj
    · rename_i e
      subst e
      simp only [Option.some.injEq] at hj
      subst hj
      exact hr
    · exact h.st.res j q hj
  · obtain ⟨ra', ha'⟩ := key a ra ha
    obtain ⟨rb', hb'⟩ := key b rb hb
    exact h.st.dis a b ra' rb' x ha' hb'
  · obtain ⟨q', hq⟩ := key j q hj
    exact h.st.live j q' b hq
  · obtain ⟨q', hq⟩ := key j q hj
    exact h.own j q' b hq
theorem holdsL_atset {cs : List AV} {vs : List Value} {off : Nat} {a b : AV} (h : AV.holdsL S γ w cs vs) (ha : cs[off]? = some a) (hb : ∀ v, a.holds S γ w v → b.holds S γ w v) : AV.holdsL S γ w (cs.set off b) vs := by
  induction cs generalizing vs off with
  | nil => simp at ha
  | cons x cs ih =>
    simp only [AV.holdsL] at h
    obtain ⟨v, vs', rfl, h1, h2⟩ := h
    cases off with
    | zero =>
      simp only [List.getElem?_cons_zero, Option.some.injEq] at ha
      subst ha
      rw [List.set_cons_zero]
      simp only [AV.holdsL]
      exact ⟨v, vs', rfl, hb v h1, h2⟩
    | succ off =>
      rw [List.set_cons_succ]
      simp only [AV.holdsL]
      exact ⟨v, vs', rfl, h1, ih h2 (by simpa using ha)⟩
theorem a_ownNilIn {code : Code} (i off k e : Nat) {α : Type} (E : Enc α) {cs : List AV} {A : Option Addr} (hi : look ((k, .own e E []) :: dropH (one1 k) H) i = some (.box cs) := by rfl) (ho : cs[off]? = some (.lit (.slice A 0 0)) := by rfl) (hkJ : Nat.ble 1000 k = true := by rfl) (hu : usesH (one1 k) (dropH (one1 k) H) = true := by rfl)
    (h : ACode P c n code Q (markF (one1 k) fr) ((i, .box (cs.set off (.own k))) :: (k, .own e E []) :: dropH (one1 k) H)) : ACode P c n code Q fr H := fun S γ tmps w hr => by
  have hr' := hr.eff1 k (w' := w) (r := .own e E []) (v := .slice A 0 0) (Keep.refl _ _) ⟨[], by simpa using Own.nil w 0 e E.size A, by simp [Enc.all, AV.holdsL], by simp⟩ rfl (fun b hb => by cases A <;> simp [rblk, wblk] at hb) hkJ hu
  refine h S _ tmps w (hr'.redesc hi ?_)
  obtain ⟨g, arr, e', hv, hh, hL⟩ := hr'.st.res i _ hi
  refine ⟨g, arr, e', hv, hh, holdsL_atset hL ho fun v hv' => ?_⟩
  simp only [AV.holds] at hv' ⊢
  rw [upd_same]; exact hv'

theorem holdsL_dull {cs : List AV} {vs : List Value} (off : Nat) (h : AV.holdsL S γ w cs vs) : AV.holdsL S γ w (cs.set off .any) vs := by
  cases ho : cs[off]? with
  | none =>
    rw [List.getElem?_eq_none_iff] at ho
    rwa [List.set_eq_of_length_le ho]
  | some a => exact holdsL_atset h ho fun v _ => by simp only [AV.holds]
theorem Rel.dull {tmps : Array Value} (h : Rel c n fr H S γ tmps w) {i : Nat} {cs : List AV} (off : Nat) (hi : look H i = some (.box cs)) : Rel c n fr ((i, .box (cs.set off .any)) :: dropH (one1 i) H) S γ tmps w := by
  have hr := h.redesc (r' := .box (cs.set off .any)) hi (by
    obtain ⟨g, arr, e', hv, hh, hL⟩ := h.st.res i _ hi
    exact ⟨g, arr, e', hv, hh, holdsL_dull off hL⟩)
  refine hr.sub (fun _ _ h => h) fun j r hj => ?_
  rw [look_cons] at hj
  rw [look_cons]
  split at hj
  · rename_i e
    rw [if_pos e]
    exact hj
  · rename_i hne
    rw [if_neg hne]
    rw [look_drop, if_neg (by rw [one1_iff]; exact fun e => hne e)] at hj
    exact hj
/-- appending to one's own slice that a box names: the box's word is stale till the answer is stored -/
theorem ao_append_in (i off : Nat) {j e t : Nat} {s b : Nat} {o : Oper} {ops : Array Oper} {rest : List Oper} {α : Type} {E : Enc α} {xs : List α} {x : Operand} {cs : List AV} {d es eb : Nat} {ek : TK} {sx : Operand} {ys : List α} (hg : o.guard = none := by rfl) (hd : o.dst = some d := by rfl) (hn : Nat.blt d n = true := by rfl) (ho : o.op = .call { callee := .builtin .append, args := #[sx, x], argTypes := #[t, t] } := by rfl)
    (hT : TTOk P T := by assumption) (ht : look T t = some ⟨.slice e, s, b⟩ := by rfl) (he : look T e = some ⟨ek, es, eb⟩ := by rfl)
    (hsx : Opv fr sx (.own j) := by exact opv_std) (hj : look ((i, .box (cs.set off .any)) :: dropH (one1 i) H) j = some (.own e E xs) := by rfl) (hx : Src fr ((i, .box (cs.set off .any)) :: dropH (one1 i) H) x E ys := by first | exact .snap (by exact opv_std) | exact .own (by exact opv_std) rfl | exact .nil (by exact opv_std)) (hm : xs.length + ys.length ≤ 9223372036854775807 := by first | omega | (simp only [List.length_append, List.length_cons, List.length_nil, List.length_take, List.length_drop, List.length_replicate, List.length_map, List.length_set]; omega)) (hb : (xs.length + ys.length) * eb ≤ 140737488355328 := by first | omega | (simp only [List.length_append, List.length_cons, List.length_nil, List.length_take, List.length_drop, List.length_replicate, List.length_map, List.length_set]; omega)) (hs : es = E.size := by rfl) (hE : Nat.blt 0 es = true := by rfl)
    (hi : look H i = some (.box cs) := by rfl) (hkJ : Nat.ble 1000 j = true := by rfl) (hu : usesH (one1 j) (dropH (one1 j) (dropH (one1 j) ((i, .box (cs.set off .any)) :: dropH (one1 i) H))) = true := by rfl)
    (next : AOps P c n ops rest Q ((d, .own j) :: markF (one1 j) fr) ((j, .own e E (xs ++ ys)) :: dropH (one1 j) (dropH (one1 j) ((i, .box (cs.set off .any)) :: dropH (one1 i) H)))) : AOps P c n ops (o :: rest) Q fr H := fun S γ tmps w hr =>
  ao_append_same (hg := hg) (hd := hd) (hn := hn) (ho := ho) (hT := hT) (ht := ht) (he := he) (hsx := hsx) (hj := hj) (hx := hx) (hm := hm) (hb := hb) (hs := hs) (hE := hE) (hkJ := hkJ) (hu := hu) (next := next) S γ tmps w (hr.dull off hi)
end
end Go.Proofs.YtgdkeafdlehlaaaDoor
