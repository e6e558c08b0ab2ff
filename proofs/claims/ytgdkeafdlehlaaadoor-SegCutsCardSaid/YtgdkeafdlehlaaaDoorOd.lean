/- Slices of bytes that are only read, but of which it is known that each was made late, by itself: one may be had back qs0 one's own. Nothing of the program stands here. -/
import Derived.Test.YtgdkeafdlehlaaaDoorDn
import Derived.Test.YtgdkeafdlehlaaaDoorBi
namespace Go.Proofs.YtgdkeafdlehlaaaDoor
open Go Go.RowKit
set_option linter.unusedVariables false
/-- the blocks of S below N -/
def blo (S : Nat → Prop) (N : Nat) : Nat → Prop := fun b => S b ∧ b < N
/-- what is known by blocks below N alone -/
def oldF (N : Nat) (F : SFact) : SFact where
  holds S w v := F.holds (blo S N) w v ∧ ambHolds (blo S N) w ∧ (0 < N → S (N - 1))
  mono := by
    rintro S S' w w' v ⟨h1, h2, h3⟩ hs hw
    have hs' : ∀ b, blo S N b → blo S' N b := fun b h => ⟨hs b h.1, h.2⟩
    have hw' : ∀ b, blo S N b → w'.heap[b]? = w.heap[b]? := fun b h => hw b h.1
    exact ⟨F.mono h1 hs' hw', amb_mono h2 hs' hw', fun h => hs _ (h3 h)⟩
  one := fun h => F.one h.1
theorem oldF_wk {N : Nat} {F : SFact} {S : Nat → Prop} {w : World} {v : Value} (h : (oldF N F).holds S w v) : F.holds S w v := F.mono h.1 (fun _ h => h.1) (fun _ _ => rfl)
theorem oldF_le {N : Nat} {F : SFact} {S : Nat → Prop} {w : World} {v : Value} (h : (oldF N F).holds S w v) (hz : SzA S w) : N ≤ w.heap.size := by
  rcases Nat.eq_zero_or_pos N with e | e
  · omega
  · have := hz.lt _ (h.2.2 e)
    omega
/-- bytes in a block by itself, from N on -/
def ownF (N : Nat) (e : TypeId) (l : List UInt8) : SFact where
  holds S w v := (Res.own e encU l).holds S noγ w v ∧ ∃ b, rblk v = some b ∧ N ≤ b ∧ S b
  mono := by
    rintro S S' w w' v ⟨h2, b, hb, hN, hS⟩ hs hw
    exact ⟨Res.mono hs hw (fun _ => true) (fun _ _ => rfl) rfl (fun b' hb' => by rw [hb] at hb'; injection hb' with e; subst e; exact hw _ hS) h2, b, hb, hN, hs _ hS⟩
  one := by
    rintro S w v ⟨⟨vs, ⟨_, A, c, rfl, _⟩, _⟩, _⟩
    rfl
def oneF : SFact := ⟨fun _ _ v => v.oneCell' = true, fun h _ _ => h, fun h => h⟩
def encOw (N : Nat) (e : TypeId) : Enc (List UInt8) := ⟨1, fun l => [.snap (ownF N e l)], fun _ => rfl, fun _ => rfl, fun _ => rfl, fun _ => []⟩
def restC (N : Nat) (e : TypeId) : Option (List UInt8) → SFact
  | some l => ownF N e l
  | none => oneF
/-- some of them are known no more -/
def encRo (N : Nat) (e : TypeId) : Enc (Option (List UInt8)) := ⟨1, fun o => [.snap (restC N e o)], fun _ => rfl, fun _ => rfl, fun _ => rfl, fun _ => none⟩
section
variable {P : Program} {T : List (Nat × TI)} {c : Ctx} {n : Nat} {Q : AQ} {fr fr' : List (Nat × AV)} {H H' : List (Nat × Res)} {S : Nat → Prop} {γ : Nat → Value} {w : World} {v v' : Value} {e N K b : Nat} {l l' : List UInt8}
theorem encU_vsO {vs : List Value} (h : AV.holdsL S γ w (encU.all l) vs) : vs = l.map (fun x => Value.int .u8 (x.toNat : Int)) := by
  induction l generalizing vs with
  | nil => simpa [Enc.all, AV.holdsL] using h
  | cons x l ih =>
    have e : encU.all (x :: l) = AV.lit (.int .u8 (x.toNat : Int)) :: encU.all l := rfl
    rw [e] at h
    simp only [AV.holdsL, AV.holds] at h
    obtain ⟨v, vs', rfl, rfl, h2⟩ := h
    rw [ih h2]; rfl
theorem res_sl {α : Type} {E : Enc α} {ys : List α} (h : (Res.own e E ys).holds S γ w v) (hb : ∀ b, rblk v = some b → S b) : (slF E ys).holds S w v := by
  obtain ⟨vs, ho, hh, h1⟩ := h
  have ho' := ho
  obtain ⟨A, c, hv, hc, _, hrow⟩ := ho.row
  refine ⟨A, c, vs, hv, hc, ?_, hh, h1⟩
  intro hne
  obtain ⟨ad, hA, hcell⟩ := hrow hne
  refine ⟨ad, hA, hb _ ?_, hcell⟩
  subst hA
  rw [hv]
  have hlen := AV.holdsL_len hh
  obtain ⟨_, A2, c2, hv2, ⟨hz, _⟩ | ⟨g, cur, _, _, _, hnc, _⟩⟩ := ho'
  · exfalso
    apply hne
    rw [Enc.all_len, hz, Nat.zero_mul] at hlen
    exact List.eq_nil_of_length_eq_zero hlen
  · have : 0 < ys.length := by
      rcases Nat.eq_zero_or_pos ys.length with h | h
      · exfalso; apply hne
        rw [Enc.all_len, h, Nat.zero_mul] at hlen
        exact List.eq_nil_of_length_eq_zero hlen
      · exact h
    cases c with
    | zero => omega
    | succ c => rfl
theorem ownF_sl (h : (ownF N e l).holds S w v) : (slF encU l).holds S w v := by
  obtain ⟨h1, b, hb, _, hS⟩ := h
  exact res_sl h1 (fun b' hb' => by rw [hb] at hb'; injection hb' with e; subst e; exact hS)
theorem own_blk {α : Type} {E : Enc α} {ys : List α} (h : (Res.own e E ys).holds S γ w v) (hb : rblk v = some b) : ∃ (cur : Array Value) (cp : Nat), Blk w b cur e ∧ AV.holdsL S noγ w (E.all ys) (cur.toList.take (ys.length * E.size)) := by
  obtain ⟨vs, ⟨hl, A, c, rfl, ⟨_, rfl⟩ | ⟨g, cur, rfl, _, hB, hnc, hcm, hcs, ht⟩⟩, hh, _⟩ := h
  · cases A <;> simp [rblk, wblk] at hb
  · cases c with
    | zero => simp [rblk, wblk] at hb
    | succ c =>
      simp [rblk, wblk] at hb
      subst hb
      exact ⟨cur, c, hB, by rw [ht]; exact hh⟩
/-- two that lie in one block are the same -/
theorem own_alike {S' : Nat → Prop} {γ' : Nat → Value} (h : (Res.own e encU l).holds S γ w v) (h' : (Res.own e encU l').holds S' γ' w v') (hb : rblk v = some b) (hb' : rblk v' = some b) (hl : l'.length = l.length) : l' = l := by
  obtain ⟨cur, _, ⟨fz, _, hB⟩, hh⟩ := own_blk h hb
  obtain ⟨cur', _, ⟨fz', _, hB'⟩, hh'⟩ := own_blk h' hb'
  rw [hB] at hB'
  injection hB' with hB'
  injection hB' with e1
  subst e1
  have a1 := encU_vsO hh
  have a2 := encU_vsO hh'
  rw [hl, a1] at a2
  exact ((List.map_inj_right (f := fun x : UInt8 => Value.int .u8 (x.toNat : Int)) (by
    intro x y hxy
    simp only [Value.int.injEq, true_and] at hxy
    exact UInt8.toNat_inj.1 (by omega))).1 a2).symm
inductive TakeA (K N : Nat) : AV → AV → Prop
  | any (a : AV) : TakeA K N a .any
  | lit (u : Value) : TakeA K N (.lit u) (.lit u)
  | own (j : Nat) (h : Nat.beq j K = false) : TakeA K N (.own j) (.own j)
  | old (F : SFact) : TakeA K N (.snap (oldF N F)) (.snap (oldF N F))
inductive TakeL (K N : Nat) : List (Nat × AV) → List (Nat × AV) → Prop
  | nil : TakeL K N [] []
  | cons {x : Nat} {a a' : AV} {r r' : List (Nat × AV)} (h : TakeA K N a a') (hr : TakeL K N r r') : TakeL K N ((x, a) :: r) ((x, a') :: r')
def RestOk (l : List UInt8) (xs xs' : List (Option (List UInt8))) : Prop := xs'.length = xs.length ∧ ∀ (i : Nat) (l' : List UInt8), xs'[i]? = some (some l') → xs[i]? = some (some l') ∧ l' ≠ l ∧ l'.length = l.length
inductive TakeR (N e : Nat) (l : List UInt8) : Res → Res → Prop
  | flat {e' : TypeId} {α : Type} {E : Enc α} {xs : List α} (hE : E.isFlat) : TakeR N e l (.own e' E xs) (.own e' E xs)
  | rest {e' : TypeId} {xs xs' : List (Option (List UInt8))} (hx : RestOk l xs xs') : TakeR N e l (.own e' (encRo N e) xs) (.own e' (encRo N e) xs')
inductive TakeH (K N e : Nat) (l : List UInt8) : List (Nat × Res) → List (Nat × Res) → Prop
  | nil : TakeH K N e l [] []
  | cons {j : Nat} {r r' : Res} {H H' : List (Nat × Res)} (h : Nat.beq j K = false) (ht : TakeR N e l r r') (hr : TakeH K N e l H H') : TakeH K N e l ((j, r) :: H) ((j, r') :: H')
theorem takeL_at (h : TakeL K N fr fr') {x : Nat} {a : AV} (hx : look fr' x = some a) : ∃ b, look fr x = some b ∧ TakeA K N b a := by
  induction h with
  | nil => simp [look] at hx
  | cons h _ ih =>
    rw [look_cons] at hx ⊢
    split at hx
    · rename_i e
      simp only [Option.some.injEq] at hx; subst hx
      exact ⟨_, by rw [if_pos e], h⟩
    · rename_i e
      rw [if_neg e]
      exact ih hx
theorem takeH_at (h : TakeH K N e l H H') {x : Nat} {a : Res} (hx : look H' x = some a) : x ≠ K ∧ ∃ b, look H x = some b ∧ TakeR N e l b a := by
  induction h with
  | nil => simp [look] at hx
  | @cons j r r' H H' hk ht _ ih =>
    rw [look_cons] at hx ⊢
    split at hx
    · rename_i e
      subst e
      simp only [Option.some.injEq] at hx; subst hx
      exact ⟨fun e => by subst e; simp at hk, _, by rw [if_pos rfl], ht⟩
    · rename_i e
      rw [if_neg e]
      exact ih hx
theorem rest_holds {xs xs' : List (Option (List UInt8))} {vs : List Value} {S' : Nat → Prop} (hl : xs'.length = xs.length) (hh : AV.holdsL S noγ w ((encRo N e).all xs) vs) (hk : ∀ (i : Nat) (o o' : Option (List UInt8)) (u : Value), xs[i]? = some o → xs'[i]? = some o' → (restC N e o).holds S w u → (restC N e o').holds S' w u) : AV.holdsL S' noγ w ((encRo N e).all xs') vs := by
  induction xs generalizing xs' vs with
  | nil =>
    cases xs' with
    | nil => simpa [Enc.all, AV.holdsL] using hh
    | cons => simp at hl
  | cons o xs ih =>
    cases xs' with
    | nil => simp at hl
    | cons o' xs' =>
      have e1 : (encRo N e).all (o :: xs) = AV.snap (restC N e o) :: (encRo N e).all xs := rfl
      have e2 : (encRo N e).all (o' :: xs') = AV.snap (restC N e o') :: (encRo N e).all xs' := rfl
      rw [e1] at hh
      rw [e2]
      simp only [AV.holdsL, AV.holds] at hh ⊢
      obtain ⟨v, vs', rfl, h1, h2⟩ := hh
      exact ⟨v, vs', rfl, hk 0 o o' v rfl rfl h1, ih (by simpa using hl) h2 (fun i a b u ha hb => hk (i + 1) a b u (by simpa using ha) (by simpa using hb))⟩
theorem Rel.take {tmps : Array Value} (hr : Rel c n fr H S γ tmps w) {x y : Nat} {F : SFact} (hx : look fr x = some (.snap (ownF N e l))) (hO : look fr y = some (.snap (oldF N F))) (hN : c.w.heap.size ≤ N) (hK : Nat.ble 1000 K = true) (hf : TakeL K N fr fr') (hh : TakeH K N e l H H') :
    ∃ S' γ', Rel c n ((x, .own K) :: fr') ((K, .own e encU l) :: H') S' γ' tmps w := by
  have hv := hr.fr x _ hx
  simp only [AV.holds] at hv
  generalize hvv : tmps.getD x undef = v at hv
  have hv1 := (ownF N e l).one hv
  obtain ⟨hres, b0, hb0, hN0, hS0⟩ := hv
  have ho := hr.fr y _ hO
  simp only [AV.holds] at ho
  have hS' : ∀ b, blo S N b → blo (fun b => S b ∧ rblk v ≠ some b) N b := fun b h => ⟨⟨h.1, fun e => by rw [hb0] at e; injection e with e; have := h.2; omega⟩, h.2⟩
  have hne : ∀ j r, look H j = some r → rblk (γ j) ≠ some b0 := fun j r hj hb => hr.st.live j r b0 hj hb hS0
  have hKJ : ∀ j, c.J j → j ≠ K := fun j hj e => by
    have h1 := c.lt j hj
    have h2 := Nat.le_of_ble_eq_true hK
    omega
  have hg : ∀ j, j ≠ K → upd γ K v j = γ j := fun j hj => by simp [upd, hj]
  refine ⟨fun b => S b ∧ rblk v ≠ some b, upd γ K v, ⟨fun j r hj => ?_, fun i j ri rj b hi hj hbi hbj => ?_, fun j r b hj hb hs => ?_, ⟨fun b h => hr.st.sz.lt b h.1, amb_mono ho.2.1 (fun b h => (hS' b h).1) (fun _ _ => rfl)⟩, fun j => ?_⟩, fun z a hz => ?_, fun b hb => hr.up b hb.1, fun j r b hj hb => ?_, fun j hj => ?_, hr.size, hr.keep⟩
  · rw [look_cons] at hj
    split at hj
    · rename_i e1
      subst e1
      simp only [Option.some.injEq] at hj; subst hj
      rw [upd_same]
      obtain ⟨vs, h1, h2, h3⟩ := hres
      exact ⟨vs, h1, AV.flat_anyL _ _ (encU_flat.all l) h2, h3⟩
    · obtain ⟨hjk, r0, hr0, ht⟩ := takeH_at hh hj
      have hold := hr.st.res j r0 hr0
      rw [hg j hjk]
      cases ht with
      | flat hE =>
        obtain ⟨vs, h1, h2, h3⟩ := hold
        exact ⟨vs, h1, AV.flat_anyL _ _ (hE.all _) h2, h3⟩
      | @rest e' xs xs' hxx =>
        obtain ⟨vs, h1, h2, h3⟩ := hold
        refine ⟨vs, by rw [hxx.1]; exact h1, rest_holds hxx.1 h2 fun i o o' u ho1 ho2 hu => ?_, h3⟩
        cases o' with
        | none => exact (restC N e o).one hu
        | some l' =>
          obtain ⟨q1, q2, q3⟩ := hxx.2 i l' ho2
          rw [ho1] at q1
          injection q1 with q1
          subst q1
          obtain ⟨hu1, b1, hb1, hN1, hS1⟩ := hu
          have hbb : rblk v ≠ some b1 := fun e1 => q2 (own_alike hres hu1 e1 hb1 q3)
          obtain ⟨us, g1, g2, g3⟩ := hu1
          exact ⟨⟨us, g1, AV.flat_anyL _ _ (encU_flat.all l') g2, g3⟩, b1, hb1, hN1, hS1, hbb⟩
  · rw [look_cons] at hi hj
    split at hi
    · rename_i e1
      split at hj
      · rename_i e2
        exact e1.symm.trans e2
      · obtain ⟨hjk, r0, hr0, _⟩ := takeH_at hh hj
        rw [hg j hjk] at hbj
        subst e1
        rw [upd_same, hb0] at hbi
        injection hbi with hbi
        subst hbi
        exact absurd hbj (hne j r0 hr0)
    · obtain ⟨hik, r1, hr1, _⟩ := takeH_at hh hi
      rw [hg i hik] at hbi
      split at hj
      · rename_i e2
        subst e2
        rw [upd_same, hb0] at hbj
        injection hbj with hbj
        subst hbj
        exact absurd hbi (hne i r1 hr1)
      · obtain ⟨hjk, r0, hr0, _⟩ := takeH_at hh hj
        rw [hg j hjk] at hbj
        exact hr.st.dis i j r1 r0 b hr1 hr0 hbi hbj
  · rw [look_cons] at hj
    split at hj
    · rename_i e1
      subst e1
      rw [upd_same] at hb
      exact hs.2 hb
    · obtain ⟨hjk, r0, hr0, _⟩ := takeH_at hh hj
      rw [hg j hjk] at hb
      exact hr.st.live j r0 b hr0 hb hs.1
  · by_cases e1 : j = K
    · subst e1; rw [upd_same]; exact hv1
    · rw [hg j e1]; exact hr.st.one j
  · rw [look_cons] at hz
    split at hz
    · rename_i e1
      subst e1
      simp only [Option.some.injEq] at hz; subst hz
      simp only [AV.holds]
      rw [upd_same, hvv]
    · obtain ⟨a0, ha0, ht⟩ := takeL_at hf hz
      have hold := hr.fr z a0 ha0
      cases ht with
      | any => simp only [AV.holds]
      | lit u => simpa only [AV.holds] using hold
      | own j hj =>
        simp only [AV.holds] at hold ⊢
        rw [hg j (fun e1 => by subst e1; simp at hj)]
        exact hold
      | old F' =>
        simp only [AV.holds] at hold ⊢
        obtain ⟨p1, p2, p3⟩ := hold
        exact ⟨F'.mono p1 hS' (fun _ _ => rfl), amb_mono p2 hS' (fun _ _ => rfl), fun h0 => ⟨p3 h0, fun e1 => by rw [hb0] at e1; injection e1 with e1; omega⟩⟩
  · rw [look_cons] at hj
    split at hj
    · rename_i e1
      subst e1
      rw [upd_same, hb0] at hb
      injection hb with hb
      left; omega
    · obtain ⟨hjk, r0, hr0, _⟩ := takeH_at hh hj
      rw [hg j hjk] at hb
      exact hr.own j r0 b hr0 hb
  · rw [hg j (hKJ j hj)]
    exact hr.ids j hj
theorem ao_take {ops : Array Oper} {rest : List Oper} (x y K : Nat) {F F0 : SFact} (hx : look fr x = some (.snap F0) := by rfl) (hF0 : F0 = ownF N e l) (hO : look fr y = some (.snap (oldF N F)) := by rfl) (hN : c.w.heap.size ≤ N := by assumption) (hK : Nat.ble 1000 K = true := by rfl) (hf : TakeL K N fr fr' := by repeat (first | exact TakeL.nil | (apply TakeL.cons; (first | exact TakeA.lit _ | exact TakeA.own _ rfl | exact TakeA.old _ | exact TakeA.any _)))) (hh : TakeH K N e l H H') (next : AOps P c n ops rest Q ((x, .own K) :: fr') ((K, .own e encU l) :: H')) : AOps P c n ops rest Q fr H := fun S γ tmps w hr => by
  subst hF0
  obtain ⟨S', γ', hr'⟩ := hr.take hx hO hN hK hf hh
  exact next S' γ' tmps w hr'
/-- a call's answer, kept qs0 one that may be had back -/
theorem con_frzN {f : FuncId} {args args' : List AV} {k : Nat} (hC : Con P f args [] fun a h => a = .own k ∧ h = [(k, .own e encU l)]) (h0 : 0 < l.length) (hargs : ∀ (S : Nat → Prop) (γ : Nat → Value) (w : World) (vs : List Value), SzA S w → AV.holdsL S γ w args' vs → AV.holdsL S γ w args vs ∧ N ≤ w.heap.size) : Con P f args' [] fun a h => a = .snap (ownF N e l) ∧ h = [] := fun S γ w vs hst hh => by
  obtain ⟨hv, hN⟩ := hargs S γ w vs hst.sz hh
  refine (hC S γ w vs hst hv).mono ?_
  rintro en w' ⟨v, out0, Hout, S', γ', rfl, ⟨rfl, rfl⟩, hp⟩
  have hlk : look [(k, Res.own e encU l)] k = some (.own e encU l) := by rw [look_cons, if_pos rfl]
  have hval := hp.val
  simp only [AV.holds] at hval
  have hres := hp.st.res k _ hlk
  obtain ⟨b, hb⟩ : ∃ b, rblk (γ' k) = some b := by
    obtain ⟨vs', ho, _⟩ := hres
    obtain ⟨g, c, hv', hn, _⟩ := ho.form h0
    rw [hv']
    cases c with
    | zero => omega
    | succ c => exact ⟨g, rfl⟩
  have hbN : N ≤ b := by
    rcases hp.own k _ b hlk hb with h | ⟨j, r, hj, _⟩
    · omega
    · simp [look] at hj
  refine ⟨v, _, [], fun b => S' b ∨ rblk (γ' k) = some b, γ', rfl, ⟨rfl, rfl⟩, ⟨hp.keep, ?_, ?_, ⟨fun j r h => by simp [look] at h, fun i j ri rj b h => by simp [look] at h, fun j r b h => by simp [look] at h, ?_, hp.st.one⟩, fun j r b h => by simp [look] at h, fun j r h => by simp [look] at h⟩⟩
  · rintro b (h | h)
    · exact hp.up b h
    · exact .inr (hp.own k _ b hlk h)
  · simp only [AV.holds]
    rw [hval]
    refine ⟨?_, b, hb, hbN, .inr hb⟩
    obtain ⟨us, g1, g2, g3⟩ := hres
    exact ⟨us, g1, AV.flat_anyL _ _ (encU_flat.all l) g2, g3⟩
  · refine hp.st.sz.to (fun b h => .inl h) (fun _ _ => rfl) ?_
    rintro b (h | h)
    · exact hp.st.sz b h
    · exact Res.blk_lt (hp.st.res k _ hlk) h
end
end Go.Proofs.YtgdkeafdlehlaaaDoor
