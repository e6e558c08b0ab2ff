/- Calls that make or change resources; slices of one's own, read and written; slices of parts; closures. Nothing of the program stands here. -/
import Derived.Test.YtjmcbacdogjdeaaAg
namespace Go.Proofs.Ytjmcbacdogjdeaa
open Go Go.RowKit
set_option linter.unusedVariables false

section
variable {P : Program} {T : List (Nat × TI)} {c : Ctx} {n : Nat} {Q : AQ} {fr : List (Nat × AV)} {H : List (Nat × Res)} {ops : Array Oper} {rest : List Oper} {o : Oper}
variable {S : Nat → Prop} {γ : Nat → Value} {tmps : Array Value} {w : World}

def idsOf (H : List (Nat × Res)) : List Nat := H.map (·.1)
theorem look_ids {H : List (Nat × Res)} {j : Nat} {r : Res} (h : look H j = some r) : j ∈ idsOf H := List.mem_map.2 ⟨(j, r), look_mem h, rfl⟩
theorem ids_look : ∀ {H : List (Nat × Res)} {j : Nat}, j ∈ idsOf H → ∃ r, look H j = some r
  | [], j, h => by simp [idsOf] at h
  | (k, r) :: H, j, h => by
    rw [look_cons]
    by_cases hk : k = j
    · exact ⟨r, by rw [if_pos hk]⟩
    · rw [if_neg hk]
      simp only [idsOf, List.map_cons, List.mem_cons] at h
      rcases h with h | h
      · exact absurd h.symm hk
      · exact ids_look h
def newγ (ρ : Nat → Nat) (γ' γ : Nat → Value) : List Nat → Nat → Value
  | [], i => γ i
  | j :: js, i => if ρ j = i then γ' j else newγ ρ γ' γ js i
theorem newγ_in {ρ : Nat → Nat} {γ' γ : Nat → Value} : ∀ {js : List Nat} {j : Nat}, j ∈ js → (∀ a b, a ∈ js → b ∈ js → ρ a = ρ b → a = b) → newγ ρ γ' γ js (ρ j) = γ' j
  | [], j, h, _ => by cases h
  | k :: js, j, h, hi => by
    unfold newγ
    by_cases hk : ρ k = ρ j
    · rw [if_pos hk, hi k j List.mem_cons_self h hk]
    · rw [if_neg hk]
      rcases List.mem_cons.1 h with rfl | h
      · exact absurd rfl hk
      · exact newγ_in h fun a b ha hb => hi a b (List.mem_cons_of_mem _ ha) (List.mem_cons_of_mem _ hb)
theorem newγ_out {ρ : Nat → Nat} {γ' γ : Nat → Value} {i : Nat} : ∀ {js : List Nat}, (∀ j ∈ js, ρ j ≠ i) → newγ ρ γ' γ js i = γ i
  | [], _ => rfl
  | k :: js, h => by
    unfold newγ
    rw [if_neg (h k List.mem_cons_self)]
    exact newγ_out fun j hj => h j (List.mem_cons_of_mem _ hj)
def renH (ρ : Nat → Nat) (H : List (Nat × Res)) : List (Nat × Res) := H.map fun p => (ρ p.1, p.2.ren ρ)
theorem look_renH {ρ : Nat → Nat} : ∀ {H : List (Nat × Res)} {i : Nat} {r : Res}, look (renH ρ H) i = some r → ∃ j r', (j, r') ∈ H ∧ ρ j = i ∧ r = r'.ren ρ
  | [], i, r, h => by simp [renH, look] at h
  | (k, r') :: H, i, r, h => by
    unfold renH at h
    rw [List.map_cons, look_cons] at h
    split at h
    · rename_i e
      simp only [Option.some.injEq] at h
      exact ⟨k, r', List.mem_cons_self, e, h.symm⟩
    · obtain ⟨j, r'', h1, h2, h3⟩ := look_renH (H := H) h
      exact ⟨j, r'', List.mem_cons_of_mem _ h1, h2, h3⟩
/-- the first entry of its key -/
theorem look_renH_inj {ρ : Nat → Nat} : ∀ {H : List (Nat × Res)} {i : Nat} {r : Res}, (∀ a b, a ∈ idsOf H → b ∈ idsOf H → ρ a = ρ b → a = b) → look (renH ρ H) i = some r → ∃ j r', look H j = some r' ∧ ρ j = i ∧ r = r'.ren ρ
  | [], i, r, _, h => by simp [renH, look] at h
  | (k, r') :: H, i, r, hi, h => by
    unfold renH at h
    rw [List.map_cons, look_cons] at h
    split at h
    · rename_i e
      simp only [Option.some.injEq] at h
      exact ⟨k, r', by rw [look_cons, if_pos rfl], e, h.symm⟩
    · rename_i hne
      obtain ⟨j, r'', h1, h2, h3⟩ := look_renH_inj (H := H) (fun a b ha hb => hi a b (List.mem_cons_of_mem _ ha) (List.mem_cons_of_mem _ hb)) h
      refine ⟨j, r'', ?_, h2, h3⟩
      rw [look_cons, if_neg]
      · exact h1
      · intro e; subst e; exact hne h2
def anyId (ρ : Nat → Nat) (js : List Nat) (i : Nat) : Bool := js.any fun j => Nat.beq (ρ j) i
theorem anyId_iff {ρ : Nat → Nat} {js : List Nat} {i : Nat} : anyId ρ js i = true ↔ ∃ j ∈ js, ρ j = i := by
  unfold anyId
  rw [List.any_eq_true]
  constructor
  · rintro ⟨j, hj, h⟩; exact ⟨j, hj, Nat.eq_of_beq_eq_true h⟩
  · rintro ⟨j, hj, rfl⟩; exact ⟨j, hj, Nat.beq_refl _⟩
def injB (ρ : Nat → Nat) (js : List Nat) : Bool := js.all fun a => js.all fun b => !(Nat.beq (ρ a) (ρ b)) || Nat.beq a b
theorem injB_iff {ρ : Nat → Nat} {js : List Nat} (h : injB ρ js = true) : ∀ a b, a ∈ js → b ∈ js → ρ a = ρ b → a = b := by
  intro a b ha hb he
  unfold injB at h
  rw [List.all_eq_true] at h
  have := h a ha
  rw [List.all_eq_true] at this
  have := this b hb
  rw [he, Nat.beq_refl] at this
  simp only [Bool.not_true, Bool.false_or] at this
  exact Nat.eq_of_beq_eq_true this
/-- the ids that a call makes anew -/
def freshIds (Hin Hout : List (Nat × Res)) : List Nat := (idsOf Hout).filter fun j => !((idsOf Hin).contains j)
/-- the checks of a call's resources -/
def callOk (ρ : Nat → Nat) (out : AV) (Hin Hout H : List (Nat × Res)) : Bool :=
  AV.uses (fun j => (idsOf Hout).contains j) out && (Hout.all fun p => p.2.uses fun j => (idsOf Hout).contains j) && injB ρ (idsOf Hin ++ idsOf Hout) && ((freshIds Hin Hout).all fun j => Nat.ble 1000 (ρ j)) &&
    usesH (anyId ρ (freshIds Hin Hout)) (dropH (anyId ρ (idsOf Hin ++ idsOf Hout)) H)
theorem Rel.call {Hin Hout : List (Nat × Res)} {out : AV} {v : Value} {w' : World} {S1 S' : Nat → Prop} {γ' : Nat → Value} {B : Bool} (hr : Rel c n fr H S γ tmps w) (ρ : Nat → Nat)
    (hin : ∀ j r, look Hin j = some r → look H (ρ j) = some (r.ren ρ)) (hok : callOk ρ out Hin Hout H = true)
    (hS1 : ∀ b, S1 b → S b ∨ (B = true ∧ blks γ H b)) (hB : B = false ∨ (out.noS = true ∧ ∀ p ∈ Hout, p.2.isFlat))
    (hp : CPost S1 (fun j => γ (ρ j)) w Hin out Hout v w' S' γ') :
    ∃ S2 γ2, Rel c n (markF (anyId ρ (freshIds Hin Hout)) fr) (renH ρ Hout ++ dropH (anyId ρ (idsOf Hin ++ idsOf Hout)) H) S2 γ2 tmps w' ∧ (out.ren ρ).holds S2 γ2 w' v := by
  unfold callOk at hok
  simp only [Bool.and_eq_true] at hok
  obtain ⟨⟨⟨⟨huo, huH⟩, hinj⟩, hfr⟩, hus⟩ := hok
  have hinj := injB_iff hinj
  have hblk : ∀ b, blks (fun j => γ (ρ j)) Hin b → blks γ H b := by
    rintro b ⟨j, r, hj, hb⟩
    exact ⟨ρ j, _, hin j r hj, hb⟩
  let γ2 := newγ ρ γ' γ (idsOf Hout)
  let S2 : Nat → Prop := fun b => S b ∨ (S' b ∧ (w.heap.size ≤ b ∨ blks (fun j => γ (ρ j)) Hin b))
  have hγ2 : ∀ j, j ∈ idsOf Hout → γ2 (ρ j) = γ' j := fun j hj => newγ_in hj fun a b ha hb => hinj a b (List.mem_append_right _ ha) (List.mem_append_right _ hb)
  have hSS : B = false → ∀ b, S' b → S2 b := by
    intro hf b hb
    rcases hp.up b hb with h | h
    · rcases hS1 b h with h | ⟨h, _⟩
      · exact .inl h
      · rw [hf] at h; cases h
    · exact .inr ⟨hb, h⟩
  have hlook : ∀ {i r}, look (renH ρ Hout) i = some r → ∃ j r', look Hout j = some r' ∧ ρ j = i ∧ r = r'.ren ρ := fun h => look_renH_inj (fun a b ha hb => hinj a b (List.mem_append_right _ ha) (List.mem_append_right _ hb)) h
  have hst : St S2 γ2 w' (renH ρ Hout) := by
    refine ⟨fun i r hi => ?_, fun i i' ri ri' b hi hi' hb hb' => ?_, fun i r b hi hb hs => ?_, fun b hb => ?_, fun i => ?_⟩
    · obtain ⟨j, r', hj, rfl, rfl⟩ := hlook hi
      rw [hγ2 j (look_ids hj), Res.holds_ren]
      have h0 := hp.st.res j r' hj
      rcases hB with hf | ⟨_, hf⟩
      · rw [List.all_eq_true] at huH
        exact Res.mono (hSS hf) (fun _ _ => rfl) (fun j => (idsOf Hout).contains j) (fun k hk => hγ2 k (by simpa using hk)) (huH _ (look_mem hj)) (fun _ _ => rfl) h0
      · exact Res.flat_any (hf _ (look_mem hj)) h0
    · obtain ⟨j, r, hj, rfl, rfl⟩ := hlook hi
      obtain ⟨j', r', hj', rfl, rfl⟩ := hlook hi'
      rw [hγ2 j (look_ids hj)] at hb
      rw [hγ2 j' (look_ids hj')] at hb'
      rw [hp.st.dis j j' r r' b hj hj' hb hb']
    · obtain ⟨j, r', hj, rfl, rfl⟩ := hlook hi
      rw [hγ2 j (look_ids hj)] at hb
      rcases hs with hs | ⟨hs, _⟩
      · rcases hp.own j r' b hj hb with h | h
        · have := hr.st.sz b hs; omega
        · obtain ⟨k, rk, hk, hkb⟩ := hblk b h
          exact hr.st.live k rk b hk hkb hs
      · exact hp.st.live j r' b hj hb hs
    · rcases hb with hb | ⟨hb, _⟩
      · have := hr.st.sz b hb; have := hp.keep.size; omega
      · exact hp.st.sz b hb
    · by_cases h : ∃ j ∈ idsOf Hout, ρ j = i
      · obtain ⟨j, hj, rfl⟩ := h
        rw [hγ2 j hj]; exact hp.st.one j
      · show (newγ ρ γ' γ (idsOf Hout) i).oneCell' = true
        rw [newγ_out (fun j hj e => h ⟨j, hj, e⟩)]
        exact hr.st.one i
  have hval : (out.ren ρ).holds S2 γ2 w' v := by
    rw [AV.holds_ren]
    rcases hB with hf | ⟨hf, _⟩
    · exact AV.mono (hSS hf) (fun _ _ => rfl) (fun j => (idsOf Hout).contains j) (fun j hj => hγ2 j (by simpa using hj)) out v huo hp.val
    · exact AV.noS_any (fun j => (idsOf Hout).contains j) (fun j hj => hγ2 j (by simpa using hj)) out v hf huo hp.val
  refine ⟨S2, γ2, hr.eff (anyId ρ (idsOf Hin ++ idsOf Hout)) (anyId ρ (freshIds Hin Hout)) ?_ ?_ (fun b hb => .inl hb) (fun b hb => hb.imp id fun h => h.2.imp id fun ⟨k, rk, hk, hkb⟩ => ⟨ρ k, _, anyId_iff.2 ⟨k, List.mem_append_left _ (look_ids hk), rfl⟩, hin k rk hk, hkb⟩) hst ?_ ?_ ?_ ?_ hus, hval⟩
  · intro i hi
    rw [anyId_iff] at hi ⊢
    obtain ⟨j, hj, h⟩ := hi
    exact ⟨j, List.mem_append_right _ (List.mem_filter.1 hj).1, h⟩
  · refine ⟨hp.keep.os, hp.keep.tape, hp.keep.output, hp.keep.size, fun b hb hn => hp.keep.block b hb ?_⟩
    rintro ⟨j, r, hj, hjb⟩
    exact hn ⟨ρ j, _, anyId_iff.2 ⟨j, List.mem_append_left _ (look_ids hj), rfl⟩, hin j r hj, hjb⟩
  · intro i r b hi hb
    obtain ⟨j, r', hj, rfl, rfl⟩ := hlook hi
    rw [hγ2 j (look_ids hj)] at hb
    rcases hp.own j r' b hj hb with h | ⟨k, rk, hk, hkb⟩
    · exact .inl h
    · exact .inr ⟨ρ k, _, anyId_iff.2 ⟨k, List.mem_append_left _ (look_ids hk), rfl⟩, hin k rk hk, hkb⟩
  · intro i r hi
    obtain ⟨j, r', hj, rfl, rfl⟩ := hlook hi
    exact anyId_iff.2 ⟨j, List.mem_append_right _ (look_ids hj), rfl⟩
  · intro i hi
    by_cases h : ∃ j ∈ idsOf Hout, ρ j = i
    · obtain ⟨j, hj, rfl⟩ := h
      rw [hγ2 j hj]
      by_cases hji : j ∈ idsOf Hin
      · obtain ⟨r, hr'⟩ := ids_look hji
        exact hp.same j r hr'
      · exfalso
        have : anyId ρ (freshIds Hin Hout) (ρ j) = true := anyId_iff.2 ⟨j, by unfold freshIds; rw [List.mem_filter]; exact ⟨hj, by simpa using hji⟩, rfl⟩
        rw [this] at hi; cases hi
    · exact newγ_out fun j hj e => h ⟨j, hj, e⟩
  · intro i hi
    cases hm : anyId ρ (freshIds Hin Hout) i with
    | false => rfl
    | true =>
      obtain ⟨j, hj, rfl⟩ := anyId_iff.1 hm
      rw [List.all_eq_true] at hfr
      have h1 := Nat.le_of_ble_eq_true (hfr j hj)
      have := c.lt _ hi
      omega
/-- a call that makes or changes resources -/
theorem ao_call {B : Bool} {f : FuncId} {xs : Array Operand} {tys : Array TypeId} {as : List AV} {Hin : List (Nat × Res)} {post : AV → List (Nat × Res) → Prop} {d : Nat} (hg : o.guard = none := by rfl) (hd : o.dst = some d := by rfl) (hn : Nat.blt d n = true := by rfl)
    (ho : o.op = .call { callee := .value (.func f), args := xs, argTypes := tys } := by rfl) (hf : entersB P f = true := by kernel_rfl) (hC : Con P f as Hin post) (ρ : Nat → Nat) (hargs : ArgsOk B fr H xs.toList (AV.renL ρ as) := by repeat (first | exact .nil | refine .cons (by first | exact .un rfl (by first | assumption | exact And.left (by assumption) | exact And.left (And.left (by assumption)) | exact And.left (And.left (And.left (by assumption)))) | exact .of rfl) ?_ | refine .lend rfl (by first | exact .un rfl (by first | assumption | exact And.left (by assumption) | exact And.left (And.left (by assumption)) | exact And.left (And.left (And.left (by assumption)))) | exact .of rfl) (by rfl) ?_ | refine .nilS (by first | exact .un rfl (by first | assumption | exact And.left (by assumption) | exact And.left (And.left (by assumption)) | exact And.left (And.left (And.left (by assumption)))) | exact .of rfl) ?_))
    (hin : ∀ j r, look Hin j = some r → look H (ρ j) = some (r.ren ρ)) (hinj : injB ρ (idsOf Hin) = true := by rfl) (hlend : B = true → Hin = [] := by rfl)
    (next : ∀ out Hout, post out Hout → callOk ρ out Hin Hout H = true ∧ (B = false ∨ (out.noS = true ∧ ∀ p ∈ Hout, p.2.isFlat)) ∧
      AOps P c n ops rest Q ((d, out.ren ρ) :: markF (anyId ρ (freshIds Hin Hout)) fr) (renH ρ Hout ++ dropH (anyId ρ (idsOf Hin ++ idsOf Hout)) H)) : AOps P c n ops (o :: rest) Q fr H := fun S γ tmps w hr => by
  refine ao_plain hg ?_
  have env := hr.env (ds := []) (fun _ => True)
  have hinj := injB_iff hinj
  have hl : ∀ b, LentS B S γ H b → b < w.heap.size := by
    rintro b (h | ⟨_, j, r, hj, hb⟩)
    · exact hr.st.sz b h
    · exact Res.blk_lt (hr.st.res j r hj) hb
  have hS1 : ∀ b, S b → LentS B S γ H b := fun b h => .inl h
  have hst : St (LentS B S γ H) (fun j => γ (ρ j)) w Hin := by
    refine ⟨fun j r hj => ?_, fun i j ri rj b hi hj hbi hbj => ?_, fun j r b hj hb hs => ?_, hl, fun j => hr.st.one _⟩
    · have h0 := hr.st.res (ρ j) _ (hin j r hj)
      rw [Res.holds_ren] at h0
      exact Res.mono hS1 (fun _ _ => rfl) (fun _ => true) (fun _ _ => rfl) (by cases r <;> simp [Res.uses, AV.usesL_true]) (fun _ _ => rfl) h0
    · have := hr.st.dis (ρ i) (ρ j) _ _ b (hin i ri hi) (hin j rj hj) hbi hbj
      exact hinj i j (look_ids hi) (look_ids hj) this
    · rcases hs with hs | ⟨hB, _⟩
      · exact hr.st.live (ρ j) _ b (hin j r hj) hb hs
      · rw [hlend hB] at hj; simp [look] at hj
  refine out_call ho (env.func f) hf ?_
  have hcall := hC (LentS B S γ H) (fun j => γ (ρ j)) w _ hst ((AV.holdsL_ren ρ as _).1 (hargs.holds env (fun _ _ => trivial)))
  rw [show (List.map (Act.eval ⟨tmps, []⟩) xs.toList).toArray = Array.map (Act.eval ⟨tmps, []⟩) xs from by rw [← Array.toList_map]] at hcall
  refine hcall.mono ?_
  rintro e w' ⟨v, out, Hout, S', γ', rfl, hpost, hp⟩
  obtain ⟨hok, hB, hnext⟩ := next out Hout hpost
  obtain ⟨S2, γ2, hrel, hval⟩ := hr.call ρ hin hok (B := B) (S1 := LentS B S γ H) (fun b hb => hb) hB hp
  refine ⟨v, rfl, ?_⟩
  have hput : ∀ v, (Act.put ⟨tmps, []⟩ o.dst v) = ⟨tmps.setIfInBounds d v, []⟩ := fun v => by rw [hd]; rfl
  rw [hput]
  exact hnext S2 γ2 _ w' (hrel.put (Nat.le_of_ble_eq_true hn) hval)
end
end Go.Proofs.Ytjmcbacdogjdeaa
