/- More operations over abstract frames: functions as values, structs compared and built, further arithmetic. Nothing of the program stands here. -/
import Derived.Test.YtjmcbacdogjdeaaAi
namespace Go.Proofs.Ytjmcbacdogjdeaa
open Go Go.RowKit
set_option linter.unusedVariables false
section
variable {P : Program} {T : List (Nat × TI)} {c : Ctx} {n : Nat} {Q : AQ} {fr : List (Nat × AV)} {H : List (Nat × Res)} {ops : Array Oper} {rest : List Oper} {o : Oper}
variable {S : Nat → Prop} {γ : Nat → Value} {tmps : Array Value} {w : World}
/-- a call that makes one slice, which from then on is only read -/
theorem sop_callO {B : Bool} {f : FuncId} {xs : Array Operand} {tys : Array TypeId} {as : List AV} {k e : Nat} {α : Type} {E : Enc α} {ys : List α} (ho : o.op = .call { callee := .value (.func f), args := xs, argTypes := tys } := by rfl) (hf : entersB P f = true := by kernel_rfl)
    (hC : Con P f as [] fun a h => a = .own k ∧ h = [(k, .own e E ys)]) (hargs : ArgsOk B fr H xs.toList as := by repeat (first | exact .nil | refine .cons (by first | exact .un rfl (by first | assumption | exact And.left (by assumption) | exact And.left (And.left (by assumption)) | exact And.left (And.left (And.left (by assumption)))) | exact .of rfl) ?_ | refine .lend rfl (by first | exact .un rfl (by first | assumption | exact And.left (by assumption) | exact And.left (And.left (by assumption)) | exact And.left (And.left (And.left (by assumption)))) | exact .of rfl) (by rfl) ?_ | refine .nilS (by first | exact .un rfl (by first | assumption | exact And.left (by assumption) | exact And.left (And.left (by assumption)) | exact And.left (And.left (And.left (by assumption)))) | exact .of rfl) ?_)) (hB : B = false ∨ E.isFlat := by first | exact .inl rfl | exact .inr rfl | exact .inr (fun _ => rfl)) : SOp P o fr H (.snap (slF E ys)) := fun S γ w ρ env => by
  have hl : ∀ b, LentS B S γ H b → b < w.heap.size := by
    rintro b (h | ⟨_, j, r, hj, hb⟩)
    · exact env.st.sz b h
    · exact Res.blk_lt (env.st.res j r hj) hb
  refine out_call ho (env.func f) hf ?_
  have hcall := hC (LentS B S γ H) γ w _ (St.nil hl env.st.one) (hargs.holds env (fun x hx => by simp [ho, Op.operands, Call.operands]; right; simpa using hx))
  rw [show (List.map ρ xs.toList).toArray = Array.map ρ xs from by rw [← Array.toList_map]] at hcall
  refine hcall.mono ?_
  rintro en w' ⟨v, out', Hout, S', γ', rfl, ⟨rfl, rfl⟩, hp⟩
  have hx : Ext w w' := ⟨hp.keep.os, hp.keep.tape, hp.keep.output, hp.keep.size, fun b hb => hp.keep.block b hb (by rintro ⟨j, r, hj, _⟩; simp [look] at hj)⟩
  refine ⟨v, rfl, hx, ?_⟩
  have hv := hp.val
  simp only [AV.holds] at hv
  subst hv
  have hlk : look [(k, Res.own e E ys)] k = some (.own e E ys) := by rw [look_cons, if_pos rfl]
  have hfb : ∀ b, rblk (γ' k) = some b → FreshS S w w' b := fun b hb => by
    rcases hp.own k _ b hlk hb with h | ⟨j, r, hj, _⟩
    · exact .inr ⟨h, Res.blk_lt (hp.st.res k _ hlk) hb⟩
    · simp [look] at hj
  simp only [AV.holds]
  rcases hB with rfl | hB
  · refine own_snap hp.st hlk (fun b hb => ?_) hfb
    rcases hp.up b hb with (h | ⟨h, _⟩) | h | ⟨j, r, hj, _⟩
    · exact .inl h
    · cases h
    · exact .inr ⟨h, hp.st.sz b hb⟩
    · simp [look] at hj
  · obtain ⟨A, c, vs, h1, h2, h3, h4, h5⟩ := own_snap (S' := fun b => S' b ∨ FreshS S w w' b) hp.st hlk (fun b hb => .inl hb) (fun b hb => .inr (hfb b hb))
    refine ⟨A, c, vs, h1, h2, ?_, AV.flat_anyL _ _ (hB.all ys) h4, h5⟩
    intro hne
    obtain ⟨ad, hA, _, hc⟩ := h3 hne
    refine ⟨ad, hA, ?_, hc⟩
    apply hfb
    obtain ⟨vs', ho', hh', _⟩ := hp.st.res k _ hlk
    obtain ⟨_, A2, c2, hv2, ⟨hz, hz2⟩ | ⟨g, cur, hA2, _, _, hnc, _⟩⟩ := ho'
    · exfalso
      apply hne
      have := AV.holdsL_len h4
      rw [Enc.all_len, hz, Nat.zero_mul] at this
      exact List.eq_nil_of_length_eq_zero this
    · rw [hv2] at h1 ⊢
      simp only [Value.slice.injEq] at h1
      obtain ⟨hAA, _, hcc⟩ := h1
      subst hA2
      have hpos : 0 < c2 := by
        have := AV.holdsL_len h4
        rw [Enc.all_len] at this
        rcases Nat.eq_zero_or_pos ys.length with h | h
        · exfalso; apply hne
          rw [h, Nat.zero_mul] at this
          exact List.eq_nil_of_length_eq_zero this
        · omega
      rw [hA] at hAA
      simp only [Option.some.injEq] at hAA
      subst hAA
      cases c2 with
      | zero => omega
      | succ c2 => rfl

/-- what a box reads as, once it is only read -/
def frzB (j : Nat) (cs : List AV) (fr : List (Nat × AV)) : List (Nat × AV) := fr.map fun p => (p.1, match p.2 with
  | .ptr i off => if Nat.beq i j then .snap (placeF (cs.drop off)) else .ptr i off
  | a => if a.uses (fun i => !(one1 j i)) then a else .any)
theorem look_frzB (j : Nat) (cs : List AV) : ∀ (fr : List (Nat × AV)) (x : Nat) (a : AV), look (frzB j cs fr) x = some a → ∃ b, look fr x = some b ∧ (a = .any ∨ (a = b ∧ b.uses (fun i => !(one1 j i)) = true) ∨ ∃ off, b = .ptr j off ∧ a = .snap (placeF (cs.drop off)))
  | [], x, a, h => by simp [frzB, look] at h
  | (k, b) :: fr, x, a, h => by
    unfold frzB at h
    rw [List.map_cons, look_cons] at h
    rw [look_cons]
    by_cases hk : k = x
    · rw [if_pos hk] at h ⊢
      simp only [Option.some.injEq] at h
      refine ⟨b, rfl, ?_⟩
      subst h
      cases b with
      | ptr i off =>
        by_cases hij : Nat.beq i j = true
        · have := Nat.eq_of_beq_eq_true hij
          subst this
          right; right; exact ⟨off, rfl, by simp⟩
        · right; left
          refine ⟨by simp [hij], ?_⟩
          simp only [AV.uses]
          cases h1 : one1 j i with
          | false => rfl
          | true => rw [one1_iff] at h1; subst h1; simp at hij
      | _ =>
        simp only
        split
        · rename_i hu; right; left; exact ⟨rfl, hu⟩
        · left; rfl
    · rw [if_neg hk] at h ⊢
      exact look_frzB j cs fr x a h
theorem Rel.freezeBox (hr : Rel c n fr H S γ tmps w) (j : Nat) {cs : List AV} (hj : look H j = some (.box cs)) (hp : AV.usesL (fun _ => false) cs = true) : Rel c n (frzB j cs fr) (dropH (one1 j) H) (fun b => S b ∨ rblk (γ j) = some b) γ tmps w := by
  have hl : ∀ i r, look (dropH (one1 j) H) i = some r → look H i = some r ∧ i ≠ j := by
    intro i r hi
    rw [look_drop] at hi
    split at hi
    · cases hi
    · rename_i h1
      exact ⟨hi, fun e => h1 (one1_iff.2 e.symm)⟩
  refine ⟨⟨fun i r hi => ?_, fun i i' ri ri' b hi hi' => hr.st.dis i i' ri ri' b (hl i ri hi).1 (hl i' ri' hi').1, fun i r b hi hb hs => ?_, fun b hb => ?_, hr.st.one⟩, fun x a hx => ?_, fun b hb => ?_, fun i r b hi hb => hr.own i r b (hl i r hi).1 hb, hr.ids, hr.size, hr.keep⟩
  · exact Res.mono (fun b h => .inl h) (fun _ _ => rfl) (fun _ => true) (fun _ _ => rfl) (by cases r <;> simp [Res.uses, AV.usesL_true]) (fun _ _ => rfl) (hr.st.res i r (hl i r hi).1)
  · rcases hs with hs | hs
    · exact hr.st.live i r b (hl i r hi).1 hb hs
    · exact (hl i r hi).2 (hr.st.dis i j r _ b (hl i r hi).1 hj hb hs)
  · rcases hb with hb | hb
    · exact hr.st.sz b hb
    · exact Res.blk_lt (hr.st.res j _ hj) hb
  · obtain ⟨b, hb, h1⟩ := look_frzB j cs fr x a hx
    have hh := hr.fr x b hb
    rcases h1 with rfl | ⟨rfl, hu⟩ | ⟨off, rfl, rfl⟩
    · simp only [AV.holds]
    · exact AV.ext (fun b h => .inl h) (fun _ _ => rfl) hh
    · simp only [AV.holds] at hh ⊢
      obtain ⟨g, hg, hv⟩ := hh
      obtain ⟨arr, e, hheap, hc⟩ := box_cell hr.st hj hg
      obtain ⟨g', arr', e', hgv, _, _⟩ := hr.st.res j _ hj
      have hgg : g' = g := by rw [hgv] at hg; simpa [gof] using hg
      subst hgg
      refine ⟨⟨g', off, none⟩, arr.toList.drop off, hv, fun _ => ⟨_, rfl, .inr (by rw [hgv]; rfl), fun i u hu => ?_⟩, AV.holdsL_drop (plainL hp (AV.extL (fun b h => .inl h) (fun _ _ => rfl) hc)) off⟩
      rw [addr_add_ne, cell_of_row w g' _ _ _ _ hheap]
      simpa using hu
  · rcases hb with hb | hb
    · exact hr.up b hb
    · exact .inr (hr.own j _ b hj hb)
theorem ao_freezeBox (j : Nat) {cs : List AV} (hj : look H j = some (.box cs) := by rfl) (hp : AV.usesL (fun _ => false) cs = true := by rfl) (h : AOps P c n ops rest Q (frzB j cs fr) (dropH (one1 j) H)) : AOps P c n ops rest Q fr H := fun S γ tmps w hr => h _ γ tmps w (hr.freezeBox j hj hp)
theorem a_freezeBox {code : Code} (j : Nat) {cs : List AV} (hj : look H j = some (.box cs)) (hp : AV.usesL (fun _ => false) cs = true) (h : ACode P c n code Q (frzB j cs fr) (dropH (one1 j) H)) : ACode P c n code Q fr H := fun S γ tmps w hr => h _ γ tmps w (hr.freezeBox j hj hp)
/-- what one's own slice reads as, once it is only read -/
def frzO {α : Type} (j : Nat) (E : Enc α) (xs : List α) (fr : List (Nat × AV)) : List (Nat × AV) := fr.map fun p => (p.1, match p.2 with
  | .own i => if Nat.beq i j then .snap (slF E xs) else .own i
  | a => if a.uses (fun i => !(one1 j i)) then a else .any)
theorem look_frzO {α : Type} (j : Nat) (E : Enc α) (xs : List α) : ∀ (fr : List (Nat × AV)) (x : Nat) (a : AV), look (frzO j E xs fr) x = some a → ∃ b, look fr x = some b ∧ (a = .any ∨ (a = b ∧ b.uses (fun i => !(one1 j i)) = true) ∨ (b = .own j ∧ a = .snap (slF E xs)))
  | [], x, a, h => by simp [frzO, look] at h
  | (k, b) :: fr, x, a, h => by
    unfold frzO at h
    rw [List.map_cons, look_cons] at h
    rw [look_cons]
    by_cases hk : k = x
    · rw [if_pos hk] at h ⊢
      simp only [Option.some.injEq] at h
      refine ⟨b, rfl, ?_⟩
      subst h
      cases b with
      | own i =>
        by_cases hij : Nat.beq i j = true
        · have := Nat.eq_of_beq_eq_true hij
          subst this
          right; right; exact ⟨rfl, by simp⟩
        · right; left
          refine ⟨by simp [hij], ?_⟩
          simp only [AV.uses]
          cases h1 : one1 j i with
          | false => rfl
          | true => rw [one1_iff] at h1; subst h1; simp at hij
      | _ =>
        simp only
        split
        · rename_i hu; right; left; exact ⟨rfl, hu⟩
        · left; rfl
    · rw [if_neg hk] at h ⊢
      exact look_frzO j E xs fr x a h
theorem Rel.freezeOwn {α : Type} {E : Enc α} {ys : List α} {e : Nat} (hr : Rel c n fr H S γ tmps w) (j : Nat) (hj : look H j = some (.own e E ys)) : Rel c n (frzO j E ys fr) (dropH (one1 j) H) (fun b => S b ∨ rblk (γ j) = some b) γ tmps w := by
  have hl : ∀ i r, look (dropH (one1 j) H) i = some r → look H i = some r ∧ i ≠ j := by
    intro i r hi
    rw [look_drop] at hi
    split at hi
    · cases hi
    · rename_i h1
      exact ⟨hi, fun e => h1 (one1_iff.2 e.symm)⟩
  refine ⟨⟨fun i r hi => ?_, fun i i' ri ri' b hi hi' => hr.st.dis i i' ri ri' b (hl i ri hi).1 (hl i' ri' hi').1, fun i r b hi hb hs => ?_, fun b hb => ?_, hr.st.one⟩, fun x a hx => ?_, fun b hb => ?_, fun i r b hi hb => hr.own i r b (hl i r hi).1 hb, hr.ids, hr.size, hr.keep⟩
  · exact Res.mono (fun b h => .inl h) (fun _ _ => rfl) (fun _ => true) (fun _ _ => rfl) (by cases r <;> simp [Res.uses, AV.usesL_true]) (fun _ _ => rfl) (hr.st.res i r (hl i r hi).1)
  · rcases hs with hs | hs
    · exact hr.st.live i r b (hl i r hi).1 hb hs
    · exact (hl i r hi).2 (hr.st.dis i j r _ b (hl i r hi).1 hj hb hs)
  · rcases hb with hb | hb
    · exact hr.st.sz b hb
    · exact Res.blk_lt (hr.st.res j _ hj) hb
  · obtain ⟨b, hb, h1⟩ := look_frzO j E ys fr x a hx
    have hh := hr.fr x b hb
    rcases h1 with rfl | ⟨rfl, hu⟩ | ⟨rfl, rfl⟩
    · simp only [AV.holds]
    · exact AV.ext (fun b h => .inl h) (fun _ _ => rfl) hh
    · simp only [AV.holds] at hh ⊢
      rw [hh]
      exact own_snap hr.st hj (fun b h => .inl h) (fun b h => .inr h)
  · rcases hb with hb | hb
    · exact hr.up b hb
    · exact .inr (hr.own j _ b hj hb)
theorem ao_freezeOwn {α : Type} {E : Enc α} {ys : List α} {e : Nat} (j : Nat) (hj : look H j = some (.own e E ys) := by rfl) (h : AOps P c n ops rest Q (frzO j E ys fr) (dropH (one1 j) H)) : AOps P c n ops rest Q fr H := fun S γ tmps w hr => h _ γ tmps w (hr.freezeOwn j hj)
theorem a_freezeOwn {code : Code} {α : Type} {E : Enc α} {ys : List α} {e : Nat} (j : Nat) (hj : look H j = some (.own e E ys)) (h : ACode P c n code Q (frzO j E ys fr) (dropH (one1 j) H)) : ACode P c n code Q fr H := fun S γ tmps w hr => h _ γ tmps w (hr.freezeOwn j hj)
/-- the parts of a literal struct -/
inductive BuildOk (T : List (Nat × TI)) (fr : List (Nat × AV)) (fs : List (TypeId × Nat)) : List AV → List (Nat × Operand) → List AV → Prop
  | nil {cs : List AV} : BuildOk T fr fs cs [] cs
  | cons {cs ds out : List AV} {i ft off : Nat} {fi : TI} {x : Operand} {a : AV} {ps : List (Nat × Operand)} (hf : fs[i]? = some (ft, off)) (hft : look T ft = some fi) (h : Opv fr x a) (hc : cellsOf a = some ds) (hl : Nat.beq ds.length fi.size = true) (hb : Nat.ble (off + fi.size) cs.length = true) (hr : BuildOk T fr fs (setAll cs off ds) ps out) : BuildOk T fr fs cs ((i, x) :: ps) out
theorem BuildOk.run {use : Operand → Prop} {ρ : Operand → Value} {fs : List (TypeId × Nat)} {cs out : List AV} {ps : List (Nat × Operand)} (hT : TTOk P T) (h : BuildOk T fr fs cs ps out) (env : Env fr H use ρ S γ w) (hu : ∀ p ∈ ps, use p.2) (place : Nat → Option (Nat × Nat)) (hpl : ∀ i ft off fi, fs[i]? = some (ft, off) → look T ft = some fi → place i = some (off, fi.size)) :
    ∀ cells : Array Value, AV.holdsL S γ w cs cells.toList → ∃ cells', Instr.fill place cells (ps.map fun p => (p.1, ρ p.2)) = some cells' ∧ AV.holdsL S γ w out cells'.toList := by
  induction h with
  | nil => intro cells hc; exact ⟨cells, rfl, hc⟩
  | @cons cs ds out i ft off fi x a ps hf hft h hc hl hb _ ih =>
    intro cells hcells
    have hx := cellsOf_holds env.st.one hc (env.get h (hu _ List.mem_cons_self))
    have hl' : ds.length = fi.size := Nat.eq_of_beq_eq_true hl
    have hb' : off + fi.size ≤ cs.length := Nat.le_of_ble_eq_true hb
    have hsz : (ρ x).cells.size = fi.size := by rw [← Array.length_toList, AV.holdsL_len hx, hl']
    have hcl := AV.holdsL_len hcells
    simp only [Array.length_toList] at hcl
    have hfold : (((ρ x).cells.zipIdx.foldl (fun cs (p : Value × Nat) => cs.setIfInBounds (off + p.2) p.1) cells)).toList = setAll cells.toList off (ρ x).cells.toList := by
      rw [← Array.foldl_toList, Array.toList_zipIdx]
      simpa using foldl_zip_set off (ρ x).cells.toList 0 cells
    obtain ⟨cells', h1, h2⟩ := ih (fun p hp => hu p (List.mem_cons_of_mem _ hp)) ((ρ x).cells.zipIdx.foldl (fun cs (p : Value × Nat) => cs.setIfInBounds (off + p.2) p.1) cells) (by rw [hfold]; exact holdsL_setAll off hx hcells)
    refine ⟨cells', ?_, h2⟩
    have hnot : ¬ (off + fi.size > cells.size) := by omega
    rw [List.map_cons]
    simp only [Instr.fill, hpl i ft off fi hf hft, hsz, ne_eq, not_true_eq_false, decide_false, Bool.false_or, hnot, Bool.false_eq_true, if_false]
    first | exact h1 | simpa using h1
theorem places_run : ∀ (fs : List Field), (∀ f ∈ fs, ∃ i, look T f.type = some i) → TTOk P T → (fs.mapM fun f => (do pure (f.offset, ← sizeOf f.type) : Sem (Nat × Nat))).run P w = .ok (fs.map fun f => (f.offset, P.cellsOf f.type)) w
  | [], _, _ => by simp
  | f :: fs, h, hT => by
    obtain ⟨i, hi⟩ := h f List.mem_cons_self
    have ih := places_run fs (fun g hg => h g (List.mem_cons_of_mem _ hg)) hT
    obtain ⟨j, z, hj, h1, _⟩ := hT.info hi
    have hc : P.cellsOf f.type = i.size := by simp [Program.cellsOf, hj, h1]
    rw [List.mapM_cons]
    simp only [Sem.run_bind, hT.size hi, Result.andThen_ok, Sem.run_pure, ih, hc, List.map_cons]
theorem sop_build {t : Nat} {fs : List (TypeId × Nat)} {s b : Nat} {ZT : List (Nat × List Z)} {zs : List Z} {ps : Array (Nat × Operand)} {out : List AV} (ho : o.op = .build t ps := by rfl) (hT : TTOk P T := by assumption) (ht : look T t = some ⟨.struct fs, s, b⟩ := by rfl) (hZ : ZOk P ZT := by assumption) (hz : look ZT t = some zs := by rfl) (hfs : (fs.all fun p => (look T p.1).isSome) = true := by rfl) (hb : BuildOk T fr fs (zAV zs) ps.toList out := by repeat (first | exact BuildOk.nil | apply BuildOk.cons rfl rfl (by first | exact .un rfl (by first | assumption | exact And.left (by assumption) | exact And.left (And.left (by assumption)) | exact And.left (And.left (And.left (by assumption)))) | exact .of rfl) rfl rfl rfl)) : SOp P o fr H (.agg out) := fun S γ w ρ env => by
  obtain ⟨i, z, hi, hiz, hzc⟩ := hZ.zero hz
  obtain ⟨hk, _⟩ := hT.ok t _ ht
  unfold tkOf at hk
  cases hu : P.underlying t with
  | none => rw [hu] at hk; cases hk
  | some d =>
    rw [hu] at hk
    cases d <;> simp only [reduceCtorEq] at hk
    rename_i F
    simp only [TK.struct.injEq] at hk
    rw [List.all_eq_true] at hfs
    have hF : ∀ f ∈ F.toList, ∃ i, look T f.type = some i := by
      intro f hf
      have := hfs (f.type, f.offset) (by rw [← hk]; exact List.mem_map.2 ⟨f, hf, rfl⟩)
      exact Option.isSome_iff_exists.1 this
    have hplaces : ((F.mapM fun f => (do pure (f.offset, ← sizeOf f.type) : Sem (Nat × Nat)))).run P w = .ok (F.map fun f => (f.offset, P.cellsOf f.type)) w := by
      rw [Array.mapM_eq_mapM_toList]
      have := places_run (w := w) F.toList hF hT
      simp only [map_eq_pure_bind, Sem.run_bind, this, Result.andThen_ok, Sem.run_pure]
      congr 1
      apply Array.ext'
      simp
    obtain ⟨cells', h1, h2⟩ := hb.run hT env (fun p hp => by simp only [ho, Op.operands, List.mem_toArray, List.mem_map]; exact ⟨p, hp, rfl⟩) ((F.map fun f => (f.offset, P.cellsOf f.type))[·]?) (fun j ft off fi hf hft => by
      rw [← hk] at hf
      simp only [List.getElem?_map, Option.map_eq_some_iff] at hf
      obtain ⟨f, hf1, hf2⟩ := hf
      simp only [Prod.mk.injEq] at hf2
      obtain ⟨rfl, rfl⟩ := hf2
      obtain ⟨jj, zz, hj, h1, _⟩ := hT.info hft
      have hc : P.cellsOf f.type = fi.size := by simp [Program.cellsOf, hj, h1]
      have hf1' : F[j]? = some f := by simpa using hf1
      simp [hf1', hc]) z.cells (by rw [hzc]; exact zAV_holds zs)
    refine outs (v := .agg cells') ?_ (by simp only [AV.holds]; exact ⟨cells'.toList, by simp, h2⟩)
    have h1' : Instr.fill ((F.map fun f => (f.offset, P.cellsOf f.type))[·]?) z.cells ((ps.map fun (i, x) => (i, ρ x)).toList) = some cells' := by
      rw [show (ps.map fun (i, x) => (i, ρ x)).toList = ps.toList.map (fun p => (p.1, ρ p.2)) from by rw [Array.toList_map]]
      exact h1
    simp only [execOp, ho, Instr.build, Sem.run_bind, zeroValue, typeInfo, hi, hiz, run_program, Result.andThen_ok, Sem.run_pure, run_underlying hu, hplaces, h1']
/-- a field of a struct as a value -/
theorem sop_fieldv {x : Operand} {t f : Nat} {fs : List (TypeId × Nat)} {s b ft fo : Nat} {fi : TI} {cs : List AV} {a : AV} (ho : o.op = .field t x f := by rfl) (hT : TTOk P T := by assumption) (ht : look T t = some ⟨.struct fs, s, b⟩ := by rfl) (hf : fs[f]? = some (ft, fo) := by rfl) (hft : look T ft = some fi := by rfl) (ha : fi.kind.agg = false := by rfl) (hx : Opv fr x (.agg cs) := by first | exact .un rfl (by first | assumption | exact And.left (by assumption) | exact And.left (And.left (by assumption)) | exact And.left (And.left (And.left (by assumption)))) | exact .of rfl) (hc : cs[fo]? = some a := by rfl) : SOp P o fr H a := fun S γ w ρ h => by
  have h1 := h.get hx (by simp [ho, Op.operands])
  simp only [AV.holds] at h1
  obtain ⟨vs, hv, hl⟩ := h1
  obtain ⟨F, fl, hu, hfl, h3, h4⟩ := hT.field ht hf
  obtain ⟨v, hv2, hav⟩ := AV.holdsL_get hl fo a hc
  refine outs (v := v) ?_ hav
  have hag := hT.agg hft w
  rw [ha, ← h3] at hag
  simp [execOp, ho, Instr.field, run_underlying hu, hfl, hv, asAgg, part, hag, h4, hv2]
theorem sop_fieldv_agg {x : Operand} {t f : Nat} {fs : List (TypeId × Nat)} {s b ft fo : Nat} {fi : TI} {cs : List AV} (ho : o.op = .field t x f := by rfl) (hT : TTOk P T := by assumption) (ht : look T t = some ⟨.struct fs, s, b⟩ := by rfl) (hf : fs[f]? = some (ft, fo) := by rfl) (hft : look T ft = some fi := by rfl) (ha : fi.kind.agg = true := by rfl) (hx : Opv fr x (.agg cs) := by first | exact .un rfl (by first | assumption | exact And.left (by assumption) | exact And.left (And.left (by assumption)) | exact And.left (And.left (And.left (by assumption)))) | exact .of rfl) : SOp P o fr H (.agg ((cs.drop fo).take fi.size)) := fun S γ w ρ h => by
  have h1 := h.get hx (by simp [ho, Op.operands])
  simp only [AV.holds] at h1
  obtain ⟨vs, hv, hl⟩ := h1
  obtain ⟨F, fl, hu, hfl, h3, h4⟩ := hT.field ht hf
  refine outs (v := .agg ((vs.drop fo).take fi.size).toArray) ?_ (by simp only [AV.holds]; exact ⟨_, rfl, AV.holdsL_take (AV.holdsL_drop hl fo) _⟩)
  have hag := hT.agg hft w
  rw [ha, ← h3] at hag
  have hsz := hT.size hft w
  rw [← h3] at hsz
  simp [execOp, ho, Instr.field, run_underlying hu, hfl, hv, asAgg, part, hag, h4, hsz]

/-- a function as a value: what its calls answer -/
def fnF (P : Program) (spec : List AV → AV → Prop) : SFact where
  holds S w v := ∃ f caps, v = .func (.func f) #[] caps ∧ entersB P f = true ∧ ∀ (S' : Nat → Prop) (γ : Nat → Value) (w' : World) (vs : List Value) (as : List AV) (out : AV), (∀ b, S b → S' b) → Same S w w' → (∀ b, S' b → b < w'.heap.size) → (∀ j, (γ j).oneCell' = true) → spec as out → AV.holdsL S' γ w' as vs →
    Calls P f (vs.toArray ++ caps) w' fun e w2 => ∃ v, e = .returned v ∧ Ext w' w2 ∧ out.holds (FreshS S' w' w2) γ w2 v
  mono := by
    rintro S S1 w w1 v ⟨f, caps, rfl, hf, h⟩ hs hw
    exact ⟨f, caps, rfl, hf, fun S' γ w' vs as out h1 h2 h3 h4 h5 h6 => h S' γ w' vs as out (fun b hb => h1 b (hs b hb)) (fun b hb => (h2 b (hs b hb)).trans (hw b hb)) h3 h4 h5 h6⟩
  one := by
    rintro S w v ⟨f, caps, rfl, _⟩
    rfl
/-- captured values: exact ones, and what is only read -/
inductive CapsOk (fr : List (Nat × AV)) : List Operand → List AV → Prop
  | nil : CapsOk fr [] []
  | cons {x : Operand} {a : AV} {xs : List Operand} {as : List AV} (h : Opv fr x a) (hp : a.uses (fun _ => false) = true) (hr : CapsOk fr xs as) : CapsOk fr (x :: xs) (a :: as)
theorem CapsOk.holds {use : Operand → Prop} {ρ : Operand → Value} {xs : List Operand} {as : List AV} (h : CapsOk fr xs as) (env : Env fr H use ρ S γ w) (hu : ∀ x ∈ xs, use x) : AV.holdsL S γ w as (xs.map ρ) ∧ AV.usesL (fun _ => false) as = true := by
  induction h with
  | nil => simp [AV.holdsL, AV.usesL]
  | cons h hp _ ih =>
    obtain ⟨i1, i2⟩ := ih fun x hx => hu x (List.mem_cons_of_mem _ hx)
    simp only [List.map_cons, AV.holdsL, AV.usesL, hp, i2]
    exact ⟨⟨_, _, rfl, env.get h (hu _ List.mem_cons_self), i1⟩, rfl⟩
theorem sop_makeFunc {f : FuncId} {cs : Array Operand} {caps : List AV} (spec : List AV → AV → Prop) (ho : o.op = .makeFunc (.func f) #[] cs := by rfl) (hf : entersB P f = true := by kernel_rfl) (hcaps : CapsOk fr cs.toList caps := by repeat (first | exact CapsOk.nil | (apply CapsOk.cons (by first | exact .un rfl (by first | assumption | exact And.left (by assumption) | exact And.left (And.left (by assumption)) | exact And.left (And.left (And.left (by assumption)))) | exact .of rfl) rfl)))
    (hout : ∀ as out, spec as out → AV.uses (fun _ => false) out = true) (hC : ∀ as out, spec as out → Con0 P f (as ++ caps) out) : SOp P o fr H (.snap (fnF P spec)) := fun S γ w ρ env => by
  obtain ⟨h1, h2⟩ := hcaps.holds env (fun x hx => by simp [ho, Op.operands]; simpa using hx)
  refine outs (v := .func (.func f) #[] (cs.map ρ)) (by simp [execOp, ho, Instr.makeFunc]) ?_
  simp only [AV.holds]
  refine ⟨f, cs.map ρ, rfl, hf, fun S' γ' w' vs as out hs hw hsz h1' hsp hvs => ?_⟩
  have hcap : AV.holdsL S' γ' w' caps (cs.toList.map ρ) := AV.monoL hs hw (fun _ => false) (fun _ h => by cases h) caps _ h2 h1
  have hcall := hC as out hsp S' γ' w' _ (St.nil hsz h1') (AV.holdsL_app hvs hcap)
  rw [show (vs ++ cs.toList.map ρ).toArray = vs.toArray ++ cs.map ρ from by apply Array.ext'; simp] at hcall
  refine hcall.mono ?_
  rintro en w2 ⟨v, out', Hout, S2, γ2, rfl, ⟨rfl, rfl⟩, hp⟩
  refine ⟨v, rfl, ⟨hp.keep.os, hp.keep.tape, hp.keep.output, hp.keep.size, fun b hb => hp.keep.block b hb (by rintro ⟨j, r, hj, _⟩; simp [look] at hj)⟩, ?_⟩
  refine AV.mono (fun b hb => ?_) (fun _ _ => rfl) (fun _ => false) (fun _ h => by cases h) out' v (hout as out' hsp) hp.val
  rcases hp.up b hb with h | h | ⟨j, r, hj, _⟩
  · exact .inl h
  · exact .inr ⟨h, hp.st.sz b hb⟩
  · simp [look] at hj
theorem sop_callf {B : Bool} {t : Tmp} {xs : Array Operand} {tys : Array TypeId} {as : List AV} {out : AV} {spec : List AV → AV → Prop} (ho : o.op = .call { callee := .value (.tmp t), args := xs, argTypes := tys } := by rfl) (hv : Opv fr (.tmp t) (.snap (fnF P spec)) := by first | exact .un rfl (by first | assumption | exact And.left (by assumption) | exact And.left (And.left (by assumption)) | exact And.left (And.left (And.left (by assumption)))) | exact .of rfl) (hargs : ArgsOk B fr H xs.toList as := by repeat (first | exact .nil | refine .cons (by first | exact .un rfl (by first | assumption | exact And.left (by assumption) | exact And.left (And.left (by assumption)) | exact And.left (And.left (And.left (by assumption)))) | exact .of rfl) ?_ | refine .lend rfl (by first | exact .un rfl (by first | assumption | exact And.left (by assumption) | exact And.left (And.left (by assumption)) | exact And.left (And.left (And.left (by assumption)))) | exact .of rfl) (by rfl) ?_ | refine .nilS (by first | exact .un rfl (by first | assumption | exact And.left (by assumption) | exact And.left (And.left (by assumption)) | exact And.left (And.left (And.left (by assumption)))) | exact .of rfl) ?_)) (hsp : spec as out)
    (hB : B = false ∨ out.flat = true := by first | exact .inl rfl | exact .inr rfl | exact .inr (fun _ => rfl)) : SOp P o fr H out := fun S γ w ρ env => by
  have h1 := env.get hv (by simp [ho, Op.operands, Call.operands])
  simp only [AV.holds] at h1
  obtain ⟨f, caps, hfv, hf, hcall⟩ := h1
  have hl : ∀ b, LentS B S γ H b → b < w.heap.size := by
    rintro b (h | ⟨_, j, r, hj, hb⟩)
    · exact env.st.sz b h
    · exact Res.blk_lt (env.st.res j r hj) hb
  have hc := hcall (LentS B S γ H) γ w _ as out (fun b h => .inl h) (fun _ _ => rfl) hl env.st.one hsp (hargs.holds env (fun x hx => by simp [ho, Op.operands, Call.operands]; right; simpa using hx))
  unfold entersB at hf
  cases hfn : P.funcs[f]? with
  | none => simp [hfn] at hf
  | some fn =>
    simp only [hfn, Bool.and_eq_true, Bool.not_eq_true'] at hf
    have hrun : (execOp ρ o).run P w = .ok (.enter f (xs.map ρ ++ caps)) w := by
      have g1 : ¬ fn.name = "runtime.NumGoroutine" := by simpa using hf.1
      have g2 : ¬ fn.body = none := by intro e; simp [e] at hf
      simp [execOp, ho, resolve, hfv, Deferred.ofValue, invoke, callFunc, hfn, g1, g2]
    rw [hrun]
    show Calls P f (xs.map ρ ++ caps) w _
    rw [show (List.map ρ xs.toList).toArray = xs.map ρ from by rw [← Array.toList_map]] at hc
    refine hc.mono ?_
    rintro en w' ⟨v, rfl, hx, hv⟩
    refine ⟨v, rfl, hx, ?_⟩
    rcases hB with rfl | hB
    · refine AV.ext (fun b hb => ?_) (fun _ _ => rfl) hv
      rcases hb with (h | ⟨h, _⟩) | h
      · exact .inl h
      · cases h
      · exact .inr h
    · exact AV.flat_any out v hB hv

/-- the comparison of fields of plain kinds -/
inductive EqOk : List TK → List AV → List AV → Bool → Prop
  | nil : EqOk [] [] [] true
  | int {k0 k : IntKind} {a b : Int} {ts : List TK} {cs ds : List AV} {r : Bool} (h : EqOk ts cs ds r) : EqOk (.int k0 :: ts) (.lit (.int k a) :: cs) (.lit (.int k b) :: ds) (decide (a = b) && r)
  | bool {a b : Bool} {ts : List TK} {cs ds : List AV} {r : Bool} (h : EqOk ts cs ds r) : EqOk (.bool :: ts) (.lit (.bool a) :: cs) (.lit (.bool b) :: ds) (decide (a = b) && r)
def flatFields (P : Program) (t : TypeId) (ks : List TK) : Bool :=
  (match P.underlying t with | some (.struct _) => true | _ => false) && !(P.stoodInHeld t) && !(P.eqGuardType P.depth t) && ((P.fieldsOf t).toList.map fun f => tkOf P f.type) == ks && ((P.fieldsOf t).toList.all fun f => f.name != "_") && ((P.fieldsOf t).toList.map fun f => f.offset) == List.range ks.length
theorem eqFields_run {d : Nat} : ∀ {ts : List TK} {cs ds : List AV} {r : Bool}, EqOk ts cs ds r → ∀ (fs : List Field) (i : Nat) (xs ys : List Value), (fs.map fun f => tkOf P f.type) = ts → (fs.all fun f => f.name != "_") = true → (fs.map fun f => f.offset) = List.range' i ts.length →
    AV.holdsL S γ w cs (xs.drop i) → AV.holdsL S γ w ds (ys.drop i) → (Op.eqFields (d + 1) xs.toArray ys.toArray fs).run P w = .ok r w := by
  intro ts cs ds r h
  induction h with
  | nil =>
    intro fs i xs ys hk _ _ _ _
    have : fs = [] := by simpa using hk
    subst this; simp [Op.eqFields]
  | @int k0 k a b ts cs ds r h ih =>
    intro fs i xs ys hk hn hoff hx hy
    cases fs with
    | nil => simp at hk
    | cons f fs =>
      simp only [List.map_cons, List.cons.injEq] at hk
      simp only [List.all_cons, Bool.and_eq_true] at hn
      simp only [List.map_cons, List.length_cons, List.range'_succ, List.cons.injEq] at hoff
      simp only [AV.holdsL, AV.holds] at hx hy
      obtain ⟨u, us, hu, rfl, hx'⟩ := hx
      obtain ⟨u', us', hu', rfl, hy'⟩ := hy
      have hxi : xs[i]? = some (.int k a) := by have := congrArg (·[0]?) hu; simpa using this
      have hyi : ys[i]? = some (.int k b) := by have := congrArg (·[0]?) hu'; simpa using this
      have hdx : xs.drop (i + 1) = us := by rw [← List.drop_drop]; rw [hu]; rfl
      have hdy : ys.drop (i + 1) = us' := by rw [← List.drop_drop]; rw [hu']; rfl
      have hund : P.underlying f.type = some (.int k0) := by
        have := hk.1
        unfold tkOf at this
        cases hu : P.underlying f.type with
        | none => rw [hu] at this; cases this
        | some d => rw [hu] at this; cases d <;> simp_all
      have hag : (isAgg f.type).run P w = .ok false w := by simp [isAgg, run_underlying hund]
      have hp1 : (part f.type xs.toArray f.offset).run P w = .ok (.int k a) w := by simp [part, hag, hoff.1, hxi]
      have hp2 : (part f.type ys.toArray f.offset).run P w = .ok (.int k b) w := by simp [part, hag, hoff.1, hyi]
      have hrec := ih fs (i + 1) xs ys hk.2 hn.2 hoff.2 (by rw [hdx]; exact hx') (by rw [hdy]; exact hy')
      have hne : f.name ≠ "_" := by simpa using hn.1
      simp only [Op.eqFields, hne, ne_eq, not_false_eq_true, if_true, Sem.run_bind, hp1, hp2, Result.andThen_ok, run_equalIn_int w d f.type k k0 a b hund]
      by_cases hab : a = b
      · simp [hab, hrec]
      · have : (a == b) = false := by simpa using hab
        simp [hab, this]
  | @bool a b ts cs ds r h ih =>
    intro fs i xs ys hk hn hoff hx hy
    cases fs with
    | nil => simp at hk
    | cons f fs =>
      simp only [List.map_cons, List.cons.injEq] at hk
      simp only [List.all_cons, Bool.and_eq_true] at hn
      simp only [List.map_cons, List.length_cons, List.range'_succ, List.cons.injEq] at hoff
      simp only [AV.holdsL, AV.holds] at hx hy
      obtain ⟨u, us, hu, rfl, hx'⟩ := hx
      obtain ⟨u', us', hu', rfl, hy'⟩ := hy
      have hxi : xs[i]? = some (.bool a) := by have := congrArg (·[0]?) hu; simpa using this
      have hyi : ys[i]? = some (.bool b) := by have := congrArg (·[0]?) hu'; simpa using this
      have hdx : xs.drop (i + 1) = us := by rw [← List.drop_drop]; rw [hu]; rfl
      have hdy : ys.drop (i + 1) = us' := by rw [← List.drop_drop]; rw [hu']; rfl
      have hund : P.underlying f.type = some .bool := by
        have := hk.1
        unfold tkOf at this
        cases hu : P.underlying f.type with
        | none => rw [hu] at this; cases this
        | some d => rw [hu] at this; cases d <;> first | rfl | exact absurd this (by simp)
      have hag : (isAgg f.type).run P w = .ok false w := by simp [isAgg, run_underlying hund]
      have hp1 : (part f.type xs.toArray f.offset).run P w = .ok (.bool a) w := by simp [part, hag, hoff.1, hxi]
      have hp2 : (part f.type ys.toArray f.offset).run P w = .ok (.bool b) w := by simp [part, hag, hoff.1, hyi]
      have hrec := ih fs (i + 1) xs ys hk.2 hn.2 hoff.2 (by rw [hdx]; exact hx') (by rw [hdy]; exact hy')
      have hne : f.name ≠ "_" := by simpa using hn.1
      simp only [Op.eqFields, hne, ne_eq, not_false_eq_true, if_true, Sem.run_bind, hp1, hp2, Result.andThen_ok, run_equalIn_bool' w d f.type a b hund]
      by_cases hab : a = b
      · simp [hab, hrec]
      · have : (a == b) = false := by simpa using hab
        simp [hab, this]
theorem struct_eq_run {t : TypeId} {ks : List TK} {cs ds : List AV} {r : Bool} {xs ys : List Value} (hf : flatFields P t ks = true) (h : EqOk ks cs ds r) (hx : AV.holdsL S γ w cs xs) (hy : AV.holdsL S γ w ds ys) (x y : Operand) (op : BinOp) :
    (eqGuard op t x y (.agg xs.toArray) (.agg ys.toArray)).run P w = .ok () w ∧ (Op.equalIn 10000 t (.agg xs.toArray) (.agg ys.toArray)).run P w = .ok r w := by
  unfold flatFields at hf
  simp only [Bool.and_eq_true, beq_iff_eq, Bool.not_eq_true'] at hf
  obtain ⟨⟨⟨⟨⟨h1, h2⟩, h3⟩, h4⟩, h5⟩, h6⟩ := hf
  have hu : P.underlying t = some (.struct (P.fieldsOf t)) := by
    unfold Program.fieldsOf
    cases hu : P.underlying t with
    | none => simp [hu] at h1
    | some d => cases d <;> simp_all
  refine ⟨run_eqGuard_agg w op t x y _ _ h3, ?_⟩
  rw [run_equalIn_agg w 9999 t _ _ hu h2]
  exact eqFields_run (d := 9998) h _ 0 xs ys h4 h5 (by rw [h6, List.range_eq_range']) (by simpa using hx) (by simpa using hy)
theorem sop_eql_struct {x y : Operand} {t t' : TypeId} {ks : List TK} {cs ds : List AV} {r : Bool} (ho : o.op = .binOp .eql t x y t' := by rfl) (hx : Opv fr x (.agg cs) := by first | exact .un rfl (by first | assumption | exact And.left (by assumption) | exact And.left (And.left (by assumption)) | exact And.left (And.left (And.left (by assumption)))) | exact .of rfl) (hy : Opv fr y (.agg ds) := by first | exact .un rfl (by first | assumption | exact And.left (by assumption) | exact And.left (And.left (by assumption)) | exact And.left (And.left (And.left (by assumption)))) | exact .of rfl) (hf : flatFields P t ks = true := by kernel_rfl) (he : EqOk ks cs ds r := by repeat (first | exact EqOk.nil | apply EqOk.int | apply EqOk.bool)) : SOp P o fr H (.lit (.bool r)) := fun S γ w ρ h => by
  have h1 := h.get hx (by simp [ho, Op.operands])
  have h2 := h.get hy (by simp [ho, Op.operands])
  simp only [AV.holds] at h1 h2
  obtain ⟨xs, hxv, hx'⟩ := h1
  obtain ⟨ys, hyv, hy'⟩ := h2
  obtain ⟨g1, g2⟩ := struct_eq_run hf he hx' hy' x y .eql
  refine outl ?_
  simp only [execOp, ho, hxv, hyv, Sem.run_bind, g1, Result.andThen_ok, run_eql_struct, g2, Sem.run_pure]
theorem sop_neq_struct {x y : Operand} {t t' : TypeId} {ks : List TK} {cs ds : List AV} {r : Bool} (ho : o.op = .binOp .neq t x y t' := by rfl) (hx : Opv fr x (.agg cs) := by first | exact .un rfl (by first | assumption | exact And.left (by assumption) | exact And.left (And.left (by assumption)) | exact And.left (And.left (And.left (by assumption)))) | exact .of rfl) (hy : Opv fr y (.agg ds) := by first | exact .un rfl (by first | assumption | exact And.left (by assumption) | exact And.left (And.left (by assumption)) | exact And.left (And.left (And.left (by assumption)))) | exact .of rfl) (hf : flatFields P t ks = true := by kernel_rfl) (he : EqOk ks cs ds r := by repeat (first | exact EqOk.nil | apply EqOk.int | apply EqOk.bool)) : SOp P o fr H (.lit (.bool (!r))) := fun S γ w ρ h => by
  have h1 := h.get hx (by simp [ho, Op.operands])
  have h2 := h.get hy (by simp [ho, Op.operands])
  simp only [AV.holds] at h1 h2
  obtain ⟨xs, hxv, hx'⟩ := h1
  obtain ⟨ys, hyv, hy'⟩ := h2
  obtain ⟨g1, g2⟩ := struct_eq_run hf he hx' hy' x y .neq
  refine outl ?_
  simp only [execOp, ho, hxv, hyv, Sem.run_bind, g1, Result.andThen_ok, run_neq_struct, g2, Sem.run_pure]

section
variable {x y : Operand} {t t' : TypeId} {k k' : IntKind} {a b : Int}
theorem sop_rem (ho : o.op = .binOp .rem t x y t' := by rfl) (hx : Opv fr x (.lit (.int k a)) := by first | exact .un rfl (by first | assumption | exact And.left (by assumption) | exact And.left (And.left (by assumption)) | exact And.left (And.left (And.left (by assumption)))) | exact .of rfl) (hy : Opv fr y (.lit (.int k b)) := by first | exact .un rfl (by first | assumption | exact And.left (by assumption) | exact And.left (And.left (by assumption)) | exact And.left (And.left (And.left (by assumption)))) | exact .of rfl) (hb : b ≠ 0 := by first | omega | (simp only [List.length_append, List.length_cons, List.length_nil, List.length_take, List.length_drop, List.length_replicate, List.length_map, List.length_set]; omega)) : SOp P o fr H (.lit (.int k (a.tmod b))) := fun S γ w ρ h => by
  refine outl ?_
  rw [run_bin ho (h.lit hx (by simp [ho, Op.operands])) (h.lit hy (by simp [ho, Op.operands])) (by simp) (by simp)]
  simp [binOp, Op.intDiv, hb]
theorem sop_rem_in (ho : o.op = .binOp .rem t x y t' := by rfl) (hx : Opv fr x (.lit (.int k a)) := by first | exact .un rfl (by first | assumption | exact And.left (by assumption) | exact And.left (And.left (by assumption)) | exact And.left (And.left (And.left (by assumption)))) | exact .of rfl) (hy : Opv fr y (.lit (.int k b)) := by first | exact .un rfl (by first | assumption | exact And.left (by assumption) | exact And.left (And.left (by assumption)) | exact And.left (And.left (And.left (by assumption)))) | exact .of rfl) (ha : 0 ≤ a := by first | omega | (simp only [List.length_append, List.length_cons, List.length_nil, List.length_take, List.length_drop, List.length_replicate, List.length_map, List.length_set]; omega)) (hb : 0 < b := by first | omega | (simp only [List.length_append, List.length_cons, List.length_nil, List.length_take, List.length_drop, List.length_replicate, List.length_map, List.length_set]; omega)) : SOp P o fr H (.lit (.int k (a % b))) :=
  sop_cast (sop_rem ho hx hy (by omega)) (by rw [Int.tmod_eq_emod_of_nonneg ha])
theorem sop_quo (ho : o.op = .binOp .quo t x y t' := by rfl) (hx : Opv fr x (.lit (.int k a)) := by first | exact .un rfl (by first | assumption | exact And.left (by assumption) | exact And.left (And.left (by assumption)) | exact And.left (And.left (And.left (by assumption)))) | exact .of rfl) (hy : Opv fr y (.lit (.int k b)) := by first | exact .un rfl (by first | assumption | exact And.left (by assumption) | exact And.left (And.left (by assumption)) | exact And.left (And.left (And.left (by assumption)))) | exact .of rfl) (hb : b ≠ 0 := by first | omega | (simp only [List.length_append, List.length_cons, List.length_nil, List.length_take, List.length_drop, List.length_replicate, List.length_map, List.length_set]; omega)) : SOp P o fr H (.lit (.int k (k.wrap (a.tdiv b)))) := fun S γ w ρ h => by
  refine outl ?_
  rw [run_bin ho (h.lit hx (by simp [ho, Op.operands])) (h.lit hy (by simp [ho, Op.operands])) (by simp) (by simp)]
  simp [binOp, Op.intDiv, hb]
theorem sop_quo_in (ho : o.op = .binOp .quo t x y t' := by rfl) (hx : Opv fr x (.lit (.int .i64 a)) := by first | exact .un rfl (by first | assumption | exact And.left (by assumption) | exact And.left (And.left (by assumption)) | exact And.left (And.left (And.left (by assumption)))) | exact .of rfl) (hy : Opv fr y (.lit (.int .i64 b)) := by first | exact .un rfl (by first | assumption | exact And.left (by assumption) | exact And.left (And.left (by assumption)) | exact And.left (And.left (And.left (by assumption)))) | exact .of rfl) (ha : 0 ≤ a := by first | omega | (simp only [List.length_append, List.length_cons, List.length_nil, List.length_take, List.length_drop, List.length_replicate, List.length_map, List.length_set]; omega)) (hb : 0 < b := by first | omega | (simp only [List.length_append, List.length_cons, List.length_nil, List.length_take, List.length_drop, List.length_replicate, List.length_map, List.length_set]; omega)) (hm : a ≤ 9223372036854775807 := by first | omega | (simp only [List.length_append, List.length_cons, List.length_nil, List.length_take, List.length_drop, List.length_replicate, List.length_map, List.length_set]; omega)) : SOp P o fr H (.lit (.int .i64 (a / b))) :=
  sop_cast (sop_quo ho hx hy (by omega)) (by
    rw [Int.tdiv_eq_ediv_of_nonneg ha, wrap_i64_in]
    have := Int.ediv_nonneg ha (Int.le_of_lt hb)
    have := Int.ediv_le_self b ha
    omega)
theorem run_shift {op : BinOp} (hop : op = .shl ∨ op = .shr) (ho : o.op = .binOp op t x y t') {ρ : Operand → Value} (hx : ρ x = .int k a) (hy : ρ y = .int k' b) : (execOp ρ o).run P w = ((Op.shift op k a k' b).run P w).andThen fun r w => .ok (.value r) w := by
  rcases hop with rfl | rfl <;> simp [execOp, ho, hx, hy, eqGuard, binOp]
theorem sop_shr (ho : o.op = .binOp .shr t x y t' := by rfl) (hx : Opv fr x (.lit (.int k a)) := by first | exact .un rfl (by first | assumption | exact And.left (by assumption) | exact And.left (And.left (by assumption)) | exact And.left (And.left (And.left (by assumption)))) | exact .of rfl) (hy : Opv fr y (.lit (.int k' b)) := by first | exact .un rfl (by first | assumption | exact And.left (by assumption) | exact And.left (And.left (by assumption)) | exact And.left (And.left (And.left (by assumption)))) | exact .of rfl) (hb : 0 ≤ b := by first | omega | (simp only [List.length_append, List.length_cons, List.length_nil, List.length_take, List.length_drop, List.length_replicate, List.length_map, List.length_set]; omega)) : SOp P o fr H (.lit (.int k (a.fdiv (2 ^ (min b.toNat k.bits))))) := fun S γ w ρ h => by
  refine outl ?_
  rw [run_shift (.inr rfl) ho (h.lit hx (by simp [ho, Op.operands])) (h.lit hy (by simp [ho, Op.operands]))]
  simp [Op.shift, show ¬ b < 0 by omega]
theorem sop_shl (ho : o.op = .binOp .shl t x y t' := by rfl) (hx : Opv fr x (.lit (.int k a)) := by first | exact .un rfl (by first | assumption | exact And.left (by assumption) | exact And.left (And.left (by assumption)) | exact And.left (And.left (And.left (by assumption)))) | exact .of rfl) (hy : Opv fr y (.lit (.int k' b)) := by first | exact .un rfl (by first | assumption | exact And.left (by assumption) | exact And.left (And.left (by assumption)) | exact And.left (And.left (And.left (by assumption)))) | exact .of rfl) (hb : 0 ≤ b := by first | omega | (simp only [List.length_append, List.length_cons, List.length_nil, List.length_take, List.length_drop, List.length_replicate, List.length_map, List.length_set]; omega)) : SOp P o fr H (.lit (.int k (k.wrap (a * 2 ^ (min b.toNat k.bits))))) := fun S γ w ρ h => by
  refine outl ?_
  rw [run_shift (.inl rfl) ho (h.lit hx (by simp [ho, Op.operands])) (h.lit hy (by simp [ho, Op.operands]))]
  simp [Op.shift, show ¬ b < 0 by omega]
theorem sop_and (ho : o.op = .binOp .and t x y t' := by rfl) (hx : Opv fr x (.lit (.int k a)) := by first | exact .un rfl (by first | assumption | exact And.left (by assumption) | exact And.left (And.left (by assumption)) | exact And.left (And.left (And.left (by assumption)))) | exact .of rfl) (hy : Opv fr y (.lit (.int k b)) := by first | exact .un rfl (by first | assumption | exact And.left (by assumption) | exact And.left (And.left (by assumption)) | exact And.left (And.left (And.left (by assumption)))) | exact .of rfl) : SOp P o fr H (.lit (.int k (bits .and k a b))) := fun S γ w ρ h => by
  refine outl ?_
  rw [run_bin ho (h.lit hx (by simp [ho, Op.operands])) (h.lit hy (by simp [ho, Op.operands])) (by simp) (by simp)]
  simp [go_sem]
theorem sop_or (ho : o.op = .binOp .or t x y t' := by rfl) (hx : Opv fr x (.lit (.int k a)) := by first | exact .un rfl (by first | assumption | exact And.left (by assumption) | exact And.left (And.left (by assumption)) | exact And.left (And.left (And.left (by assumption)))) | exact .of rfl) (hy : Opv fr y (.lit (.int k b)) := by first | exact .un rfl (by first | assumption | exact And.left (by assumption) | exact And.left (And.left (by assumption)) | exact And.left (And.left (And.left (by assumption)))) | exact .of rfl) : SOp P o fr H (.lit (.int k (bits .or k a b))) := fun S γ w ρ h => by
  refine outl ?_
  rw [run_bin ho (h.lit hx (by simp [ho, Op.operands])) (h.lit hy (by simp [ho, Op.operands])) (by simp) (by simp)]
  simp [go_sem]
theorem sop_xor (ho : o.op = .binOp .xor t x y t' := by rfl) (hx : Opv fr x (.lit (.int k a)) := by first | exact .un rfl (by first | assumption | exact And.left (by assumption) | exact And.left (And.left (by assumption)) | exact And.left (And.left (And.left (by assumption)))) | exact .of rfl) (hy : Opv fr y (.lit (.int k b)) := by first | exact .un rfl (by first | assumption | exact And.left (by assumption) | exact And.left (And.left (by assumption)) | exact And.left (And.left (And.left (by assumption)))) | exact .of rfl) : SOp P o fr H (.lit (.int k (bits .xor k a b))) := fun S γ w ρ h => by
  refine outl ?_
  rw [run_bin ho (h.lit hx (by simp [ho, Op.operands])) (h.lit hy (by simp [ho, Op.operands])) (by simp) (by simp)]
  simp [go_sem]
theorem sop_neg (ho : o.op = .unOp .neg t x := by rfl) (hx : Opv fr x (.lit (.int k a)) := by first | exact .un rfl (by first | assumption | exact And.left (by assumption) | exact And.left (And.left (by assumption)) | exact And.left (And.left (And.left (by assumption)))) | exact .of rfl) : SOp P o fr H (.lit (.int k (k.wrap (0 - a)))) := fun S γ w ρ h => by
  refine outl ?_
  have := h.lit hx (by simp [ho, Op.operands])
  simp [execOp, ho, this, Op.unary, Op.intArith]
theorem sop_min2 {ts : Array TypeId} (ho : o.op = .call { callee := .builtin .min, args := #[x, y], argTypes := ts } := by rfl) (hx : Opv fr x (.lit (.int k a)) := by first | exact .un rfl (by first | assumption | exact And.left (by assumption) | exact And.left (And.left (by assumption)) | exact And.left (And.left (And.left (by assumption)))) | exact .of rfl) (hy : Opv fr y (.lit (.int k b)) := by first | exact .un rfl (by first | assumption | exact And.left (by assumption) | exact And.left (And.left (by assumption)) | exact And.left (And.left (And.left (by assumption)))) | exact .of rfl) : SOp P o fr H (.lit (.int k (if b < a then b else a))) := fun S γ w ρ h => by
  refine outl ?_
  have h1 := h.lit hx (by simp [ho, Op.operands, Call.operands])
  have h2 := h.lit hy (by simp [ho, Op.operands, Call.operands])
  simp [execOp, ho, resolve, invoke, builtin, Builtin.min_, Builtin.min2, h1, h2]
theorem sop_max2 {ts : Array TypeId} (ho : o.op = .call { callee := .builtin .max, args := #[x, y], argTypes := ts } := by rfl) (hx : Opv fr x (.lit (.int k a)) := by first | exact .un rfl (by first | assumption | exact And.left (by assumption) | exact And.left (And.left (by assumption)) | exact And.left (And.left (And.left (by assumption)))) | exact .of rfl) (hy : Opv fr y (.lit (.int k b)) := by first | exact .un rfl (by first | assumption | exact And.left (by assumption) | exact And.left (And.left (by assumption)) | exact And.left (And.left (And.left (by assumption)))) | exact .of rfl) : SOp P o fr H (.lit (.int k (if a < b then b else a))) := fun S γ w ρ h => by
  refine outl ?_
  have h1 := h.lit hx (by simp [ho, Op.operands, Call.operands])
  have h2 := h.lit hy (by simp [ho, Op.operands, Call.operands])
  simp [execOp, ho, resolve, invoke, builtin, Builtin.max_, Builtin.max2, h1, h2]
end
end
end Go.Proofs.Ytjmcbacdogjdeaa
