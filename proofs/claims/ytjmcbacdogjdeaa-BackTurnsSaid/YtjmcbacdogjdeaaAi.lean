/- Elements of one's own slices; slices of parts; parts of aggregates. Nothing of the program stands here. -/
import Derived.Test.YtjmcbacdogjdeaaAh
namespace Go.Proofs.Ytjmcbacdogjdeaa
open Go Go.RowKit
set_option linter.unusedVariables false

theorem take_setAll {α : Type} : ∀ (us l : List α) (off m : Nat), (setAll l off us).take m = setAll (l.take m) off us
  | [], l, off, m => rfl
  | u :: us, l, off, m => by
    simp only [setAll]
    rw [take_setAll us, List.take_set]
theorem setAll_mid {α : Type} : ∀ (ds A B C : List α) (f : Nat), f + ds.length ≤ B.length → setAll (A ++ (B ++ C)) (A.length + f) ds = A ++ (setAll B f ds ++ C)
  | [], A, B, C, f, _ => rfl
  | d :: ds, A, B, C, f, h => by
    have h' : f + (ds.length + 1) ≤ B.length := h
    simp only [setAll]
    rw [List.set_append_right _ _ (by omega), Nat.add_sub_cancel_left, List.set_append_left _ _ (by omega), Nat.add_assoc]
    exact setAll_mid ds A (B.set f d) C (f + 1) (by simp; omega)
section
variable {P : Program} {T : List (Nat × TI)} {c : Ctx} {n : Nat} {Q : AQ} {fr : List (Nat × AV)} {H : List (Nat × Res)} {ops : Array Oper} {rest : List Oper} {o : Oper}
variable {S : Nat → Prop} {γ : Nat → Value} {tmps : Array Value} {w : World}
variable {α : Type} {E : Enc α} {xs : List α}
theorem Enc.all_split (E : Enc α) (xs : List α) (k : Nat) (h : k < xs.length) : E.all xs = E.all (xs.take k) ++ (E.cells xs[k] ++ E.all (xs.drop (k + 1))) := by
  conv => lhs; rw [← List.take_append_drop k xs, Enc.all_append, List.drop_eq_getElem_cons h]
  rfl
theorem Enc.all_set (E : Enc α) (xs : List α) (k f : Nat) (h : k < xs.length) (x : α) (ds : List AV) (hf : f + ds.length ≤ E.size) (hx : E.cells x = setAll (E.cells xs[k]) f ds) : E.all (xs.set k x) = setAll (E.all xs) (k * E.size + f) ds := by
  have hl : (E.all (xs.take k)).length = k * E.size := by rw [Enc.all_len, List.length_take, Nat.min_eq_left (by omega)]
  rw [E.all_split xs k h, ← hl, setAll_mid _ _ _ _ _ (by rw [E.len]; exact hf), ← hx]
  rw [E.all_split (xs.set k x) k (by simpa using h)]
  rw [List.take_set_of_le (by omega), List.getElem_set_self, List.drop_set_of_lt (by omega)]
theorem own_form {j e : Nat} (hs : St S γ w H) (hj : look H j = some (.own e E xs)) (h0 : 0 < xs.length) :
    ∃ g cp cur vs, γ j = .slice (some ⟨g, 0, none⟩) xs.length (cp + 1) ∧ rblk (γ j) = some g ∧ gof (γ j) = some g ∧ w.heap[g]? = some (.cells cur e (0, 0)) ∧ xs.length ≤ cp + 1 ∧ cp + 1 ≤ maxLen ∧ (cp + 1) * E.size ≤ cur.size ∧ cur.toList.take (xs.length * E.size) = vs ∧ AV.holdsL S noγ w (E.all xs) vs ∧ ∀ u ∈ vs, u.oneCell' = true := by
  obtain ⟨vs, ho, hh, h1⟩ := hs.res j _ hj
  obtain ⟨_, A, c, hv, ⟨hz, _⟩ | ⟨g, cur, rfl, _, hg, hnc, hcm, hcs, ht⟩⟩ := ho
  · omega
  · cases c with
    | zero => omega
    | succ c => exact ⟨g, c, cur, vs, hv, by rw [hv]; rfl, by rw [hv]; rfl, hg, hnc, hcm, hcs, ht, hh, h1⟩
theorem sop_index_own [Inhabited α] {x y : Operand} {t e e' s b j k : Nat} {ei : TI} {m : Int} {kd : IntKind} (ho : o.op = .indexAddr t x y := by rfl) (hT : TTOk P T := by assumption) (ht : look T t = some ⟨.slice e, s, b⟩ := by rfl) (he : look T e = some ei := by rfl)
    (hx : Opv fr x (.own j) := by first | exact .un rfl (by first | assumption | exact And.left (by assumption) | exact And.left (And.left (by assumption)) | exact And.left (And.left (And.left (by assumption)))) | exact .of rfl) (hj : look H j = some (.own e' E xs) := by rfl) (hy : Opv fr y (.lit (.int kd m)) := by first | exact .un rfl (by first | assumption | exact And.left (by assumption) | exact And.left (And.left (by assumption)) | exact And.left (And.left (And.left (by assumption)))) | exact .of rfl) (hm : m = (k : Int) := by first | rfl | omega) (hk : k < xs.length := by first | omega | (simp only [List.length_append, List.length_cons, List.length_nil, List.length_take, List.length_drop, List.length_replicate, List.length_map, List.length_set]; omega)) (hs : ei.size = E.size := by rfl) : SOp P o fr H (.ptr j (k * E.size + 0)) := fun S γ w ρ h => by
  have h1 := h.get hx (by simp [ho, Op.operands])
  have h2 := h.lit hy (by simp [ho, Op.operands])
  simp only [AV.holds] at h1
  obtain ⟨g, cp, cur, vs, hv, _, hgo, _⟩ := own_form h.st hj (by omega)
  refine outs (v := .pointer (some ⟨g, k * E.size + 0, none⟩)) ?_ (by simp only [AV.holds]; exact ⟨g, hgo, rfl⟩)
  subst hm
  rw [hv] at h1
  simp [execOp, ho, Instr.indexAt, h1, h2, asIntOf, run_underlying (hT.slice ht), hk, hT.size he, hs, addr_add_ne]
theorem own_cell [Inhabited α] {j e k f : Nat} {d : AV} (hs : St S γ w H) (hj : look H j = some (.own e E xs)) (hk : k < xs.length) {g : Nat} (hg : gof (γ j) = some g) (hd : (E.cells (nth xs k))[f]? = some d) : ∃ v, w.cell? ⟨g, k * E.size + f, none⟩ = some v ∧ d.holds S noγ w v := by
  obtain ⟨g', cp, cur, vs, hv, _, hgo, hh, hnc, _, hcs, ht, hc, _⟩ := own_form hs hj (by omega)
  rw [hgo] at hg
  simp only [Option.some.injEq] at hg; subst hg
  have hf : f < E.size := by
    have := (List.getElem?_eq_some_iff.1 hd).1
    rwa [E.len] at this
  have hidx : (E.all xs)[k * E.size + f]? = some d := by
    have hl : (E.all (xs.take k)).length = k * E.size := by rw [Enc.all_len, List.length_take, Nat.min_eq_left (by omega)]
    rw [E.all_split xs k hk, List.getElem?_append_right (by rw [hl]; omega), hl, Nat.add_sub_cancel_left, List.getElem?_append_left (by rw [E.len]; exact hf), ← nth_eq hk]
    exact hd
  obtain ⟨v, hv2, hdv⟩ := AV.holdsL_get hc _ d hidx
  refine ⟨v, ?_, hdv⟩
  rw [cell_of_row w g' _ _ _ _ hh, ← Array.getElem?_toList]
  rw [← ht, List.getElem?_take] at hv2
  split at hv2
  · exact hv2
  · cases hv2
theorem sop_load_own [Inhabited α] {x : Operand} {t j e k f : Nat} {ti : TI} {d : AV} (ho : o.op = .load t x := by rfl) (hT : TTOk P T := by assumption) (ht : look T t = some ti := by rfl) (ha : ti.kind.agg = false := by rfl) (hx : Opv fr x (.ptr j (k * E.size + f)) := by first | exact .un rfl (by first | assumption | exact And.left (by assumption) | exact And.left (And.left (by assumption)) | exact And.left (And.left (And.left (by assumption)))) | exact .of rfl) (hj : look H j = some (.own e E xs) := by rfl) (hk : k < xs.length := by first | omega | (simp only [List.length_append, List.length_cons, List.length_nil, List.length_take, List.length_drop, List.length_replicate, List.length_map, List.length_set]; omega)) (hd : (E.cells (nth xs k))[f]? = some d := by rfl) (hp : d.uses (fun _ => false) = true := by rfl) : SOp P o fr H d := fun S γ w ρ h => by
  have h1 := h.get hx (by simp [ho, Op.operands])
  simp only [AV.holds] at h1
  obtain ⟨g, hg, hv⟩ := h1
  obtain ⟨v, hc, hdv⟩ := own_cell h.st hj hk hg hd
  refine outs (v := v) ?_ (AV.mono (fun _ h => h) (fun _ _ => rfl) (fun _ => false) (fun _ h => by cases h) d v hp hdv)
  simp only [execOp, ho, Instr.loadAt, hv, Instr.sureAddr, Sem.run_bind, Sem.run_pure, Result.andThen_ok, load_run1 hT ht ha hc]
theorem sop_load_own1 [Inhabited α] {x : Operand} {t j e k f0 f : Nat} {ti : TI} {d : AV} (ho : o.op = .load t x := by rfl) (hT : TTOk P T := by assumption) (ht : look T t = some ti := by rfl) (ha : ti.kind.agg = false := by rfl) (hx : Opv fr x (.ptr j (k * E.size + f0 + f)) := by first | exact .un rfl (by first | assumption | exact And.left (by assumption) | exact And.left (And.left (by assumption)) | exact And.left (And.left (And.left (by assumption)))) | exact .of rfl) (hj : look H j = some (.own e E xs) := by rfl) (hk : k < xs.length := by first | omega | (simp only [List.length_append, List.length_cons, List.length_nil, List.length_take, List.length_drop, List.length_replicate, List.length_map, List.length_set]; omega)) (hd : (E.cells (nth xs k))[f0 + f]? = some d := by rfl) (hp : d.uses (fun _ => false) = true := by rfl) : SOp P o fr H d :=
  sop_load_own ho hT ht ha (by rwa [Nat.add_assoc] at hx) hj hk hd hp
theorem sop_load_own_agg [Inhabited α] {x : Operand} {t j e k : Nat} {ti : TI} (ho : o.op = .load t x := by rfl) (hT : TTOk P T := by assumption) (ht : look T t = some ti := by rfl) (ha : ti.kind.agg = true := by rfl) (hx : Opv fr x (.ptr j (k * E.size + 0)) := by first | exact .un rfl (by first | assumption | exact And.left (by assumption) | exact And.left (And.left (by assumption)) | exact And.left (And.left (And.left (by assumption)))) | exact .of rfl) (hj : look H j = some (.own e E xs) := by rfl) (hk : k < xs.length := by first | omega | (simp only [List.length_append, List.length_cons, List.length_nil, List.length_take, List.length_drop, List.length_replicate, List.length_map, List.length_set]; omega)) (hs : ti.size = E.size := by rfl) : SOp P o fr H (.agg (E.cells (nth xs k))) := fun S γ w ρ h => by
  have h1 := h.get hx (by simp [ho, Op.operands])
  simp only [AV.holds] at h1
  obtain ⟨g, hg, hv⟩ := h1
  obtain ⟨g', cp, cur, vs, hgv, _, hgo, hh, hnc, _, hcs, htk, hc, _⟩ := own_form h.st hj (by omega)
  rw [hgo] at hg
  simp only [Option.some.injEq] at hg; subst hg
  have hlen := AV.holdsL_len hc
  rw [Enc.all_len] at hlen
  have hpos : k * E.size + E.size ≤ xs.length * E.size := by
    have := Nat.mul_le_mul_right E.size (show k + 1 ≤ xs.length from hk)
    rwa [Nat.add_mul, Nat.one_mul] at this
  refine outs (v := .agg ((vs.drop (k * E.size)).take E.size).toArray) ?_ ?_
  · simp only [execOp, ho, Instr.loadAt, hv, Instr.sureAddr, Sem.run_bind, Sem.run_pure, Result.andThen_ok]
    rw [load_run hT ht ha (vs := (vs.drop (k * E.size)).take E.size) (by rw [List.length_take, List.length_drop, hs]; omega)]
    · rfl
    intro i u hu
    rw [addr_add_ne, cell_of_row w g' _ _ _ _ hh, ← Array.getElem?_toList]
    rw [List.getElem?_take] at hu
    split at hu
    · rw [List.getElem?_drop, ← htk, List.getElem?_take] at hu
      split at hu
      · exact hu
      · cases hu
    · cases hu
  · simp only [AV.holds]
    refine ⟨_, rfl, ?_⟩
    have := AV.holdsL_drop hc (k * E.size)
    rw [Enc.all_at E xs k hk] at this
    have := (AV.holdsL_split this).1
    rw [E.len] at this
    rw [nth_eq hk]
    exact plainL (E.plain _) this
theorem ao_store_own [Inhabited α] {x y : Operand} {t j e k f : Nat} {ti : TI} {ds : List AV} {a : AV} {x' : α} (hg : o.guard = none := by rfl) (hd : o.dst = none := by rfl) (ho : o.op = .store t x y := by rfl) (hT : TTOk P T := by assumption) (ht : look T t = some ti := by rfl) (hx : Opv fr x (.ptr j (k * E.size + f)) := by first | exact .un rfl (by first | assumption | exact And.left (by assumption) | exact And.left (And.left (by assumption)) | exact And.left (And.left (And.left (by assumption)))) | exact .of rfl) (hj : look H j = some (.own e E xs) := by rfl) (hk : k < xs.length := by first | omega | (simp only [List.length_append, List.length_cons, List.length_nil, List.length_take, List.length_drop, List.length_replicate, List.length_map, List.length_set]; omega))
    (hy : Opv fr y a := by first | exact .un rfl (by first | assumption | exact And.left (by assumption) | exact And.left (And.left (by assumption)) | exact And.left (And.left (And.left (by assumption)))) | exact .of rfl) (hc : cellsOf a = some ds := by rfl) (h1 : AV.allOneL ds = true := by rfl) (hu : AV.usesL (fun _ => false) ds = true := by rfl) (hl : Nat.beq ds.length ti.size = true := by rfl) (hb : Nat.ble (f + ti.size) E.size = true := by rfl) (hx' : E.cells x' = setAll (E.cells (nth xs k)) f ds := by rfl)
    (next : AOps P c n ops rest Q fr ((j, .own e E (xs.set k x')) :: dropH (one1 j) H)) : AOps P c n ops (o :: rest) Q fr H := fun S γ tmps w hr => by
  refine ao_plain hg ?_
  have env := hr.env (ds := []) (fun _ => True)
  have hxv := env.get hx trivial
  have hyv := env.get hy trivial
  simp only [AV.holds] at hxv
  obtain ⟨g, hg', hxv⟩ := hxv
  obtain ⟨g', cp, cur, vs, hgv, hrb, hgo, hh, hnc, hcm, hcs, htk, hcc, hv1⟩ := own_form hr.st hj (by omega)
  rw [hgo] at hg'
  simp only [Option.some.injEq] at hg'; subst hg'
  have hds := cellsOf_holds hr.st.one hc hyv
  have hl' : ds.length = ti.size := Nat.eq_of_beq_eq_true hl
  have hb' : f + ti.size ≤ E.size := Nat.le_of_ble_eq_true hb
  have hlv := AV.holdsL_len hds
  have hpos : k * E.size + E.size ≤ xs.length * E.size := by
    have := Nat.mul_le_mul_right E.size (show k + 1 ≤ xs.length from hk)
    rwa [Nat.add_mul, Nat.one_mul] at this
  have hcap : xs.length * E.size ≤ (cp + 1) * E.size := Nat.mul_le_mul_right _ hnc
  have hone := allOne_of (hγ := hr.st.one) h1 hds
  obtain ⟨w', h2, h3, h4, h5⟩ := storeCells_run (P := P) (off := k * E.size + f) (Act.eval ⟨tmps, []⟩ y).cells.toList 0 cur w hh hone (by omega)
  have hrun : (execOp (Act.eval ⟨tmps, []⟩) o).run P w = .ok .skip w' := by
    have hsz : (Act.eval ⟨tmps, []⟩ y).cells.size = ti.size := by
      rw [← Array.length_toList, hlv, hl']
    simp only [execOp, ho, Instr.storeAt, hxv, Instr.sureAddr, storeVar, Sem.run_bind, Sem.run_pure, Result.andThen_ok, hT.size ht, hsz, ne_eq, not_true_eq_false, if_false, h2]
  rw [hrun]
  have hput : (Act.put ⟨tmps, []⟩ o.dst undef) = ⟨tmps, []⟩ := by rw [hd]; rfl
  show wpList P ops (lift c n Q) rest (Act.put ⟨tmps, []⟩ o.dst undef) w'
  rw [hput]
  have hsame : Same S w w' := fun b hs => h3.block b (hr.st.sz b hs) (fun e => by subst e; exact hr.st.live j _ b hj hrb hs)
  have hnew : AV.holdsL S noγ w' (E.all (xs.set k x')) (setAll vs (k * E.size + f) (Act.eval ⟨tmps, []⟩ y).cells.toList) := by
    rw [E.all_set xs k f hk x' ds (by omega) (by rw [hx', nth_eq hk])]
    exact AV.extL (fun _ h => h) hsame (holdsL_setAll _ (plainL hu hds) hcc)
  refine next S γ tmps w' (hr.same1 j hj ⟨h3.os, h3.tape, h3.output, h3.size, fun b hb hn => h3.block b hb (fun e => hn (by rw [hrb, e]))⟩ ⟨setAll vs (k * E.size + f) (Act.eval ⟨tmps, []⟩ y).cells.toList, ⟨?_, _, cp + 1, hgv.trans (by simp), .inr ⟨g', _, rfl, Nat.zero_le _, h4, by simpa using hnc, hcm, ?_, ?_⟩⟩, hnew, ?_⟩)
  · have := AV.holdsL_len hnew
    rw [Enc.all_len] at this
    exact this
  · simp only [List.size_toArray, setAll_len, Array.length_toList]; exact hcs
  · simp only [Nat.add_zero]
    rw [take_setAll, List.length_set, htk]
  · have key : ∀ (us l : List Value) (off : Nat), (∀ u ∈ l, u.oneCell' = true) → (∀ u ∈ us, u.oneCell' = true) → ∀ u ∈ setAll l off us, u.oneCell' = true := by
      intro us
      induction us with
      | nil => intro l off hl _ u hu; exact hl u hu
      | cons a us ih =>
        intro l off hl hus u hu
        refine ih (l.set off a) (off + 1) ?_ (fun u hu => hus u (List.mem_cons_of_mem _ hu)) u hu
        intro v hv
        rcases List.mem_or_eq_of_mem_set hv with h | rfl
        · exact hl v h
        · exact hus v List.mem_cons_self
    exact key _ _ _ hv1 hone

/-- the operands of a literal slice, in their order -/
inductive PartsOk (fr : List (Nat × AV)) (E : Enc α) : Nat → List (Nat × Operand) → List α → Prop
  | nil {i : Nat} : PartsOk fr E i [] []
  | cons {i : Nat} {x : Operand} {a : AV} {cs : List AV} {y : α} {ps : List (Nat × Operand)} {ys : List α} (h : Opv fr x a) (hc : cellsOf a = some cs) (he : E.cells y = cs) (hr : PartsOk fr E (i + 1) ps ys) : PartsOk fr E i ((i, x) :: ps) (y :: ys)
theorem PartsOk.consR {i : Nat} {x : Operand} {a : AV} {cs : List AV} {ps : List (Nat × Operand)} {ys : List α} (h : Opv fr x a) (hc : cellsOf a = some cs) (he : E.cells (E.read cs) = cs) (hr : PartsOk fr E (i + 1) ps ys) : PartsOk fr E i ((i, x) :: ps) (E.read cs :: ys) := .cons h hc he hr
theorem foldl_zip_set (off : Nat) : ∀ (us : List Value) (i : Nat) (cs : Array Value), ((us.zipIdx i).foldl (fun cs (p : Value × Nat) => cs.setIfInBounds (off + p.2) p.1) cs).toList = setAll cs.toList (off + i) us
  | [], i, cs => rfl
  | u :: us, i, cs => by
    rw [List.zipIdx_cons, List.foldl_cons, foldl_zip_set off us (i + 1)]
    simp only [setAll, Array.toList_setIfInBounds, Nat.add_assoc]
theorem setAll_all {α : Type} : ∀ (ds A B : List α), ds.length = B.length → setAll (A ++ B) A.length ds = A ++ ds
  | [], A, B, h => by
    have : B = [] := List.eq_nil_of_length_eq_zero (by simpa using h.symm)
    subst this; rfl
  | d :: ds, A, [], h => by simp at h
  | d :: ds, A, b :: B, h => by
    simp only [setAll]
    rw [List.set_append_right _ _ (Nat.le_refl _), Nat.sub_self, List.set_cons_zero]
    have := setAll_all ds (A ++ [d]) B (by simpa using h)
    simpa using this
theorem fill_parts {size : Nat} : ∀ (vs : List Value) (i : Nat) (cells : Array Value) (ps : List (Nat × Value)), ps = (vs.zipIdx i).map (fun p => (p.2, p.1)) → (∀ v ∈ vs, v.cells.size = size) → cells.size = (i + vs.length) * size →
    ∃ cells', Instr.fill (fun i => some (i * size, size)) cells ps = some cells' ∧ cells'.toList = cells.toList.take (i * size) ++ vs.flatMap (fun v => v.cells.toList)
  | [], i, cells, ps, hp, _, hs => by
    subst hp
    refine ⟨cells, rfl, ?_⟩
    rw [List.take_of_length_le (by rw [Array.length_toList, hs]; simp)]
    simp
  | v :: vs, i, cells, ps, hp, hv, hs => by
    subst hp
    have hvs := hv v List.mem_cons_self
    have hs' : cells.size = i * size + (size + vs.length * size) := by rw [hs, List.length_cons, ← Nat.add_assoc, Nat.add_right_comm, Nat.add_mul, Nat.add_mul, Nat.one_mul]; omega
    rw [List.zipIdx_cons, List.map_cons]
    simp only [Instr.fill, hvs, ne_eq, not_true_eq_false, decide_false, Bool.false_or]
    have hnot : ¬ (i * size + size > cells.size) := by omega
    simp only [hnot, decide_false, Bool.false_eq_true, if_false]
    have hfold : (v.cells.zipIdx.foldl (fun cs (p : Value × Nat) => cs.setIfInBounds (i * size + p.2) p.1) cells).toList = setAll cells.toList (i * size) v.cells.toList := by
      rw [← Array.foldl_toList, Array.toList_zipIdx]
      simpa using foldl_zip_set (i * size) v.cells.toList 0 cells
    generalize hcur : (v.cells.zipIdx.foldl (fun cs (p : Value × Nat) => cs.setIfInBounds (i * size + p.2) p.1) cells) = cur at hfold
    have hcs : cur.size = (i + 1 + vs.length) * size := by
      rw [← Array.length_toList, hfold, setAll_len, Array.length_toList, hs, List.length_cons]
      congr 1; omega
    obtain ⟨cells', h1, h2⟩ := fill_parts vs (i + 1) cur _ rfl (fun u hu => hv u (List.mem_cons_of_mem _ hu)) hcs
    refine ⟨cells', h1, ?_⟩
    · rw [h2, hfold]
      have hsplit : cells.toList = cells.toList.take (i * size) ++ ((cells.toList.drop (i * size)).take size ++ cells.toList.drop ((i + 1) * size)) := by
        rw [Nat.add_mul, Nat.one_mul, ← List.drop_drop, List.take_append_drop, List.take_append_drop]
      have hlA : (cells.toList.take (i * size)).length = i * size := by rw [List.length_take, Array.length_toList]; omega
      have hmid := setAll_mid v.cells.toList (cells.toList.take (i * size)) ((cells.toList.drop (i * size)).take size) (cells.toList.drop ((i + 1) * size)) 0 (by rw [Array.length_toList, hvs, List.length_take, List.length_drop, Array.length_toList]; omega)
      rw [← hsplit, hlA, Nat.add_zero] at hmid
      have hfull := setAll_all v.cells.toList [] ((cells.toList.drop (i * size)).take size) (by rw [Array.length_toList, hvs, List.length_take, List.length_drop, Array.length_toList]; omega)
      simp only [List.nil_append, List.length_nil] at hfull
      rw [hmid, hfull, ← List.append_assoc, List.take_left' (by rw [List.length_append, hlA, Array.length_toList, hvs, Nat.add_mul, Nat.one_mul])]
      simp
theorem PartsOk.get {use : Operand → Prop} {ρ : Operand → Value} {i : Nat} {ps : List (Nat × Operand)} {ys : List α} (h : PartsOk fr E i ps ys) (env : Env fr H use ρ S γ w) (hu : ∀ p ∈ ps, use p.2) :
    ∃ vs : List Value, ps.map (fun p => (p.1, ρ p.2)) = (vs.zipIdx i).map (fun p => (p.2, p.1)) ∧ vs.length = ys.length ∧ (∀ v ∈ vs, v.cells.size = E.size) ∧ AV.holdsL S γ w (E.all ys) (vs.flatMap fun v => v.cells.toList) := by
  induction h with
  | nil => exact ⟨[], rfl, rfl, by simp, by simp [Enc.all, AV.holdsL]⟩
  | @cons i x a cs y ps ys h hc he _ ih =>
    obtain ⟨vs, h1, h2, h3, h4⟩ := ih fun p hp => hu p (List.mem_cons_of_mem _ hp)
    have hx := cellsOf_holds env.st.one hc (env.get h (hu _ List.mem_cons_self))
    have hl := AV.holdsL_len hx
    refine ⟨ρ x :: vs, ?_, by simp [h2], ?_, ?_⟩
    · rw [List.map_cons, List.zipIdx_cons, List.map_cons, h1]
    · intro v hv
      rcases List.mem_cons.1 hv with rfl | hv
      · rw [← Array.length_toList, hl, ← he, E.len]
      · exact h3 v hv
    · rw [List.flatMap_cons]
      show AV.holdsL S γ w (E.cells y ++ E.all ys) _
      rw [he]
      exact AV.holdsL_app hx h4
/-- a slice of parts, that is only read -/
theorem sop_buildSlice {t e s b len es eb : Nat} {ek : TK} {ps : Array (Nat × Operand)} {ys : List α} (ho : o.op = .buildSlice t len ps := by rfl) (hT : TTOk P T := by assumption) (ht : look T t = some ⟨.slice e, s, b⟩ := by rfl) (he : look T e = some ⟨ek, es, eb⟩ := by rfl) (hp : PartsOk fr E 0 ps.toList ys := by repeat (first | exact PartsOk.nil | (apply PartsOk.cons (by first | exact .un rfl (by first | assumption | exact And.left (by assumption) | exact And.left (And.left (by assumption)) | exact And.left (And.left (And.left (by assumption)))) | exact .of rfl) rfl rfl) | (apply PartsOk.consR (by first | exact .un rfl (by first | assumption | exact And.left (by assumption) | exact And.left (And.left (by assumption)) | exact And.left (And.left (And.left (by assumption)))) | exact .of rfl) rfl rfl))) (hl : Nat.beq ys.length len = true := by rfl) (hbig : Nat.ble (len * es) 1000 = true := by rfl) (hs : es = E.size := by rfl) (hE : Nat.blt 0 es = true := by rfl) : SOp P o fr H (.snap (slF E ys)) := fun S γ w ρ h => by
  obtain ⟨vs, h1, h2, h3, h4⟩ := hp.get h (fun p hp => by
    simp only [ho, Op.operands, List.mem_toArray, List.mem_map]
    exact ⟨p, hp, rfl⟩)
  obtain ⟨i, z, hi, hi1, _, hz, hzs⟩ := hT.info he
  simp only at hi1 hzs
  have hlen : vs.length = len := by rw [h2]; exact Nat.eq_of_beq_eq_true hl
  have hbig' : len * es ≤ 1000 := Nat.le_of_ble_eq_true hbig
  have hE' : 0 < es := Nat.lt_of_lt_of_le Nat.zero_lt_one (Nat.le_of_ble_eq_true hE)
  let zs : Array Value := if len * es = 0 then #[] else z.cells
  obtain ⟨cells', hf1, hf2⟩ := fill_parts (size := E.size) vs 0 ((Array.range (len * es)).map (zs[· % zs.size]!)) _ h1 h3 (by simp [hlen, hs])
  have hrun : (execOp ρ o).run P w = .ok (.value (.slice (some ⟨w.heap.size, 0, none⟩) len len)) (w.alloc (.cells cells' e)) := by
    have hnb : ¬ (len * es > 2 ^ 24) := by omega
    have hf1' : Instr.fill (fun i => some (i * es, es)) ((Array.range (len * es)).map (zs[· % zs.size]!)) ((ps.map fun (i, x) => (i, ρ x)).toList) = some cells' := by
      rw [hs] at hf1 ⊢
      have : (ps.map fun (i, x) => (i, ρ x)).toList = ps.toList.map (fun p => (p.1, ρ p.2)) := by rw [Array.toList_map]
      rw [this]
      exact hf1
    by_cases h0 : len * es = 0
    · simp only [zs, h0, if_true] at hf1'
      simp only [execOp, ho, Instr.buildSlice, Sem.run_bind, run_underlying (hT.slice ht), hT.size he, Result.andThen_ok, h0, if_true, Sem.run_pure]
      simp only [show ¬ (0 > 2 ^ 24) from by omega, if_false, Sem.run_bind, Sem.run_pure, Result.andThen_ok, hf1']
      simp [newRow]
    · simp only [zs, h0, if_false] at hf1'
      simp only [execOp, ho, Instr.buildSlice, Sem.run_bind, run_underlying (hT.slice ht), hT.size he, Result.andThen_ok, h0, if_false, hnb, Sem.run_pure, zeroValue, typeInfo, hi, hz, run_program, hf1']
      simp [newRow]
  refine outc hrun ⟨Ext.alloc w _, ?_⟩
  have hc' : cells'.toList = vs.flatMap fun v => v.cells.toList := by rw [hf2]; simp
  have hys : ys.length = len := by rw [← h2, hlen]
  simp only [AV.holds]
  refine ⟨some ⟨w.heap.size, 0, none⟩, len, cells'.toList, by rw [hys], by omega, ?_, ?_, ?_⟩
  · intro _
    refine ⟨_, rfl, .inr ⟨Nat.le_refl _, by simp⟩, fun j u hu => ?_⟩
    rw [addr_add_ne, Nat.zero_add, cell_of_row _ _ j _ _ _ (heap_alloc_new w _)]
    simpa using hu
  · rw [hc']
    exact plainL (E.all_plain ys) (AV.extL (fun _ h => .inl h) (same_of_ext h.st.sz (Ext.alloc w _)) h4)
  · rw [hc']
    have hall : AV.allOneL (E.all ys) = true := by
      clear h2 h4 hys hl hp
      induction ys with
      | nil => rfl
      | cons y ys ih =>
        have app : ∀ (a b : List AV), AV.allOneL (a ++ b) = (AV.allOneL a && AV.allOneL b) := by
          intro a b
          induction a with
          | nil => simp [AV.allOneL]
          | cons x a iha => simp [AV.allOneL, iha, Bool.and_assoc]
        show AV.allOneL (E.cells y ++ E.all ys) = true
        rw [app, E.one, ih]; rfl
    exact allOne_of (hγ := h.st.one) hall h4
end
end Go.Proofs.Ytjmcbacdogjdeaa
