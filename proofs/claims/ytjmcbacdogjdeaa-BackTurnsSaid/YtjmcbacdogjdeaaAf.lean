/- Stores, appends, contracts and calls, over abstract frames. Nothing of the program stands here. -/
import Derived.Test.YtjmcbacdogjdeaaAe
namespace Go.Proofs.Ytjmcbacdogjdeaa
open Go Go.RowKit
set_option linter.unusedVariables false

def setAll {α : Type} : List α → Nat → List α → List α
  | cs, _, [] => cs
  | cs, off, d :: ds => setAll (cs.set off d) (off + 1) ds
theorem setAll_len {α : Type} : ∀ (ds cs : List α) (off : Nat), (setAll cs off ds).length = cs.length
  | [], cs, off => rfl
  | d :: ds, cs, off => by simp [setAll, setAll_len ds]
theorem holdsL_setAll {S : Nat → Prop} {γ : Nat → Value} {w : World} : ∀ {ds : List AV} {us : List Value} {cs : List AV} {vs : List Value} (off : Nat), AV.holdsL S γ w ds us → AV.holdsL S γ w cs vs → AV.holdsL S γ w (setAll cs off ds) (setAll vs off us)
  | [], us, cs, vs, off, h, k => by
    simp only [AV.holdsL] at h; subst h
    simpa [setAll] using k
  | d :: ds, us, cs, vs, off, h, k => by
    simp only [AV.holdsL] at h
    obtain ⟨u, us', rfl, h1, h2⟩ := h
    simp only [setAll]
    exact holdsL_setAll (off + 1) h2 (AV.holdsL_set h1 off k)
theorem heap_set_keep (w : World) (a : Addr) (u : Value) : Keep (fun b => b = a.block) w (w.setCell a u) := by
  have hb := Below.setCell (Below.refl 0 w) (Nat.zero_le a.block) u
  exact ⟨hb.os, hb.tape, hb.output, hb.size, fun b _ hn => heap_setCell_other w a b u hn⟩
theorem setCell_size (w : World) (a : Addr) (u : Value) : (w.setCell a u).heap.size = w.heap.size := by simp [World.setCell]
theorem storeCells_run {P : Program} {g : Nat} {e : TypeId} {off : Nat} : ∀ (us : List Value) (i : Nat) (arr : Array Value) (w : World), w.heap[g]? = some (.cells arr e (0, 0)) → (∀ u ∈ us, u.oneCell' = true) → off + i + us.length ≤ arr.size →
    ∃ w', (storeCells ⟨g, off, none⟩ us i).run P w = .ok () w' ∧ Keep (fun b => b = g) w w' ∧ w'.heap[g]? = some (.cells (setAll arr.toList (off + i) us).toArray e (0, 0)) ∧ w'.heap.size = w.heap.size
  | [], i, arr, w, hg, _, _ => ⟨w, by simp [storeCells], Keep.refl _ _, by simpa [setAll] using hg, rfl⟩
  | u :: us, i, arr, w, hg, h1, hl => by
    have hl' : off + i + (us.length + 1) ≤ arr.size := hl
    have hlt : off + i < arr.size := by omega
    have hc : w.cell? ⟨g, off + i, none⟩ = some arr[off + i] := by
      rw [cell_of_row w g _ _ _ _ hg]; exact Array.getElem?_eq_getElem hlt
    have hf := frozen_of_row w g (off + i) arr e hg
    obtain ⟨w', h2, h3, h4, h5⟩ := storeCells_run (off := off) us (i + 1) (arr.setIfInBounds (off + i) u) (w.setCell ⟨g, off + i, none⟩ u) (heap_setCell_same w g (off + i) arr e u hg) (fun v hv => h1 v (List.mem_cons_of_mem _ hv)) (by simp; omega)
    refine ⟨w', ?_, ?_, ?_, by rw [h5, setCell_size]⟩
    · simp only [storeCells, Sem.run_bind, addr_add_ne, run_store P w ⟨g, off + i, none⟩ u .plain (h1 u List.mem_cons_self), hc, hf, Bool.false_eq_true, if_false, Result.andThen_ok]
      exact h2
    · exact (heap_set_keep w ⟨g, off + i, none⟩ u).trans h3 (fun _ h => .inl h)
    · rw [h4, Array.toList_setIfInBounds, show off + (i + 1) = off + i + 1 from by omega]; rfl

section
variable {P : Program} {T : List (Nat × TI)} {c : Ctx} {n : Nat} {Q : AQ} {fr : List (Nat × AV)} {H : List (Nat × Res)} {ops : Array Oper} {rest : List Oper} {o : Oper}
variable {S : Nat → Prop} {γ : Nat → Value} {tmps : Array Value} {w : World}
theorem markF_none (fr : List (Nat × AV)) : markF (fun _ => false) fr = fr := by
  unfold markF
  have : ∀ a : AV, a.uses (fun j => !(fun _ => false : Nat → Bool) j) = true := fun a => by simpa using AV.uses_true a
  induction fr with
  | nil => rfl
  | cons p fr ih =>
    rw [List.map_cons, ih, this]
theorem usesH_none (H : List (Nat × Res)) : usesH (fun _ => false) H = true := by
  unfold usesH
  rw [List.all_eq_true]
  rintro ⟨k, r⟩ _
  cases r with
  | box cs => simpa [Res.uses] using AV.usesL_true cs
  | own e E xs => rfl
/-- a resource's content is another one, its place the same -/
theorem Rel.same1 (h : Rel c n fr H S γ tmps w) (j : Nat) {w' : World} {r r' : Res} (hj : look H j = some r) (hk : Keep (fun b => rblk (γ j) = some b) w w') (hr : r'.holds S γ w' (γ j)) :
    Rel c n fr ((j, r') :: dropH (one1 j) H) S γ tmps w' := by
  have hst : St S γ w' [(j, r')] := by
    refine ⟨?_, ?_, ?_, ?_, h.st.one⟩
    · intro i r'' hi
      obtain ⟨rfl, rfl⟩ := look_one hi
      exact hr
    · intro i i' ri rj b hi hj' _ _
      rw [(look_one hi).1, (look_one hj').1]
    · intro i r'' b hi hb
      obtain ⟨rfl, rfl⟩ := look_one hi
      exact h.st.live i r b hj hb
    · intro b hs; have := h.st.sz b hs; have := hk.size; omega
  have := h.eff (one1 j) (fun _ => false) (Hn := [(j, r')]) (fun _ h => by cases h) (w' := w') ⟨hk.os, hk.tape, hk.output, hk.size, fun b hb hn => hk.block b hb fun h1 => hn ⟨j, r, one1_iff.2 rfl, hj, h1⟩⟩ (fun _ h => h) (fun b h => .inl h) hst
    (fun i r'' b hi hb => by
      obtain ⟨rfl, rfl⟩ := look_one hi
      exact .inr ⟨i, r, one1_iff.2 rfl, hj, hb⟩)
    (fun i r'' hi => one1_iff.2 (look_one hi).1.symm) (fun _ _ => rfl) (fun _ _ => rfl) (usesH_none _)
  rwa [markF_none] at this
theorem allOne_of {hγ : ∀ j, (γ j).oneCell' = true} : ∀ {cs : List AV} {vs : List Value}, AV.allOneL cs = true → AV.holdsL S γ w cs vs → ∀ u ∈ vs, u.oneCell' = true
  | [], vs, _, h, u, hu => by simp only [AV.holdsL] at h; subst h; cases hu
  | c :: cs, vs, ha, h, u, hu => by
    simp only [AV.holdsL] at h
    obtain ⟨v, vs', rfl, h1, h2⟩ := h
    simp only [AV.allOneL, Bool.and_eq_true] at ha
    rcases List.mem_cons.1 hu with rfl | hu
    · exact AV.one hγ h1 ha.1
    · exact allOne_of (hγ := hγ) ha.2 h2 u hu
theorem ao_store {x y : Operand} {t j off : Nat} {ti : TI} {cs ds : List AV} {a : AV} (hg : o.guard = none := by rfl) (hd : o.dst = none := by rfl) (ho : o.op = .store t x y := by rfl) (hT : TTOk P T := by assumption) (ht : look T t = some ti := by rfl) (hx : Opv fr x (.ptr j off) := by first | exact .un rfl (by first | assumption | exact And.left (by assumption) | exact And.left (And.left (by assumption)) | exact And.left (And.left (And.left (by assumption)))) | exact .of rfl) (hj : look H j = some (.box cs) := by rfl)
    (hy : Opv fr y a := by first | exact .un rfl (by first | assumption | exact And.left (by assumption) | exact And.left (And.left (by assumption)) | exact And.left (And.left (And.left (by assumption)))) | exact .of rfl) (hc : cellsOf a = some ds := by rfl) (h1 : AV.allOneL ds = true := by rfl) (hl : Nat.beq ds.length ti.size = true := by rfl) (hb : Nat.ble (off + ti.size) cs.length = true := by rfl)
    (next : AOps P c n ops rest Q fr ((j, .box (setAll cs off ds)) :: dropH (one1 j) H)) : AOps P c n ops (o :: rest) Q fr H := fun S γ tmps w hr => by
  refine ao_plain hg ?_
  have env := hr.env (ds := []) (fun _ => True)
  have hxv := env.get hx trivial
  have hyv := env.get hy trivial
  simp only [AV.holds] at hxv
  obtain ⟨g, hg', hxv⟩ := hxv
  obtain ⟨arr, e, hh, hL⟩ := box_cell hr.st hj hg'
  have hcs := cellsOf_holds hr.st.one hc hyv
  have hl' : ds.length = ti.size := Nat.eq_of_beq_eq_true hl
  have hb' : off + ti.size ≤ cs.length := Nat.le_of_ble_eq_true hb
  have hlv := AV.holdsL_len hcs
  have hla := AV.holdsL_len hL
  obtain ⟨w', h2, h3, h4, h5⟩ := storeCells_run (P := P) (off := off) (Act.eval ⟨tmps, []⟩ y).cells.toList 0 arr w hh (allOne_of (hγ := hr.st.one) h1 hcs) (by simp only [Array.length_toList] at hla; omega)
  have hrun : (execOp (Act.eval ⟨tmps, []⟩) o).run P w = .ok .skip w' := by
    have hsz : (Act.eval ⟨tmps, []⟩ y).cells.size = ti.size := by
      rw [← Array.length_toList, hlv, hl']
    simp only [execOp, ho, Instr.storeAt, hxv, Instr.sureAddr, storeVar, Sem.run_bind, Sem.run_pure, Result.andThen_ok, hT.size ht, hsz, ne_eq, not_true_eq_false, if_false, h2]
  rw [hrun]
  have hput : (Act.put ⟨tmps, []⟩ o.dst undef) = ⟨tmps, []⟩ := by rw [hd]; rfl
  show wpList P ops (lift c n Q) rest (Act.put ⟨tmps, []⟩ o.dst undef) w'
  rw [hput]
  obtain ⟨g', arr', e', hv, hh', _⟩ := hr.st.res j _ hj
  have hgg : g' = g := by rw [hv] at hg'; simpa [gof] using hg'
  subst hgg
  have hrb : rblk (γ j) = some g' := by rw [hv]; rfl
  refine next S γ tmps w' (hr.same1 j hj ⟨h3.os, h3.tape, h3.output, h3.size, fun b hb hn => h3.block b hb (fun e => hn (by rw [hrb, e]))⟩ ⟨g', _, e, hv, h4, ?_⟩)
  have hsame : Same S w w' := fun b hs => h3.block b (hr.st.sz b hs) (fun e => by subst e; exact hr.st.live j _ b hj hrb hs)
  have := holdsL_setAll (S := S) (γ := γ) (w := w) off hcs hL
  simp only [Nat.add_zero]
  exact AV.extL (fun _ h => h) hsame (by simpa using this)

/-- what stands behind an operand that is copied -/
inductive Src (fr : List (Nat × AV)) (H : List (Nat × Res)) (x : Operand) {α : Type} (E : Enc α) : List α → Prop
  | snap {ys : List α} (h : Opv fr x (.snap (slF E ys))) : Src fr H x E ys
  | own {i e : Nat} {ys : List α} (h : Opv fr x (.own i)) (hi : look H i = some (.own e E ys)) : Src fr H x E ys
  | nil (h : Opv fr x (.lit (.slice none 0 0))) : Src fr H x E []
theorem Src.get {use : Operand → Prop} {ρ : Operand → Value} {x : Operand} {α : Type} {E : Enc α} {ys : List α} (h : Src fr H x E ys) (env : Env fr H use ρ S γ w) (hu : use x) :
    ∃ B d vs, ρ x = .slice B ys.length d ∧ ys.length ≤ d ∧ Row w B vs ∧ AV.holdsL S noγ w (E.all ys) vs ∧ ∀ u ∈ vs, u.oneCell' = true := by
  cases h with
  | snap h =>
    have := env.get h hu
    simp only [AV.holds] at this
    obtain ⟨A, c, vs, hv, hc, hr, hh, h1⟩ := this
    exact ⟨A, c, vs, hv, hc, hr.row, hh, h1⟩
  | own h hi =>
    have h1 := env.get h hu
    simp only [AV.holds] at h1
    obtain ⟨vs, ho, hh, h2⟩ := env.st.res _ _ hi
    obtain ⟨A, c, hv, hc, _, hrow⟩ := ho.row
    exact ⟨A, c, vs, h1.trans hv, hc, hrow, hh, h2⟩
  | nil h =>
    exact ⟨none, 0, [], env.lit h hu, Nat.le_refl _, Row.nil _ _, by simp [Enc.all, AV.holdsL], by simp⟩
theorem own_rblk {base e size n : Nat} {v : Value} {xs : List Value} (h : Own w base e size v n xs) : rblk v = wblk v ∧ v.oneCell' = true := by
  obtain ⟨_, A, c, rfl, _⟩ := h
  cases A <;> exact ⟨rfl, rfl⟩
theorem append_core {d t e j s b es eb : Nat} {ek : TK} {sx x : Operand} {α : Type} {E : Enc α} {xs ys : List α} (hg : o.guard = none) (hd : o.dst = some d) (hn : Nat.blt d n = true) (ho : o.op = .call { callee := .builtin .append, args := #[sx, x], argTypes := #[t, t] })
    (hT : TTOk P T) (ht : look T t = some ⟨.slice e, s, b⟩) (he : look T e = some ⟨ek, es, eb⟩) (hs : es = E.size) (hE : Nat.blt 0 es = true)
    (hsv : Act.eval ⟨tmps, []⟩ sx = γ j) (hj : look H j = some (.own e E xs)) (hx : Src fr H x E ys) (hm : xs.length + ys.length ≤ 9223372036854775807) (hb : (xs.length + ys.length) * eb ≤ 140737488355328)
    (k : Nat) (hkJ : Nat.ble 1000 k = true) (hu : usesH (one1 k) (dropH (one1 k) (dropH (one1 j) H)) = true)
    (next : AOps P c n ops rest Q ((d, .own k) :: markF (one1 k) fr) ((k, .own e E (xs ++ ys)) :: dropH (one1 k) (dropH (one1 j) H))) (hr : Rel c n fr H S γ tmps w) : wpList P ops (lift c n Q) (o :: rest) ⟨tmps, []⟩ w := by
  refine ao_plain hg ?_
  have env := hr.env (ds := []) (fun _ => True)
  obtain ⟨vs, hown, hvs, hv1⟩ := hr.st.res j _ hj
  obtain ⟨B, dd, us, hxv, hdd, hrow, hus, hu1⟩ := hx.get env trivial
  obtain ⟨i, z, hi, hi1, hi2, hz, hzs⟩ := hT.info he
  simp only at hi1 hi2 hzs
  have hlen := AV.holdsL_len hus
  rw [Enc.all_len] at hlen
  have hk1000 : 1000 ≤ k := Nat.le_of_ble_eq_true hkJ
  have hE' : 0 < es := Nat.lt_of_lt_of_le Nat.zero_lt_one (Nat.le_of_ble_eq_true hE)
  obtain ⟨v', w', hrun, hown', hgr, hwb⟩ := run_app (P := P) w 0 t o.type e i z E.size eb (hT.slice ht) hi hz (by rw [hi1, hs]) hi2 (by rw [hzs, hs]) (by omega) (γ j) xs.length vs hown B ys.length dd us hlen hrow hu1 hb (by unfold maxLen; exact hm) (Nat.zero_le _)
  have hexec : (execOp (Act.eval ⟨tmps, []⟩) o).run P w = .ok (.value v') w' := by
    unfold execOp
    simp only [ho, resolve, invoke, builtin, Sem.run_bind, Sem.run_pure, Result.andThen_ok, List.map_toArray, List.map_cons, List.map_nil, hsv, hxv, hrun]
  refine outc hexec ?_
  have hput : ∀ v, (Act.put ⟨tmps, []⟩ o.dst v) = ⟨tmps.setIfInBounds d v, []⟩ := fun v => by rw [hd]; rfl
  rw [hput]
  have hrb := own_rblk hown
  have hrb' := own_rblk hown'
  have hsame : Same S w w' := fun b hs => hgr.block b (hr.st.sz b hs) (fun e => hr.st.live j _ b hj (by rw [hrb.1, ← e]) hs)
  have hres : (Res.own e E (xs ++ ys)).holds S (upd γ k v') w' v' := by
    refine ⟨vs ++ us, by simpa using hown', ?_, fun u hu => (List.mem_append.1 hu).elim (hv1 u) (hu1 u)⟩
    rw [Enc.all_append]
    exact AV.holdsL_app (AV.extL (fun _ h => h) hsame hvs) (AV.extL (fun _ h => h) hsame hus)
  have hst : St S (upd γ k v') w' [(k, .own e E (xs ++ ys))] := by
    refine ⟨?_, ?_, ?_, ?_, ?_⟩
    · intro i r' hi
      obtain ⟨rfl, rfl⟩ := look_one hi
      rw [upd_same]; exact hres
    · intro i j ri rj b hi hj _ _
      rw [(look_one hi).1, (look_one hj).1]
    · intro i r' b hi hb' hs
      obtain ⟨rfl, rfl⟩ := look_one hi
      rw [upd_same, hrb'.1] at hb'
      rcases hwb with h1 | h1
      · rw [h1] at hb'
        exact hr.st.live j _ b hj (by rw [hrb.1]; exact hb') hs
      · rw [h1] at hb'
        have := hr.st.sz b hs
        simp only [Option.some.injEq] at hb'; omega
    · intro b hs; have := hr.st.sz b hs; have := hgr.size; omega
    · intro i
      by_cases hi : i = k
      · subst hi; rw [upd_same]; exact hrb'.2
      · rw [upd_other hi]; exact hr.st.one i
  have hdd2 : dropH (one1 k) (dropH (one1 j) H) = dropH (fun i => one1 j i || one1 k i) H := by
    unfold dropH
    rw [List.filter_filter]
    congr 1
    funext p
    simp only [Bool.not_or]
    exact Bool.and_comm _ _
  have hfin := hr.eff (fun i => one1 j i || one1 k i) (one1 k) (Hn := [(k, .own e E (xs ++ ys))]) (S' := S) (γ' := upd γ k v') (w' := w') (fun i hi => by simp [hi])
    ⟨hgr.os, hgr.tape, hgr.output, hgr.size, fun b hb hn => hgr.block b hb fun h1 => hn ⟨j, _, by simp [one1_iff.2], hj, by rw [hrb.1, ← h1]⟩⟩ (fun _ h => h) (fun b h => .inl h) hst
    (fun i r' b hi hb' => by
      obtain ⟨rfl, rfl⟩ := look_one hi
      rw [upd_same, hrb'.1] at hb'
      rcases hwb with h1 | h1
      · right; exact ⟨j, _, by simp [one1_iff.2], hj, by rw [hrb.1, ← h1]; exact hb'⟩
      · rw [h1] at hb'; left; simp only [Option.some.injEq] at hb'; omega)
    (fun i r' hi => by simp [one1_iff.2 (look_one hi).1.symm])
    (fun i hi => upd_other (by rintro rfl; rw [one1_iff.2 rfl] at hi; cases hi))
    (fun i hi => by
      have := c.lt i hi
      cases hb : one1 k i with
      | false => rfl
      | true => have := one1_iff.1 hb; omega)
    (by rw [← hdd2]; exact hu)
  rw [← hdd2] at hfin
  exact next S _ _ _ (hfin.put (Nat.le_of_ble_eq_true hn) (by simp only [AV.holds]; rw [upd_same]))
/-- appending to a slice of one's own -/
theorem ao_append {d t e j s b es eb : Nat} {ek : TK} {sx x : Operand} {α : Type} {E : Enc α} {xs ys : List α} (hg : o.guard = none := by rfl) (hd : o.dst = some d := by rfl) (hn : Nat.blt d n = true := by rfl) (ho : o.op = .call { callee := .builtin .append, args := #[sx, x], argTypes := #[t, t] } := by rfl)
    (hT : TTOk P T := by assumption) (ht : look T t = some ⟨.slice e, s, b⟩ := by rfl) (he : look T e = some ⟨ek, es, eb⟩ := by rfl)
    (hsx : Opv fr sx (.own j) := by first | exact .un rfl (by first | assumption | exact And.left (by assumption) | exact And.left (And.left (by assumption)) | exact And.left (And.left (And.left (by assumption)))) | exact .of rfl) (hj : look H j = some (.own e E xs) := by rfl) (hx : Src fr H x E ys := by first | exact .snap (by first | exact .un rfl (by first | assumption | exact And.left (by assumption) | exact And.left (And.left (by assumption)) | exact And.left (And.left (And.left (by assumption)))) | exact .of rfl) | exact .own (by first | exact .un rfl (by first | assumption | exact And.left (by assumption) | exact And.left (And.left (by assumption)) | exact And.left (And.left (And.left (by assumption)))) | exact .of rfl) rfl | exact .nil (by first | exact .un rfl (by first | assumption | exact And.left (by assumption) | exact And.left (And.left (by assumption)) | exact And.left (And.left (And.left (by assumption)))) | exact .of rfl)) (hm : xs.length + ys.length ≤ 9223372036854775807 := by first | omega | (simp only [List.length_append, List.length_cons, List.length_nil, List.length_take, List.length_drop, List.length_replicate, List.length_map, List.length_set]; omega)) (hb : (xs.length + ys.length) * eb ≤ 140737488355328 := by first | omega | (simp only [List.length_append, List.length_cons, List.length_nil, List.length_take, List.length_drop, List.length_replicate, List.length_map, List.length_set]; omega)) (hs : es = E.size := by rfl) (hE : Nat.blt 0 es = true := by rfl)
    (k : Nat) (hkJ : Nat.ble 1000 k = true := by rfl) (hu : usesH (one1 k) (dropH (one1 k) (dropH (one1 j) H)) = true := by rfl)
    (next : AOps P c n ops rest Q ((d, .own k) :: markF (one1 k) fr) ((k, .own e E (xs ++ ys)) :: dropH (one1 k) (dropH (one1 j) H))) : AOps P c n ops (o :: rest) Q fr H := fun S γ tmps w hr => by
  have hsv := (hr.env (ds := []) (fun _ => True)).get hsx trivial
  simp only [AV.holds] at hsv
  exact append_core hg hd hn ho hT ht he hs hE hsv hj hx hm hb k hkJ hu next hr
/-- appending to a nil slice -/
theorem ao_append_nil {d t e s b es eb : Nat} {ek : TK} {sx x : Operand} {α : Type} {E : Enc α} {ys : List α} {A : Option Addr} (hg : o.guard = none := by rfl) (hd : o.dst = some d := by rfl) (hn : Nat.blt d n = true := by rfl) (ho : o.op = .call { callee := .builtin .append, args := #[sx, x], argTypes := #[t, t] } := by rfl)
    (hT : TTOk P T := by assumption) (ht : look T t = some ⟨.slice e, s, b⟩ := by rfl) (he : look T e = some ⟨ek, es, eb⟩ := by rfl)
    (hsx : Opv fr sx (.lit (.slice A 0 0)) := by first | exact .un rfl (by first | assumption | exact And.left (by assumption) | exact And.left (And.left (by assumption)) | exact And.left (And.left (And.left (by assumption)))) | exact .of rfl) (hx : Src (markF (one1 (d + 1000)) fr) ((d + 1000, .own e E []) :: dropH (one1 (d + 1000)) H) x E ys := by first | exact .snap (by first | exact .un rfl (by first | assumption | exact And.left (by assumption) | exact And.left (And.left (by assumption)) | exact And.left (And.left (And.left (by assumption)))) | exact .of rfl) | exact .own (by first | exact .un rfl (by first | assumption | exact And.left (by assumption) | exact And.left (And.left (by assumption)) | exact And.left (And.left (And.left (by assumption)))) | exact .of rfl) rfl | exact .nil (by first | exact .un rfl (by first | assumption | exact And.left (by assumption) | exact And.left (And.left (by assumption)) | exact And.left (And.left (And.left (by assumption)))) | exact .of rfl)) (hm : ys.length ≤ 9223372036854775807 := by first | omega | (simp only [List.length_append, List.length_cons, List.length_nil, List.length_take, List.length_drop, List.length_replicate, List.length_map, List.length_set]; omega)) (hb : ys.length * eb ≤ 140737488355328 := by first | omega | (simp only [List.length_append, List.length_cons, List.length_nil, List.length_take, List.length_drop, List.length_replicate, List.length_map, List.length_set]; omega)) (hs : es = E.size := by rfl) (hE : Nat.blt 0 es = true := by rfl)
    (hu : usesH (one1 (d + 1000)) (dropH (one1 (d + 1000)) H) = true := by rfl) (hu2 : usesH (one1 (d + 1000)) (dropH (one1 (d + 1000)) (dropH (one1 (d + 1000)) ((d + 1000, .own e E []) :: dropH (one1 (d + 1000)) H))) = true := by rfl)
    (next : AOps P c n ops rest Q ((d, .own (d + 1000)) :: markF (one1 (d + 1000)) (markF (one1 (d + 1000)) fr)) ((d + 1000, .own e E ys) :: dropH (one1 (d + 1000)) (dropH (one1 (d + 1000)) ((d + 1000, .own e E []) :: dropH (one1 (d + 1000)) H)))) : AOps P c n ops (o :: rest) Q fr H := fun S γ tmps w hr => by
  have hsv := (hr.env (ds := []) (fun _ => True)).lit hsx trivial
  have hk : Nat.ble 1000 (d + 1000) = true := Nat.ble_eq_true_of_le (by omega)
  have hr' := hr.eff1 (d + 1000) (w' := w) (r := .own e E []) (v := .slice A 0 0) (Keep.refl _ _) ⟨[], by simpa using Own.nil w 0 e E.size A, by simp [Enc.all, AV.holdsL], by simp⟩ rfl (fun b hb => by cases A <;> simp [rblk, wblk] at hb) hk hu
  exact append_core (xs := []) hg hd hn ho hT ht he hs hE (by rw [hsv, upd_same]) (by rw [look_cons, if_pos rfl]) hx (by simpa using hm) (by simpa using hb) (d + 1000) hk hu2 next hr'
/-- a slice with no room at all may be one's own -/
theorem Rel.ownNil (h : Rel c n fr H S γ tmps w) {x k e : Nat} {α : Type} {E : Enc α} {A : Option Addr} (hx : look fr x = some (.lit (.slice A 0 0))) (hkJ : Nat.ble 1000 k = true) (hu : usesH (one1 k) (dropH (one1 k) H) = true) :
    Rel c n ((x, .own k) :: markF (one1 k) fr) ((k, .own e E []) :: dropH (one1 k) H) S (upd γ k (.slice A 0 0)) tmps w := by
  have hv := h.fr x _ hx
  simp only [AV.holds] at hv
  have := h.eff1 k (w' := w) (r := .own e E []) (v := .slice A 0 0) (Keep.refl _ _) ⟨[], by simpa using Own.nil w 0 e E.size A, by simp [Enc.all, AV.holdsL], by simp⟩ rfl (fun b hb => by cases A <;> simp [rblk, wblk] at hb) hkJ hu
  refine ⟨this.st, fun y av hy => ?_, this.up, this.own, this.ids, this.size, this.keep⟩
  rw [look_cons] at hy
  split at hy
  · rename_i e
    subst e
    simp only [Option.some.injEq] at hy; subst hy
    simp only [AV.holds]
    rw [upd_same]; exact hv
  · exact this.fr y av hy
theorem a_ownNil {code : Code} (x e : Nat) {α : Type} (E : Enc α) (k : Nat) {A : Option Addr} (hx : look fr x = some (.lit (.slice A 0 0))) (hkJ : Nat.ble 1000 k = true) (hu : usesH (one1 k) (dropH (one1 k) H) = true)
    (h : ACode P c n code Q ((x, .own k) :: markF (one1 k) fr) ((k, .own e E []) :: dropH (one1 k) H)) : ACode P c n code Q fr H := fun S γ tmps w hr => h S _ tmps w (hr.ownNil hx hkJ hu)
theorem ao_ownNil (x e : Nat) {α : Type} (E : Enc α) (k : Nat) {A : Option Addr} (hx : look fr x = some (.lit (.slice A 0 0)) := by rfl) (hkJ : Nat.ble 1000 k = true := by rfl) (hu : usesH (one1 k) (dropH (one1 k) H) = true := by rfl)
    (h : AOps P c n ops rest Q ((x, .own k) :: markF (one1 k) fr) ((k, .own e E []) :: dropH (one1 k) H)) : AOps P c n ops rest Q fr H := fun S γ tmps w hr => h S _ tmps w (hr.ownNil hx hkJ hu)
end
end Go.Proofs.Ytjmcbacdogjdeaa
