/- Slices that are made or clipped, guards that are known, effects in drawn regions, freezing behind a pointer. Nothing of the program stands here. -/
import Derived.Test.YtjmcbacdogjdeaaAx
namespace Go.Proofs.Ytjmcbacdogjdeaa
open Go Go.RowKit
set_option linter.unusedVariables false
set_option linter.unusedSimpArgs false
section
variable {P : Program} {T : List (Nat × TI)} {o : Oper} {fr : List (Nat × AV)} {H : List (Nat × Res)} {c : Ctx} {n : Nat} {Q : AQ} {ops : Array Oper} {rest : List Oper}
variable {S : Nat → Prop} {γ : Nat → Value} {w : World} {x y : Operand} {t t' : TypeId} {s b : Nat}
theorem getB (cs : Array Value) (j : Nat) (h : j < cs.size) : cs[j]! = cs[j] := getElem!_pos cs j h
theorem made_list (cs : Array Value) : ∀ (n : Nat), (madeCells cs (n * cs.size)).toList = (List.replicate n cs.toList).flatten
  | 0 => by simp [madeCells]
  | n + 1 => by
    have ih := made_list cs n
    rcases Nat.eq_zero_or_pos cs.size with h0 | h0
    · have hc : cs.toList = [] := by apply List.eq_nil_of_length_eq_zero; simpa using h0
      simp [madeCells, h0, hc]
    have e1 : (madeCells cs ((n + 1) * cs.size)).toList = (List.range (n * cs.size + cs.size)).map (fun i => cs[i % cs.size]!) := by
      simp [madeCells, Nat.add_mul]
    have e2 : (madeCells cs (n * cs.size)).toList = (List.range (n * cs.size)).map (fun i => cs[i % cs.size]!) := by
      simp [madeCells]
    rw [e1, List.range_add, List.map_append, ← e2, ih, List.map_map]
    have e3 : (List.range cs.size).map ((fun i => cs[i % cs.size]!) ∘ fun x => n * cs.size + x) = cs.toList := by
      apply List.ext_getElem
      · simp
      · intro i h1 h2
        have hi : i < cs.size := by simpa using h2
        simp only [List.getElem_map, List.getElem_range, Function.comp]
        rw [Nat.mul_comm, Nat.mul_add_mod, Nat.mod_eq_of_lt hi, getB cs i hi]
        simp
    rw [e3]
    simp [List.replicate_succ']
theorem holds_made {α : Type} {E : Enc α} {z : α} {zs : List Z} {cs : List Value} (hz : E.cells z = zAV zs) (hcs : cs = zs.map Z.val) : ∀ (n : Nat), AV.holdsL S γ w (E.all (List.replicate n z)) ((List.replicate n cs).flatten)
  | 0 => by simp [Enc.all, AV.holdsL]
  | n + 1 => by
    have ih := holds_made (E := E) hz hcs n
    have e1 : E.all (List.replicate (n + 1) z) = E.cells z ++ E.all (List.replicate n z) := by simp [Enc.all, List.replicate_succ]
    rw [e1, List.replicate_succ, List.flatten_cons, hz, hcs]
    exact AV.holdsL_app (zAV_holds zs) (hcs ▸ ih)
theorem zval_one (z : Z) : z.val.oneCell' = true := by cases z <;> rfl
theorem ao_makeSlice {d e es eb : Nat} {ek : TK} {ZT : List (Nat × List Z)} {zs : List Z} {m : Int} {α : Type} (E : Enc α) (z : α) (hg : o.guard = none := by rfl) (hd : o.dst = some d := by rfl) (hn : Nat.blt d n = true := by rfl) (ho : o.op = .makeSlice t x y := by rfl) (hT : TTOk P T := by assumption) (ht : look T t = some ⟨.slice e, s, b⟩ := by rfl) (he : look T e = some ⟨ek, es, eb⟩ := by rfl) (hZ : ZOk P ZT := by assumption) (hz : look ZT e = some zs := by rfl) (hE : E.cells z = zAV zs := by rfl) (hs : es = E.size := by rfl)
    (hx : Opv fr x (.lit (.int .i64 m)) := by first | exact .un rfl (by first | assumption | exact And.left (by assumption) | exact And.left (And.left (by assumption)) | exact And.left (And.left (And.left (by assumption)))) | exact .of rfl) (hy : Opv fr y (.lit (.int .i64 m)) := by first | exact .un rfl (by first | assumption | exact And.left (by assumption) | exact And.left (And.left (by assumption)) | exact And.left (And.left (And.left (by assumption)))) | exact .of rfl) (h0 : 0 ≤ m := by omega) (hm : eb * m ≤ 281474976710656 := by omega) (hm2 : m ≤ 281474976710656 := by omega)
    (hu : usesH (one1 (d + 1000)) (dropH (one1 (d + 1000)) H) = true := by rfl)
    (next : AOps P c n ops rest Q ((d, .own (d + 1000)) :: markF (one1 (d + 1000)) fr) ((d + 1000, .own e E (List.replicate m.toNat z)) :: dropH (one1 (d + 1000)) H)) : AOps P c n ops (o :: rest) Q fr H := fun S γ tmps w hr => by
  refine ao_plain hg ?_
  have env := hr.env (ds := []) (fun _ => True)
  have h1 := env.lit hx trivial
  have h2 := env.lit hy trivial
  obtain ⟨zi, zv, hi, hiz, hzc⟩ := hZ.zero hz
  obtain ⟨_, _, j, zv', hj, hsz, hby, hjz, hcz⟩ := hT.ok e _ he
  rw [hi] at hj; injection hj with hj; subst hj
  rw [hiz] at hjz; injection hjz with hjz; subst hjz
  simp only at hsz hby hcz
  have hrun := run_make (P := P) w t e zi zv (hT.slice ht) hi hiz .i64 .i64 m m h0 (Int.le_refl _) (by rw [hby]; exact hm) (by omega)
  have hex : (execOp (Act.eval ⟨tmps, []⟩) o).run P w = .ok (.value (.slice (some ⟨w.heap.size, 0, none⟩) m.toNat m.toNat)) (w.alloc (.cells (madeCells zv.cells (m.toNat * zi.size)) e)) := by
    simp only [execOp, ho, h1, h2, Sem.run_bind, hrun, Result.andThen_ok, Sem.run_pure]
  rw [hex]
  have hput : ∀ v, (Act.put ⟨tmps, []⟩ o.dst v) = ⟨tmps.setIfInBounds d v, []⟩ := fun v => by rw [hd]; rfl
  show wpList P ops (lift c n Q) rest (Act.put ⟨tmps, []⟩ o.dst _) _
  rw [hput]
  have hkJ : Nat.ble 1000 (d + 1000) = true := Nat.ble_eq_true_of_le (by omega)
  have hsize : zi.size = zv.cells.size := by omega
  have hmax : m.toNat ≤ maxLen := by simp only [maxLen]; omega
  have hl := made_list zv.cells m.toNat
  rw [← hsize] at hl
  have hlen : (madeCells zv.cells (m.toNat * zi.size)).size = m.toNat * E.size := by rw [size_madeCells]; simp only [hsz, hs]
  have hr' := hr.eff1 (d + 1000) (w' := w.alloc (.cells (madeCells zv.cells (m.toNat * zi.size)) e)) (r := .own e E (List.replicate m.toNat z)) (v := .slice (some ⟨w.heap.size, 0, none⟩) m.toNat m.toNat) (keep_alloc _ w _)
    ⟨(madeCells zv.cells (m.toNat * zi.size)).toList, ⟨by simp [hlen], _, _, by simp, .inr ⟨w.heap.size, _, rfl, Nat.zero_le _, heap_alloc_new w _, by simp, hmax, by rw [hlen]; exact Nat.le_refl _, by
      rw [List.take_of_length_le]; simp [hlen]⟩⟩, by rw [hl]; exact holds_made hE hzc _, fun u hu => by
      rw [hl] at hu
      simp only [List.mem_flatten, List.mem_replicate] at hu
      obtain ⟨l, ⟨_, rfl⟩, hu⟩ := hu
      rw [hzc] at hu
      obtain ⟨q, _, rfl⟩ := List.mem_map.1 hu
      exact zval_one q⟩ rfl (fun b hb => by
        left
        cases hm0 : m.toNat with
        | zero => rw [hm0] at hb; simp [rblk, wblk] at hb
        | succ q => rw [hm0] at hb; simp [rblk, wblk] at hb; omega) hkJ hu
  exact next S _ _ _ (hr'.put (Nat.le_of_ble_eq_true hn) (by simp only [AV.holds]; rw [upd_same]))
theorem ao_clip {d j e es eb : Nat} {ek : TK} {hi mx : Operand} {α : Type} {E : Enc α} {xs : List α} {m m' : Int} (hg : o.guard = none := by rfl) (hd : o.dst = some d := by rfl) (hn : Nat.blt d n = true := by rfl) (ho : o.op = .slice t x none (some hi) (some mx) := by rfl) (hT : TTOk P T := by assumption) (ht : look T t = some ⟨.slice e, s, b⟩ := by rfl) (he : look T e = some ⟨ek, es, eb⟩ := by rfl)
    (hx : Opv fr x (.own j) := by first | exact .un rfl (by first | assumption | exact And.left (by assumption) | exact And.left (And.left (by assumption)) | exact And.left (And.left (And.left (by assumption)))) | exact .of rfl) (hj : look H j = some (.own e E xs) := by rfl) (hh : Opv fr hi (.lit (.int .i64 m)) := by first | exact .un rfl (by first | assumption | exact And.left (by assumption) | exact And.left (And.left (by assumption)) | exact And.left (And.left (And.left (by assumption)))) | exact .of rfl) (hm : Opv fr mx (.lit (.int .i64 m')) := by first | exact .un rfl (by first | assumption | exact And.left (by assumption) | exact And.left (And.left (by assumption)) | exact And.left (And.left (And.left (by assumption)))) | exact .of rfl) (e1 : m = (xs.length : Int) := by first | rfl | omega) (e2 : m' = (xs.length : Int) := by first | rfl | omega) (hs : es = E.size := by rfl)
    (hu : usesH (one1 (d + 1000)) (dropH (fun i => one1 j i || one1 (d + 1000) i) H) = true := by rfl)
    (next : AOps P c n ops rest Q ((d, .own (d + 1000)) :: markF (one1 (d + 1000)) fr) ((d + 1000, .own e E xs) :: dropH (fun i => one1 j i || one1 (d + 1000) i) H)) : AOps P c n ops (o :: rest) Q fr H := fun S γ tmps w hr => by
  refine ao_plain hg ?_
  have env := hr.env (ds := []) (fun _ => True)
  have h1 := env.get hx trivial
  have h2 := env.lit hh trivial
  have h3 := env.lit hm trivial
  simp only [AV.holds] at h1
  subst e1; subst e2
  obtain ⟨vs, ho', hh', h1'⟩ := hr.st.res j _ hj
  have hrow := ho'
  obtain ⟨hl, A, cp, hv, hcase⟩ := ho'
  have hle : xs.length ≤ cp := by
    rcases hcase with ⟨h, h'⟩ | ⟨_, _, _, _, _, h, _⟩
    · omega
    · exact h
  have hA : (if xs.length = 0 then A else A.map (·.add (0 * es))) = A := by
    split
    · rfl
    · rcases hcase with ⟨h, _⟩ | ⟨g, cur, rfl, _⟩
      · contradiction
      · simp [Addr.add]
  have hex : (execOp (Act.eval ⟨tmps, []⟩) o).run P w = .ok (.value (.slice A xs.length xs.length)) w := by
    have hsz := hT.size he w
    simp only at hsz
    have n1 : ((xs.length : Nat) : Int) ≤ ((cp : Nat) : Int) := by omega
    simp [execOp, ho, h1, hv, h2, h3, Instr.sliceAt, Instr.slice, run_underlying (hT.slice ht), Instr.sliceBounds, Instr.sliceBound, asIntOf, hle, hsz]
    simpa using hA
  rw [hex]
  have hput : ∀ v, (Act.put ⟨tmps, []⟩ o.dst v) = ⟨tmps.setIfInBounds d v, []⟩ := fun v => by rw [hd]; rfl
  show wpList P ops (lift c n Q) rest (Act.put ⟨tmps, []⟩ o.dst _) _
  rw [hput]
  have hkJ : 1000 ≤ d + 1000 := by omega
  have hblk : ∀ b, rblk (.slice A xs.length xs.length) = some b → rblk (γ j) = some b := fun b hb => by
    rw [hv]
    rcases hcase with ⟨h, h'⟩ | ⟨g, cur, rfl, _⟩
    · rw [h] at hb; cases A <;> simp [rblk, wblk] at hb
    · cases hx0 : xs.length with
      | zero => rw [hx0] at hb; simp [rblk, wblk] at hb
      | succ q =>
        rw [hx0] at hb hle
        cases cp with
        | zero => omega
        | succ r => simpa [rblk, wblk] using hb
  have hown : Own w 0 e E.size (.slice A xs.length xs.length) xs.length vs := by
    refine ⟨hl, A, xs.length, rfl, ?_⟩
    rcases hcase with ⟨h, h'⟩ | ⟨g, cur, rfl, h0, hg', hnc, hcm, hcs, htk⟩
    · exact .inl ⟨h, h⟩
    · exact .inr ⟨g, cur, rfl, h0, hg', Nat.le_refl _, by omega, Nat.le_trans (Nat.mul_le_mul_right _ hnc) hcs, htk⟩
  have hst : St S (upd γ (d + 1000) (.slice A xs.length xs.length)) w [(d + 1000, .own e E xs)] := by
    refine ⟨?_, ?_, ?_, hr.st.sz, ?_⟩
    · intro i r hi
      obtain ⟨rfl, rfl⟩ := look_one hi
      rw [upd_same]
      exact ⟨vs, hown, hh', h1'⟩
    · intro i i' ri rj b hi hi' _ _
      rw [(look_one hi).1, (look_one hi').1]
    · intro i r b hi hb hS
      obtain ⟨rfl, rfl⟩ := look_one hi
      rw [upd_same] at hb
      exact hr.st.live j _ b hj (hblk b hb) hS
    · intro i
      by_cases hi : i = d + 1000
      · subst hi; rw [upd_same]; rfl
      · rw [upd_other hi]; exact hr.st.one i
  have he' := hr.eff (fun i => one1 j i || one1 (d + 1000) i) (one1 (d + 1000)) (w' := w) (S' := S) (γ' := upd γ (d + 1000) (.slice A xs.length xs.length)) (Hn := [(d + 1000, .own e E xs)]) (fun i hi => by simp [hi]) (Keep.refl _ _) (fun _ h => h) (fun b h => .inl h) hst
    (fun i r b hi hb => by
      obtain ⟨rfl, rfl⟩ := look_one hi
      rw [upd_same] at hb
      exact .inr ⟨j, _, by simp [one1_iff.2 rfl], hj, hblk b hb⟩)
    (fun i r hi => by rw [(look_one hi).1]; simp [one1_iff.2 rfl])
    (fun i hi => upd_other (by rintro rfl; rw [one1_iff.2 rfl] at hi; cases hi))
    (fun i hi => by
      have := c.lt i hi
      cases hb : one1 (d + 1000) i with
      | false => rfl
      | true => have := one1_iff.1 hb; omega) hu
  exact next S _ _ _ (he'.put (Nat.le_of_ble_eq_true hn) (by simp only [AV.holds]; rw [upd_same]))
/-- guards that are known -/
theorem sop_false {o : Oper} (h : False) : SOp P o fr H .any := h.elim
theorem ao_yes {j dj : Nat} {want g : Bool} (hgd : o.guard = some (j, want) := by rfl) (hd : dstOf ops j = some dj := by rfl) (hl : look fr dj = some (.lit (.bool g)) := by rfl) (hw : g = want := by first | rfl | assumption)
    (next : AOps P c n ops ({ o with guard := none } :: rest) Q fr H) : AOps P c n ops (o :: rest) Q fr H := fun S γ tmps w hr => by
  have h1 := next S γ tmps w hr
  have hv := hr.fr dj _ hl
  simp only [AV.holds] at hv
  unfold wpList at h1 ⊢
  rw [if_pos (by simp [Region.wanted])] at h1
  have hy : yielded ops tmps j = some want := by
    unfold yielded
    unfold dstOf at hd
    rw [hd]
    simp only [Array.getD_eq_getD_getElem?] at hv
    cases ht : tmps[dj]? with
    | none => simp [ht, undef] at hv
    | some u =>
      simp only [ht, Option.getD_some] at hv
      subst hv; subst hw
      simp [ht]
  rw [if_pos (by simp [Region.wanted, hgd, hy])]
  exact h1
theorem ao_no {d j dj : Nat} {want g : Bool} (hgd : o.guard = some (j, want) := by rfl) (hdd : o.dst = some d := by rfl) (hn : Nat.blt d n = true := by rfl) (hd : dstOf ops j = some dj := by rfl) (hl : look fr dj = some (.lit (.bool g)) := by rfl) (hw : g = !want := by first | rfl | assumption)
    (next : AOps P c n ops rest Q ((d, .when False .any) :: fr) H) : AOps P c n ops (o :: rest) Q fr H := by
  have hne : g ≠ want := by rw [hw]; cases want <;> simp
  have := ao_op (P := P) (c := c) (n := n) (Q := Q) (rest := rest) (H := H) (o := o) (ops := ops) (fr := fr) (a := .when (g = want) .any) hdd hn (.guard hgd hd hl fun h => absurd h hne) (by
    intro S γ tmps w hr
    refine next S γ tmps w ⟨hr.st, fun x av hx => ?_, hr.up, hr.own, hr.ids, hr.size, hr.keep⟩
    rw [look_cons] at hx
    split at hx
    · rename_i e
      injection hx with hx
      have := hr.fr d (.when (g = want) .any) (by rw [look_cons, if_pos rfl])
      subst e; subst hx
      simp only [AV.holds] at this ⊢
      exact ⟨fun h => h.elim, fun _ => this.2 hne⟩
    · rename_i e
      exact hr.fr x av (by rw [look_cons, if_neg e]; exact hx))
  exact this
/-- effects: the entries of the operands -/
def opEs (o : Oper) (fr : List (Nat × AV)) : List (Nat × AV) := esOf o.op.operands.toList
where
  esOf : List Operand → List (Nat × AV)
    | [] => []
    | .tmp t :: r => match look fr t with
      | some a => (t, a) :: esOf r
      | none => esOf r
    | _ :: r => esOf r
theorem subF_es (fr : List (Nat × AV)) : ∀ (l : List Operand), subF fr (opEs.esOf fr l)
  | [] => trivial
  | .tmp t :: r => by
    unfold opEs.esOf
    cases h : look fr t with
    | none => exact subF_es fr r
    | some a => exact ⟨h, subF_es fr r⟩
  | .const _ :: r => subF_es fr r
  | .func _ :: r => subF_es fr r
  | .global _ :: r => subF_es fr r
theorem es_mem (fr : List (Nat × AV)) : ∀ (l : List Operand) (p : Nat × AV), p ∈ opEs.esOf fr l → Operand.tmp p.1 ∈ l
  | [], p, h => by cases h
  | .tmp t :: r, p, h => by
    unfold opEs.esOf at h
    cases hl : look fr t with
    | none => rw [hl] at h; exact List.mem_cons_of_mem _ (es_mem fr r p h)
    | some a =>
      rw [hl] at h
      rcases List.mem_cons.1 h with rfl | h
      · exact List.mem_cons_self
      · exact List.mem_cons_of_mem _ (es_mem fr r p h)
  | .const _ :: r, p, h => List.mem_cons_of_mem _ (es_mem fr r p h)
  | .func _ :: r, p, h => List.mem_cons_of_mem _ (es_mem fr r p h)
  | .global _ :: r, p, h => List.mem_cons_of_mem _ (es_mem fr r p h)
theorem es_opd (o : Oper) (fr : List (Nat × AV)) : ((opEs o fr).all fun p => isOpd o p.1) = true := by
  rw [List.all_eq_true]
  intro p hp
  have := es_mem fr _ p hp
  unfold isOpd
  rw [List.any_eq_true]
  exact ⟨_, this, by simp⟩
variable {HN : List (Nat × Res)} {N : Nat → Bool}
theorem evx_eff' {K : List (Nat × AV) → List (Nat × Res) → List XK → Prop} {d : Nat} {out : AV} {M : Nat → Bool} {H' : List (Nat × Res)} (hd : o.dst = some d) (hg : GYes ops o fr) (h : EOp P c n o (opEs o fr) H d out M H') (hN : dropH N H' = dropH N H)
    (next : EvX P c n ops HN N (fun f H ks => K f H (.eff (some out) M H' :: ks)) rest ((d, out) :: markF M fr) H') : EvX P c n ops HN N K (o :: rest) fr H :=
  evx_eff hd hg (subF_es fr _) (es_opd o fr) h hN next
theorem evx_effU' {K : List (Nat × AV) → List (Nat × Res) → List XK → Prop} {H' : List (Nat × Res)} (hd : o.dst = none) (hg : GYes ops o fr) (h : EOp0 P c n o (opEs o fr) H H') (hN : dropH N H' = dropH N H)
    (next : EvX P c n ops HN N (fun f H ks => K f H (.eff none (fun _ => false) H' :: ks)) rest fr H') : EvX P c n ops HN N K (o :: rest) fr H :=
  .cons (.effU hd hg (subF_es fr _) (es_opd o fr) h hN) (by simpa [stepF, hL, markF_none] using next)
theorem markF_idem (M : Nat → Bool) (fr : List (Nat × AV)) : markF M (markF M fr) = markF M fr := by
  unfold markF
  rw [List.map_map]
  apply List.map_congr_left
  intro p _
  simp only [Function.comp]
  cases h : p.2.uses (fun j => !(M j)) with
  | true => simp [h]
  | false => simp [AV.uses]
/-- a slice of one's own that a cell of one's own names, once it is only read -/
def frzC {α : Type} (j : Nat) (E : Enc α) (xs : List α) : List AV → List AV
  | [] => []
  | .own i :: r => (match Nat.beq i j with | true => .snap (slF E xs) | false => .own i) :: frzC j E xs r
  | a :: r => a :: frzC j E xs r
theorem frzC_holds {S' : Nat → Prop} {α : Type} {E : Enc α} {xs : List α} {j e : Nat} (hst : St S γ w H) (hj : look H j = some (.own e E xs)) (hS : ∀ b, S b → S' b) (hb : ∀ b, rblk (γ j) = some b → S' b) : ∀ (cs : List AV) (vs : List Value), AV.holdsL S γ w cs vs → AV.holdsL S' γ w (frzC j E xs cs) vs
  | [], vs, h => h
  | a :: r, vs, h => by
    simp only [AV.holdsL] at h
    obtain ⟨v, vs', rfl, h1, h2⟩ := h
    have ih := frzC_holds hst hj hS hb r vs' h2
    have keep : AV.holdsL S' γ w (a :: frzC j E xs r) (v :: vs') := by
      simp only [AV.holdsL]
      exact ⟨v, vs', rfl, AV.ext hS (fun _ _ => rfl) h1, ih⟩
    cases a with
    | own i =>
      unfold frzC
      cases hi : Nat.beq i j with
      | false => simpa [hi] using keep
      | true =>
        have := Nat.eq_of_beq_eq_true hi
        subst this
        simp only [AV.holdsL]
        refine ⟨v, vs', rfl, ?_, ih⟩
        simp only [AV.holds] at h1 ⊢
        rw [h1]
        exact own_snap hst hj hS hb
    | _ => exact keep
theorem Rel.freezeIn {α : Type} {E : Enc α} {xs : List α} {e : Nat} {cs : List AV} {tmps : Array Value} (hr : Rel c n fr H S γ tmps w) (i j : Nat) (hi : look H i = some (.box cs)) (hj : look H j = some (.own e E xs)) : Rel c n (frzO j E xs fr) ((i, .box (frzC j E xs cs)) :: dropH (fun q => one1 i q || one1 j q) H) (fun b => S b ∨ rblk (γ j) = some b) γ tmps w := by
  have h0 := hr.freezeOwn j hj
  have hij : i ≠ j := by
    rintro rfl
    rw [hi] at hj; injection hj with hj; cases hj
  have hlk : ∀ q r, look ((i, Res.box (frzC j E xs cs)) :: dropH (fun q => one1 i q || one1 j q) H) q = some r → (q = i ∧ r = .box (frzC j E xs cs)) ∨ (q ≠ i ∧ look (dropH (one1 j) H) q = some r) := fun q r hq => by
    rw [look_cons] at hq
    split at hq
    · rename_i e
      injection hq with hq
      exact .inl ⟨e.symm, hq.symm⟩
    · rename_i e
      rw [look_drop] at hq
      split at hq
      · cases hq
      · rename_i h1
        refine .inr ⟨fun h => e h.symm, ?_⟩
        rw [look_drop, if_neg (fun h => h1 (by simp [h]))]
        exact hq
  have hi' : look (dropH (one1 j) H) i = some (.box cs) := by
    rw [look_drop, if_neg (fun h => hij (one1_iff.1 h).symm)]; exact hi
  refine ⟨⟨fun q r hq => ?_, fun q q' r r' b hq hq' hb hb' => ?_, fun q r b hq hb hS => ?_, h0.st.sz, h0.st.one⟩, h0.fr, h0.up, fun q r b hq hb => ?_, h0.ids, h0.size, h0.keep⟩
  · rcases hlk q r hq with ⟨rfl, rfl⟩ | ⟨_, h⟩
    · obtain ⟨g, arr, e', hv, hh, hc⟩ := hr.st.res q _ hi
      exact ⟨g, arr, e', hv, hh, frzC_holds hr.st hj (fun b h => .inl h) (fun b h => .inr h) cs _ hc⟩
    · exact h0.st.res q r h
  · have : ∀ q r, look ((i, Res.box (frzC j E xs cs)) :: dropH (fun q => one1 i q || one1 j q) H) q = some r → ∃ r', look (dropH (one1 j) H) q = some r' := fun q r hq => by
      rcases hlk q r hq with ⟨rfl, _⟩ | ⟨_, h⟩
      · exact ⟨_, hi'⟩
      · exact ⟨_, h⟩
    obtain ⟨r1, h1⟩ := this q r hq
    obtain ⟨r2, h2⟩ := this q' r' hq'
    exact h0.st.dis q q' r1 r2 b h1 h2 hb hb'
  · rcases hlk q r hq with ⟨rfl, _⟩ | ⟨_, h⟩
    · exact h0.st.live q _ b hi' hb hS
    · exact h0.st.live q r b h hb hS
  · rcases hlk q r hq with ⟨rfl, _⟩ | ⟨_, h⟩
    · exact h0.own q _ b hi' hb
    · exact h0.own q r b h hb
theorem a_freezeIn {code : Code} {α : Type} {E : Enc α} {xs : List α} {e : Nat} {cs : List AV} (i j : Nat) (hi : look H i = some (.box cs)) (hj : look H j = some (.own e E xs)) (h : ACode P c n code Q (frzO j E xs fr) ((i, .box (frzC j E xs cs)) :: dropH (fun q => one1 i q || one1 j q) H)) : ACode P c n code Q fr H := fun S γ tmps w hr => h _ γ tmps w (hr.freezeIn i j hi hj)
theorem Rel.sub {fr' : List (Nat × AV)} {H' : List (Nat × Res)} {tmps : Array Value} (h : Rel c n fr' H' S γ tmps w) (hf : ∀ x a, look fr x = some a → look fr' x = some a) (hH : ∀ j r, look H j = some r → look H' j = some r) : Rel c n fr H S γ tmps w :=
  ⟨⟨fun j r hj => h.st.res j r (hH j r hj), fun i j ri rj b hi hj => h.st.dis i j ri rj b (hH i ri hi) (hH j rj hj), fun j r b hj => h.st.live j r b (hH j r hj), h.st.sz, h.st.one⟩, fun x a hx => h.fr x a (hf x a hx), h.up, fun j r b hj => h.own j r b (hH j r hj), h.ids, h.size, h.keep⟩
theorem fresh_none {Hin Hout : List (Nat × Res)} (h : idsOf Hout = idsOf Hin) (ρ : Nat → Nat) : anyId ρ (freshIds Hin Hout) = fun _ => false := by
  have : freshIds Hin Hout = [] := by
    unfold freshIds
    rw [h, List.filter_eq_nil_iff]
    intro j hj
    simpa using hj
  rw [this]; rfl
theorem look_renH_at {ρ : Nat → Nat} : ∀ {H : List (Nat × Res)} {j : Nat}, j ∈ idsOf H → ∃ r, look (renH ρ H) (ρ j) = some r
  | (k, r) :: H, j, h => by
    have e : renH ρ ((k, r) :: H) = (ρ k, r.ren ρ) :: renH ρ H := rfl
    rw [e, look_cons]
    split
    · exact ⟨_, rfl⟩
    · rename_i hne
      refine look_renH_at (H := H) ?_
      have h' : j = k ∨ j ∈ idsOf H := by simpa [idsOf] using h
      rcases h' with rfl | h'
      · exact absurd rfl hne
      · exact h'
/-- a call that leaves resources as they are -/
theorem ao_callK (L : List (Nat × Nat)) {f : FuncId} {zs : Array Operand} {tys : Array TypeId} {as : List AV} {Hin : List (Nat × Res)} {out : AV} {d : Nat} (hC : Con P f as Hin fun a h => a = out ∧ h = Hin) (hg : o.guard = none := by rfl) (hd : o.dst = some d := by rfl) (hn : Nat.blt d n = true := by rfl)
    (ho : o.op = .call { callee := .value (.func f), args := zs, argTypes := tys } := by rfl) (hf : entersB P f = true := by kernel_rfl) (hargs : ArgsOk false fr H zs.toList (AV.renL (renC L d) as) := by repeat (first | exact .nil | refine .cons (by first | exact .un rfl (by first | assumption | exact And.left (by assumption) | exact And.left (And.left (by assumption)) | exact And.left (And.left (And.left (by assumption)))) | exact .of rfl) ?_ | refine .lend rfl (by first | exact .un rfl (by first | assumption | exact And.left (by assumption) | exact And.left (And.left (by assumption)) | exact And.left (And.left (And.left (by assumption)))) | exact .of rfl) (by rfl) ?_ | refine .nilS (by first | exact .un rfl (by first | assumption | exact And.left (by assumption) | exact And.left (And.left (by assumption)) | exact And.left (And.left (And.left (by assumption)))) | exact .of rfl) ?_))
    (hin : HinOk H (renC L d) Hin := by repeat (first | exact trivial | refine ⟨rfl, ?_⟩)) (hinj : injB (renC L d) (idsOf Hin) = true := by rfl)
    (hok : callOk (renC L d) out Hin Hin H = true := by rfl)
    (next : AOps P c n ops rest Q ((d, out.ren (renC L d)) :: fr) H) : AOps P c n ops (o :: rest) Q fr H := by
  refine ao_callG (B := false) L hC hg hd hn ho hf hargs hin hinj (fun h => by cases h) hok (.inl rfl) ?_
  intro S γ tmps w hr
  refine next S γ tmps w (hr.sub (fun x a hx => ?_) fun j r hj => ?_)
  · rw [fresh_none rfl, markF_none]; exact hx
  · rw [look_append]
    cases hl : look (renH (renC L d) Hin) j with
    | some r' =>
      simp only [Option.some_or, Option.some.injEq]
      obtain ⟨i, r0, h1, h2, h3⟩ := look_renH_inj (injB_iff hinj) hl
      have := hin.at i r0 h1
      rw [h2, hj] at this
      injection this with this
      rw [h3, this]
    | none =>
      simp only [Option.none_or]
      rw [look_drop, if_neg]
      · exact hj
      · intro hD
        obtain ⟨i, hi, rfl⟩ := anyId_iff.1 hD
        have hi' : i ∈ idsOf Hin := by simpa using hi
        obtain ⟨r', hr'⟩ := look_renH_at (ρ := renC L d) hi'
        rw [hr'] at hl; cases hl
/-- a call that changes resources, and makes none -/
theorem ao_callS (L : List (Nat × Nat)) {f : FuncId} {zs : Array Operand} {tys : Array TypeId} {as : List AV} {Hin Hout : List (Nat × Res)} {out : AV} {d : Nat} (hC : Con P f as Hin fun a h => a = out ∧ h = Hout) (hg : o.guard = none := by rfl) (hd : o.dst = some d := by rfl) (hn : Nat.blt d n = true := by rfl)
    (ho : o.op = .call { callee := .value (.func f), args := zs, argTypes := tys } := by rfl) (hf : entersB P f = true := by kernel_rfl) (hargs : ArgsOk false fr H zs.toList (AV.renL (renC L d) as) := by repeat (first | exact .nil | refine .cons (by first | exact .un rfl (by first | assumption | exact And.left (by assumption) | exact And.left (And.left (by assumption)) | exact And.left (And.left (And.left (by assumption)))) | exact .of rfl) ?_ | refine .lend rfl (by first | exact .un rfl (by first | assumption | exact And.left (by assumption) | exact And.left (And.left (by assumption)) | exact And.left (And.left (And.left (by assumption)))) | exact .of rfl) (by rfl) ?_ | refine .nilS (by first | exact .un rfl (by first | assumption | exact And.left (by assumption) | exact And.left (And.left (by assumption)) | exact And.left (And.left (And.left (by assumption)))) | exact .of rfl) ?_))
    (hin : HinOk H (renC L d) Hin := by repeat (first | exact trivial | refine ⟨rfl, ?_⟩)) (hinj : injB (renC L d) (idsOf Hin) = true := by rfl)
    (hok : callOk (renC L d) out Hin Hout H = true := by rfl) (hids : idsOf Hout = idsOf Hin := by rfl)
    (next : AOps P c n ops rest Q ((d, out.ren (renC L d)) :: fr) (renH (renC L d) Hout ++ H)) : AOps P c n ops (o :: rest) Q fr H := by
  refine ao_callG (B := false) L hC hg hd hn ho hf hargs hin hinj (fun h => by cases h) hok (.inl rfl) ?_
  intro S γ tmps w hr
  refine next S γ tmps w (hr.sub (fun x a hx => ?_) fun j r hj => ?_)
  · rw [fresh_none hids, markF_none]; exact hx
  · rw [look_append] at hj ⊢
    cases hl : look (renH (renC L d) Hout) j with
    | some r' => rw [hl] at hj; simpa using hj
    | none =>
      rw [hl] at hj
      simp only [Option.none_or] at hj ⊢
      rw [look_drop, if_neg]
      · exact hj
      · intro hD
        obtain ⟨i, hi, rfl⟩ := anyId_iff.1 hD
        have hi' : i ∈ idsOf Hout := by rw [hids] at hi ⊢; simpa using hi
        obtain ⟨r', hr'⟩ := look_renH_at (ρ := renC L d) hi'
        rw [hr'] at hl; cases hl
theorem aops_id (h : AOps P c n ops rest Q fr H) : AOps P c n ops rest Q fr H := h
theorem a_frz (id i j : Nat) {ops : Array Oper} {b : Bool} {α : Type} {E : Enc α} {xs : List α} {e : Nat} {cs : List AV} (hi : look H i = some (.box cs) := by rfl) (hj : look H j = some (.own e E xs) := by rfl) (hp : AV.usesL (fun _ => false) (frzC j E xs cs) = true := by rfl) (h : ACode P c n (.region id ops b) Q (frzB i (frzC j E xs cs) (frzO j E xs fr)) (dropH (one1 i) ((i, .box (frzC j E xs cs)) :: dropH (fun q => one1 i q || one1 j q) H))) : ACode P c n (.region id ops b) Q fr H :=
  a_freezeIn i j hi hj (a_freezeBox i (by rw [look_cons, if_pos rfl]) hp h)
end
end Go.Proofs.Ytjmcbacdogjdeaa
