/- Operations that change resources, and calls, over abstract frames. Nothing of the program stands here. -/
import Derived.Test.YtjmcbacdogjdeaaAd
namespace Go.Proofs.Ytjmcbacdogjdeaa
open Go Go.RowKit
set_option linter.unusedVariables false

def dropH (D : Nat → Bool) (H : List (Nat × Res)) : List (Nat × Res) := H.filter fun p => !(D p.1)
def markF (M : Nat → Bool) (fr : List (Nat × AV)) : List (Nat × AV) := fr.map fun p => (p.1, match p.2.uses (fun j => !(M j)) with | true => p.2 | false => .any)
def usesH (M : Nat → Bool) (H : List (Nat × Res)) : Bool := H.all fun p => p.2.uses fun j => !(M j)
theorem look_drop (D : Nat → Bool) : ∀ (H : List (Nat × Res)) (j : Nat), look (dropH D H) j = if D j = true then none else look H j
  | [], j => by simp [dropH, look]
  | (k, r) :: H, j => by
    have ih := look_drop D H j
    unfold dropH at ih ⊢
    by_cases hk : D k = true
    · rw [List.filter_cons_of_neg (by simpa using hk), ih, look_cons]
      by_cases hkj : k = j
      · subst hkj; simp [hk]
      · simp [hkj]
    · rw [List.filter_cons_of_pos (by simpa using hk), look_cons, look_cons, ih]
      by_cases hkj : k = j
      · subst hkj; simp [hk]
      · simp [hkj]
theorem look_mark (M : Nat → Bool) : ∀ (fr : List (Nat × AV)) (x : Nat) (a : AV), look (markF M fr) x = some a → ∃ b, look fr x = some b ∧ a = match b.uses (fun j => !(M j)) with | true => b | false => .any
  | [], x, a, h => by simp [markF, look] at h
  | (k, b) :: fr, x, a, h => by
    unfold markF at h
    rw [List.map_cons, look_cons] at h
    rw [look_cons]
    by_cases hk : k = x
    · rw [if_pos hk] at h ⊢
      simp only [Option.some.injEq] at h
      exact ⟨b, rfl, h.symm⟩
    · rw [if_neg hk] at h ⊢
      exact look_mark M fr x a h
theorem look_append {β : Type 1} : ∀ (A B : List (Nat × β)) (j : Nat), look (A ++ B) j = (look A j).or (look B j)
  | [], B, j => by simp [look]
  | (k, v) :: A, B, j => by
    rw [List.cons_append, look_cons, look_cons, look_append A B j]
    split <;> simp
theorem look_mem {β : Type 1} : ∀ {A : List (Nat × β)} {j : Nat} {r : β}, look A j = some r → (j, r) ∈ A
  | [], j, r, h => by simp [look] at h
  | (k, v) :: A, j, r, h => by
    rw [look_cons] at h
    split at h
    · rename_i e; subst e; simp at h; subst h; exact List.mem_cons_self
    · exact List.mem_cons_of_mem _ (look_mem h)

section
variable {P : Program} {c : Ctx} {n : Nat} {Q : AQ} {fr : List (Nat × AV)} {H : List (Nat × Res)} {ops : Array Oper} {rest : List Oper} {o : Oper}
/-- some resources are used up, others take their place; the rest stands -/
theorem Rel.eff {S : Nat → Prop} {γ : Nat → Value} {tmps : Array Value} {w : World} (h : Rel c n fr H S γ tmps w) (D M : Nat → Bool) {S' : Nat → Prop} {γ' : Nat → Value} {w' : World} {Hn : List (Nat × Res)}
    (hM : ∀ j, M j = true → D j = true)
    (hk : Keep (fun b => ∃ j r, D j = true ∧ look H j = some r ∧ rblk (γ j) = some b) w w')
    (hS : ∀ b, S b → S' b) (hS' : ∀ b, S' b → S b ∨ w.heap.size ≤ b ∨ ∃ i r', D i = true ∧ look H i = some r' ∧ rblk (γ i) = some b) (hst : St S' γ' w' Hn)
    (hout : ∀ j r b, look Hn j = some r → rblk (γ' j) = some b → w.heap.size ≤ b ∨ ∃ i r', D i = true ∧ look H i = some r' ∧ rblk (γ i) = some b)
    (hD : ∀ j r, look Hn j = some r → D j = true) (hγ : ∀ j, M j = false → γ' j = γ j) (hJ : ∀ j, c.J j → M j = false) (hu : usesH M (dropH D H) = true) :
    Rel c n (markF M fr) (Hn ++ dropH D H) S' γ' tmps w' := by
  have hlive : ∀ {j r b}, D j = false → look H j = some r → rblk (γ j) = some b → w'.heap[b]? = w.heap[b]? := by
    intro j r b hj hl hb
    refine hk.block b (Res.blk_lt (h.st.res j r hl) hb) ?_
    rintro ⟨i, r', hi, hil, hib⟩
    have := h.st.dis i j r' r b hil hl hib hb
    subst this
    rw [hi] at hj; cases hj
  have hsame : Same S w w' := by
    intro b hb
    refine hk.block b (h.st.sz b hb) ?_
    rintro ⟨j, r, _, hl, hb'⟩
    exact h.st.live j r b hl hb' hb
  have hMf : ∀ j, D j = false → M j = false := fun j hj => by
    cases hm : M j with
    | false => rfl
    | true => rw [hM j hm] at hj; cases hj
  have hlook : ∀ j r, look (Hn ++ dropH D H) j = some r → look Hn j = some r ∨ (D j = false ∧ look H j = some r) := by
    intro j r hj
    rw [look_append, look_drop] at hj
    cases hn : look Hn j with
    | some r' => rw [hn] at hj; left; simpa using hj
    | none =>
      rw [hn] at hj
      right
      cases hd : D j with
      | true => simp [hd] at hj
      | false => simpa [hd] using hj
  have hmemu : ∀ j r, D j = false → look H j = some r → r.uses (fun j => !(M j)) = true := by
    intro j r hj hl
    unfold usesH at hu
    rw [List.all_eq_true] at hu
    have : look (dropH D H) j = some r := by rw [look_drop]; simp [hj, hl]
    exact hu (j, r) (look_mem this)
  refine ⟨⟨fun j r hj => ?_, fun i j ri rj b hi hj hbi hbj => ?_, fun j r b hj hb hs => ?_, hst.sz, hst.one⟩, fun x av hx => ?_, fun b hb => ?_, fun j r b hj hb => ?_, fun j hj => ?_, h.size, ?_⟩
  · rcases hlook j r hj with hj | ⟨hd, hj⟩
    · exact hst.res j r hj
    · rw [hγ j (hMf j hd)]
      exact Res.mono hS hsame (fun j => !(M j)) (fun i hi => hγ i (by simpa using hi)) (hmemu j r hd hj) (fun b hb => hlive hd hj hb) (h.st.res j r hj)
  · rcases hlook i ri hi with hi | ⟨hdi, hi⟩ <;> rcases hlook j rj hj with hj | ⟨hdj, hj⟩
    · exact hst.dis i j ri rj b hi hj hbi hbj
    · rw [hγ j (hMf j hdj)] at hbj
      rcases hout i ri b hi hbi with hge | ⟨k, r', hk', hkl, hkb⟩
      · have := Res.blk_lt (h.st.res j rj hj) hbj; omega
      · have := h.st.dis k j r' rj b hkl hj hkb hbj
        subst this; rw [hk'] at hdj; cases hdj
    · rw [hγ i (hMf i hdi)] at hbi
      rcases hout j rj b hj hbj with hge | ⟨k, r', hk', hkl, hkb⟩
      · have := Res.blk_lt (h.st.res i ri hi) hbi; omega
      · have := h.st.dis k i r' ri b hkl hi hkb hbi
        subst this; rw [hk'] at hdi; cases hdi
    · rw [hγ i (hMf i hdi)] at hbi
      rw [hγ j (hMf j hdj)] at hbj
      exact h.st.dis i j ri rj b hi hj hbi hbj
  · rcases hlook j r hj with hj | ⟨hd, hj⟩
    · exact hst.live j r b hj hb hs
    · rw [hγ j (hMf j hd)] at hb
      rcases hS' b hs with hs | hge | ⟨k, r', hk', hkl, hkb⟩
      · exact h.st.live j r b hj hb hs
      · have := Res.blk_lt (h.st.res j r hj) hb; omega
      · have := h.st.dis k j r' r b hkl hj hkb hb
        subst this; rw [hk'] at hd; cases hd
  · obtain ⟨a, ha, rfl⟩ := look_mark M fr x av hx
    have hh := h.fr x a ha
    cases hua : a.uses (fun j => !(M j)) with
    | true =>
      exact AV.mono hS hsame (fun j => !(M j)) (fun i hi => hγ i (by simpa using hi)) a _ hua hh
    | false => simp only [AV.holds]
  · rcases hS' b hb with hb | hb | ⟨k, r', _, hkl, hkb⟩
    · exact h.up b hb
    · have := h.keep.size; right; left; omega
    · exact .inr (h.own k r' b hkl hkb)
  · rcases hlook j r hj with hj | ⟨hd, hj⟩
    · rcases hout j r b hj hb with hge | ⟨i, r', _, hil, hib⟩
      · have := h.keep.size; left; omega
      · exact h.own i r' b hil hib
    · rw [hγ j (hMf j hd)] at hb
      exact h.own j r b hj hb
  · rw [hγ j (hJ j hj)]; exact h.ids j hj
  · refine h.keep.trans hk ?_
    rintro b ⟨j, r, _, hl, hb⟩
    rcases h.own j r b hl hb with h1 | h1
    · exact .inr h1
    · exact .inl h1

def upd (γ : Nat → Value) (k : Nat) (v : Value) : Nat → Value := fun j => if j = k then v else γ j
theorem upd_same (γ : Nat → Value) (k : Nat) (v : Value) : upd γ k v k = v := by simp [upd]
theorem upd_other {γ : Nat → Value} {k j : Nat} {v : Value} (h : j ≠ k) : upd γ k v j = γ j := by simp [upd, h]
def one1 (k : Nat) : Nat → Bool := fun j => Nat.beq k j
theorem one1_iff {k j : Nat} : one1 k j = true ↔ k = j := by
  unfold one1
  constructor
  · exact Nat.eq_of_beq_eq_true
  · rintro rfl; simp
theorem look_one {k j : Nat} {r r' : Res} (h : look [(k, r)] j = some r') : j = k ∧ r' = r := by
  rw [look_cons] at h
  split at h
  · rename_i e; simp at h; exact ⟨e.symm, h.symm⟩
  · simp [look] at h
/-- one resource is new, or takes the place of its own elder self -/
theorem Rel.eff1 {S : Nat → Prop} {γ : Nat → Value} {tmps : Array Value} {w : World} (h : Rel c n fr H S γ tmps w) (k : Nat) {w' : World} {r : Res} {v : Value}
    (hk : Keep (fun b => ∃ r, look H k = some r ∧ rblk (γ k) = some b) w w')
    (hr : r.holds S (upd γ k v) w' v) (hv1 : v.oneCell' = true)
    (hb : ∀ b, rblk v = some b → w.heap.size ≤ b ∨ ∃ r', look H k = some r' ∧ rblk (γ k) = some b)
    (hkJ : Nat.ble 1000 k = true) (hu : usesH (one1 k) (dropH (one1 k) H) = true) :
    Rel c n (markF (one1 k) fr) ((k, r) :: dropH (one1 k) H) S (upd γ k v) tmps w' := by
  have hk1000 : 1000 ≤ k := Nat.le_of_ble_eq_true hkJ
  have hst : St S (upd γ k v) w' [(k, r)] := by
    refine ⟨?_, ?_, ?_, ?_, ?_⟩
    · intro j r' hj
      obtain ⟨rfl, rfl⟩ := look_one hj
      rw [upd_same]; exact hr
    · intro i j ri rj b hi hj _ _
      rw [(look_one hi).1, (look_one hj).1]
    · intro j r' b hj hb' hs
      obtain ⟨rfl, rfl⟩ := look_one hj
      rw [upd_same] at hb'
      rcases hb b hb' with h1 | ⟨r', h1, h2⟩
      · have := h.st.sz b hs; omega
      · exact h.st.live j r' b h1 h2 hs
    · intro b hs; have := h.st.sz b hs; have := hk.size; omega
    · intro j
      by_cases hj : j = k
      · subst hj; rw [upd_same]; exact hv1
      · rw [upd_other hj]; exact h.st.one j
  refine h.eff (one1 k) (one1 k) (Hn := [(k, r)]) (fun _ h => h) ⟨hk.os, hk.tape, hk.output, hk.size, fun b hb hn => hk.block b hb fun ⟨r, h1, h2⟩ => hn ⟨k, r, one1_iff.2 rfl, h1, h2⟩⟩ (fun _ h => h) (fun b h => .inl h) hst ?_ ?_ ?_ ?_ hu
  · intro j r' b hj hb'
    obtain ⟨rfl, rfl⟩ := look_one hj
    rw [upd_same] at hb'
    rcases hb b hb' with h1 | ⟨r', h1, h2⟩
    · exact .inl h1
    · exact .inr ⟨j, r', one1_iff.2 rfl, h1, h2⟩
  · intro j r' hj
    exact one1_iff.2 (look_one hj).1.symm
  · intro j hj
    refine upd_other ?_
    rintro rfl
    rw [one1_iff.2 rfl] at hj; cases hj
  · intro j hj
    have := c.lt j hj
    cases hb : one1 k j with
    | false => rfl
    | true => have := one1_iff.1 hb; omega

/-- the cells that a value fills -/
def cellsOf : AV → Option (List AV)
  | .lit v => if v.oneCell' then some [.lit v] else none
  | .snap F => some [.snap F]
  | .own j => some [.own j]
  | .ptr j off => some [.ptr j off]
  | .fn f cs => some [.fn f cs]
  | .agg cs => some cs
  | _ => none
theorem cells_one {v : Value} (h : v.oneCell' = true) : v.cells = #[v] := by cases v <;> first | rfl | (simp [Value.oneCell'] at h)
theorem AV.one {S : Nat → Prop} {γ : Nat → Value} {w : World} (hγ : ∀ j, (γ j).oneCell' = true) {a : AV} {v : Value} (h : a.holds S γ w v) (ha : a.allOne = true) : v.oneCell' = true := by
  cases a with
  | lit u => simp only [AV.holds] at h; subst h; exact ha
  | snap F => simp only [AV.holds] at h; exact F.one h
  | own j => simp only [AV.holds] at h; subst h; exact hγ j
  | ptr j off => simp only [AV.holds] at h; obtain ⟨g, _, rfl⟩ := h; rfl
  | fn f cs => simp only [AV.holds] at h; obtain ⟨vs, rfl, _⟩ := h; rfl
  | _ => simp [AV.allOne] at ha
theorem cellsOf_holds {S : Nat → Prop} {γ : Nat → Value} {w : World} (hγ : ∀ j, (γ j).oneCell' = true) {a : AV} {cs : List AV} {v : Value} (hc : cellsOf a = some cs) (h : a.holds S γ w v) : AV.holdsL S γ w cs v.cells.toList := by
  have one : a.allOne = true → cs = [a] → AV.holdsL S γ w cs v.cells.toList := by
    rintro ha rfl
    rw [cells_one (AV.one hγ h ha)]
    simp only [AV.holdsL]
    exact ⟨v, [], rfl, h, rfl⟩
  cases a with
  | lit u =>
    simp only [cellsOf] at hc
    split at hc
    · rename_i hu
      simp only [Option.some.injEq] at hc
      exact one hu hc.symm
    · cases hc
  | agg ds =>
    simp only [cellsOf, Option.some.injEq] at hc; subst hc
    simp only [AV.holds] at h
    obtain ⟨vs, rfl, h⟩ := h
    simpa [Value.cells] using h
  | snap F => simp only [cellsOf, Option.some.injEq] at hc; exact one rfl hc.symm
  | own j => simp only [cellsOf, Option.some.injEq] at hc; exact one rfl hc.symm
  | ptr j off => simp only [cellsOf, Option.some.injEq] at hc; exact one rfl hc.symm
  | fn f ds => simp only [cellsOf, Option.some.injEq] at hc; exact one rfl hc.symm
  | _ => simp [cellsOf] at hc

theorem ao_plain (hg : o.guard = none := by rfl) {tmps : Array Value} {w : World}
    (h : Outcome P (fun v w' => wpList P ops (lift c n Q) rest (Act.put ⟨tmps, []⟩ o.dst v) w') ((execOp (Act.eval ⟨tmps, []⟩) o).run P w)) : wpList P ops (lift c n Q) (o :: rest) ⟨tmps, []⟩ w := by
  unfold wpList
  rw [if_pos (by simp [Region.wanted, hg])]
  exact .inl (Outcome.upon h)

theorem keep_alloc (L : Nat → Prop) (w : World) (o : Obj) : Keep L w (w.alloc o) := Keep.of_ext (Ext.alloc w o)
/-- a new block of cells, filled -/
theorem Rel.newBox {S : Nat → Prop} {γ : Nat → Value} {tmps : Array Value} {w : World} (h : Rel c n fr H S γ tmps w) (k : Nat) {cs : List AV} {arr : Array Value} {e : TypeId} (hc : AV.holdsL S γ w cs arr.toList)
    (hkJ : Nat.ble 1000 k = true) (hu : usesH (one1 k) (dropH (one1 k) H) = true) (hcu : AV.usesL (fun j => !(one1 k j)) cs = true) :
    Rel c n (markF (one1 k) fr) ((k, .box cs) :: dropH (one1 k) H) S (upd γ k (.pointer (some ⟨w.heap.size, 0, none⟩))) tmps (w.alloc (.cells arr e)) := by
  refine h.eff1 k (keep_alloc _ w _) ⟨w.heap.size, arr, e, rfl, heap_alloc_new w _, ?_⟩ rfl (fun b hb => ?_) hkJ hu
  · refine AV.monoL (fun _ h => h) (same_of_ext h.st.sz (Ext.alloc w _)) _ (fun j hj => upd_other ?_) cs _ hcu hc
    rintro rfl
    rw [one1_iff.2 rfl] at hj; cases hj
  · simp [rblk] at hb; subst hb; exact .inl (Nat.le_refl _)
theorem ptr_new {S : Nat → Prop} {γ : Nat → Value} {w : World} {k g : Nat} : (AV.ptr k 0).holds S (upd γ k (.pointer (some ⟨g, 0, none⟩))) w (.pointer (some ⟨g, 0, none⟩)) := by
  simp only [AV.holds]
  exact ⟨g, by rw [upd_same]; rfl, rfl⟩
theorem ao_box {d t : Nat} {x : Operand} {a : AV} {cs : List AV} (hg : o.guard = none := by rfl) (hd : o.dst = some d := by rfl) (hn : Nat.blt d n = true := by rfl) (ho : o.op = .box t x := by rfl) (hx : Opv fr x a := by first | exact .un rfl (by first | assumption | exact And.left (by assumption) | exact And.left (And.left (by assumption)) | exact And.left (And.left (And.left (by assumption)))) | exact .of rfl) (hc : cellsOf a = some cs := by rfl)
    (k : Nat) (hkJ : Nat.ble 1000 k = true := by rfl) (hu : usesH (one1 k) (dropH (one1 k) H) = true := by rfl) (hcu : AV.usesL (fun j => !(one1 k j)) cs = true := by rfl)
    (next : AOps P c n ops rest Q ((d, .ptr k 0) :: markF (one1 k) fr) ((k, .box cs) :: dropH (one1 k) H)) : AOps P c n ops (o :: rest) Q fr H := fun S γ tmps w hr => by
  refine ao_plain hg ?_
  have hv := (hr.env (ds := []) (fun _ => True)).get hx trivial
  refine outc (v := .pointer (some ⟨w.heap.size, 0, none⟩)) (w' := w.alloc (.cells (Act.eval ⟨tmps, []⟩ x).cells t)) ?_ ?_
  · simp [execOp, ho, Instr.box, newVar, newRow]
  · have hput : ∀ v, (Act.put ⟨tmps, []⟩ o.dst v) = ⟨tmps.setIfInBounds d v, []⟩ := fun v => by rw [hd]; rfl
    rw [hput]
    exact next S _ _ _ ((hr.newBox k (cellsOf_holds hr.st.one hc hv) hkJ hu hcu).put (Nat.le_of_ble_eq_true hn) ptr_new)
/-- zero values, cell by cell -/
inductive Z | int (k : IntKind) | bool | str | ptr | slice | iface | func | map
  deriving DecidableEq
def Z.val : Z → Value
  | .int k => .int k 0
  | .bool => .bool false
  | .str => .string ⟨#[]⟩
  | .ptr => .pointer none
  | .slice => .slice none 0 0
  | .iface => .nilIface
  | .func => .nilFunc
  | .map => .map none
def Z.is : Z → Value → Bool
  | .int k, .int k' n => decide (k = k') && decide (n = 0)
  | .bool, .bool b => !b
  | .str, .string ⟨s⟩ => s.toList.isEmpty
  | .ptr, .pointer none => true
  | .slice, .slice none 0 0 => true
  | .iface, .nilIface => true
  | .func, .nilFunc => true
  | .map, .map none => true
  | _, _ => false
theorem Z.is_val {z : Z} {v : Value} (h : z.is v = true) : v = z.val := by
  cases z <;> cases v <;> simp_all [Z.is, Z.val]
  case str.string s =>
    obtain ⟨⟨l⟩⟩ := s
    simp at h
    subst h; rfl
  case ptr.pointer a => cases a <;> simp_all
  case slice.slice a l c =>
    cases a with
    | none =>
      cases l with
      | zero =>
        cases c with
        | zero => simp
        | succ c => simp at h
      | succ l => simp at h
    | some a => simp at h
  case map.map a => cases a <;> simp_all
def zerosB (zs : List Z) (vs : List Value) : Bool := match zs, vs with
  | [], [] => true
  | z :: zs, v :: vs => z.is v && zerosB zs vs
  | _, _ => false
theorem zerosB_eq : ∀ {zs : List Z} {vs : List Value}, zerosB zs vs = true → vs = zs.map Z.val
  | [], [], _ => rfl
  | [], v :: vs, h => by simp [zerosB] at h
  | z :: zs, [], h => by simp [zerosB] at h
  | z :: zs, v :: vs, h => by
    simp only [zerosB, Bool.and_eq_true] at h
    rw [List.map_cons, Z.is_val h.1, zerosB_eq h.2]
def zeroOkB (P : Program) (t : TypeId) (zs : List Z) : Bool := match (P.info? t).bind (·.zero) with
  | some z => zerosB zs z.cells.toList
  | none => false
def zAV (zs : List Z) : List AV := zs.map fun z => .lit z.val
theorem zAV_holds {S : Nat → Prop} {γ : Nat → Value} {w : World} : ∀ (zs : List Z), AV.holdsL S γ w (zAV zs) (zs.map Z.val)
  | [] => by simp [zAV, AV.holdsL]
  | z :: zs => by
    have ih := zAV_holds (S := S) (γ := γ) (w := w) zs
    show AV.holdsL S γ w (.lit z.val :: zAV zs) (z.val :: zs.map Z.val)
    simp only [AV.holdsL]
    exact ⟨_, _, rfl, by simp only [AV.holds], ih⟩
/-- the zero values of types -/
structure ZOk (P : Program) (T : List (Nat × List Z)) : Prop where
  ok : ∀ t zs, look T t = some zs → zeroOkB P t zs = true
theorem zOk {P : Program} {T : List (Nat × List Z)} (h : (T.all fun p => zeroOkB P p.1 p.2) = true) : ZOk P T := by
  refine ⟨fun t zs hl => ?_⟩
  rw [List.all_eq_true] at h
  have hm : ∀ {T : List (Nat × List Z)}, look T t = some zs → (t, zs) ∈ T := by
    intro T hl2
    induction T with
    | nil => simp [look] at hl2
    | cons p r ih =>
      obtain ⟨k, v⟩ := p
      rw [look_cons] at hl2
      split at hl2
      · rename_i e; subst e; injection hl2 with hl2; subst hl2; exact List.mem_cons_self
      · exact List.mem_cons_of_mem _ (ih hl2)
  exact h _ (hm hl)
theorem ZOk.zero {T : List (Nat × List Z)} (h : ZOk P T) {t : TypeId} {zs : List Z} (hl : look T t = some zs) : ∃ i z, P.info? t = some i ∧ i.zero = some z ∧ z.cells.toList = zs.map Z.val := by
  have := h.ok t zs hl
  unfold zeroOkB at this
  cases hi : P.info? t with
  | none => simp [hi] at this
  | some i =>
    cases hz : i.zero with
    | none => simp [hi, hz] at this
    | some z =>
      simp only [hi, hz, Option.bind_some] at this
      exact ⟨i, z, rfl, hz, zerosB_eq this⟩
theorem zAV_uses (p : Nat → Bool) : ∀ (zs : List Z), AV.usesL p (zAV zs) = true
  | [] => rfl
  | z :: zs => by
    have := zAV_uses p zs
    show AV.usesL p (.lit z.val :: zAV zs) = true
    simp [AV.usesL, AV.uses, this]
theorem ao_alloc {d t : Nat} {ZT : List (Nat × List Z)} {zs : List Z} (hg : o.guard = none := by rfl) (hd : o.dst = some d := by rfl) (hn : Nat.blt d n = true := by rfl) (ho : o.op = .alloc t := by rfl) (hZ : ZOk P ZT := by assumption) (hz : look ZT t = some zs := by rfl)
    (k : Nat) (hkJ : Nat.ble 1000 k = true := by rfl) (hu : usesH (one1 k) (dropH (one1 k) H) = true := by rfl)
    (next : AOps P c n ops rest Q ((d, .ptr k 0) :: markF (one1 k) fr) ((k, .box (zAV zs)) :: dropH (one1 k) H)) : AOps P c n ops (o :: rest) Q fr H := fun S γ tmps w hr => by
  refine ao_plain hg ?_
  obtain ⟨i, z, hi, hiz, hzc⟩ := hZ.zero hz
  refine outc (v := .pointer (some ⟨w.heap.size, 0, none⟩)) (w' := w.alloc (.cells z.cells t)) ?_ ?_
  · simp [execOp, ho, Instr.alloc, zeroValue, typeInfo, hi, hiz, newVar, newRow]
  · have hput : ∀ v, (Act.put ⟨tmps, []⟩ o.dst v) = ⟨tmps.setIfInBounds d v, []⟩ := fun v => by rw [hd]; rfl
    rw [hput]
    exact next S _ _ _ ((hr.newBox k (by rw [hzc]; exact zAV_holds zs) hkJ hu (zAV_uses _ zs)).put (Nat.le_of_ble_eq_true hn) ptr_new)
theorem ao_alloc' {d t : Nat} {ZT : List (Nat × List Z)} {zs : List Z} (hg : o.guard = none := by rfl) (hd : o.dst = some d := by rfl) (hn : Nat.blt d n = true := by rfl) (ho : o.op = .alloc t := by rfl) (hZ : ZOk P ZT := by assumption) (hz : look ZT t = some zs := by rfl)
    (hu : usesH (one1 (d + 1000)) (dropH (one1 (d + 1000)) H) = true := by rfl)
    (next : AOps P c n ops rest Q ((d, .ptr (d + 1000) 0) :: markF (one1 (d + 1000)) fr) ((d + 1000, .box (zAV zs)) :: dropH (one1 (d + 1000)) H)) : AOps P c n ops (o :: rest) Q fr H :=
  ao_alloc hg hd hn ho hZ hz (d + 1000) (Nat.ble_eq_true_of_le (by omega)) hu next
theorem ao_box' {d t : Nat} {x : Operand} {a : AV} {cs : List AV} (hg : o.guard = none := by rfl) (hd : o.dst = some d := by rfl) (hn : Nat.blt d n = true := by rfl) (ho : o.op = .box t x := by rfl) (hx : Opv fr x a := by first | exact .un rfl (by first | assumption | exact And.left (by assumption) | exact And.left (And.left (by assumption)) | exact And.left (And.left (And.left (by assumption)))) | exact .of rfl) (hc : cellsOf a = some cs := by rfl)
    (hu : usesH (one1 (d + 1000)) (dropH (one1 (d + 1000)) H) = true := by rfl) (hcu : AV.usesL (fun j => !(one1 (d + 1000) j)) cs = true := by rfl)
    (next : AOps P c n ops rest Q ((d, .ptr (d + 1000) 0) :: markF (one1 (d + 1000)) fr) ((d + 1000, .box cs) :: dropH (one1 (d + 1000)) H)) : AOps P c n ops (o :: rest) Q fr H :=
  ao_box hg hd hn ho hx hc (d + 1000) (Nat.ble_eq_true_of_le (by omega)) hu hcu next
end
end Go.Proofs.Ytjmcbacdogjdeaa
