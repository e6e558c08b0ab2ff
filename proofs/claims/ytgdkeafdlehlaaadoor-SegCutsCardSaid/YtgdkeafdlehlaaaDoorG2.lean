/- Words of our own for walks over abstract values, laid together. Nothing of the program stands here. -/
import Derived.Test.YtgdkeafdlehlaaaDoorG1
import Derived.ProofKit
import Derived.OpenShut
import Derived.Deep.Slices
import Derived.Deep.Fields
/- Operations that change resources, and calls, over abstract frames. Nothing of the program stands here. -/
namespace Go.Proofs.YtgdkeafdlehlaaaDoor
open Go Go.RowKit
set_option linter.unusedVariables false

def dropH (D : Nat → Bool) (H : List (Nat × Res)) : List (Nat × Res) := H.filter fun p => !(D p.1)
def markF (M : Nat → Bool) (fr : List (Nat × AV)) : List (Nat × AV) := fr.map fun p => (p.1, match p.2.uses (fun j => !(M j)) with | true => p.2 | false => .any)
def usesH (M : Nat → Bool) (H : List (Nat × Res)) : Bool := H.all fun p => p.2.uses fun j => !(M j)
theorem look_drop (D : Nat → Bool) : ∀ (H : List (Nat × Res)) (j : Nat), look (dropH D H) j = if D j = true then none else look H j
  | [], j => by simp [dropH, look]
  | (k, r) :: H, j => by
    have ih := look_drop D H j
    unfold dropH at ih ⊢
    by_cases hk : D k = true
    · rw [List.filter_cons_of_neg (by simpa using hk), ih, look_cons]
      by_cases hkj : k = j
      · subst hkj; simp [hk]
      · simp [hkj]
    · rw [List.filter_cons_of_pos (by simpa using hk), look_cons, look_cons, ih]
      by_cases hkj : k = j
      · subst hkj; simp [hk]
      · simp [hkj]
theorem look_mark (M : Nat → Bool) : ∀ (fr : List (Nat × AV)) (x : Nat) (a : AV), look (markF M fr) x = some a → ∃ b, look fr x = some b ∧ a = match b.uses (fun j => !(M j)) with | true => b | false => .any
  | [], x, a, h => by simp [markF, look] at h
  | (k, b) :: fr, x, a, h => by
    unfold markF at h
    rw [List.map_cons, look_cons] at h
    rw [look_cons]
    by_cases hk : k = x
    · rw [if_pos hk] at h ⊢
      simp only [Option.some.injEq] at h
      exact ⟨b, rfl, h.symm⟩
    · rw [if_neg hk] at h ⊢
      exact look_mark M fr x a h
theorem look_append {β : Type 1} : ∀ (A B : List (Nat × β)) (j : Nat), look (A ++ B) j = (look A j).or (look B j)
  | [], B, j => by simp [look]
  | (k, v) :: A, B, j => by
    rw [List.cons_append, look_cons, look_cons, look_append A B j]
    split <;> simp
theorem look_mem {β : Type 1} : ∀ {A : List (Nat × β)} {j : Nat} {r : β}, look A j = some r → (j, r) ∈ A
  | [], j, r, h => by simp [look] at h
  | (k, v) :: A, j, r, h => by
    rw [look_cons] at h
    split at h
    · rename_i e; subst e; simp at h; subst h; exact List.mem_cons_self
    · exact List.mem_cons_of_mem _ (look_mem h)

section
variable {P : Program} {c : Ctx} {n : Nat} {Q : AQ} {fr : List (Nat × AV)} {H : List (Nat × Res)} {ops : Array Oper} {rest : List Oper} {o : Oper}
/-- some resources are used up, others take their place; the rest stands -/
theorem Rel.eff {S : Nat → Prop} {γ : Nat → Value} {tmps : Array Value} {w : World} (h : Rel c n fr H S γ tmps w) (D M : Nat → Bool) {S' : Nat → Prop} {γ' : Nat → Value} {w' : World} {Hn : List (Nat × Res)}
    (hM : ∀ j, M j = true → D j = true)
    (hk : Keep (fun b => ∃ j r, D j = true ∧ look H j = some r ∧ rblk (γ j) = some b) w w')
    (hS : ∀ b, S b → S' b) (hS' : ∀ b, S' b → S b ∨ w.heap.size ≤ b ∨ ∃ i r', D i = true ∧ look H i = some r' ∧ rblk (γ i) = some b) (hst : St S' γ' w' Hn)
    (hout : ∀ j r b, look Hn j = some r → rblk (γ' j) = some b → w.heap.size ≤ b ∨ ∃ i r', D i = true ∧ look H i = some r' ∧ rblk (γ i) = some b)
    (hD : ∀ j r, look Hn j = some r → D j = true) (hγ : ∀ j, M j = false → γ' j = γ j) (hJ : ∀ j, c.J j → M j = false) (hu : usesH M (dropH D H) = true) :
    Rel c n (markF M fr) (Hn ++ dropH D H) S' γ' tmps w' := by
  have hlive : ∀ {j r b}, D j = false → look H j = some r → rblk (γ j) = some b → w'.heap[b]? = w.heap[b]? := by
    intro j r b hj hl hb
    refine hk.block b (Res.blk_lt (h.st.res j r hl) hb) ?_
    rintro ⟨i, r', hi, hil, hib⟩
    have := h.st.dis i j r' r b hil hl hib hb
    subst this
    rw [hi] at hj; cases hj
  have hsame : Same S w w' := by
    intro b hb
    refine hk.block b (h.st.sz b hb) ?_
    rintro ⟨j, r, _, hl, hb'⟩
    exact h.st.live j r b hl hb' hb
  have hMf : ∀ j, D j = false → M j = false := fun j hj => by
    cases hm : M j with
    | false => rfl
    | true => rw [hM j hm] at hj; cases hj
  have hlook : ∀ j r, look (Hn ++ dropH D H) j = some r → look Hn j = some r ∨ (D j = false ∧ look H j = some r) := by
    intro j r hj
    rw [look_append, look_drop] at hj
    cases hn : look Hn j with
    | some r' => rw [hn] at hj; left; simpa using hj
    | none =>
      rw [hn] at hj
      right
      cases hd : D j with
      | true => simp [hd] at hj
      | false => simpa [hd] using hj
  have hmemu : ∀ j r, D j = false → look H j = some r → r.uses (fun j => !(M j)) = true := by
    intro j r hj hl
    unfold usesH at hu
    rw [List.all_eq_true] at hu
    have : look (dropH D H) j = some r := by rw [look_drop]; simp [hj, hl]
    exact hu (j, r) (look_mem this)
  refine ⟨⟨fun j r hj => ?_, fun i j ri rj b hi hj hbi hbj => ?_, fun j r b hj hb hs => ?_, hst.sz, hst.one⟩, fun x av hx => ?_, fun b hb => ?_, fun j r b hj hb => ?_, fun j hj => ?_, h.size, ?_⟩
  · rcases hlook j r hj with hj | ⟨hd, hj⟩
    · exact hst.res j r hj
    · rw [hγ j (hMf j hd)]
      exact Res.mono hS hsame (fun j => !(M j)) (fun i hi => hγ i (by simpa using hi)) (hmemu j r hd hj) (fun b hb => hlive hd hj hb) (h.st.res j r hj)
  · rcases hlook i ri hi with hi | ⟨hdi, hi⟩ <;> rcases hlook j rj hj with hj | ⟨hdj, hj⟩
    · exact hst.dis i j ri rj b hi hj hbi hbj
    · rw [hγ j (hMf j hdj)] at hbj
      rcases hout i ri b hi hbi with hge | ⟨k, r', hk', hkl, hkb⟩
      · have := Res.blk_lt (h.st.res j rj hj) hbj; omega
      · have := h.st.dis k j r' rj b hkl hj hkb hbj
        subst this; rw [hk'] at hdj; cases hdj
    · rw [hγ i (hMf i hdi)] at hbi
      rcases hout j rj b hj hbj with hge | ⟨k, r', hk', hkl, hkb⟩
      · have := Res.blk_lt (h.st.res i ri hi) hbi; omega
      · have := h.st.dis k i r' ri b hkl hi hkb hbi
        subst this; rw [hk'] at hdi; cases hdi
    · rw [hγ i (hMf i hdi)] at hbi
      rw [hγ j (hMf j hdj)] at hbj
      exact h.st.dis i j ri rj b hi hj hbi hbj
  · rcases hlook j r hj with hj | ⟨hd, hj⟩
    · exact hst.live j r b hj hb hs
    · rw [hγ j (hMf j hd)] at hb
      rcases hS' b hs with hs | hge | ⟨k, r', hk', hkl, hkb⟩
      · exact h.st.live j r b hj hb hs
      · have := Res.blk_lt (h.st.res j r hj) hb; omega
      · have := h.st.dis k j r' r b hkl hj hkb hb
        subst this; rw [hk'] at hd; cases hd
  · obtain ⟨a, ha, rfl⟩ := look_mark M fr x av hx
    have hh := h.fr x a ha
    cases hua : a.uses (fun j => !(M j)) with
    | true =>
      exact AV.mono hS hsame (fun j => !(M j)) (fun i hi => hγ i (by simpa using hi)) a _ hua hh
    | false => simp only [AV.holds]
  · rcases hS' b hb with hb | hb | ⟨k, r', _, hkl, hkb⟩
    · exact h.up b hb
    · have := h.keep.size; right; left; omega
    · exact .inr (h.own k r' b hkl hkb)
  · rcases hlook j r hj with hj | ⟨hd, hj⟩
    · rcases hout j r b hj hb with hge | ⟨i, r', _, hil, hib⟩
      · have := h.keep.size; left; omega
      · exact h.own i r' b hil hib
    · rw [hγ j (hMf j hd)] at hb
      exact h.own j r b hj hb
  · rw [hγ j (hJ j hj)]; exact h.ids j hj
  · refine h.keep.trans hk ?_
    rintro b ⟨j, r, _, hl, hb⟩
    rcases h.own j r b hl hb with h1 | h1
    · exact .inr h1
    · exact .inl h1

def upd (γ : Nat → Value) (k : Nat) (v : Value) : Nat → Value := fun j => if j = k then v else γ j
theorem upd_same (γ : Nat → Value) (k : Nat) (v : Value) : upd γ k v k = v := by simp [upd]
theorem upd_other {γ : Nat → Value} {k j : Nat} {v : Value} (h : j ≠ k) : upd γ k v j = γ j := by simp [upd, h]
def one1 (k : Nat) : Nat → Bool := fun j => Nat.beq k j
theorem one1_iff {k j : Nat} : one1 k j = true ↔ k = j := by
  unfold one1
  constructor
  · exact Nat.eq_of_beq_eq_true
  · rintro rfl; simp
theorem look_one {k j : Nat} {r r' : Res} (h : look [(k, r)] j = some r') : j = k ∧ r' = r := by
  rw [look_cons] at h
  split at h
  · rename_i e; simp at h; exact ⟨e.symm, h.symm⟩
  · simp [look] at h
/-- one resource is new, or takes the place of its own elder self -/
theorem Rel.eff1 {S : Nat → Prop} {γ : Nat → Value} {tmps : Array Value} {w : World} (h : Rel c n fr H S γ tmps w) (k : Nat) {w' : World} {r : Res} {v : Value}
    (hk : Keep (fun b => ∃ r, look H k = some r ∧ rblk (γ k) = some b) w w')
    (hr : r.holds S (upd γ k v) w' v) (hv1 : v.oneCell' = true)
    (hb : ∀ b, rblk v = some b → w.heap.size ≤ b ∨ ∃ r', look H k = some r' ∧ rblk (γ k) = some b)
    (hkJ : Nat.ble 1000 k = true) (hu : usesH (one1 k) (dropH (one1 k) H) = true) :
    Rel c n (markF (one1 k) fr) ((k, r) :: dropH (one1 k) H) S (upd γ k v) tmps w' := by
  have hk1000 : 1000 ≤ k := Nat.le_of_ble_eq_true hkJ
  have hst : St S (upd γ k v) w' [(k, r)] := by
    refine ⟨?_, ?_, ?_, ?_, ?_⟩
    · intro j r' hj
      obtain ⟨rfl, rfl⟩ := look_one hj
      rw [upd_same]; exact hr
    · intro i j ri rj b hi hj _ _
      rw [(look_one hi).1, (look_one hj).1]
    · intro j r' b hj hb' hs
      obtain ⟨rfl, rfl⟩ := look_one hj
      rw [upd_same] at hb'
      rcases hb b hb' with h1 | ⟨r', h1, h2⟩
      · have := h.st.sz b hs; omega
      · exact h.st.live j r' b h1 h2 hs
    · exact h.st.sz.to (fun _ h => h) (fun b hs => hk.block b (h.st.sz b hs) fun ⟨r', h1, h2⟩ => h.st.live k r' b h1 h2 hs) fun b hs => by have := h.st.sz b hs; have := hk.size; omega
    · intro j
      by_cases hj : j = k
      · subst hj; rw [upd_same]; exact hv1
      · rw [upd_other hj]; exact h.st.one j
  refine h.eff (one1 k) (one1 k) (Hn := [(k, r)]) (fun _ h => h) ⟨hk.os, hk.tape, hk.output, hk.size, fun b hb hn => hk.block b hb fun ⟨r, h1, h2⟩ => hn ⟨k, r, one1_iff.2 rfl, h1, h2⟩⟩ (fun _ h => h) (fun b h => .inl h) hst ?_ ?_ ?_ ?_ hu
  · intro j r' b hj hb'
    obtain ⟨rfl, rfl⟩ := look_one hj
    rw [upd_same] at hb'
    rcases hb b hb' with h1 | ⟨r', h1, h2⟩
    · exact .inl h1
    · exact .inr ⟨j, r', one1_iff.2 rfl, h1, h2⟩
  · intro j r' hj
    exact one1_iff.2 (look_one hj).1.symm
  · intro j hj
    refine upd_other ?_
    rintro rfl
    rw [one1_iff.2 rfl] at hj; cases hj
  · intro j hj
    have := c.lt j hj
    cases hb : one1 k j with
    | false => rfl
    | true => have := one1_iff.1 hb; omega

/-- the cells that a value fills -/
def cellsOf : AV → Option (List AV)
  | .lit v => if v.oneCell' then some [.lit v] else none
  | .snap F => some [.snap F]
  | .own j => some [.own j]
  | .ptr j off => some [.ptr j off]
  | .sl j off m k => some [.sl j off m k]
  | .pre j m => some [.pre j m]
  | .fn f cs => some [.fn f cs]
  | .agg cs => some cs
  | _ => none
theorem cells_one {v : Value} (h : v.oneCell' = true) : v.cells = #[v] := by cases v <;> first | rfl | (simp [Value.oneCell'] at h)
theorem AV.one {S : Nat → Prop} {γ : Nat → Value} {w : World} (hγ : ∀ j, (γ j).oneCell' = true) {a : AV} {v : Value} (h : a.holds S γ w v) (ha : a.allOne = true) : v.oneCell' = true := by
  cases a with
  | lit u => simp only [AV.holds] at h; subst h; exact ha
  | snap F => simp only [AV.holds] at h; exact F.one h
  | own j => simp only [AV.holds] at h; subst h; exact hγ j
  | ptr j off => simp only [AV.holds] at h; obtain ⟨g, _, rfl⟩ := h; rfl
  | sl j off m k => simp only [AV.holds] at h; obtain ⟨g, _, rfl⟩ := h; rfl
  | pre j m => simp only [AV.holds] at h; obtain ⟨g, c, _, _, rfl⟩ := h; rfl
  | fn f cs => simp only [AV.holds] at h; obtain ⟨vs, rfl, _⟩ := h; rfl
  | _ => simp [AV.allOne] at ha
theorem cellsOf_holds {S : Nat → Prop} {γ : Nat → Value} {w : World} (hγ : ∀ j, (γ j).oneCell' = true) {a : AV} {cs : List AV} {v : Value} (hc : cellsOf a = some cs) (h : a.holds S γ w v) : AV.holdsL S γ w cs v.cells.toList := by
  have one : a.allOne = true → cs = [a] → AV.holdsL S γ w cs v.cells.toList := by
    rintro ha rfl
    rw [cells_one (AV.one hγ h ha)]
    simp only [AV.holdsL]
    exact ⟨v, [], rfl, h, rfl⟩
  cases a with
  | lit u =>
    simp only [cellsOf] at hc
    split at hc
    · rename_i hu
      simp only [Option.some.injEq] at hc
      exact one hu hc.symm
    · cases hc
  | agg ds =>
    simp only [cellsOf, Option.some.injEq] at hc; subst hc
    simp only [AV.holds] at h
    obtain ⟨vs, rfl, h⟩ := h
    simpa [Value.cells] using h
  | snap F => simp only [cellsOf, Option.some.injEq] at hc; exact one rfl hc.symm
  | own j => simp only [cellsOf, Option.some.injEq] at hc; exact one rfl hc.symm
  | ptr j off => simp only [cellsOf, Option.some.injEq] at hc; exact one rfl hc.symm
  | sl j off m k => simp only [cellsOf, Option.some.injEq] at hc; exact one rfl hc.symm
  | pre j m => simp only [cellsOf, Option.some.injEq] at hc; exact one rfl hc.symm
  | fn f ds => simp only [cellsOf, Option.some.injEq] at hc; exact one rfl hc.symm
  | _ => simp [cellsOf] at hc

theorem ao_plain (hg : o.guard = none := by rfl) {tmps : Array Value} {w : World}
    (h : Outcome P (fun v w' => wpList P ops (lift c n Q) rest (Act.put ⟨tmps, []⟩ o.dst v) w') ((execOp (Act.eval ⟨tmps, []⟩) o).run P w)) : wpList P ops (lift c n Q) (o :: rest) ⟨tmps, []⟩ w := by
  unfold wpList
  rw [if_pos (by simp [Region.wanted, hg])]
  exact .inl (Outcome.upon h)

theorem keep_alloc (L : Nat → Prop) (w : World) (o : Obj) : Keep L w (w.alloc o) := Keep.of_ext (Ext.alloc w o)
/-- a new block of cells, filled -/
theorem Rel.newBox {S : Nat → Prop} {γ : Nat → Value} {tmps : Array Value} {w : World} (h : Rel c n fr H S γ tmps w) (k : Nat) {cs : List AV} {arr : Array Value} {e : TypeId} (hc : AV.holdsL S γ w cs arr.toList)
    (hkJ : Nat.ble 1000 k = true) (hu : usesH (one1 k) (dropH (one1 k) H) = true) (hcu : AV.usesL (fun j => !(one1 k j)) cs = true) :
    Rel c n (markF (one1 k) fr) ((k, .box cs) :: dropH (one1 k) H) S (upd γ k (.pointer (some ⟨w.heap.size, 0, none⟩))) tmps (w.alloc (.cells arr e)) := by
  refine h.eff1 k (keep_alloc _ w _) ⟨w.heap.size, arr, e, rfl, heap_alloc_new w _, ?_⟩ rfl (fun b hb => ?_) hkJ hu
  · refine AV.monoL (fun _ h => h) (same_of_ext h.st.sz (Ext.alloc w _)) _ (fun j hj => upd_other ?_) cs _ hcu hc
    rintro rfl
    rw [one1_iff.2 rfl] at hj; cases hj
  · simp [rblk] at hb; subst hb; exact .inl (Nat.le_refl _)
theorem ptr_new {S : Nat → Prop} {γ : Nat → Value} {w : World} {k g : Nat} : (AV.ptr k 0).holds S (upd γ k (.pointer (some ⟨g, 0, none⟩))) w (.pointer (some ⟨g, 0, none⟩)) := by
  simp only [AV.holds]
  exact ⟨g, by rw [upd_same]; rfl, rfl⟩
theorem ao_box {d t : Nat} {x : Operand} {a : AV} {cs : List AV} (hg : o.guard = none := by rfl) (hd : o.dst = some d := by rfl) (hn : Nat.blt d n = true := by rfl) (ho : o.op = .box t x := by rfl) (hx : Opv fr x a := by exact opv_std) (hc : cellsOf a = some cs := by rfl)
    (k : Nat) (hkJ : Nat.ble 1000 k = true := by rfl) (hu : usesH (one1 k) (dropH (one1 k) H) = true := by rfl) (hcu : AV.usesL (fun j => !(one1 k j)) cs = true := by rfl)
    (next : AOps P c n ops rest Q ((d, .ptr k 0) :: markF (one1 k) fr) ((k, .box cs) :: dropH (one1 k) H)) : AOps P c n ops (o :: rest) Q fr H := fun S γ tmps w hr => by
  refine ao_plain hg ?_
  have hv := (hr.env (ds := []) (fun _ => True)).get hx trivial
  refine outc (v := .pointer (some ⟨w.heap.size, 0, none⟩)) (w' := w.alloc (.cells (Act.eval ⟨tmps, []⟩ x).cells t)) ?_ ?_
  · simp [execOp, ho, Instr.box, newVar, newRow]
  · have hput : ∀ v, (Act.put ⟨tmps, []⟩ o.dst v) = ⟨tmps.setIfInBounds d v, []⟩ := fun v => by rw [hd]; rfl
    rw [hput]
    exact next S _ _ _ ((hr.newBox k (cellsOf_holds hr.st.one hc hv) hkJ hu hcu).put (Nat.le_of_ble_eq_true hn) ptr_new)
/-- zero values, cell by cell -/
inductive Z | int (k : IntKind) | bool | str | ptr | slice | iface | func | map
  deriving DecidableEq
def Z.val : Z → Value
  | .int k => .int k 0
  | .bool => .bool false
  | .str => .string ⟨#[]⟩
  | .ptr => .pointer none
  | .slice => .slice none 0 0
  | .iface => .nilIface
  | .func => .nilFunc
  | .map => .map none
def Z.is : Z → Value → Bool
  | .int k, .int k' n => decide (k = k') && decide (n = 0)
  | .bool, .bool b => !b
  | .str, .string ⟨s⟩ => s.toList.isEmpty
  | .ptr, .pointer none => true
  | .slice, .slice none 0 0 => true
  | .iface, .nilIface => true
  | .func, .nilFunc => true
  | .map, .map none => true
  | _, _ => false
theorem Z.is_val {z : Z} {v : Value} (h : z.is v = true) : v = z.val := by
  cases z <;> cases v <;> simp_all [Z.is, Z.val]
  case str.string s =>
    obtain ⟨⟨l⟩⟩ := s
    simp at h
    subst h; rfl
  case ptr.pointer a => cases a <;> simp_all
  case slice.slice a l c =>
    cases a with
    | none =>
      cases l with
      | zero =>
        cases c with
        | zero => simp
        | succ c => simp at h
      | succ l => simp at h
    | some a => simp at h
  case map.map a => cases a <;> simp_all
def zerosB (zs : List Z) (vs : List Value) : Bool := match zs, vs with
  | [], [] => true
  | z :: zs, v :: vs => z.is v && zerosB zs vs
  | _, _ => false
theorem zerosB_eq : ∀ {zs : List Z} {vs : List Value}, zerosB zs vs = true → vs = zs.map Z.val
  | [], [], _ => rfl
  | [], v :: vs, h => by simp [zerosB] at h
  | z :: zs, [], h => by simp [zerosB] at h
  | z :: zs, v :: vs, h => by
    simp only [zerosB, Bool.and_eq_true] at h
    rw [List.map_cons, Z.is_val h.1, zerosB_eq h.2]
def zeroOkB (P : Program) (t : TypeId) (zs : List Z) : Bool := match (P.info? t).bind (·.zero) with
  | some z => zerosB zs z.cells.toList
  | none => false
def zAV (zs : List Z) : List AV := zs.map fun z => .lit z.val
theorem zAV_holds {S : Nat → Prop} {γ : Nat → Value} {w : World} : ∀ (zs : List Z), AV.holdsL S γ w (zAV zs) (zs.map Z.val)
  | [] => by simp [zAV, AV.holdsL]
  | z :: zs => by
    have ih := zAV_holds (S := S) (γ := γ) (w := w) zs
    show AV.holdsL S γ w (.lit z.val :: zAV zs) (z.val :: zs.map Z.val)
    simp only [AV.holdsL]
    exact ⟨_, _, rfl, by simp only [AV.holds], ih⟩
/-- the zero values of types -/
structure ZOk (P : Program) (T : List (Nat × List Z)) : Prop where
  ok : ∀ t zs, look T t = some zs → zeroOkB P t zs = true
theorem zOk {P : Program} {T : List (Nat × List Z)} (h : (T.all fun p => zeroOkB P p.1 p.2) = true) : ZOk P T := by
  refine ⟨fun t zs hl => ?_⟩
  rw [List.all_eq_true] at h
  have hm : ∀ {T : List (Nat × List Z)}, look T t = some zs → (t, zs) ∈ T := by
    intro T hl2
    induction T with
    | nil => simp [look] at hl2
    | cons p r ih =>
      obtain ⟨k, v⟩ := p
      rw [look_cons] at hl2
      split at hl2
      · rename_i e; subst e; injection hl2 with hl2; subst hl2; exact List.mem_cons_self
      · exact List.mem_cons_of_mem _ (ih hl2)
  exact h _ (hm hl)
theorem ZOk.zero {T : List (Nat × List Z)} (h : ZOk P T) {t : TypeId} {zs : List Z} (hl : look T t = some zs) : ∃ i z, P.info? t = some i ∧ i.zero = some z ∧ z.cells.toList = zs.map Z.val := by
  have := h.ok t zs hl
  unfold zeroOkB at this
  cases hi : P.info? t with
  | none => simp [hi] at this
  | some i =>
    cases hz : i.zero with
    | none => simp [hi, hz] at this
    | some z =>
      simp only [hi, hz, Option.bind_some] at this
      exact ⟨i, z, rfl, hz, zerosB_eq this⟩
theorem zAV_uses (p : Nat → Bool) : ∀ (zs : List Z), AV.usesL p (zAV zs) = true
  | [] => rfl
  | z :: zs => by
    have := zAV_uses p zs
    show AV.usesL p (.lit z.val :: zAV zs) = true
    simp [AV.usesL, AV.uses, this]
theorem ao_alloc {d t : Nat} {ZT : List (Nat × List Z)} {zs : List Z} (hg : o.guard = none := by rfl) (hd : o.dst = some d := by rfl) (hn : Nat.blt d n = true := by rfl) (ho : o.op = .alloc t := by rfl) (hZ : ZOk P ZT := by assumption) (hz : look ZT t = some zs := by rfl)
    (k : Nat) (hkJ : Nat.ble 1000 k = true := by rfl) (hu : usesH (one1 k) (dropH (one1 k) H) = true := by rfl)
    (next : AOps P c n ops rest Q ((d, .ptr k 0) :: markF (one1 k) fr) ((k, .box (zAV zs)) :: dropH (one1 k) H)) : AOps P c n ops (o :: rest) Q fr H := fun S γ tmps w hr => by
  refine ao_plain hg ?_
  obtain ⟨i, z, hi, hiz, hzc⟩ := hZ.zero hz
  refine outc (v := .pointer (some ⟨w.heap.size, 0, none⟩)) (w' := w.alloc (.cells z.cells t)) ?_ ?_
  · simp [execOp, ho, Instr.alloc, zeroValue, typeInfo, hi, hiz, newVar, newRow]
  · have hput : ∀ v, (Act.put ⟨tmps, []⟩ o.dst v) = ⟨tmps.setIfInBounds d v, []⟩ := fun v => by rw [hd]; rfl
    rw [hput]
    exact next S _ _ _ ((hr.newBox k (by rw [hzc]; exact zAV_holds zs) hkJ hu (zAV_uses _ zs)).put (Nat.le_of_ble_eq_true hn) ptr_new)
theorem ao_alloc' {d t : Nat} {ZT : List (Nat × List Z)} {zs : List Z} (hg : o.guard = none := by rfl) (hd : o.dst = some d := by rfl) (hn : Nat.blt d n = true := by rfl) (ho : o.op = .alloc t := by rfl) (hZ : ZOk P ZT := by assumption) (hz : look ZT t = some zs := by rfl)
    (hu : usesH (one1 (d + 1000)) (dropH (one1 (d + 1000)) H) = true := by rfl)
    (next : AOps P c n ops rest Q ((d, .ptr (d + 1000) 0) :: markF (one1 (d + 1000)) fr) ((d + 1000, .box (zAV zs)) :: dropH (one1 (d + 1000)) H)) : AOps P c n ops (o :: rest) Q fr H :=
  ao_alloc hg hd hn ho hZ hz (d + 1000) (Nat.ble_eq_true_of_le (by omega)) hu next
theorem ao_box' {d t : Nat} {x : Operand} {a : AV} {cs : List AV} (hg : o.guard = none := by rfl) (hd : o.dst = some d := by rfl) (hn : Nat.blt d n = true := by rfl) (ho : o.op = .box t x := by rfl) (hx : Opv fr x a := by exact opv_std) (hc : cellsOf a = some cs := by rfl)
    (hu : usesH (one1 (d + 1000)) (dropH (one1 (d + 1000)) H) = true := by rfl) (hcu : AV.usesL (fun j => !(one1 (d + 1000) j)) cs = true := by rfl)
    (next : AOps P c n ops rest Q ((d, .ptr (d + 1000) 0) :: markF (one1 (d + 1000)) fr) ((d + 1000, .box cs) :: dropH (one1 (d + 1000)) H)) : AOps P c n ops (o :: rest) Q fr H :=
  ao_box hg hd hn ho hx hc (d + 1000) (Nat.ble_eq_true_of_le (by omega)) hu hcu next
end
end Go.Proofs.YtgdkeafdlehlaaaDoor

/- Stores, appends, contracts and calls, over abstract frames. Nothing of the program stands here. -/
namespace Go.Proofs.YtgdkeafdlehlaaaDoor
open Go Go.RowKit
set_option linter.unusedVariables false

def setAll {α : Type} : List α → Nat → List α → List α
  | cs, _, [] => cs
  | cs, off, d :: ds => setAll (cs.set off d) (off + 1) ds
theorem setAll_len {α : Type} : ∀ (ds cs : List α) (off : Nat), (setAll cs off ds).length = cs.length
  | [], cs, off => rfl
  | d :: ds, cs, off => by simp [setAll, setAll_len ds]
theorem holdsL_setAll {S : Nat → Prop} {γ : Nat → Value} {w : World} : ∀ {ds : List AV} {us : List Value} {cs : List AV} {vs : List Value} (off : Nat), AV.holdsL S γ w ds us → AV.holdsL S γ w cs vs → AV.holdsL S γ w (setAll cs off ds) (setAll vs off us)
  | [], us, cs, vs, off, h, k => by
    simp only [AV.holdsL] at h; subst h
    simpa [setAll] using k
  | d :: ds, us, cs, vs, off, h, k => by
    simp only [AV.holdsL] at h
    obtain ⟨u, us', rfl, h1, h2⟩ := h
    simp only [setAll]
    exact holdsL_setAll (off + 1) h2 (AV.holdsL_set h1 off k)
theorem heap_set_keep (w : World) (a : Addr) (u : Value) : Keep (fun b => b = a.block) w (w.setCell a u) := by
  have hb := Below.setCell (Below.refl 0 w) (Nat.zero_le a.block) u
  exact ⟨hb.os, hb.tape, hb.output, hb.size, fun b _ hn => heap_setCell_other w a b u hn⟩
theorem setCell_size (w : World) (a : Addr) (u : Value) : (w.setCell a u).heap.size = w.heap.size := by simp [World.setCell]
theorem storeCells_run {P : Program} {g : Nat} {e : TypeId} {off : Nat} : ∀ (us : List Value) (i : Nat) (arr : Array Value) (w : World), w.heap[g]? = some (.cells arr e (0, 0)) → (∀ u ∈ us, u.oneCell' = true) → off + i + us.length ≤ arr.size →
    ∃ w', (storeCells ⟨g, off, none⟩ us i).run P w = .ok () w' ∧ Keep (fun b => b = g) w w' ∧ w'.heap[g]? = some (.cells (setAll arr.toList (off + i) us).toArray e (0, 0)) ∧ w'.heap.size = w.heap.size
  | [], i, arr, w, hg, _, _ => ⟨w, by simp [storeCells], Keep.refl _ _, by simpa [setAll] using hg, rfl⟩
  | u :: us, i, arr, w, hg, h1, hl => by
    have hl' : off + i + (us.length + 1) ≤ arr.size := hl
    have hlt : off + i < arr.size := by omega
    have hc : w.cell? ⟨g, off + i, none⟩ = some arr[off + i] := by
      rw [cell_of_row w g _ _ _ _ hg]; exact Array.getElem?_eq_getElem hlt
    have hf := frozen_of_row w g (off + i) arr e hg
    obtain ⟨w', h2, h3, h4, h5⟩ := storeCells_run (off := off) us (i + 1) (arr.setIfInBounds (off + i) u) (w.setCell ⟨g, off + i, none⟩ u) (heap_setCell_same w g (off + i) arr e u hg) (fun v hv => h1 v (List.mem_cons_of_mem _ hv)) (by simp; omega)
    refine ⟨w', ?_, ?_, ?_, by rw [h5, setCell_size]⟩
    · simp only [storeCells, Sem.run_bind, addr_add_ne, run_store P w ⟨g, off + i, none⟩ u .plain (h1 u List.mem_cons_self), hc, hf, Bool.false_eq_true, if_false, Result.andThen_ok]
      exact h2
    · exact (heap_set_keep w ⟨g, off + i, none⟩ u).trans h3 (fun _ h => .inl h)
    · rw [h4, Array.toList_setIfInBounds, show off + (i + 1) = off + i + 1 from by omega]; rfl

theorem storeCells_runB {P : Program} {g : Nat} {e : TypeId} {off : Nat} : ∀ (us : List Value) (i : Nat) (arr : Array Value) (w : World), Blk w g arr e → (∀ u ∈ us, u.oneCell' = true) → off + i + us.length ≤ arr.size →
    ∃ w', (storeCells ⟨g, off, none⟩ us i).run P w = .ok () w' ∧ Keep (fun b => b = g) w w' ∧ Blk w' g (setAll arr.toList (off + i) us).toArray e ∧ w'.heap.size = w.heap.size
  | [], i, arr, w, hg, _, _ => ⟨w, by simp [storeCells], Keep.refl _ _, by simpa [setAll] using hg, rfl⟩
  | u :: us, i, arr, w, hg, h1, hl => by
    have hl' : off + i + (us.length + 1) ≤ arr.size := hl
    have hlt : off + i < arr.size := by omega
    have hc : w.cell? ⟨g, off + i, none⟩ = some arr[off + i] := by
      rw [hg.cell]; exact Array.getElem?_eq_getElem hlt
    have hf := hg.frozen hlt
    obtain ⟨w', h2, h3, h4, h5⟩ := storeCells_runB (off := off) us (i + 1) (arr.setIfInBounds (off + i) u) (w.setCell ⟨g, off + i, none⟩ u) (hg.set _ _) (fun v hv => h1 v (List.mem_cons_of_mem _ hv)) (by simp; omega)
    refine ⟨w', ?_, ?_, ?_, by rw [h5, setCell_size]⟩
    · simp only [storeCells, Sem.run_bind, addr_add_ne, run_store P w ⟨g, off + i, none⟩ u .plain (h1 u List.mem_cons_self), hc, hf, Bool.false_eq_true, if_false, Result.andThen_ok]
      exact h2
    · exact (heap_set_keep w ⟨g, off + i, none⟩ u).trans h3 (fun _ h => .inl h)
    · rw [Array.toList_setIfInBounds, show off + (i + 1) = off + i + 1 from by omega] at h4
      exact h4

section
variable {P : Program} {T : List (Nat × TI)} {c : Ctx} {n : Nat} {Q : AQ} {fr : List (Nat × AV)} {H : List (Nat × Res)} {ops : Array Oper} {rest : List Oper} {o : Oper}
variable {S : Nat → Prop} {γ : Nat → Value} {tmps : Array Value} {w : World}
theorem markF_none (fr : List (Nat × AV)) : markF (fun _ => false) fr = fr := by
  unfold markF
  have : ∀ a : AV, a.uses (fun j => !(fun _ => false : Nat → Bool) j) = true := fun a => by simpa using AV.uses_true a
  induction fr with
  | nil => rfl
  | cons p fr ih =>
    rw [List.map_cons, ih, this]
theorem usesH_none (H : List (Nat × Res)) : usesH (fun _ => false) H = true := by
  unfold usesH
  rw [List.all_eq_true]
  rintro ⟨k, r⟩ _
  cases r with
  | box cs => simpa [Res.uses] using AV.usesL_true cs
  | own e E xs => rfl
  | iter s pos => rfl
/-- a resource's content is another one, its place the same -/
theorem Rel.same1 (h : Rel c n fr H S γ tmps w) (j : Nat) {w' : World} {r r' : Res} (hj : look H j = some r) (hk : Keep (fun b => rblk (γ j) = some b) w w') (hr : r'.holds S γ w' (γ j)) :
    Rel c n fr ((j, r') :: dropH (one1 j) H) S γ tmps w' := by
  have hst : St S γ w' [(j, r')] := by
    refine ⟨?_, ?_, ?_, ?_, h.st.one⟩
    · intro i r'' hi
      obtain ⟨rfl, rfl⟩ := look_one hi
      exact hr
    · intro i i' ri rj b hi hj' _ _
      rw [(look_one hi).1, (look_one hj').1]
    · intro i r'' b hi hb
      obtain ⟨rfl, rfl⟩ := look_one hi
      exact h.st.live i r b hj hb
    · exact h.st.sz.to (fun _ h => h) (fun b hs => hk.block b (h.st.sz b hs) fun e => h.st.live j r b hj e hs) fun b hs => by have := h.st.sz b hs; have := hk.size; omega
  have := h.eff (one1 j) (fun _ => false) (Hn := [(j, r')]) (fun _ h => by cases h) (w' := w') ⟨hk.os, hk.tape, hk.output, hk.size, fun b hb hn => hk.block b hb fun h1 => hn ⟨j, r, one1_iff.2 rfl, hj, h1⟩⟩ (fun _ h => h) (fun b h => .inl h) hst
    (fun i r'' b hi hb => by
      obtain ⟨rfl, rfl⟩ := look_one hi
      exact .inr ⟨i, r, one1_iff.2 rfl, hj, hb⟩)
    (fun i r'' hi => one1_iff.2 (look_one hi).1.symm) (fun _ _ => rfl) (fun _ _ => rfl) (usesH_none _)
  rwa [markF_none] at this
theorem allOne_of {hγ : ∀ j, (γ j).oneCell' = true} : ∀ {cs : List AV} {vs : List Value}, AV.allOneL cs = true → AV.holdsL S γ w cs vs → ∀ u ∈ vs, u.oneCell' = true
  | [], vs, _, h, u, hu => by simp only [AV.holdsL] at h; subst h; cases hu
  | c :: cs, vs, ha, h, u, hu => by
    simp only [AV.holdsL] at h
    obtain ⟨v, vs', rfl, h1, h2⟩ := h
    simp only [AV.allOneL, Bool.and_eq_true] at ha
    rcases List.mem_cons.1 hu with rfl | hu
    · exact AV.one hγ h1 ha.1
    · exact allOne_of (hγ := hγ) ha.2 h2 u hu
theorem ao_store {x y : Operand} {t j off : Nat} {ti : TI} {cs ds : List AV} {a : AV} (hg : o.guard = none := by rfl) (hd : o.dst = none := by rfl) (ho : o.op = .store t x y := by rfl) (hT : TTOk P T := by assumption) (ht : look T t = some ti := by rfl) (hx : Opv fr x (.ptr j off) := by exact opv_std) (hj : look H j = some (.box cs) := by rfl)
    (hy : Opv fr y a := by exact opv_std) (hc : cellsOf a = some ds := by rfl) (h1 : AV.allOneL ds = true := by rfl) (hl : Nat.beq ds.length ti.size = true := by rfl) (hb : Nat.ble (off + ti.size) cs.length = true := by rfl)
    (next : AOps P c n ops rest Q fr ((j, .box (setAll cs off ds)) :: dropH (one1 j) H)) : AOps P c n ops (o :: rest) Q fr H := fun S γ tmps w hr => by
  refine ao_plain hg ?_
  have env := hr.env (ds := []) (fun _ => True)
  have hxv := env.get hx trivial
  have hyv := env.get hy trivial
  simp only [AV.holds] at hxv
  obtain ⟨g, hg', hxv⟩ := hxv
  obtain ⟨arr, e, hh, hL⟩ := box_cell hr.st hj hg'
  have hcs := cellsOf_holds hr.st.one hc hyv
  have hl' : ds.length = ti.size := Nat.eq_of_beq_eq_true hl
  have hb' : off + ti.size ≤ cs.length := Nat.le_of_ble_eq_true hb
  have hlv := AV.holdsL_len hcs
  have hla := AV.holdsL_len hL
  obtain ⟨w', h2, h3, h4, h5⟩ := storeCells_run (P := P) (off := off) (Act.eval ⟨tmps, []⟩ y).cells.toList 0 arr w hh (allOne_of (hγ := hr.st.one) h1 hcs) (by simp only [Array.length_toList] at hla; omega)
  have hrun : (execOp (Act.eval ⟨tmps, []⟩) o).run P w = .ok .skip w' := by
    have hsz : (Act.eval ⟨tmps, []⟩ y).cells.size = ti.size := by
      rw [← Array.length_toList, hlv, hl']
    simp only [execOp, ho, Instr.storeAt, hxv, Instr.sureAddr, storeVar, Sem.run_bind, Sem.run_pure, Result.andThen_ok, hT.size ht, hsz, ne_eq, not_true_eq_false, if_false, h2]
  rw [hrun]
  have hput : (Act.put ⟨tmps, []⟩ o.dst undef) = ⟨tmps, []⟩ := by rw [hd]; rfl
  show wpList P ops (lift c n Q) rest (Act.put ⟨tmps, []⟩ o.dst undef) w'
  rw [hput]
  obtain ⟨g', arr', e', hv, hh', _⟩ := hr.st.res j _ hj
  have hgg : g' = g := by rw [hv] at hg'; simpa [gof] using hg'
  subst hgg
  have hrb : rblk (γ j) = some g' := by rw [hv]; rfl
  refine next S γ tmps w' (hr.same1 j hj ⟨h3.os, h3.tape, h3.output, h3.size, fun b hb hn => h3.block b hb (fun e => hn (by rw [hrb, e]))⟩ ⟨g', _, e, hv, h4, ?_⟩)
  have hsame : Same S w w' := fun b hs => h3.block b (hr.st.sz b hs) (fun e => by subst e; exact hr.st.live j _ b hj hrb hs)
  have := holdsL_setAll (S := S) (γ := γ) (w := w) off hcs hL
  simp only [Nat.add_zero]
  exact AV.extL (fun _ h => h) hsame (by simpa using this)

/-- what stands behind an operand that is copied -/
inductive Src (fr : List (Nat × AV)) (H : List (Nat × Res)) (x : Operand) {α : Type} (E : Enc α) : List α → Prop
  | snap {ys : List α} (h : Opv fr x (.snap (slF E ys))) : Src fr H x E ys
  | own {i e : Nat} {ys : List α} (h : Opv fr x (.own i)) (hi : look H i = some (.own e E ys)) : Src fr H x E ys
  | nil (h : Opv fr x (.lit (.slice none 0 0))) : Src fr H x E []
  | pre {i e m : Nat} {ys : List α} (h : Opv fr x (.pre i m)) (hi : look H i = some (.own e E ys)) (hm : m ≤ ys.length) : Src fr H x E (ys.take m)
theorem Src.get {use : Operand → Prop} {ρ : Operand → Value} {x : Operand} {α : Type} {E : Enc α} {ys : List α} (h : Src fr H x E ys) (env : Env fr H use ρ S γ w) (hu : use x) :
    ∃ B d vs, ρ x = .slice B ys.length d ∧ ys.length ≤ d ∧ Row w B vs ∧ AV.holdsL S noγ w (E.all ys) vs ∧ ∀ u ∈ vs, u.oneCell' = true := by
  cases h with
  | snap h =>
    have := env.get h hu
    simp only [AV.holds] at this
    obtain ⟨A, c, vs, hv, hc, hr, hh, h1⟩ := this
    exact ⟨A, c, vs, hv, hc, hr.row, hh, h1⟩
  | own h hi =>
    have h1 := env.get h hu
    simp only [AV.holds] at h1
    obtain ⟨vs, ho, hh, h2⟩ := env.st.res _ _ hi
    obtain ⟨A, c, hv, hc, _, hrow⟩ := ho.row
    exact ⟨A, c, vs, h1.trans hv, hc, hrow, hh, h2⟩
  | nil h =>
    exact ⟨none, 0, [], env.lit h hu, Nat.le_refl _, Row.nil _ _, by simp [Enc.all, AV.holdsL], by simp⟩
  | @pre i e m ys h hi hm =>
    have h1 := env.get h hu
    simp only [AV.holds] at h1
    obtain ⟨g, c, hg, hmc, hv⟩ := h1
    obtain ⟨vs, ho, hh, h2⟩ := env.st.res _ _ hi
    have hl : (ys.take m).length = m := by rw [List.length_take, Nat.min_eq_left hm]
    have hh2 : AV.holdsL S noγ w (E.all (ys.take m)) (vs.take (m * E.size)) := by
      rw [← Enc.all_take]; exact AV.holdsL_take hh _
    refine ⟨some ⟨g, 0, none⟩, c, vs.take (m * E.size), by rw [hv, hl], by rw [hl]; exact hmc, ?_, hh2, fun u hu => h2 u (List.mem_of_mem_take hu)⟩
    intro hne
    have hvs : vs ≠ [] := fun e => hne (by rw [e]; simp)
    obtain ⟨A, c', hγ, _, _, hrow⟩ := ho.row
    obtain ⟨ad, hA, hcell⟩ := hrow hvs
    have hvl := ho.1
    obtain ⟨_, A2, c2, hγ2, ⟨hz, _⟩ | ⟨g2, cur, hA2, _⟩⟩ := ho
    · exfalso
      apply hvs
      rw [hz, Nat.zero_mul] at hvl
      exact List.eq_nil_of_length_eq_zero hvl
    · rw [hγ2, hA2] at hg hγ
      have hgg : g2 = g := by simpa [gof] using hg
      injection hγ with hq
      rw [← hq] at hA
      injection hA with hA
      subst hgg
      refine ⟨_, rfl, fun j u hj => ?_⟩
      rw [hA]
      refine hcell j u ?_
      rw [List.getElem?_take] at hj
      split at hj
      · exact hj
      · cases hj
theorem own_rblk {base e size n : Nat} {v : Value} {xs : List Value} (h : Own w base e size v n xs) : rblk v = wblk v ∧ v.oneCell' = true := by
  obtain ⟨_, A, c, rfl, _⟩ := h
  cases A <;> exact ⟨rfl, rfl⟩
theorem append_core {d t e j s b es eb : Nat} {ek : TK} {sx x : Operand} {α : Type} {E : Enc α} {xs ys : List α} (hg : o.guard = none) (hd : o.dst = some d) (hn : Nat.blt d n = true) (ho : o.op = .call { callee := .builtin .append, args := #[sx, x], argTypes := #[t, t] })
    (hT : TTOk P T) (ht : look T t = some ⟨.slice e, s, b⟩) (he : look T e = some ⟨ek, es, eb⟩) (hs : es = E.size) (hE : Nat.blt 0 es = true)
    (hsv : Act.eval ⟨tmps, []⟩ sx = γ j) (hj : look H j = some (.own e E xs)) (hx : Src fr H x E ys) (hm : xs.length + ys.length ≤ 9223372036854775807) (hb : (xs.length + ys.length) * eb ≤ 140737488355328)
    (k : Nat) (hkJ : Nat.ble 1000 k = true) (hu : usesH (one1 k) (dropH (one1 k) (dropH (one1 j) H)) = true)
    (next : AOps P c n ops rest Q ((d, .own k) :: markF (one1 k) fr) ((k, .own e E (xs ++ ys)) :: dropH (one1 k) (dropH (one1 j) H))) (hr : Rel c n fr H S γ tmps w) : wpList P ops (lift c n Q) (o :: rest) ⟨tmps, []⟩ w := by
  refine ao_plain hg ?_
  have env := hr.env (ds := []) (fun _ => True)
  obtain ⟨vs, hown, hvs, hv1⟩ := hr.st.res j _ hj
  obtain ⟨B, dd, us, hxv, hdd, hrow, hus, hu1⟩ := hx.get env trivial
  obtain ⟨i, z, hi, hi1, hi2, hz, hzs⟩ := hT.info he
  simp only at hi1 hi2 hzs
  have hlen := AV.holdsL_len hus
  rw [Enc.all_len] at hlen
  have hk1000 : 1000 ≤ k := Nat.le_of_ble_eq_true hkJ
  have hE' : 0 < es := Nat.lt_of_lt_of_le Nat.zero_lt_one (Nat.le_of_ble_eq_true hE)
  obtain ⟨v', w', hrun, hown', hgr, hwb⟩ := run_app (P := P) w 0 t o.type e i z E.size eb (hT.slice ht) hi hz (by rw [hi1, hs]) hi2 (by rw [hzs, hs]) (by omega) (γ j) xs.length vs hown B ys.length dd us hlen hrow hu1 hb (by unfold maxLen; exact hm) (Nat.zero_le _)
  have hexec : (execOp (Act.eval ⟨tmps, []⟩) o).run P w = .ok (.value v') w' := by
    unfold execOp
    simp only [ho, resolve, invoke, builtin, Sem.run_bind, Sem.run_pure, Result.andThen_ok, List.map_toArray, List.map_cons, List.map_nil, hsv, hxv, hrun]
  refine outc hexec ?_
  have hput : ∀ v, (Act.put ⟨tmps, []⟩ o.dst v) = ⟨tmps.setIfInBounds d v, []⟩ := fun v => by rw [hd]; rfl
  rw [hput]
  have hrb := own_rblk hown
  have hrb' := own_rblk hown'
  have hsame : Same S w w' := fun b hs => hgr.block b (hr.st.sz b hs) (fun e => hr.st.live j _ b hj (by rw [hrb.1, ← e]) hs)
  have hres : (Res.own e E (xs ++ ys)).holds S (upd γ k v') w' v' := by
    refine ⟨vs ++ us, by simpa using hown', ?_, fun u hu => (List.mem_append.1 hu).elim (hv1 u) (hu1 u)⟩
    rw [Enc.all_append]
    exact AV.holdsL_app (AV.extL (fun _ h => h) hsame hvs) (AV.extL (fun _ h => h) hsame hus)
  have hst : St S (upd γ k v') w' [(k, .own e E (xs ++ ys))] := by
    refine ⟨?_, ?_, ?_, ?_, ?_⟩
    · intro i r' hi
      obtain ⟨rfl, rfl⟩ := look_one hi
      rw [upd_same]; exact hres
    · intro i j ri rj b hi hj _ _
      rw [(look_one hi).1, (look_one hj).1]
    · intro i r' b hi hb' hs
      obtain ⟨rfl, rfl⟩ := look_one hi
      rw [upd_same, hrb'.1] at hb'
      rcases hwb with h1 | h1
      · rw [h1] at hb'
        exact hr.st.live j _ b hj (by rw [hrb.1]; exact hb') hs
      · rw [h1] at hb'
        have := hr.st.sz b hs
        simp only [Option.some.injEq] at hb'; omega
    · exact hr.st.sz.to (fun _ h => h) hsame fun b hs => by have := hr.st.sz b hs; have := hgr.size; omega
    · intro i
      by_cases hi : i = k
      · subst hi; rw [upd_same]; exact hrb'.2
      · rw [upd_other hi]; exact hr.st.one i
  have hdd2 : dropH (one1 k) (dropH (one1 j) H) = dropH (fun i => one1 j i || one1 k i) H := by
    unfold dropH
    rw [List.filter_filter]
    congr 1
    funext p
    simp only [Bool.not_or]
    exact Bool.and_comm _ _
  have hfin := hr.eff (fun i => one1 j i || one1 k i) (one1 k) (Hn := [(k, .own e E (xs ++ ys))]) (S' := S) (γ' := upd γ k v') (w' := w') (fun i hi => by simp [hi])
    ⟨hgr.os, hgr.tape, hgr.output, hgr.size, fun b hb hn => hgr.block b hb fun h1 => hn ⟨j, _, by simp [one1_iff.2], hj, by rw [hrb.1, ← h1]⟩⟩ (fun _ h => h) (fun b h => .inl h) hst
    (fun i r' b hi hb' => by
      obtain ⟨rfl, rfl⟩ := look_one hi
      rw [upd_same, hrb'.1] at hb'
      rcases hwb with h1 | h1
      · right; exact ⟨j, _, by simp [one1_iff.2], hj, by rw [hrb.1, ← h1]; exact hb'⟩
      · rw [h1] at hb'; left; simp only [Option.some.injEq] at hb'; omega)
    (fun i r' hi => by simp [one1_iff.2 (look_one hi).1.symm])
    (fun i hi => upd_other (by rintro rfl; rw [one1_iff.2 rfl] at hi; cases hi))
    (fun i hi => by
      have := c.lt i hi
      cases hb : one1 k i with
      | false => rfl
      | true => have := one1_iff.1 hb; omega)
    (by rw [← hdd2]; exact hu)
  rw [← hdd2] at hfin
  exact next S _ _ _ (hfin.put (Nat.le_of_ble_eq_true hn) (by simp only [AV.holds]; rw [upd_same]))
/-- appending to a slice of one's own -/
theorem ao_append {d t e j s b es eb : Nat} {ek : TK} {sx x : Operand} {α : Type} {E : Enc α} {xs ys : List α} (hg : o.guard = none := by rfl) (hd : o.dst = some d := by rfl) (hn : Nat.blt d n = true := by rfl) (ho : o.op = .call { callee := .builtin .append, args := #[sx, x], argTypes := #[t, t] } := by rfl)
    (hT : TTOk P T := by assumption) (ht : look T t = some ⟨.slice e, s, b⟩ := by rfl) (he : look T e = some ⟨ek, es, eb⟩ := by rfl)
    (hsx : Opv fr sx (.own j) := by exact opv_std) (hj : look H j = some (.own e E xs) := by rfl) (hx : Src fr H x E ys := by first | exact .snap (by exact opv_std) | exact .own (by exact opv_std) rfl | exact .nil (by exact opv_std)) (hm : xs.length + ys.length ≤ 9223372036854775807 := by first | omega | (simp only [List.length_append, List.length_cons, List.length_nil, List.length_take, List.length_drop, List.length_replicate, List.length_map, List.length_set]; omega)) (hb : (xs.length + ys.length) * eb ≤ 140737488355328 := by first | omega | (simp only [List.length_append, List.length_cons, List.length_nil, List.length_take, List.length_drop, List.length_replicate, List.length_map, List.length_set]; omega)) (hs : es = E.size := by rfl) (hE : Nat.blt 0 es = true := by rfl)
    (k : Nat) (hkJ : Nat.ble 1000 k = true := by rfl) (hu : usesH (one1 k) (dropH (one1 k) (dropH (one1 j) H)) = true := by rfl)
    (next : AOps P c n ops rest Q ((d, .own k) :: markF (one1 k) fr) ((k, .own e E (xs ++ ys)) :: dropH (one1 k) (dropH (one1 j) H))) : AOps P c n ops (o :: rest) Q fr H := fun S γ tmps w hr => by
  have hsv := (hr.env (ds := []) (fun _ => True)).get hsx trivial
  simp only [AV.holds] at hsv
  exact append_core hg hd hn ho hT ht he hs hE hsv hj hx hm hb k hkJ hu next hr
/-- appending to a nil slice -/
theorem ao_append_nil {d t e s b es eb : Nat} {ek : TK} {sx x : Operand} {α : Type} {E : Enc α} {ys : List α} {A : Option Addr} (hg : o.guard = none := by rfl) (hd : o.dst = some d := by rfl) (hn : Nat.blt d n = true := by rfl) (ho : o.op = .call { callee := .builtin .append, args := #[sx, x], argTypes := #[t, t] } := by rfl)
    (hT : TTOk P T := by assumption) (ht : look T t = some ⟨.slice e, s, b⟩ := by rfl) (he : look T e = some ⟨ek, es, eb⟩ := by rfl)
    (hsx : Opv fr sx (.lit (.slice A 0 0)) := by exact opv_std) (hx : Src (markF (one1 (d + 1000)) fr) ((d + 1000, .own e E []) :: dropH (one1 (d + 1000)) H) x E ys := by first | exact .snap (by exact opv_std) | exact .own (by exact opv_std) rfl | exact .nil (by exact opv_std)) (hm : ys.length ≤ 9223372036854775807 := by first | omega | (simp only [List.length_append, List.length_cons, List.length_nil, List.length_take, List.length_drop, List.length_replicate, List.length_map, List.length_set]; omega)) (hb : ys.length * eb ≤ 140737488355328 := by first | omega | (simp only [List.length_append, List.length_cons, List.length_nil, List.length_take, List.length_drop, List.length_replicate, List.length_map, List.length_set]; omega)) (hs : es = E.size := by rfl) (hE : Nat.blt 0 es = true := by rfl)
    (hu : usesH (one1 (d + 1000)) (dropH (one1 (d + 1000)) H) = true := by rfl) (hu2 : usesH (one1 (d + 1000)) (dropH (one1 (d + 1000)) (dropH (one1 (d + 1000)) ((d + 1000, .own e E []) :: dropH (one1 (d + 1000)) H))) = true := by rfl)
    (next : AOps P c n ops rest Q ((d, .own (d + 1000)) :: markF (one1 (d + 1000)) (markF (one1 (d + 1000)) fr)) ((d + 1000, .own e E ys) :: dropH (one1 (d + 1000)) (dropH (one1 (d + 1000)) ((d + 1000, .own e E []) :: dropH (one1 (d + 1000)) H)))) : AOps P c n ops (o :: rest) Q fr H := fun S γ tmps w hr => by
  have hsv := (hr.env (ds := []) (fun _ => True)).lit hsx trivial
  have hk : Nat.ble 1000 (d + 1000) = true := Nat.ble_eq_true_of_le (by omega)
  have hr' := hr.eff1 (d + 1000) (w' := w) (r := .own e E []) (v := .slice A 0 0) (Keep.refl _ _) ⟨[], by simpa using Own.nil w 0 e E.size A, by simp [Enc.all, AV.holdsL], by simp⟩ rfl (fun b hb => by cases A <;> simp [rblk, wblk] at hb) hk hu
  exact append_core (xs := []) hg hd hn ho hT ht he hs hE (by rw [hsv, upd_same]) (by rw [look_cons, if_pos rfl]) hx (by simpa using hm) (by simpa using hb) (d + 1000) hk hu2 next hr'
/-- a slice with no room at all may be one's own -/
theorem Rel.ownNil (h : Rel c n fr H S γ tmps w) {x k e : Nat} {α : Type} {E : Enc α} {A : Option Addr} (hx : look fr x = some (.lit (.slice A 0 0))) (hkJ : Nat.ble 1000 k = true) (hu : usesH (one1 k) (dropH (one1 k) H) = true) :
    Rel c n ((x, .own k) :: markF (one1 k) fr) ((k, .own e E []) :: dropH (one1 k) H) S (upd γ k (.slice A 0 0)) tmps w := by
  have hv := h.fr x _ hx
  simp only [AV.holds] at hv
  have := h.eff1 k (w' := w) (r := .own e E []) (v := .slice A 0 0) (Keep.refl _ _) ⟨[], by simpa using Own.nil w 0 e E.size A, by simp [Enc.all, AV.holdsL], by simp⟩ rfl (fun b hb => by cases A <;> simp [rblk, wblk] at hb) hkJ hu
  refine ⟨this.st, fun y av hy => ?_, this.up, this.own, this.ids, this.size, this.keep⟩
  rw [look_cons] at hy
  split at hy
  · rename_i e
    subst e
    simp only [Option.some.injEq] at hy; subst hy
    simp only [AV.holds]
    rw [upd_same]; exact hv
  · exact this.fr y av hy
theorem a_ownNil {code : Code} (x e : Nat) {α : Type} (E : Enc α) (k : Nat) {A : Option Addr} (hx : look fr x = some (.lit (.slice A 0 0))) (hkJ : Nat.ble 1000 k = true) (hu : usesH (one1 k) (dropH (one1 k) H) = true)
    (h : ACode P c n code Q ((x, .own k) :: markF (one1 k) fr) ((k, .own e E []) :: dropH (one1 k) H)) : ACode P c n code Q fr H := fun S γ tmps w hr => h S _ tmps w (hr.ownNil hx hkJ hu)
theorem ao_ownNil (x e : Nat) {α : Type} (E : Enc α) (k : Nat) {A : Option Addr} (hx : look fr x = some (.lit (.slice A 0 0)) := by rfl) (hkJ : Nat.ble 1000 k = true := by rfl) (hu : usesH (one1 k) (dropH (one1 k) H) = true := by rfl)
    (h : AOps P c n ops rest Q ((x, .own k) :: markF (one1 k) fr) ((k, .own e E []) :: dropH (one1 k) H)) : AOps P c n ops rest Q fr H := fun S γ tmps w hr => h S _ tmps w (hr.ownNil hx hkJ hu)
end
end Go.Proofs.YtgdkeafdlehlaaaDoor

/- Contracts and calls, over abstract frames. Nothing of the program stands here. -/
namespace Go.Proofs.YtgdkeafdlehlaaaDoor
open Go Go.RowKit
set_option linter.unusedVariables false

mutual
def AV.ren (ρ : Nat → Nat) : AV → AV
  | .own j => .own (ρ j)
  | .ptr j off => .ptr (ρ j) off
  | .sl j off m k => .sl (ρ j) off m k
  | .pre j m => .pre (ρ j) m
  | .agg cs => .agg (AV.renL ρ cs)
  | .tup cs => .tup (AV.renL ρ cs)
  | .fn f cs => .fn f (AV.renL ρ cs)
  | .when p a => .when p (AV.ren ρ a)
  | .any => .any
  | .lit v => .lit v
  | .snap F => .snap F
def AV.renL (ρ : Nat → Nat) : List AV → List AV
  | [] => []
  | c :: cs => AV.ren ρ c :: AV.renL ρ cs
end
mutual
theorem AV.holds_ren {S : Nat → Prop} {γ : Nat → Value} {w : World} (ρ : Nat → Nat) : ∀ (a : AV) (v : Value), (a.ren ρ).holds S γ w v ↔ a.holds S (fun j => γ (ρ j)) w v
  | .any, v => by simp [AV.ren, AV.holds]
  | .lit u, v => by simp [AV.ren, AV.holds]
  | .snap F, v => by simp [AV.ren, AV.holds]
  | .own j, v => by simp [AV.ren, AV.holds]
  | .ptr j off, v => by simp [AV.ren, AV.holds]
  | .sl j off m k, v => by simp [AV.ren, AV.holds]
  | .pre j m, v => by simp [AV.ren, AV.holds]
  | .agg cs, v => by simp only [AV.ren, AV.holds, AV.holdsL_ren ρ cs]
  | .tup cs, v => by simp only [AV.ren, AV.holds, AV.holdsL_ren ρ cs]
  | .fn f cs, v => by simp only [AV.ren, AV.holds, AV.holdsL_ren ρ cs]
  | .when p a, v => by simp only [AV.ren, AV.holds, AV.holds_ren ρ a]
theorem AV.holdsL_ren {S : Nat → Prop} {γ : Nat → Value} {w : World} (ρ : Nat → Nat) : ∀ (cs : List AV) (vs : List Value), AV.holdsL S γ w (AV.renL ρ cs) vs ↔ AV.holdsL S (fun j => γ (ρ j)) w cs vs
  | [], vs => by simp [AV.renL, AV.holdsL]
  | c :: cs, vs => by simp only [AV.renL, AV.holdsL, AV.holds_ren ρ c, AV.holdsL_ren ρ cs]
end
def Res.ren (ρ : Nat → Nat) : Res → Res
  | .box cs => .box (AV.renL ρ cs)
  | .own e E xs => .own e E xs
  | .iter s pos => .iter s pos
theorem Res.holds_ren {S : Nat → Prop} {γ : Nat → Value} {w : World} (ρ : Nat → Nat) (r : Res) (v : Value) : (r.ren ρ).holds S γ w v ↔ r.holds S (fun j => γ (ρ j)) w v := by
  cases r with
  | box cs => simp only [Res.ren, Res.holds, AV.holdsL_ren]
  | own e E xs => simp only [Res.ren, Res.holds]
  | iter s pos => simp only [Res.ren, Res.holds]
mutual
/-- reads nothing from memory but through its resources -/
def AV.noS : AV → Bool
  | .snap _ => false
  | .agg cs => AV.noSL cs
  | .tup cs => AV.noSL cs
  | .fn _ cs => AV.noSL cs
  | .when _ a => AV.noS a
  | _ => true
def AV.noSL : List AV → Bool
  | [] => true
  | c :: cs => AV.noS c && AV.noSL cs
end
mutual
theorem AV.noS_any {S S' : Nat → Prop} {γ γ' : Nat → Value} {w w' : World} (p : Nat → Bool) (hg : ∀ j, p j = true → γ' j = γ j) : ∀ (a : AV) (v : Value), a.noS = true → a.uses p = true → a.holds S γ w v → a.holds S' γ' w' v
  | .any, v, _, _, _ => by simp [AV.holds]
  | .lit u, v, _, _, h => by simpa [AV.holds] using h
  | .snap F, v, hf, _, h => by simp [AV.noS] at hf
  | .own j, v, _, hu, h => by
    simp only [AV.holds, AV.uses] at h hu ⊢
    rw [hg j hu]; exact h
  | .ptr j off, v, _, hu, h => by
    simp only [AV.holds, AV.uses] at h hu ⊢
    rw [hg j hu]; exact h
  | .sl j off m k, v, _, hu, h => by
    simp only [AV.holds, AV.uses] at h hu ⊢
    rw [hg j hu]; exact h
  | .pre j m, v, _, hu, h => by
    simp only [AV.holds, AV.uses] at h hu ⊢
    rw [hg j hu]; exact h
  | .agg cs, v, hf, hu, h => by
    simp only [AV.holds, AV.noS, AV.uses] at h hf hu ⊢
    obtain ⟨vs, rfl, h⟩ := h
    exact ⟨vs, rfl, AV.noS_anyL p hg cs vs hf hu h⟩
  | .tup cs, v, hf, hu, h => by
    simp only [AV.holds, AV.noS, AV.uses] at h hf hu ⊢
    obtain ⟨vs, rfl, h⟩ := h
    exact ⟨vs, rfl, AV.noS_anyL p hg cs vs hf hu h⟩
  | .fn f cs, v, hf, hu, h => by
    simp only [AV.holds, AV.noS, AV.uses] at h hf hu ⊢
    obtain ⟨vs, rfl, h⟩ := h
    exact ⟨vs, rfl, AV.noS_anyL p hg cs vs hf hu h⟩
  | .when q a, v, hf, hu, h => by
    simp only [AV.holds, AV.noS, AV.uses] at h hf hu ⊢
    exact ⟨fun hq => AV.noS_any p hg a v hf hu (h.1 hq), h.2⟩
theorem AV.noS_anyL {S S' : Nat → Prop} {γ γ' : Nat → Value} {w w' : World} (p : Nat → Bool) (hg : ∀ j, p j = true → γ' j = γ j) : ∀ (cs : List AV) (vs : List Value), AV.noSL cs = true → AV.usesL p cs = true → AV.holdsL S γ w cs vs → AV.holdsL S' γ' w' cs vs
  | [], vs, _, _, h => by simpa [AV.holdsL] using h
  | c :: cs, vs, hf, hu, h => by
    simp only [AV.holdsL, AV.noSL, AV.usesL, Bool.and_eq_true] at h hf hu ⊢
    obtain ⟨v, vs', rfl, h1, h2⟩ := h
    exact ⟨v, vs', rfl, AV.noS_any p hg c v hf.1 hu.1 h1, AV.noS_anyL p hg cs vs' hf.2 hu.2 h2⟩
end
mutual
theorem AV.ren_id (ρ : Nat → Nat) : ∀ (a : AV), a.uses (fun _ => false) = true → a.ren ρ = a
  | .any, _ => rfl
  | .lit _, _ => rfl
  | .snap _, _ => rfl
  | .own j, h => by simp [AV.uses] at h
  | .ptr j off, h => by simp [AV.uses] at h
  | .sl j off m k, h => by simp [AV.uses] at h
  | .pre j m, h => by simp [AV.uses] at h
  | .agg cs, h => by simp only [AV.uses] at h; simp only [AV.ren, AV.renL_id ρ cs h]
  | .tup cs, h => by simp only [AV.uses] at h; simp only [AV.ren, AV.renL_id ρ cs h]
  | .fn f cs, h => by simp only [AV.uses] at h; simp only [AV.ren, AV.renL_id ρ cs h]
  | .when p a, h => by simp only [AV.uses] at h; simp only [AV.ren, AV.ren_id ρ a h]
theorem AV.renL_id (ρ : Nat → Nat) : ∀ (cs : List AV), AV.usesL (fun _ => false) cs = true → AV.renL ρ cs = cs
  | [], _ => rfl
  | c :: cs, h => by
    simp only [AV.usesL, Bool.and_eq_true] at h
    simp only [AV.renL, AV.ren_id ρ c h.1, AV.renL_id ρ cs h.2]
end
def Enc.isFlat {α : Type} (E : Enc α) : Prop := ∀ x, AV.flatL (E.cells x) = true
def Res.isFlat : Res → Prop
  | .box cs => AV.flatL cs = true
  | .own _ E _ => E.isFlat
  | .iter _ _ => True
theorem flatL_app : ∀ (cs ds : List AV), AV.flatL (cs ++ ds) = (AV.flatL cs && AV.flatL ds)
  | [], ds => by simp [AV.flatL]
  | c :: cs, ds => by simp [AV.flatL, flatL_app cs ds, Bool.and_assoc]
theorem Enc.isFlat.all {α : Type} {E : Enc α} (h : E.isFlat) (xs : List α) : AV.flatL (E.all xs) = true := by
  induction xs with
  | nil => rfl
  | cons x xs ih =>
    have : E.all (x :: xs) = E.cells x ++ E.all xs := rfl
    rw [this, flatL_app, h x, ih]; rfl
theorem Res.flat_any {S S' : Nat → Prop} {γ γ' : Nat → Value} {w : World} {r : Res} (hf : r.isFlat) {v : Value} (h : r.holds S γ w v) : r.holds S' γ' w v := by
  cases r with
  | box cs =>
    obtain ⟨g, arr, e, rfl, hg, hc⟩ := h
    exact ⟨g, arr, e, rfl, hg, AV.flat_anyL cs _ hf hc⟩
  | own e E xs =>
    obtain ⟨vs, ho, hc, h1⟩ := h
    exact ⟨vs, ho, AV.flat_anyL _ _ (hf.all xs) hc, h1⟩
  | iter s pos => exact h

/-- the blocks that resources may change -/
def blks (γ : Nat → Value) (H : List (Nat × Res)) (b : Nat) : Prop := ∃ j r, look H j = some r ∧ rblk (γ j) = some b
structure CPost (S : Nat → Prop) (γ : Nat → Value) (w : World) (Hin : List (Nat × Res)) (out : AV) (Hout : List (Nat × Res)) (v : Value) (w' : World) (S' : Nat → Prop) (γ' : Nat → Value) : Prop where
  keep : Keep (blks γ Hin) w w'
  up : ∀ b, S' b → S b ∨ w.heap.size ≤ b ∨ blks γ Hin b
  val : out.holds S' γ' w' v
  st : St S' γ' w' Hout
  own : ∀ j r b, look Hout j = some r → rblk (γ' j) = some b → w.heap.size ≤ b ∨ blks γ Hin b
  same : ∀ j r, look Hin j = some r → γ' j = γ j
/-- a call of f answers, and leaves resources, qs0 the post says -/
def Con (P : Program) (f : FuncId) (args : List AV) (Hin : List (Nat × Res)) (post : AV → List (Nat × Res) → Prop) : Prop :=
  ∀ S γ w vs, St S γ w Hin → AV.holdsL S γ w args vs → Calls P f vs.toArray w fun e w' => ∃ v out Hout S' γ', e = .returned v ∧ post out Hout ∧ CPost S γ w Hin out Hout v w' S' γ'
/-- a call that only answers -/
def Con0 (P : Program) (f : FuncId) (args : List AV) (out : AV) : Prop := Con P f args [] fun a h => a = out ∧ h = []

def argF : Nat → List AV → List (Nat × AV)
  | _, [] => []
  | i, a :: qs0 => (i, a) :: argF (i + 1) qs0
theorem look_argF : ∀ (qs0 : List AV) (i x : Nat) (a : AV), look (argF i qs0) x = some a → i ≤ x ∧ qs0[x - i]? = some a
  | [], i, x, a, h => by simp [argF, look] at h
  | b :: qs0, i, x, a, h => by
    simp only [argF] at h
    rw [look_cons] at h
    split at h
    · rename_i e; subst e
      simp only [Option.some.injEq] at h; subst h
      simp
    · have := look_argF qs0 (i + 1) x a h
      refine ⟨by omega, ?_⟩
      rw [show x - i = (x - (i + 1)) + 1 from by omega]
      simpa using this.2
/-- what a function's results read qs0 -/
inductive ResOk (T : List (Nat × TI)) (fr : List (Nat × AV)) (H : List (Nat × Res)) : List ResultVar → List AV → Prop
  | nil : ResOk T fr H [] []
  | tmp {t : Tmp} {a : AV} {rs : List ResultVar} {qs0 : List AV} (h : look fr t = some a) (hr : ResOk T fr H rs qs0) : ResOk T fr H (.tmp t :: rs) (a :: qs0)
  | cell {ad : Tmp} {ty j off : Nat} {ti : TI} {cs : List AV} {a : AV} {rs : List ResultVar} {qs0 : List AV} (h : look fr ad = some (.ptr j off)) (hj : look H j = some (.box cs)) (ht : look T ty = some ti) (ha : ti.kind.agg = false) (hc : cs[off]? = some a) (hr : ResOk T fr H rs qs0) : ResOk T fr H (.cell ad ty :: rs) (a :: qs0)
  | cellA {ad : Tmp} {ty j off : Nat} {ti : TI} {cs : List AV} {rs : List ResultVar} {qs0 : List AV} (h : look fr ad = some (.ptr j off)) (hj : look H j = some (.box cs)) (ht : look T ty = some ti) (ha : ti.kind.agg = true) (hl : Nat.ble (off + ti.size) cs.length = true) (hr : ResOk T fr H rs qs0) : ResOk T fr H (.cell ad ty :: rs) (.agg ((cs.drop off).take ti.size) :: qs0)
def outOf : List AV → AV
  | [a] => a
  | qs0 => .tup qs0
def valOf : List Value → Value
  | [v] => v
  | vs => .tuple vs.toArray
def AEnd (T : List (Nat × TI)) (rs : List ResultVar) (post : AV → List (Nat × Res) → Prop) : AQ
  | .normal, fr, H => ∃ qs0 Hout, ResOk T fr H rs qs0 ∧ CovL (look H) [] Hout ∧ post (outOf qs0) Hout
  | .ret, fr, H => ∃ qs0 Hout, ResOk T fr H rs qs0 ∧ CovL (look H) [] Hout ∧ post (outOf qs0) Hout
  | _, _, _ => False

/-- what one result reads qs0 -/
inductive ResVal (T : List (Nat × TI)) (fr : List (Nat × AV)) (H : List (Nat × Res)) : ResultVar → AV → Prop
  | tmp {t : Tmp} {a : AV} (h : look fr t = some a) : ResVal T fr H (.tmp t) a
  | cell {ad : Tmp} {ty j off : Nat} {ti : TI} {cs : List AV} {a : AV} (h : look fr ad = some (.ptr j off)) (hj : look H j = some (.box cs)) (ht : look T ty = some ti) (ha : ti.kind.agg = false) (hc : cs[off]? = some a) : ResVal T fr H (.cell ad ty) a
  | cellA {ad : Tmp} {ty j off : Nat} {ti : TI} {cs : List AV} (h : look fr ad = some (.ptr j off)) (hj : look H j = some (.box cs)) (ht : look T ty = some ti) (ha : ti.kind.agg = true) (hl : Nat.ble (off + ti.size) cs.length = true) : ResVal T fr H (.cell ad ty) (.agg ((cs.drop off).take ti.size))
theorem ResVal.cons {T : List (Nat × TI)} {fr : List (Nat × AV)} {H : List (Nat × Res)} {r : ResultVar} {a : AV} {rs : List ResultVar} {qs0 : List AV} (h : ResVal T fr H r a) (hr : ResOk T fr H rs qs0) : ResOk T fr H (r :: rs) (a :: qs0) := by
  cases h with
  | tmp h => exact .tmp h hr
  | cell h hj ht ha hc => exact .cell h hj ht ha hc hr
  | cellA h hj ht ha hl => exact .cellA h hj ht ha hl hr
theorem aend {T : List (Nat × TI)} {rs : List ResultVar} {post : AV → List (Nat × Res) → Prop} {e : Exit} {fr : List (Nat × AV)} {H : List (Nat × Res)} (he : e = .ret ∨ e = .normal) (qs0 : List AV) (Hout : List (Nat × Res)) (h : ResOk T fr H rs qs0) (hc : CovL (look H) [] Hout) (hp : post (outOf qs0) Hout) : AEnd T rs post e fr H := by
  rcases he with rfl | rfl <;> exact ⟨qs0, Hout, h, hc, hp⟩
theorem aend0 {T : List (Nat × TI)} {post : AV → List (Nat × Res) → Prop} {e : Exit} {fr : List (Nat × AV)} {H : List (Nat × Res)} (he : e = .ret ∨ e = .normal) (Hout : List (Nat × Res)) (hc : CovL (look H) [] Hout) (hp : post (.tup []) Hout) : AEnd T [] post e fr H :=
  aend he [] Hout (.nil) hc hp
theorem aend1 {T : List (Nat × TI)} {r : ResultVar} {a : AV} {post : AV → List (Nat × Res) → Prop} {e : Exit} {fr : List (Nat × AV)} {H : List (Nat × Res)} (he : e = .ret ∨ e = .normal) (Hout : List (Nat × Res)) (h0 : ResVal T fr H r a) (hc : CovL (look H) [] Hout) (hp : post (a) Hout) : AEnd T [r] post e fr H :=
  aend he [a] Hout (h0.cons (.nil)) hc hp
theorem aend2 {T : List (Nat × TI)} {r r1 : ResultVar} {a a1 : AV} {post : AV → List (Nat × Res) → Prop} {e : Exit} {fr : List (Nat × AV)} {H : List (Nat × Res)} (he : e = .ret ∨ e = .normal) (Hout : List (Nat × Res)) (h0 : ResVal T fr H r a) (h1 : ResVal T fr H r1 a1) (hc : CovL (look H) [] Hout) (hp : post (.tup [a, a1]) Hout) : AEnd T [r, r1] post e fr H :=
  aend he [a, a1] Hout (h0.cons (h1.cons (.nil))) hc hp
theorem aend3 {T : List (Nat × TI)} {r r1 r2 : ResultVar} {a a1 a2 : AV} {post : AV → List (Nat × Res) → Prop} {e : Exit} {fr : List (Nat × AV)} {H : List (Nat × Res)} (he : e = .ret ∨ e = .normal) (Hout : List (Nat × Res)) (h0 : ResVal T fr H r a) (h1 : ResVal T fr H r1 a1) (h2 : ResVal T fr H r2 a2) (hc : CovL (look H) [] Hout) (hp : post (.tup [a, a1, a2]) Hout) : AEnd T [r, r1, r2] post e fr H :=
  aend he [a, a1, a2] Hout (h0.cons (h1.cons (h2.cons (.nil)))) hc hp
section
variable {P : Program} {T : List (Nat × TI)} {c : Ctx} {n : Nat} {Q : AQ} {fr : List (Nat × AV)} {H : List (Nat × Res)} {ops : Array Oper} {rest : List Oper} {o : Oper}
variable {S : Nat → Prop} {γ : Nat → Value} {tmps : Array Value} {w : World}
def resRun (tmps : Array Value) : ResultVar → Sem Value
  | .tmp t => pure (tmps.getD t undef)
  | .cell a t => do loadVar t (← asAddr (tmps.getD a undef))
theorem resOk_run (hT : TTOk P T) (hr : Rel c n fr H S γ tmps w) {rs : List ResultVar} {qs0 : List AV} (h : ResOk T fr H rs qs0) :
    ∃ vs : List Value, vs.length = rs.length ∧ AV.holdsL S γ w qs0 vs ∧ ∀ (i : Nat) (r : ResultVar), rs[i]? = some r → ∃ v, vs[i]? = some v ∧ (resRun tmps r).run P w = .ok v w := by
  induction h with
  | nil => exact ⟨[], rfl, by simp [AV.holdsL], fun i r h => by simp at h⟩
  | @tmp t a rs qs0 h _ ih =>
    obtain ⟨vs, h1, h2, h3⟩ := ih
    refine ⟨tmps.getD t undef :: vs, by simp [h1], ?_, fun i r hi => ?_⟩
    · simp only [AV.holdsL]; exact ⟨_, _, rfl, hr.fr t a h, h2⟩
    · cases i with
      | zero => simp at hi; subst hi; exact ⟨_, rfl, by simp [resRun]⟩
      | succ i => simpa using h3 i r (by simpa using hi)
  | @cell ad ty j off ti cs a rs qs0 h hj ht ha hc _ ih =>
    obtain ⟨vs, h1, h2, h3⟩ := ih
    have hp := hr.fr ad _ h
    simp only [AV.holds] at hp
    obtain ⟨g, hg, hv⟩ := hp
    obtain ⟨arr, e, hh, hl⟩ := box_cell hr.st hj hg
    obtain ⟨v, hv2, hcv⟩ := AV.holdsL_get hl off a hc
    have h0 : w.cell? ⟨g, off, none⟩ = some v := by
      rw [cell_of_row w g off _ _ _ hh]; simpa using hv2
    refine ⟨v :: vs, by simp [h1], ?_, fun i r hi => ?_⟩
    · simp only [AV.holdsL]; exact ⟨_, _, rfl, hcv, h2⟩
    · cases i with
      | zero => simp at hi; subst hi; exact ⟨_, rfl, by simp only [resRun, hv, asAddr, Sem.run_bind, Sem.run_pure, Result.andThen_ok, load_run1 hT ht ha h0]⟩
      | succ i => simpa using h3 i r (by simpa using hi)
  | @cellA ad ty j off ti cs rs qs0 h hj ht ha hl _ ih =>
    obtain ⟨vs, h1, h2, h3⟩ := ih
    have hp := hr.fr ad _ h
    simp only [AV.holds] at hp
    obtain ⟨g, hg, hv⟩ := hp
    obtain ⟨arr, e, hh, hL⟩ := box_cell hr.st hj hg
    have hlen := AV.holdsL_len hL
    have hle : off + ti.size ≤ cs.length := Nat.le_of_ble_eq_true hl
    have hload := load_run (w := w) hT ht ha (ad := ⟨g, off, none⟩) (vs := (arr.toList.drop off).take ti.size) (by rw [List.length_take, List.length_drop]; omega) (by
      intro k u hu
      rw [addr_add_ne, cell_of_row w g _ _ _ _ hh]
      rw [List.getElem?_take] at hu
      split at hu
      · simpa using hu
      · cases hu)
    refine ⟨.agg ((arr.toList.drop off).take ti.size).toArray :: vs, by simp [h1], ?_, fun i r hi => ?_⟩
    · simp only [AV.holdsL, AV.holds]; exact ⟨_, _, rfl, ⟨_, rfl, AV.holdsL_take (AV.holdsL_drop hL off) _⟩, h2⟩
    · cases i with
      | zero => simp at hi; subst hi; exact ⟨_, rfl, by simp only [resRun, hv, asAddr, Sem.run_bind, Sem.run_pure, Result.andThen_ok, hload]⟩
      | succ i => simpa using h3 i r (by simpa using hi)
theorem results_run {fn : Func} {rs : List ResultVar} (hrs : fn.results = rs.toArray) (hl : rs.length ≤ 4) {vs : List Value} (hlen : vs.length = rs.length) (h : ∀ (i : Nat) (r : ResultVar), rs[i]? = some r → ∃ v, vs[i]? = some v ∧ (resRun tmps r).run P w = .ok v w) :
    (results fn tmps).run P w = .ok (valOf vs) w := by
  have key : (results fn tmps) = (do let vs ← rs.toArray.mapM (resRun tmps); pure (if h : vs.size = 1 then vs[0] else .tuple vs)) := by
    unfold results
    rw [hrs]
    congr 1
  rw [key]
  match rs, vs, hlen, h, hl with
  | [], [], _, _, _ => simp [valOf]
  | [r], [v], _, h, _ =>
    obtain ⟨_, h1, h2⟩ := h 0 r rfl
    simp at h1; subst h1
    simp [h2, valOf]
  | [r, r'], [v, v'], _, h, _ =>
    obtain ⟨_, h1, h2⟩ := h 0 r rfl
    obtain ⟨_, h3, h4⟩ := h 1 r' rfl
    simp at h1 h3; subst h1; subst h3
    simp [h2, h4, valOf]
  | [r, r', r''], [v, v', v''], _, h, _ =>
    obtain ⟨_, h1, h2⟩ := h 0 r rfl
    obtain ⟨_, h3, h4⟩ := h 1 r' rfl
    obtain ⟨_, h5, h6⟩ := h 2 r'' rfl
    simp at h1 h3 h5; subst h1; subst h3; subst h5
    simp [h2, h4, h6, valOf]
  | [r, r', r'', r3], [v, v', v'', v3], _, h, _ =>
    obtain ⟨_, h1, h2⟩ := h 0 r rfl
    obtain ⟨_, h3, h4⟩ := h 1 r' rfl
    obtain ⟨_, h5, h6⟩ := h 2 r'' rfl
    obtain ⟨_, h7, h8⟩ := h 3 r3 rfl
    simp at h1 h3 h5 h7; subst h1; subst h3; subst h5; subst h7
    simp [h2, h4, h6, h8, valOf]
  | _ :: _ :: _ :: _ :: _ :: _, _, _, _, hl => simp at hl
theorem outOf_holds {qs0 : List AV} {vs : List Value} (h : AV.holdsL S γ w qs0 vs) : (outOf qs0).holds S γ w (valOf vs) := by
  match qs0, h with
  | [], h => simp only [AV.holdsL] at h; subst h; simp [outOf, valOf, AV.holds, AV.holdsL]
  | [a], h =>
    simp only [AV.holdsL] at h
    obtain ⟨v, vs', rfl, h1, rfl⟩ := h
    exact h1
  | a :: a' :: qs0, h =>
    have h' := h
    simp only [AV.holdsL] at h
    obtain ⟨v, vs', rfl, h1, v', vs'', rfl, h2, h3⟩ := h
    simp only [outOf, AV.holds]
    exact ⟨_, rfl, h'⟩
theorem con_of {f : FuncId} {fn : Func} {code : Code} {rs : List ResultVar} {args : List AV} {Hin : List (Nat × Res)} {post : AV → List (Nat × Res) → Prop} (hT : TTOk P T) (hf : P.funcs[f]? = some fn) (hb : fn.body = some code) (hn : fn.ntmps = n) (hrs : fn.results = rs.toArray) (hl : Nat.ble rs.length 4 = true)
    (hlt : (Hin.all fun p => Nat.blt p.1 1000) = true) (hlen : Nat.ble args.length n = true) (h : ∀ c, ACode P c n code (AEnd T rs post) (argF 0 args) Hin) : Con P f args Hin post := by
  intro S γ w vs hst hargs
  have hlv := AV.holdsL_len hargs
  have hle : args.length ≤ n := Nat.le_of_ble_eq_true hlen
  subst hn
  refine calls_of_wp hf hb ?_
  have hJ : ∀ j, (∃ r, look Hin j = some r) → j < 1000 := by
    rintro j ⟨r, hj⟩
    rw [List.all_eq_true] at hlt
    exact Nat.le_of_ble_eq_true (hlt _ (look_mem hj))
  let c : Ctx := ⟨w, S, blks γ Hin, fun j => ∃ r, look Hin j = some r, γ, hJ⟩
  have hrel : Rel c fn.ntmps (argF 0 args) Hin S γ (vs.toArray ++ Array.replicate (fn.ntmps - vs.toArray.size) undef) w := by
    refine ⟨hst, fun x av hx => ?_, fun b hb => .inl hb, fun j r b hj hb => .inr ⟨j, r, hj, hb⟩, fun _ _ => rfl, by simp; omega, Keep.refl _ _⟩
    obtain ⟨_, hx⟩ := look_argF args 0 x av hx
    obtain ⟨v, hv, hh⟩ := AV.holdsL_get hargs x av (by simpa using hx)
    have hxl := (List.getElem?_eq_some_iff.1 hv).1
    rw [Array.getD_eq_getD_getElem?, Array.getElem?_append_left (by simpa using hxl)]
    simpa [hv] using hh
  refine wp_mono (h c S γ _ w hrel) ?_
  rintro e ⟨t, d⟩ w' ⟨fr', H', S', γ', hq, hr', rfl⟩
  have fin : (∃ qs0 Hout, ResOk T fr' H' rs qs0 ∧ CovL (look H') [] Hout ∧ post (outOf qs0) Hout) → ∃ v, (results fn t).run P w' = .ok v w' ∧ ∃ v' out Hout S' γ', Ending.returned v = .returned v' ∧ post out Hout ∧ CPost S γ w Hin out Hout v' w' S' γ' := by
    rintro ⟨qs0, Hout, hres, hcov, hpost⟩
    obtain ⟨us, h1, h2, h3⟩ := resOk_run hT hr' hres
    have hrc := hr'.cov (fr := []) (H := Hout) ⟨trivial, hcov⟩
    refine ⟨_, results_run hrs (Nat.le_of_ble_eq_true hl) h1 h3, _, _, Hout, S', γ', rfl, hpost, hr'.keep, hr'.up, outOf_holds h2, hrc.st, hrc.own, fun j r hj => hr'.ids j ⟨r, hj⟩⟩
  cases e with
  | normal => exact ⟨rfl, fin hq⟩
  | ret => exact ⟨rfl, fin hq⟩
  | _ => exact hq.elim

/-- the operands of a call: qs0 they are; a slice of one's own, lent; a nil slice -/
inductive ArgsOk (B : Bool) (fr : List (Nat × AV)) (H : List (Nat × Res)) : List Operand → List AV → Prop
  | nil : ArgsOk B fr H [] []
  | cons {x : Operand} {a : AV} {xs : List Operand} {qs0 : List AV} (h : Opv fr x a) (hr : ArgsOk B fr H xs qs0) : ArgsOk B fr H (x :: xs) (a :: qs0)
  | lend {x : Operand} {j e : Nat} {α : Type} {E : Enc α} {ys : List α} {xs : List Operand} {qs0 : List AV} (hB : B = true) (h : Opv fr x (.own j)) (hj : look H j = some (.own e E ys)) (hr : ArgsOk B fr H xs qs0) : ArgsOk B fr H (x :: xs) (.snap (slF E ys) :: qs0)
  | nilS {x : Operand} {α : Type} {E : Enc α} {xs : List Operand} {qs0 : List AV} (h : Opv fr x (.lit (.slice none 0 0))) (hr : ArgsOk B fr H xs qs0) : ArgsOk B fr H (x :: xs) (.snap (slF E []) :: qs0)
  | lentS {x : Operand} {α : Type} {E : Enc α} {ys zs : List α} {xs : List Operand} {qs0 : List AV} (h : Opv fr x (.snap (roomF E ys zs))) (hr : ArgsOk B fr H xs qs0) : ArgsOk B fr H (x :: xs) (.snap (slF E ys) :: qs0)
def LentS (B : Bool) (S : Nat → Prop) (γ : Nat → Value) (H : List (Nat × Res)) : Nat → Prop := fun b => S b ∨ (B = true ∧ blks γ H b)
theorem own_snap {S' : Nat → Prop} {j e : Nat} {α : Type} {E : Enc α} {ys : List α} (hst : St S γ w H) (hj : look H j = some (.own e E ys)) (hS : ∀ b, S b → S' b) (hb : ∀ b, rblk (γ j) = some b → S' b) : (slF E ys).holds S' w (γ j) := by
  obtain ⟨vs, ho, hh, h1⟩ := hst.res j _ hj
  have ho' := ho
  obtain ⟨A, c, hv, hc, _, hrow⟩ := ho.row
  refine ⟨A, c, vs, hv, hc, ?_, AV.extL hS (fun _ _ => rfl) hh, h1⟩
  intro hne
  obtain ⟨ad, hA, hcell⟩ := hrow hne
  refine ⟨ad, hA, hb _ ?_, hcell⟩
  subst hA
  rw [hv]
  have hlen := AV.holdsL_len hh
  obtain ⟨_, A2, c2, hv2, ⟨hz, _⟩ | ⟨g, cur, _, _, _, hnc, _⟩⟩ := ho'
  · exfalso
    apply hne
    rw [Enc.all_len, hz, Nat.zero_mul] at hlen
    exact List.eq_nil_of_length_eq_zero hlen
  · have : 0 < ys.length := by
      rcases Nat.eq_zero_or_pos ys.length with h | h
      · exfalso; apply hne
        rw [Enc.all_len, h, Nat.zero_mul] at hlen
        exact List.eq_nil_of_length_eq_zero hlen
      · exact h
    cases c with
    | zero => omega
    | succ c => rfl
theorem ArgsOk.holds {B : Bool} {use : Operand → Prop} {ρ : Operand → Value} {xs : List Operand} {qs0 : List AV} (h : ArgsOk B fr H xs qs0) (env : Env fr H use ρ S γ w) (hu : ∀ x ∈ xs, use x) : AV.holdsL (LentS B S γ H) γ w qs0 (xs.map ρ) := by
  have hS : ∀ b, S b → LentS B S γ H b := fun b h => .inl h
  induction h with
  | nil => simp [AV.holdsL]
  | cons h _ ih =>
    simp only [List.map_cons, AV.holdsL]
    exact ⟨_, _, rfl, AV.ext hS (fun _ _ => rfl) (env.get h (hu _ List.mem_cons_self)), ih fun x hx => hu x (List.mem_cons_of_mem _ hx)⟩
  | @lend x j e α E ys xs qs0 hB h hj _ ih =>
    simp only [List.map_cons, AV.holdsL, AV.holds]
    refine ⟨_, _, rfl, ?_, ih fun x hx => hu x (List.mem_cons_of_mem _ hx)⟩
    have h1 := env.get h (hu _ List.mem_cons_self)
    simp only [AV.holds] at h1
    rw [h1]
    exact own_snap env.st hj hS fun b hb => .inr ⟨hB, j, _, hj, hb⟩
  | lentS h _ ih =>
    simp only [List.map_cons, AV.holdsL, AV.holds]
    refine ⟨_, _, rfl, ?_, ih fun x hx => hu x (List.mem_cons_of_mem _ hx)⟩
    have h1 := env.get h (hu _ List.mem_cons_self)
    simp only [AV.holds] at h1
    exact SFact.mono _ (room_sl h1) hS (fun _ _ => rfl)
  | nilS h _ ih =>
    simp only [List.map_cons, AV.holdsL, AV.holds]
    refine ⟨_, _, rfl, ?_, ih fun x hx => hu x (List.mem_cons_of_mem _ hx)⟩
    rw [env.lit h (hu _ List.mem_cons_self)]
    exact ⟨none, 0, [], rfl, Nat.le_refl _, fun h => absurd rfl h, by simp [Enc.all, AV.holdsL], by simp⟩
theorem St.nil (hs : SzA S w) (h1 : ∀ j, (γ j).oneCell' = true) : St S γ w [] :=
  ⟨fun j r h => by simp [look] at h, fun i j ri rj b h => by simp [look] at h, fun j r b h => by simp [look] at h, hs, h1⟩
/-- a call that only answers, anywhere -/
theorem sop_call {B : Bool} {f : FuncId} {xs : Array Operand} {tys : Array TypeId} {qs0 : List AV} {out : AV} (ho : o.op = .call { callee := .value (.func f), args := xs, argTypes := tys } := by rfl) (hf : entersB P f = true := by kernel_rfl) (hC : Con0 P f qs0 out) (hargs : ArgsOk B fr H xs.toList qs0 := by repeat (first | exact .nil | refine .cons (by exact opv_std) ?_ | refine .lend rfl (by exact opv_std) (by rfl) ?_ | refine .nilS (by exact opv_std) ?_ | refine .lentS (by exact opv_std) ?_))
    (hout : AV.uses (fun _ => false) out = true) (hB : B = false ∨ out.flat = true := by first | exact .inl rfl | exact .inr rfl | exact .inr (fun _ => rfl)) : SOp P o fr H out := fun S γ w ρ env => by
  have hl : ∀ b, LentS B S γ H b → b < w.heap.size := by
    rintro b (h | ⟨_, j, r, hj, hb⟩)
    · exact env.st.sz b h
    · exact Res.blk_lt (env.st.res j r hj) hb
  refine out_call ho (env.func f) hf ?_
  have hcall := hC (LentS B S γ H) γ w _ (St.nil (env.st.sz.to (fun b h => .inl h) (fun _ _ => rfl) hl) env.st.one) (hargs.holds env (fun x hx => by simp [ho, Op.operands, Call.operands]; right; simpa using hx))
  rw [show (List.map ρ xs.toList).toArray = Array.map ρ xs from by rw [← Array.toList_map]] at hcall
  refine hcall.mono ?_
  rintro e w' ⟨v, out', Hout, S', γ', rfl, ⟨rfl, rfl⟩, hp⟩
  have hx : Ext w w' := ⟨hp.keep.os, hp.keep.tape, hp.keep.output, hp.keep.size, fun b hb => hp.keep.block b hb (by rintro ⟨j, r, hj, _⟩; simp [look] at hj)⟩
  refine ⟨v, rfl, hx, ?_⟩
  rcases hB with rfl | hB
  · refine AV.mono (fun b hb => ?_) (fun _ _ => rfl) (fun _ => false) (fun _ h => by cases h) out' v hout hp.val
    rcases hp.up b hb with (h | ⟨h, _⟩) | h | ⟨j, r, hj, _⟩
    · exact .inl h
    · cases h
    · exact .inr ⟨h, hp.st.sz b hb⟩
    · simp [look] at hj
  · exact AV.flat_any out' v hB hp.val
end
end Go.Proofs.YtgdkeafdlehlaaaDoor

/- Calls that make or change resources; slices of one's own, read and written; slices of parts; closures. Nothing of the program stands here. -/
namespace Go.Proofs.YtgdkeafdlehlaaaDoor
open Go Go.RowKit
set_option linter.unusedVariables false

section
variable {P : Program} {T : List (Nat × TI)} {c : Ctx} {n : Nat} {Q : AQ} {fr : List (Nat × AV)} {H : List (Nat × Res)} {ops : Array Oper} {rest : List Oper} {o : Oper}
variable {S : Nat → Prop} {γ : Nat → Value} {tmps : Array Value} {w : World}

def idsOf (H : List (Nat × Res)) : List Nat := H.map (·.1)
theorem look_ids {H : List (Nat × Res)} {j : Nat} {r : Res} (h : look H j = some r) : j ∈ idsOf H := List.mem_map.2 ⟨(j, r), look_mem h, rfl⟩
theorem ids_look : ∀ {H : List (Nat × Res)} {j : Nat}, j ∈ idsOf H → ∃ r, look H j = some r
  | [], j, h => by simp [idsOf] at h
  | (k, r) :: H, j, h => by
    rw [look_cons]
    by_cases hk : k = j
    · exact ⟨r, by rw [if_pos hk]⟩
    · rw [if_neg hk]
      simp only [idsOf, List.map_cons, List.mem_cons] at h
      rcases h with h | h
      · exact absurd h.symm hk
      · exact ids_look h
def newγ (ρ : Nat → Nat) (γ' γ : Nat → Value) : List Nat → Nat → Value
  | [], i => γ i
  | j :: js, i => if ρ j = i then γ' j else newγ ρ γ' γ js i
theorem newγ_in {ρ : Nat → Nat} {γ' γ : Nat → Value} : ∀ {js : List Nat} {j : Nat}, j ∈ js → (∀ a b, a ∈ js → b ∈ js → ρ a = ρ b → a = b) → newγ ρ γ' γ js (ρ j) = γ' j
  | [], j, h, _ => by cases h
  | k :: js, j, h, hi => by
    unfold newγ
    by_cases hk : ρ k = ρ j
    · rw [if_pos hk, hi k j List.mem_cons_self h hk]
    · rw [if_neg hk]
      rcases List.mem_cons.1 h with rfl | h
      · exact absurd rfl hk
      · exact newγ_in h fun a b ha hb => hi a b (List.mem_cons_of_mem _ ha) (List.mem_cons_of_mem _ hb)
theorem newγ_out {ρ : Nat → Nat} {γ' γ : Nat → Value} {i : Nat} : ∀ {js : List Nat}, (∀ j ∈ js, ρ j ≠ i) → newγ ρ γ' γ js i = γ i
  | [], _ => rfl
  | k :: js, h => by
    unfold newγ
    rw [if_neg (h k List.mem_cons_self)]
    exact newγ_out fun j hj => h j (List.mem_cons_of_mem _ hj)
def renH (ρ : Nat → Nat) (H : List (Nat × Res)) : List (Nat × Res) := H.map fun p => (ρ p.1, p.2.ren ρ)
theorem look_renH {ρ : Nat → Nat} : ∀ {H : List (Nat × Res)} {i : Nat} {r : Res}, look (renH ρ H) i = some r → ∃ j r', (j, r') ∈ H ∧ ρ j = i ∧ r = r'.ren ρ
  | [], i, r, h => by simp [renH, look] at h
  | (k, r') :: H, i, r, h => by
    unfold renH at h
    rw [List.map_cons, look_cons] at h
    split at h
    · rename_i e
      simp only [Option.some.injEq] at h
      exact ⟨k, r', List.mem_cons_self, e, h.symm⟩
    · obtain ⟨j, r'', h1, h2, h3⟩ := look_renH (H := H) h
      exact ⟨j, r'', List.mem_cons_of_mem _ h1, h2, h3⟩
/-- the first entry of its key -/
theorem look_renH_inj {ρ : Nat → Nat} : ∀ {H : List (Nat × Res)} {i : Nat} {r : Res}, (∀ a b, a ∈ idsOf H → b ∈ idsOf H → ρ a = ρ b → a = b) → look (renH ρ H) i = some r → ∃ j r', look H j = some r' ∧ ρ j = i ∧ r = r'.ren ρ
  | [], i, r, _, h => by simp [renH, look] at h
  | (k, r') :: H, i, r, hi, h => by
    unfold renH at h
    rw [List.map_cons, look_cons] at h
    split at h
    · rename_i e
      simp only [Option.some.injEq] at h
      exact ⟨k, r', by rw [look_cons, if_pos rfl], e, h.symm⟩
    · rename_i hne
      obtain ⟨j, r'', h1, h2, h3⟩ := look_renH_inj (H := H) (fun a b ha hb => hi a b (List.mem_cons_of_mem _ ha) (List.mem_cons_of_mem _ hb)) h
      refine ⟨j, r'', ?_, h2, h3⟩
      rw [look_cons, if_neg]
      · exact h1
      · intro e; subst e; exact hne h2
def anyId (ρ : Nat → Nat) (js : List Nat) (i : Nat) : Bool := js.any fun j => Nat.beq (ρ j) i
theorem anyId_iff {ρ : Nat → Nat} {js : List Nat} {i : Nat} : anyId ρ js i = true ↔ ∃ j ∈ js, ρ j = i := by
  unfold anyId
  rw [List.any_eq_true]
  constructor
  · rintro ⟨j, hj, h⟩; exact ⟨j, hj, Nat.eq_of_beq_eq_true h⟩
  · rintro ⟨j, hj, rfl⟩; exact ⟨j, hj, Nat.beq_refl _⟩
def injB (ρ : Nat → Nat) (js : List Nat) : Bool := js.all fun a => js.all fun b => !(Nat.beq (ρ a) (ρ b)) || Nat.beq a b
theorem injB_iff {ρ : Nat → Nat} {js : List Nat} (h : injB ρ js = true) : ∀ a b, a ∈ js → b ∈ js → ρ a = ρ b → a = b := by
  intro a b ha hb he
  unfold injB at h
  rw [List.all_eq_true] at h
  have := h a ha
  rw [List.all_eq_true] at this
  have := this b hb
  rw [he, Nat.beq_refl] at this
  simp only [Bool.not_true, Bool.false_or] at this
  exact Nat.eq_of_beq_eq_true this
/-- the ids that a call makes anew -/
def freshIds (Hin Hout : List (Nat × Res)) : List Nat := (idsOf Hout).filter fun j => !((idsOf Hin).contains j)
/-- the checks of a call's resources -/
def callOk (ρ : Nat → Nat) (out : AV) (Hin Hout H : List (Nat × Res)) : Bool :=
  AV.uses (fun j => (idsOf Hout).contains j) out && (Hout.all fun p => p.2.uses fun j => (idsOf Hout).contains j) && injB ρ (idsOf Hin ++ idsOf Hout) && ((freshIds Hin Hout).all fun j => Nat.ble 1000 (ρ j)) &&
    usesH (anyId ρ (freshIds Hin Hout)) (dropH (anyId ρ (idsOf Hin ++ idsOf Hout)) H)
theorem Rel.call {Hin Hout : List (Nat × Res)} {out : AV} {v : Value} {w' : World} {S1 S' : Nat → Prop} {γ' : Nat → Value} {B : Bool} (hr : Rel c n fr H S γ tmps w) (ρ : Nat → Nat)
    (hin : ∀ j r, look Hin j = some r → look H (ρ j) = some (r.ren ρ)) (hok : callOk ρ out Hin Hout H = true)
    (hS1 : ∀ b, S1 b → S b ∨ (B = true ∧ blks γ H b)) (hB : B = false ∨ (out.noS = true ∧ ∀ p ∈ Hout, p.2.isFlat))
    (hp : CPost S1 (fun j => γ (ρ j)) w Hin out Hout v w' S' γ') :
    ∃ S2 γ2, Rel c n (markF (anyId ρ (freshIds Hin Hout)) fr) (renH ρ Hout ++ dropH (anyId ρ (idsOf Hin ++ idsOf Hout)) H) S2 γ2 tmps w' ∧ (out.ren ρ).holds S2 γ2 w' v := by
  unfold callOk at hok
  simp only [Bool.and_eq_true] at hok
  obtain ⟨⟨⟨⟨huo, huH⟩, hinj⟩, hfr⟩, hus⟩ := hok
  have hinj := injB_iff hinj
  have hblk : ∀ b, blks (fun j => γ (ρ j)) Hin b → blks γ H b := by
    rintro b ⟨j, r, hj, hb⟩
    exact ⟨ρ j, _, hin j r hj, hb⟩
  let γ2 := newγ ρ γ' γ (idsOf Hout)
  let S2 : Nat → Prop := fun b => S b ∨ (S' b ∧ (w.heap.size ≤ b ∨ blks (fun j => γ (ρ j)) Hin b))
  have hγ2 : ∀ j, j ∈ idsOf Hout → γ2 (ρ j) = γ' j := fun j hj => newγ_in hj fun a b ha hb => hinj a b (List.mem_append_right _ ha) (List.mem_append_right _ hb)
  have hSS : B = false → ∀ b, S' b → S2 b := by
    intro hf b hb
    rcases hp.up b hb with h | h
    · rcases hS1 b h with h | ⟨h, _⟩
      · exact .inl h
      · rw [hf] at h; cases h
    · exact .inr ⟨hb, h⟩
  have hlook : ∀ {i r}, look (renH ρ Hout) i = some r → ∃ j r', look Hout j = some r' ∧ ρ j = i ∧ r = r'.ren ρ := fun h => look_renH_inj (fun a b ha hb => hinj a b (List.mem_append_right _ ha) (List.mem_append_right _ hb)) h
  have hst : St S2 γ2 w' (renH ρ Hout) := by
    refine ⟨fun i r hi => ?_, fun i i' ri ri' b hi hi' hb hb' => ?_, fun i r b hi hb hs => ?_, hr.st.sz.to (fun b h => .inl h) (fun b hb => hp.keep.block b (hr.st.sz b hb) fun h => by obtain ⟨k, rk, hk, hkb⟩ := hblk b h; exact hr.st.live k rk b hk hkb hb) fun b hb => ?_, fun i => ?_⟩
    · obtain ⟨j, r', hj, rfl, rfl⟩ := hlook hi
      rw [hγ2 j (look_ids hj), Res.holds_ren]
      have h0 := hp.st.res j r' hj
      rcases hB with hf | ⟨_, hf⟩
      · rw [List.all_eq_true] at huH
        exact Res.mono (hSS hf) (fun _ _ => rfl) (fun j => (idsOf Hout).contains j) (fun k hk => hγ2 k (by simpa using hk)) (huH _ (look_mem hj)) (fun _ _ => rfl) h0
      · exact Res.flat_any (hf _ (look_mem hj)) h0
    · obtain ⟨j, r, hj, rfl, rfl⟩ := hlook hi
      obtain ⟨j', r', hj', rfl, rfl⟩ := hlook hi'
      rw [hγ2 j (look_ids hj)] at hb
      rw [hγ2 j' (look_ids hj')] at hb'
      rw [hp.st.dis j j' r r' b hj hj' hb hb']
    · obtain ⟨j, r', hj, rfl, rfl⟩ := hlook hi
      rw [hγ2 j (look_ids hj)] at hb
      rcases hs with hs | ⟨hs, _⟩
      · rcases hp.own j r' b hj hb with h | h
        · have := hr.st.sz b hs; omega
        · obtain ⟨k, rk, hk, hkb⟩ := hblk b h
          exact hr.st.live k rk b hk hkb hs
      · exact hp.st.live j r' b hj hb hs
    · rcases hb with hb | ⟨hb, _⟩
      · have := hr.st.sz b hb; have := hp.keep.size; omega
      · exact hp.st.sz b hb
    · by_cases h : ∃ j ∈ idsOf Hout, ρ j = i
      · obtain ⟨j, hj, rfl⟩ := h
        rw [hγ2 j hj]; exact hp.st.one j
      · show (newγ ρ γ' γ (idsOf Hout) i).oneCell' = true
        rw [newγ_out (fun j hj e => h ⟨j, hj, e⟩)]
        exact hr.st.one i
  have hval : (out.ren ρ).holds S2 γ2 w' v := by
    rw [AV.holds_ren]
    rcases hB with hf | ⟨hf, _⟩
    · exact AV.mono (hSS hf) (fun _ _ => rfl) (fun j => (idsOf Hout).contains j) (fun j hj => hγ2 j (by simpa using hj)) out v huo hp.val
    · exact AV.noS_any (fun j => (idsOf Hout).contains j) (fun j hj => hγ2 j (by simpa using hj)) out v hf huo hp.val
  refine ⟨S2, γ2, hr.eff (anyId ρ (idsOf Hin ++ idsOf Hout)) (anyId ρ (freshIds Hin Hout)) ?_ ?_ (fun b hb => .inl hb) (fun b hb => hb.imp id fun h => h.2.imp id fun ⟨k, rk, hk, hkb⟩ => ⟨ρ k, _, anyId_iff.2 ⟨k, List.mem_append_left _ (look_ids hk), rfl⟩, hin k rk hk, hkb⟩) hst ?_ ?_ ?_ ?_ hus, hval⟩
  · intro i hi
    rw [anyId_iff] at hi ⊢
    obtain ⟨j, hj, h⟩ := hi
    exact ⟨j, List.mem_append_right _ (List.mem_filter.1 hj).1, h⟩
  · refine ⟨hp.keep.os, hp.keep.tape, hp.keep.output, hp.keep.size, fun b hb hn => hp.keep.block b hb ?_⟩
    rintro ⟨j, r, hj, hjb⟩
    exact hn ⟨ρ j, _, anyId_iff.2 ⟨j, List.mem_append_left _ (look_ids hj), rfl⟩, hin j r hj, hjb⟩
  · intro i r b hi hb
    obtain ⟨j, r', hj, rfl, rfl⟩ := hlook hi
    rw [hγ2 j (look_ids hj)] at hb
    rcases hp.own j r' b hj hb with h | ⟨k, rk, hk, hkb⟩
    · exact .inl h
    · exact .inr ⟨ρ k, _, anyId_iff.2 ⟨k, List.mem_append_left _ (look_ids hk), rfl⟩, hin k rk hk, hkb⟩
  · intro i r hi
    obtain ⟨j, r', hj, rfl, rfl⟩ := hlook hi
    exact anyId_iff.2 ⟨j, List.mem_append_right _ (look_ids hj), rfl⟩
  · intro i hi
    by_cases h : ∃ j ∈ idsOf Hout, ρ j = i
    · obtain ⟨j, hj, rfl⟩ := h
      rw [hγ2 j hj]
      by_cases hji : j ∈ idsOf Hin
      · obtain ⟨r, hr'⟩ := ids_look hji
        exact hp.same j r hr'
      · exfalso
        have : anyId ρ (freshIds Hin Hout) (ρ j) = true := anyId_iff.2 ⟨j, by unfold freshIds; rw [List.mem_filter]; exact ⟨hj, by simpa using hji⟩, rfl⟩
        rw [this] at hi; cases hi
    · exact newγ_out fun j hj e => h ⟨j, hj, e⟩
  · intro i hi
    cases hm : anyId ρ (freshIds Hin Hout) i with
    | false => rfl
    | true =>
      obtain ⟨j, hj, rfl⟩ := anyId_iff.1 hm
      rw [List.all_eq_true] at hfr
      have h1 := Nat.le_of_ble_eq_true (hfr j hj)
      have := c.lt _ hi
      omega
/-- a call that makes or changes resources -/
theorem ao_call {B : Bool} {f : FuncId} {xs : Array Operand} {tys : Array TypeId} {qs0 : List AV} {Hin : List (Nat × Res)} {post : AV → List (Nat × Res) → Prop} {d : Nat} (hg : o.guard = none := by rfl) (hd : o.dst = some d := by rfl) (hn : Nat.blt d n = true := by rfl)
    (ho : o.op = .call { callee := .value (.func f), args := xs, argTypes := tys } := by rfl) (hf : entersB P f = true := by kernel_rfl) (hC : Con P f qs0 Hin post) (ρ : Nat → Nat) (hargs : ArgsOk B fr H xs.toList (AV.renL ρ qs0) := by repeat (first | exact .nil | refine .cons (by exact opv_std) ?_ | refine .lend rfl (by exact opv_std) (by rfl) ?_ | refine .nilS (by exact opv_std) ?_ | refine .lentS (by exact opv_std) ?_))
    (hin : ∀ j r, look Hin j = some r → look H (ρ j) = some (r.ren ρ)) (hinj : injB ρ (idsOf Hin) = true := by rfl) (hlend : B = true → Hin = [] := by rfl)
    (next : ∀ out Hout, post out Hout → callOk ρ out Hin Hout H = true ∧ (B = false ∨ (out.noS = true ∧ ∀ p ∈ Hout, p.2.isFlat)) ∧
      AOps P c n ops rest Q ((d, out.ren ρ) :: markF (anyId ρ (freshIds Hin Hout)) fr) (renH ρ Hout ++ dropH (anyId ρ (idsOf Hin ++ idsOf Hout)) H)) : AOps P c n ops (o :: rest) Q fr H := fun S γ tmps w hr => by
  refine ao_plain hg ?_
  have env := hr.env (ds := []) (fun _ => True)
  have hinj := injB_iff hinj
  have hl : ∀ b, LentS B S γ H b → b < w.heap.size := by
    rintro b (h | ⟨_, j, r, hj, hb⟩)
    · exact hr.st.sz b h
    · exact Res.blk_lt (hr.st.res j r hj) hb
  have hS1 : ∀ b, S b → LentS B S γ H b := fun b h => .inl h
  have hst : St (LentS B S γ H) (fun j => γ (ρ j)) w Hin := by
    refine ⟨fun j r hj => ?_, fun i j ri rj b hi hj hbi hbj => ?_, fun j r b hj hb hs => ?_, hr.st.sz.to hS1 (fun _ _ => rfl) hl, fun j => hr.st.one _⟩
    · have h0 := hr.st.res (ρ j) _ (hin j r hj)
      rw [Res.holds_ren] at h0
      exact Res.mono hS1 (fun _ _ => rfl) (fun _ => true) (fun _ _ => rfl) (by cases r <;> simp [Res.uses, AV.usesL_true]) (fun _ _ => rfl) h0
    · have := hr.st.dis (ρ i) (ρ j) _ _ b (hin i ri hi) (hin j rj hj) hbi hbj
      exact hinj i j (look_ids hi) (look_ids hj) this
    · rcases hs with hs | ⟨hB, _⟩
      · exact hr.st.live (ρ j) _ b (hin j r hj) hb hs
      · rw [hlend hB] at hj; simp [look] at hj
  refine out_call ho (env.func f) hf ?_
  have hcall := hC (LentS B S γ H) (fun j => γ (ρ j)) w _ hst ((AV.holdsL_ren ρ qs0 _).1 (hargs.holds env (fun _ _ => trivial)))
  rw [show (List.map (Act.eval ⟨tmps, []⟩) xs.toList).toArray = Array.map (Act.eval ⟨tmps, []⟩) xs from by rw [← Array.toList_map]] at hcall
  refine hcall.mono ?_
  rintro e w' ⟨v, out, Hout, S', γ', rfl, hpost, hp⟩
  obtain ⟨hok, hB, hnext⟩ := next out Hout hpost
  obtain ⟨S2, γ2, hrel, hval⟩ := hr.call ρ hin hok (B := B) (S1 := LentS B S γ H) (fun b hb => hb) hB hp
  refine ⟨v, rfl, ?_⟩
  have hput : ∀ v, (Act.put ⟨tmps, []⟩ o.dst v) = ⟨tmps.setIfInBounds d v, []⟩ := fun v => by rw [hd]; rfl
  rw [hput]
  exact hnext S2 γ2 _ w' (hrel.put (Nat.le_of_ble_eq_true hn) hval)
end
end Go.Proofs.YtgdkeafdlehlaaaDoor

/- Elements of one's own slices; slices of parts; parts of aggregates. Nothing of the program stands here. -/
namespace Go.Proofs.YtgdkeafdlehlaaaDoor
open Go Go.RowKit
set_option linter.unusedVariables false

theorem take_setAll {α : Type} : ∀ (us l : List α) (off m : Nat), (setAll l off us).take m = setAll (l.take m) off us
  | [], l, off, m => rfl
  | u :: us, l, off, m => by
    simp only [setAll]
    rw [take_setAll us, List.take_set]
theorem setAll_mid {α : Type} : ∀ (ds A B C : List α) (f : Nat), f + ds.length ≤ B.length → setAll (A ++ (B ++ C)) (A.length + f) ds = A ++ (setAll B f ds ++ C)
  | [], A, B, C, f, _ => rfl
  | d :: ds, A, B, C, f, h => by
    have h' : f + (ds.length + 1) ≤ B.length := h
    simp only [setAll]
    rw [List.set_append_right _ _ (by omega), Nat.add_sub_cancel_left, List.set_append_left _ _ (by omega), Nat.add_assoc]
    exact setAll_mid ds A (B.set f d) C (f + 1) (by simp; omega)
section
variable {P : Program} {T : List (Nat × TI)} {c : Ctx} {n : Nat} {Q : AQ} {fr : List (Nat × AV)} {H : List (Nat × Res)} {ops : Array Oper} {rest : List Oper} {o : Oper}
variable {S : Nat → Prop} {γ : Nat → Value} {tmps : Array Value} {w : World}
variable {α : Type} {E : Enc α} {xs : List α}
theorem Enc.all_split (E : Enc α) (xs : List α) (k : Nat) (h : k < xs.length) : E.all xs = E.all (xs.take k) ++ (E.cells xs[k] ++ E.all (xs.drop (k + 1))) := by
  conv => lhs; rw [← List.take_append_drop k xs, Enc.all_append, List.drop_eq_getElem_cons h]
  rfl
theorem Enc.all_set (E : Enc α) (xs : List α) (k f : Nat) (h : k < xs.length) (x : α) (ds : List AV) (hf : f + ds.length ≤ E.size) (hx : E.cells x = setAll (E.cells xs[k]) f ds) : E.all (xs.set k x) = setAll (E.all xs) (k * E.size + f) ds := by
  have hl : (E.all (xs.take k)).length = k * E.size := by rw [Enc.all_len, List.length_take, Nat.min_eq_left (by omega)]
  rw [E.all_split xs k h, ← hl, setAll_mid _ _ _ _ _ (by rw [E.len]; exact hf), ← hx]
  rw [E.all_split (xs.set k x) k (by simpa using h)]
  rw [List.take_set_of_le (by omega), List.getElem_set_self, List.drop_set_of_lt (by omega)]
theorem own_form {j e : Nat} (hs : St S γ w H) (hj : look H j = some (.own e E xs)) (h0 : 0 < xs.length) :
    ∃ g cp cur vs, γ j = .slice (some ⟨g, 0, none⟩) xs.length (cp + 1) ∧ rblk (γ j) = some g ∧ gof (γ j) = some g ∧ Blk w g cur e ∧ xs.length ≤ cp + 1 ∧ cp + 1 ≤ maxLen ∧ (cp + 1) * E.size ≤ cur.size ∧ cur.toList.take (xs.length * E.size) = vs ∧ AV.holdsL S noγ w (E.all xs) vs ∧ ∀ u ∈ vs, u.oneCell' = true := by
  obtain ⟨vs, ho, hh, h1⟩ := hs.res j _ hj
  obtain ⟨_, A, c, hv, ⟨hz, _⟩ | ⟨g, cur, rfl, _, hg, hnc, hcm, hcs, ht⟩⟩ := ho
  · omega
  · cases c with
    | zero => omega
    | succ c => exact ⟨g, c, cur, vs, hv, by rw [hv]; rfl, by rw [hv]; rfl, hg, hnc, hcm, hcs, ht, hh, h1⟩
theorem sop_index_own [Inhabited α] {x y : Operand} {t e e' s b j k : Nat} {ei : TI} {m : Int} {kd : IntKind} (ho : o.op = .indexAddr t x y := by rfl) (hT : TTOk P T := by assumption) (ht : look T t = some ⟨.slice e, s, b⟩ := by rfl) (he : look T e = some ei := by rfl)
    (hx : Opv fr x (.own j) := by exact opv_std) (hj : look H j = some (.own e' E xs) := by rfl) (hy : Opv fr y (.lit (.int kd m)) := by exact opv_std) (hm : m = (k : Int) := by first | rfl | omega) (hk : k < xs.length := by first | omega | (simp only [List.length_append, List.length_cons, List.length_nil, List.length_take, List.length_drop, List.length_replicate, List.length_map, List.length_set]; omega)) (hs : ei.size = E.size := by rfl) : SOp P o fr H (.ptr j (k * E.size + 0)) := fun S γ w ρ h => by
  have h1 := h.get hx (by simp [ho, Op.operands])
  have h2 := h.lit hy (by simp [ho, Op.operands])
  simp only [AV.holds] at h1
  obtain ⟨g, cp, cur, vs, hv, _, hgo, _⟩ := own_form h.st hj (by omega)
  refine outs (v := .pointer (some ⟨g, k * E.size + 0, none⟩)) ?_ (by simp only [AV.holds]; exact ⟨g, hgo, rfl⟩)
  subst hm
  rw [hv] at h1
  simp [execOp, ho, Instr.indexAt, h1, h2, asIntOf, run_underlying (hT.slice ht), hk, hT.size he, hs, addr_add_ne]
theorem own_cell [Inhabited α] {j e k f : Nat} {d : AV} (hs : St S γ w H) (hj : look H j = some (.own e E xs)) (hk : k < xs.length) {g : Nat} (hg : gof (γ j) = some g) (hd : (E.cells (nth xs k))[f]? = some d) : ∃ v, w.cell? ⟨g, k * E.size + f, none⟩ = some v ∧ d.holds S noγ w v := by
  obtain ⟨g', cp, cur, vs, hv, _, hgo, hh, hnc, _, hcs, ht, hc, _⟩ := own_form hs hj (by omega)
  rw [hgo] at hg
  simp only [Option.some.injEq] at hg; subst hg
  have hf : f < E.size := by
    have := (List.getElem?_eq_some_iff.1 hd).1
    rwa [E.len] at this
  have hidx : (E.all xs)[k * E.size + f]? = some d := by
    have hl : (E.all (xs.take k)).length = k * E.size := by rw [Enc.all_len, List.length_take, Nat.min_eq_left (by omega)]
    rw [E.all_split xs k hk, List.getElem?_append_right (by rw [hl]; omega), hl, Nat.add_sub_cancel_left, List.getElem?_append_left (by rw [E.len]; exact hf), ← nth_eq hk]
    exact hd
  obtain ⟨v, hv2, hdv⟩ := AV.holdsL_get hc _ d hidx
  refine ⟨v, ?_, hdv⟩
  rw [hh.cell, ← Array.getElem?_toList]
  rw [← ht, List.getElem?_take] at hv2
  split at hv2
  · exact hv2
  · cases hv2
theorem sop_load_own [Inhabited α] {x : Operand} {t j e k f : Nat} {ti : TI} {d : AV} (ho : o.op = .load t x := by rfl) (hT : TTOk P T := by assumption) (ht : look T t = some ti := by rfl) (ha : ti.kind.agg = false := by rfl) (hx : Opv fr x (.ptr j (k * E.size + f)) := by exact opv_std) (hj : look H j = some (.own e E xs) := by rfl) (hk : k < xs.length := by first | omega | (simp only [List.length_append, List.length_cons, List.length_nil, List.length_take, List.length_drop, List.length_replicate, List.length_map, List.length_set]; omega)) (hd : (E.cells (nth xs k))[f]? = some d := by rfl) (hp : d.uses (fun _ => false) = true := by rfl) : SOp P o fr H d := fun S γ w ρ h => by
  have h1 := h.get hx (by simp [ho, Op.operands])
  simp only [AV.holds] at h1
  obtain ⟨g, hg, hv⟩ := h1
  obtain ⟨v, hc, hdv⟩ := own_cell h.st hj hk hg hd
  refine outs (v := v) ?_ (AV.mono (fun _ h => h) (fun _ _ => rfl) (fun _ => false) (fun _ h => by cases h) d v hp hdv)
  simp only [execOp, ho, Instr.loadAt, hv, Instr.sureAddr, Sem.run_bind, Sem.run_pure, Result.andThen_ok, load_run1 hT ht ha hc]
theorem sop_load_own1 [Inhabited α] {x : Operand} {t j e k f0 f : Nat} {ti : TI} {d : AV} (ho : o.op = .load t x := by rfl) (hT : TTOk P T := by assumption) (ht : look T t = some ti := by rfl) (ha : ti.kind.agg = false := by rfl) (hx : Opv fr x (.ptr j (k * E.size + f0 + f)) := by exact opv_std) (hj : look H j = some (.own e E xs) := by rfl) (hk : k < xs.length := by first | omega | (simp only [List.length_append, List.length_cons, List.length_nil, List.length_take, List.length_drop, List.length_replicate, List.length_map, List.length_set]; omega)) (hd : (E.cells (nth xs k))[f0 + f]? = some d := by rfl) (hp : d.uses (fun _ => false) = true := by rfl) : SOp P o fr H d :=
  sop_load_own ho hT ht ha (by rwa [Nat.add_assoc] at hx) hj hk hd hp
theorem sop_load_own_agg [Inhabited α] {x : Operand} {t j e k : Nat} {ti : TI} (ho : o.op = .load t x := by rfl) (hT : TTOk P T := by assumption) (ht : look T t = some ti := by rfl) (ha : ti.kind.agg = true := by rfl) (hx : Opv fr x (.ptr j (k * E.size + 0)) := by exact opv_std) (hj : look H j = some (.own e E xs) := by rfl) (hk : k < xs.length := by first | omega | (simp only [List.length_append, List.length_cons, List.length_nil, List.length_take, List.length_drop, List.length_replicate, List.length_map, List.length_set]; omega)) (hs : ti.size = E.size := by rfl) : SOp P o fr H (.agg (E.cells (nth xs k))) := fun S γ w ρ h => by
  have h1 := h.get hx (by simp [ho, Op.operands])
  simp only [AV.holds] at h1
  obtain ⟨g, hg, hv⟩ := h1
  obtain ⟨g', cp, cur, vs, hgv, _, hgo, hh, hnc, _, hcs, htk, hc, _⟩ := own_form h.st hj (by omega)
  rw [hgo] at hg
  simp only [Option.some.injEq] at hg; subst hg
  have hlen := AV.holdsL_len hc
  rw [Enc.all_len] at hlen
  have hpos : k * E.size + E.size ≤ xs.length * E.size := by
    have := Nat.mul_le_mul_right E.size (show k + 1 ≤ xs.length from hk)
    rwa [Nat.add_mul, Nat.one_mul] at this
  refine outs (v := .agg ((vs.drop (k * E.size)).take E.size).toArray) ?_ ?_
  · simp only [execOp, ho, Instr.loadAt, hv, Instr.sureAddr, Sem.run_bind, Sem.run_pure, Result.andThen_ok]
    rw [load_run hT ht ha (vs := (vs.drop (k * E.size)).take E.size) (by rw [List.length_take, List.length_drop, hs]; omega)]
    · rfl
    intro i u hu
    rw [addr_add_ne, hh.cell, ← Array.getElem?_toList]
    rw [List.getElem?_take] at hu
    split at hu
    · rw [List.getElem?_drop, ← htk, List.getElem?_take] at hu
      split at hu
      · exact hu
      · cases hu
    · cases hu
  · simp only [AV.holds]
    refine ⟨_, rfl, ?_⟩
    have := AV.holdsL_drop hc (k * E.size)
    rw [Enc.all_at E xs k hk] at this
    have := (AV.holdsL_split this).1
    rw [E.len] at this
    rw [nth_eq hk]
    exact plainL (E.plain _) this
theorem ao_store_own [Inhabited α] {x y : Operand} {t j e k f : Nat} {ti : TI} {ds : List AV} {a : AV} {x' : α} (hg : o.guard = none := by rfl) (hd : o.dst = none := by rfl) (ho : o.op = .store t x y := by rfl) (hT : TTOk P T := by assumption) (ht : look T t = some ti := by rfl) (hx : Opv fr x (.ptr j (k * E.size + f)) := by exact opv_std) (hj : look H j = some (.own e E xs) := by rfl) (hk : k < xs.length := by first | omega | (simp only [List.length_append, List.length_cons, List.length_nil, List.length_take, List.length_drop, List.length_replicate, List.length_map, List.length_set]; omega))
    (hy : Opv fr y a := by exact opv_std) (hc : cellsOf a = some ds := by rfl) (h1 : AV.allOneL ds = true := by rfl) (hu : AV.usesL (fun _ => false) ds = true := by rfl) (hl : Nat.beq ds.length ti.size = true := by rfl) (hb : Nat.ble (f + ti.size) E.size = true := by rfl) (hx' : E.cells x' = setAll (E.cells (nth xs k)) f ds := by rfl)
    (next : AOps P c n ops rest Q fr ((j, .own e E (xs.set k x')) :: dropH (one1 j) H)) : AOps P c n ops (o :: rest) Q fr H := fun S γ tmps w hr => by
  refine ao_plain hg ?_
  have env := hr.env (ds := []) (fun _ => True)
  have hxv := env.get hx trivial
  have hyv := env.get hy trivial
  simp only [AV.holds] at hxv
  obtain ⟨g, hg', hxv⟩ := hxv
  obtain ⟨g', cp, cur, vs, hgv, hrb, hgo, hh, hnc, hcm, hcs, htk, hcc, hv1⟩ := own_form hr.st hj (by omega)
  rw [hgo] at hg'
  simp only [Option.some.injEq] at hg'; subst hg'
  have hds := cellsOf_holds hr.st.one hc hyv
  have hl' : ds.length = ti.size := Nat.eq_of_beq_eq_true hl
  have hb' : f + ti.size ≤ E.size := Nat.le_of_ble_eq_true hb
  have hlv := AV.holdsL_len hds
  have hpos : k * E.size + E.size ≤ xs.length * E.size := by
    have := Nat.mul_le_mul_right E.size (show k + 1 ≤ xs.length from hk)
    rwa [Nat.add_mul, Nat.one_mul] at this
  have hcap : xs.length * E.size ≤ (cp + 1) * E.size := Nat.mul_le_mul_right _ hnc
  have hone := allOne_of (hγ := hr.st.one) h1 hds
  obtain ⟨w', h2, h3, h4, h5⟩ := storeCells_runB (P := P) (off := k * E.size + f) (Act.eval ⟨tmps, []⟩ y).cells.toList 0 cur w hh hone (by omega)
  have hrun : (execOp (Act.eval ⟨tmps, []⟩) o).run P w = .ok .skip w' := by
    have hsz : (Act.eval ⟨tmps, []⟩ y).cells.size = ti.size := by
      rw [← Array.length_toList, hlv, hl']
    simp only [execOp, ho, Instr.storeAt, hxv, Instr.sureAddr, storeVar, Sem.run_bind, Sem.run_pure, Result.andThen_ok, hT.size ht, hsz, ne_eq, not_true_eq_false, if_false, h2]
  rw [hrun]
  have hput : (Act.put ⟨tmps, []⟩ o.dst undef) = ⟨tmps, []⟩ := by rw [hd]; rfl
  show wpList P ops (lift c n Q) rest (Act.put ⟨tmps, []⟩ o.dst undef) w'
  rw [hput]
  have hsame : Same S w w' := fun b hs => h3.block b (hr.st.sz b hs) (fun e => by subst e; exact hr.st.live j _ b hj hrb hs)
  have hnew : AV.holdsL S noγ w' (E.all (xs.set k x')) (setAll vs (k * E.size + f) (Act.eval ⟨tmps, []⟩ y).cells.toList) := by
    rw [E.all_set xs k f hk x' ds (by omega) (by rw [hx', nth_eq hk])]
    exact AV.extL (fun _ h => h) hsame (holdsL_setAll _ (plainL hu hds) hcc)
  refine next S γ tmps w' (hr.same1 j hj ⟨h3.os, h3.tape, h3.output, h3.size, fun b hb hn => h3.block b hb (fun e => hn (by rw [hrb, e]))⟩ ⟨setAll vs (k * E.size + f) (Act.eval ⟨tmps, []⟩ y).cells.toList, ⟨?_, _, cp + 1, hgv.trans (by simp), .inr ⟨g', _, rfl, Nat.zero_le _, h4, by simpa using hnc, hcm, ?_, ?_⟩⟩, hnew, ?_⟩)
  · have := AV.holdsL_len hnew
    rw [Enc.all_len] at this
    exact this
  · simp only [List.size_toArray, setAll_len, Array.length_toList]; exact hcs
  · simp only [Nat.add_zero]
    rw [take_setAll, List.length_set, htk]
  · have key : ∀ (us l : List Value) (off : Nat), (∀ u ∈ l, u.oneCell' = true) → (∀ u ∈ us, u.oneCell' = true) → ∀ u ∈ setAll l off us, u.oneCell' = true := by
      intro us
      induction us with
      | nil => intro l off hl _ u hu; exact hl u hu
      | cons a us ih =>
        intro l off hl hus u hu
        refine ih (l.set off a) (off + 1) ?_ (fun u hu => hus u (List.mem_cons_of_mem _ hu)) u hu
        intro v hv
        rcases List.mem_or_eq_of_mem_set hv with h | rfl
        · exact hl v h
        · exact hus v List.mem_cons_self
    exact key _ _ _ hv1 hone

/-- the operands of a literal slice, in their order -/
inductive PartsOk (fr : List (Nat × AV)) (E : Enc α) : Nat → List (Nat × Operand) → List α → Prop
  | nil {i : Nat} : PartsOk fr E i [] []
  | cons {i : Nat} {x : Operand} {a : AV} {cs : List AV} {y : α} {ps : List (Nat × Operand)} {ys : List α} (h : Opv fr x a) (hc : cellsOf a = some cs) (he : E.cells y = cs) (hr : PartsOk fr E (i + 1) ps ys) : PartsOk fr E i ((i, x) :: ps) (y :: ys)
theorem PartsOk.consR {i : Nat} {x : Operand} {a : AV} {cs : List AV} {ps : List (Nat × Operand)} {ys : List α} (h : Opv fr x a) (hc : cellsOf a = some cs) (he : E.cells (E.read cs) = cs) (hr : PartsOk fr E (i + 1) ps ys) : PartsOk fr E i ((i, x) :: ps) (E.read cs :: ys) := .cons h hc he hr
theorem foldl_zip_set (off : Nat) : ∀ (us : List Value) (i : Nat) (cs : Array Value), ((us.zipIdx i).foldl (fun cs (p : Value × Nat) => cs.setIfInBounds (off + p.2) p.1) cs).toList = setAll cs.toList (off + i) us
  | [], i, cs => rfl
  | u :: us, i, cs => by
    rw [List.zipIdx_cons, List.foldl_cons, foldl_zip_set off us (i + 1)]
    simp only [setAll, Array.toList_setIfInBounds, Nat.add_assoc]
theorem setAll_all {α : Type} : ∀ (ds A B : List α), ds.length = B.length → setAll (A ++ B) A.length ds = A ++ ds
  | [], A, B, h => by
    have : B = [] := List.eq_nil_of_length_eq_zero (by simpa using h.symm)
    subst this; rfl
  | d :: ds, A, [], h => by simp at h
  | d :: ds, A, b :: B, h => by
    simp only [setAll]
    rw [List.set_append_right _ _ (Nat.le_refl _), Nat.sub_self, List.set_cons_zero]
    have := setAll_all ds (A ++ [d]) B (by simpa using h)
    simpa using this
theorem fill_parts {size : Nat} : ∀ (vs : List Value) (i : Nat) (cells : Array Value) (ps : List (Nat × Value)), ps = (vs.zipIdx i).map (fun p => (p.2, p.1)) → (∀ v ∈ vs, v.cells.size = size) → cells.size = (i + vs.length) * size →
    ∃ cells', Instr.fill (fun i => some (i * size, size)) cells ps = some cells' ∧ cells'.toList = cells.toList.take (i * size) ++ vs.flatMap (fun v => v.cells.toList)
  | [], i, cells, ps, hp, _, hs => by
    subst hp
    refine ⟨cells, rfl, ?_⟩
    rw [List.take_of_length_le (by rw [Array.length_toList, hs]; simp)]
    simp
  | v :: vs, i, cells, ps, hp, hv, hs => by
    subst hp
    have hvs := hv v List.mem_cons_self
    have hs' : cells.size = i * size + (size + vs.length * size) := by rw [hs, List.length_cons, ← Nat.add_assoc, Nat.add_right_comm, Nat.add_mul, Nat.add_mul, Nat.one_mul]; omega
    rw [List.zipIdx_cons, List.map_cons]
    simp only [Instr.fill, hvs, ne_eq, not_true_eq_false, decide_false, Bool.false_or]
    have hnot : ¬ (i * size + size > cells.size) := by omega
    simp only [hnot, decide_false, Bool.false_eq_true, if_false]
    have hfold : (v.cells.zipIdx.foldl (fun cs (p : Value × Nat) => cs.setIfInBounds (i * size + p.2) p.1) cells).toList = setAll cells.toList (i * size) v.cells.toList := by
      rw [← Array.foldl_toList, Array.toList_zipIdx]
      simpa using foldl_zip_set (i * size) v.cells.toList 0 cells
    generalize hcur : (v.cells.zipIdx.foldl (fun cs (p : Value × Nat) => cs.setIfInBounds (i * size + p.2) p.1) cells) = cur at hfold
    have hcs : cur.size = (i + 1 + vs.length) * size := by
      rw [← Array.length_toList, hfold, setAll_len, Array.length_toList, hs, List.length_cons]
      congr 1; omega
    obtain ⟨cells', h1, h2⟩ := fill_parts vs (i + 1) cur _ rfl (fun u hu => hv u (List.mem_cons_of_mem _ hu)) hcs
    refine ⟨cells', h1, ?_⟩
    · rw [h2, hfold]
      have hsplit : cells.toList = cells.toList.take (i * size) ++ ((cells.toList.drop (i * size)).take size ++ cells.toList.drop ((i + 1) * size)) := by
        rw [Nat.add_mul, Nat.one_mul, ← List.drop_drop, List.take_append_drop, List.take_append_drop]
      have hlA : (cells.toList.take (i * size)).length = i * size := by rw [List.length_take, Array.length_toList]; omega
      have hmid := setAll_mid v.cells.toList (cells.toList.take (i * size)) ((cells.toList.drop (i * size)).take size) (cells.toList.drop ((i + 1) * size)) 0 (by rw [Array.length_toList, hvs, List.length_take, List.length_drop, Array.length_toList]; omega)
      rw [← hsplit, hlA, Nat.add_zero] at hmid
      have hfull := setAll_all v.cells.toList [] ((cells.toList.drop (i * size)).take size) (by rw [Array.length_toList, hvs, List.length_take, List.length_drop, Array.length_toList]; omega)
      simp only [List.nil_append, List.length_nil] at hfull
      rw [hmid, hfull, ← List.append_assoc, List.take_left' (by rw [List.length_append, hlA, Array.length_toList, hvs, Nat.add_mul, Nat.one_mul])]
      simp
theorem PartsOk.get {use : Operand → Prop} {ρ : Operand → Value} {i : Nat} {ps : List (Nat × Operand)} {ys : List α} (h : PartsOk fr E i ps ys) (env : Env fr H use ρ S γ w) (hu : ∀ p ∈ ps, use p.2) :
    ∃ vs : List Value, ps.map (fun p => (p.1, ρ p.2)) = (vs.zipIdx i).map (fun p => (p.2, p.1)) ∧ vs.length = ys.length ∧ (∀ v ∈ vs, v.cells.size = E.size) ∧ AV.holdsL S γ w (E.all ys) (vs.flatMap fun v => v.cells.toList) := by
  induction h with
  | nil => exact ⟨[], rfl, rfl, by simp, by simp [Enc.all, AV.holdsL]⟩
  | @cons i x a cs y ps ys h hc he _ ih =>
    obtain ⟨vs, h1, h2, h3, h4⟩ := ih fun p hp => hu p (List.mem_cons_of_mem _ hp)
    have hx := cellsOf_holds env.st.one hc (env.get h (hu _ List.mem_cons_self))
    have hl := AV.holdsL_len hx
    refine ⟨ρ x :: vs, ?_, by simp [h2], ?_, ?_⟩
    · rw [List.map_cons, List.zipIdx_cons, List.map_cons, h1]
    · intro v hv
      rcases List.mem_cons.1 hv with rfl | hv
      · rw [← Array.length_toList, hl, ← he, E.len]
      · exact h3 v hv
    · rw [List.flatMap_cons]
      show AV.holdsL S γ w (E.cells y ++ E.all ys) _
      rw [he]
      exact AV.holdsL_app hx h4
/-- a slice of parts, that is only read -/
theorem sop_buildSlice {t e s b len es eb : Nat} {ek : TK} {ps : Array (Nat × Operand)} {ys : List α} (ho : o.op = .buildSlice t len ps := by rfl) (hT : TTOk P T := by assumption) (ht : look T t = some ⟨.slice e, s, b⟩ := by rfl) (he : look T e = some ⟨ek, es, eb⟩ := by rfl) (hp : PartsOk fr E 0 ps.toList ys := by repeat (first | exact PartsOk.nil | (apply PartsOk.cons (by exact opv_std) rfl rfl) | (apply PartsOk.consR (by exact opv_std) rfl rfl))) (hl : Nat.beq ys.length len = true := by rfl) (hbig : Nat.ble (len * es) 1000 = true := by rfl) (hs : es = E.size := by rfl) (hE : Nat.blt 0 es = true := by rfl) : SOp P o fr H (.snap (slF E ys)) := fun S γ w ρ h => by
  obtain ⟨vs, h1, h2, h3, h4⟩ := hp.get h (fun p hp => by
    simp only [ho, Op.operands, List.mem_toArray, List.mem_map]
    exact ⟨p, hp, rfl⟩)
  obtain ⟨i, z, hi, hi1, _, hz, hzs⟩ := hT.info he
  simp only at hi1 hzs
  have hlen : vs.length = len := by rw [h2]; exact Nat.eq_of_beq_eq_true hl
  have hbig' : len * es ≤ 1000 := Nat.le_of_ble_eq_true hbig
  have hE' : 0 < es := Nat.lt_of_lt_of_le Nat.zero_lt_one (Nat.le_of_ble_eq_true hE)
  let zs : Array Value := if len * es = 0 then #[] else z.cells
  obtain ⟨cells', hf1, hf2⟩ := fill_parts (size := E.size) vs 0 ((Array.range (len * es)).map (zs[· % zs.size]!)) _ h1 h3 (by simp [hlen, hs])
  have hrun : (execOp ρ o).run P w = .ok (.value (.slice (some ⟨w.heap.size, 0, none⟩) len len)) (w.alloc (.cells cells' e)) := by
    have hnb : ¬ (len * es > 2 ^ 24) := by omega
    have hf1' : Instr.fill (fun i => some (i * es, es)) ((Array.range (len * es)).map (zs[· % zs.size]!)) ((ps.map fun (i, x) => (i, ρ x)).toList) = some cells' := by
      rw [hs] at hf1 ⊢
      have : (ps.map fun (i, x) => (i, ρ x)).toList = ps.toList.map (fun p => (p.1, ρ p.2)) := by rw [Array.toList_map]
      rw [this]
      exact hf1
    by_cases h0 : len * es = 0
    · simp only [zs, h0, if_true] at hf1'
      simp only [execOp, ho, Instr.buildSlice, Sem.run_bind, run_underlying (hT.slice ht), hT.size he, Result.andThen_ok, h0, if_true, Sem.run_pure]
      simp only [show ¬ (0 > 2 ^ 24) from by omega, if_false, Sem.run_bind, Sem.run_pure, Result.andThen_ok, hf1']
      simp [newRow]
    · simp only [zs, h0, if_false] at hf1'
      simp only [execOp, ho, Instr.buildSlice, Sem.run_bind, run_underlying (hT.slice ht), hT.size he, Result.andThen_ok, h0, if_false, hnb, Sem.run_pure, zeroValue, typeInfo, hi, hz, run_program, hf1']
      simp [newRow]
  refine outc hrun ⟨Ext.alloc w _, ?_⟩
  have hc' : cells'.toList = vs.flatMap fun v => v.cells.toList := by rw [hf2]; simp
  have hys : ys.length = len := by rw [← h2, hlen]
  simp only [AV.holds]
  refine ⟨some ⟨w.heap.size, 0, none⟩, len, cells'.toList, by rw [hys], by omega, ?_, ?_, ?_⟩
  · intro _
    refine ⟨_, rfl, .inr ⟨Nat.le_refl _, by simp⟩, fun j u hu => ?_⟩
    rw [addr_add_ne, Nat.zero_add, cell_of_row _ _ j _ _ _ (heap_alloc_new w _)]
    simpa using hu
  · rw [hc']
    exact plainL (E.all_plain ys) (AV.extL (fun _ h => .inl h) (same_of_ext h.st.sz (Ext.alloc w _)) h4)
  · rw [hc']
    have hall : AV.allOneL (E.all ys) = true := by
      clear h2 h4 hys hl hp
      induction ys with
      | nil => rfl
      | cons y ys ih =>
        have app : ∀ (a b : List AV), AV.allOneL (a ++ b) = (AV.allOneL a && AV.allOneL b) := by
          intro a b
          induction a with
          | nil => simp [AV.allOneL]
          | cons x a iha => simp [AV.allOneL, iha, Bool.and_assoc]
        show AV.allOneL (E.cells y ++ E.all ys) = true
        rw [app, E.one, ih]; rfl
    exact allOne_of (hγ := h.st.one) hall h4
end
end Go.Proofs.YtgdkeafdlehlaaaDoor

/- More operations over abstract frames: functions qs0 values, structs compared and built, further arithmetic. Nothing of the program stands here. -/
namespace Go.Proofs.YtgdkeafdlehlaaaDoor
open Go Go.RowKit
set_option linter.unusedVariables false
section
variable {P : Program} {T : List (Nat × TI)} {c : Ctx} {n : Nat} {Q : AQ} {fr : List (Nat × AV)} {H : List (Nat × Res)} {ops : Array Oper} {rest : List Oper} {o : Oper}
variable {S : Nat → Prop} {γ : Nat → Value} {tmps : Array Value} {w : World}
/-- a call that makes one slice, which from then on is only read -/
theorem sop_callO {B : Bool} {f : FuncId} {xs : Array Operand} {tys : Array TypeId} {qs0 : List AV} {k e : Nat} {α : Type} {E : Enc α} {ys : List α} (ho : o.op = .call { callee := .value (.func f), args := xs, argTypes := tys } := by rfl) (hf : entersB P f = true := by kernel_rfl)
    (hC : Con P f qs0 [] fun a h => a = .own k ∧ h = [(k, .own e E ys)]) (hargs : ArgsOk B fr H xs.toList qs0 := by repeat (first | exact .nil | refine .cons (by exact opv_std) ?_ | refine .lend rfl (by exact opv_std) (by rfl) ?_ | refine .nilS (by exact opv_std) ?_ | refine .lentS (by exact opv_std) ?_)) (hB : B = false ∨ E.isFlat := by first | exact .inl rfl | exact .inr rfl | exact .inr (fun _ => rfl)) : SOp P o fr H (.snap (slF E ys)) := fun S γ w ρ env => by
  have hl : ∀ b, LentS B S γ H b → b < w.heap.size := by
    rintro b (h | ⟨_, j, r, hj, hb⟩)
    · exact env.st.sz b h
    · exact Res.blk_lt (env.st.res j r hj) hb
  refine out_call ho (env.func f) hf ?_
  have hcall := hC (LentS B S γ H) γ w _ (St.nil (env.st.sz.to (fun b h => .inl h) (fun _ _ => rfl) hl) env.st.one) (hargs.holds env (fun x hx => by simp [ho, Op.operands, Call.operands]; right; simpa using hx))
  rw [show (List.map ρ xs.toList).toArray = Array.map ρ xs from by rw [← Array.toList_map]] at hcall
  refine hcall.mono ?_
  rintro en w' ⟨v, out', Hout, S', γ', rfl, ⟨rfl, rfl⟩, hp⟩
  have hx : Ext w w' := ⟨hp.keep.os, hp.keep.tape, hp.keep.output, hp.keep.size, fun b hb => hp.keep.block b hb (by rintro ⟨j, r, hj, _⟩; simp [look] at hj)⟩
  refine ⟨v, rfl, hx, ?_⟩
  have hv := hp.val
  simp only [AV.holds] at hv
  subst hv
  have hlk : look [(k, Res.own e E ys)] k = some (.own e E ys) := by rw [look_cons, if_pos rfl]
  have hfb : ∀ b, rblk (γ' k) = some b → FreshS S w w' b := fun b hb => by
    rcases hp.own k _ b hlk hb with h | ⟨j, r, hj, _⟩
    · exact .inr ⟨h, Res.blk_lt (hp.st.res k _ hlk) hb⟩
    · simp [look] at hj
  simp only [AV.holds]
  rcases hB with rfl | hB
  · refine own_snap hp.st hlk (fun b hb => ?_) hfb
    rcases hp.up b hb with (h | ⟨h, _⟩) | h | ⟨j, r, hj, _⟩
    · exact .inl h
    · cases h
    · exact .inr ⟨h, hp.st.sz b hb⟩
    · simp [look] at hj
  · obtain ⟨A, c, vs, h1, h2, h3, h4, h5⟩ := own_snap (S' := fun b => S' b ∨ FreshS S w w' b) hp.st hlk (fun b hb => .inl hb) (fun b hb => .inr (hfb b hb))
    refine ⟨A, c, vs, h1, h2, ?_, AV.flat_anyL _ _ (hB.all ys) h4, h5⟩
    intro hne
    obtain ⟨ad, hA, _, hc⟩ := h3 hne
    refine ⟨ad, hA, ?_, hc⟩
    apply hfb
    obtain ⟨vs', ho', hh', _⟩ := hp.st.res k _ hlk
    obtain ⟨_, A2, c2, hv2, ⟨hz, hz2⟩ | ⟨g, cur, hA2, _, _, hnc, _⟩⟩ := ho'
    · exfalso
      apply hne
      have := AV.holdsL_len h4
      rw [Enc.all_len, hz, Nat.zero_mul] at this
      exact List.eq_nil_of_length_eq_zero this
    · rw [hv2] at h1 ⊢
      simp only [Value.slice.injEq] at h1
      obtain ⟨hAA, _, hcc⟩ := h1
      subst hA2
      have hpos : 0 < c2 := by
        have := AV.holdsL_len h4
        rw [Enc.all_len] at this
        rcases Nat.eq_zero_or_pos ys.length with h | h
        · exfalso; apply hne
          rw [h, Nat.zero_mul] at this
          exact List.eq_nil_of_length_eq_zero this
        · omega
      rw [hA] at hAA
      simp only [Option.some.injEq] at hAA
      subst hAA
      cases c2 with
      | zero => omega
      | succ c2 => rfl

/-- what a box reads qs0, once it is only read -/
def frzB (j : Nat) (cs : List AV) (fr : List (Nat × AV)) : List (Nat × AV) := fr.map fun p => (p.1, match p.2 with
  | .ptr i off => if Nat.beq i j then .snap (placeF (cs.drop off)) else .ptr i off
  | a => if a.uses (fun i => !(one1 j i)) then a else .any)
theorem look_frzB (j : Nat) (cs : List AV) : ∀ (fr : List (Nat × AV)) (x : Nat) (a : AV), look (frzB j cs fr) x = some a → ∃ b, look fr x = some b ∧ (a = .any ∨ (a = b ∧ b.uses (fun i => !(one1 j i)) = true) ∨ ∃ off, b = .ptr j off ∧ a = .snap (placeF (cs.drop off)))
  | [], x, a, h => by simp [frzB, look] at h
  | (k, b) :: fr, x, a, h => by
    unfold frzB at h
    rw [List.map_cons, look_cons] at h
    rw [look_cons]
    by_cases hk : k = x
    · rw [if_pos hk] at h ⊢
      simp only [Option.some.injEq] at h
      refine ⟨b, rfl, ?_⟩
      subst h
      cases b with
      | ptr i off =>
        by_cases hij : Nat.beq i j = true
        · have := Nat.eq_of_beq_eq_true hij
          subst this
          right; right; exact ⟨off, rfl, by simp⟩
        · right; left
          refine ⟨by simp [hij], ?_⟩
          simp only [AV.uses]
          cases h1 : one1 j i with
          | false => rfl
          | true => rw [one1_iff] at h1; subst h1; simp at hij
      | _ =>
        simp only
        split
        · rename_i hu; right; left; exact ⟨rfl, hu⟩
        · left; rfl
    · rw [if_neg hk] at h ⊢
      exact look_frzB j cs fr x a h
theorem Rel.freezeBox (hr : Rel c n fr H S γ tmps w) (j : Nat) {cs : List AV} (hj : look H j = some (.box cs)) (hp : AV.usesL (fun _ => false) cs = true) : Rel c n (frzB j cs fr) (dropH (one1 j) H) (fun b => S b ∨ rblk (γ j) = some b) γ tmps w := by
  have hl : ∀ i r, look (dropH (one1 j) H) i = some r → look H i = some r ∧ i ≠ j := by
    intro i r hi
    rw [look_drop] at hi
    split at hi
    · cases hi
    · rename_i h1
      exact ⟨hi, fun e => h1 (one1_iff.2 e.symm)⟩
  refine ⟨⟨fun i r hi => ?_, fun i i' ri ri' b hi hi' => hr.st.dis i i' ri ri' b (hl i ri hi).1 (hl i' ri' hi').1, fun i r b hi hb hs => ?_, hr.st.sz.to (fun b h => .inl h) (fun _ _ => rfl) fun b hb => ?_, hr.st.one⟩, fun x a hx => ?_, fun b hb => ?_, fun i r b hi hb => hr.own i r b (hl i r hi).1 hb, hr.ids, hr.size, hr.keep⟩
  · exact Res.mono (fun b h => .inl h) (fun _ _ => rfl) (fun _ => true) (fun _ _ => rfl) (by cases r <;> simp [Res.uses, AV.usesL_true]) (fun _ _ => rfl) (hr.st.res i r (hl i r hi).1)
  · rcases hs with hs | hs
    · exact hr.st.live i r b (hl i r hi).1 hb hs
    · exact (hl i r hi).2 (hr.st.dis i j r _ b (hl i r hi).1 hj hb hs)
  · rcases hb with hb | hb
    · exact hr.st.sz b hb
    · exact Res.blk_lt (hr.st.res j _ hj) hb
  · obtain ⟨b, hb, h1⟩ := look_frzB j cs fr x a hx
    have hh := hr.fr x b hb
    rcases h1 with rfl | ⟨rfl, hu⟩ | ⟨off, rfl, rfl⟩
    · simp only [AV.holds]
    · exact AV.ext (fun b h => .inl h) (fun _ _ => rfl) hh
    · simp only [AV.holds] at hh ⊢
      obtain ⟨g, hg, hv⟩ := hh
      obtain ⟨arr, e, hheap, hc⟩ := box_cell hr.st hj hg
      obtain ⟨g', arr', e', hgv, _, _⟩ := hr.st.res j _ hj
      have hgg : g' = g := by rw [hgv] at hg; simpa [gof] using hg
      subst hgg
      refine ⟨⟨g', off, none⟩, arr.toList.drop off, hv, fun _ => ⟨_, rfl, .inr (by rw [hgv]; rfl), fun i u hu => ?_⟩, AV.holdsL_drop (plainL hp (AV.extL (fun b h => .inl h) (fun _ _ => rfl) hc)) off⟩
      rw [addr_add_ne, cell_of_row w g' _ _ _ _ hheap]
      simpa using hu
  · rcases hb with hb | hb
    · exact hr.up b hb
    · exact .inr (hr.own j _ b hj hb)
theorem ao_freezeBox (j : Nat) {cs : List AV} (hj : look H j = some (.box cs) := by rfl) (hp : AV.usesL (fun _ => false) cs = true := by rfl) (h : AOps P c n ops rest Q (frzB j cs fr) (dropH (one1 j) H)) : AOps P c n ops rest Q fr H := fun S γ tmps w hr => h _ γ tmps w (hr.freezeBox j hj hp)
theorem a_freezeBox {code : Code} (j : Nat) {cs : List AV} (hj : look H j = some (.box cs)) (hp : AV.usesL (fun _ => false) cs = true) (h : ACode P c n code Q (frzB j cs fr) (dropH (one1 j) H)) : ACode P c n code Q fr H := fun S γ tmps w hr => h _ γ tmps w (hr.freezeBox j hj hp)
/-- what one's own slice reads qs0, once it is only read -/
def frzO {α : Type} (j : Nat) (E : Enc α) (xs : List α) (fr : List (Nat × AV)) : List (Nat × AV) := fr.map fun p => (p.1, match p.2 with
  | .own i => if Nat.beq i j then .snap (slF E xs) else .own i
  | a => if a.uses (fun i => !(one1 j i)) then a else .any)
theorem look_frzO {α : Type} (j : Nat) (E : Enc α) (xs : List α) : ∀ (fr : List (Nat × AV)) (x : Nat) (a : AV), look (frzO j E xs fr) x = some a → ∃ b, look fr x = some b ∧ (a = .any ∨ (a = b ∧ b.uses (fun i => !(one1 j i)) = true) ∨ (b = .own j ∧ a = .snap (slF E xs)))
  | [], x, a, h => by simp [frzO, look] at h
  | (k, b) :: fr, x, a, h => by
    unfold frzO at h
    rw [List.map_cons, look_cons] at h
    rw [look_cons]
    by_cases hk : k = x
    · rw [if_pos hk] at h ⊢
      simp only [Option.some.injEq] at h
      refine ⟨b, rfl, ?_⟩
      subst h
      cases b with
      | own i =>
        by_cases hij : Nat.beq i j = true
        · have := Nat.eq_of_beq_eq_true hij
          subst this
          right; right; exact ⟨rfl, by simp⟩
        · right; left
          refine ⟨by simp [hij], ?_⟩
          simp only [AV.uses]
          cases h1 : one1 j i with
          | false => rfl
          | true => rw [one1_iff] at h1; subst h1; simp at hij
      | _ =>
        simp only
        split
        · rename_i hu; right; left; exact ⟨rfl, hu⟩
        · left; rfl
    · rw [if_neg hk] at h ⊢
      exact look_frzO j E xs fr x a h
theorem Rel.freezeOwn {α : Type} {E : Enc α} {ys : List α} {e : Nat} (hr : Rel c n fr H S γ tmps w) (j : Nat) (hj : look H j = some (.own e E ys)) : Rel c n (frzO j E ys fr) (dropH (one1 j) H) (fun b => S b ∨ rblk (γ j) = some b) γ tmps w := by
  have hl : ∀ i r, look (dropH (one1 j) H) i = some r → look H i = some r ∧ i ≠ j := by
    intro i r hi
    rw [look_drop] at hi
    split at hi
    · cases hi
    · rename_i h1
      exact ⟨hi, fun e => h1 (one1_iff.2 e.symm)⟩
  refine ⟨⟨fun i r hi => ?_, fun i i' ri ri' b hi hi' => hr.st.dis i i' ri ri' b (hl i ri hi).1 (hl i' ri' hi').1, fun i r b hi hb hs => ?_, hr.st.sz.to (fun b h => .inl h) (fun _ _ => rfl) fun b hb => ?_, hr.st.one⟩, fun x a hx => ?_, fun b hb => ?_, fun i r b hi hb => hr.own i r b (hl i r hi).1 hb, hr.ids, hr.size, hr.keep⟩
  · exact Res.mono (fun b h => .inl h) (fun _ _ => rfl) (fun _ => true) (fun _ _ => rfl) (by cases r <;> simp [Res.uses, AV.usesL_true]) (fun _ _ => rfl) (hr.st.res i r (hl i r hi).1)
  · rcases hs with hs | hs
    · exact hr.st.live i r b (hl i r hi).1 hb hs
    · exact (hl i r hi).2 (hr.st.dis i j r _ b (hl i r hi).1 hj hb hs)
  · rcases hb with hb | hb
    · exact hr.st.sz b hb
    · exact Res.blk_lt (hr.st.res j _ hj) hb
  · obtain ⟨b, hb, h1⟩ := look_frzO j E ys fr x a hx
    have hh := hr.fr x b hb
    rcases h1 with rfl | ⟨rfl, hu⟩ | ⟨rfl, rfl⟩
    · simp only [AV.holds]
    · exact AV.ext (fun b h => .inl h) (fun _ _ => rfl) hh
    · simp only [AV.holds] at hh ⊢
      rw [hh]
      exact own_snap hr.st hj (fun b h => .inl h) (fun b h => .inr h)
  · rcases hb with hb | hb
    · exact hr.up b hb
    · exact .inr (hr.own j _ b hj hb)
theorem ao_freezeOwn {α : Type} {E : Enc α} {ys : List α} {e : Nat} (j : Nat) (hj : look H j = some (.own e E ys) := by rfl) (h : AOps P c n ops rest Q (frzO j E ys fr) (dropH (one1 j) H)) : AOps P c n ops rest Q fr H := fun S γ tmps w hr => h _ γ tmps w (hr.freezeOwn j hj)
theorem a_freezeOwn {code : Code} {α : Type} {E : Enc α} {ys : List α} {e : Nat} (j : Nat) (hj : look H j = some (.own e E ys)) (h : ACode P c n code Q (frzO j E ys fr) (dropH (one1 j) H)) : ACode P c n code Q fr H := fun S γ tmps w hr => h _ γ tmps w (hr.freezeOwn j hj)
/-- the parts of a literal struct -/
inductive BuildOk (T : List (Nat × TI)) (fr : List (Nat × AV)) (fs : List (TypeId × Nat)) : List AV → List (Nat × Operand) → List AV → Prop
  | nil {cs : List AV} : BuildOk T fr fs cs [] cs
  | cons {cs ds out : List AV} {i ft off : Nat} {fi : TI} {x : Operand} {a : AV} {ps : List (Nat × Operand)} (hf : fs[i]? = some (ft, off)) (hft : look T ft = some fi) (h : Opv fr x a) (hc : cellsOf a = some ds) (hl : Nat.beq ds.length fi.size = true) (hb : Nat.ble (off + fi.size) cs.length = true) (hr : BuildOk T fr fs (setAll cs off ds) ps out) : BuildOk T fr fs cs ((i, x) :: ps) out
theorem BuildOk.run {use : Operand → Prop} {ρ : Operand → Value} {fs : List (TypeId × Nat)} {cs out : List AV} {ps : List (Nat × Operand)} (hT : TTOk P T) (h : BuildOk T fr fs cs ps out) (env : Env fr H use ρ S γ w) (hu : ∀ p ∈ ps, use p.2) (place : Nat → Option (Nat × Nat)) (hpl : ∀ i ft off fi, fs[i]? = some (ft, off) → look T ft = some fi → place i = some (off, fi.size)) :
    ∀ cells : Array Value, AV.holdsL S γ w cs cells.toList → ∃ cells', Instr.fill place cells (ps.map fun p => (p.1, ρ p.2)) = some cells' ∧ AV.holdsL S γ w out cells'.toList := by
  induction h with
  | nil => intro cells hc; exact ⟨cells, rfl, hc⟩
  | @cons cs ds out i ft off fi x a ps hf hft h hc hl hb _ ih =>
    intro cells hcells
    have hx := cellsOf_holds env.st.one hc (env.get h (hu _ List.mem_cons_self))
    have hl' : ds.length = fi.size := Nat.eq_of_beq_eq_true hl
    have hb' : off + fi.size ≤ cs.length := Nat.le_of_ble_eq_true hb
    have hsz : (ρ x).cells.size = fi.size := by rw [← Array.length_toList, AV.holdsL_len hx, hl']
    have hcl := AV.holdsL_len hcells
    simp only [Array.length_toList] at hcl
    have hfold : (((ρ x).cells.zipIdx.foldl (fun cs (p : Value × Nat) => cs.setIfInBounds (off + p.2) p.1) cells)).toList = setAll cells.toList off (ρ x).cells.toList := by
      rw [← Array.foldl_toList, Array.toList_zipIdx]
      simpa using foldl_zip_set off (ρ x).cells.toList 0 cells
    obtain ⟨cells', h1, h2⟩ := ih (fun p hp => hu p (List.mem_cons_of_mem _ hp)) ((ρ x).cells.zipIdx.foldl (fun cs (p : Value × Nat) => cs.setIfInBounds (off + p.2) p.1) cells) (by rw [hfold]; exact holdsL_setAll off hx hcells)
    refine ⟨cells', ?_, h2⟩
    have hnot : ¬ (off + fi.size > cells.size) := by omega
    rw [List.map_cons]
    simp only [Instr.fill, hpl i ft off fi hf hft, hsz, ne_eq, not_true_eq_false, decide_false, Bool.false_or, hnot, Bool.false_eq_true, if_false]
    first | exact h1 | simpa using h1
theorem places_run : ∀ (fs : List Field), (∀ f ∈ fs, ∃ i, look T f.type = some i) → TTOk P T → (fs.mapM fun f => (do pure (f.offset, ← sizeOf f.type) : Sem (Nat × Nat))).run P w = .ok (fs.map fun f => (f.offset, P.cellsOf f.type)) w
  | [], _, _ => by simp
  | f :: fs, h, hT => by
    obtain ⟨i, hi⟩ := h f List.mem_cons_self
    have ih := places_run fs (fun g hg => h g (List.mem_cons_of_mem _ hg)) hT
    obtain ⟨j, z, hj, h1, _⟩ := hT.info hi
    have hc : P.cellsOf f.type = i.size := by simp [Program.cellsOf, hj, h1]
    rw [List.mapM_cons]
    simp only [Sem.run_bind, hT.size hi, Result.andThen_ok, Sem.run_pure, ih, hc, List.map_cons]
theorem sop_build {t : Nat} {fs : List (TypeId × Nat)} {s b : Nat} {ZT : List (Nat × List Z)} {zs : List Z} {ps : Array (Nat × Operand)} {out : List AV} (ho : o.op = .build t ps := by rfl) (hT : TTOk P T := by assumption) (ht : look T t = some ⟨.struct fs, s, b⟩ := by rfl) (hZ : ZOk P ZT := by assumption) (hz : look ZT t = some zs := by rfl) (hfs : (fs.all fun p => (look T p.1).isSome) = true := by rfl) (hb : BuildOk T fr fs (zAV zs) ps.toList out := by repeat (first | exact BuildOk.nil | apply BuildOk.cons rfl rfl (by exact opv_std) rfl rfl rfl)) : SOp P o fr H (.agg out) := fun S γ w ρ env => by
  obtain ⟨i, z, hi, hiz, hzc⟩ := hZ.zero hz
  obtain ⟨hk, _⟩ := hT.ok t _ ht
  unfold tkOf at hk
  cases hu : P.underlying t with
  | none => rw [hu] at hk; cases hk
  | some d =>
    rw [hu] at hk
    cases d <;> simp only [reduceCtorEq] at hk
    rename_i F
    simp only [TK.struct.injEq] at hk
    rw [List.all_eq_true] at hfs
    have hF : ∀ f ∈ F.toList, ∃ i, look T f.type = some i := by
      intro f hf
      have := hfs (f.type, f.offset) (by rw [← hk]; exact List.mem_map.2 ⟨f, hf, rfl⟩)
      exact Option.isSome_iff_exists.1 this
    have hplaces : ((F.mapM fun f => (do pure (f.offset, ← sizeOf f.type) : Sem (Nat × Nat)))).run P w = .ok (F.map fun f => (f.offset, P.cellsOf f.type)) w := by
      rw [Array.mapM_eq_mapM_toList]
      have := places_run (w := w) F.toList hF hT
      simp only [map_eq_pure_bind, Sem.run_bind, this, Result.andThen_ok, Sem.run_pure]
      congr 1
      apply Array.ext'
      simp
    obtain ⟨cells', h1, h2⟩ := hb.run hT env (fun p hp => by simp only [ho, Op.operands, List.mem_toArray, List.mem_map]; exact ⟨p, hp, rfl⟩) ((F.map fun f => (f.offset, P.cellsOf f.type))[·]?) (fun j ft off fi hf hft => by
      rw [← hk] at hf
      simp only [List.getElem?_map, Option.map_eq_some_iff] at hf
      obtain ⟨f, hf1, hf2⟩ := hf
      simp only [Prod.mk.injEq] at hf2
      obtain ⟨rfl, rfl⟩ := hf2
      obtain ⟨jj, zz, hj, h1, _⟩ := hT.info hft
      have hc : P.cellsOf f.type = fi.size := by simp [Program.cellsOf, hj, h1]
      have hf1' : F[j]? = some f := by simpa using hf1
      simp [hf1', hc]) z.cells (by rw [hzc]; exact zAV_holds zs)
    refine outs (v := .agg cells') ?_ (by simp only [AV.holds]; exact ⟨cells'.toList, by simp, h2⟩)
    have h1' : Instr.fill ((F.map fun f => (f.offset, P.cellsOf f.type))[·]?) z.cells ((ps.map fun (i, x) => (i, ρ x)).toList) = some cells' := by
      rw [show (ps.map fun (i, x) => (i, ρ x)).toList = ps.toList.map (fun p => (p.1, ρ p.2)) from by rw [Array.toList_map]]
      exact h1
    simp only [execOp, ho, Instr.build, Sem.run_bind, zeroValue, typeInfo, hi, hiz, run_program, Result.andThen_ok, Sem.run_pure, run_underlying hu, hplaces, h1']
/-- a field of a struct qs0 a value -/
theorem sop_fieldv {x : Operand} {t f : Nat} {fs : List (TypeId × Nat)} {s b ft fo : Nat} {fi : TI} {cs : List AV} {a : AV} (ho : o.op = .field t x f := by rfl) (hT : TTOk P T := by assumption) (ht : look T t = some ⟨.struct fs, s, b⟩ := by rfl) (hf : fs[f]? = some (ft, fo) := by rfl) (hft : look T ft = some fi := by rfl) (ha : fi.kind.agg = false := by rfl) (hx : Opv fr x (.agg cs) := by exact opv_std) (hc : cs[fo]? = some a := by rfl) : SOp P o fr H a := fun S γ w ρ h => by
  have h1 := h.get hx (by simp [ho, Op.operands])
  simp only [AV.holds] at h1
  obtain ⟨vs, hv, hl⟩ := h1
  obtain ⟨F, fl, hu, hfl, h3, h4⟩ := hT.field ht hf
  obtain ⟨v, hv2, hav⟩ := AV.holdsL_get hl fo a hc
  refine outs (v := v) ?_ hav
  have hag := hT.agg hft w
  rw [ha, ← h3] at hag
  simp [execOp, ho, Instr.field, run_underlying hu, hfl, hv, asAgg, part, hag, h4, hv2]
theorem sop_fieldv_agg {x : Operand} {t f : Nat} {fs : List (TypeId × Nat)} {s b ft fo : Nat} {fi : TI} {cs : List AV} (ho : o.op = .field t x f := by rfl) (hT : TTOk P T := by assumption) (ht : look T t = some ⟨.struct fs, s, b⟩ := by rfl) (hf : fs[f]? = some (ft, fo) := by rfl) (hft : look T ft = some fi := by rfl) (ha : fi.kind.agg = true := by rfl) (hx : Opv fr x (.agg cs) := by exact opv_std) : SOp P o fr H (.agg ((cs.drop fo).take fi.size)) := fun S γ w ρ h => by
  have h1 := h.get hx (by simp [ho, Op.operands])
  simp only [AV.holds] at h1
  obtain ⟨vs, hv, hl⟩ := h1
  obtain ⟨F, fl, hu, hfl, h3, h4⟩ := hT.field ht hf
  refine outs (v := .agg ((vs.drop fo).take fi.size).toArray) ?_ (by simp only [AV.holds]; exact ⟨_, rfl, AV.holdsL_take (AV.holdsL_drop hl fo) _⟩)
  have hag := hT.agg hft w
  rw [ha, ← h3] at hag
  have hsz := hT.size hft w
  rw [← h3] at hsz
  simp [execOp, ho, Instr.field, run_underlying hu, hfl, hv, asAgg, part, hag, h4, hsz]

/-- a function qs0 a value: what its calls answer -/
def fnF (P : Program) (spec : List AV → AV → Prop) : SFact where
  holds S w v := ∃ f caps, v = .func (.func f) #[] caps ∧ entersB P f = true ∧ ∀ (S' : Nat → Prop) (γ : Nat → Value) (w' : World) (vs : List Value) (qs0 : List AV) (out : AV), (∀ b, S b → S' b) → Same S w w' → (∀ b, S' b → b < w'.heap.size) → (∀ j, (γ j).oneCell' = true) → spec qs0 out → AV.holdsL S' γ w' qs0 vs →
    Calls P f (vs.toArray ++ caps) w' fun e w2 => ∃ v, e = .returned v ∧ Ext w' w2 ∧ out.holds (FreshS S' w' w2) γ w2 v
  mono := by
    rintro S S1 w w1 v ⟨f, caps, rfl, hf, h⟩ hs hw
    exact ⟨f, caps, rfl, hf, fun S' γ w' vs qs0 out h1 h2 h3 h4 h5 h6 => h S' γ w' vs qs0 out (fun b hb => h1 b (hs b hb)) (fun b hb => (h2 b (hs b hb)).trans (hw b hb)) h3 h4 h5 h6⟩
  one := by
    rintro S w v ⟨f, caps, rfl, _⟩
    rfl
/-- captured values: exact ones, and what is only read -/
inductive CapsOk (fr : List (Nat × AV)) : List Operand → List AV → Prop
  | nil : CapsOk fr [] []
  | cons {x : Operand} {a : AV} {xs : List Operand} {qs0 : List AV} (h : Opv fr x a) (hp : a.uses (fun _ => false) = true) (hr : CapsOk fr xs qs0) : CapsOk fr (x :: xs) (a :: qs0)
theorem CapsOk.holds {use : Operand → Prop} {ρ : Operand → Value} {xs : List Operand} {qs0 : List AV} (h : CapsOk fr xs qs0) (env : Env fr H use ρ S γ w) (hu : ∀ x ∈ xs, use x) : AV.holdsL S γ w qs0 (xs.map ρ) ∧ AV.usesL (fun _ => false) qs0 = true := by
  induction h with
  | nil => simp [AV.holdsL, AV.usesL]
  | cons h hp _ ih =>
    obtain ⟨i1, i2⟩ := ih fun x hx => hu x (List.mem_cons_of_mem _ hx)
    simp only [List.map_cons, AV.holdsL, AV.usesL, hp, i2]
    exact ⟨⟨_, _, rfl, env.get h (hu _ List.mem_cons_self), i1⟩, rfl⟩
theorem sop_makeFunc {f : FuncId} {cs : Array Operand} {caps : List AV} (spec : List AV → AV → Prop) (ho : o.op = .makeFunc (.func f) #[] cs := by rfl) (hf : entersB P f = true := by kernel_rfl) (hcaps : CapsOk fr cs.toList caps := by repeat (first | exact CapsOk.nil | (apply CapsOk.cons (by exact opv_std) rfl)))
    (hout : ∀ qs0 out, spec qs0 out → AV.uses (fun _ => false) out = true) (hC : ∀ qs0 out, spec qs0 out → Con0 P f (qs0 ++ caps) out) : SOp P o fr H (.snap (fnF P spec)) := fun S γ w ρ env => by
  obtain ⟨h1, h2⟩ := hcaps.holds env (fun x hx => by simp [ho, Op.operands]; simpa using hx)
  refine outs (v := .func (.func f) #[] (cs.map ρ)) (by simp [execOp, ho, Instr.makeFunc]) ?_
  simp only [AV.holds]
  refine ⟨f, cs.map ρ, rfl, hf, fun S' γ' w' vs qs0 out hs hw hsz h1' hsp hvs => ?_⟩
  have hcap : AV.holdsL S' γ' w' caps (cs.toList.map ρ) := AV.monoL hs hw (fun _ => false) (fun _ h => by cases h) caps _ h2 h1
  have hcall := hC qs0 out hsp S' γ' w' _ (St.nil (env.st.sz.to hs hw hsz) h1') (AV.holdsL_app hvs hcap)
  rw [show (vs ++ cs.toList.map ρ).toArray = vs.toArray ++ cs.map ρ from by apply Array.ext'; simp] at hcall
  refine hcall.mono ?_
  rintro en w2 ⟨v, out', Hout, S2, γ2, rfl, ⟨rfl, rfl⟩, hp⟩
  refine ⟨v, rfl, ⟨hp.keep.os, hp.keep.tape, hp.keep.output, hp.keep.size, fun b hb => hp.keep.block b hb (by rintro ⟨j, r, hj, _⟩; simp [look] at hj)⟩, ?_⟩
  refine AV.mono (fun b hb => ?_) (fun _ _ => rfl) (fun _ => false) (fun _ h => by cases h) out' v (hout qs0 out' hsp) hp.val
  rcases hp.up b hb with h | h | ⟨j, r, hj, _⟩
  · exact .inl h
  · exact .inr ⟨h, hp.st.sz b hb⟩
  · simp [look] at hj
theorem sop_callf {B : Bool} {t : Tmp} {xs : Array Operand} {tys : Array TypeId} {qs0 : List AV} {out : AV} {spec : List AV → AV → Prop} (ho : o.op = .call { callee := .value (.tmp t), args := xs, argTypes := tys } := by rfl) (hv : Opv fr (.tmp t) (.snap (fnF P spec)) := by exact opv_std) (hargs : ArgsOk B fr H xs.toList qs0 := by repeat (first | exact .nil | refine .cons (by exact opv_std) ?_ | refine .lend rfl (by exact opv_std) (by rfl) ?_ | refine .nilS (by exact opv_std) ?_ | refine .lentS (by exact opv_std) ?_)) (hsp : spec qs0 out)
    (hB : B = false ∨ out.flat = true := by first | exact .inl rfl | exact .inr rfl | exact .inr (fun _ => rfl)) : SOp P o fr H out := fun S γ w ρ env => by
  have h1 := env.get hv (by simp [ho, Op.operands, Call.operands])
  simp only [AV.holds] at h1
  obtain ⟨f, caps, hfv, hf, hcall⟩ := h1
  have hl : ∀ b, LentS B S γ H b → b < w.heap.size := by
    rintro b (h | ⟨_, j, r, hj, hb⟩)
    · exact env.st.sz b h
    · exact Res.blk_lt (env.st.res j r hj) hb
  have hc := hcall (LentS B S γ H) γ w _ qs0 out (fun b h => .inl h) (fun _ _ => rfl) hl env.st.one hsp (hargs.holds env (fun x hx => by simp [ho, Op.operands, Call.operands]; right; simpa using hx))
  unfold entersB at hf
  cases hfn : P.funcs[f]? with
  | none => simp [hfn] at hf
  | some fn =>
    simp only [hfn, Bool.and_eq_true, Bool.not_eq_true'] at hf
    have hrun : (execOp ρ o).run P w = .ok (.enter f (xs.map ρ ++ caps)) w := by
      have g1 : ¬ fn.name = "runtime.NumGoroutine" := by simpa using hf.1
      have g2 : ¬ fn.body = none := by intro e; simp [e] at hf
      simp [execOp, ho, resolve, hfv, Deferred.ofValue, invoke, callFunc, hfn, g1, g2]
    rw [hrun]
    show Calls P f (xs.map ρ ++ caps) w _
    rw [show (List.map ρ xs.toList).toArray = xs.map ρ from by rw [← Array.toList_map]] at hc
    refine hc.mono ?_
    rintro en w' ⟨v, rfl, hx, hv⟩
    refine ⟨v, rfl, hx, ?_⟩
    rcases hB with rfl | hB
    · refine AV.ext (fun b hb => ?_) (fun _ _ => rfl) hv
      rcases hb with (h | ⟨h, _⟩) | h
      · exact .inl h
      · cases h
      · exact .inr h
    · exact AV.flat_any out v hB hv

/-- the comparison of fields of plain kinds -/
inductive EqOk : List TK → List AV → List AV → Bool → Prop
  | nil : EqOk [] [] [] true
  | int {k0 k : IntKind} {a b : Int} {ts : List TK} {cs ds : List AV} {r : Bool} (h : EqOk ts cs ds r) : EqOk (.int k0 :: ts) (.lit (.int k a) :: cs) (.lit (.int k b) :: ds) (decide (a = b) && r)
  | bool {a b : Bool} {ts : List TK} {cs ds : List AV} {r : Bool} (h : EqOk ts cs ds r) : EqOk (.bool :: ts) (.lit (.bool a) :: cs) (.lit (.bool b) :: ds) (decide (a = b) && r)
def flatFields (P : Program) (t : TypeId) (ks : List TK) : Bool :=
  (match P.underlying t with | some (.struct _) => true | _ => false) && !(P.stoodInHeld t) && !(P.eqGuardType P.depth t) && ((P.fieldsOf t).toList.map fun f => tkOf P f.type) == ks && ((P.fieldsOf t).toList.all fun f => f.name != "_") && ((P.fieldsOf t).toList.map fun f => f.offset) == List.range ks.length
theorem eqFields_run {d : Nat} : ∀ {ts : List TK} {cs ds : List AV} {r : Bool}, EqOk ts cs ds r → ∀ (fs : List Field) (i : Nat) (xs ys : List Value), (fs.map fun f => tkOf P f.type) = ts → (fs.all fun f => f.name != "_") = true → (fs.map fun f => f.offset) = List.range' i ts.length →
    AV.holdsL S γ w cs (xs.drop i) → AV.holdsL S γ w ds (ys.drop i) → (Op.eqFields (d + 1) xs.toArray ys.toArray fs).run P w = .ok r w := by
  intro ts cs ds r h
  induction h with
  | nil =>
    intro fs i xs ys hk _ _ _ _
    have : fs = [] := by simpa using hk
    subst this; simp [Op.eqFields]
  | @int k0 k a b ts cs ds r h ih =>
    intro fs i xs ys hk hn hoff hx hy
    cases fs with
    | nil => simp at hk
    | cons f fs =>
      simp only [List.map_cons, List.cons.injEq] at hk
      simp only [List.all_cons, Bool.and_eq_true] at hn
      simp only [List.map_cons, List.length_cons, List.range'_succ, List.cons.injEq] at hoff
      simp only [AV.holdsL, AV.holds] at hx hy
      obtain ⟨u, us, hu, rfl, hx'⟩ := hx
      obtain ⟨u', us', hu', rfl, hy'⟩ := hy
      have hxi : xs[i]? = some (.int k a) := by have := congrArg (·[0]?) hu; simpa using this
      have hyi : ys[i]? = some (.int k b) := by have := congrArg (·[0]?) hu'; simpa using this
      have hdx : xs.drop (i + 1) = us := by rw [← List.drop_drop]; rw [hu]; rfl
      have hdy : ys.drop (i + 1) = us' := by rw [← List.drop_drop]; rw [hu']; rfl
      have hund : P.underlying f.type = some (.int k0) := by
        have := hk.1
        unfold tkOf at this
        cases hu : P.underlying f.type with
        | none => rw [hu] at this; cases this
        | some d => rw [hu] at this; cases d <;> simp_all
      have hag : (isAgg f.type).run P w = .ok false w := by simp [isAgg, run_underlying hund]
      have hp1 : (part f.type xs.toArray f.offset).run P w = .ok (.int k a) w := by simp [part, hag, hoff.1, hxi]
      have hp2 : (part f.type ys.toArray f.offset).run P w = .ok (.int k b) w := by simp [part, hag, hoff.1, hyi]
      have hrec := ih fs (i + 1) xs ys hk.2 hn.2 hoff.2 (by rw [hdx]; exact hx') (by rw [hdy]; exact hy')
      have hne : f.name ≠ "_" := by simpa using hn.1
      simp only [Op.eqFields, hne, ne_eq, not_false_eq_true, if_true, Sem.run_bind, hp1, hp2, Result.andThen_ok, run_equalIn_int w d f.type k k0 a b hund]
      by_cases hab : a = b
      · simp [hab, hrec]
      · have : (a == b) = false := by simpa using hab
        simp [hab, this]
  | @bool a b ts cs ds r h ih =>
    intro fs i xs ys hk hn hoff hx hy
    cases fs with
    | nil => simp at hk
    | cons f fs =>
      simp only [List.map_cons, List.cons.injEq] at hk
      simp only [List.all_cons, Bool.and_eq_true] at hn
      simp only [List.map_cons, List.length_cons, List.range'_succ, List.cons.injEq] at hoff
      simp only [AV.holdsL, AV.holds] at hx hy
      obtain ⟨u, us, hu, rfl, hx'⟩ := hx
      obtain ⟨u', us', hu', rfl, hy'⟩ := hy
      have hxi : xs[i]? = some (.bool a) := by have := congrArg (·[0]?) hu; simpa using this
      have hyi : ys[i]? = some (.bool b) := by have := congrArg (·[0]?) hu'; simpa using this
      have hdx : xs.drop (i + 1) = us := by rw [← List.drop_drop]; rw [hu]; rfl
      have hdy : ys.drop (i + 1) = us' := by rw [← List.drop_drop]; rw [hu']; rfl
      have hund : P.underlying f.type = some .bool := by
        have := hk.1
        unfold tkOf at this
        cases hu : P.underlying f.type with
        | none => rw [hu] at this; cases this
        | some d => rw [hu] at this; cases d <;> first | rfl | exact absurd this (by simp)
      have hag : (isAgg f.type).run P w = .ok false w := by simp [isAgg, run_underlying hund]
      have hp1 : (part f.type xs.toArray f.offset).run P w = .ok (.bool a) w := by simp [part, hag, hoff.1, hxi]
      have hp2 : (part f.type ys.toArray f.offset).run P w = .ok (.bool b) w := by simp [part, hag, hoff.1, hyi]
      have hrec := ih fs (i + 1) xs ys hk.2 hn.2 hoff.2 (by rw [hdx]; exact hx') (by rw [hdy]; exact hy')
      have hne : f.name ≠ "_" := by simpa using hn.1
      simp only [Op.eqFields, hne, ne_eq, not_false_eq_true, if_true, Sem.run_bind, hp1, hp2, Result.andThen_ok, run_equalIn_bool' w d f.type a b hund]
      by_cases hab : a = b
      · simp [hab, hrec]
      · have : (a == b) = false := by simpa using hab
        simp [hab, this]
theorem struct_eq_run {t : TypeId} {ks : List TK} {cs ds : List AV} {r : Bool} {xs ys : List Value} (hf : flatFields P t ks = true) (h : EqOk ks cs ds r) (hx : AV.holdsL S γ w cs xs) (hy : AV.holdsL S γ w ds ys) (x y : Operand) (op : BinOp) :
    (eqGuard op t x y (.agg xs.toArray) (.agg ys.toArray)).run P w = .ok () w ∧ (Op.equalIn 10000 t (.agg xs.toArray) (.agg ys.toArray)).run P w = .ok r w := by
  unfold flatFields at hf
  simp only [Bool.and_eq_true, beq_iff_eq, Bool.not_eq_true'] at hf
  obtain ⟨⟨⟨⟨⟨h1, h2⟩, h3⟩, h4⟩, h5⟩, h6⟩ := hf
  have hu : P.underlying t = some (.struct (P.fieldsOf t)) := by
    unfold Program.fieldsOf
    cases hu : P.underlying t with
    | none => simp [hu] at h1
    | some d => cases d <;> simp_all
  refine ⟨run_eqGuard_agg w op t x y _ _ h3, ?_⟩
  rw [run_equalIn_agg w 9999 t _ _ hu h2]
  exact eqFields_run (d := 9998) h _ 0 xs ys h4 h5 (by rw [h6, List.range_eq_range']) (by simpa using hx) (by simpa using hy)
theorem sop_eql_struct {x y : Operand} {t t' : TypeId} {ks : List TK} {cs ds : List AV} {r : Bool} (ho : o.op = .binOp .eql t x y t' := by rfl) (hx : Opv fr x (.agg cs) := by exact opv_std) (hy : Opv fr y (.agg ds) := by exact opv_std) (hf : flatFields P t ks = true := by kernel_rfl) (he : EqOk ks cs ds r := by repeat (first | exact EqOk.nil | apply EqOk.int | apply EqOk.bool)) : SOp P o fr H (.lit (.bool r)) := fun S γ w ρ h => by
  have h1 := h.get hx (by simp [ho, Op.operands])
  have h2 := h.get hy (by simp [ho, Op.operands])
  simp only [AV.holds] at h1 h2
  obtain ⟨xs, hxv, hx'⟩ := h1
  obtain ⟨ys, hyv, hy'⟩ := h2
  obtain ⟨g1, g2⟩ := struct_eq_run hf he hx' hy' x y .eql
  refine outl ?_
  simp only [execOp, ho, hxv, hyv, Sem.run_bind, g1, Result.andThen_ok, run_eql_struct, g2, Sem.run_pure]
theorem sop_neq_struct {x y : Operand} {t t' : TypeId} {ks : List TK} {cs ds : List AV} {r : Bool} (ho : o.op = .binOp .neq t x y t' := by rfl) (hx : Opv fr x (.agg cs) := by exact opv_std) (hy : Opv fr y (.agg ds) := by exact opv_std) (hf : flatFields P t ks = true := by kernel_rfl) (he : EqOk ks cs ds r := by repeat (first | exact EqOk.nil | apply EqOk.int | apply EqOk.bool)) : SOp P o fr H (.lit (.bool (!r))) := fun S γ w ρ h => by
  have h1 := h.get hx (by simp [ho, Op.operands])
  have h2 := h.get hy (by simp [ho, Op.operands])
  simp only [AV.holds] at h1 h2
  obtain ⟨xs, hxv, hx'⟩ := h1
  obtain ⟨ys, hyv, hy'⟩ := h2
  obtain ⟨g1, g2⟩ := struct_eq_run hf he hx' hy' x y .neq
  refine outl ?_
  simp only [execOp, ho, hxv, hyv, Sem.run_bind, g1, Result.andThen_ok, run_neq_struct, g2, Sem.run_pure]

section
variable {x y : Operand} {t t' : TypeId} {k k' : IntKind} {a b : Int}
theorem sop_rem (ho : o.op = .binOp .rem t x y t' := by rfl) (hx : Opv fr x (.lit (.int k a)) := by exact opv_std) (hy : Opv fr y (.lit (.int k b)) := by exact opv_std) (hb : b ≠ 0 := by first | omega | (simp only [List.length_append, List.length_cons, List.length_nil, List.length_take, List.length_drop, List.length_replicate, List.length_map, List.length_set]; omega)) : SOp P o fr H (.lit (.int k (a.tmod b))) := fun S γ w ρ h => by
  refine outl ?_
  rw [run_bin ho (h.lit hx (by simp [ho, Op.operands])) (h.lit hy (by simp [ho, Op.operands])) (by simp) (by simp)]
  simp [binOp, Op.intDiv, hb]
theorem sop_rem_in (ho : o.op = .binOp .rem t x y t' := by rfl) (hx : Opv fr x (.lit (.int k a)) := by exact opv_std) (hy : Opv fr y (.lit (.int k b)) := by exact opv_std) (ha : 0 ≤ a := by first | omega | (simp only [List.length_append, List.length_cons, List.length_nil, List.length_take, List.length_drop, List.length_replicate, List.length_map, List.length_set]; omega)) (hb : 0 < b := by first | omega | (simp only [List.length_append, List.length_cons, List.length_nil, List.length_take, List.length_drop, List.length_replicate, List.length_map, List.length_set]; omega)) : SOp P o fr H (.lit (.int k (a % b))) :=
  sop_cast (sop_rem ho hx hy (by omega)) (by rw [Int.tmod_eq_emod_of_nonneg ha])
theorem sop_quo (ho : o.op = .binOp .quo t x y t' := by rfl) (hx : Opv fr x (.lit (.int k a)) := by exact opv_std) (hy : Opv fr y (.lit (.int k b)) := by exact opv_std) (hb : b ≠ 0 := by first | omega | (simp only [List.length_append, List.length_cons, List.length_nil, List.length_take, List.length_drop, List.length_replicate, List.length_map, List.length_set]; omega)) : SOp P o fr H (.lit (.int k (k.wrap (a.tdiv b)))) := fun S γ w ρ h => by
  refine outl ?_
  rw [run_bin ho (h.lit hx (by simp [ho, Op.operands])) (h.lit hy (by simp [ho, Op.operands])) (by simp) (by simp)]
  simp [binOp, Op.intDiv, hb]
theorem sop_quo_in (ho : o.op = .binOp .quo t x y t' := by rfl) (hx : Opv fr x (.lit (.int .i64 a)) := by exact opv_std) (hy : Opv fr y (.lit (.int .i64 b)) := by exact opv_std) (ha : 0 ≤ a := by first | omega | (simp only [List.length_append, List.length_cons, List.length_nil, List.length_take, List.length_drop, List.length_replicate, List.length_map, List.length_set]; omega)) (hb : 0 < b := by first | omega | (simp only [List.length_append, List.length_cons, List.length_nil, List.length_take, List.length_drop, List.length_replicate, List.length_map, List.length_set]; omega)) (hm : a ≤ 9223372036854775807 := by first | omega | (simp only [List.length_append, List.length_cons, List.length_nil, List.length_take, List.length_drop, List.length_replicate, List.length_map, List.length_set]; omega)) : SOp P o fr H (.lit (.int .i64 (a / b))) :=
  sop_cast (sop_quo ho hx hy (by omega)) (by
    rw [Int.tdiv_eq_ediv_of_nonneg ha, wrap_i64_in]
    have := Int.ediv_nonneg ha (Int.le_of_lt hb)
    have := Int.ediv_le_self b ha
    omega)
theorem run_shift {op : BinOp} (hop : op = .shl ∨ op = .shr) (ho : o.op = .binOp op t x y t') {ρ : Operand → Value} (hx : ρ x = .int k a) (hy : ρ y = .int k' b) : (execOp ρ o).run P w = ((Op.shift op k a k' b).run P w).andThen fun r w => .ok (.value r) w := by
  rcases hop with rfl | rfl <;> simp [execOp, ho, hx, hy, eqGuard, binOp]
theorem sop_shr (ho : o.op = .binOp .shr t x y t' := by rfl) (hx : Opv fr x (.lit (.int k a)) := by exact opv_std) (hy : Opv fr y (.lit (.int k' b)) := by exact opv_std) (hb : 0 ≤ b := by first | omega | (simp only [List.length_append, List.length_cons, List.length_nil, List.length_take, List.length_drop, List.length_replicate, List.length_map, List.length_set]; omega)) : SOp P o fr H (.lit (.int k (a.fdiv (2 ^ (min b.toNat k.bits))))) := fun S γ w ρ h => by
  refine outl ?_
  rw [run_shift (.inr rfl) ho (h.lit hx (by simp [ho, Op.operands])) (h.lit hy (by simp [ho, Op.operands]))]
  simp [Op.shift, show ¬ b < 0 by omega]
theorem sop_shl (ho : o.op = .binOp .shl t x y t' := by rfl) (hx : Opv fr x (.lit (.int k a)) := by exact opv_std) (hy : Opv fr y (.lit (.int k' b)) := by exact opv_std) (hb : 0 ≤ b := by first | omega | (simp only [List.length_append, List.length_cons, List.length_nil, List.length_take, List.length_drop, List.length_replicate, List.length_map, List.length_set]; omega)) : SOp P o fr H (.lit (.int k (k.wrap (a * 2 ^ (min b.toNat k.bits))))) := fun S γ w ρ h => by
  refine outl ?_
  rw [run_shift (.inl rfl) ho (h.lit hx (by simp [ho, Op.operands])) (h.lit hy (by simp [ho, Op.operands]))]
  simp [Op.shift, show ¬ b < 0 by omega]
theorem sop_and (ho : o.op = .binOp .and t x y t' := by rfl) (hx : Opv fr x (.lit (.int k a)) := by exact opv_std) (hy : Opv fr y (.lit (.int k b)) := by exact opv_std) : SOp P o fr H (.lit (.int k (bits .and k a b))) := fun S γ w ρ h => by
  refine outl ?_
  rw [run_bin ho (h.lit hx (by simp [ho, Op.operands])) (h.lit hy (by simp [ho, Op.operands])) (by simp) (by simp)]
  simp [go_sem]
theorem sop_or (ho : o.op = .binOp .or t x y t' := by rfl) (hx : Opv fr x (.lit (.int k a)) := by exact opv_std) (hy : Opv fr y (.lit (.int k b)) := by exact opv_std) : SOp P o fr H (.lit (.int k (bits .or k a b))) := fun S γ w ρ h => by
  refine outl ?_
  rw [run_bin ho (h.lit hx (by simp [ho, Op.operands])) (h.lit hy (by simp [ho, Op.operands])) (by simp) (by simp)]
  simp [go_sem]
theorem sop_xor (ho : o.op = .binOp .xor t x y t' := by rfl) (hx : Opv fr x (.lit (.int k a)) := by exact opv_std) (hy : Opv fr y (.lit (.int k b)) := by exact opv_std) : SOp P o fr H (.lit (.int k (bits .xor k a b))) := fun S γ w ρ h => by
  refine outl ?_
  rw [run_bin ho (h.lit hx (by simp [ho, Op.operands])) (h.lit hy (by simp [ho, Op.operands])) (by simp) (by simp)]
  simp [go_sem]
theorem sop_neg (ho : o.op = .unOp .neg t x := by rfl) (hx : Opv fr x (.lit (.int k a)) := by exact opv_std) : SOp P o fr H (.lit (.int k (k.wrap (0 - a)))) := fun S γ w ρ h => by
  refine outl ?_
  have := h.lit hx (by simp [ho, Op.operands])
  simp [execOp, ho, this, Op.unary, Op.intArith]
theorem sop_min2 {ts : Array TypeId} (ho : o.op = .call { callee := .builtin .min, args := #[x, y], argTypes := ts } := by rfl) (hx : Opv fr x (.lit (.int k a)) := by exact opv_std) (hy : Opv fr y (.lit (.int k b)) := by exact opv_std) : SOp P o fr H (.lit (.int k (if b < a then b else a))) := fun S γ w ρ h => by
  refine outl ?_
  have h1 := h.lit hx (by simp [ho, Op.operands, Call.operands])
  have h2 := h.lit hy (by simp [ho, Op.operands, Call.operands])
  simp [execOp, ho, resolve, invoke, builtin, Builtin.min_, Builtin.min2, h1, h2]
theorem sop_max2 {ts : Array TypeId} (ho : o.op = .call { callee := .builtin .max, args := #[x, y], argTypes := ts } := by rfl) (hx : Opv fr x (.lit (.int k a)) := by exact opv_std) (hy : Opv fr y (.lit (.int k b)) := by exact opv_std) : SOp P o fr H (.lit (.int k (if a < b then b else a))) := fun S γ w ρ h => by
  refine outl ?_
  have h1 := h.lit hx (by simp [ho, Op.operands, Call.operands])
  have h2 := h.lit hy (by simp [ho, Op.operands, Call.operands])
  simp [execOp, ho, resolve, invoke, builtin, Builtin.max_, Builtin.max2, h1, h2]
end
end
end Go.Proofs.YtgdkeafdlehlaaaDoor

/- Conversions and unsigned arithmetic over abstract frames. Nothing of the program stands here. -/
namespace Go.Proofs.YtgdkeafdlehlaaaDoor
open Go Go.RowKit
set_option linter.unusedVariables false
section
variable {P : Program} {T : List (Nat × TI)} {fr : List (Nat × AV)} {H : List (Nat × Res)} {o : Oper} {x y : Operand} {t t' : TypeId} {s bt s' bt' : Nat} {j : IntKind} {a b : Int}
theorem sop_conv_i64 (ho : o.op = .convert t t' x := by rfl) (hT : TTOk P T := by assumption) (ht : look T t = some ⟨.int j, s, bt⟩ := by rfl) (ht' : look T t' = some ⟨.int .i64, s', bt'⟩ := by rfl) (hx : Opv fr x (.lit (.int j a)) := by exact opv_std) (hi : -9223372036854775808 ≤ a ∧ a ≤ 9223372036854775807 := by first | omega | (simp only [List.length_append, List.length_cons, List.length_nil, List.length_take, List.length_drop, List.length_replicate, List.length_map, List.length_set]; omega)) : SOp P o fr H (.lit (.int .i64 a)) :=
  sop_cast (sop_conv ho hT ht ht' hx) (by rw [wrap_i64_in hi])
theorem sop_conv_u64in (ho : o.op = .convert t t' x := by rfl) (hT : TTOk P T := by assumption) (ht : look T t = some ⟨.int j, s, bt⟩ := by rfl) (ht' : look T t' = some ⟨.int .u64, s', bt'⟩ := by rfl) (hx : Opv fr x (.lit (.int j a)) := by exact opv_std) (hi : 0 ≤ a ∧ a ≤ 18446744073709551615 := by first | omega | (simp only [List.length_append, List.length_cons, List.length_nil, List.length_take, List.length_drop, List.length_replicate, List.length_map, List.length_set]; omega)) : SOp P o fr H (.lit (.int .u64 a)) :=
  sop_cast (sop_conv ho hT ht ht' hx) (by rw [wrap_u64_in hi])
theorem sop_conv_u64 (ho : o.op = .convert t t' x := by rfl) (hT : TTOk P T := by assumption) (ht : look T t = some ⟨.int j, s, bt⟩ := by rfl) (ht' : look T t' = some ⟨.int .u64, s', bt'⟩ := by rfl) (hx : Opv fr x (.lit (.int j a)) := by exact opv_std) : SOp P o fr H (.lit (.int .u64 (a % 18446744073709551616))) :=
  sop_cast (sop_conv ho hT ht ht' hx) (by rw [IntKind.wrap_u64])
theorem sop_conv_u8in (ho : o.op = .convert t t' x := by rfl) (hT : TTOk P T := by assumption) (ht : look T t = some ⟨.int j, s, bt⟩ := by rfl) (ht' : look T t' = some ⟨.int .u8, s', bt'⟩ := by rfl) (hx : Opv fr x (.lit (.int j a)) := by exact opv_std) (hi : 0 ≤ a ∧ a ≤ 255 := by first | omega | (simp only [List.length_append, List.length_cons, List.length_nil, List.length_take, List.length_drop, List.length_replicate, List.length_map, List.length_set]; omega)) : SOp P o fr H (.lit (.int .u8 a)) :=
  sop_cast (sop_conv ho hT ht ht' hx) (by rw [wrap_u8_in hi])
theorem sop_conv_u8 (ho : o.op = .convert t t' x := by rfl) (hT : TTOk P T := by assumption) (ht : look T t = some ⟨.int j, s, bt⟩ := by rfl) (ht' : look T t' = some ⟨.int .u8, s', bt'⟩ := by rfl) (hx : Opv fr x (.lit (.int j a)) := by exact opv_std) : SOp P o fr H (.lit (.int .u8 (a % 256))) :=
  sop_cast (sop_conv ho hT ht ht' hx) (by rw [IntKind.wrap_u8])
theorem sop_conv_u32in (ho : o.op = .convert t t' x := by rfl) (hT : TTOk P T := by assumption) (ht : look T t = some ⟨.int j, s, bt⟩ := by rfl) (ht' : look T t' = some ⟨.int .u32, s', bt'⟩ := by rfl) (hx : Opv fr x (.lit (.int j a)) := by exact opv_std) (hi : 0 ≤ a ∧ a ≤ 4294967295 := by first | omega | (simp only [List.length_append, List.length_cons, List.length_nil, List.length_take, List.length_drop, List.length_replicate, List.length_map, List.length_set]; omega)) : SOp P o fr H (.lit (.int .u32 a)) :=
  sop_cast (sop_conv ho hT ht ht' hx) (by rw [wrap_u32_in hi])
theorem sop_add_u64in (ho : o.op = .binOp .add t x y t' := by rfl) (hx : Opv fr x (.lit (.int .u64 a)) := by exact opv_std) (hy : Opv fr y (.lit (.int .u64 b)) := by exact opv_std) (hi : 0 ≤ a + b ∧ a + b ≤ 18446744073709551615 := by first | omega | (simp only [List.length_append, List.length_cons, List.length_nil, List.length_take, List.length_drop, List.length_replicate, List.length_map, List.length_set]; omega)) : SOp P o fr H (.lit (.int .u64 (a + b))) :=
  sop_cast (sop_add ho hx hy) (by rw [wrap_u64_in hi])
theorem sop_sub_u64in (ho : o.op = .binOp .sub t x y t' := by rfl) (hx : Opv fr x (.lit (.int .u64 a)) := by exact opv_std) (hy : Opv fr y (.lit (.int .u64 b)) := by exact opv_std) (hi : 0 ≤ a - b ∧ a - b ≤ 18446744073709551615 := by first | omega | (simp only [List.length_append, List.length_cons, List.length_nil, List.length_take, List.length_drop, List.length_replicate, List.length_map, List.length_set]; omega)) : SOp P o fr H (.lit (.int .u64 (a - b))) :=
  sop_cast (sop_sub ho hx hy) (by rw [wrap_u64_in hi])
theorem sop_add_u8 (ho : o.op = .binOp .add t x y t' := by rfl) (hx : Opv fr x (.lit (.int .u8 a)) := by exact opv_std) (hy : Opv fr y (.lit (.int .u8 b)) := by exact opv_std) : SOp P o fr H (.lit (.int .u8 ((a + b) % 256))) :=
  sop_cast (sop_add ho hx hy) (by rw [IntKind.wrap_u8])
theorem sop_shr_in {k k' : IntKind} {m : Nat} (ho : o.op = .binOp .shr t x y t' := by rfl) (hx : Opv fr x (.lit (.int k a)) := by exact opv_std) (hy : Opv fr y (.lit (.int k' b)) := by exact opv_std) (hb : b = (m : Int) := by first | rfl | omega) (hm : Nat.ble m k.bits = true := by rfl) : SOp P o fr H (.lit (.int k (a / 2 ^ m))) :=
  sop_cast (sop_shr ho hx hy (by omega)) (by
    have h := Nat.le_of_ble_eq_true hm
    subst hb
    rw [Int.toNat_natCast, Nat.min_eq_left h, Int.fdiv_eq_ediv_of_nonneg _ (by exact Int.le_of_lt (Int.pow_pos (by omega)))])
/-- a number, from 0 to below n -/
def low (x n : Int) : Int := (x % 18446744073709551616) % n
theorem low_bd (x : Int) {n : Int} (h : 1 ≤ n) : 0 ≤ low x n ∧ low x n < n := ⟨Int.emod_nonneg _ (by omega), Int.emod_lt_of_pos _ (by omega)⟩
theorem take_nth {α : Type} [Inhabited α] (xs : List α) (k : Nat) (h : k < xs.length) : xs.take (k + 1) = xs.take k ++ [nth xs k] := by
  rw [List.take_succ_eq_append_getElem h, nth_eq h]
def fieldsB (P : Program) (t : TypeId) : List TK := (P.fieldsOf t).toList.map fun f => tkOf P f.type
end
mutual
theorem AV.uses_weak {p : Nat → Bool} : ∀ {a : AV}, a.uses (fun _ => false) = true → a.uses p = true
  | .any, _ => rfl
  | .lit _, _ => rfl
  | .snap _, _ => rfl
  | .own j, h => by simp [AV.uses] at h
  | .ptr j off, h => by simp [AV.uses] at h
  | .sl j off m k, h => by simp [AV.uses] at h
  | .pre j m, h => by simp [AV.uses] at h
  | .agg cs, h => by simp only [AV.uses] at h ⊢; exact AV.usesL_weak h
  | .tup cs, h => by simp only [AV.uses] at h ⊢; exact AV.usesL_weak h
  | .fn f cs, h => by simp only [AV.uses] at h ⊢; exact AV.usesL_weak h
  | .when q a, h => by simp only [AV.uses] at h ⊢; exact AV.uses_weak h
theorem AV.usesL_weak {p : Nat → Bool} : ∀ {cs : List AV}, AV.usesL (fun _ => false) cs = true → AV.usesL p cs = true
  | [], _ => rfl
  | c :: cs, h => by
    simp only [AV.usesL, Bool.and_eq_true] at h ⊢
    exact ⟨AV.uses_weak h.1, AV.usesL_weak h.2⟩
end
section
variable {P : Program} {T : List (Nat × TI)} {c : Ctx} {n : Nat} {Q : AQ} {fr : List (Nat × AV)} {H : List (Nat × Res)} {ops : Array Oper} {rest : List Oper} {o : Oper}
variable {α : Type} {E : Enc α} {xs : List α} {x y : Operand} {t e s b j : Nat} {ei : TI} {m : Int} {kd : IntKind}
theorem sop_index_snapZ [Inhabited α] (ho : o.op = .indexAddr t x y := by rfl) (hT : TTOk P T := by assumption) (ht : look T t = some ⟨.slice e, s, b⟩ := by rfl) (he : look T e = some ei := by rfl)
    (hx : Opv fr x (.snap (slF E xs)) := by exact opv_std) (hy : Opv fr y (.lit (.int kd m)) := by exact opv_std) (h0 : 0 ≤ m := by first | omega | (simp only [List.length_append, List.length_cons, List.length_nil, List.length_take, List.length_drop, List.length_replicate, List.length_map, List.length_set]; omega)) (hk : m < (xs.length : Int) := by first | omega | (simp only [List.length_append, List.length_cons, List.length_nil, List.length_take, List.length_drop, List.length_replicate, List.length_map, List.length_set]; omega)) (hs : ei.size = E.size := by rfl) (hE : Nat.blt 0 E.size = true := by rfl) : SOp P o fr H (.snap (placeF (E.cells (nth xs m.toNat)))) :=
  sop_index_snap (k := m.toNat) ho hT ht he hx hy (by omega) (by omega) hs hE
theorem sop_index_ownZ [Inhabited α] {e' : Nat} (ho : o.op = .indexAddr t x y := by rfl) (hT : TTOk P T := by assumption) (ht : look T t = some ⟨.slice e, s, b⟩ := by rfl) (he : look T e = some ei := by rfl)
    (hx : Opv fr x (.own j) := by exact opv_std) (hj : look H j = some (.own e' E xs) := by rfl) (hy : Opv fr y (.lit (.int kd m)) := by exact opv_std) (h0 : 0 ≤ m := by first | omega | (simp only [List.length_append, List.length_cons, List.length_nil, List.length_take, List.length_drop, List.length_replicate, List.length_map, List.length_set]; omega)) (hk : m < (xs.length : Int) := by first | omega | (simp only [List.length_append, List.length_cons, List.length_nil, List.length_take, List.length_drop, List.length_replicate, List.length_map, List.length_set]; omega)) (hs : ei.size = E.size := by rfl) : SOp P o fr H (.ptr j (m.toNat * E.size + 0)) :=
  sop_index_own (k := m.toNat) ho hT ht he hx hj hy (by omega) (by omega) hs
theorem ao_append_same {d es eb : Nat} {ek : TK} {sx : Operand} {ys : List α} (hg : o.guard = none := by rfl) (hd : o.dst = some d := by rfl) (hn : Nat.blt d n = true := by rfl) (ho : o.op = .call { callee := .builtin .append, args := #[sx, x], argTypes := #[t, t] } := by rfl)
    (hT : TTOk P T := by assumption) (ht : look T t = some ⟨.slice e, s, b⟩ := by rfl) (he : look T e = some ⟨ek, es, eb⟩ := by rfl)
    (hsx : Opv fr sx (.own j) := by exact opv_std) (hj : look H j = some (.own e E xs) := by rfl) (hx : Src fr H x E ys := by first | exact .snap (by exact opv_std) | exact .own (by exact opv_std) rfl | exact .nil (by exact opv_std)) (hm : xs.length + ys.length ≤ 9223372036854775807 := by first | omega | (simp only [List.length_append, List.length_cons, List.length_nil, List.length_take, List.length_drop, List.length_replicate, List.length_map, List.length_set]; omega)) (hb : (xs.length + ys.length) * eb ≤ 140737488355328 := by first | omega | (simp only [List.length_append, List.length_cons, List.length_nil, List.length_take, List.length_drop, List.length_replicate, List.length_map, List.length_set]; omega)) (hs : es = E.size := by rfl) (hE : Nat.blt 0 es = true := by rfl)
    (hkJ : Nat.ble 1000 j = true := by rfl) (hu : usesH (one1 j) (dropH (one1 j) (dropH (one1 j) H)) = true := by rfl)
    (next : AOps P c n ops rest Q ((d, .own j) :: markF (one1 j) fr) ((j, .own e E (xs ++ ys)) :: dropH (one1 j) (dropH (one1 j) H))) : AOps P c n ops (o :: rest) Q fr H :=
  ao_append hg hd hn ho hT ht he hsx hj hx hm hb hs hE j hkJ hu next
theorem ao_append_new {d es eb : Nat} {ek : TK} {sx : Operand} {ys : List α} (hg : o.guard = none := by rfl) (hd : o.dst = some d := by rfl) (hn : Nat.blt d n = true := by rfl) (ho : o.op = .call { callee := .builtin .append, args := #[sx, x], argTypes := #[t, t] } := by rfl)
    (hT : TTOk P T := by assumption) (ht : look T t = some ⟨.slice e, s, b⟩ := by rfl) (he : look T e = some ⟨ek, es, eb⟩ := by rfl)
    (hsx : Opv fr sx (.own j) := by exact opv_std) (hj : look H j = some (.own e E xs) := by rfl) (hx : Src fr H x E ys := by first | exact .snap (by exact opv_std) | exact .own (by exact opv_std) rfl | exact .nil (by exact opv_std)) (hm : xs.length + ys.length ≤ 9223372036854775807 := by first | omega | (simp only [List.length_append, List.length_cons, List.length_nil, List.length_take, List.length_drop, List.length_replicate, List.length_map, List.length_set]; omega)) (hb : (xs.length + ys.length) * eb ≤ 140737488355328 := by first | omega | (simp only [List.length_append, List.length_cons, List.length_nil, List.length_take, List.length_drop, List.length_replicate, List.length_map, List.length_set]; omega)) (hs : es = E.size := by rfl) (hE : Nat.blt 0 es = true := by rfl)
    (hu : usesH (one1 (d + 1000)) (dropH (one1 (d + 1000)) (dropH (one1 j) H)) = true := by rfl)
    (next : AOps P c n ops rest Q ((d, .own (d + 1000)) :: markF (one1 (d + 1000)) fr) ((d + 1000, .own e E (xs ++ ys)) :: dropH (one1 (d + 1000)) (dropH (one1 j) H))) : AOps P c n ops (o :: rest) Q fr H :=
  ao_append hg hd hn ho hT ht he hsx hj hx hm hb hs hE (d + 1000) (Nat.ble_eq_true_of_le (by omega)) hu next
theorem sop_callC {f : FuncId} {zs : Array Operand} {tys : Array TypeId} {qs0 : List AV} {out : AV} (hC : Con P f qs0 [] fun a h => a = out ∧ h = []) (ho : o.op = .call { callee := .value (.func f), args := zs, argTypes := tys } := by rfl) (hf : entersB P f = true := by kernel_rfl) (hargs : ArgsOk true fr H zs.toList qs0 := by repeat (first | exact .nil | refine .cons (by exact opv_std) ?_ | refine .lend rfl (by exact opv_std) (by rfl) ?_ | refine .nilS (by exact opv_std) ?_ | refine .lentS (by exact opv_std) ?_))
    (hout : AV.uses (fun _ => false) out = true := by rfl) (hB : out.flat = true := by rfl) : SOp P o fr H out := sop_call (B := true) ho hf hC hargs hout (.inr hB)
theorem sop_callN {f : FuncId} {zs : Array Operand} {tys : Array TypeId} {qs0 : List AV} {out : AV} (hC : Con P f qs0 [] fun a h => a = out ∧ h = []) (ho : o.op = .call { callee := .value (.func f), args := zs, argTypes := tys } := by rfl) (hf : entersB P f = true := by kernel_rfl) (hargs : ArgsOk false fr H zs.toList qs0 := by repeat (first | exact .nil | refine .cons (by exact opv_std) ?_ | refine .lend rfl (by exact opv_std) (by rfl) ?_ | refine .nilS (by exact opv_std) ?_ | refine .lentS (by exact opv_std) ?_))
    (hout : AV.uses (fun _ => false) out = true := by rfl) : SOp P o fr H out := sop_call (B := false) ho hf hC hargs hout (.inl rfl)
theorem sop_callOC {f : FuncId} {zs : Array Operand} {tys : Array TypeId} {qs0 : List AV} {k : Nat} {ys : List α} (hC : Con P f qs0 [] fun a h => a = .own k ∧ h = [(k, .own e E ys)]) (ho : o.op = .call { callee := .value (.func f), args := zs, argTypes := tys } := by rfl) (hf : entersB P f = true := by kernel_rfl)
    (hargs : ArgsOk true fr H zs.toList qs0 := by repeat (first | exact .nil | refine .cons (by exact opv_std) ?_ | refine .lend rfl (by exact opv_std) (by rfl) ?_ | refine .nilS (by exact opv_std) ?_ | refine .lentS (by exact opv_std) ?_)) (hE : E.isFlat := by intro _; rfl) : SOp P o fr H (.snap (slF E ys)) := sop_callO (B := true) ho hf hC hargs (.inr hE)
/-- a call that makes a slice of one's own -/
theorem ao_callO {f : FuncId} {zs : Array Operand} {tys : Array TypeId} {qs0 : List AV} {k d : Nat} {ys : List α} (hC : Con P f qs0 [] fun a h => a = .own k ∧ h = [(k, .own e E ys)]) (hg : o.guard = none := by rfl) (hd : o.dst = some d := by rfl) (hn : Nat.blt d n = true := by rfl) (ho : o.op = .call { callee := .value (.func f), args := zs, argTypes := tys } := by rfl) (hf : entersB P f = true := by kernel_rfl)
    (hargs : ArgsOk true fr H zs.toList qs0 := by repeat (first | exact .nil | refine .cons (by exact opv_std) ?_ | refine .lend rfl (by exact opv_std) (by rfl) ?_ | refine .nilS (by exact opv_std) ?_ | refine .lentS (by exact opv_std) ?_)) (has : AV.usesL (fun _ => false) qs0 = true := by rfl) (hE : E.isFlat := by intro _; rfl) (hu : usesH (one1 (d + 1000)) (dropH (one1 (d + 1000)) H) = true := by rfl)
    (next : AOps P c n ops rest Q ((d, .own (d + 1000)) :: markF (one1 (d + 1000)) fr) ((d + 1000, .own e E ys) :: dropH (one1 (d + 1000)) H)) : AOps P c n ops (o :: rest) Q fr H := by
  refine ao_call (B := true) hg hd hn ho hf hC (fun _ => d + 1000) (by rw [AV.renL_id _ _ has]; exact hargs) (fun j r h => by simp [look] at h) rfl (fun _ => rfl) ?_
  rintro out Hout ⟨rfl, rfl⟩
  have hfr : freshIds [] [(k, Res.own e E ys)] = [k] := by simp [freshIds, idsOf]
  have hany : anyId (fun _ => d + 1000) [k] = one1 (d + 1000) := by
    funext i; simp [anyId, one1]
  have hids : idsOf ([] : List (Nat × Res)) ++ idsOf [(k, Res.own e E ys)] = [k] := rfl
  refine ⟨?_, .inr ⟨rfl, fun p hp => ?_⟩, ?_⟩
  · unfold callOk
    rw [hfr, hids, hany, hu]
    have h1 : Nat.ble 1000 (d + 1000) = true := Nat.ble_eq_true_of_le (by omega)
    simp [AV.uses, Res.uses, injB, h1, idsOf]
  · simp only [List.mem_singleton] at hp
    subst hp; exact hE
  · rw [hfr, hids, hany]
    exact next
/-- a call that writes over a slice of one's own -/
theorem ao_callW {f : FuncId} {zs : Array Operand} {tys : Array TypeId} {d : Nat} {good : List α → Prop} {out : AV} {x : Operand} (hC : Con P f [.own 0] [(0, .own e E xs)] fun a h => a = out ∧ ∃ ys, good ys ∧ h = [(0, .own e E ys)]) (hg : o.guard = none := by rfl) (hd : o.dst = some d := by rfl) (hn : Nat.blt d n = true := by rfl) (ho : o.op = .call { callee := .value (.func f), args := #[x], argTypes := tys } := by rfl) (hf : entersB P f = true := by kernel_rfl)
    (hx : Opv fr x (.own j) := by exact opv_std) (hj : look H j = some (.own e E xs) := by rfl) (hout : out.uses (fun _ => false) = true := by rfl)
    (next : ∀ ys, good ys → AOps P c n ops rest Q ((d, out) :: markF (fun _ => false) fr) ((j, .own e E ys) :: dropH (one1 j) H)) : AOps P c n ops (o :: rest) Q fr H := by
  refine ao_call (B := false) hg hd hn ho hf hC (fun _ => j) (by exact .cons hx .nil) (fun i r h => by
    obtain ⟨rfl, rfl⟩ := look_one h
    exact hj) (by simp [injB, idsOf]) (fun h => by cases h) ?_
  rintro out' Hout ⟨rfl, ys, hgood, rfl⟩
  have hfr : freshIds [(0, Res.own e E xs)] [(0, Res.own e E ys)] = [] := by simp [freshIds, idsOf]
  have hany0 : anyId (fun _ => j) [] = fun _ => false := by funext i; simp [anyId]
  have hany : anyId (fun _ => j) (idsOf [(0, Res.own e E xs)] ++ idsOf [(0, Res.own e E ys)]) = one1 j := by
    funext i; simp [anyId, one1, idsOf]
  refine ⟨?_, .inl rfl, ?_⟩
  · unfold callOk
    rw [hfr, hany0, usesH_none]
    have : AV.uses (fun j => (idsOf [(0, Res.own e E ys)]).contains j) out' = true := by
      have key : ∀ (p : Nat → Bool), (∀ a : AV, a.uses (fun _ => false) = true → a.uses p = true) := by
        intro p a ha
        exact AV.uses_weak ha
      exact key _ _ hout
    rw [this]
    simp [Res.uses, injB, idsOf]
  · rw [hfr, hany0, hany]
    have : out'.ren (fun _ => j) = out' := AV.ren_id _ _ hout
    rw [this]
    exact next ys hgood
theorem ao_store_ownR [Inhabited α] {e' : Nat} {t k f : Nat} {ti : TI} {ds : List AV} {a : AV} (hg : o.guard = none := by rfl) (hd : o.dst = none := by rfl) (ho : o.op = .store t x y := by rfl) (hT : TTOk P T := by assumption) (ht : look T t = some ti := by rfl) (hx : Opv fr x (.ptr j (k * E.size + f)) := by exact opv_std) (hj : look H j = some (.own e' E xs) := by rfl) (hk : k < xs.length := by first | omega | (simp only [List.length_append, List.length_cons, List.length_nil, List.length_take, List.length_drop, List.length_replicate, List.length_map, List.length_set]; omega))
    (hy : Opv fr y a := by exact opv_std) (hc : cellsOf a = some ds := by rfl) (h1 : AV.allOneL ds = true := by rfl) (hu : AV.usesL (fun _ => false) ds = true := by rfl) (hl : Nat.beq ds.length ti.size = true := by rfl) (hb : Nat.ble (f + ti.size) E.size = true := by rfl) (hx' : E.cells (E.read (setAll (E.cells (nth xs k)) f ds)) = setAll (E.cells (nth xs k)) f ds := by rfl)
    (next : AOps P c n ops rest Q fr ((j, .own e' E (xs.set k (E.read (setAll (E.cells (nth xs k)) f ds)))) :: dropH (one1 j) H)) : AOps P c n ops (o :: rest) Q fr H :=
  ao_store_own hg hd ho hT ht hx hj hk hy hc h1 hu hl hb hx' next
/-- a call that uses a slice of one's own up -/
theorem ao_callX {f : FuncId} {tys : Array TypeId} {d : Nat} {out : AV} {z : Operand} (hC : Con P f [.own 0] [(0, .own e E xs)] fun a h => a = out ∧ h = []) (hg : o.guard = none := by rfl) (hd : o.dst = some d := by rfl) (hn : Nat.blt d n = true := by rfl) (ho : o.op = .call { callee := .value (.func f), args := #[z], argTypes := tys } := by rfl) (hf : entersB P f = true := by kernel_rfl)
    (hx : Opv fr z (.own j) := by exact opv_std) (hj : look H j = some (.own e E xs) := by rfl) (hout : out.uses (fun _ => false) = true := by rfl)
    (next : AOps P c n ops rest Q ((d, out) :: fr) (dropH (one1 j) H)) : AOps P c n ops (o :: rest) Q fr H := by
  refine ao_call (B := false) hg hd hn ho hf hC (fun _ => j) (by exact .cons hx .nil) (fun i r h => by
    obtain ⟨rfl, rfl⟩ := look_one h
    exact hj) (by simp [injB, idsOf]) (fun h => by cases h) ?_
  rintro out' Hout ⟨rfl, rfl⟩
  have hfr : freshIds [(0, Res.own e E xs)] [] = [] := by simp [freshIds, idsOf]
  have hany0 : anyId (fun _ => j) [] = fun _ => false := by funext i; simp [anyId]
  have hany : anyId (fun _ => j) (idsOf [(0, Res.own e E xs)] ++ idsOf []) = one1 j := by
    funext i; simp [anyId, one1, idsOf]
  refine ⟨?_, .inl rfl, ?_⟩
  · unfold callOk
    rw [hfr, hany0, usesH_none, AV.uses_weak hout]
    simp [injB, idsOf]
  · rw [hfr, hany0, hany, markF_none]
    have : out'.ren (fun _ => j) = out' := AV.ren_id _ _ hout
    rw [this]
    exact next
/-- a call of a function value that is told -/
theorem sop_callfC {t : Tmp} {zs : Array Operand} {tys : Array TypeId} {qs0 : List AV} {out : AV} {spec : List AV → AV → Prop} (hsp : spec qs0 out) (ho : o.op = .call { callee := .value (.tmp t), args := zs, argTypes := tys } := by rfl) (hv : Opv fr (.tmp t) (.snap (fnF P spec)) := by exact opv_std) (hargs : ArgsOk true fr H zs.toList qs0 := by repeat (first | exact .nil | refine .cons (by exact opv_std) ?_ | refine .lend rfl (by exact opv_std) (by rfl) ?_ | refine .nilS (by exact opv_std) ?_ | refine .lentS (by exact opv_std) ?_))
    (hB : out.flat = true := by rfl) : SOp P o fr H out := sop_callf (B := true) ho hv hargs hsp (.inr hB)
theorem sop_func {f : FuncId} {caps : Array Operand} {cs : List AV} {spec : List AV → AV → Prop} (hC : ∀ qs0 out, spec qs0 out → Con P f (qs0 ++ cs) [] fun a h => a = out ∧ h = []) (ho : o.op = .makeFunc (.func f) #[] caps := by rfl) (hf : entersB P f = true := by kernel_rfl) (hcaps : CapsOk fr caps.toList cs := by repeat (first | exact .nil | refine .cons (by exact opv_std) rfl ?_))
    (hout : ∀ qs0 out, spec qs0 out → AV.uses (fun _ => false) out = true) : SOp P o fr H (.snap (fnF P spec)) := sop_makeFunc spec ho hf hcaps hout hC
end
end Go.Proofs.YtgdkeafdlehlaaaDoor

/- Arguments qs0 they come in, read qs0 our own words. Nothing of the program stands here. -/
namespace Go.Proofs.YtgdkeafdlehlaaaDoor
open Go Go.RowKit Go.Deep Go.ChangeShapes
set_option linter.unusedVariables false
section
variable {H : Type} {enc : TypeId × Value → H} {P : Program} {W : World} {base : Nat} {sp : Nat → Bool} {hd : Bool}
theorem u8_of_wf {n : Int} (h : (Lit.int .u8 n).wf = true) : ∃ b : UInt8, n = (b.toNat : Int) := by
  have hb : 0 ≤ n ∧ n ≤ 255 := by simpa [Lit.wf, IntKind.min, IntKind.max, IntKind.signed, IntKind.bits] using h
  refine ⟨UInt8.ofNat n.toNat, ?_⟩
  rw [UInt8.toNat_ofNat']
  omega
theorem u32_of_wf {n : Int} (h : (Lit.int .u32 n).wf = true) : ∃ r : BitVec 32, n = (r.toNat : Int) := by
  have hb : 0 ≤ n ∧ n ≤ 4294967295 := by simpa [Lit.wf, IntKind.min, IntKind.max, IntKind.signed, IntKind.bits] using h
  refine ⟨BitVec.ofNat 32 n.toNat, ?_⟩
  rw [BitVec.toNat_ofNat]
  omega
theorem u64_of_wf {n : Int} (h : (Lit.int .u64 n).wf = true) : ∃ r : BitVec 64, n = (r.toNat : Int) := by
  have hb : 0 ≤ n ∧ n ≤ 18446744073709551615 := by simpa [Lit.wf, IntKind.min, IntKind.max, IntKind.signed, IntKind.bits] using h
  refine ⟨BitVec.ofNat 64 n.toNat, ?_⟩
  rw [BitVec.toNat_ofNat]
  omega
theorem i64_of_wf {n : Int} (h : (Lit.int .i64 n).wf = true) : -9223372036854775808 ≤ n ∧ n ≤ 9223372036854775807 := by
  simpa [Lit.wf, IntKind.min, IntKind.max, IntKind.signed, IntKind.bits] using h
theorem u8s_of {zs : List Int} (h : ∀ n ∈ zs, (Lit.int .u8 n).wf = true) : ∃ l : List UInt8, zs = l.map (fun b => (b.toNat : Int)) := by
  induction zs with
  | nil => exact ⟨[], rfl⟩
  | cons z zs ih =>
    obtain ⟨l, hl⟩ := ih (fun n hn => h n (List.mem_cons_of_mem _ hn))
    obtain ⟨b, hb⟩ := u8_of_wf (h z List.mem_cons_self)
    exact ⟨b :: l, by rw [hl, hb]; rfl⟩
/-- a slice of bytes that came in, by its cells' reading -/
theorem open_bytes_cells {t e : TypeId} {fuel : Nat} {v : Value} {x : DataW H × List MemPlace} (ht : P.underlying t = some (.slice e)) (he : P.underlying e = some (.int .u8)) (hc : P.cellsOf e = 1)
    (h : DataW.trod enc P W base sp hd fuel t [v] = some x) : ∃ a c l, v = .slice a l.length c ∧ l.length ≤ c ∧ c ≤ maxLen ∧ Row W a (bvs l) := by
  rcases open_ints ht he hc h with ⟨hcs, _⟩ | ⟨a, len, cap, zs, hcs, _, hl, hm, hz, _, hcell, hwz⟩
  · injection hcs with hcs
    exact ⟨none, 0, [], by rw [hcs]; rfl, Nat.le_refl _, by simp [maxLen], Row.nil _ _⟩
  · injection hcs with hcs
    obtain ⟨l, rfl⟩ := u8s_of hwz
    have hlen : len ≤ l.length := by
      simp only [List.length_map] at hz
      rw [hz]
      split <;> omega
    refine ⟨some a, cap, l.take len, ?_, ?_, hm, fun _ => ⟨a, rfl, ?_⟩⟩
    · rw [hcs]; simp; omega
    · simp; omega
    · intro j u hu
      have hj : j < len := by
        have := (List.getElem?_eq_some_iff.1 hu).1
        simp [bvs] at this; omega
      rw [hcell j (by simp; omega)]
      have hjl : j < l.length := by omega
      have : (bvs (l.take len))[j]? = some (bv l[j]) := by
        simp [bvs, hj, List.getElem?_eq_getElem hjl]
      rw [this] at hu
      injection hu with hu
      rw [← hu]
      simp [bv, List.getD_eq_getElem?_getD, List.getElem?_map, List.getElem?_eq_getElem hjl]
/-- a slice of numbers that came in -/
theorem open_nums {t e : TypeId} {k : IntKind} {a : Option Addr} {len cap : Nat} {d : DataW H} {p : List MemPlace} (ht : P.underlying t = some (.slice e)) (he : P.underlying e = some (.int k)) (hc : P.cellsOf e = 1)
    (h : DataW.Trod enc P W base sp hd t (.slice a len cap) d p) : ∃ zs : List Int, zs.length = len ∧ len ≤ cap ∧ cap ≤ maxLen ∧ Row W a (zs.map (Value.int k)) ∧ ∀ n ∈ zs, (Lit.int k n).wf = true := by
  obtain ⟨fuel, hf⟩ := h
  rcases open_ints ht he hc (show DataW.trod enc P W base sp hd fuel t [.slice a len cap] = some (d, p) from hf) with ⟨hcs, _⟩ | ⟨a', len', cap', zs, hcs, _, hl, hm, hz, _, hcell, hwz⟩
  · injection hcs with hcs
    injection hcs with h1 h2 h3
    subst h1 h2 h3
    exact ⟨[], rfl, Nat.le_refl _, by simp [maxLen], Row.nil _ _, by simp⟩
  · injection hcs with hcs
    injection hcs with h1 h2 h3
    subst h1 h2 h3
    have hlen : len ≤ zs.length := by
      rw [hz]
      split <;> omega
    refine ⟨zs.take len, by simp; omega, hl, hm, fun _ => ⟨a', rfl, ?_⟩, fun n hn => hwz n (List.mem_of_mem_take hn)⟩
    intro j u hu
    have hj : j < len := by
      have := (List.getElem?_eq_some_iff.1 hu).1
      simp at this; omega
    rw [hcell j (by omega)]
    have hjl : j < zs.length := by omega
    have : ((zs.take len).map (Value.int k))[j]? = some (.int k zs[j]) := by
      simp [hj, List.getElem?_eq_getElem hjl]
    rw [this] at hu
    injection hu with hu
    rw [← hu]
    simp [List.getD_eq_getElem?_getD, List.getElem?_eq_getElem hjl]
theorem nats_of {k : IntKind} {zs : List Int} (hk : k.min = 0) (h : ∀ n ∈ zs, (Lit.int k n).wf = true) : ∃ ns : List Nat, zs = ns.map (fun n : Nat => (n : Int)) ∧ ∀ n ∈ ns, (Lit.int k (n : Int)).wf = true := by
  induction zs with
  | nil => exact ⟨[], rfl, by simp⟩
  | cons z zs ih =>
    obtain ⟨ns, hl, hn⟩ := ih (fun n hn => h n (List.mem_cons_of_mem _ hn))
    have hz := h z List.mem_cons_self
    have h0 : 0 ≤ z := by
      have : k.min ≤ z := by
        simp only [Lit.wf, Bool.and_eq_true, decide_eq_true_eq] at hz
        exact hz.1
      omega
    obtain ⟨m, rfl⟩ := Int.eq_ofNat_of_zero_le h0
    exact ⟨m :: ns, by rw [hl]; rfl, by intro n hn'; rcases List.mem_cons.1 hn' with rfl | hn'; exact hz; exact hn n hn'⟩
theorem open_bytes {t e : TypeId} {a : Option Addr} {len cap : Nat} {d : DataW H} {p : List MemPlace} (ht : P.underlying t = some (.slice e)) (he : P.underlying e = some (.int .u8)) (hc : P.cellsOf e = 1)
    (h : DataW.Trod enc P W base sp hd t (.slice a len cap) d p) : ∃ l : List UInt8, l.length = len ∧ len ≤ cap ∧ cap ≤ maxLen ∧ Row W a (bvs l) := by
  obtain ⟨fuel, hf⟩ := h
  obtain ⟨a', c', l, hv, hl, hm, hr⟩ := open_bytes_cells ht he hc (show DataW.trod enc P W base sp hd fuel t [.slice a len cap] = some (d, p) from hf)
  injection hv with h1 h2 h3
  subst h1 h2 h3
  exact ⟨l, rfl, hl, hm, hr⟩
theorem open_parts {t e f : TypeId} {a : Option Addr} {len cap : Nat} {d : DataW H} {p : List MemPlace} (ht : P.underlying t = some (.slice e)) (he : P.underlying e = some (.slice f)) (hf : P.underlying f = some (.int .u8)) (hce : P.cellsOf e = 1) (hcf : P.cellsOf f = 1)
    (h : DataW.Trod enc P W base sp hd t (.slice a len cap) d p) : ∃ (vs : List Value) (ls : List (List UInt8)), ls.length = len ∧ len ≤ cap ∧ cap ≤ maxLen ∧ Row W a vs ∧ RBs W vs ls ∧ ∀ l ∈ ls, l.length ≤ maxLen := by
  obtain ⟨fuel, hfu⟩ := h
  rcases open_slice1 ht hce (show DataW.trod enc P W base sp hd fuel t [.slice a len cap] = some (d, p) from hfu) with ⟨hcs, _⟩ | ⟨a', len', cap', m, n, V, D, Pl, hcs, _, hl, hm, hmm, hxx, hx⟩
  · injection hcs with hcs
    injection hcs with h1 h2 h3
    subst h1 h2 h3
    exact ⟨[], [], rfl, Nat.le_refl _, by simp [maxLen], Row.nil _ _, RBs.nil _, by simp⟩
  · injection hcs with hcs
    injection hcs with h1 h2 h3
    subst h1 h2 h3
    have hlm : len ≤ m := by rw [hmm]; split <;> omega
    have each : ∀ i, i < len → ∃ l : List UInt8, RB W (V i) l ∧ l.length ≤ maxLen := by
      intro i hi
      obtain ⟨a2, c2, l, hv, hl2, hm2, hr2⟩ := open_bytes_cells he hf hcf (hx i (by omega)).2
      exact ⟨l, ⟨a2, c2, hv, hl2, hr2⟩, by omega⟩
    have : ∃ ls : List (List UInt8), ls.length = len ∧ ∀ i (h : i < ls.length), RB W (V i) ls[i] ∧ ls[i].length ≤ maxLen := by
      clear hlm hmm hx hl hfu hxx
      induction len with
      | zero => exact ⟨[], rfl, fun i h => absurd h (by simp)⟩
      | succ n ih =>
        obtain ⟨ls, hl, hls⟩ := ih (fun i hi => each i (by omega))
        obtain ⟨l, hl'⟩ := each n (by omega)
        refine ⟨ls ++ [l], by simp [hl], fun i hi => ?_⟩
        by_cases hin : i < ls.length
        · rw [List.getElem_append_left hin]; exact hls i hin
        · have : i = n := by simp at hi; omega
          subst this
          rw [List.getElem_append_right (by omega)]
          simpa [hl] using hl'
    obtain ⟨ls, hll, hls⟩ := this
    refine ⟨(List.range len).map V, ls, hll, hl, hm, fun _ => ⟨a', rfl, fun j u hu => ?_⟩, ⟨by simp [hll], fun i hi hi' => ?_⟩, ?_⟩
    · have hj := (List.getElem?_eq_some_iff.1 hu).1
      simp at hj
      rw [(hx j (by omega)).1]
      rw [← hu]
      simp [hj]
    · simpa using (hls i hi').1
    · intro l hl3
      obtain ⟨i, hi, rfl⟩ := List.getElem_of_mem hl3
      exact (hls i hi).2
end
end Go.Proofs.YtgdkeafdlehlaaaDoor

/- Arguments qs0 they come in, read qs0 abstract values; a contract qs0 a row asks for it. Nothing of the program stands here. -/
namespace Go.Proofs.YtgdkeafdlehlaaaDoor
open Go Go.RowKit Go.Deep Go.ChangeShapes
set_option linter.unusedVariables false
section
variable {H : Type} {enc : TypeId × Value → H} {P : Program} {W : World} {base : Nat} {sp : Nat → Bool} {hd : Bool}
/-- the blocks that were there -/
def Was (W : World) : Nat → Prop := fun b => b < W.heap.size
theorem open_sl {α : Type} (E : Enc α) (good : α → Prop) {t e : TypeId} {a : Option Addr} {len cap : Nat} {d : DataW H} {p : List MemPlace} (ht : P.underlying t = some (.slice e)) (hc : P.cellsOf e = E.size) (h0 : 0 < E.size)
    (hread : ∀ (n : Nat) (cs : List Value) (x : DataW H × List MemPlace), DataW.trod enc P W base sp hd n e cs = some x → ∃ y : α, good y ∧ AV.holdsL (Was W) noγ W (E.cells y) cs ∧ ∀ u ∈ cs, u.oneCell' = true)
    (h : DataW.Trod enc P W base sp hd t (.slice a len cap) d p) : ∃ xs : List α, xs.length = len ∧ len ≤ cap ∧ cap ≤ maxLen ∧ (slF E xs).holds (Was W) W (.slice a len cap) ∧ ∀ x ∈ xs, good x := by
  obtain ⟨fuel, hf⟩ := h
  rcases open_slice ht (show DataW.trod enc P W base sp hd fuel t [.slice a len cap] = some (d, p) from hf) with ⟨hcs, _⟩ | ⟨a', len', cap', m, n, D, Pl, hcs, _, hl, hm, hmm, _, hi⟩
  · injection hcs with hcs
    injection hcs with h1 h2 h3
    subst h1 h2 h3
    exact ⟨[], rfl, Nat.le_refl _, by simp [maxLen], ⟨none, 0, [], rfl, Nat.le_refl _, fun h => absurd rfl h, by simp [Enc.all, AV.holdsL], by simp⟩, by simp⟩
  · injection hcs with hcs
    injection hcs with h1 h2 h3
    subst h1 h2 h3
    have hlm : len ≤ m := by rw [hmm]; split <;> omega
    have key : ∀ k, k ≤ len → ∃ (xs : List α) (vs : List Value), xs.length = k ∧ AV.holdsL (Was W) noγ W (E.all xs) vs ∧ (∀ u ∈ vs, u.oneCell' = true) ∧ (∀ x ∈ xs, good x) ∧ ∀ j u, vs[j]? = some u → W.cell? (a'.add j) = some u := by
      intro k
      induction k with
      | zero => intro _; exact ⟨[], [], rfl, by simp [Enc.all, AV.holdsL], by simp, by simp, by simp⟩
      | succ k ih =>
        intro hk
        obtain ⟨xs, vs, h1, h2, h3, h4, h5⟩ := ih (by omega)
        obtain ⟨cs, hcells, ht'⟩ := hi k (by omega)
        obtain ⟨y, hg, hh, ho⟩ := hread _ _ _ ht'
        obtain ⟨_, hcl, hat⟩ := World.cells?_some hcells
        rw [hc] at hcl hat
        have hvl : vs.length = k * E.size := by rw [AV.holdsL_len h2, Enc.all_len, h1]
        refine ⟨xs ++ [y], vs ++ cs, by simp [h1], by rw [Enc.all_append, Enc.all_one]; exact AV.holdsL_app h2 hh, fun u hu => (List.mem_append.1 hu).elim (h3 u) (ho u), fun x hx => (List.mem_append.1 hx).elim (h4 x) (fun hx => by rw [List.mem_singleton] at hx; subst hx; exact hg), ?_⟩
        intro j u hu
        by_cases hj : j < vs.length
        · rw [List.getElem?_append_left hj] at hu
          exact h5 j u hu
        · rw [List.getElem?_append_right (by omega)] at hu
          have hjl := (List.getElem?_eq_some_iff.1 hu).1
          have := hat (j - vs.length) (by omega)
          rw [addr_add2, ← hvl, show vs.length + (j - vs.length) = j from by omega] at this
          rw [this, hu]
    obtain ⟨xs, vs, h1, h2, h3, h4, h5⟩ := key len (Nat.le_refl _)
    refine ⟨xs, h1, hl, hm, ⟨some a', cap, vs, by rw [h1], by omega, ?_, h2, h3⟩, h4⟩
    intro hne
    refine ⟨a', rfl, ?_, h5⟩
    cases vs with
    | nil => exact absurd rfl hne
    | cons v vs =>
      have := World.block_lt_of_cell? W _ (h5 0 v rfl)
      rwa [addr_block] at this
/-- a struct of fields of one cell -/
theorem read_struct {e : TypeId} {fs : Array Field} {n : Nat} {cs : List Value} {x : DataW H × List MemPlace} (he : P.underlying e = some (.struct fs)) (hone : oneCellFields P fs = true) (hC : P.cellsOf e = fs.size)
    (h : DataW.trod enc P W base sp hd n e cs = some x) : cs.length = fs.size ∧ ∀ (j : Nat) (f : Field), fs[j]? = some f → ∃ v n' y, cs[j]? = some v ∧ DataW.trod enc P W base sp hd n' f.type [v] = some y := by
  obtain ⟨ys, n', _, _, hlen, hyl, hf⟩ := DataW.trod_struct he h
  rw [hC] at hlen
  refine ⟨hlen, fun j f hj => ?_⟩
  obtain ⟨ho, hk⟩ := hone_of hone j f hj
  have hjl : j < fs.size := (Array.getElem?_eq_some_iff.1 hj).1
  have h1 := hf j f hj
  rw [ho, hk, List.drop_eq_getElem_cons (by omega), List.getElem?_eq_getElem (by omega)] at h1
  exact ⟨cs[j]'(by omega), n', _, List.getElem?_eq_getElem (by omega), h1⟩
theorem con_ext {f : FuncId} {args : List AV} (h : Con P f args [] fun a hz => a = .lit (.bool true) ∧ hz = []) {vs : List Value} (hv : AV.holdsL (Was W) noγ W args vs) (ha : ambHolds (Was W) W := by exact trivial) : Calls P f vs.toArray W fun e w' => e = .returned (.bool true) ∧ Ext W w' := by
  refine (h (Was W) noγ W vs (St.nil ⟨fun b h => h, ha⟩ (fun _ => rfl)) hv).mono ?_
  rintro e w' ⟨v, out, Hout, S', γ', rfl, ⟨rfl, rfl⟩, hp⟩
  have hval := hp.val
  simp only [AV.holds] at hval
  subst hval
  exact ⟨rfl, ⟨hp.keep.os, hp.keep.tape, hp.keep.output, hp.keep.size, fun b hb => hp.keep.block b hb (by rintro ⟨j, r, hj, _⟩; simp [look] at hj)⟩⟩
end
end Go.Proofs.YtgdkeafdlehlaaaDoor
