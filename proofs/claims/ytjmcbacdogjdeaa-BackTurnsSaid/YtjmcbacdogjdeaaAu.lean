/- Regions that make new blocks and store into them, in any drawn order, over abstract frames. Nothing of the program stands here. -/
import Derived.Test.YtjmcbacdogjdeaaAs
import Derived.Test.YtjmcbacdogjdeaaAn
namespace Go.Proofs.Ytjmcbacdogjdeaa
open Go Go.RowKit
set_option linter.unusedVariables false
set_option linter.unusedSimpArgs false
set_option maxHeartbeats 2000000
inductive UK where
  | plain (a : AV)
  | alloc (d : Nat) (zs : List Z)
  | store (d : Nat) (cs : List AV)
def UK.av : UK → AV
  | .plain a => a
  | _ => .any
def storeNeeds (l : List Oper) (o : Oper) (t : TypeId) (d : Nat) : Bool := (needs o).any fun j => match l[j]? with
  | some p => match isAlloc p with
    | some q => Nat.beq q.1 t && Nat.beq q.2 d
    | none => false
  | none => false
inductive KOk (P : Program) (T : List (Nat × TI)) (ZT : List (Nat × List Z)) (l : List Oper) (fr : List (Nat × AV)) (H : List (Nat × Res)) (o : Oper) : UK → Prop
  | plain {a : AV} {d : Nat} (hd : o.dst = some d) (hg : o.guard = none) (ha : isAlloc o = none) (h : SOp P o fr H a) (hst : a.still = true) : KOk P T ZT l fr H o (.plain a)
  | alloc {t : TypeId} {d : Nat} {zs : List Z} (ha : isAlloc o = some (t, d)) (hz : look ZT t = some zs) : KOk P T ZT l fr H o (.alloc d zs)
  | store {t : TypeId} {d : Nat} {y : Operand} {a : AV} {cs : List AV} {ti : TI} {zs : List Z} (hg : o.guard = none) (hd : o.dst = none) (ho : o.op = .store t (.tmp d) y) (ht : look T t = some ti) (hn : storeNeeds l o t d = true) (hy : Opv fr y a) (hc : cellsOf a = some cs) (h1 : AV.allOneL cs = true) (hl : Nat.beq cs.length ti.size = true) (hz : look ZT t = some zs) (hb : Nat.ble ti.size zs.length = true) : KOk P T ZT l fr H o (.store d cs)
inductive Evu (P : Program) (T : List (Nat × TI)) (ZT : List (Nat × List Z)) (l : List Oper) (H : List (Nat × Res)) : List Oper → List (Nat × AV) → List UK → Prop
  | nil {fr : List (Nat × AV)} : Evu P T ZT l H [] fr []
  | cons {fr : List (Nat × AV)} {o : Oper} {rest : List Oper} {k : UK} {ks : List UK} (h : KOk P T ZT l fr H o k) (next : Evu P T ZT l H rest (frAfter [o] [k.av] fr) ks) : Evu P T ZT l H (o :: rest) fr (k :: ks)
theorem frAfter_cons (o : Oper) (rest : List Oper) (a : AV) (as : List AV) (fr : List (Nat × AV)) : frAfter (o :: rest) (a :: as) fr = frAfter rest as (frAfter [o] [a] fr) := by
  cases hd : o.dst with
  | none => simp [frAfter, hd]
  | some d => simp [frAfter, hd]
section
variable {P : Program} {c : Ctx} {n : Nat} {Q : AQ} {fr : List (Nat × AV)} {H : List (Nat × Res)} {T : List (Nat × TI)} {ZT : List (Nat × List Z)} {l : List Oper}
theorem Evu.len {m : List Oper} {ks : List UK} (h : Evu P T ZT l H m fr ks) : ks.length = m.length := by
  induction h with
  | nil => rfl
  | cons _ _ ih => simp [ih]
theorem Evu.get {m : List Oper} {ks : List UK} (h : Evu P T ZT l H m fr ks) : ∀ (i : Nat) (o : Oper), m[i]? = some o → ∃ k, ks[i]? = some k ∧ KOk P T ZT l (frAfter (m.take i) ((ks.map UK.av).take i) fr) H o k := by
  induction h with
  | nil => intro i o h; simp at h
  | @cons fr o rest k ks h1 _ ih =>
    intro i o' ho'
    cases i with
    | zero =>
      simp at ho'; subst ho'
      exact ⟨k, rfl, by simpa [frAfter] using h1⟩
    | succ i =>
      obtain ⟨k', h2, h3⟩ := ih i o' (by simpa using ho')
      refine ⟨k', by simpa using h2, ?_⟩
      rw [List.take_succ_cons, List.map_cons, List.take_succ_cons, frAfter_cons]
      exact h3
/-- the judgement that a walk goes by -/
inductive EvU (P : Program) (T : List (Nat × TI)) (ZT : List (Nat × List Z)) (l : List Oper) (H : List (Nat × Res)) : (List (Nat × AV) → List UK → Prop) → List Oper → List (Nat × AV) → Prop
  | nil {K : List (Nat × AV) → List UK → Prop} {fr : List (Nat × AV)} (h : K fr []) : EvU P T ZT l H K [] fr
  | plain {K : List (Nat × AV) → List UK → Prop} {fr : List (Nat × AV)} {o : Oper} {rest : List Oper} {d : Nat} {a : AV} (hd : o.dst = some d) (hg : o.guard = none) (ha : isAlloc o = none) (h : SOp P o fr H a) (next : EvU P T ZT l H (fun f ks => K f (.plain a :: ks)) rest ((d, a) :: fr)) : EvU P T ZT l H K (o :: rest) fr
  | alloc {K : List (Nat × AV) → List UK → Prop} {fr : List (Nat × AV)} {o : Oper} {rest : List Oper} {t : TypeId} {d : Nat} {zs : List Z} (ha : isAlloc o = some (t, d)) (hz : look ZT t = some zs) (next : EvU P T ZT l H (fun f ks => K f (.alloc d zs :: ks)) rest ((d, .any) :: fr)) : EvU P T ZT l H K (o :: rest) fr
  | store {K : List (Nat × AV) → List UK → Prop} {fr : List (Nat × AV)} {o : Oper} {rest : List Oper} {t : TypeId} {d : Nat} {y : Operand} {a : AV} {cs : List AV} {ti : TI} {zs : List Z} (hg : o.guard = none) (hd : o.dst = none) (ho : o.op = .store t (.tmp d) y) (ht : look T t = some ti) (hn : storeNeeds l o t d = true) (hy : Opv fr y a) (hc : cellsOf a = some cs) (h1 : AV.allOneL cs = true) (hl : Nat.beq cs.length ti.size = true) (hz : look ZT t = some zs) (hb : Nat.ble ti.size zs.length = true)
    (next : EvU P T ZT l H (fun f ks => K f (.store d cs :: ks)) rest fr) : EvU P T ZT l H K (o :: rest) fr
def stillK : List UK → Bool
  | [] => true
  | .plain a :: r => a.still && stillK r
  | _ :: r => stillK r
def hasSt (d : Nat) : List UK → Bool
  | [] => false
  | .store e _ :: r => match Nat.beq e d with | true => true | false => hasSt d r
  | _ :: r => hasSt d r
def onceU : List UK → Bool
  | [] => true
  | .store d _ :: r => match hasSt d r with | true => false | false => onceU r
  | _ :: r => onceU r
theorem EvU.ev {K : List (Nat × AV) → List UK → Prop} {m : List Oper} (h : EvU P T ZT l H K m fr) : (∀ f ks, K f ks → stillK ks = true) → ∃ ks, Evu P T ZT l H m fr ks ∧ K (frAfter m (ks.map UK.av) fr) ks := by
  suffices G : ∀ {K : List (Nat × AV) → List UK → Prop} {m : List Oper} {fr : List (Nat × AV)}, EvU P T ZT l H K m fr → ∃ ks, K (frAfter m (ks.map UK.av) fr) ks ∧ (stillK ks = true → Evu P T ZT l H m fr ks) by
    intro hs
    obtain ⟨ks, h1, h2⟩ := G h
    exact ⟨ks, h2 (hs _ _ h1), h1⟩
  intro K m fr h
  induction h with
  | nil h => exact ⟨[], h, fun _ => .nil⟩
  | @plain K fr o rest d a hd hg ha h next ih =>
    obtain ⟨ks, h1, h2⟩ := ih
    refine ⟨.plain a :: ks, by simpa [frAfter, hd, UK.av] using h1, fun hs => ?_⟩
    simp only [stillK, Bool.and_eq_true] at hs
    exact .cons (.plain hd hg ha h hs.1) (by simpa [frAfter, hd, UK.av] using h2 hs.2)
  | @alloc K fr o rest t d zs ha hz next ih =>
    obtain ⟨ks, h1, h2⟩ := ih
    obtain ⟨_, hd, _⟩ := isAlloc_at ha
    refine ⟨.alloc d zs :: ks, by simpa [frAfter, hd, UK.av] using h1, fun hs => ?_⟩
    simp only [stillK] at hs
    exact .cons (.alloc ha hz) (by simpa [frAfter, hd, UK.av] using h2 hs)
  | @store K fr o rest t d y a cs ti zs hg hd ho ht hn hy hc h1' hl hz hb next ih =>
    obtain ⟨ks, h1, h2⟩ := ih
    refine ⟨.store d cs :: ks, by simpa [frAfter, hd, UK.av] using h1, fun hs => ?_⟩
    simp only [stillK] at hs
    exact .cons (.store hg hd ho ht hn hy hc h1' hl hz hb) (by simpa [frAfter, hd, UK.av] using h2 hs)
theorem hasSt_at {d : Nat} {cs : List AV} : ∀ {ks : List UK} {j : Nat}, ks[j]? = some (.store d cs) → hasSt d ks = true
  | [], j, h => by simp at h
  | k :: r, 0, h => by
    simp at h; subst h
    simp [hasSt]
  | k :: r, j + 1, h => by
    have := hasSt_at (ks := r) (j := j) (by simpa using h)
    cases k with
    | store e ds => unfold hasSt; split <;> simp [this]
    | _ => simpa [hasSt] using this
theorem onceU_at {d : Nat} {cs ds : List AV} : ∀ {ks : List UK} {i j : Nat}, onceU ks = true → ks[i]? = some (.store d cs) → ks[j]? = some (.store d ds) → i = j
  | [], i, j, _, h, _ => by simp at h
  | k :: r, 0, 0, _, _, _ => rfl
  | k :: r, 0, j + 1, ho, h, h2 => by
    simp at h; subst h
    have := hasSt_at (ks := r) (j := j) (by simpa using h2)
    simp [onceU, this] at ho
  | k :: r, i + 1, 0, ho, h, h2 => by
    simp at h2; subst h2
    have := hasSt_at (ks := r) (j := i) (by simpa using h)
    simp [onceU, this] at ho
  | k :: r, i + 1, j + 1, ho, h, h2 => by
    have ho' : onceU r = true := by
      cases k with
      | store e es => unfold onceU at ho; split at ho <;> simp_all
      | _ => simpa [onceU] using ho
    have := onceU_at (ks := r) (i := i) (j := j) ho' (by simpa using h) (by simpa using h2)
    omega
/-- what a new block holds at last -/
def contU : List UK → Nat → List AV → List AV
  | [], _, zs => zs
  | .store e cs :: r, d, zs => match Nat.beq e d with | true => setAll zs 0 cs | false => contU r d zs
  | _ :: r, d, zs => contU r d zs
theorem contU_spec (d : Nat) (zs : List AV) : ∀ (ks : List UK), (∃ (j : Nat) (cs : List AV), ks[j]? = some (.store d cs) ∧ contU ks d zs = setAll zs 0 cs) ∨ ((∀ (j : Nat) (cs : List AV), ks[j]? ≠ some (.store d cs)) ∧ contU ks d zs = zs)
  | [] => .inr ⟨by simp, rfl⟩
  | k :: r => by
    have up : contU (k :: r) d zs = contU r d zs → (∀ cs, k ≠ .store d cs) → (∃ (j : Nat) (cs : List AV), (k :: r)[j]? = some (.store d cs) ∧ contU (k :: r) d zs = setAll zs 0 cs) ∨ ((∀ (j : Nat) (cs : List AV), (k :: r)[j]? ≠ some (.store d cs)) ∧ contU (k :: r) d zs = zs) := fun e hk => by
      rcases contU_spec d zs r with ⟨j, cs, h1, h2⟩ | ⟨h1, h2⟩
      · exact .inl ⟨j + 1, cs, by simpa using h1, e.trans h2⟩
      · refine .inr ⟨fun j cs hj => ?_, e.trans h2⟩
        cases j with
        | zero => simp at hj; exact hk cs hj
        | succ j => exact h1 j cs (by simpa using hj)
    cases k with
    | store e cs =>
      cases hb : Nat.beq e d with
      | true => exact .inl ⟨0, cs, by rw [Nat.eq_of_beq_eq_true hb]; rfl, by simp [contU, hb]⟩
      | false => exact up (by simp [contU, hb]) fun cs' he => by injection he with he _; subst he; rw [Nat.beq_refl] at hb; cases hb
    | plain a => exact up rfl fun cs he => by cases he
    | alloc e zs => exact up rfl fun cs he => by cases he
def allocU (all : List UK) : List UK → List (Nat × List AV)
  | [] => []
  | .alloc d zs :: r => (d, contU all d (zAV zs)) :: allocU all r
  | _ :: r => allocU all r
theorem mem_allocU {all : List UK} {p : Nat × List AV} : ∀ {ks : List UK}, p ∈ allocU all ks ↔ ∃ (i : Nat) (zs : List Z), ks[i]? = some (.alloc p.1 zs) ∧ p.2 = contU all p.1 (zAV zs)
  | [] => by simp [allocU]
  | k :: r => by
    have ih := mem_allocU (all := all) (p := p) (ks := r)
    have up : (∀ zs, k ≠ .alloc p.1 zs) → ((∃ (i : Nat) (zs : List Z), (k :: r)[i]? = some (.alloc p.1 zs) ∧ p.2 = contU all p.1 (zAV zs)) ↔ ∃ (i : Nat) (zs : List Z), r[i]? = some (.alloc p.1 zs) ∧ p.2 = contU all p.1 (zAV zs)) := fun hk => by
      constructor
      · rintro ⟨i, zs, h1, h2⟩
        cases i with
        | zero => simp at h1; exact absurd h1 (hk zs)
        | succ i => exact ⟨i, zs, by simpa using h1, h2⟩
      · rintro ⟨i, zs, h1, h2⟩
        exact ⟨i + 1, zs, by simpa using h1, h2⟩
    cases k with
    | alloc d zs =>
      simp only [allocU, List.mem_cons, ih]
      constructor
      · rintro (rfl | ⟨i, ys, h1, h2⟩)
        · exact ⟨0, zs, rfl, rfl⟩
        · exact ⟨i + 1, ys, by simpa using h1, h2⟩
      · rintro ⟨i, ys, h1, h2⟩
        cases i with
        | zero =>
          simp at h1
          obtain ⟨rfl, rfl⟩ := h1
          exact .inl (by rw [← h2])
        | succ i => exact .inr ⟨i, ys, by simpa using h1, h2⟩
    | plain a => rw [up (fun zs he => by cases he)]; exact ih
    | store e cs => rw [up (fun zs he => by cases he)]; exact ih
def uH : List (Nat × List AV) → List (Nat × Res)
  | [] => []
  | p :: r => (p.1 + 1000, .box p.2) :: uH r
def uF : List (Nat × List AV) → List (Nat × AV) → List (Nat × AV)
  | [], fr => fr
  | p :: r, fr => (p.1, .ptr (p.1 + 1000) 0) :: uF r fr
theorem look_uH : ∀ (L : List (Nat × List AV)) (j : Nat) (r : Res), look (uH L) j = some r → ∃ p ∈ L, p.1 + 1000 = j ∧ r = .box p.2
  | [], j, r, h => by simp [uH, look] at h
  | p :: L, j, r, h => by
    unfold uH at h
    rw [look_cons] at h
    split at h
    · rename_i e
      injection h with h
      exact ⟨p, List.mem_cons_self, e, h.symm⟩
    · obtain ⟨q, hq, h2⟩ := look_uH L j r h
      exact ⟨q, List.mem_cons_of_mem _ hq, h2⟩
theorem look_uF : ∀ (L : List (Nat × List AV)) (fr : List (Nat × AV)) (x : Nat) (a : AV), look (uF L fr) x = some a → (∃ p ∈ L, p.1 = x ∧ a = .ptr (x + 1000) 0) ∨ ((∀ p ∈ L, p.1 ≠ x) ∧ look fr x = some a)
  | [], fr, x, a, h => .inr ⟨by simp, h⟩
  | p :: L, fr, x, a, h => by
    unfold uF at h
    rw [look_cons] at h
    split at h
    · rename_i e
      injection h with h
      exact .inl ⟨p, List.mem_cons_self, e, by rw [← h, e]⟩
    · rename_i e
      rcases look_uF L fr x a h with ⟨q, hq, h2⟩ | ⟨h2, h3⟩
      · exact .inl ⟨q, List.mem_cons_of_mem _ hq, h2⟩
      · refine .inr ⟨fun q hq => ?_, h3⟩
        rcases List.mem_cons.1 hq with rfl | hq
        · exact e
        · exact h2 q hq
def usesU (p : Nat → Bool) : List (Nat × List AV) → Bool
  | [] => true
  | q :: r => AV.usesL p q.2 && usesU p r
theorem usesU_at {p : Nat → Bool} : ∀ {L : List (Nat × List AV)}, usesU p L = true → ∀ q ∈ L, AV.usesL p q.2 = true
  | q :: r, h, x, hx => by
    simp only [usesU, Bool.and_eq_true] at h
    rcases List.mem_cons.1 hx with rfl | hx
    · exact h.1
    · exact usesU_at h.2 x hx
def okU (ids : Nat → Bool) (ks : List UK) : Bool := match stillK ks with
  | true => match onceU ks with
    | true => usesU (fun j => !(ids j)) (allocU ks ks)
    | false => false
  | false => false
theorem okU_at {ids : Nat → Bool} {ks : List UK} (h : okU ids ks = true) : stillK ks = true ∧ onceU ks = true ∧ usesU (fun j => !(ids j)) (allocU ks ks) = true := by
  unfold okU at h
  split at h
  · rename_i h1
    split at h
    · rename_i h2; exact ⟨h1, h2, h⟩
    · cases h
  · cases h
def uOk (ops : Array Oper) (n : Nat) : Bool := (List.range ops.size).all fun i => match dstOf ops i with
  | none => true
  | some d => decide (d < n) && (List.range ops.size).all fun j => i == j || dstOf ops j != some d
theorem uOk_at {ops : Array Oper} (hc : uOk ops n = true) {i d : Nat} (hi : dstOf ops i = some d) : d < n ∧ ∀ j, dstOf ops j = some d → i = j := by
  have hsz : ∀ {k e : Nat}, dstOf ops k = some e → k < ops.size := fun {k e} hk => by
    unfold dstOf at hk
    cases ho : ops[k]? with
    | none => simp [ho] at hk
    | some o => exact (Array.getElem?_eq_some_iff.1 ho).1
  have := List.all_eq_true.1 hc i (List.mem_range.2 (hsz hi))
  rw [hi] at this
  simp only [Bool.and_eq_true, decide_eq_true_eq] at this
  refine ⟨this.1, fun j hj => ?_⟩
  have h2 := List.all_eq_true.1 this.2 j (List.mem_range.2 (hsz hj))
  simpa [hj] using h2
theorem St.extS {S : Nat → Prop} {γ : Nat → Value} {w w' : World} (h : St S γ w H) (x : Ext w w') : St S γ w' H := by
  have hw := same_of_ext h.sz x
  refine ⟨fun j r hj => ?_, h.dis, h.live, fun b hb => Nat.lt_of_lt_of_le (h.sz b hb) x.size, h.one⟩
  have hr := h.res j r hj
  exact Res.mono (fun _ h => h) hw (fun _ => true) (fun _ _ => rfl) (by cases r <;> simp [Res.uses, AV.usesL_true]) (fun b hb => x.block b (Res.blk_lt hr hb)) hr
structure UInv (l : List Oper) (ks : List UK) (S : Nat → Prop) (γ : Nat → Value) (tmps : Array Value) (w0 : World) (listed : Array Bool) (a : Act) (w : World) : Prop where
  ext : Ext w0 w
  size : a.tmps.size = tmps.size
  defers : a.defers = []
  out : ∀ t, (∀ i, dstOf l.toArray i ≠ some t) → a.tmps[t]? = tmps[t]?
  closed : Closed l.toArray listed
  plain : ∀ i d av, ks[i]? = some (.plain av) → dstOf l.toArray i = some d → listed.getD i false = true → av.holds S γ w0 (a.tmps.getD d undef)
  alloc : ∀ i d zs, ks[i]? = some (.alloc d zs) → listed.getD i false = true → ∃ b arr t, a.tmps.getD d undef = .pointer (some ⟨b, 0, none⟩) ∧ w0.heap.size ≤ b ∧ w.heap[b]? = some (.cells arr t (0, 0)) ∧ (∀ j cs, ks[j]? = some (.store d cs) → listed.getD j false = true → AV.holdsL S γ w0 (setAll (zAV zs) 0 cs) arr.toList) ∧ ((∀ j cs, ks[j]? = some (.store d cs) → listed.getD j false = false) → AV.holdsL S γ w0 (zAV zs) arr.toList)
  pairs : ∀ i j d e zs ys b, ks[i]? = some (.alloc d zs) → ks[j]? = some (.alloc e ys) → i ≠ j → listed.getD i false = true → listed.getD j false = true → a.tmps.getD d undef = .pointer (some ⟨b, 0, none⟩) → a.tmps.getD e undef ≠ .pointer (some ⟨b, 0, none⟩)
theorem keep_ext {b0 : Nat} {w0 w w' : World} (x : Ext w0 w) (k : Keep (fun b => b = b0) w w') (h : w0.heap.size ≤ b0) : Ext w0 w' :=
  ((Keep.of_ext (L := fun _ => False) x).trans k (fun b e => .inr (by omega))).ext
theorem a_region_U {id : Nat} (hm : P.follows .mixedOrders = true) (hb : backB l.toArray = true) (hc : uOk l.toArray n = true) (hdep : depsOk l.toArray = true) (hT : TTOk P T) (hZ : ZOk P ZT) (hu : usesH (idsM (allocD l)) (dropH (idsM (allocD l)) H) = true)
    (ev : EvU P T ZT l H (fun fr' ks => True ∧ okU (idsM (allocD l)) ks = true ∧ Q .normal (uF (allocU ks ks) (markF (idsM (allocD l)) fr')) (uH (allocU ks ks) ++ dropH (idsM (allocD l)) H)) l fr) : ACode P c n (.region id l.toArray true) Q fr H := fun S γ tmps w0 hr => by
  obtain ⟨ks, h1, _, hok, h2⟩ := ev.ev (fun f ks h => (okU_at h.2.1).1)
  obtain ⟨hst, honce, hus⟩ := okU_at hok
  have hlen := h1.len
  have hdst : ∀ {i : Nat} {o : Oper}, l[i]? = some o → dstOf l.toArray i = o.dst := fun ho => by unfold dstOf; simp [ho]
  have hdo : ∀ {i d : Nat}, dstOf l.toArray i = some d → ∃ o, l[i]? = some o ∧ o.dst = some d := fun {i d} h => by
    unfold dstOf at h
    cases ho : l[i]? with
    | none => simp [ho] at h
    | some o => exact ⟨o, rfl, by simpa [ho] using h⟩
  have hn := hr.size
  -- the kind of an operation
  have hk : ∀ {i : Nat} {k : UK}, ks[i]? = some k → ∃ o, l[i]? = some o ∧ KOk P T ZT l (frAfter (l.take i) ((ks.map UK.av).take i) fr) H o k := fun {i k} h => by
    have hlt : i < l.length := by have := (List.getElem?_eq_some_iff.1 h).1; omega
    obtain ⟨k', h3, h4⟩ := h1.get i l[i] (List.getElem?_eq_getElem hlt)
    rw [h] at h3; injection h3 with h3; subst h3
    exact ⟨_, List.getElem?_eq_getElem hlt, h4⟩
  have hka : ∀ {i d : Nat} {zs : List Z}, ks[i]? = some (.alloc d zs) → dstOf l.toArray i = some d ∧ ∃ o t, l[i]? = some o ∧ isAlloc o = some (t, d) ∧ look ZT t = some zs := fun {i d zs} h => by
    obtain ⟨o, ho, h3⟩ := hk h
    cases h3 with
    | alloc ha hz => exact ⟨(hdst ho).trans (isAlloc_at ha).2.1, o, _, ho, ha, hz⟩
  have hks : ∀ {j d : Nat} {cs : List AV}, ks[j]? = some (.store d cs) → dstOf l.toArray j = none ∧ ∃ o t i zs p, l[j]? = some o ∧ i ∈ needs o ∧ l[i]? = some p ∧ isAlloc p = some (t, d) ∧ ks[i]? = some (.alloc d zs) ∧ look ZT t = some zs := fun {j d cs} h => by
    obtain ⟨o, ho, h3⟩ := hk h
    cases h3 with
    | @store t _ y a _ ti zs hg hd hop ht hn hy hc h1' hl hz hb =>
      refine ⟨(hdst ho).trans hd, ?_⟩
      unfold storeNeeds at hn
      rw [List.any_eq_true] at hn
      obtain ⟨i, hi, hi2⟩ := hn
      cases hp : l[i]? with
      | none => rw [hp] at hi2; cases hi2
      | some p =>
        rw [hp] at hi2
        simp only at hi2
        cases hq : isAlloc p with
        | none => rw [hq] at hi2; cases hi2
        | some q =>
          rw [hq] at hi2
          simp only [Bool.and_eq_true] at hi2
          have e1 := Nat.eq_of_beq_eq_true hi2.1
          have e2 := Nat.eq_of_beq_eq_true hi2.2
          obtain ⟨t', d'⟩ := q
          simp only at e1 e2
          subst e1; subst e2
          obtain ⟨k', h4, h5⟩ := h1.get i p hp
          cases h5 with
          | plain _ _ ha => rw [ha] at hq; cases hq
          | alloc ha hz' =>
            rw [ha] at hq
            injection hq with hq
            injection hq with q1 q2
            subst q1; subst q2
            exact ⟨o, _, i, _, p, ho, hi, hp, ha, h4, hz'⟩
          | store _ hd' =>
            have := (isAlloc_at hq).2.1
            rw [hd'] at this; cases this
  have hlook : ∀ (i : Nat) {j : Nat} {x : Tmp}, dstOf l.toArray j = some x → j < i → look (frAfter (l.take i) ((ks.map UK.av).take i) fr) x = (ks.map UK.av)[j]? := by
    intro i j x hj hji
    obtain ⟨o, ho, hd⟩ := hdo hj
    rw [frAfter_in (l.take i) ((ks.map UK.av).take i) fr j o (by rw [List.getElem?_take, if_pos hji]; exact ho) hd ?_ (by simp [hlen])]
    · rw [List.getElem?_take, if_pos hji]
    · intro k o' hk' hd'
      rw [List.getElem?_take] at hk'
      split at hk'
      · exact ((uOk_at hc ((hdst hk').trans hd')).2 j ((hdst ho).trans hd))
      · cases hk'
  have houtl : ∀ {x : Tmp}, outside l.toArray x = true → ∀ i, dstOf l.toArray i ≠ some x := by
    intro x hx i hi
    obtain ⟨o, ho, hd⟩ := hdo hi
    unfold outside at hx
    have := Array.all_eq_true'.1 hx o (by simpa using List.mem_of_getElem? ho)
    simp [hd] at this
  have hout : ∀ (i : Nat) {x : Tmp}, (∀ i, dstOf l.toArray i ≠ some x) → look (frAfter (l.take i) ((ks.map UK.av).take i) fr) x = look fr x := by
    intro i x hx
    apply frAfter_out
    intro o ho he
    obtain ⟨k, hk'⟩ := List.getElem?_of_mem (List.mem_of_mem_take ho)
    exact hx k ((hdst hk').trans he)
  have hS0 : ∀ {w : World}, Ext w0 w → Same S w w0 := fun x b hb => (x.block b (hr.st.sz b hb)).symm
  have hset : ∀ {listed : Array Bool} {i : Nat}, i < listed.size → ∀ j, (listed.setIfInBounds i true).getD j false = if j = i then true else listed.getD j false := by
    intro listed i hlt j
    simp only [Array.getD_eq_getD_getElem?, Array.getElem?_setIfInBounds]
    by_cases hji : i = j
    · subst hji; rw [if_pos rfl, if_pos hlt]; simp
    · rw [if_neg hji, if_neg (by omega)]
  refine region_inv (Inv := UInv l ks S γ tmps w0) hm hb ?_ ?_ ?_
  · have hf : ∀ i, (Array.replicate l.toArray.size false).getD i false = false := fun i => by
      simp only [Array.getD_eq_getD_getElem?, Array.getElem?_replicate]
      split <;> rfl
    refine ⟨⟨rfl, rfl, rfl, Nat.le_refl _, fun _ _ => rfl⟩, rfl, rfl, fun _ _ => rfl, ?_, ?_, ?_, ?_⟩
    · intro j o ho hj; rw [hf] at hj; cases hj
    · intro i d av _ _ hj; rw [hf] at hj; cases hj
    · intro i d zs _ hj; rw [hf] at hj; cases hj
    · intro i j d e zs ys b _ _ _ hj; rw [hf] at hj; cases hj
  · intro i o listed a w hs ho hl hneed h
    have hol : l[i]? = some o := by simpa using ho
    have hlt : i < listed.size := by rw [hs]; exact (Array.getElem?_eq_some_iff.1 ho).1
    obtain ⟨k, hki, hko⟩ := h1.get i o hol
    have hcl : Closed l.toArray (listed.setIfInBounds i true) := by
      intro j o' ho' hj k hk'
      rw [hset hlt]
      split
      · rfl
      · rw [hset hlt] at hj
        by_cases hji : j = i
        · subst hji
          rw [ho] at ho'
          injection ho' with ho'
          subst ho'
          exact hneed k hk'
        · rw [if_neg hji] at hj
          exact h.closed j o' ho' hj k hk'
    have hdo' : (o.op.operands.toList.all fun | .tmp t => outside l.toArray t || (needs o).any fun j => dstOf l.toArray j == some t | _ => true) = true := by
      unfold depsOk at hdep
      rw [List.all_eq_true] at hdep
      have := hdep o (by simpa using List.mem_of_getElem? hol)
      simp only [Bool.and_eq_true] at this
      exact this.1
    have henv : Env (frAfter (l.take i) ((ks.map UK.av).take i) fr) H (fun x => x ∈ o.op.operands) a.eval S γ w := by
      refine ⟨hr.st.extS h.ext, ?_, fun _ => rfl, fun _ => rfl, fun _ => rfl⟩
      intro x av hux hlx
      have hto : Same S w0 w := same_of_ext hr.st.sz h.ext
      rw [List.all_eq_true] at hdo'
      have := hdo' (.tmp x) (by simpa using hux)
      simp only [Bool.or_eq_true] at this
      rcases this with ho' | ho'
      · have hx := houtl ho'
        rw [hout i hx] at hlx
        have e := h.out x hx
        have := AV.ext (fun _ h => h) hto (hr.fr x av hlx)
        simpa only [Act.eval, Array.getD_eq_getD_getElem?, e] using this
      · rw [List.any_eq_true] at ho'
        obtain ⟨j, hj, hjd⟩ := ho'
        have hjd : dstOf l.toArray j = some x := by simpa using hjd
        have hji := backB_at hb ho j (by simpa using hj)
        rw [hlook i hjd hji, List.getElem?_map] at hlx
        obtain ⟨p, hp, hpd⟩ := hdo hjd
        obtain ⟨k', hk', hko'⟩ := h1.get j p hp
        rw [hk'] at hlx
        simp only [Option.map_some, Option.some.injEq] at hlx
        subst hlx
        cases k' with
        | plain av => exact AV.ext (fun _ h => h) hto (h.plain j x av hk' hjd (hneed j (by simpa using hj)))
        | alloc d zs => simp [UK.av, AV.holds]
        | store d cs => simp [UK.av, AV.holds]
    unfold wpOp
    simp only [ho]
    cases hko with
    | @plain av d hd hg ha hsop hst1 =>
      rw [if_pos (by simp [Region.wanted, hg])]
      refine .inl (Outcome.upon ((hsop S γ w a.eval henv).mono ?_))
      rintro v w' ⟨x, hv⟩
      have hst2 : av.still = true := hst1
      have hv0 : av.holds S γ w0 v := AV.still_any (fun _ => true) (fun _ _ => rfl) av v hst2 (AV.uses_true av) hv
      have hdi := (hdst hol).trans hd
      obtain ⟨hdn, huq⟩ := uOk_at hc hdi
      have hdt : d < a.tmps.size := by rw [h.size, hn]; exact hdn
      have hput : a.put o.dst v = { a with tmps := a.tmps.setIfInBounds d v } := by rw [hd]; rfl
      rw [hput]
      have hoth : ∀ {j e : Nat}, j ≠ i → dstOf l.toArray j = some e → d ≠ e := fun hj he e => hj (huq _ (by rw [e]; exact he)).symm
      refine ⟨h.ext.trans x, by simpa using h.size, h.defers, ?_, hcl, ?_, ?_, ?_⟩
      · intro t ht
        have hne : d ≠ t := fun e => ht i (by rw [← e]; exact hdi)
        simp only [Array.getElem?_setIfInBounds, if_neg hne]
        exact h.out t ht
      · intro j e bv hj hje hlj
        rw [getD_set hdt]
        by_cases hji : j = i
        · subst hji
          rw [hki] at hj
          injection hj with hj; injection hj with hj; subst hj
          rw [hdi] at hje; injection hje with hje; subst hje
          rw [if_pos rfl]; exact hv0
        · rw [if_neg (hoth hji hje)]
          rw [hset hlt, if_neg hji] at hlj
          exact h.plain j e bv hj hje hlj
      · intro j e zs hj hlj
        have hji : j ≠ i := fun e => by subst e; rw [hki] at hj; cases hj
        have hne := hoth hji (hka hj).1
        rw [hset hlt, if_neg hji] at hlj
        obtain ⟨b, arr, t, p1, p2, p3, p4, p5⟩ := h.alloc j e zs hj hlj
        refine ⟨b, arr, t, by rw [getD_set hdt, if_neg hne]; exact p1, p2, ?_, ?_, ?_⟩
        · rw [x.block b (Array.getElem?_eq_some_iff.1 p3).1]; exact p3
        · intro m cs hm' hlm
          have hmi : m ≠ i := fun e => by subst e; rw [hki] at hm'; cases hm'
          rw [hset hlt, if_neg hmi] at hlm
          exact p4 m cs hm' hlm
        · intro hall
          refine p5 fun m cs hm' => ?_
          have := hall m cs hm'
          have hmi : m ≠ i := fun e => by subst e; rw [hki] at hm'; cases hm'
          rwa [hset hlt, if_neg hmi] at this
      · intro i1 j1 d1 e1 zs ys b hi1 hj1 hne hl1 hl2
        have hi : i1 ≠ i := fun e => by subst e; rw [hki] at hi1; cases hi1
        have hj : j1 ≠ i := fun e => by subst e; rw [hki] at hj1; cases hj1
        rw [hset hlt, if_neg hi] at hl1
        rw [hset hlt, if_neg hj] at hl2
        rw [getD_set hdt, if_neg (hoth hi (hka hi1).1), getD_set hdt, if_neg (hoth hj (hka hj1).1)]
        exact h.pairs i1 j1 d1 e1 zs ys b hi1 hj1 hne hl1 hl2
    | @alloc t d zs ha hz =>
      obtain ⟨hop, hd, hg⟩ := isAlloc_at ha
      rw [if_pos (by simp [Region.wanted, hg])]
      obtain ⟨zi, z, hi', hiz, hzc⟩ := hZ.zero hz
      have hdi := (hdst hol).trans hd
      obtain ⟨hdn, huq⟩ := uOk_at hc hdi
      have hdt : d < a.tmps.size := by rw [h.size, hn]; exact hdn
      refine .inl (Outcome.upon (outc (v := .pointer (some ⟨w.heap.size, 0, none⟩)) (w' := w.alloc (.cells z.cells t)) ?_ ?_))
      · simp [execOp, hop, Instr.alloc, zeroValue, typeInfo, hi', hiz, newVar, newRow]
      have hnew := heap_alloc_new w (.cells z.cells t)
      have x : Ext w (w.alloc (.cells z.cells t)) := Ext.alloc w _
      have hput : ∀ v, a.put o.dst v = { a with tmps := a.tmps.setIfInBounds d v } := fun v => by rw [hd]; rfl
      rw [hput]
      have hoth : ∀ {j e : Nat}, j ≠ i → dstOf l.toArray j = some e → d ≠ e := fun hj he e => hj (huq _ (by rw [e]; exact he)).symm
      refine ⟨h.ext.trans x, by simpa using h.size, h.defers, ?_, hcl, ?_, ?_, ?_⟩
      · intro t ht
        have hne : d ≠ t := fun e => ht i (by rw [← e]; exact hdi)
        simp only [Array.getElem?_setIfInBounds, if_neg hne]
        exact h.out t ht
      · intro j e bv hj hje hlj
        rw [getD_set hdt]
        have hji : j ≠ i := fun e => by subst e; rw [hki] at hj; cases hj
        rw [if_neg (hoth hji hje)]
        rw [hset hlt, if_neg hji] at hlj
        exact h.plain j e bv hj hje hlj
      · intro j e ys hj hlj
        by_cases hji : j = i
        · subst hji
          rw [hki] at hj
          injection hj with hj; injection hj with hj1 hj2; subst hj1; subst hj2
          refine ⟨w.heap.size, z.cells, t, by rw [getD_set hdt, if_pos rfl], h.ext.size, hnew, ?_, ?_⟩
          · intro m cs hm' hlm
            exfalso
            have hmi : m ≠ j := fun e => by subst e; rw [hki] at hm'; cases hm'
            rw [hset hlt, if_neg hmi] at hlm
            obtain ⟨_, om, _, i2, _, p2, hom, hi2, hp2, hap, hk2, _⟩ := hks hm'
            have := h.closed m om (by simpa using hom) hlm i2 hi2
            have e2 : i2 = j := ((huq i2 (hka hk2).1)).symm
            rw [e2, hl] at this; cases this
          · intro _; rw [hzc]; exact zAV_holds zs
        · have hne := hoth hji (hka hj).1
          rw [hset hlt, if_neg hji] at hlj
          obtain ⟨b, arr, t2, p1, p2, p3, p4, p5⟩ := h.alloc j e ys hj hlj
          refine ⟨b, arr, t2, by rw [getD_set hdt, if_neg hne]; exact p1, p2, ?_, ?_, ?_⟩
          · rw [x.block b (Array.getElem?_eq_some_iff.1 p3).1]; exact p3
          · intro m cs hm' hlm
            have hmi : m ≠ i := fun e => by subst e; rw [hki] at hm'; cases hm'
            rw [hset hlt, if_neg hmi] at hlm
            exact p4 m cs hm' hlm
          · intro hall
            refine p5 fun m cs hm' => ?_
            have := hall m cs hm'
            have hmi : m ≠ i := fun e => by subst e; rw [hki] at hm'; cases hm'
            rwa [hset hlt, if_neg hmi] at this
      · have low : ∀ {j e : Nat} {ys : List Z} {b : Nat}, ks[j]? = some (.alloc e ys) → j ≠ i → listed.getD j false = true → a.tmps.getD e undef = .pointer (some ⟨b, 0, none⟩) → b < w.heap.size := fun {j e ys b} hj hji hlj hv => by
          obtain ⟨b2, arr, t2, p1, p2, p3, _⟩ := h.alloc j e ys hj hlj
          rw [p1] at hv
          injection hv with hv; injection hv with hv; injection hv with hv
          subst hv
          exact (Array.getElem?_eq_some_iff.1 p3).1
        intro i1 j1 d1 e1 zs1 ys1 b hi1 hj1 hne hl1 hl2
        rw [hset hlt] at hl1 hl2
        rw [getD_set hdt, getD_set hdt]
        by_cases hi : i1 = i
        · subst hi
          rw [hki] at hi1
          injection hi1 with hi1; injection hi1 with hi1 _; subst hi1
          rw [if_pos rfl, if_neg (hoth (Ne.symm hne) (hka hj1).1)]
          rw [if_neg (Ne.symm hne)] at hl2
          intro hv he
          injection hv with hv; injection hv with hv; injection hv with hv
          have := low hj1 (Ne.symm hne) hl2 he
          omega
        · rw [if_neg (hoth hi (hka hi1).1)]
          rw [if_neg hi] at hl1
          by_cases hj : j1 = i
          · subst hj
            rw [hki] at hj1
            injection hj1 with hj1; injection hj1 with hj1 _; subst hj1
            rw [if_pos rfl]
            intro hv he
            injection he with he; injection he with he; injection he with he
            have := low hi1 hi hl1 hv
            omega
          · rw [if_neg (hoth hj (hka hj1).1)]
            rw [if_neg hj] at hl2
            exact h.pairs i1 j1 d1 e1 zs1 ys1 b hi1 hj1 hne hl1 hl2
    | @store t d y av cs ti zs hg hd hop ht hneeds hy hcs h1' hlc hz hzb =>
      rw [if_pos (by simp [Region.wanted, hg])]
      obtain ⟨hdn0, o2, t2, i2, zs2, p2, ho2, hi2, hp2, hap, hk2, hz2⟩ := hks hki
      rw [hol] at ho2; injection ho2 with ho2; subst ho2
      have hl2 := hneed i2 hi2
      obtain ⟨b, arr, t3, q1, q2, q3, q4, q5⟩ := h.alloc i2 d zs2 hk2 hl2
      have hno : ∀ j cs', ks[j]? = some (.store d cs') → listed.getD j false = false := fun j cs' hj => by
        rw [onceU_at honce hj hki]; exact hl
      have hzero := q5 hno
      have hyv := henv.get hy (by rw [hop]; simp [Op.operands])
      have hcv := cellsOf_holds hr.st.one hcs hyv
      have hlv := AV.holdsL_len hcv
      have hl' : cs.length = ti.size := Nat.eq_of_beq_eq_true hlc
      have hlz := AV.holdsL_len hzero
      have hzz : ti.size ≤ zs2.length := by
        have hzb' := Nat.le_of_ble_eq_true hzb
        -- the type of the alloc is that of the store
        have : zs2 = zs := by
          unfold storeNeeds at hneeds
          rw [List.any_eq_true] at hneeds
          obtain ⟨i3, hi3, hi4⟩ := hneeds
          cases hp : l[i3]? with
          | none => rw [hp] at hi4; cases hi4
          | some p =>
            rw [hp] at hi4
            simp only at hi4
            cases hq : isAlloc p with
            | none => rw [hq] at hi4; cases hi4
            | some q =>
              rw [hq] at hi4
              simp only [Bool.and_eq_true] at hi4
              have e1 := Nat.eq_of_beq_eq_true hi4.1
              have e2 := Nat.eq_of_beq_eq_true hi4.2
              have d3 : dstOf l.toArray i3 = some d := (hdst hp).trans (by rw [(isAlloc_at (t := q.1) (d := q.2) hq).2.1, e2])
              have e3 := (uOk_at hc (hka hk2).1).2 i3 d3
              subst e3
              rw [hp2] at hp; injection hp with hp; subst hp
              rw [hap] at hq; injection hq with hq; subst hq
              simp only at e1; subst e1
              rw [hz2] at hz; injection hz
        rw [this]; exact hzb'
      have hsz2 : (zAV zs2).length = zs2.length := by simp [zAV]
      obtain ⟨w', s2, s3, s4, s5⟩ := storeCells_run (P := P) (off := 0) (Act.eval a y).cells.toList 0 arr w q3 (allOne_of (hγ := hr.st.one) h1' hcv) (by
        simp only [Array.length_toList] at hlz hlv ⊢; omega)
      have hrun : (execOp a.eval o).run P w = .ok .skip w' := by
        have hsz : (Act.eval a y).cells.size = ti.size := by
          rw [← Array.length_toList, hlv, hl']
        have hxv : Act.eval a (.tmp d) = .pointer (some ⟨b, 0, none⟩) := q1
        simp only [execOp, hop, Instr.storeAt, hxv, Instr.sureAddr, storeVar, Sem.run_bind, Sem.run_pure, Result.andThen_ok, hT.size ht, hsz, ne_eq, not_true_eq_false, if_false, s2]
      refine .inl (Outcome.upon ?_)
      rw [hrun]
      show UInv l ks S γ tmps w0 (listed.setIfInBounds i true) (a.put o.dst undef) w'
      have hput : a.put o.dst undef = a := by rw [hd]; rfl
      rw [hput]
      have hext := keep_ext h.ext s3 q2
      have hnew : AV.holdsL S γ w0 (setAll (zAV zs2) 0 cs) (setAll arr.toList (0 + 0) (Act.eval a y).cells.toList) :=
        holdsL_setAll 0 (AV.extL (fun _ h => h) (hS0 h.ext) hcv) hzero
      refine ⟨hext, h.size, h.defers, h.out, hcl, ?_, ?_, ?_⟩
      · intro j e bv hj hje hlj
        have hji : j ≠ i := fun e => by subst e; rw [hki] at hj; cases hj
        rw [hset hlt, if_neg hji] at hlj
        exact h.plain j e bv hj hje hlj
      · intro j e ys hj hlj
        have hji : j ≠ i := fun e => by subst e; rw [hki] at hj; cases hj
        rw [hset hlt, if_neg hji] at hlj
        by_cases hj2 : j = i2
        · subst hj2
          rw [hk2] at hj
          injection hj with hj; injection hj with hj1 hj2; subst hj1; subst hj2
          refine ⟨b, _, t3, q1, q2, s4, ?_, ?_⟩
          · intro m cs' hm' _
            have := onceU_at honce hm' hki
            subst this
            rw [hki] at hm'
            injection hm' with hm'; injection hm' with _ hm'; subst hm'
            exact hnew
          · intro hall
            have := hall i cs hki
            rw [hset hlt, if_pos rfl] at this
            cases this
        · obtain ⟨b2, arr2, t4, p1, p2', p3, p4, p5⟩ := h.alloc j e ys hj hlj
          have hbb : b2 ≠ b := fun e => by
            subst e
            exact h.pairs i2 j _ _ _ _ b2 hk2 hj (Ne.symm hj2) hl2 hlj q1 p1
          have hed : e ≠ d := fun e => by
            subst e
            have := (uOk_at hc (hka hj).1).2 i2 (hka hk2).1
            exact hj2 this
          refine ⟨b2, arr2, t4, p1, p2', ?_, ?_, ?_⟩
          · rw [s3.block b2 (Array.getElem?_eq_some_iff.1 p3).1 hbb]; exact p3
          · intro m cs' hm' hlm
            have hmi : m ≠ i := fun e2 => by
              subst e2; rw [hki] at hm'; injection hm' with hm'; injection hm' with hm' _; exact hed hm'.symm
            rw [hset hlt, if_neg hmi] at hlm
            exact p4 m cs' hm' hlm
          · intro hall
            refine p5 fun m cs' hm' => ?_
            have := hall m cs' hm'
            have hmi : m ≠ i := fun e2 => by
              subst e2; rw [hki] at hm'; injection hm' with hm'; injection hm' with hm' _; exact hed hm'.symm
            rwa [hset hlt, if_neg hmi] at this
      · intro i1 j1 d1 e1 zs1 ys1 b1 hi1 hj1 hne hl1 hl2'
        have hi : i1 ≠ i := fun e => by subst e; rw [hki] at hi1; cases hi1
        have hj : j1 ≠ i := fun e => by subst e; rw [hki] at hj1; cases hj1
        rw [hset hlt, if_neg hi] at hl1
        rw [hset hlt, if_neg hj] at hl2'
        exact h.pairs i1 j1 d1 e1 zs1 ys1 b1 hi1 hj1 hne hl1 hl2'
  · rintro listed ⟨tm, df⟩ w hall h
    have hdf : df = [] := h.defers
    subst hdf
    have hlist : ∀ {i : Nat} {k : UK}, ks[i]? = some k → listed.getD i false = true := fun {i k} hi => hall i (by have := (List.getElem?_eq_some_iff.1 hi).1; simpa [hlen] using this)
    have hnew : ∀ p ∈ allocU ks ks, ∃ (i : Nat) (zs : List Z) (b : Nat) (arr : Array Value) (t : TypeId), ks[i]? = some (.alloc p.1 zs) ∧ tm.getD p.1 undef = .pointer (some ⟨b, 0, none⟩) ∧ w0.heap.size ≤ b ∧ b < w.heap.size ∧ w.heap[b]? = some (.cells arr t (0, 0)) ∧ AV.holdsL S γ w0 p.2 arr.toList := by
      intro p hp
      obtain ⟨i, zs, hi, hpe⟩ := mem_allocU.1 hp
      obtain ⟨b, arr, t, p1, p2, p3, p4, p5⟩ := h.alloc i p.1 zs hi (hlist hi)
      refine ⟨i, zs, b, arr, t, hi, p1, p2, (Array.getElem?_eq_some_iff.1 p3).1, p3, ?_⟩
      rw [hpe]
      rcases contU_spec p.1 (zAV zs) ks with ⟨j, cs, h3, h4⟩ | ⟨h3, h4⟩
      · rw [h4]; exact p4 j cs h3 (hlist h3)
      · rw [h4]; exact p5 fun j cs hj => absurd hj (h3 j cs)
    have hids : ∀ j, idsM (allocD l) j = true → ∃ p ∈ allocU ks ks, p.1 + 1000 = j := fun j hj => by
      obtain ⟨q, hq, hqj⟩ := (idsM_iff _ _).1 hj
      obtain ⟨i, o, ho, ha⟩ := allocD_mem l q hq
      obtain ⟨k, hki, hko⟩ := h1.get i o ho
      cases hko with
      | plain _ _ ha' => rw [ha'] at ha; cases ha
      | @alloc t d zs ha' hz =>
        rw [ha'] at ha; injection ha with ha; subst ha
        exact ⟨(d, contU ks d (zAV zs)), mem_allocU.2 ⟨i, zs, hki, rfl⟩, hqj⟩
      | store _ hd' =>
        have := (isAlloc_at (t := q.1) (d := q.2) ha).2.1
        rw [hd'] at this; cases this
    have hids2 : ∀ p ∈ allocU ks ks, idsM (allocD l) (p.1 + 1000) = true := fun p hp => by
      obtain ⟨i, zs, hi, _⟩ := mem_allocU.1 hp
      obtain ⟨_, o, t, ho, ha, _⟩ := hka hi
      exact (idsM_iff _ _).2 ⟨(t, p.1), mem_allocD l i _ (by rw [ho]; exact ha), rfl⟩
    let γ' : Nat → Value := fun j => match idsM (allocD l) j with | true => tm.getD (j - 1000) undef | false => γ j
    have hγn : ∀ p ∈ allocU ks ks, γ' (p.1 + 1000) = tm.getD p.1 undef := fun p hp => by
      show (match idsM (allocD l) (p.1 + 1000) with | true => tm.getD (p.1 + 1000 - 1000) undef | false => γ (p.1 + 1000)) = _
      rw [hids2 p hp, Nat.add_sub_cancel]
    have hγo : ∀ j, idsM (allocD l) j = false → γ' j = γ j := fun j hj => by
      show (match idsM (allocD l) j with | true => tm.getD (j - 1000) undef | false => γ j) = _
      rw [hj]
    have hto : Same S w0 w := same_of_ext hr.st.sz h.ext
    have hst' : St S γ' w (uH (allocU ks ks)) := by
      refine ⟨?_, ?_, ?_, ?_, ?_⟩
      · intro j r hj
        obtain ⟨p, hp, rfl, rfl⟩ := look_uH _ j r hj
        obtain ⟨i, zs, b, arr, t, _, hv, _, _, hh, ha⟩ := hnew p hp
        rw [hγn p hp, hv]
        exact ⟨b, arr, t, rfl, hh, AV.monoL (fun _ h => h) hto (fun j => !(idsM (allocD l) j)) (fun j hj => hγo j (by simpa using hj)) _ _ (usesU_at hus p hp) ha⟩
      · intro j1 j2 r1 r2 b hj1 hj2 hb1 hb2
        obtain ⟨p, hp, rfl, rfl⟩ := look_uH _ j1 r1 hj1
        obtain ⟨q, hq, rfl, rfl⟩ := look_uH _ j2 r2 hj2
        obtain ⟨i, zs, b1, _, _, hi1, hv, _⟩ := hnew p hp
        obtain ⟨k, ys, b2, _, _, hk1, hw, _⟩ := hnew q hq
        rw [hγn p hp, hv] at hb1
        rw [hγn q hq, hw] at hb2
        simp [rblk] at hb1 hb2
        subst hb1
        by_cases hik : i = k
        · subst hik
          rw [hi1] at hk1
          injection hk1 with hk1
          injection hk1 with hk1
          rw [hk1]
        · exact absurd (by rw [hw, hb2]) (h.pairs i k _ _ _ _ b1 hi1 hk1 hik (hlist hi1) (hlist hk1) hv)
      · intro j r b hj hb hS
        obtain ⟨p, hp, rfl, rfl⟩ := look_uH _ j r hj
        obtain ⟨i, zs, b1, _, _, _, hv, hb0, _⟩ := hnew p hp
        rw [hγn p hp, hv] at hb
        simp [rblk] at hb
        subst hb
        have := hr.st.sz _ hS
        omega
      · intro b hS
        exact Nat.lt_of_lt_of_le (hr.st.sz b hS) h.ext.size
      · intro j
        cases hj : idsM (allocD l) j with
        | false => rw [hγo j hj]; exact hr.st.one j
        | true =>
          obtain ⟨p, hp, rfl⟩ := hids j hj
          obtain ⟨i, zs, b1, _, _, _, hv, _⟩ := hnew p hp
          rw [hγn p hp, hv]; rfl
    have he := hr.eff (idsM (allocD l)) (idsM (allocD l)) (w' := w) (S' := S) (γ' := γ') (Hn := uH (allocU ks ks)) (fun _ h => h) (Keep.of_ext h.ext) (fun _ h => h) (fun _ h => .inl h) hst'
      (fun j r b hj hb => by
        obtain ⟨p, hp, rfl, rfl⟩ := look_uH _ j r hj
        obtain ⟨i, zs, b1, _, _, _, hv, hb0, _⟩ := hnew p hp
        rw [hγn p hp, hv] at hb
        simp [rblk] at hb
        subst hb
        exact .inl hb0)
      (fun j r hj => by
        obtain ⟨p, hp, rfl, rfl⟩ := look_uH _ j r hj
        exact hids2 p hp)
      hγo (fun j hj => by
        cases h : idsM (allocD l) j with
        | false => rfl
        | true =>
          obtain ⟨p, hp, rfl⟩ := hids j h
          have := c.lt _ hj
          omega) hu
    refine ⟨_, _, S, γ', h2, ⟨he.st, ?_, he.up, he.own, he.ids, h.size.trans hn, he.keep⟩, rfl⟩
    intro y av hl
    rcases look_uF _ _ y av hl with ⟨p, hp, rfl, rfl⟩ | ⟨hno, hl⟩
    · obtain ⟨i, zs, b1, _, _, _, hv, _⟩ := hnew p hp
      show AV.holds S γ' w _ (tm.getD p.1 undef)
      rw [hv]
      simp only [AV.holds]
      exact ⟨b1, by rw [hγn p hp, hv]; rfl, rfl⟩
    · rw [look_markF] at hl
      by_cases hex : ∀ i, dstOf l.toArray i ≠ some y
      · have e1 := hout l.length hex
        rw [List.take_length, List.take_of_length_le (by simp [hlen])] at e1
        rw [e1] at hl
        have e2 := h.out y hex
        have := he.fr y av (by rw [look_markF]; exact hl)
        simpa only [Array.getD_eq_getD_getElem?, e2] using this
      · simp only [ne_eq, Classical.not_forall, Decidable.not_not] at hex
        obtain ⟨i, hi⟩ := hex
        obtain ⟨o, ho, hd⟩ := hdo hi
        have hil : i < l.length := (List.getElem?_eq_some_iff.1 ho).1
        have e1 := hlook l.length hi hil
        rw [List.take_length, List.take_of_length_le (by simp [hlen])] at e1
        obtain ⟨k, hki, hko⟩ := h1.get i o ho
        rw [e1, List.getElem?_map, hki] at hl
        simp only [Option.map_some, Option.some.injEq] at hl
        cases k with
        | store d cs =>
          have := (hks hki).1
          rw [hi] at this; cases this
        | alloc d zs =>
          have := (hka hki).1
          rw [hi] at this; injection this with this
          exact absurd this.symm (hno (d, contU ks d (zAV zs)) (mem_allocU.2 ⟨i, zs, hki, rfl⟩))
        | plain a0 =>
          have hv := h.plain i y a0 hki hi (hlist hki)
          simp only [UK.av] at hl
          cases hus2 : a0.uses (fun j => !(idsM (allocD l) j)) with
          | false => rw [hus2] at hl; subst hl; simp [AV.holds]
          | true =>
            rw [hus2] at hl
            subst hl
            exact AV.mono (fun _ h => h) hto (fun j => !(idsM (allocD l) j)) (fun j hj => hγo j (by simpa using hj)) a0 _ hus2 hv
/-- is it such a region? -/
def uSel1 : Nat → Nat → List Oper → Bool
  | a, s, [] => match a with | 0 => false | 1 => false | _ => match s with | 0 => false | _ => true
  | a, s, o :: r => match o.guard with
    | some _ => false
    | none => match isAlloc o with
      | some _ => uSel1 (a + 1) s r
      | none => match o.dst with
        | some _ => uSel1 a s r
        | none => match o.op with
          | .store _ (.tmp _) _ => uSel1 a (s + 1) r
          | _ => false
theorem a_region_U' {id : Nat} (hsel : uSel1 0 0 l = true) (hm : P.follows .mixedOrders = true) (hb : backB l.toArray = true) (hc : uOk l.toArray n = true) (hdep : depsOk l.toArray = true) (hT : TTOk P T) (hZ : ZOk P ZT) (hu : usesH (idsM (allocD l)) (dropH (idsM (allocD l)) H) = true)
    (ev : EvU P T ZT l H (fun fr' ks => True ∧ okU (idsM (allocD l)) ks = true ∧ Q .normal (uF (allocU ks ks) (markF (idsM (allocD l)) fr')) (uH (allocU ks ks) ++ dropH (idsM (allocD l)) H)) l fr) : ACode P c n (.region id l.toArray true) Q fr H :=
  a_region_U hm hb hc hdep hT hZ hu ev
end
end Go.Proofs.Ytjmcbacdogjdeaa
