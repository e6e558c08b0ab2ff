/- A resource called another name; zeros appended. Nothing of the program stands here. -/
import Derived.Test.YtgdkeafdlehlaaaDoorG5
import Derived.Laws.AppendOwn
namespace Go.Proofs.YtgdkeafdlehlaaaDoor
open Go Go.RowKit
set_option linter.unusedVariables false
set_option linter.unusedSimpArgs false
section
variable {P : Program} {T : List (Nat × TI)} {o : Oper} {fr : List (Nat × AV)} {H : List (Nat × Res)} {c : Ctx} {n : Nat} {Q : AQ} {ops : Array Oper} {rest : List Oper}
variable {S : Nat → Prop} {γ : Nat → Value} {w : World} {x y : Operand} {t t' : TypeId} {s b : Nat}
def renO (i k : Nat) (fr : List (Nat × AV)) : List (Nat × AV) := fr.map fun p => (p.1, match p.2 with
  | .own j => .own (match Nat.beq j i with | true => k | false => j)
  | a => a)
theorem look_renO (i k : Nat) : ∀ (fr : List (Nat × AV)) (x : Nat) (a : AV), look (renO i k fr) x = some a → look fr x = some a ∨ (look fr x = some (.own i) ∧ a = .own k)
  | [], x, a, h => by simp [renO, look] at h
  | (q, b) :: fr, x, a, h => by
    unfold renO at h
    rw [List.map_cons, look_cons] at h
    rw [look_cons]
    by_cases hq : q = x
    · rw [if_pos hq] at h ⊢
      simp only [Option.some.injEq] at h
      subst h
      cases b with
      | own j =>
        simp only
        cases hb : Nat.beq j i with
        | true => right; exact ⟨by rw [Nat.eq_of_beq_eq_true hb], rfl⟩
        | false => left; rfl
      | _ => left; rfl
    · rw [if_neg hq] at h ⊢
      exact look_renO i k fr x a h
theorem drop_two (j k : Nat) (H : List (Nat × Res)) : dropH (one1 k) (dropH (one1 j) H) = dropH (fun i => one1 j i || one1 k i) H := by
  unfold dropH
  rw [List.filter_filter]
  congr 1
  funext p
  simp only [Bool.not_or]
  exact Bool.and_comm _ _
theorem Rel.renOwn {α : Type} {E : Enc α} {xs : List α} {e : Nat} {tmps : Array Value} (hr : Rel c n fr H S γ tmps w) (i k : Nat) (hi : look H i = some (.own e E xs)) (hkJ : Nat.ble 1000 k = true) (hu : usesH (one1 k) (dropH (one1 k) (dropH (one1 i) H)) = true) :
    Rel c n (renO i k (markF (one1 k) fr)) ((k, .own e E xs) :: dropH (one1 k) (dropH (one1 i) H)) S (upd γ k (γ i)) tmps w := by
  have hk1000 : 1000 ≤ k := Nat.le_of_ble_eq_true hkJ
  obtain ⟨vs, hown, hvs, hv1⟩ := hr.st.res i _ hi
  have hst : St S (upd γ k (γ i)) w [(k, .own e E xs)] := by
    refine ⟨?_, ?_, ?_, ?_, ?_⟩
    · intro j r' hj
      obtain ⟨rfl, rfl⟩ := look_one hj
      rw [upd_same]; exact ⟨vs, hown, hvs, hv1⟩
    · intro a b ra rb z ha hb _ _
      rw [(look_one ha).1, (look_one hb).1]
    · intro j r' b hj hb' hs
      obtain ⟨rfl, rfl⟩ := look_one hj
      rw [upd_same] at hb'
      exact hr.st.live i _ b hi hb' hs
    · exact hr.st.sz
    · intro j
      by_cases hj : j = k
      · subst hj; rw [upd_same]; exact hr.st.one i
      · rw [upd_other hj]; exact hr.st.one j
  have hfin := hr.eff (fun j => one1 i j || one1 k j) (one1 k) (Hn := [(k, .own e E xs)]) (S' := S) (γ' := upd γ k (γ i)) (w' := w) (fun j hj => by simp [hj])
    ⟨rfl, rfl, rfl, Nat.le_refl _, fun _ _ _ => rfl⟩ (fun _ h => h) (fun b h => .inl h) hst
    (fun j r' b hj hb' => by
      obtain ⟨rfl, rfl⟩ := look_one hj
      rw [upd_same] at hb'
      right; exact ⟨i, _, by simp [one1_iff.2], hi, hb'⟩)
    (fun j r' hj => by simp [one1_iff.2 (look_one hj).1.symm])
    (fun j hj => upd_other (by rintro rfl; rw [one1_iff.2 rfl] at hj; cases hj))
    (fun j hj => by
      have := c.lt j hj
      cases hb : one1 k j with
      | false => rfl
      | true => have := one1_iff.1 hb; omega)
    (by rw [← drop_two]; exact hu)
  rw [← drop_two] at hfin
  refine ⟨hfin.st, fun x a hx => ?_, hfin.up, hfin.own, hfin.ids, hfin.size, hfin.keep⟩
  rcases look_renO i k _ x a hx with h1 | ⟨h1, rfl⟩
  · exact hfin.fr x a h1
  · have := hfin.fr x _ h1
    simp only [AV.holds] at this ⊢
    rw [this, upd_same]
    by_cases hik : i = k
    · subst hik; rw [upd_same]
    · rw [upd_other hik]
/-- a resource called another name -/
theorem a_ren {code : Code} {α : Type} {E : Enc α} {xs : List α} {e : Nat} (i k : Nat) (hi : look H i = some (.own e E xs) := by rfl) (hkJ : Nat.ble 1000 k = true := by rfl) (hu : usesH (one1 k) (dropH (one1 k) (dropH (one1 i) H)) = true := by rfl)
    (h : ACode P c n code Q (renO i k (markF (one1 k) fr)) ((k, .own e E xs) :: dropH (one1 k) (dropH (one1 i) H))) : ACode P c n code Q fr H := fun S γ tmps w hr => h S _ tmps w (hr.renOwn i k hi hkJ hu)
theorem a_renAt {α : Type} {E : Enc α} {xs : List α} {e : Nat} (id i k : Nat) {l : Array Oper} {d : Bool} (hi : look H i = some (.own e E xs) := by rfl) (hkJ : Nat.ble 1000 k = true := by rfl) (hu : usesH (one1 k) (dropH (one1 k) (dropH (one1 i) H)) = true := by rfl)
    (h : ACode P c n (.region id l d) Q (renO i k (markF (one1 k) fr)) ((k, .own e E xs) :: dropH (one1 k) (dropH (one1 i) H))) : ACode P c n (.region id l d) Q fr H := a_ren i k hi hkJ hu h
end
section
variable {P : Program} (w : World)
theorem run_appz_zero (t tz ty e : TypeId) (i : TypeInfo) (kd : IntKind) (ht : P.underlying t = some (.slice e)) (htz : P.underlying tz = some (.int kd)) (hi : P.info? e = some i)
    (A : Option Addr) (n c : Nat) (hn : n ≤ c) :
    (Builtin.append_ #[t, tz] ty #[.slice A n c, .int .i64 0]).run P w = .ok (.slice A n c) w := by
  have h0 : IntKind.i64.wrap 0 = 0 := rfl
  cases A <;> simp [Builtin.append_, run_underlying ht, run_underlying htz, sizeOf, typeInfo, hi, asInt, asIntOf, h0, hn, storeCells]
theorem run_appz_grow (t tz ty e : TypeId) (i : TypeInfo) (z : Value) (kd : IntKind) (ht : P.underlying t = some (.slice e)) (htz : P.underlying tz = some (.int kd)) (hi : P.info? e = some i) (hz : i.zero = some z)
    (base : Option Addr) (sLen sCap : Nat) (olds : List Value) (hold : (Builtin.firstCells i.size sLen (.slice base sLen sCap)).run P w.drew = .ok olds.toArray w.drew) (m : Nat) (hm0 : m * i.size ≠ 0)
    (hg : sCap < sLen + m) (h63 : ((sLen + m : Nat) : Int) ≤ 9223372036854775807) (hfit : Builtin.nextslicecap (sLen + m) sCap * i.bytes ≤ 281474976710656) (hfit2 : m * i.bytes ≤ 281474976710656) :
    (Builtin.append_ #[t, tz] ty #[.slice base sLen sCap, .int .i64 (m : Int)]).run P w =
      .ok (.slice (some ⟨w.heap.size, 0, none⟩) (sLen + m) (grownCap w (sLen + m) sCap e))
        (w.drew.alloc (.cells (olds.toArray ++ Builtin.zeroCells z.cells m ++ Builtin.zeroCells z.cells (grownCap w (sLen + m) sCap e - (sLen + m))) e)) := by
  have hn : ¬ (sLen + m ≤ sCap) := by omega
  have h63' : ¬ (9223372036854775807 < ((sLen : Int) + (m : Int))) := by omega
  have h48' : ¬ (281474976710656 < Builtin.nextslicecap (sLen + m) sCap * i.bytes) := by omega
  have hw : IntKind.i64.wrap (m : Int) = (m : Int) := by rw [IntKind.wrap_i64]; omega
  have hl0 : ¬ ((m : Int) < 0) := by omega
  have hb2 : ¬ ((281474976710656 : Int) < (m : Int) * (i.bytes : Int)) := by
    have : ((m * i.bytes : Nat) : Int) ≤ 281474976710656 := by omega
    rw [Int.natCast_mul] at this
    omega
  simp [Builtin.append_, run_underlying ht, run_underlying htz, sizeOf, typeInfo, zeroValue, asInt, asIntOf, hw, hl0, hb2, hi, hz, hn, h63', h48', hm0, Question.forced, hold, newRow, grownCap]
theorem run_appz_room (t tz ty e : TypeId) (i : TypeInfo) (z : Value) (kd : IntKind) (ht : P.underlying t = some (.slice e)) (htz : P.underlying tz = some (.int kd)) (hi : P.info? e = some i) (hz : i.zero = some z)
    (g sLen sCap : Nat) (cur : Array Value) (hg : Blk w g cur e) (m : Nat) (h1 : ∀ u ∈ (Builtin.zeroCells z.cells m).toList, u.oneCell' = true) (hm0 : m * i.size ≠ 0)
    (hroom : sLen + m ≤ sCap) (hfit : sLen * i.size + (Builtin.zeroCells z.cells m).toList.length ≤ cur.size) (hm : m ≤ 9223372036854775807) (hfit2 : m * i.bytes ≤ 281474976710656) :
    (Builtin.append_ #[t, tz] ty #[.slice (some ⟨g, 0, none⟩) sLen sCap, .int .i64 (m : Int)]).run P w =
      .ok (.slice (some ⟨g, 0, none⟩) (sLen + m) sCap) (w.setRow g (cur.toList.take (sLen * i.size) ++ (Builtin.zeroCells z.cells m).toList ++ cur.toList.drop (sLen * i.size + (Builtin.zeroCells z.cells m).toList.length)).toArray) := by
  have hst := run_storeCells_atT (P := P) g (sLen * i.size) e (Builtin.zeroCells z.cells m).toList 0 cur w hg (by simpa using hfit) h1
  simp only [Nat.add_zero] at hst
  have hw : IntKind.i64.wrap (m : Int) = (m : Int) := by rw [IntKind.wrap_i64]; omega
  have hl0 : ¬ ((m : Int) < 0) := by omega
  have hb2 : ¬ ((281474976710656 : Int) < (m : Int) * (i.bytes : Int)) := by
    have : ((m * i.bytes : Nat) : Int) ≤ 281474976710656 := by omega
    rw [Int.natCast_mul] at this
    omega
  simp [Builtin.append_, run_underlying ht, run_underlying htz, sizeOf, typeInfo, zeroValue, asInt, asIntOf, hw, hl0, hb2, hi, hz, hroom, hm0, Addr.add_lit]
  rw [hst]
  simp
theorem run_appz (base : Nat) (t tz ty e : TypeId) (i : TypeInfo) (z : Value) (kd : IntKind) (size bytes : Nat) (ht : P.underlying t = some (.slice e)) (htz : P.underlying tz = some (.int kd)) (hi : P.info? e = some i) (hz : i.zero = some z)
    (hsize : i.size = size) (hby : i.bytes = bytes) (hzs : z.cells.size = size) (hsz : 0 < size)
    (v : Value) (n : Nat) (xs : List Value) (hown : Own w base e size v n xs) (m : Nat) (h1 : ∀ u ∈ (Builtin.zeroCells z.cells m).toList, u.oneCell' = true)
    (hbytes : (n + m) * bytes ≤ 140737488355328) (h63 : n + m ≤ maxLen) (hbase : base ≤ w.heap.size) :
    ∃ v' w', (Builtin.append_ #[t, tz] ty #[v, .int .i64 (m : Int)]).run P w = .ok v' w' ∧ Own w' base e size v' (n + m) (xs ++ (Builtin.zeroCells z.cells m).toList) ∧ w.grownBy w' (wblk v) ∧ (wblk v' = wblk v ∨ wblk v' = some w.heap.size) := by
  subst hsize
  subst hby
  have hl : (Builtin.zeroCells z.cells m).toList.length = m * i.size := by rw [Array.length_toList, size_zeroCells, hzs]
  have hlen : (xs ++ (Builtin.zeroCells z.cells m).toList).length = (n + m) * i.size := by rw [List.length_append, hown.1, hl, Nat.add_mul]
  by_cases hm : m = 0
  · subst hm
    have hnil : (Builtin.zeroCells z.cells 0).toList = [] := List.eq_nil_of_length_eq_zero (by simpa using hl)
    rw [hnil, List.append_nil]
    obtain ⟨hl', A, c, rfl, rest⟩ := hown
    have hnc : n ≤ c := by
      rcases rest with ⟨rfl, rfl⟩ | ⟨_, _, _, _, _, h, _⟩
      · exact Nat.le_refl _
      · exact h
    exact ⟨_, w, run_appz_zero (P := P) w t tz ty e i kd ht htz hi A n c hnc, ⟨by simpa using hl', A, c, rfl, by simpa using rest⟩, ⟨rfl, rfl, rfl, Nat.le_refl _, fun _ _ _ => rfl⟩, .inl rfl⟩
  · have hm0 : m * i.size ≠ 0 := by
      intro h
      rcases Nat.mul_eq_zero.1 h with h | h <;> omega
    have h63' : ((n + m : Nat) : Int) ≤ 9223372036854775807 := by simp only [maxLen] at h63; omega
    have hb2 : m * i.bytes ≤ 281474976710656 := by
      have : m * i.bytes ≤ (n + m) * i.bytes := Nat.mul_le_mul_right _ (by omega)
      omega
    have grown : ∀ (old : Nat), old < n + m → ∀ (row : Option Nat),
        Own (w.drew.alloc (.cells (xs.toArray ++ Builtin.zeroCells z.cells m ++ Builtin.zeroCells z.cells (grownCap w (n + m) old e - (n + m))) e)) base e i.size
          (.slice (some ⟨w.heap.size, 0, none⟩) (n + m) (grownCap w (n + m) old e)) (n + m) (xs ++ (Builtin.zeroCells z.cells m).toList) ∧
        w.grownBy (w.drew.alloc (.cells (xs.toArray ++ Builtin.zeroCells z.cells m ++ Builtin.zeroCells z.cells (grownCap w (n + m) old e - (n + m))) e)) row := by
      intro old ho row
      have hge := grownCap_ge w (n + m) old e
      have hcm : grownCap w (n + m) old e ≤ maxLen := grownCap_le_maxLen w (n + m) old e h63
      refine ⟨⟨hlen, _, _, rfl, .inr ⟨w.heap.size, _, rfl, hbase, .of (heap_alloc_new w.drew _), hge, hcm, ?_, ?_⟩⟩, ⟨rfl, rfl, rfl, by simp, fun k hk _ => Below.heap_alloc w.drew _ k hk⟩⟩
      · refine Nat.le_of_eq (Eq.symm ?_)
        simp only [Array.size_append, List.size_toArray, size_zeroCells, hzs, hown.1, ← Nat.add_mul]
        congr 1
        omega
      · simp only [Array.toList_append, List.append_assoc]
        rw [← List.append_assoc, ← hlen]
        exact List.take_left
    have hwb : ∀ old, wblk (.slice (some ⟨w.heap.size, 0, none⟩) (n + m) (grownCap w (n + m) old e)) = some w.heap.size := by
      intro old
      have hge := grownCap_ge w (n + m) old e
      cases hc : grownCap w (n + m) old e with
      | zero => omega
      | succ k => rfl
    obtain ⟨hl', A, c, rfl, ⟨rfl, rfl⟩ | ⟨g, cur, rfl, hbg, hg, hnc, hcm, hcs, htake⟩⟩ := hown
    · have hx : xs = [] := List.eq_nil_of_length_eq_zero (by simpa using hl')
      subst hx
      have hgr := grown 0 (by omega) (wblk (.slice A 0 0))
      have hold : (Builtin.firstCells i.size 0 (.slice A 0 0)).run P w.drew = .ok ([] : List Value).toArray w.drew := by
        cases A <;> simp [Builtin.firstCells, loadCells, loadCellsFrom]
      have hrr := run_appz_grow (P := P) w t tz ty e i z kd ht htz hi hz A 0 0 [] hold m hm0 (by omega) h63' (growslice_fits (by omega) hbytes) hb2
      have hw := hwb 0
      exact ⟨_, _, hrr, hgr.1, hgr.2, .inr hw⟩
    · by_cases hroom : n + m ≤ c
      · have hfit : n * i.size + (Builtin.zeroCells z.cells m).toList.length ≤ cur.size := by rw [hl, ← Nat.add_mul]; exact Nat.le_trans (Nat.mul_le_mul_right _ hroom) hcs
        have hrr := run_appz_room (P := P) w t tz ty e i z kd ht htz hi hz g n c cur hg m h1 hm0 hroom hfit (by omega) hb2
        have hwc : wblk (.slice (some ⟨g, 0, none⟩) n c) = some g := by
          cases c with
          | zero => omega
          | succ k => rfl
        have hwc' : wblk (.slice (some ⟨g, 0, none⟩) (n + m) c) = some g := by
          cases c with
          | zero => omega
          | succ k => rfl
        refine ⟨_, _, hrr, ⟨hlen, _, _, rfl, .inr ⟨g, _, rfl, hbg, hg.setRow ?_, hroom, hcm, ?_, ?_⟩⟩, ⟨rfl, rfl, rfl, by simp, fun k _ hk => setRow_other w g k _ (fun e => hk (by rw [hwc, e]))⟩, .inl (by rw [hwc, hwc'])⟩
        · simp only [List.size_toArray, List.length_append, List.length_take, List.length_drop, Array.length_toList] at hfit hl ⊢
          omega
        · simp only [List.size_toArray, List.length_append, List.length_take, List.length_drop, Array.length_toList] at hfit hl ⊢
          omega
        · rw [htake, ← hlen]
          exact List.take_left
      · have holds : ∀ j u, xs[j]? = some u → w.cell? ((⟨g, 0, none⟩ : Addr).add j) = some u := by
          intro j u hu
          have hadd : (⟨g, 0, none⟩ : Addr).add j = ⟨g, j, none⟩ := by unfold Addr.add; split <;> simp_all
          rw [hadd, hg.cell]
          rw [← htake, List.getElem?_take] at hu
          split at hu
          · simpa using hu
          · cases hu
        have hold := run_firstCells_some (P := P) w.drew i.size n ⟨g, 0, none⟩ n c xs hl' (by simpa using holds)
        have hrr := run_appz_grow (P := P) w t tz ty e i z kd ht htz hi hz (some ⟨g, 0, none⟩) n c xs hold m hm0 (by omega) h63' (growslice_fits (by omega) hbytes) hb2
        have hgr := grown c (by omega) (wblk (.slice (some ⟨g, 0, none⟩) n c))
        exact ⟨_, _, hrr, hgr.1, hgr.2, .inr (hwb c)⟩
end
section
variable {P : Program} {T : List (Nat × TI)} {o : Oper} {fr : List (Nat × AV)} {H : List (Nat × Res)} {c : Ctx} {n : Nat} {Q : AQ} {ops : Array Oper} {rest : List Oper}
variable {x : Operand} {t tz : TypeId} {s b s2 b2 : Nat}
theorem zero_list (cs : Array Value) (m : Nat) : (Builtin.zeroCells cs m).toList = (List.replicate m cs.toList).flatten := made_list cs m
/-- zeros behind what is one's own -/
theorem ao_append_zeros {d e j es eb : Nat} {ek : TK} {kd : IntKind} {sx : Operand} {α : Type} {E : Enc α} {xs : List α} {ZT : List (Nat × List Z)} {zs : List Z} {m : Int} (z : α) (hg : o.guard = none := by rfl) (hd : o.dst = some d := by rfl) (hn : Nat.blt d n = true := by rfl) (ho : o.op = .call { callee := .builtin .append, args := #[sx, x], argTypes := #[t, tz] } := by rfl)
    (hT : TTOk P T := by assumption) (ht : look T t = some ⟨.slice e, s, b⟩ := by rfl) (htz : look T tz = some ⟨.int kd, s2, b2⟩ := by rfl) (he : look T e = some ⟨ek, es, eb⟩ := by rfl) (hZ : ZOk P ZT := by assumption) (hz : look ZT e = some zs := by rfl)
    (hsx : Opv fr sx (.own j) := by exact opv_std) (hx : Opv fr x (.lit (.int .i64 m)) := by exact opv_std) (hj : look H j = some (.own e E xs) := by rfl) (hE : E.cells z = zAV zs := by rfl) (hs : es = E.size := by rfl) (hE2 : Nat.blt 0 es = true := by rfl)
    (h0 : 0 ≤ m := by omega) (hm : (xs.length : Int) + m ≤ 9223372036854775807 := by omega) (hb : ((xs.length : Int) + m) * eb ≤ 140737488355328 := by omega)
    (hkJ : Nat.ble 1000 j = true := by rfl) (hu : usesH (one1 j) (dropH (one1 j) (dropH (one1 j) H)) = true := by rfl)
    (next : AOps P c n ops rest Q ((d, .own j) :: markF (one1 j) fr) ((j, .own e E (xs ++ List.replicate m.toNat z)) :: dropH (one1 j) (dropH (one1 j) H))) : AOps P c n ops (o :: rest) Q fr H := fun S γ tmps w hr => by
  obtain ⟨m, rfl⟩ := Int.eq_ofNat_of_zero_le h0
  simp only [Int.toNat_natCast] at next
  have hsv := (hr.env (ds := []) (fun _ => True)).get hsx trivial
  have hxv := (hr.env (ds := []) (fun _ => True)).lit hx trivial
  simp only [AV.holds] at hsv
  refine ao_plain hg ?_
  obtain ⟨vs, hown, hvs, hv1⟩ := hr.st.res j _ hj
  obtain ⟨zi, zv, hi, hiz, hzc⟩ := hZ.zero hz
  obtain ⟨_, _, q, zv', hq, hsz, hby, hjz, hcz⟩ := hT.ok e _ he
  rw [hi] at hq; injection hq with hq; subst hq
  rw [hiz] at hjz; injection hjz with hjz; subst hjz
  simp only at hsz hby hcz
  have htz' := hT.int htz
  have hE' : 0 < es := Nat.lt_of_lt_of_le Nat.zero_lt_one (Nat.le_of_ble_eq_true hE2)
  have hzl := zero_list zv.cells m
  have hz1 : ∀ u ∈ (Builtin.zeroCells zv.cells m).toList, u.oneCell' = true := fun u hu => by
    rw [hzl] at hu
    simp only [List.mem_flatten, List.mem_replicate] at hu
    obtain ⟨l, ⟨_, rfl⟩, hu⟩ := hu
    rw [hzc] at hu
    obtain ⟨q, _, rfl⟩ := List.mem_map.1 hu
    exact zval_one q
  obtain ⟨v', w', hrun, hown', hgr, hwb⟩ := run_appz (P := P) w 0 t tz o.type e zi zv kd E.size eb (hT.slice ht) htz' hi hiz (by rw [hsz, hs]) hby (by rw [hcz, hs]) (by omega) (γ j) xs.length vs hown m hz1 (by
      have : (((xs.length + m) * eb : Nat) : Int) ≤ 140737488355328 := by rw [Int.natCast_mul, Int.natCast_add]; exact hb
      omega) (by simp only [maxLen]; omega) (Nat.zero_le _)
  have hexec : (execOp (Act.eval ⟨tmps, []⟩) o).run P w = .ok (.value v') w' := by
    unfold execOp
    simp only [ho, resolve, invoke, builtin, Sem.run_bind, Sem.run_pure, Result.andThen_ok, List.map_toArray, List.map_cons, List.map_nil, hsv, hxv, hrun]
  refine outc hexec ?_
  have hput : ∀ v, (Act.put ⟨tmps, []⟩ o.dst v) = ⟨tmps.setIfInBounds d v, []⟩ := fun v => by rw [hd]; rfl
  rw [hput]
  have hrb := own_rblk hown
  have hrb' := own_rblk hown'
  have hsame : Same S w w' := fun b hs => hgr.block b (hr.st.sz b hs) (fun e => hr.st.live j _ b hj (by rw [hrb.1, ← e]) hs)
  have hres : (Res.own e E (xs ++ List.replicate m z)).holds S (upd γ j v') w' v' := by
    refine ⟨vs ++ (Builtin.zeroCells zv.cells m).toList, by simpa using hown', ?_, fun u hu => (List.mem_append.1 hu).elim (hv1 u) (hz1 u)⟩
    rw [Enc.all_append]
    exact AV.holdsL_app (AV.extL (fun _ h => h) hsame hvs) (by rw [hzl]; exact holds_made hE hzc m)
  have hfin := hr.eff (fun i => one1 j i || one1 j i) (one1 j) (Hn := [(j, .own e E (xs ++ List.replicate m z))]) (S' := S) (γ' := upd γ j v') (w' := w') (fun i hi => by simp [hi])
    ⟨hgr.os, hgr.tape, hgr.output, hgr.size, fun b hb hn => hgr.block b hb fun h1 => hn ⟨j, _, by simp [one1_iff.2], hj, by rw [hrb.1, ← h1]⟩⟩ (fun _ h => h) (fun b h => .inl h)
    ⟨fun i r' hi => by
        obtain ⟨rfl, rfl⟩ := look_one hi
        rw [upd_same]; exact hres,
      fun i j ri rj b hi hj _ _ => by rw [(look_one hi).1, (look_one hj).1],
      fun i r' b hi hb' hs => by
        obtain ⟨rfl, rfl⟩ := look_one hi
        rw [upd_same, hrb'.1] at hb'
        rcases hwb with h1 | h1
        · rw [h1] at hb'
          exact hr.st.live _ _ b hj (by rw [hrb.1]; exact hb') hs
        · rw [h1] at hb'
          have := hr.st.sz b hs
          simp only [Option.some.injEq] at hb'; omega,
      hr.st.sz.to (fun _ h => h) hsame fun b hs => by have := hr.st.sz b hs; have := hgr.size; omega,
      fun i => by
        by_cases hi : i = j
        · subst hi; rw [upd_same]; exact hrb'.2
        · rw [upd_other hi]; exact hr.st.one i⟩
    (fun i r' b hi hb' => by
      obtain ⟨rfl, rfl⟩ := look_one hi
      rw [upd_same, hrb'.1] at hb'
      rcases hwb with h1 | h1
      · right; exact ⟨_, _, by simp [one1_iff.2], hj, by rw [hrb.1, ← h1]; exact hb'⟩
      · rw [h1] at hb'; left; simp only [Option.some.injEq] at hb'; omega)
    (fun i r' hi => by simp [one1_iff.2 (look_one hi).1.symm])
    (fun i hi => upd_other (by rintro rfl; rw [one1_iff.2 rfl] at hi; cases hi))
    (fun i hi => by
      have := c.lt i hi
      have hk1000 : 1000 ≤ j := Nat.le_of_ble_eq_true hkJ
      cases hb : one1 j i with
      | false => rfl
      | true => have := one1_iff.1 hb; omega)
    (by rw [← drop_two]; exact hu)
  rw [← drop_two] at hfin
  exact next S _ _ _ (hfin.put (Nat.le_of_ble_eq_true hn) (by simp only [AV.holds]; rw [upd_same]))
end
end Go.Proofs.YtgdkeafdlehlaaaDoor
