/- A text behind bytes of one's own. Nothing of the program stands here. -/
import Derived.Test.YtgdkeafdlehlaaaDoorBe
import Derived.Test.YtgdkeafdlehlaaaDoorCa
import Derived.Lib.AppendStr
namespace Go.Proofs.YtgdkeafdlehlaaaDoor
open Go Go.RowKit Go.Lib
set_option linter.unusedVariables false
section
variable {P : Program} (w : World)
theorem strCells_of (l : List UInt8) : strCells (strOf l) = bvs l := by
  unfold strCells bvs
  rw [strOf_data]
  rfl
theorem run_apps_zero (t u ty e : TypeId) (i : TypeInfo) (ht : P.underlying t = some (.slice e)) (hu : P.underlying u = some .string) (hi : P.info? e = some i) (hs1 : i.size = 1) (A : Option Addr) (n c : Nat) (hn : n ≤ c) (s : ByteArray) (h0 : s.size = 0) :
    (Builtin.append_ #[t, u] ty #[.slice A n c, .string s]).run P w = .ok (.slice A n c) w := by
  have hf := run_firstCells_string (P := P) w 1 s
  have hc : strCells s = [] := List.eq_nil_of_length_eq_zero (by rw [strCells_length]; exact h0)
  rw [h0, hc] at hf
  cases A <;> simp [Builtin.append_, run_underlying ht, run_underlying hu, sizeOf, typeInfo, hi, hs1, Builtin.lenOf, hn, h0, hf, storeCells]
theorem run_append_room_stringT (t u ty e : TypeId) (i : TypeInfo) (ht : P.underlying t = some (.slice e)) (hu : P.underlying u = some .string) (hi : P.info? e = some i) (hs1 : i.size = 1)
    (g sLen sCap : Nat) (cur : Array Value) (hg : Blk w g cur e) (s : ByteArray)
    (hroom : sLen + s.size ≤ sCap) (hfit : sLen + s.size ≤ cur.size) :
    (Builtin.append_ #[t, u] ty #[.slice (some ⟨g, 0, none⟩) sLen sCap, .string s]).run P w =
      .ok (.slice (some ⟨g, 0, none⟩) (sLen + s.size) sCap) (w.setRow g (cur.toList.take sLen ++ strCells s ++ cur.toList.drop (sLen + s.size)).toArray) := by
  have hf := run_firstCells_string (P := P) w 1 s
  have hst := run_storeCells_atT (P := P) g sLen e (strCells s) 0 cur w hg (by simpa [strCells_length] using hfit) (strCells_oneCell s)
  simp only [Nat.add_zero, strCells_length] at hst
  simp [Builtin.append_, run_underlying ht, run_underlying hu, sizeOf, typeInfo, hi, hs1, Builtin.lenOf, hroom, hf, Addr.add_lit, hst]
theorem run_apps (base : Nat) (t u ty e : TypeId) (i : TypeInfo) (ht : P.underlying t = some (.slice e)) (hu : P.underlying u = some .string) (hi : P.info? e = some i) {z : Value} (hz : i.zero = some z) (hzs : z.cells.size = 1) (hsize : i.size = 1) (hby : i.bytes = 1)
    (v : Value) (n : Nat) (xs : List Value) (hown : Own w base e 1 v n xs) (s : ByteArray) (hbytes : n + s.size ≤ 140737488355328) (hbase : base ≤ w.heap.size) :
    ∃ v' w', (Builtin.append_ #[t, u] ty #[v, .string s]).run P w = .ok v' w' ∧ Own w' base e 1 v' (n + s.size) (xs ++ strCells s) ∧ w.grownBy w' (wblk v) ∧ (wblk v' = wblk v ∨ wblk v' = some w.heap.size) := by
  have h63 : n + s.size ≤ maxLen := by unfold maxLen; omega
  have hxl : xs.length = n := by simpa using hown.1
  have hlen : (xs ++ strCells s).length = (n + s.size) * 1 := by rw [List.length_append, hxl, strCells_length, Nat.mul_one]
  by_cases hm : s.size = 0
  · have hnil : strCells s = [] := List.eq_nil_of_length_eq_zero (by rw [strCells_length]; exact hm)
    rw [hnil, List.append_nil, hm, Nat.add_zero]
    obtain ⟨hl', A, c, rfl, rest⟩ := hown
    have hnc : n ≤ c := by
      rcases rest with ⟨rfl, rfl⟩ | ⟨_, _, _, _, _, h, _⟩
      · exact Nat.le_refl _
      · exact h
    exact ⟨_, w, run_apps_zero (P := P) w t u ty e i ht hu hi hsize A n c hnc s hm, ⟨hl', A, c, rfl, rest⟩, ⟨rfl, rfl, rfl, Nat.le_refl _, fun _ _ _ => rfl⟩, .inl rfl⟩
  have grown : ∀ (old : Nat), old < n + s.size → ∀ (row : Option Nat),
      Own (w.drew.alloc (.cells (xs.toArray ++ (strCells s).toArray ++ Builtin.zeroCells z.cells (grownCap w (n + s.size) old e - (n + s.size))) e)) base e 1
        (.slice (some ⟨w.heap.size, 0, none⟩) (n + s.size) (grownCap w (n + s.size) old e)) (n + s.size) (xs ++ strCells s) ∧
      w.grownBy (w.drew.alloc (.cells (xs.toArray ++ (strCells s).toArray ++ Builtin.zeroCells z.cells (grownCap w (n + s.size) old e - (n + s.size))) e)) row := by
    intro old ho row
    have hge := grownCap_ge w (n + s.size) old e
    have hcm : grownCap w (n + s.size) old e ≤ maxLen := grownCap_le_maxLen w (n + s.size) old e h63
    refine ⟨⟨hlen, _, _, rfl, .inr ⟨w.heap.size, _, rfl, hbase, .of (heap_alloc_new w.drew _), hge, hcm, ?_, ?_⟩⟩, ⟨rfl, rfl, rfl, by simp, fun k hk _ => Below.heap_alloc w.drew _ k hk⟩⟩
    · have hz1 := hzs
      simp only [Array.size_append, List.size_toArray, size_zeroCells, hz1, hxl, strCells_length]
      omega
    · simp only [Array.toList_append, List.append_assoc]
      rw [← List.append_assoc, ← hlen]
      exact List.take_left
  have hwb : ∀ old, wblk (.slice (some ⟨w.heap.size, 0, none⟩) (n + s.size) (grownCap w (n + s.size) old e)) = some w.heap.size := by
    intro old
    have hge := grownCap_ge w (n + s.size) old e
    cases hc : grownCap w (n + s.size) old e with
    | zero => omega
    | succ k => rfl
  obtain ⟨hl', A, c, rfl, ⟨rfl, rfl⟩ | ⟨g, cur, rfl, hbg, hg, hnc, hcm, hcs, htake⟩⟩ := hown
  · have hx : xs = [] := List.eq_nil_of_length_eq_zero (by simpa using hl')
    subst hx
    have hgr := grown 0 (by omega) (wblk (.slice A 0 0))
    have hw := hwb 0
    cases A with
    | none =>
      have hr := run_append_nil_string (P := P) w t u ty e i z ht hu hi hz s (by omega) (by omega) (by rw [hby]; omega)
      simp only [Nat.zero_add, List.nil_append, Array.empty_append] at hgr hw ⊢
      have e1 : (s.data.map fun b => Value.int .u8 b.toNat) = (strCells s).toArray := by
        apply Array.ext'
        simp [strCells]
      rw [e1] at hr
      exact ⟨_, _, hr, hgr.1, hgr.2, .inr hw⟩
    | some a =>
      have hr := run_append_grow_string (P := P) w t u ty e i z ht hu hi hz a 0 0 [] (by simp) (by simp) s (by omega) (by omega) (by rw [hby]; exact growslice_fits (by omega) (by omega))
      exact ⟨_, _, hr, hgr.1, hgr.2, .inr hw⟩
  · by_cases hroom : n + s.size ≤ c
    · have hr := run_append_room_stringT (P := P) w t u ty e i ht hu hi hsize g n c cur hg s hroom (by omega)
      have hwc : wblk (.slice (some ⟨g, 0, none⟩) n c) = some g := by
        cases c with
        | zero => omega
        | succ k => rfl
      have hwc' : wblk (.slice (some ⟨g, 0, none⟩) (n + s.size) c) = some g := by
        cases c with
        | zero => omega
        | succ k => rfl
      refine ⟨_, _, hr, ⟨hlen, _, _, rfl, .inr ⟨g, _, rfl, hbg, hg.setRow ?_, hroom, hcm, ?_, ?_⟩⟩, ⟨rfl, rfl, rfl, by simp, fun k _ hk => setRow_other w g k _ (fun e => hk (by rw [hwc, e]))⟩, .inl (by rw [hwc, hwc'])⟩
      · simp only [List.size_toArray, List.length_append, List.length_take, List.length_drop, Array.length_toList, strCells_length]
        omega
      · simp only [List.size_toArray, List.length_append, List.length_take, List.length_drop, Array.length_toList, strCells_length]
        omega
      · have ht' : cur.toList.take n = xs := by simpa using htake
        rw [ht', ← hlen]
        exact List.take_left
    · have holds : ∀ j u, xs[j]? = some u → w.cell? ((⟨g, 0, none⟩ : Addr).add j) = some u := by
        intro j u hu
        have hadd : (⟨g, 0, none⟩ : Addr).add j = ⟨g, j, none⟩ := by unfold Addr.add; split <;> simp_all
        rw [hadd, hg.cell]
        rw [← htake, List.getElem?_take] at hu
        split at hu
        · simpa using hu
        · cases hu
      have hr := run_append_grow_string (P := P) w t u ty e i z ht hu hi hz ⟨g, 0, none⟩ n c xs (by rw [hsize]; simpa using hxl) holds s (by omega) (by omega) (by rw [hby]; exact growslice_fits (by omega) (by omega))
      have hgr := grown c (by omega) (wblk (.slice (some ⟨g, 0, none⟩) n c))
      exact ⟨_, _, hr, hgr.1, hgr.2, .inr (hwb c)⟩
end
section
variable {P : Program} {T : List (Nat × TI)} {o : Oper} {fr : List (Nat × AV)} {H : List (Nat × Res)} {c : Ctx} {n : Nat} {Q : AQ} {ops : Array Oper} {rest : List Oper}
variable {x : Operand} {t tz : TypeId} {s b s2 b2 : Nat}
/-- a text behind bytes of one's own -/
theorem ao_append_str {d e j : Nat} {sx : Operand} {xs l : List UInt8} {ZT : List (Nat × List Z)} (hg : o.guard = none := by rfl) (hd : o.dst = some d := by rfl) (hn : Nat.blt d n = true := by rfl) (ho : o.op = .call { callee := .builtin .append, args := #[sx, x], argTypes := #[t, tz] } := by rfl)
    (hT : TTOk P T := by assumption) (ht : look T t = some ⟨.slice e, s, b⟩ := by rfl) (htz : look T tz = some ⟨.str, s2, b2⟩ := by rfl) (he : look T e = some ⟨.int .u8, 1, 1⟩ := by rfl) (hZ : ZOk P ZT := by assumption) (hz : look ZT e = some [.int .u8] := by rfl)
    (hsx : Opv fr sx (.own j) := by exact opv_std) (hx : Opv fr x (.lit (.string (strOf l))) := by exact opv_std) (hj : look H j = some (.own e encU xs) := by rfl)
    (hb : xs.length + l.length ≤ 140737488355328 := by first | omega | (simp only [List.length_append, List.length_cons, List.length_nil, List.length_take, List.length_drop, List.length_replicate, List.length_map, List.length_set]; omega))
    (hkJ : Nat.ble 1000 j = true := by rfl) (hu : usesH (one1 j) (dropH (one1 j) (dropH (one1 j) H)) = true := by rfl)
    (next : AOps P c n ops rest Q ((d, .own j) :: markF (one1 j) fr) ((j, .own e encU (xs ++ l)) :: dropH (one1 j) (dropH (one1 j) H))) : AOps P c n ops (o :: rest) Q fr H := fun S γ tmps w hr => by
  have hsv := (hr.env (ds := []) (fun _ => True)).get hsx trivial
  have hxv := (hr.env (ds := []) (fun _ => True)).lit hx trivial
  simp only [AV.holds] at hsv
  refine ao_plain hg ?_
  obtain ⟨vs, hown, hvs, hv1⟩ := hr.st.res j _ hj
  obtain ⟨zi, zv, hi, hiz, hzc⟩ := hZ.zero hz
  obtain ⟨_, _, q, zv', hq, hsz, hby, hjz, hcz⟩ := hT.ok e _ he
  rw [hi] at hq; injection hq with hq; subst hq
  rw [hiz] at hjz; injection hjz with hjz; subst hjz
  simp only at hsz hby hcz
  obtain ⟨v', w', hrun, hown', hgr, hwb⟩ := run_apps (P := P) w 0 t tz o.type e zi (hT.slice ht) (hT.str htz) hi hiz hcz hsz hby (γ j) xs.length vs hown (strOf l) (by rw [strOf_size]; exact hb) (Nat.zero_le _)
  rw [strOf_size, strCells_of] at hown'
  have hexec : (execOp (Act.eval ⟨tmps, []⟩) o).run P w = .ok (.value v') w' := by
    unfold execOp
    simp only [ho, resolve, invoke, builtin, Sem.run_bind, Sem.run_pure, Result.andThen_ok, List.map_toArray, List.map_cons, List.map_nil, hsv, hxv, hrun]
  refine outc hexec ?_
  have hput : ∀ v, (Act.put ⟨tmps, []⟩ o.dst v) = ⟨tmps.setIfInBounds d v, []⟩ := fun v => by rw [hd]; rfl
  rw [hput]
  have hrb := own_rblk hown
  have hrb' := own_rblk hown'
  have hsame : Same S w w' := fun b hs => hgr.block b (hr.st.sz b hs) (fun e => hr.st.live j _ b hj (by rw [hrb.1, ← e]) hs)
  have hres : (Res.own e encU (xs ++ l)).holds S (upd γ j v') w' v' := by
    refine ⟨vs ++ bvs l, by rw [List.length_append]; exact hown', ?_, fun u hu => (List.mem_append.1 hu).elim (hv1 u) (bvs_one l u)⟩
    rw [Enc.all_append]
    exact AV.holdsL_app (AV.extL (fun _ h => h) hsame hvs) (encU_bvs l)
  have hfin := hr.eff (fun i => one1 j i || one1 j i) (one1 j) (Hn := [(j, .own e encU (xs ++ l))]) (S' := S) (γ' := upd γ j v') (w' := w') (fun i hi => by simp [hi])
    ⟨hgr.os, hgr.tape, hgr.output, hgr.size, fun b hb hn => hgr.block b hb fun h1 => hn ⟨j, _, by simp [one1_iff.2], hj, by rw [hrb.1, ← h1]⟩⟩ (fun _ h => h) (fun b h => .inl h)
    ⟨fun i r' hi => by
        obtain ⟨rfl, rfl⟩ := look_one hi
        rw [upd_same]; exact hres,
      fun i j ri rj b hi hj _ _ => by rw [(look_one hi).1, (look_one hj).1],
      fun i r' b hi hb' hs => by
        obtain ⟨rfl, rfl⟩ := look_one hi
        rw [upd_same, hrb'.1] at hb'
        rcases hwb with h1 | h1
        · rw [h1] at hb'
          exact hr.st.live _ _ b hj (by rw [hrb.1]; exact hb') hs
        · rw [h1] at hb'
          have := hr.st.sz b hs
          simp only [Option.some.injEq] at hb'; omega,
      hr.st.sz.to (fun _ h => h) hsame fun b hs => by have := hr.st.sz b hs; have := hgr.size; omega,
      fun i => by
        by_cases hi : i = j
        · subst hi; rw [upd_same]; exact hrb'.2
        · rw [upd_other hi]; exact hr.st.one i⟩
    (fun i r' b hi hb' => by
      obtain ⟨rfl, rfl⟩ := look_one hi
      rw [upd_same, hrb'.1] at hb'
      rcases hwb with h1 | h1
      · right; exact ⟨_, _, by simp [one1_iff.2], hj, by rw [hrb.1, ← h1]; exact hb'⟩
      · rw [h1] at hb'; left; simp only [Option.some.injEq] at hb'; omega)
    (fun i r' hi => by simp [one1_iff.2 (look_one hi).1.symm])
    (fun i hi => upd_other (by rintro rfl; rw [one1_iff.2 rfl] at hi; cases hi))
    (fun i hi => by
      have := c.lt i hi
      have hk1000 : 1000 ≤ j := Nat.le_of_ble_eq_true hkJ
      cases hb : one1 j i with
      | false => rfl
      | true => have := one1_iff.1 hb; omega)
    (by rw [← drop_two]; exact hu)
  rw [← drop_two] at hfin
  exact next S _ _ _ (hfin.put (Nat.le_of_ble_eq_true hn) (by simp only [AV.holds]; rw [upd_same]))
end
end Go.Proofs.YtgdkeafdlehlaaaDoor
