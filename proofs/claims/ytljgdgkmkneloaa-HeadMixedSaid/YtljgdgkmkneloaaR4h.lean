/- What every program answers that is one (heads). -/
import Derived.Test.YtljgdgkmkneloaaR4f
namespace Go.Proofs.Ytljgdgkmkneloaa
open Go Go.RowKit
set_option linter.unusedVariables false
set_option linter.unusedSimpArgs false

section
variable {P : Program} {T : List (Nat × TI)} {o : Oper} {fr : List (Nat × AV)} {H : List (Nat × Res)}
variable {x y : Operand} {t e s b : Nat}
/-- a made slice that is only read -/
theorem sop_makeS {es eb : Nat} {ek : TK} {ZT : List (Nat × List Z)} {zs : List Z} {m : Int} {α : Type} (E : Enc α) (z : α) (ho : o.op = .makeSlice t x y := by rfl) (hT : TTOk P T := by assumption) (ht : look T t = some ⟨.slice e, s, b⟩ := by rfl) (he : look T e = some ⟨ek, es, eb⟩ := by rfl) (hZ : ZOk P ZT := by assumption) (hz : look ZT e = some zs := by rfl) (hE : E.cells z = zAV zs := by rfl) (hs : es = E.size := by rfl)
    (hx : Opv fr x (.lit (.int .i64 m)) := by exact opv_std) (hy : Opv fr y (.lit (.int .i64 m)) := by exact opv_std) (h0 : 0 ≤ m := by omega) (hm : eb * m ≤ 281474976710656 := by omega) (hm2 : m ≤ 281474976710656 := by omega) : SOp P o fr H (.snap (slF E (List.replicate m.toNat z))) := fun S γ w ρ h => by
  have h1 := h.lit hx (by simp [ho, Op.operands])
  have h2 := h.lit hy (by simp [ho, Op.operands])
  obtain ⟨zi, zv, hi, hiz, hzc⟩ := hZ.zero hz
  obtain ⟨_, _, j, zv', hj, hsz, hby, hjz, hcz⟩ := hT.ok e _ he
  rw [hi] at hj; injection hj with hj; subst hj
  rw [hiz] at hjz; injection hjz with hjz; subst hjz
  simp only at hsz hby hcz
  have hrun := run_make (P := P) w t e zi zv (hT.slice ht) hi hiz .i64 .i64 m m h0 (Int.le_refl _) (by rw [hby]; exact hm) (by omega)
  have hex : (execOp ρ o).run P w = .ok (.value (.slice (some ⟨w.heap.size, 0, none⟩) m.toNat m.toNat)) (w.alloc (.cells (madeCells zv.cells (m.toNat * zi.size)) e)) := by
    simp only [execOp, ho, h1, h2, Sem.run_bind, hrun, Result.andThen_ok, Sem.run_pure]
  have hsize : zi.size = zv.cells.size := by omega
  have hl := made_list zv.cells m.toNat
  rw [← hsize] at hl
  refine outc hex ⟨Ext.alloc w _, ?_⟩
  simp only [AV.holds]
  refine ⟨some ⟨w.heap.size, 0, none⟩, m.toNat, (madeCells zv.cells (m.toNat * zi.size)).toList, by rw [List.length_replicate], by rw [List.length_replicate]; exact Nat.le_refl _, fun hne => ?_, by rw [hl]; exact holds_made hE hzc _, fun u hu => ?_⟩
  · obtain ⟨ad, hA, hc⟩ := Row.new w (madeCells zv.cells (m.toNat * zi.size)).toList e (0, 0) hne
    injection hA with hA
    subst hA
    exact ⟨_, rfl, .inr ⟨Nat.le_refl _, (Array.getElem?_eq_some_iff.1 (heap_alloc_new w _)).1⟩, hc⟩
  · rw [hl] at hu
    simp only [List.mem_flatten, List.mem_replicate] at hu
    obtain ⟨l, ⟨_, rfl⟩, hu⟩ := hu
    rw [hzc] at hu
    obtain ⟨q, _, rfl⟩ := List.mem_map.1 hu
    exact zval_one q
end
theorem drop_add_app {α : Type} (a b : List α) (k : Nat) (h : k = a.length) : (a ++ b).drop k = b := by subst h; exact List.drop_left
theorem layM_split (l : List UInt8) (h : Hd) : layM l h = l ++ ([b8i h.kind] ++ (fixN 8 h.addr.toNat ++ (fixN 5 h.seq.toNat ++ (fixN 3 h.gen.toNat ++ (fixN 6 0 ++ (fixN 4 (sumOf (layB l h)).toNat ++ [0])))))) := by
  simp only [layM, layB, List.append_assoc]
theorem take_lay (l : List UInt8) (h : Hd) : (layM l h).take l.length = l := by rw [layM_split]; exact List.take_left
theorem hdAt_lay (l : List UInt8) (h : Hd) (hm : mayH h = true) (ha0 : 0 ≤ h.addr) (ha : h.addr < 18446744073709551616) : hdAt (layM l h) = h := by
  simp only [mayH, decide_eq_true_eq] at hm
  obtain ⟨m1, m2, _, m4, m5, m6, m7⟩ := hm
  have hlen : ((layM l h).length : Int) - 28 = (l.length : Int) := by rw [layM_len]; omega
  have e1 : ((l.length : Int)).toNat = l.length := rfl
  have e2 : ((l.length : Int) + 1).toNat = l.length + 1 := by omega
  have hk : nth (layM l h) l.length = b8i h.kind := by
    rw [layM_split]
    unfold nth
    rw [List.getD_eq_getElem?_getD, List.getElem?_append_right (Nat.le_refl _), Nat.sub_self]; rfl
  have hd : (layM l h).drop (l.length + 1) = fixN 8 h.addr.toNat ++ (fixN 5 h.seq.toNat ++ (fixN 3 h.gen.toNat ++ (fixN 6 0 ++ (fixN 4 (sumOf (layB l h)).toNat ++ [0])))) := by
    rw [layM_split, ← List.append_assoc]
    exact drop_add_app _ _ _ (by simp)
  have u1 : ∀ (k n : Nat) (r : List UInt8), unfN 0 ((fixN k n ++ r).take k) = n % 256 ^ k := fun k n r => by
    have := List.take_left (l₁ := fixN k n) (l₂ := r)
    rw [fixN_len] at this
    rw [this, unf_fix]; omega
  have u2 : ∀ (k n : Nat) (r : List UInt8), (fixN k n ++ r).drop k = r := fun k n r => drop_add_app _ _ _ (fixN_len k n).symm
  unfold hdAt
  rw [hlen, e1, e2, hk, hd]
  have t8 : (Int.toNat 8) = 8 := rfl
  have t5 : (Int.toNat 5) = 5 := rfl
  have t3 : (Int.toNat 3) = 3 := rfl
  rw [t8, t5, t3, u1, u2, u1, u2, u1, b8i_int]
  have a1 : h.kind % 256 = h.kind := by omega
  have a2 : ((h.addr.toNat % 256 ^ 8 : Nat) : Int) = h.addr := by
    have : h.addr.toNat % 256 ^ 8 = h.addr.toNat := Nat.mod_eq_of_lt (by omega)
    rw [this]; omega
  have a3 : ((h.seq.toNat % 256 ^ 5 : Nat) : Int) = h.seq := by
    have : h.seq.toNat % 256 ^ 5 = h.seq.toNat := Nat.mod_eq_of_lt (by omega)
    rw [this]; omega
  have a4 : ((h.gen.toNat % 256 ^ 3 : Nat) : Int) = h.gen := by
    have : h.gen.toNat % 256 ^ 3 = h.gen.toNat := Nat.mod_eq_of_lt (by omega)
    rw [this]; omega
  rw [a1, a2, a3, a4]
theorem okR_lay (l : List UInt8) (h : Hd) (hs : szd (l.length : Int) = true) (hm : mayH h = true) (ha0 : 0 ≤ h.addr) (ha : h.addr < 18446744073709551616) : okR (layM l h) = true := by
  have hlen : ((layM l h).length : Int) - 28 = (l.length : Int) := by rw [layM_len]; omega
  have e1 : ((l.length : Int)).toNat = l.length := rfl
  unfold okR
  rw [hdAt_lay l h hm ha0 ha, hlen, hs, hm, e1, take_lay]
  simp
theorem tk_lay (l : List UInt8) (h : Hd) : (layM l h).take (((layM l h).length : Int) - 28).toNat = l := by
  have hlen : (((layM l h).length : Int) - 28).toNat = l.length := by rw [layM_len]; omega
  rw [hlen, take_lay]
theorem read_lay (l : List UInt8) (h : Hd) (hs : szd (l.length : Int) = true) (hm : mayH h = true) (ha0 : 0 ≤ h.addr) (ha : h.addr < 18446744073709551616) : Con Try.prog 17 [.snap (slF encU (layM l h))] [] (fun az hz => az = .tup [.own 1080, .agg (encH.cells h), .lit (.int .i64 1)] ∧ hz = [(1080, .own 5 encU l)]) := by
  have hl : (layM l h).length ≤ 100000 := by
    rw [layM_len]
    simp only [szd, decide_eq_true_eq] at hs
    omega
  have := read_ok _ hl (okR_lay l h hs hm ha0 ha)
  rw [hdAt_lay l h hm ha0 ha, tk_lay] at this
  exact this
theorem read_layS (l : List UInt8) (h : Hd) (hs : szd (l.length : Int) = true) (hm : mayH h = true) (ha0 : 0 ≤ h.addr) (ha : h.addr < 18446744073709551616) : Con Try.prog 17 [.snap (slF encU (layM l h))] [] (fun az hz => az = .tup [.snap (slF encU l), .agg (encH.cells h), .lit (.int .i64 1)] ∧ hz = []) := con_frz (read_lay l h hs hm ha0 ha) _ rfl
end Go.Proofs.Ytljgdgkmkneloaa
