/- awake of the pack statements, walked: it returns true. Conditions: none. -/
import Derived.Test.YtobbgjgcgohdgaaPkU
import Derived.Test.YtobbgjgcgohdgaaA1
namespace Go.Proofs.Ytobbgjgcgohdgaa
open Go Go.RowKit
set_option linter.unusedVariables false

/-- the value reads as these bytes, and its room may be -/
def RC (w : World) (v : Value) (l : List UInt8) : Prop := ∃ A c, v = .slice A l.length c ∧ l.length ≤ c ∧ c ≤ maxLen ∧ Row w A (bvs l)
theorem RC.ext {w w' : World} {v : Value} {l : List UInt8} (h : RC w v l) (e : Ext w w') : RC w' v l := by
  obtain ⟨A, c, hv, hc, hm, hr⟩ := h
  exact ⟨A, c, hv, hc, hm, hr.ext e⟩
theorem RC.rb {w : World} {v : Value} {l : List UInt8} (h : RC w v l) : RB w v l := by
  obtain ⟨A, c, hv, hc, hm, hr⟩ := h
  exact ⟨A, c, hv, hc, hr⟩
theorem RC.nil (w : World) : RC w (.slice none 0 0) [] := ⟨none, 0, rfl, Nat.le_refl _, by unfold maxLen; omega, Row.nil _ _⟩
theorem Own.rc {w : World} {b : Nat} {e : TypeId} {v : Value} {l : List UInt8} (h : Own w b e 1 v l.length (bvs l)) : RC w v l := h.row
theorem put_v (w : World) (v : Value) (l : List UInt8) (n : Nat) (hl : l.length ≤ 900000) (hn : n < 18446744073709551616) (h : RB w v l) :
    Calls Try.prog 9 #[v, .int .u64 (n : Int)] w fun e w' => ∃ v, e = .returned v ∧ Ext w w' ∧ Own w' w.heap.size 5 1 v (l ++ putN n).length (bvs (l ++ putN n)) := by
  obtain ⟨A, c, rfl, hc, hr⟩ := h
  exact put_any A c l n w hl hn hr
theorem get_v (w : World) (v : Value) (l : List UInt8) (hl : l.length ≤ 900000) (h : ∃ A c, v = .slice A l.length c ∧ l.length ≤ c ∧ c ≤ maxLen ∧ Row w A (bvs l)) {n : Nat} {r : List UInt8} (hg : getN l = some (n, r)) :
    Calls Try.prog 10 #[v] w fun e w' => ∃ v, e = .returned (.tuple #[.int .u64 (n : Int), v, .bool true]) ∧ Ext w w' ∧ Own w' w.heap.size 5 1 v r.length (bvs r) := by
  obtain ⟨A, c, rfl, hc, hc2, hr⟩ := h
  refine (get_any A c l w hl hc hc2 hr).mono ?_
  rintro e w' ⟨hx, h⟩
  rw [hg] at h
  obtain ⟨v, he, ho⟩ := h
  exact ⟨v, he, hx, ho⟩
theorem get_none (w : World) (v : Value) (l : List UInt8) (hl : l.length ≤ 900000) (h : ∃ A c, v = .slice A l.length c ∧ l.length ≤ c ∧ c ≤ maxLen ∧ Row w A (bvs l)) (hg : getN l = none) :
    Calls Try.prog 10 #[v] w fun e w' => e = .returned (.tuple #[.int .u64 0, .slice none 0 0, .bool false]) ∧ Ext w w' := by
  obtain ⟨A, c, rfl, hc, hc2, hr⟩ := h
  refine (get_any A c l w hl hc hc2 hr).mono ?_
  rintro e w' ⟨hx, h⟩
  rw [hg] at h
  exact ⟨h, hx⟩
theorem same_v (w : World) (u v : Value) (l m : List UInt8) (hu : RB w u l) (hv : RB w v m) (hl : l.length ≤ 1000000) (hm : m.length ≤ 1000000) :
    Calls Try.prog 11 #[u, v] w fun e w' => e = .returned (.bool (decide (l = m))) ∧ Ext w w' := by
  obtain ⟨A, c, rfl, _, ha⟩ := hu
  obtain ⟨B, d, rfl, _, hb⟩ := hv
  refine (sameBytes_any A B c d l m w hl hm ha hb).mono ?_
  rintro e w' ⟨he, n, rfl⟩
  exact ⟨he, Ext.drewN _ _⟩
theorem Own.rb {w : World} {b : Nat} {e : TypeId} {v : Value} {l : List UInt8} (h : Own w b e 1 v l.length (bvs l)) : RB w v l := by
  obtain ⟨A, c, hv, hc, _, hr⟩ := h.row
  subst hv
  exact ⟨A, c, rfl, hc, hr⟩
theorem get_172 : getN [172, 2, 9] = some (300, [9]) := by decide +kernel
theorem put_300 : ([] : List UInt8) ++ putN 300 = [172, 2] := by decide +kernel
theorem fix_258 : ([] : List UInt8) ++ fixN 2 258 = [1, 2] := by decide +kernel
set_option maxRecDepth 100000 in
set_option maxHeartbeats 1000000 in
theorem awake_any (w : World) :
    Calls Try.prog 8 #[] w fun e w' => e = .returned (.bool true) ∧ Ext w w' := by
  go_enter Try.func8, Try.ntmps8
  go_wp2_with fail
  refine (get_v _ _ [172, 2, 9] (by simp) ⟨_, _, rfl, by simp, by unfold maxLen; simp, Row.newAt (bvs [172, 2, 9]) _ _ rfl⟩ get_172).mono ?_
  rintro e w1 ⟨v, rfl, hx, ho⟩
  have Hx := hide ((Ext.alloc _ _).trans hx); have Ho := hide ho.rb; clear hx ho
  go_wp2_with fail
  refine (put_any none 0 [] 300 w1 (by simp) (by omega) (Row.nil _ _)).mono ?_
  rintro e w2 ⟨u, rfl, hx, ho⟩
  rw [put_300] at ho
  have Hx2 := hide (Hx.out.trans hx); have Hu := hide ho.rb; have Hr := hide (Ho.out.ext hx); clear hx ho
  clear Hx Ho
  go_wp2_with fail
  refine (same_v _ _ _ [172, 2] [172, 2] (Hu.out.ext (Ext.alloc _ _)) ⟨_, _, rfl, by simp, Row.newAt (bvs [172, 2]) _ _ rfl⟩ (by simp) (by simp)).mono ?_
  rintro e w3 ⟨rfl, hx⟩
  have Hx3 := hide ((Hx2.out.trans (Ext.alloc _ _)).trans hx); have Hr3 := hide ((Hr.out.ext (Ext.alloc _ _)).ext hx); clear hx
  clear Hx2 Hr Hu
  go_wp2_with fail
  refine (same_v _ _ _ [9] [9] (Hr3.out.ext (Ext.alloc _ _)) ⟨_, _, rfl, by simp, Row.newAt (bvs [9]) _ _ rfl⟩ (by simp) (by simp)).mono ?_
  rintro e w4 ⟨rfl, hx⟩
  have Hx4 := hide ((Hx3.out.trans (Ext.alloc _ _)).trans hx); clear hx
  clear Hx3 Hr3
  go_wp2_with fail
  refine (fix_any none 0 [] 258 2 w4 (by simp) (by omega) (by omega) (Row.nil _ _)).mono ?_
  rintro e w5 ⟨u5, rfl, hx, ho⟩
  rw [fix_258] at ho
  have Hx5 := hide (Hx4.out.trans hx); have Hu := hide ho.rb; clear hx ho
  go_wp2_with fail
  refine (same_v _ _ _ [1, 2] [1, 2] (Hu.out.ext (Ext.alloc _ _)) ⟨_, _, rfl, by simp, Row.newAt (bvs [1, 2]) _ _ rfl⟩ (by simp) (by simp)).mono ?_
  rintro e w6 ⟨rfl, hx⟩
  have Hx6 := hide ((Hx5.out.trans (Ext.alloc _ _)).trans hx); clear hx
  go_wp2_with fail
  go_ret
  exact ⟨rfl, Hx6.out⟩
end Go.Proofs.Ytobbgjgcgohdgaa
