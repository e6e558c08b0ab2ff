/- SumFinds, walked: it returns true and writes nothing that was there. Conditions: its argument reads as bytes. -/
import Derived.Test.YtadchoffoanfjaaSumP
namespace Go.Proofs.Ytadchoffoanfjaa
open Go Go.RowKit
set_option linter.unusedVariables false

theorem split2 (l : List UInt8) (k : Nat) (h : k + 1 < l.length) : ∃ p x y q, l = p ++ x :: y :: q ∧ p.length = k :=
  ⟨l.take k, l[k], l[k + 1], l.drop (k + 2), by rw [← List.drop_eq_getElem_cons (by omega), ← List.drop_eq_getElem_cons (by omega), List.take_append_drop], by simp; omega⟩
theorem finds_parts (l : List UInt8) (k : Nat) (by_ too : UInt8) (h : k + 1 < l.length) (hne : ¬ (by_ = 0 ∧ too = 0)) :
    ∃ x y l', (bvs l)[k]? = some (bv x) ∧ ((bvs l).set k (bv (x ^^^ by_)))[k + 1]? = some (bv y) ∧ ((bvs l).set k (bv (x ^^^ by_))).set (k + 1) (bv (y ^^^ too)) = bvs l' ∧ l'.length = l.length ∧ sumOf l' ≠ sumOf l := by
  obtain ⟨p, x, y, q, rfl, rfl⟩ := split2 l k h
  refine ⟨x, y, p ++ (x ^^^ by_) :: (y ^^^ too) :: q, ?_, ?_, ?_, ?_, ?_⟩
  · simp [bvs]
  · simp only [bvs, List.map_append, List.map_cons]
    rw [List.set_append_right _ _ (by simp)]
    simp
  · simp only [bvs, List.map_append, List.map_cons]
    rw [List.set_append_right _ _ (by simp)]
    rw [List.set_append_right _ _ (by simp)]
    simp
  · simp
  · exact sum_finds p q x y by_ too hne
/-- two bytes added, as a cell -/
def bxv (x y : UInt8) : Value := .int .u8 ((x.toNat ^^^ y.toNat : Nat) : Int)
theorem bv_bxv (x y : UInt8) : bv (x ^^^ y) = bxv x y := by simp [bv, bxv]
theorem u8_xor_bv (x y : UInt8) : bits .xor .u8 (x.toNat : Int) (y.toNat : Int) = ((x.toNat ^^^ y.toNat : Nat) : Int) := by
  rw [u8_xor_nat _ _ x.toNat_lt y.toNat_lt]
theorem own_rb {w : World} {base : Nat} {e : TypeId} {v : Value} {n : Nat} {l : List UInt8} (h : Own w base e 1 v n (bvs l)) : RB w v l := by
  have hn : n = l.length := by have := h.1; rw [bvs_len] at this; omega
  obtain ⟨A, c, hv, hc, _, hr⟩ := h.row
  subst hn
  exact ⟨A, c, hv, hc, hr⟩
theorem ne_rv {a b : R} (h : a ≠ b) : ((a.toNat : Int) != (b.toNat : Int)) = true := by
  rw [bne_iff_ne]
  intro e
  exact h (BitVec.eq_of_toNat_eq (by omega))
set_option maxRecDepth 100000 in
set_option maxHeartbeats 1000000 in
theorem sumFinds_awake (A : Option Addr) (c : Nat) (l : List UInt8) (x : Int) (by_ too : UInt8) (w : World) (hc : l.length ≤ c) (hcm : c ≤ maxLen) (h : 400 < l.length ∨ l.length < 2 ∨ (by_ = 0 ∧ too = 0)) :
    Calls Try.prog 3 #[.slice A l.length c, .int .i64 x, .int .u8 (by_.toNat : Int), .int .u8 (too.toNat : Int)] w fun e w' => e = .returned (.bool true) ∧ Ext w w' := by
  unfold maxLen at hcm
  by_cases h1 : 400 < l.length
  · have i1 : (400 : Int) < (l.length : Int) := by omega
    clear h
    go_enter Try.func3, Try.ntmps3
    go_wp2_with fail
    refine (awake_any _).mono ?_
    rintro e w' ⟨rfl, hx⟩
    go_wp2_with fail
    go_ret
    exact ⟨rfl, hx⟩
  · have i1 : ¬ (400 : Int) < (l.length : Int) := by omega
    by_cases h2 : l.length < 2
    · have i2 : (l.length : Int) < 2 := by omega
      clear h
      go_enter Try.func3, Try.ntmps3
      go_wp2_with fail
      refine (awake_any _).mono ?_
      rintro e w' ⟨rfl, hx⟩
      go_wp2_with fail
      go_ret
      exact ⟨rfl, hx⟩
    · have i2 : ¬ (l.length : Int) < 2 := by omega
      obtain ⟨rfl, rfl⟩ : by_ = 0 ∧ too = 0 := by
        rcases h with h | h | h
        · omega
        · omega
        · exact h
      have z1 : (((0 : UInt8).toNat : Int) == 0) = true := rfl
      go_enter Try.func3, Try.ntmps3
      go_wp2_with fail
      refine (awake_any _).mono ?_
      rintro e w' ⟨rfl, hx⟩
      go_wp2_with fail
      go_ret
      exact ⟨rfl, hx⟩
set_option maxRecDepth 100000 in
set_option maxHeartbeats 1000000 in
theorem sumFinds_main (A : Option Addr) (c : Nat) (l : List UInt8) (x : Int) (by_ too : UInt8) (w : World) (h1 : l.length ≤ 400) (h2 : 2 ≤ l.length) (h3 : ¬ (by_ = 0 ∧ too = 0)) (hc : l.length ≤ c) (ha : Row w A (bvs l)) :
    Calls Try.prog 3 #[.slice A l.length c, .int .i64 x, .int .u8 (by_.toNat : Int), .int .u8 (too.toNat : Int)] w fun e w' => e = .returned (.bool true) ∧ Ext w w' := by
  have i1 : ¬ (400 : Int) < (l.length : Int) := by omega
  have i2 : ¬ (l.length : Int) < 2 := by omega
  have hb : RB w (.slice A l.length c) l := ⟨A, c, rfl, hc, ha⟩
  obtain ⟨i0, hi, hz0, hz1, hz2⟩ := info_parts Try.infoU8
  have Hk := low_lt x (n := l.length - 1) (by omega)
  have lc := low_any x (l.length - 1) w (by omega) (by omega)
  rw [show ((l.length - 1 : Nat) : Int) = (l.length : Int) - 1 from by omega] at lc
  generalize low x (l.length - 1) = k at *
  obtain ⟨xx, yy, l', f1, f2, f3, f4, f5⟩ := finds_parts l k by_ too (by omega) h3
  rw [bv_bxv] at f2
  rw [bv_bxv, bv_bxv] at f3
  have Lc := hide lc; clear lc
  have F1 := hide f1; have F2 := hide f2; have F3 := hide f3; have F4 := hide f4; have F5 := hide f5; have Hi := hide hi
  clear f1 f2 f3 f4 f5 hi
  have x1 := u8_xor_bv xx by_
  have x2 := u8_xor_bv yy too
  have main : ∀ (t1 t2 : Bool), ((by_.toNat : Int) == 0) = t1 → ((too.toNat : Int) == 0) = t2 → (t1 && t2) = false →
      Calls Try.prog 3 #[.slice A l.length c, .int .i64 x, .int .u8 (by_.toNat : Int), .int .u8 (too.toNat : Int)] w fun e w' => e = .returned (.bool true) ∧ Ext w w' := by
    intro t1 t2 ht1 ht2 ht
    cases t1
    all_goals cases t2
    all_goals first | (exact absurd ht (by decide)) | skip
    all_goals clear ht
    all_goals
      go_enter Try.func3, Try.ntmps3
      go_wp2_with fail
      refine Lc.out.mono ?_
      rintro e w' ⟨rfl, rfl⟩
      go_wp2_with (at_builtin; refine wpList_app _ rfl _ _ 22 rfl w'.heap.size 5 i0 (.int .u8 0) 1 1 Try.underlying22 Hi.out hz0 hz1 hz2 rfl (by decide) _ 0 [] rfl (Own.nil _ _ _ _ none) _ _ _ (bvs l) rfl ?c1 ha (bvs_one l) ?c2 ?c3 (Nat.le_refl _) ?_)
      case c1 => rw [bvs_len, Nat.mul_one]
      case c2 => omega
      case c3 => unfold maxLen; omega
      intro v' w1 hown hg1 _
      have hx1 : Ext w' w1 := ext_of_grown hg1
      clear hg1
      obtain ⟨g, cc, hv, hcc, hcm, hbg, hgl⟩ := hown.form (by omega)
      subst hv
      have c1 : w1.cell? ⟨g, k, none⟩ = some (.int .u8 (xx.toNat : Int)) := (hown.cellAt (by omega) (by omega)).trans F1.out
      have z1 := hown.frozenAt (by omega) k
      have o2 := hown.stored (by omega) k (bxv xx by_)
      have c2 : (w1.setCell ⟨g, k, none⟩ (.int .u8 ((xx.toNat ^^^ by_.toNat : Nat) : Int))).cell? ⟨g, k + 1, none⟩ = some (.int .u8 (yy.toNat : Int)) := (o2.cellAt (by omega) (by omega)).trans F2.out
      have z2 : (w1.setCell ⟨g, k, none⟩ (.int .u8 ((xx.toNat ^^^ by_.toNat : Nat) : Int))).frozen? ⟨g, k + 1, none⟩ = false := o2.frozenAt (by omega) (k + 1)
      have o3 := o2.stored (by omega) (k + 1) (bxv yy too)
      rw [F3.out] at o3
      have O3 := hide (own_rb o3)
      have hx3 : Ext w' ((w1.setCell ⟨g, k, none⟩ (bxv xx by_)).setCell ⟨g, k + 1, none⟩ (bxv yy too)) := Below.setCell (Below.setCell hx1 hbg _) hbg _
      have Hx3 := hide hx3
      clear o2 o3 hown hx1 hx3
      go_wp2_with fail
      refine (of_any _ _ [.slice (some ⟨g, 0, none⟩) l.length cc] [l'] _ (by simp) (by intro z hz; simp at hz; subst hz; rw [F4.out]; omega) (Row.newAt [Value.slice (some ⟨g, 0, none⟩) l.length cc] _ _ (by simp [World.setCell])) (RBs.cons (O3.out.ext (Ext.alloc _ _)) (RBs.nil _))).mono ?_
      rintro e w' ⟨rfl, rfl⟩
      go_wp2_with fail
      refine (of_any _ _ [.slice A l.length c] [l] _ (by simp) (by intro z hz; simp at hz; subst hz; omega) (Row.newAt [Value.slice A l.length c] _ _ (by simp [World.setCell])) (RBs.cons (hb.ext (Hx3.out.trans ((Ext.alloc _ _).trans (Ext.alloc _ _)))) (RBs.nil _))).mono ?_
      rintro e w' ⟨rfl, rfl⟩
      have hne := ne_rv F5.out
      go_wp2_with fail
      refine (awake_any _).mono ?_
      rintro e w' ⟨rfl, hx⟩
      go_wp2_with fail
      go_ret
      exact ⟨rfl, (Hx3.out.trans ((Ext.alloc _ _).trans (Ext.alloc _ _))).trans hx⟩
  refine main _ _ rfl rfl ?_
  rw [Bool.and_eq_false_iff]
  by_cases hb0 : by_ = 0
  · right
    rw [beq_eq_false_iff_ne]
    intro e
    exact h3 ⟨hb0, UInt8.toNat.inj (by simp; omega)⟩
  · left
    rw [beq_eq_false_iff_ne]
    intro e
    exact hb0 (UInt8.toNat.inj (by simp; omega))
theorem sumFinds_any (A : Option Addr) (c : Nat) (l : List UInt8) (x : Int) (by_ too : UInt8) (w : World) (hc : l.length ≤ c) (hcm : c ≤ maxLen) (ha : Row w A (bvs l)) :
    Calls Try.prog 3 #[.slice A l.length c, .int .i64 x, .int .u8 (by_.toNat : Int), .int .u8 (too.toNat : Int)] w fun e w' => e = .returned (.bool true) ∧ Ext w w' := by
  by_cases h : 400 < l.length ∨ l.length < 2 ∨ (by_ = 0 ∧ too = 0)
  · exact sumFinds_awake A c l x by_ too w hc hcm h
  · exact sumFinds_main A c l x by_ too w (by omega) (by omega) (fun e => h (.inr (.inr e))) hc ha
end Go.Proofs.Ytadchoffoanfjaa
