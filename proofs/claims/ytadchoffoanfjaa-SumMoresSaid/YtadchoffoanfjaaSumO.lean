/- SumMores, walked: it returns true and writes nothing that was there. Conditions: its arguments read as bytes. -/
import Derived.Test.YtadchoffoanfjaaSumF
namespace Go.Proofs.Ytadchoffoanfjaa
open Go Go.RowKit
set_option linter.unusedVariables false

theorem num_nil (w : World) : Calls Try.prog 17 #[.nilIface] w fun e w' => e = .returned (.int .i64 0) ∧ w' = w := by
  go_enter Try.func17, Try.ntmps17
  go_wp2
  go_ret
  exact ⟨rfl, rfl⟩
theorem mores_test (s t : R) (l : List UInt8) : ((((more s l).toNat : Int) == ((more t l).toNat : Int)) == (((s.toNat : Int) == (t.toNat : Int)))) = true := by
  have h : ∀ a b : R, ((a.toNat : Int) == (b.toNat : Int)) = decide (a = b) := by
    intro a b
    rw [Bool.eq_iff_iff]
    simp only [beq_iff_eq, decide_eq_true_eq]
    constructor
    · intro e; exact BitVec.eq_of_toNat_eq (by omega)
    · rintro rfl; rfl
  rw [h, h, beq_iff_eq, decide_eq_decide]
  exact more_inj l
set_option maxRecDepth 100000 in
set_option maxHeartbeats 1000000 in
theorem sumMores_main (s t : R) (A : Option Addr) (c : Nat) (l : List UInt8) (B : Option Addr) (d : Nat) (m : List UInt8) (w : World) (h1 : l.length ≤ 200) (h2 : m.length ≤ 200) (hc : l.length ≤ c) (hd : m.length ≤ d) (ha : Row w A (bvs l)) (hb : Row w B (bvs m)) :
    Calls Try.prog 7 #[.int .u32 (s.toNat : Int), .int .u32 (t.toNat : Int), .slice A l.length c, .slice B m.length d] w fun e w' => e = .returned (.bool true) ∧ Ext w w' := by
  have i1 : ¬ (200 : Int) < (l.length : Int) := by omega
  have i2 : ¬ (200 : Int) < (m.length : Int) := by omega
  obtain ⟨i0, hi, hz0, hz1, hz2⟩ := info_parts Try.infoU8
  have Hi := hide hi; clear hi
  go_enter Try.func7, Try.ntmps7
  go_wp2_with (at_builtin; refine wpList_app _ rfl _ _ 22 rfl w.heap.size 5 i0 (.int .u8 0) 1 1 Try.underlying22 Hi.out hz0 hz1 hz2 rfl (by decide) _ 0 [] rfl (Own.nil _ _ _ _ none) _ _ _ (bvs l) rfl ?c1 ha (bvs_one l) ?c2 ?c3 (Nat.le_refl _) ?_)
  case c1 => simp [bvs_len]
  case c2 => omega
  case c3 => unfold maxLen; omega
  intro v1 w1 o1 g1 _
  have hx1 : Ext w w1 := ext_of_grown g1
  clear g1
  go_wp2_with (at_builtin; refine wpList_app _ rfl _ _ 22 rfl w.heap.size 5 i0 (.int .u8 0) 1 1 Try.underlying22 Hi.out hz0 hz1 hz2 rfl (by decide) _ _ _ rfl o1 _ _ _ (bvs m) rfl ?c1 (hb.ext hx1) (bvs_one m) ?c2 ?c3 hx1.size ?_)
  case c1 => simp [bvs_len]
  case c2 => omega
  case c3 => unfold maxLen; omega
  intro v2 w2 o2 g2 _
  have hx2 : Ext w w2 := Below.grown hx1 g2 hx1.size (fun k hk => (o1.lt hk).1)
  rw [← bvs_append] at o2
  obtain ⟨A2, c2, hv2, hc2, hcm2, hr2⟩ := o2.row
  subst hv2
  have hn2 : l.length + m.length = (l ++ m).length := by simp
  clear g2 o1 o2
  rw [hn2] at hc2 ⊢
  have Hx2 := hide hx2; have Hr2 := hide hr2; clear hx1 hx2 hr2
  have hlm2 : (l ++ m).length ≤ 400 := by simp; omega
  have m1 := more_append s l m
  have m0 := more_nil s
  generalize hlm : l ++ m = lm at *
  clear hn2
  have Hlm := hide hlm; have M1 := hide m1; have M0 := hide m0; clear hlm m1 m0
  go_wp2_with fail
  refine (more_any _ _ lm s _ (by omega) Hr2.out).mono ?_
  rintro e w' ⟨rfl, rfl⟩
  go_wp2_with fail
  refine (more_any _ _ lm t _ (by omega) Hr2.out).mono ?_
  rintro e w' ⟨rfl, rfl⟩
  go_wp2_with fail
  refine (more_any _ _ l s _ (by omega) (ha.ext Hx2.out)).mono ?_
  rintro e w' ⟨rfl, rfl⟩
  go_wp2_with fail
  refine (more_any _ _ m (more s l) _ (by omega) (hb.ext Hx2.out)).mono ?_
  rintro e w' ⟨rfl, rfl⟩
  rw [← M1.out]
  have q1 := mores_test s t lm
  go_wp2_with fail
  refine (more_any none 0 [] s _ (by simp) (Row.nil _ _)).mono ?_
  rintro e w' ⟨rfl, rfl⟩
  rw [M0.out]
  go_wp2_with fail
  clear q1
  refine (of_any _ _ [.slice A l.length c, .slice B m.length d] [l, m] _ (by simp) (by intro z hz; simp at hz; rcases hz with rfl | rfl <;> omega) (Row.newAt [Value.slice A l.length c, Value.slice B m.length d] _ _ rfl)
    (RBs.cons ⟨_, _, rfl, hc, ha.ext (Hx2.out.trans (Ext.alloc _ _))⟩ (RBs.cons ⟨_, _, rfl, hd, hb.ext (Hx2.out.trans (Ext.alloc _ _))⟩ (RBs.nil _)))).mono ?_
  rintro e w' ⟨rfl, rfl⟩
  rw [show [l, m].flatten = lm from by rw [← Hlm.out]; simp]
  go_wp2_with fail
  refine (of_any _ _ [.slice A2 lm.length c2] [lm] _ (by simp) (by intro z hz; simp at hz; subst hz; omega) (Row.newAt [Value.slice A2 lm.length c2] _ _ (by simp))
    (RBs.cons ⟨_, _, rfl, hc2, Hr2.out.ext ((Ext.alloc _ _).trans (Ext.alloc _ _))⟩ (RBs.nil _))).mono ?_
  rintro e w' ⟨rfl, rfl⟩
  rw [show [lm].flatten = lm from by simp]
  go_wp2_with fail
  refine (num_nil _).mono ?_
  rintro e w' ⟨rfl, rfl⟩
  go_wp2_with fail
  refine (awake_any _).mono ?_
  rintro e w' ⟨rfl, hx⟩
  go_wp2_with fail
  go_ret
  exact ⟨rfl, (Hx2.out.trans ((Ext.alloc _ _).trans (Ext.alloc _ _))).trans hx⟩


set_option maxRecDepth 100000 in
set_option maxHeartbeats 1000000 in
theorem sumMores_any (s t : R) (A : Option Addr) (c : Nat) (l : List UInt8) (B : Option Addr) (d : Nat) (m : List UInt8) (w : World) (hc : l.length ≤ c) (hcm : c ≤ maxLen) (ha : Row w A (bvs l)) (hd : m.length ≤ d) (hdm : d ≤ maxLen) (hb : Row w B (bvs m)) :
    Calls Try.prog 7 #[.int .u32 (s.toNat : Int), .int .u32 (t.toNat : Int), .slice A l.length c, .slice B m.length d] w fun e w' => e = .returned (.bool true) ∧ Ext w w' := by
  by_cases h1 : 200 < l.length
  · have i1 : (200 : Int) < (l.length : Int) := by omega
    unfold maxLen at hcm
    go_enter Try.func7, Try.ntmps7
    go_wp2_with fail
    refine (awake_any _).mono ?_
    rintro e w' ⟨rfl, hx⟩
    go_wp2_with fail
    go_ret
    exact ⟨rfl, hx⟩
  · by_cases h2 : 200 < m.length
    · have i1 : ¬ (200 : Int) < (l.length : Int) := by omega
      have i2 : (200 : Int) < (m.length : Int) := by omega
      unfold maxLen at hdm
      go_enter Try.func7, Try.ntmps7
      go_wp2_with fail
      refine (awake_any _).mono ?_
      rintro e w' ⟨rfl, hx⟩
      go_wp2_with fail
      go_ret
      exact ⟨rfl, hx⟩
    · exact sumMores_main s t A c l B d m w (by omega) (by omega) hc hd ha hb
end Go.Proofs.Ytadchoffoanfjaa
