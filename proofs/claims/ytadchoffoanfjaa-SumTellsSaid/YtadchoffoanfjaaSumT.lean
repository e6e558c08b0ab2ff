/- SumTells, walked: it returns true and writes nothing that was there. Conditions: its arguments read as parts of bytes and bytes. -/
import Derived.Test.YtadchoffoanfjaaSumP
namespace Go.Proofs.Ytadchoffoanfjaa
open Go Go.RowKit
set_option linter.unusedVariables false

set_option maxRecDepth 100000 in
set_option maxHeartbeats 1000000 in
theorem sumTells_any (A : Option Addr) (c : Nat) (vs : List Value) (ls : List (List UInt8)) (r : R) (B : Option Addr) (d : Nat) (l : List UInt8) (w : World) (hl1 : ls.length ≤ c) (hc : c ≤ maxLen) (ha : Row w A vs) (hp : RBs w vs ls) (hls : ∀ l ∈ ls, l.length ≤ maxLen)
    (hl2 : l.length ≤ d) (hd : d ≤ maxLen) (hb : Row w B (bvs l)) :
    Calls Try.prog 5 #[.slice A ls.length c, .int .u32 (r.toNat : Int), .slice B l.length d] w fun e w' => e = .returned (.bool true) ∧ Ext w w' := by
  by_cases hmany : 10 < ls.length
  · go_enter Try.func5, Try.ntmps5
    go_wp2_with fail
    refine (great_many A ls.length c w 10 300 (by omega) (by omega) hmany).mono ?_
    rintro e w' ⟨rfl, rfl⟩
    go_wp2_with fail
    refine (awake_any _).mono ?_
    rintro e w' ⟨rfl, hx⟩
    go_wp2_with fail
    go_ret
    exact ⟨rfl, hx⟩
  · cases hany : ls.any (fun l => decide (300 < l.length)) with
    | true =>
      go_enter Try.func5, Try.ntmps5
      go_wp2_with fail
      rw [← hp.1]
      refine (great_few A c vs ls w 10 300 hls (by omega) (by omega) (by rw [hp.1]; omega) ha hp).mono ?_
      rintro e w' ⟨rfl, rfl⟩
      rw [hany]
      go_wp2_with fail
      refine (awake_any _).mono ?_
      rintro e w' ⟨rfl, hx⟩
      go_wp2_with fail
      go_ret
      exact ⟨rfl, hx⟩
    | false =>
      have hls3 : ∀ l ∈ ls, l.length ≤ 1000000 := by
        intro x hx
        have := List.any_eq_false.1 hany x hx
        simp at this; omega
      by_cases hbig : 300 < l.length
      · have i1 : (300 : Int) < (l.length : Int) := by omega
        go_enter Try.func5, Try.ntmps5
        go_wp2_with fail
        rw [← hp.1]
        refine (great_few A c vs ls w 10 300 hls (by omega) (by omega) (by rw [hp.1]; omega) ha hp).mono ?_
        rintro e w' ⟨rfl, rfl⟩
        rw [hany]
        go_wp2_with fail
        refine (awake_any _).mono ?_
        rintro e w' ⟨rfl, hx⟩
        go_wp2_with fail
        go_ret
        exact ⟨rfl, hx⟩
      · have i1 : ¬ (300 : Int) < (l.length : Int) := by omega
        have Hany := hide hany; clear hany
        go_enter Try.func5, Try.ntmps5
        go_wp2_with fail
        rw [← hp.1]
        refine (great_few A c vs ls w 10 300 hls (by omega) (by omega) (by rw [hp.1]; omega) ha hp).mono ?_
        rintro e w' ⟨rfl, rfl⟩
        rw [Hany.out]
        go_wp2_with fail
        refine (lendBytes_any B d l _ (by omega) hb).mono ?_
        rintro e w1 ⟨g, rfl, hg, hx1, hb1⟩
        go_wp2_with fail
        refine (of_any A c vs ls w1 (by rw [hp.1]; omega) hls3 (ha.ext hx1) (hp.ext hx1)).mono ?_
        rintro e w' ⟨rfl, rfl⟩
        go_wp2_with fail
        refine (refOf_any A c vs ls _ (by rw [hp.1]; omega) hls3 (ha.ext hx1) (hp.ext hx1)).mono ?_
        rintro e w' ⟨rfl, rfl⟩
        go_wp2_with fail
        refine (more_any _ _ l r _ (by omega) (lent_row hb1)).mono ?_
        rintro e w' ⟨rfl, rfl⟩
        go_wp2_with fail
        refine (refMore_any _ _ l r _ (by omega) (hb.ext hx1)).mono ?_
        rintro e w' ⟨rfl, rfl⟩
        go_wp2_with fail
        refine (keptBytes_any g B d l _ (by omega) hb1 (hb.ext hx1)).mono ?_
        rintro e w' ⟨rfl, n, rfl⟩
        go_wp2_with fail
        refine (awake_any _).mono ?_
        rintro e w' ⟨rfl, hx⟩
        go_wp2_with fail
        go_ret
        exact ⟨rfl, (hx1.trans (Ext.drewN _ _)).trans hx⟩
end Go.Proofs.Ytadchoffoanfjaa
