/- slices.Clone at bytes, walked: a copy of the call's own. Conditions: at most 1000000 bytes. -/
import Derived.Test.YtgdkeafdlehlaaaDoorG1
import Derived.Test.YtgdkeafdlehlaaaDoorInfo
import Derived.Test.YtgdkeafdlehlaaaDoorRows
import Derived.Lib.SliceRun
namespace Go.Proofs.YtgdkeafdlehlaaaDoor
open Go Go.RowKit
set_option linter.unusedVariables false

set_option maxHeartbeats 400000 in
theorem clone_any (A : Option Addr) (c : Nat) (l : List UInt8) (w : World) (hl : l.length ≤ 1000000) (ha : Row w A (bvs l)) :
    Calls Tryd.prog 51 #[.slice A l.length c] w fun e w' => ∃ v, e = .returned v ∧ Ext w w' ∧ Own w' w.heap.size 5 1 v l.length (bvs l) := by
  obtain ⟨i0, hi, hz0, hz1, hz2⟩ := info_parts Tryd.infoU8
  have Hi := hide hi; clear hi
  cases A with
  | none =>
    have hl0 : l = [] := by
      rcases l with _ | ⟨x, l⟩
      · rfl
      · obtain ⟨ad, h, _⟩ := ha (by simp [bvs])
        cases h
    subst hl0
    have heq := fun W => Lib.run_eql_slice_nil (P := Tryd.prog) W 38 5 none 0 c 0 0 Tryd.underlying38
    show Calls Tryd.prog 51 #[.slice none 0 c] w _
    go_enter Tryd.func51, Tryd.ntmps51
    go_wp2
    go_ret
    exact ⟨_, rfl, Ext.refl _, Own.nil _ _ _ _ none⟩
  | some ad =>
    have heq := fun W => Lib.run_eql_slice_nil (P := Tryd.prog) W 38 5 (some ad) l.length c 0 0 Tryd.underlying38
    go_enter Tryd.func51, Tryd.ntmps51
    go_wp2_with (at_builtin; refine wpList_app _ rfl _ _ 38 rfl w.heap.size 5 i0 (.int .u8 0) 1 1 Tryd.underlying38 Hi.out hz0 hz1 hz2 rfl (by decide) _ 0 [] rfl (Own.nil _ _ _ _ _) _ _ _ (bvs l) rfl ?c1 (ha.ext (Ext.alloc _ _)) (bvs_one l) ?c2 ?c3 ?c4 ?_)
    case c1 => first | rfl | simp [bvs_len]
    case c2 => omega
    case c3 => unfold maxLen; omega
    case c4 => simp
    intro v1 w1 o1 g1 _
    have hx : Ext w w1 := Below.grown (Ext.alloc w _) g1 (by simp) (fun k hk => by simp [wblk] at hk)
    go_wp2_with fail
    go_ret
    exact ⟨_, rfl, hx, by simpa using o1⟩
end Go.Proofs.YtgdkeafdlehlaaaDoor
