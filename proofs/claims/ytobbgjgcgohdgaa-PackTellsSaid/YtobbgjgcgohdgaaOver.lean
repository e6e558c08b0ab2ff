/- OverBytes, walked: it writes over a slice that the call made, and nothing else. Conditions: at most 1000000 bytes. -/
import Derived.Test.YtobbgjgcgohdgaaA1
import Derived.Test.YtobbgjgcgohdgaaApp
import Derived.Test.YtobbgjgcgohdgaaInfo
namespace Go.Proofs.Ytobbgjgcgohdgaa
open Go Go.RowKit
set_option linter.unusedVariables false

theorem grownBy_join {a w w' : World} {row : Option Nat} (h : a.grownBy w row) (k : w.grownBy w' row) : a.grownBy w' row :=
  ⟨k.os.trans h.os, k.tape.trans h.tape, k.output.trans h.output, Nat.le_trans h.size k.size, fun i hi hr => (k.block i (Nat.lt_of_lt_of_le hi h.size) hr).trans (h.block i hi hr)⟩
theorem grownBy_set (w : World) (a : Addr) (u : Value) : w.grownBy (w.setCell a u) (some a.block) :=
  ⟨(Below.setCell (Below.refl 0 w) (Nat.zero_le _) u).os, (Below.setCell (Below.refl 0 w) (Nat.zero_le _) u).tape, (Below.setCell (Below.refl 0 w) (Nat.zero_le _) u).output, (Below.setCell (Below.refl 0 w) (Nat.zero_le _) u).size,
   fun k _ hk => heap_setCell_other w a k u (fun e => hk (by rw [e]))⟩
set_option maxHeartbeats 1000000 in
theorem over_any (base n : Nat) (v : Value) (xs : List Value) (w : World) (hn : n ≤ 1000000) (hb : base ≤ w.heap.size) (ho : Own w base 5 1 v n xs) :
    Calls Try.prog 20 #[v] w fun e w' => (∃ r, e = .returned r) ∧ w.grownBy w' (wblk v) := by
  obtain ⟨i0, hi, hz0, hz1, hz2⟩ := info_parts Try.infoU8
  have Hi := hide hi; clear hi
  by_cases hn0 : n = 0
  · subst hn0
    have Ho := hide ho
    obtain ⟨A, c, rfl, -⟩ := ho.row
    clear ho
    go_enter Try.func20, Try.ntmps20
    go_wp2_with fail
    refine wp_loop_rounds 1 ?_
    rw [rounds_succ]
    go_wp2_with (at_builtin; refine wpList_app _ rfl _ _ 23 rfl base 5 i0 (.int .u8 0) 1 1 Try.underlying23 Hi.out hz0 hz1 hz2 rfl (by decide) _ _ _ rfl (Ho.out.ext (Ext.alloc _ _)) _ _ _ [Value.int .u8 238] rfl (rfl) (Row.newAt [Value.int .u8 238] _ _ rfl) (one_single rfl) ?c2 ?c3 ?c4 ?_)
    try case c2 => omega
    try case c3 => unfold maxLen; omega
    try case c4 => simp; omega

    intro v' w2 o2 g2 _
    go_wp2_with fail
    first | go_end0 | refine bodyPost_ret (results_none rfl _ _ _) rfl ?_
    refine ⟨⟨_, rfl⟩, ?_⟩
    exact grownBy_join (World.grownBy_alloc w _ _) g2
  · obtain ⟨g, c, rfl, hnc, hcm, hbg, hgs⟩ := ho.form (by omega)
    unfold maxLen at hcm
    have Ho := hide ho; clear ho
    go_enter Try.func20, Try.ntmps20
    go_wp2_with fail
    go_loopw [2] (fun i wr => ∃ (k : Nat) (ys : List Value), k ≤ n ∧ i = .int .i64 (k : Int) ∧ w.grownBy wr (some g) ∧ Own wr base 5 1 (.slice (some ⟨g, 0, none⟩) n c) n ys) (fun i _ => n - (intOf i).toNat)
    case atStart => exact ⟨0, xs, by omega, rfl, World.grownBy.refl _ _, Ho.out⟩
    case round =>
      obtain ⟨k, ys, hk, rfl, hg, ho⟩ := hrel
      clear Ho
      by_cases hlt : k < n
      · have i1 : (k : Int) < (n : Int) := by omega
        obtain ⟨u, hc⟩ : ∃ u, wr.cell? ⟨g, k, none⟩ = some u := by
          have hc := ho.cellAt (by omega) (j := k) (by omega)
          rw [List.getElem?_eq_getElem (by rw [ho.1]; omega)] at hc
          exact ⟨_, hc⟩
        have hf := ho.frozenAt (by omega) k
        have Ho := hide ho; have Hg := hide hg; clear ho hg
        go_wp2_with fail
        go_roundw
        case rel => exact ⟨k + 1, _, by omega, by go_num, grownBy_join Hg.out (grownBy_set _ ⟨g, k, none⟩ _), Ho.out.stored (by omega) k _⟩
        case measure => simp [intOf]; omega
      · have i1 : ¬ (k : Int) < (n : Int) := by omega
        have Ho := hide ho; have Hg := hide hg; clear ho hg
        go_wp2_with (at_builtin; refine wpList_app _ rfl _ _ 23 rfl base 5 i0 (.int .u8 0) 1 1 Try.underlying23 Hi.out hz0 hz1 hz2 rfl (by decide) _ _ _ rfl (Ho.out.ext (Ext.alloc _ _)) _ _ _ [Value.int .u8 238] rfl (rfl) (Row.newAt [Value.int .u8 238] _ _ rfl) (one_single rfl) ?c2 ?c3 ?c4 ?_)
        try case c2 => omega
        try case c3 => unfold maxLen; omega
        try case c4 => (have := Hg.out.size; simp; omega)

        intro v' w2 o2 g2 _
        go_wp2_with fail
        first | go_end0 | refine bodyPost_ret (results_none rfl _ _ _) rfl ?_
        refine ⟨⟨_, rfl⟩, ?_⟩
        have hw : wblk (.slice (some ⟨g, 0, none⟩) n c) = some g := by
          cases c with
          | zero => omega
          | succ k => rfl
        rw [hw] at g2 ⊢
        exact grownBy_join Hg.out (grownBy_join (World.grownBy_alloc _ _ _) g2)
end Go.Proofs.Ytobbgjgcgohdgaa
