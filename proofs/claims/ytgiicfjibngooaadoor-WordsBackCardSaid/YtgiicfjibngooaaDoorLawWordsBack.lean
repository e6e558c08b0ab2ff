/- WordsBack returns true at every input. Conditions: none beyond the row, which lists what the package variables that are read hold at the start (the card ties it to the text). -/
import Derived.Test.YtgiicfjibngooaaDoorKn
import Derived.Test.YtgiicfjibngooaaDoorHs
import Derived.Test.YtgiicfjibngooaaDoorRs
import Derived.Lib.SmallJoins
import Derived.Test.YtgiicfjibngooaaDoorG2
import Derived.Test.YtgiicfjibngooaaDoorDoor24
import Derived.Test.YtgiicfjibngooaaDoorCards
import Derived.Test.YtgiicfjibngooaaDoorTie
import Derived.ShutString
import Derived.ChangeOld
import Derived.SevenTiedAt
import Derived.LaidLaws
namespace Go.Proofs.YtgiicfjibngooaaDoor.wordsBack
open Go.ChangeShapes Go.WideShapes Go.ChangeAt Go.RowKit
open Go.ChangeMaps (open_string shut_string)
set_option linter.unusedVariables false
theorem own : ownKnob Tryd.prog.godebug = none := by kernel_rfl
theorem laidOut : laidOutB Tryd.prog = true := by kernel_rfl
set_option maxRecDepth 100000 in
theorem lifted (os : Os) (started : os.Started) (H : Type) (enc : TypeId × Value → H) :
    ReturnsInHanded {} Tryd.checked os 5 .any (fun w args => (Rows.wordsBackSpec.pre enc Tryd.prog Tryd.f5 Rows.wordsBackRow.domain false w args ∧ laidMetH Tryd.prog Rows.wordsBackRow.laid w) ∧ sizedMet enc Tryd.prog Tryd.f5 (OpenSpec.ofChange Rows.wordsBackSpec) false w args) (Rows.wordsBackSpec.post enc Tryd.prog Tryd.f5 false true false false) := by
  refine returnsInHanded_of_change_and_shaped (C := Tryd.checked) (X := fun w _ => laidMetH Tryd.prog Rows.wordsBackRow.laid w) (fun _ _ _ hh h => h.of_heap hh) own started (by kernel_rfl) Tryd.func5
    (ChangeSpec.witness_shaped (enc := enc) (C := Tryd.checked) (os := os) (X := fun w _ => laidMetH Tryd.prog Rows.wordsBackRow.laid w) false (laidWorld os) #[.agg #[.int .i64 0, .int .u64 0, .slice none 0 0, .int .i64 0], .int .i64 0] 8 rfl (laid_shaped os _) (by kernel_rfl) (by kernel_rfl) (by kernel_rfl) (laid_met os _)) ?_
  intro W base args ds gs before hval0 hW hcnd _ hL hsh _
  have hval : ∀ (j : Nat) t v, Tryd.f5.params[j]? = some t → args[j]? = some v → Value.okWide Tryd.prog W .any base t v := hval0
  have hW' := hW
  obtain ⟨p, q, hA0, hV, rfl, hfz, hnd⟩ := hW
  have hA : DataW.TrodAll enc Tryd.prog W 0 (fun _ => true) true Tryd.f5.params.toList args.toList ds p := hA0
  rw [Tryd.params5] at hA hval
  obtain ⟨v0, vs0, d0, ds0, p0, q0, hargs, rfl, rfl, h0, r0⟩ := trodAll_cons hA
  obtain ⟨v1, vs1, d1, ds1, p1, q1, rfl, rfl, rfl, h1, r1⟩ := trodAll_cons r0
  obtain ⟨rfl, rfl, rfl⟩ := trodAll_nil r1
  obtain rfl : args = #[v0, v1] := by cases args; simp_all
  obtain ⟨rfl, rfl⟩ := trodVars_none hV
  have k0 := h0
  have lt0 : ∀ x ∈ p0, x.block < W.heap.size := by obtain ⟨m, hm⟩ := k0; exact DataW.trod_lt m _ _ _ hm
  have k1 := h1
  have lt1 : ∀ x ∈ p1, x.block < W.heap.size := by obtain ⟨m, hm⟩ := k1; exact DataW.trod_lt m _ _ _ hm
  obtain ⟨u00, u01, u02, u03, q00, q01, q02, q03, n0, rfl, rfl, rfl, t00, t01, t02, t03⟩ := Go.Joins.open_agg4 Tryd.underlying32 (by kernel_rfl) (by kernel_rfl) (hval 0 32 v0 rfl rfl) h0
  obtain ⟨g00, e00, _, w00⟩ := DataW.trod_int Tryd.underlying3 t00
  obtain ⟨g01, e01, _, w01⟩ := DataW.trod_int Tryd.underlying29 t01
  obtain ⟨a0, cap0, l0, rfl, hl0, hm0, hr0⟩ := open_bytes_cells Tryd.underlying30 Tryd.underlying5 (by kernel_rfl) t02
  obtain ⟨g03, e03, _, w03⟩ := DataW.trod_int Tryd.underlying3 t03
  injection e00 with e00; injection e01 with e01; injection e03 with e03
  subst e00 e01 e03
  obtain ⟨y0, rfl⟩ := u64_of_wf w01
  have b00 := i64_of_wf w00
  have b03 := i64_of_wf w03
  obtain ⟨x1, rfl, rfl, rfl, w1⟩ := open_int Tryd.underlying3 (hval 1 3 v1 rfl rfl) h1
  have b1 := i64_of_wf w1
  clear hA0 hval0
  refine (con_ext (vs := [.agg _, .int .i64 _]) (words_back _ _ l0 _ _ (by have := y0.isLt; omega) b03 (by unfold maxLen at hm0; omega)) (by simp only [AV.holdsL, AV.holds]; exact ⟨_, _, rfl, ⟨_, rfl, _, _, rfl, rfl, _, _, rfl, rfl, _, _, rfl, row_sl hl0 hr0, _, _, rfl, rfl, rfl⟩, _, _, rfl, rfl, rfl⟩) (amb_start hsh hL)).mono fun e W' ⟨he, bel⟩ => ?_
  subst he
  exact ⟨_, rfl, _, _, _, [], _, [], hW', trodAll_mk1 (shut_bool Tryd.underlying4 _), (trodAll_cons_mk (Below.trod laidOut (by kernel_rfl) (of_decide_eq_true (by kernel_rfl)) k0 bel lt0) (trodAll_cons_mk (Below.trod laidOut (by kernel_rfl) (of_decide_eq_true (by kernel_rfl)) k1 bel lt1) trodAll_mk0)), rfl, Below.frame bel _, fun h => by cases h⟩
theorem over : Rows.wordsBackRow.holds Tryd.pinned (OpenSpec.ofChange Rows.wordsBackSpec) :=
  OpenClaim.holds_of_wide 5 Tryd.f5 rfl rfl rfl rfl rfl rfl rfl ⟨rfl, rfl, rfl, rfl, rfl⟩ rfl rfl rfl rfl rfl (by kernel_rfl) Tryd.func5 (by kernel_rfl)
    (of_decide_eq_true (by kernel_rfl)) (by unfold Func.isWrapper; first | (rw [if_pos (by decide +kernel)]; kernel_rfl) | (rw [if_neg (by decide +kernel)]; exact ⟨rfl, rfl⟩))
    (fun os started H enc _ => lifted os started H enc)
theorem proved : Rows.WordsBackCardSaid := by
  refine Claim7.holds_tied_plain_at .later [] _ _ _ _
    over (fun _ h => by cases h) (by kernel_rfl) (fun _ h => by cases h) wordsBack_row_tie rfl ⟨rfl, rfl⟩ (by kernel_rfl) rfl
    (fun f fn hf hfn => ?_) (by kernel_rfl)
  obtain rfl : f = 5 := Option.some.inj ((show Tryd.prog.funcNamed "scullery/scullerylaw24.WordsBack" = some 5 by kernel_rfl).symm.trans hf) |>.symm
  obtain rfl : fn = Tryd.f5 := (Option.some.inj (Tryd.func5.symm.trans hfn)).symm
  refine ⟨by kernel_rfl, fun j t ht => ?_⟩
  rw [Tryd.params5] at ht
  rcases j with _ | j
  · simp at ht
    subst ht
    kernel_rfl
  rcases j with _ | j
  · simp at ht
    subst ht
    kernel_rfl
  · simp at ht
end Go.Proofs.YtgiicfjibngooaaDoor.wordsBack
