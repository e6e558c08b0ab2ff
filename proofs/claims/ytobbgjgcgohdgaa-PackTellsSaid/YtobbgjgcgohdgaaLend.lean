/- LendBytes, walked: it returns a marked copy. Conditions: at most 1000000 bytes. -/
import Derived.Test.YtobbgjgcgohdgaaA1
import Derived.Test.YtobbgjgcgohdgaaApp
import Derived.Test.YtobbgjgcgohdgaaInfo
namespace Go.Proofs.Ytobbgjgcgohdgaa
open Go Go.RowKit
set_option linter.unusedVariables false

theorem madeU8 (n : Nat) : (madeCells (Value.int IntKind.u8 0).cells n).toList = List.replicate n (Value.int .u8 0) := toList_madeCells_one _ _
theorem lent_step (l : List UInt8) (k : Nat) (h : k < 3) : ((lentCells l k (3 - k)).toArray.setIfInBounds (l.length + k) (.int .u8 119)) = (lentCells l (k + 1) (3 - (k + 1))).toArray := by
  apply Array.ext'
  simp only [Array.toList_setIfInBounds, lentCells]
  rw [List.set_append_right _ _ (by rw [bvs_len]; omega), bvs_len, show l.length + k - l.length = k from by omega]
  rw [List.set_append_right _ _ (by simp)]
  rcases k with _ | _ | _ | k
  · rfl
  · rfl
  · rfl
  · omega
theorem lent_at (l : List UInt8) (k : Nat) (h : k < 3) : (lentCells l k (3 - k)).toArray[l.length + k]? = some (.int .u8 0) := by
  simp only [List.getElem?_toArray, lentCells]
  rw [List.getElem?_append_right (by rw [bvs_len]; omega), bvs_len, show l.length + k - l.length = k from by omega]
  rw [List.getElem?_append_right (by simp)]
  rcases k with _ | _ | _ | k
  · rfl
  · rfl
  · rfl
  · omega
set_option maxHeartbeats 400000 in
theorem lendBytes_any (A : Option Addr) (c : Nat) (l : List UInt8) (w : World) (hl : l.length ≤ 1000000) (ha : Row w A (bvs l)) :
    Calls Try.prog 14 #[.slice A l.length c] w fun e w' => ∃ g, e = .returned (.slice (some ⟨g, 0, none⟩) l.length (l.length + 3)) ∧ w.heap.size ≤ g ∧ Ext w w' ∧ w'.heap[g]? = some (.cells (lentCells l 3 0).toArray 5 (0, 0)) := by
  obtain ⟨i0, hi, hz0, hz1, hz2⟩ := info_parts Try.infoU8
  have hmk := fun W => run_make (P := Try.prog) W 23 5 i0 (.int .u8 0) Try.underlying23 hi hz0 .i64 .i64 0 ((l.length : Int) + 3) (by omega) (by omega) (by rw [hz2]; omega) (by omega)
  rw [hz1, show ((l.length : Int) + 3).toNat = l.length + 3 from by omega, Nat.mul_one] at hmk
  generalize hcur : madeCells (Value.int IntKind.u8 0).cells (l.length + 3) = cur at hmk
  have hsz : cur.size = (l.length + 3) * 1 := by rw [← hcur, size_madeCells, Nat.mul_one]
  have hls : cur.toList = List.replicate (l.length + 3) (Value.int .u8 0) := by rw [← hcur]; exact madeU8 _
  clear hcur
  have Hsz := hide hsz; clear hsz
  have Hls := hide hls; clear hls
  have Hi := hide hi; clear hi
  go_enter Try.func14, Try.ntmps14
  go_wp2_with (at_builtin; refine wpList_app_room _ rfl _ _ 23 rfl 5 i0 1 Try.underlying23 Hi.out hz1 (by decide) w.heap.size 0 (l.length + 3) cur rfl (heap_alloc_new w _) Hsz.out _ _ _ (bvs l) rfl ?c1 (ha.ext (Ext.alloc w _)) (bvs_one l) (by omega) ?_)
  case c1 => rw [bvs_len, Nat.mul_one]
  intro w1 hb1 hg1
  rw [bvs_len, Hls.out, List.drop_replicate, show l.length + 3 - l.length = 3 from by omega] at hb1
  have hx1 : Ext w w1 := Below.trans (Ext.alloc w _) ⟨hg1.os, hg1.tape, hg1.output, Nat.le_trans (by simp) hg1.size, fun k hk => hg1.block k (by simp; omega) (by simp; omega)⟩
  have Hb1 := hide hb1; have Hx1 := hide hx1; clear hb1 hx1 hg1 hmk ha
  have e33 : l.length + 3 - l.length = 3 := by omega
  go_wp2
  go_loopw [5] (fun i wr => ∃ k : Nat, k ≤ 3 ∧ i = .int .i64 k ∧ Ext w wr ∧ wr.heap[w.heap.size]? = some (.cells (lentCells l k (3 - k)).toArray 5 (0, 0))) (fun i _ => 3 - (intOf i).toNat)
  case atStart => exact ⟨0, by omega, rfl, Hx1.out, Hb1.out⟩
  case round =>
    obtain ⟨k, hk, rfl, hx, hb⟩ := hrel
    by_cases hlt : k < 3
    · have hc : wr.cell? ⟨w.heap.size, l.length + k, none⟩ = some (Value.int .u8 0) := by
        rw [cell_of_row wr _ _ _ _ _ hb]
        exact lent_at l k hlt
      have hf := frozen_of_row wr w.heap.size (l.length + k) _ _ hb
      have Hx := hide hx; have Hb := hide hb; clear hx hb
      go_wp2
      go_roundw
      case rel => exact ⟨k + 1, by omega, by go_num, Below.setCell Hx.out (Nat.le_refl _) _, (heap_setCell_same wr _ _ _ _ _ Hb.out).trans (by rw [lent_step l k hlt])⟩
      case measure => simp [intOf]; omega
    · have hk3 : k = 3 := by omega
      subst hk3
      have Hx := hide hx; have Hb := hide hb; clear hx hb
      go_wp2
      go_ret
      exact ⟨w.heap.size, rfl, Nat.le_refl _, Hx.out, by simpa [lentCells] using Hb.out⟩
end Go.Proofs.Ytobbgjgcgohdgaa
