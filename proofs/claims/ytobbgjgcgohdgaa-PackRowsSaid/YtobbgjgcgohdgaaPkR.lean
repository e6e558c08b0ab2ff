/- PackRows, walked: it returns true and writes nothing that was there. Conditions: its argument reads as numbers. -/
import Derived.Test.YtobbgjgcgohdgaaPkL
namespace Go.Proofs.Ytobbgjgcgohdgaa
open Go Go.RowKit
set_option linter.unusedVariables false

def puts (ns : List Nat) : List UInt8 := (ns.map putN).flatten
theorem puts_snoc (ns : List Nat) (k : Nat) (h : k < ns.length) : puts (ns.take (k + 1)) = puts (ns.take k) ++ putN ns[k] := by
  unfold puts
  rw [List.take_succ_eq_append_getElem h, List.map_append, List.flatten_append]
  congr 1
  simp
theorem puts_drop (ns : List Nat) (k : Nat) (h : k < ns.length) : puts (ns.drop k) = putN ns[k] ++ puts (ns.drop (k + 1)) := by
  unfold puts
  rw [List.drop_eq_getElem_cons h]
  rfl
theorem puts_len (ns : List Nat) : (puts ns).length ≤ 10 * ns.length := by
  induction ns with
  | nil => simp [puts]
  | cons n ns ih =>
    have := putN_len n
    simp [puts] at ih ⊢
    omega
set_option maxRecDepth 100000 in
set_option maxHeartbeats 1000000 in
theorem packRows_any (A : Option Addr) (c : Nat) (ns : List Nat) (w : World) (hns : ∀ n ∈ ns, n < 18446744073709551616) (hc : ns.length ≤ c) (hc2 : c ≤ maxLen) (ha : Row w A (ns.map nv)) :
    Calls Try.prog 4 #[.slice A ns.length c] w fun e w' => e = .returned (.bool true) ∧ Ext w w' := by
  unfold maxLen at hc2
  by_cases hmany : 30 < ns.length
  · have i1 : (30 : Int) < (ns.length : Int) := by omega
    go_enter Try.func4, Try.ntmps4
    go_wp2_with fail
    refine (awake_any _).mono ?_
    rintro e w' ⟨rfl, hx⟩
    go_wp2_with fail
    go_ret
    exact ⟨rfl, hx⟩
  · have i1 : ¬ (30 : Int) < (ns.length : Int) := by omega
    have Hns := hide hns; clear hns
    have Hall := hide (puts_len ns)
    go_enter Try.func4, Try.ntmps4
    go_wp2_with fail
    go_loopw [3, 4] (fun b i wr => ∃ (k : Nat), k ≤ ns.length ∧ i = .int .i64 (k : Int) ∧ Ext w wr ∧ RC wr b (puts (ns.take k))) (fun _ i _ => ns.length - (intOf i).toNat)
    case atStart => exact ⟨0, by omega, rfl, Ext.refl _, RC.nil _⟩
    case round =>
      obtain ⟨k, hk, rfl, hx, hb⟩ := hrel
      have Hx := hide hx; have Hb := hide hb; clear hx hb
      by_cases hlt : k < ns.length
      · obtain ⟨ad, rfl, hca⟩ := (ha.ext Hx.out).at_ (k := k) (by simpa using hlt)
        clear ha
        rw [List.getElem_map] at hca
        unfold nv at hca
        have hst := hide (puts_snoc ns k hlt)
        have hn := hide (Hns.out ns[k] (List.getElem_mem _))
        have hlen := hide (puts_len (ns.take k))
        generalize hx : ns[k] = n at *
        have Hn := hide hx; clear hx
        have i2 : (k : Int) < (ns.length : Int) := by omega
        go_wp2_with fail
        refine (put_v _ _ _ n (by have := hlen.out; simp at this; omega) hn.out Hb.out.rb).mono ?_
        rintro e w2 ⟨u, rfl, hx, ho⟩
        have Hx2 := hide (Hx.out.trans hx); have Ho := hide ho.rc; clear hx ho
        go_wp2_with fail
        go_roundw
        case rel =>
          refine ⟨k + 1, by omega, by go_num, Hx2.out, ?_⟩
          rw [hst.out]
          exact Ho.out
        case measure => simp [intOf]; omega
      · have hk2 : k = ns.length := by omega
        have i2 : ¬ (k : Int) < (ns.length : Int) := by omega
        have Hk2 := hide hk2; clear hk2
        go_wp2_with fail
        go_loopw [3, 5, 6, 7, 8] (fun b i _ _ _ wr => ∃ (k : Nat), k ≤ ns.length ∧ i = .int .i64 (k : Int) ∧ Ext w wr ∧ RC wr b (puts (ns.drop k))) (fun _ i _ _ _ _ => ns.length - (intOf i).toNat)
        case atStart =>
          refine ⟨0, by omega, rfl, Hx.out, ?_⟩
          have := Hb.out
          rw [Hk2.out, List.take_length] at this
          simpa using this
        case round =>
          clear Hx Hb Hk2 i2 hk hlt
          obtain ⟨k, hk, rfl, hx, hb⟩ := hrel
          have Hx := hide hx; have Hb := hide hb; clear hx hb
          have hlen := hide (puts_len (ns.drop k))
          by_cases hlt : k < ns.length
          · obtain ⟨ad, rfl, hca⟩ := ha.at_ (k := k) (by simpa using hlt)
            clear ha
            rw [List.getElem_map] at hca
            unfold nv at hca
            have hst := hide (puts_drop ns k hlt)
            have hn := hide (Hns.out ns[k] (List.getElem_mem _))
            generalize hx : ns[k] = n at *
            have Hn := hide hx; clear hx
            have i2 : (k : Int) < (ns.length : Int) := by omega
            go_wp2_with fail
            refine (get_v _ _ _ (by have := hlen.out; simp at this; omega) Hb.out (n := n) (r := puts (ns.drop (k + 1))) (by rw [hst.out]; exact getN_put _ _ hn.out)).mono ?_
            rintro e w2 ⟨u, rfl, hx, ho⟩
            have hca2 := hx.cell (Hx.out.cell hca)
            clear hca
            have Hx2 := hide (Hx.out.trans hx); have Ho := hide ho.rc; clear hx ho
            go_wp2_with fail
            go_roundw
            case rel => exact ⟨k + 1, by omega, by go_num, Hx2.out, Ho.out⟩
            case measure => simp [intOf]; omega
          · have hk2 : k = ns.length := by omega
            have i2 : ¬ (k : Int) < (ns.length : Int) := by omega
            have hb := Hb.out
            rw [hk2, List.drop_length] at hb
            have Hb0 := hide (show RC _ _ [] from hb)
            obtain ⟨A', c', rfl, _, _, _⟩ := hb
            go_wp2_with fail
            refine (get_none _ _ [] (by simp) Hb0.out rfl).mono ?_
            rintro e w2 ⟨rfl, hx⟩
            have Hx2 := hide (Hx.out.trans hx); clear hx
            go_wp2_with fail
            refine (awake_any _).mono ?_
            rintro e w3 ⟨rfl, hx⟩
            have Hx3 := hide (Hx2.out.trans hx); clear hx
            go_wp2_with fail
            go_ret
            exact ⟨rfl, Hx3.out⟩
end Go.Proofs.Ytobbgjgcgohdgaa
