/- SumParts, walked: it returns true and writes nothing that was there. Conditions: its argument reads as bytes. -/
import Derived.Test.YtadchoffoanfjaaSumL
import Derived.Test.YtadchoffoanfjaaOut
namespace Go.Proofs.Ytadchoffoanfjaa
open Go Go.RowKit
set_option linter.unusedVariables false

theorem of_v {w : World} {v : Value} {ls : List (List UInt8)} (h : RP w v ls) (hl : ls.length ≤ 1000000) (hls : ∀ l ∈ ls, l.length ≤ 1000000) :
    Calls Try.prog 10 #[v] w (Ret fun u w' => Ext w w' ∧ u = rv (sumOf ls.flatten)) := by
  obtain ⟨A, c, vs, rfl, hc, hr, hs⟩ := h
  rw [← hs.1] at hl ⊢
  exact (of_any A c vs ls w hl hls hr hs).mono fun e w' ⟨he, hw⟩ => ⟨_, he, by rw [hw]; exact Ext.refl _, rfl⟩
theorem more_v {w : World} {v u : Value} {l : List UInt8} {r : R} (h : RB w v l) (hu : u = rv r) (hl : l.length ≤ 1000000) :
    Calls Try.prog 14 #[u, v] w (Ret fun u w' => Ext w w' ∧ u = rv (more r l)) := by
  obtain ⟨A, c, rfl, hc, hr⟩ := h
  subst hu
  exact (more_any A c l r w hl hr).mono fun e w' ⟨he, hw⟩ => ⟨_, he, by rw [hw]; exact Ext.refl _, rfl⟩
theorem awake_v (w : World) : Calls Try.prog 8 #[] w (Ret fun u w' => Ext w w' ∧ u = .bool true) :=
  (awake_any w).mono fun e w' ⟨he, hw⟩ => ⟨_, he, hw, rfl⟩
theorem out_eql_rv {P : Program} {ρ : Operand → Value} {w : World} {R' : Value → World → Prop} {o : Oper} {x y : Operand} {t t' : TypeId} {a b : R} (ho : o.op = .binOp .eql t x y t') (hx : ρ x = rv a) (hy : ρ y = rv b) (hab : a = b) (h : R' (.bool true) w) : Outcome P R' ((execOp ρ o).run P w) :=
  out_eql (k := .u32) (a := (a.toNat : Int)) (b := (b.toNat : Int)) ho hx hy (by rw [hab]; simpa using h)
theorem sums_parts (l : List UInt8) (k : Nat) : sumOf [l].flatten = more (sumOf [l.take k].flatten) (l.drop k) := by
  have h : ∀ x : List UInt8, [x].flatten = x := by intro x; simp
  rw [h, h, ← more_zero, ← more_zero, ← more_append, List.take_append_drop]
theorem sums_three (l : List UInt8) (k : Nat) : sumOf [l.take k, [], l.drop k].flatten = sumOf [l].flatten := by simp
theorem sums_zero (l : List UInt8) : more 0#32 l = sumOf [l].flatten := by simp [more_zero]

theorem Try.infoBs : (Try.prog.info? 22).map (fun i => (i.zero, i.size, i.bytes)) = some (some (.slice none 0 0), 1, 24) := by kernel_rfl
set_option maxRecDepth 100000 in
set_option maxHeartbeats 1000000 in
theorem sumParts_any (A : Option Addr) (c : Nat) (l : List UInt8) (x : Int) (w : World) (hc : l.length ≤ c) (hcm : c ≤ maxLen) (ha : Row w A (bvs l)) :
    Calls Try.prog 6 #[.slice A l.length c, .int .i64 x] w fun e w' => e = .returned (.bool true) ∧ Ext w w' := by
  unfold maxLen at hcm
  by_cases hbig : 400 < l.length
  · have i1 : (400 : Int) < (l.length : Int) := by omega
    go_enter Try.func6, Try.ntmps6
    go_wp2_with fail
    refine (awake_any _).mono ?_
    rintro e w' ⟨rfl, hx⟩
    go_wp2_with fail
    go_ret
    exact ⟨rfl, hx⟩
  · have i1 : ¬ (400 : Int) < (l.length : Int) := by omega
    have hl : l.length ≤ 1000000 := by omega
    obtain ⟨i0, hi, hz0, hz1, hz2⟩ := info_parts Try.infoU8
    obtain ⟨iS, hiS, hzS, hsS, hbS⟩ := info_parts Try.infoBs
    have hb : RB w (.slice A l.length c) l := ⟨A, c, rfl, hc, ha⟩
    have Hk := low_lt x (n := l.length + 1) (by omega)
    have e1 : ((l.length + 1 : Nat) : Int) = (l.length : Int) + 1 := by omega
    have lc := low_any x (l.length + 1) w (by omega) (by omega)
    rw [e1] at lc
    generalize low x (l.length + 1) = k at *
    have hm1 := sums_parts l k
    have hm2 := sums_three l k
    rw [show l.take k = (l.drop 0).take (k - 0) from by simp, show l.drop k = (l.drop k).take (l.length - k) from by rw [List.take_of_length_le (by simp)]] at hm1 hm2
    have Lc := hide lc; clear lc e1
    have Hm1 := hide hm1; have Hm2 := hide hm2; clear hm1 hm2
    go_enter Try.func6, Try.ntmps6
    go_wp2_with fail
    refine Lc.out.mono ?_
    rintro e w' ⟨rfl, rfl⟩
    go_wp2_with fail
    have hm1 := Hm1.out
    have hm2 := Hm2.out
    refine wp_region_lit_facts (F := ofs [Fact.rb l, Fact.rbs [l], Fact.eq (rv (sumOf [l].flatten)), Fact.rb l, Fact.eq (.int .i64 ((k : Nat) : Int)), Fact.rb ((l.drop 0).take (k - 0)), Fact.rbs [(l.drop 0).take (k - 0)], Fact.eq (rv (sumOf [(l.drop 0).take (k - 0)].flatten)), Fact.rb l, Fact.eq (.int .i64 ((k : Nat) : Int)), Fact.rb ((l.drop k).take (l.length - k)), Fact.eq (rv (more (sumOf [(l.drop 0).take (k - 0)].flatten) ((l.drop k).take (l.length - k)))), Fact.eq (.bool true), Fact.eq (.bool true), Fact.rb l, Fact.eq (.int .i64 ((k : Nat) : Int)), Fact.rb ((l.drop 0).take (k - 0)), Fact.rb l, Fact.eq (.int .i64 ((k : Nat) : Int)), Fact.rb ((l.drop k).take (l.length - k)), Fact.rbs [(l.drop 0).take (k - 0), [], (l.drop k).take (l.length - k)], Fact.eq (rv (sumOf [(l.drop 0).take (k - 0), [], (l.drop k).take (l.length - k)].flatten)), Fact.rb l, Fact.rbs [l], Fact.eq (rv (sumOf [l].flatten)), Fact.eq (.bool true), Fact.eq (.bool true), Fact.eq (.bool true), Fact.rb l, Fact.eq (rv (more 0#32 l)), Fact.rb l, Fact.rbs [l], Fact.eq (rv (sumOf [l].flatten)), Fact.eq (.bool true), Fact.eq (.bool true), Fact.eq (.bool true), Fact.eq (.bool true), Fact.eq (.bool true), Fact.eq (.bool true)]) (preExt) (by kernel_rfl) (by kernel_rfl) (ofs_mono _) ?hop ?hend
    case hop =>
      refine factsOk_cons (opOk_none rfl fun ρ w hx hk => out_move rfl ⟨Ext.refl _, (known_out (Fact.rb l) hk 0 (by kernel_rfl) hx (hb))⟩) ?_
      refine factsOk_cons (opOk_none rfl fun ρ w hx hk => out_build1 rfl Try.underlying29 hiS hzS hsS (RB.one (hk.dep 0 14 (by kernel_rfl) (by kernel_rfl))) ⟨Ext.alloc _ _, RP.new (RBs.cons (hk.dep 0 14 (by kernel_rfl) (by kernel_rfl)) (RBs.nil _)) rfl rfl⟩) ?_
      refine factsOk_cons (opOk_none rfl fun ρ w hx hk => out_call1 rfl (hk.func _) (by kernel_rfl) (of_v (hk.dep 1 15 (by kernel_rfl) (by kernel_rfl)) (by simp) (by simpa using hl)) fun _ _ h => h) ?_
      refine factsOk_cons (opOk_none rfl fun ρ w hx hk => out_move rfl ⟨Ext.refl _, (known_out (Fact.rb l) hk 0 (by kernel_rfl) hx (hb))⟩) ?_
      refine factsOk_cons (opOk_none rfl fun ρ w hx hk => out_move rfl ⟨Ext.refl _, (known_out (Fact.eq (.int .i64 ((k : Nat) : Int))) hk 1 (by kernel_rfl) hx (rfl))⟩) ?_
      refine factsOk_cons (opOk_none rfl fun ρ w hx hk => out_slice rfl Try.underlying22 hi hz1 (hk.dep 3 17 (by kernel_rfl) (by kernel_rfl)) rfl (hk.dep 4 18 (by kernel_rfl) (by kernel_rfl)) (by omega) (by omega) fun u hu => ⟨Ext.refl _, hu⟩) ?_
      refine factsOk_cons (opOk_none rfl fun ρ w hx hk => out_build1 rfl Try.underlying29 hiS hzS hsS (RB.one (hk.dep 5 19 (by kernel_rfl) (by kernel_rfl))) ⟨Ext.alloc _ _, RP.new (RBs.cons (hk.dep 5 19 (by kernel_rfl) (by kernel_rfl)) (RBs.nil _)) rfl rfl⟩) ?_
      refine factsOk_cons (opOk_none rfl fun ρ w hx hk => out_call1 rfl (hk.func _) (by kernel_rfl) (of_v (hk.dep 6 20 (by kernel_rfl) (by kernel_rfl)) (by simp) (by simp; omega)) fun _ _ h => h) ?_
      refine factsOk_cons (opOk_none rfl fun ρ w hx hk => out_move rfl ⟨Ext.refl _, (known_out (Fact.rb l) hk 0 (by kernel_rfl) hx (hb))⟩) ?_
      refine factsOk_cons (opOk_none rfl fun ρ w hx hk => out_move rfl ⟨Ext.refl _, (known_out (Fact.eq (.int .i64 ((k : Nat) : Int))) hk 1 (by kernel_rfl) hx (rfl))⟩) ?_
      refine factsOk_cons (opOk_none rfl fun ρ w hx hk => out_slice rfl Try.underlying22 hi hz1 (hk.dep 8 22 (by kernel_rfl) (by kernel_rfl)) (hk.dep 9 23 (by kernel_rfl) (by kernel_rfl)) rfl (by omega) (by omega) fun u hu => ⟨Ext.refl _, hu⟩) ?_
      refine factsOk_cons (opOk_none rfl fun ρ w hx hk => out_call2 rfl (hk.func _) (by kernel_rfl) (more_v (hk.dep 10 24 (by kernel_rfl) (by kernel_rfl)) (hk.dep 7 21 (by kernel_rfl) (by kernel_rfl)) (by simp; omega)) fun _ _ h => h) ?_
      refine factsOk_cons (opOk_none rfl fun ρ w hx hk => out_eql_rv rfl (hk.dep 2 16 (by kernel_rfl) (by kernel_rfl)) (hk.dep 11 25 (by kernel_rfl) (by kernel_rfl)) hm1 ⟨Ext.refl _, rfl⟩) ?_
      refine factsOk_cons (opOk_none rfl fun ρ w hx hk => out_move rfl ⟨Ext.refl _, (hk.dep 12 26 (by kernel_rfl) (by kernel_rfl))⟩) ?_
      refine factsOk_cons (opOk_some (d := 27) rfl (by kernel_rfl) (by kernel_rfl) (fun _ _ h => h) fun ρ w hx hk => out_move rfl ⟨Ext.refl _, (known_out (Fact.rb l) hk 0 (by kernel_rfl) hx (hb))⟩) ?_
      refine factsOk_cons (opOk_some (d := 27) rfl (by kernel_rfl) (by kernel_rfl) (fun _ _ h => h) fun ρ w hx hk => out_move rfl ⟨Ext.refl _, (known_out (Fact.eq (.int .i64 ((k : Nat) : Int))) hk 1 (by kernel_rfl) hx (rfl))⟩) ?_
      refine factsOk_cons (opOk_some (d := 27) rfl (by kernel_rfl) (by kernel_rfl) (fun _ _ h => h) fun ρ w hx hk => out_slice rfl Try.underlying22 hi hz1 (hk.dep 14 28 (by kernel_rfl) (by kernel_rfl)) rfl (hk.dep 15 29 (by kernel_rfl) (by kernel_rfl)) (by omega) (by omega) fun u hu => ⟨Ext.refl _, hu⟩) ?_
      refine factsOk_cons (opOk_some (d := 27) rfl (by kernel_rfl) (by kernel_rfl) (fun _ _ h => h) fun ρ w hx hk => out_move rfl ⟨Ext.refl _, (known_out (Fact.rb l) hk 0 (by kernel_rfl) hx (hb))⟩) ?_
      refine factsOk_cons (opOk_some (d := 27) rfl (by kernel_rfl) (by kernel_rfl) (fun _ _ h => h) fun ρ w hx hk => out_move rfl ⟨Ext.refl _, (known_out (Fact.eq (.int .i64 ((k : Nat) : Int))) hk 1 (by kernel_rfl) hx (rfl))⟩) ?_
      refine factsOk_cons (opOk_some (d := 27) rfl (by kernel_rfl) (by kernel_rfl) (fun _ _ h => h) fun ρ w hx hk => out_slice rfl Try.underlying22 hi hz1 (hk.dep 17 31 (by kernel_rfl) (by kernel_rfl)) (hk.dep 18 32 (by kernel_rfl) (by kernel_rfl)) rfl (by omega) (by omega) fun u hu => ⟨Ext.refl _, hu⟩) ?_
      refine factsOk_cons (opOk_some (d := 27) rfl (by kernel_rfl) (by kernel_rfl) (fun _ _ h => h) fun ρ w hx hk => out_build3 rfl Try.underlying29 hiS hzS hsS (RB.one (hk.dep 16 30 (by kernel_rfl) (by kernel_rfl))) (by rw [hk.const]; rfl) (RB.one (hk.dep 19 33 (by kernel_rfl) (by kernel_rfl))) ⟨Ext.alloc _ _, RP.new (RBs.cons (hk.dep 16 30 (by kernel_rfl) (by kernel_rfl)) (RBs.cons (by rw [hk.const]; exact RB.nil _) (RBs.cons (hk.dep 19 33 (by kernel_rfl) (by kernel_rfl)) (RBs.nil _)))) rfl rfl⟩) ?_
      refine factsOk_cons (opOk_some (d := 27) rfl (by kernel_rfl) (by kernel_rfl) (fun _ _ h => h) fun ρ w hx hk => out_call1 rfl (hk.func _) (by kernel_rfl) (of_v (hk.dep 20 34 (by kernel_rfl) (by kernel_rfl)) (by simp) (by simp; omega)) fun _ _ h => h) ?_
      refine factsOk_cons (opOk_some (d := 27) rfl (by kernel_rfl) (by kernel_rfl) (fun _ _ h => h) fun ρ w hx hk => out_move rfl ⟨Ext.refl _, (known_out (Fact.rb l) hk 0 (by kernel_rfl) hx (hb))⟩) ?_
      refine factsOk_cons (opOk_some (d := 27) rfl (by kernel_rfl) (by kernel_rfl) (fun _ _ h => h) fun ρ w hx hk => out_build1 rfl Try.underlying29 hiS hzS hsS (RB.one (hk.dep 22 36 (by kernel_rfl) (by kernel_rfl))) ⟨Ext.alloc _ _, RP.new (RBs.cons (hk.dep 22 36 (by kernel_rfl) (by kernel_rfl)) (RBs.nil _)) rfl rfl⟩) ?_
      refine factsOk_cons (opOk_some (d := 27) rfl (by kernel_rfl) (by kernel_rfl) (fun _ _ h => h) fun ρ w hx hk => out_call1 rfl (hk.func _) (by kernel_rfl) (of_v (hk.dep 23 37 (by kernel_rfl) (by kernel_rfl)) (by simp) (by simpa using hl)) fun _ _ h => h) ?_
      refine factsOk_cons (opOk_some (d := 27) rfl (by kernel_rfl) (by kernel_rfl) (fun _ _ h => h) fun ρ w hx hk => out_eql_rv rfl (hk.dep 21 35 (by kernel_rfl) (by kernel_rfl)) (hk.dep 24 38 (by kernel_rfl) (by kernel_rfl)) hm2 ⟨Ext.refl _, rfl⟩) ?_
      refine factsOk_cons (opOk_none rfl fun ρ w hx hk => out_pick (t := true) rfl (hk.dep 13 27 (by kernel_rfl) (by kernel_rfl)) ⟨Ext.refl _, (hk.dep 25 39 (by kernel_rfl) (by kernel_rfl))⟩) ?_
      refine factsOk_cons (opOk_none rfl fun ρ w hx hk => out_move rfl ⟨Ext.refl _, (hk.dep 26 40 (by kernel_rfl) (by kernel_rfl))⟩) ?_
      refine factsOk_cons (opOk_some (d := 41) rfl (by kernel_rfl) (by kernel_rfl) (fun _ _ h => h) fun ρ w hx hk => out_move rfl ⟨Ext.refl _, (known_out (Fact.rb l) hk 0 (by kernel_rfl) hx (hb))⟩) ?_
      refine factsOk_cons (opOk_some (d := 41) rfl (by kernel_rfl) (by kernel_rfl) (fun _ _ h => h) fun ρ w hx hk => out_call2 rfl (hk.func _) (by kernel_rfl) (more_v (hk.dep 28 42 (by kernel_rfl) (by kernel_rfl)) (hk.const _) hl) fun _ _ h => h) ?_
      refine factsOk_cons (opOk_some (d := 41) rfl (by kernel_rfl) (by kernel_rfl) (fun _ _ h => h) fun ρ w hx hk => out_move rfl ⟨Ext.refl _, (known_out (Fact.rb l) hk 0 (by kernel_rfl) hx (hb))⟩) ?_
      refine factsOk_cons (opOk_some (d := 41) rfl (by kernel_rfl) (by kernel_rfl) (fun _ _ h => h) fun ρ w hx hk => out_build1 rfl Try.underlying29 hiS hzS hsS (RB.one (hk.dep 30 44 (by kernel_rfl) (by kernel_rfl))) ⟨Ext.alloc _ _, RP.new (RBs.cons (hk.dep 30 44 (by kernel_rfl) (by kernel_rfl)) (RBs.nil _)) rfl rfl⟩) ?_
      refine factsOk_cons (opOk_some (d := 41) rfl (by kernel_rfl) (by kernel_rfl) (fun _ _ h => h) fun ρ w hx hk => out_call1 rfl (hk.func _) (by kernel_rfl) (of_v (hk.dep 31 45 (by kernel_rfl) (by kernel_rfl)) (by simp) (by simpa using hl)) fun _ _ h => h) ?_
      refine factsOk_cons (opOk_some (d := 41) rfl (by kernel_rfl) (by kernel_rfl) (fun _ _ h => h) fun ρ w hx hk => out_eql_rv rfl (hk.dep 29 43 (by kernel_rfl) (by kernel_rfl)) (hk.dep 32 46 (by kernel_rfl) (by kernel_rfl)) (sums_zero l) ⟨Ext.refl _, rfl⟩) ?_
      refine factsOk_cons (opOk_none rfl fun ρ w hx hk => out_pick (t := true) rfl (hk.dep 27 41 (by kernel_rfl) (by kernel_rfl)) ⟨Ext.refl _, (hk.dep 33 47 (by kernel_rfl) (by kernel_rfl))⟩) ?_
      refine factsOk_cons (opOk_none rfl fun ρ w hx hk => out_move rfl ⟨Ext.refl _, (hk.dep 34 48 (by kernel_rfl) (by kernel_rfl))⟩) ?_
      refine factsOk_cons (opOk_some (d := 49) rfl (by kernel_rfl) (by kernel_rfl) (fun _ _ h => h) fun ρ w hx hk => out_call0 rfl (hk.func _) (by kernel_rfl) (awake_v _) fun _ _ h => h) ?_
      refine factsOk_cons (opOk_none rfl fun ρ w hx hk => out_pick (t := true) rfl (hk.dep 35 49 (by kernel_rfl) (by kernel_rfl)) ⟨Ext.refl _, (hk.dep 36 50 (by kernel_rfl) (by kernel_rfl))⟩) ?_
      refine factsOk_cons (opOk_none rfl fun ρ w hx hk => out_assign rfl ⟨Ext.refl _, (hk.dep 37 51 (by kernel_rfl) (by kernel_rfl))⟩) ?_
      exact factsOk_nil
    case hend =>

      intro vs w1 hx hf
      obtain ⟨T, hT, hv⟩ := fill_end (i := 38) (d := 4) vs (by kernel_rfl) (by kernel_rfl) (hf 38 4 (by kernel_rfl))
      rw [← hT]
      clear hT hf
      go_wp2_with fail
      refine bodyPost_ret (results_tmp rfl _ _ _) rfl ?_
      exact ⟨congrArg Ending.returned hv, hx⟩
end Go.Proofs.Ytadchoffoanfjaa
