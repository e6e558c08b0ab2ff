/- SumAdds, walked: it returns true and writes nothing that was there. Conditions: its arguments read as bytes. -/
import Derived.Laws.Cover1
import Derived.Test.YtadchoffoanfjaaTail
import Derived.Test.YtadchoffoanfjaaSumF
namespace Go.Proofs.Ytadchoffoanfjaa
open Go Go.RowKit
set_option linter.unusedVariables false

def xor3 (a b c : List UInt8) : List UInt8 := List.zipWith (· ^^^ ·) (List.zipWith (· ^^^ ·) a b) c
theorem xor3_snoc (a b c : List UInt8) (k : Nat) (ha : k < a.length) (hb : k < b.length) (hc : k < c.length) :
    xor3 (a.take (k + 1)) (b.take (k + 1)) (c.take (k + 1)) = xor3 (a.take k) (b.take k) (c.take k) ++ [a[k] ^^^ b[k] ^^^ c[k]] := by
  unfold xor3
  rw [List.take_succ_eq_append_getElem ha, List.take_succ_eq_append_getElem hb, List.take_succ_eq_append_getElem hc]
  rw [List.zipWith_append (by simp; omega), List.zipWith_append (by simp; omega)]
  rfl
theorem xor3_len (a b c : List UInt8) (k : Nat) (ha : k ≤ a.length) (hb : k ≤ b.length) (hc : k ≤ c.length) : (xor3 (a.take k) (b.take k) (c.take k)).length = k := by
  simp [xor3]; omega
/-- three bytes added, as a cell -/
def bxv3 (x y z : UInt8) : Value := .int .u8 (((x.toNat ^^^ y.toNat) ^^^ z.toNat : Nat) : Int)
theorem bv_bxv3 (x y z : UInt8) : bv (x ^^^ y ^^^ z) = bxv3 x y z := by simp [bv, bxv3]
theorem u8_xor_bv3 (x y z : UInt8) : bits .xor .u8 ((x.toNat ^^^ y.toNat : Nat) : Int) (z.toNat : Int) = ((x.toNat ^^^ y.toNat ^^^ z.toNat : Nat) : Int) := by
  rw [u8_xor_nat _ _ (Nat.xor_lt_two_pow (n := 8) x.toNat_lt y.toNat_lt) z.toNat_lt]
theorem min3_run (a b c n : Nat) (hn : n = min a (min b c)) (w : World) : (Builtin.min_ #[3, 3, 3] 3 #[.int .i64 (a : Int), .int .i64 (b : Int), .int .i64 (c : Int)]).run Try.prog w = .ok (.int .i64 (n : Int)) w := by
  rw [run_min_int3]
  have e : (if (c : Int) < (if (b : Int) < (a : Int) then (b : Int) else (a : Int)) then (c : Int) else (if (b : Int) < (a : Int) then (b : Int) else (a : Int))) = (n : Int) := by
    subst hn
    split <;> split <;> omega
  rw [e]
theorem adds_sum (a b c : List UInt8) (n : Nat) (ha : n ≤ a.length) (hb : n ≤ b.length) (hc : n ≤ c.length) :
    sumOf [xor3 (a.take n) (b.take n) (c.take n)].flatten = sumOf [(a.drop 0).take (n - 0)].flatten ^^^ sumOf [(b.drop 0).take (n - 0)].flatten ^^^ sumOf [(c.drop 0).take (n - 0)].flatten := by
  simp only [List.flatten_cons, List.flatten_nil, List.append_nil, List.drop_zero, Nat.sub_zero]
  exact sum_adds _ _ _ (by simp; omega) (by simp; omega)
theorem out_xor_rv {P : Program} {ρ : Operand → Value} {w : World} {R' : Value → World → Prop} {o : Oper} {x y : Operand} {t t' : TypeId} {a b : R} (ho : o.op = .binOp .xor t x y t') (hx : ρ x = rv a) (hy : ρ y = rv b) (h : R' (rv (a ^^^ b)) w) : Outcome P R' ((execOp ρ o).run P w) :=
  out_xor (k := .u32) (a := (a.toNat : Int)) (b := (b.toNat : Int)) ho hx hy (by rw [rv_xor]; exact h)
set_option maxRecDepth 100000 in
set_option maxHeartbeats 1000000 in
theorem sumAdds_main (A B C : Option Addr) (ca cb cc : Nat) (a b c : List UInt8) (w : World) (n : Nat) (hn : n = min a.length (min b.length c.length)) (hn1 : n ≤ 100) (hca : a.length ≤ ca) (hcb : b.length ≤ cb) (hcc : c.length ≤ cc) (ha : Row w A (bvs a)) (hb : Row w B (bvs b)) (hc : Row w C (bvs c)) :
    Calls Try.prog 4 #[.slice A a.length ca, .slice B b.length cb, .slice C c.length cc] w fun e w' => e = .returned (.bool true) ∧ Ext w w' := by
  obtain ⟨i0, hi, hz0, hz1, hz2⟩ := info_parts Try.infoU8
  have Hi := hide hi; clear hi
  have hmin := min3_run a.length b.length c.length n hn
  have Ln := hide (show n ≤ a.length ∧ n ≤ b.length ∧ n ≤ c.length by omega)
  have i1 : ¬ (100 : Int) < (n : Int) := by omega
  have Hn := hide hn; clear hn
  go_enter Try.func4, Try.ntmps4
  go_wp2_with fail
  go_loopw [8, 9] (fun v i wr => ∃ k : Nat, k ≤ n ∧ i = .int .i64 k ∧ Ext w wr ∧ Own wr w.heap.size 5 1 v k (bvs (xor3 (a.take k) (b.take k) (c.take k)))) (fun _ i _ => n - (intOf i).toNat)
  case atStart => exact ⟨0, Nat.zero_le _, rfl, Ext.refl _, Own.nil _ _ _ _ none⟩
  case round =>
    obtain ⟨k, hk, rfl, hx, hown⟩ := hrel
    by_cases hlt : k < n
    · obtain ⟨la, lb, lc⟩ := Ln.out
      obtain ⟨ad, rfl, ca1⟩ := (ha.ext hx).byte (k := k) (by omega)
      obtain ⟨bd, rfl, cb1⟩ := (hb.ext hx).byte (k := k) (by omega)
      obtain ⟨cd, rfl, cc1⟩ := (hc.ext hx).byte (k := k) (by omega)
      have hsn := hide (xor3_snoc a b c k (by omega) (by omega) (by omega))
      have j1 : (k : Int) < (a.length : Int) := by omega
      have j2 : (k : Int) < (b.length : Int) := by omega
      have j3 : (k : Int) < (c.length : Int) := by omega
      have j4 : (k : Int) < (n : Int) := by omega
      generalize a[k] = x at *
      generalize b[k] = y at *
      generalize c[k] = z at *
      have q3 : Value.int .u8 (bits .xor .u8 (bits .xor .u8 (x.toNat : Int) (y.toNat : Int)) (z.toNat : Int)) = bxv3 x y z := by rw [u8_xor_bv, u8_xor_bv3]; rfl
      have Hx := hide hx; clear hx la lb lc
      go_wp2_with fail
      refine wp_region_tail_at 16 (F := ofs [Fact.eq u8, Fact.eq (.slice (some ad) a.length ca), Fact.eq (.int .i64 ((k : Nat) : Int)), Fact.eq (.pointer (some (ad.add k))), Fact.eq (.int .u8 (x.toNat : Int)), Fact.eq (.slice (some bd) b.length cb), Fact.eq (.int .i64 ((k : Nat) : Int)), Fact.eq (.pointer (some (bd.add k))), Fact.eq (.int .u8 (y.toNat : Int)), Fact.eq (.int .u8 (bits .xor .u8 (x.toNat : Int) (y.toNat : Int))), Fact.eq (.slice (some cd) c.length cc), Fact.eq (.int .i64 ((k : Nat) : Int)), Fact.eq (.pointer (some (cd.add k))), Fact.eq (.int .u8 (z.toNat : Int)), Fact.eq (bxv3 x y z), Fact.row1 (bxv3 x y z)]) (preExt) (by kernel_rfl) (by kernel_rfl) (ofs_mono _) ?hop ?hend
      case hop =>
        dsimp only [List.take]
        refine factsOk_cons (opOk_none rfl fun ρ w hx hk => out_move rfl ⟨Ext.refl _, (known_out (Fact.eq u8) hk 8 (by kernel_rfl) hx (rfl))⟩) ?_
        refine factsOk_cons (opOk_none rfl fun ρ w hx hk => out_move rfl ⟨Ext.refl _, (known_out (Fact.eq (.slice (some ad) a.length ca)) hk 0 (by kernel_rfl) hx (rfl))⟩) ?_
        refine factsOk_cons (opOk_none rfl fun ρ w hx hk => out_move rfl ⟨Ext.refl _, (known_out (Fact.eq (.int .i64 ((k : Nat) : Int))) hk 9 (by kernel_rfl) hx (rfl))⟩) ?_
        refine factsOk_cons (opOk_none rfl fun ρ w hx hk => out_index rfl Try.underlying22 Hi.out hz1 (hk.dep 1 26 (by kernel_rfl) (by kernel_rfl)) rfl (hk.dep 2 27 (by kernel_rfl) (by kernel_rfl)) (by omega) ⟨Ext.refl _, rfl⟩) ?_
        refine factsOk_cons (opOk_none rfl fun ρ w hx hk => out_load_int rfl Try.underlying5 (hk.dep 3 28 (by kernel_rfl) (by kernel_rfl)) (hx.cell ca1) ⟨Ext.refl _, rfl⟩) ?_
        refine factsOk_cons (opOk_none rfl fun ρ w hx hk => out_move rfl ⟨Ext.refl _, (known_out (Fact.eq (.slice (some bd) b.length cb)) hk 1 (by kernel_rfl) hx (rfl))⟩) ?_
        refine factsOk_cons (opOk_none rfl fun ρ w hx hk => out_move rfl ⟨Ext.refl _, (known_out (Fact.eq (.int .i64 ((k : Nat) : Int))) hk 9 (by kernel_rfl) hx (rfl))⟩) ?_
        refine factsOk_cons (opOk_none rfl fun ρ w hx hk => out_index rfl Try.underlying22 Hi.out hz1 (hk.dep 5 30 (by kernel_rfl) (by kernel_rfl)) rfl (hk.dep 6 31 (by kernel_rfl) (by kernel_rfl)) (by omega) ⟨Ext.refl _, rfl⟩) ?_
        refine factsOk_cons (opOk_none rfl fun ρ w hx hk => out_load_int rfl Try.underlying5 (hk.dep 7 32 (by kernel_rfl) (by kernel_rfl)) (hx.cell cb1) ⟨Ext.refl _, rfl⟩) ?_
        refine factsOk_cons (opOk_none rfl fun ρ w hx hk => out_xor rfl (hk.dep 4 29 (by kernel_rfl) (by kernel_rfl)) (hk.dep 8 33 (by kernel_rfl) (by kernel_rfl)) ⟨Ext.refl _, rfl⟩) ?_
        refine factsOk_cons (opOk_none rfl fun ρ w hx hk => out_move rfl ⟨Ext.refl _, (known_out (Fact.eq (.slice (some cd) c.length cc)) hk 2 (by kernel_rfl) hx (rfl))⟩) ?_
        refine factsOk_cons (opOk_none rfl fun ρ w hx hk => out_move rfl ⟨Ext.refl _, (known_out (Fact.eq (.int .i64 ((k : Nat) : Int))) hk 9 (by kernel_rfl) hx (rfl))⟩) ?_
        refine factsOk_cons (opOk_none rfl fun ρ w hx hk => out_index rfl Try.underlying22 Hi.out hz1 (hk.dep 10 35 (by kernel_rfl) (by kernel_rfl)) rfl (hk.dep 11 36 (by kernel_rfl) (by kernel_rfl)) (by omega) ⟨Ext.refl _, rfl⟩) ?_
        refine factsOk_cons (opOk_none rfl fun ρ w hx hk => out_load_int rfl Try.underlying5 (hk.dep 12 37 (by kernel_rfl) (by kernel_rfl)) (hx.cell cc1) ⟨Ext.refl _, rfl⟩) ?_
        refine factsOk_cons (opOk_none rfl fun ρ w hx hk => out_xor rfl (hk.dep 9 34 (by kernel_rfl) (by kernel_rfl)) (hk.dep 13 38 (by kernel_rfl) (by kernel_rfl)) ⟨Ext.refl _, q3⟩) ?_
        refine factsOk_cons (opOk_none rfl fun ρ w hx hk => out_build1 rfl Try.underlying22 Hi.out hz0 hz1 (by rw [show ρ (.tmp 39) = bxv3 x y z from (hk.dep 14 39 (by kernel_rfl) (by kernel_rfl))]; rfl) ⟨Ext.alloc _ _, row1_new (hk.dep 14 39 (by kernel_rfl) (by kernel_rfl))⟩) ?_
        exact factsOk_nil
      case hend =>

      intro vs w1 hx1 hf
      have f0 : vs 0 = u8 := hf 0 25 (by kernel_rfl)
      have f15 : ∃ A c, vs 15 = .slice A 1 c ∧ Row w1 A [bxv3 x y z] := hf 15 40 (by kernel_rfl)
      clear hf
      obtain ⟨A1, c1, e15, hr1⟩ := f15
      dsimp only [List.take, List.drop]
      simp only [fill, List.setIfInBounds_toArray, List.set_cons_succ, List.set_cons_zero, Nat.reduceAdd, f0, e15]
      have Hx1 := hide hx1; clear hx1
      go_wp2_with (at_builtin; refine wpList_app _ rfl _ _ 22 rfl w.heap.size 5 i0 (.int .u8 0) 1 1 Try.underlying22 Hi.out hz0 hz1 hz2 rfl (by decide) _ k (bvs (xor3 (a.take k) (b.take k) (c.take k))) rfl (hown.ext Hx1.out) _ 1 _ [bxv3 x y z] rfl rfl hr1 ?c2 ?c3 ?c4 ?c5 ?_)
      case c2 => intro u hu; simp at hu; subst hu; rfl
      case c3 => omega
      case c4 => unfold maxLen; omega
      case c5 => exact Nat.le_trans Hx.out.size Hx1.out.size
      intro v1 w2 o1 g1 _
      have hx2 : Ext w w2 := Below.grown (Hx.out.trans Hx1.out) g1 (Hx.out.trans Hx1.out).size (fun k hk => (hown.lt hk).1)
      rw [← bv_bxv3, show [bv (x ^^^ y ^^^ z)] = bvs [x ^^^ y ^^^ z] from rfl, ← bvs_append, ← hsn.out] at o1
      have Hx2 := hide hx2; have O1 := hide o1; clear hx2 o1 g1
      go_wp2_with fail
      go_roundw
      case rel => exact ⟨k + 1, by omega, by go_num, Hx2.out, O1.out⟩
      case measure => simp [intOf]; omega
    · have hk2 : k = n := by omega
      subst hk2
      obtain ⟨la, lb, lc⟩ := Ln.out
      have hxs : RB wr u8 (xor3 (a.take k) (b.take k) (c.take k)) := own_rb hown
      have hxl := xor3_len a b c k la lb lc
      have hba : RB wr (.slice A a.length ca) a := ⟨A, ca, rfl, hca, ha.ext hx⟩
      have hbb : RB wr (.slice B b.length cb) b := ⟨B, cb, rfl, hcb, hb.ext hx⟩
      have hbc : RB wr (.slice C c.length cc) c := ⟨C, cc, rfl, hcc, hc.ext hx⟩
      obtain ⟨iS, hiS, hzS, hsS, hbS⟩ := info_parts Try.infoBs
      have hsum := adds_sum a b c k la lb lc
      generalize xor3 (a.take k) (b.take k) (c.take k) = xs at *
      clear hown
      have Hsum := hide hsum; have Hxl := hide hxl; have HiS := hide hiS; have Hx := hide hx; have Hba := hide hba; have Hbb := hide hbb; have Hbc := hide hbc; have Hxs := hide hxs
      clear hsum hxl hiS hx hba hbb hbc hxs
      obtain ⟨n, hn2⟩ : ∃ n, n = k := ⟨_, rfl⟩
      subst hn2
      go_wp2_with fail
      have hsum := Hsum.out; have hxl := Hxl.out; have hiS := HiS.out; have hba := Hba.out; have hbb := Hbb.out; have hbc := Hbc.out; have hxs := Hxs.out
      refine wp_region_lit_facts (F := ofs [Fact.rb xs, Fact.rbs [xs], Fact.eq (rv (sumOf [xs].flatten)), Fact.rb a, Fact.eq (.int .i64 ((n : Nat) : Int)), Fact.rb ((a.drop 0).take (n - 0)), Fact.rbs [(a.drop 0).take (n - 0)], Fact.eq (rv (sumOf [(a.drop 0).take (n - 0)].flatten)), Fact.rb b, Fact.eq (.int .i64 ((n : Nat) : Int)), Fact.rb ((b.drop 0).take (n - 0)), Fact.rbs [(b.drop 0).take (n - 0)], Fact.eq (rv (sumOf [(b.drop 0).take (n - 0)].flatten)), Fact.eq (rv (sumOf [(a.drop 0).take (n - 0)].flatten ^^^ sumOf [(b.drop 0).take (n - 0)].flatten)), Fact.rb c, Fact.eq (.int .i64 ((n : Nat) : Int)), Fact.rb ((c.drop 0).take (n - 0)), Fact.rbs [(c.drop 0).take (n - 0)], Fact.eq (rv (sumOf [(c.drop 0).take (n - 0)].flatten)), Fact.eq (rv (sumOf [(a.drop 0).take (n - 0)].flatten ^^^ sumOf [(b.drop 0).take (n - 0)].flatten ^^^ sumOf [(c.drop 0).take (n - 0)].flatten)), Fact.eq (.bool true), Fact.eq (.bool true), Fact.eq (.bool true), Fact.eq (.bool true), Fact.eq (.bool true)]) (preExt) (by kernel_rfl) (by kernel_rfl) (ofs_mono _) ?hop ?hend
      case hop =>
        refine factsOk_cons (opOk_none rfl fun ρ w hx hk => out_move rfl ⟨Ext.refl _, (known_out (Fact.rb xs) hk 8 (by kernel_rfl) hx (hxs))⟩) ?_
        refine factsOk_cons (opOk_none rfl fun ρ w hx hk => out_build1 rfl Try.underlying29 hiS hzS hsS (RB.one (hk.dep 0 42 (by kernel_rfl) (by kernel_rfl))) ⟨Ext.alloc _ _, RP.new (RBs.cons (hk.dep 0 42 (by kernel_rfl) (by kernel_rfl)) (RBs.nil _)) rfl rfl⟩) ?_
        refine factsOk_cons (opOk_none rfl fun ρ w hx hk => out_call1 rfl (hk.func _) (by kernel_rfl) (of_v (hk.dep 1 43 (by kernel_rfl) (by kernel_rfl)) (by simp) (by simp; omega)) fun _ _ h => h) ?_
        refine factsOk_cons (opOk_none rfl fun ρ w hx hk => out_move rfl ⟨Ext.refl _, (known_out (Fact.rb a) hk 0 (by kernel_rfl) hx (hba))⟩) ?_
        refine factsOk_cons (opOk_none rfl fun ρ w hx hk => out_move rfl ⟨Ext.refl _, (known_out (Fact.eq (.int .i64 ((n : Nat) : Int))) hk 7 (by kernel_rfl) hx (rfl))⟩) ?_
        refine factsOk_cons (opOk_none rfl fun ρ w hx hk => out_slice rfl Try.underlying22 Hi.out hz1 (hk.dep 3 45 (by kernel_rfl) (by kernel_rfl)) rfl (hk.dep 4 46 (by kernel_rfl) (by kernel_rfl)) (by omega) (by omega) fun u hu => ⟨Ext.refl _, hu⟩) ?_
        refine factsOk_cons (opOk_none rfl fun ρ w hx hk => out_build1 rfl Try.underlying29 hiS hzS hsS (RB.one (hk.dep 5 47 (by kernel_rfl) (by kernel_rfl))) ⟨Ext.alloc _ _, RP.new (RBs.cons (hk.dep 5 47 (by kernel_rfl) (by kernel_rfl)) (RBs.nil _)) rfl rfl⟩) ?_
        refine factsOk_cons (opOk_none rfl fun ρ w hx hk => out_call1 rfl (hk.func _) (by kernel_rfl) (of_v (hk.dep 6 48 (by kernel_rfl) (by kernel_rfl)) (by simp) (by simp; omega)) fun _ _ h => h) ?_
        refine factsOk_cons (opOk_none rfl fun ρ w hx hk => out_move rfl ⟨Ext.refl _, (known_out (Fact.rb b) hk 1 (by kernel_rfl) hx (hbb))⟩) ?_
        refine factsOk_cons (opOk_none rfl fun ρ w hx hk => out_move rfl ⟨Ext.refl _, (known_out (Fact.eq (.int .i64 ((n : Nat) : Int))) hk 7 (by kernel_rfl) hx (rfl))⟩) ?_
        refine factsOk_cons (opOk_none rfl fun ρ w hx hk => out_slice rfl Try.underlying22 Hi.out hz1 (hk.dep 8 50 (by kernel_rfl) (by kernel_rfl)) rfl (hk.dep 9 51 (by kernel_rfl) (by kernel_rfl)) (by omega) (by omega) fun u hu => ⟨Ext.refl _, hu⟩) ?_
        refine factsOk_cons (opOk_none rfl fun ρ w hx hk => out_build1 rfl Try.underlying29 hiS hzS hsS (RB.one (hk.dep 10 52 (by kernel_rfl) (by kernel_rfl))) ⟨Ext.alloc _ _, RP.new (RBs.cons (hk.dep 10 52 (by kernel_rfl) (by kernel_rfl)) (RBs.nil _)) rfl rfl⟩) ?_
        refine factsOk_cons (opOk_none rfl fun ρ w hx hk => out_call1 rfl (hk.func _) (by kernel_rfl) (of_v (hk.dep 11 53 (by kernel_rfl) (by kernel_rfl)) (by simp) (by simp; omega)) fun _ _ h => h) ?_
        refine factsOk_cons (opOk_none rfl fun ρ w hx hk => out_xor_rv rfl (hk.dep 7 49 (by kernel_rfl) (by kernel_rfl)) (hk.dep 12 54 (by kernel_rfl) (by kernel_rfl)) ⟨Ext.refl _, rfl⟩) ?_
        refine factsOk_cons (opOk_none rfl fun ρ w hx hk => out_move rfl ⟨Ext.refl _, (known_out (Fact.rb c) hk 2 (by kernel_rfl) hx (hbc))⟩) ?_
        refine factsOk_cons (opOk_none rfl fun ρ w hx hk => out_move rfl ⟨Ext.refl _, (known_out (Fact.eq (.int .i64 ((n : Nat) : Int))) hk 7 (by kernel_rfl) hx (rfl))⟩) ?_
        refine factsOk_cons (opOk_none rfl fun ρ w hx hk => out_slice rfl Try.underlying22 Hi.out hz1 (hk.dep 14 56 (by kernel_rfl) (by kernel_rfl)) rfl (hk.dep 15 57 (by kernel_rfl) (by kernel_rfl)) (by omega) (by omega) fun u hu => ⟨Ext.refl _, hu⟩) ?_
        refine factsOk_cons (opOk_none rfl fun ρ w hx hk => out_build1 rfl Try.underlying29 hiS hzS hsS (RB.one (hk.dep 16 58 (by kernel_rfl) (by kernel_rfl))) ⟨Ext.alloc _ _, RP.new (RBs.cons (hk.dep 16 58 (by kernel_rfl) (by kernel_rfl)) (RBs.nil _)) rfl rfl⟩) ?_
        refine factsOk_cons (opOk_none rfl fun ρ w hx hk => out_call1 rfl (hk.func _) (by kernel_rfl) (of_v (hk.dep 17 59 (by kernel_rfl) (by kernel_rfl)) (by simp) (by simp; omega)) fun _ _ h => h) ?_
        refine factsOk_cons (opOk_none rfl fun ρ w hx hk => out_xor_rv rfl (hk.dep 13 55 (by kernel_rfl) (by kernel_rfl)) (hk.dep 18 60 (by kernel_rfl) (by kernel_rfl)) ⟨Ext.refl _, rfl⟩) ?_
        refine factsOk_cons (opOk_none rfl fun ρ w hx hk => out_eql_rv rfl (hk.dep 2 44 (by kernel_rfl) (by kernel_rfl)) (hk.dep 19 61 (by kernel_rfl) (by kernel_rfl)) hsum ⟨Ext.refl _, rfl⟩) ?_
        refine factsOk_cons (opOk_none rfl fun ρ w hx hk => out_move rfl ⟨Ext.refl _, (hk.dep 20 62 (by kernel_rfl) (by kernel_rfl))⟩) ?_
        refine factsOk_cons (opOk_some (d := 63) rfl (by kernel_rfl) (by kernel_rfl) (fun _ _ h => h) fun ρ w hx hk => out_call0 rfl (hk.func _) (by kernel_rfl) (awake_v _) fun _ _ h => h) ?_
        refine factsOk_cons (opOk_none rfl fun ρ w hx hk => out_pick (t := true) rfl (hk.dep 21 63 (by kernel_rfl) (by kernel_rfl)) ⟨Ext.refl _, (hk.dep 22 64 (by kernel_rfl) (by kernel_rfl))⟩) ?_
        refine factsOk_cons (opOk_none rfl fun ρ w hx hk => out_assign rfl ⟨Ext.refl _, (hk.dep 23 65 (by kernel_rfl) (by kernel_rfl))⟩) ?_
        exact factsOk_nil
      case hend =>

        intro vs w1 hx1 hf
        obtain ⟨T, hT, hv⟩ := fill_end (i := 24) (d := 6) vs (by kernel_rfl) (by kernel_rfl) (hf 24 6 (by kernel_rfl))
        rw [← hT]
        clear hT hf
        go_wp2_with fail
        refine bodyPost_ret (results_tmp rfl _ _ _) rfl ?_
        exact ⟨congrArg Ending.returned hv, Hx.out.trans hx1⟩
set_option maxRecDepth 100000 in
set_option maxHeartbeats 1000000 in
theorem sumAdds_any (A B C : Option Addr) (ca cb cc : Nat) (a b c : List UInt8) (w : World) (hca : a.length ≤ ca) (hma : ca ≤ maxLen) (ha : Row w A (bvs a)) (hcb : b.length ≤ cb) (hmb : cb ≤ maxLen) (hb : Row w B (bvs b)) (hcc : c.length ≤ cc) (hmc : cc ≤ maxLen) (hc : Row w C (bvs c)) :
    Calls Try.prog 4 #[.slice A a.length ca, .slice B b.length cb, .slice C c.length cc] w fun e w' => e = .returned (.bool true) ∧ Ext w w' := by
  by_cases hn : min a.length (min b.length c.length) ≤ 100
  · exact sumAdds_main A B C ca cb cc a b c w _ rfl hn hca hcb hcc ha hb hc
  · have hmin := min3_run a.length b.length c.length _ rfl
    unfold maxLen at hma hmb hmc
    generalize min a.length (min b.length c.length) = n at *
    have i1 : (100 : Int) < (n : Int) := by omega
    go_enter Try.func4, Try.ntmps4
    go_wp2_with fail
    refine (awake_any _).mono ?_
    rintro e w' ⟨rfl, hx⟩
    go_wp2_with fail
    go_ret
    exact ⟨rfl, hx⟩
end Go.Proofs.Ytadchoffoanfjaa
