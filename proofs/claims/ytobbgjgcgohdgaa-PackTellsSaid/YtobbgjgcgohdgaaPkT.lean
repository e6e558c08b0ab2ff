/- PackTells, walked: it returns true and writes nothing that was there. Conditions: its argument reads as bytes. -/
import Derived.Test.YtobbgjgcgohdgaaPkT0
import Derived.Test.YtobbgjgcgohdgaaOver
import Derived.Test.YtobbgjgcgohdgaaLend
import Derived.Test.YtobbgjgcgohdgaaKept
namespace Go.Proofs.Ytobbgjgcgohdgaa
open Go Go.RowKit
set_option linter.unusedVariables false

set_option maxRecDepth 100000 in
set_option maxHeartbeats 4000000 in
theorem packTells_main (B : Option Addr) (d : Nat) (l : List UInt8) (n : Nat) (many : Int) (w : World) (hn : n < 18446744073709551616) (hl : l.length ≤ 40) (hd : l.length ≤ d) (hd2 : d ≤ maxLen) (hb : Row w B (bvs l)) :
    Calls Try.prog 6 #[.slice B l.length d, .int .u64 (n : Int), .int .i64 many] w fun e w' => e = .returned (.bool true) ∧ Ext w w' := by
  have i1 : ¬ (40 : Int) < (l.length : Int) := by omega
  have Hb := hide hb; clear hb
  have Hd2 := hide hd2
  unfold maxLen at hd2
  go_enter Try.func6, Try.ntmps6
  go_wp2_with fail
  refine (lendBytes_any B d l w (by omega) Hb.out).mono ?_
  rintro e w1 ⟨g, rfl, hgs, hx1, hg⟩
  have Hx1 := hide hx1; have Hg := hide hg; clear hx1 hg
  have hgl : g < w1.heap.size := (Array.getElem?_eq_some_iff.1 Hg.out).1
  have e33 : l.length + 3 ≤ maxLen := by unfold maxLen; omega
  have He33 := hide e33; clear e33
  have HG : Hid (∀ wx, Ext w1 wx → Row wx (some ⟨g, 0, none⟩) (bvs l)) := hide fun wx hx => lent_row ((hx.block g hgl).trans Hg.out)
  have HB : Hid (∀ wx, Ext w1 wx → Row wx B (bvs l)) := hide fun wx hx => (Hb.out.ext Hx1.out).ext hx
  go_wp2_with fail
  refine (put_any (some ⟨g, 0, none⟩) (l.length + 3) l n w1 (by omega) hn (HG.out _ (Ext.refl _))).mono ?_
  rintro e w2 ⟨vx, rfl, hx, ho⟩
  have E2 := hide hx; have X2 := hide ho; clear hx ho
  go_wp2_with fail
  refine (fix_t (some ⟨g, 0, none⟩) (l.length + 3) l n many w2 (by omega) hn (HG.out _ E2.out)).mono ?_
  rintro e w3 ⟨vy, rfl, hx, ho⟩
  have E3 := hide (E2.out.trans hx); have D3 := hide hx; have Y3 := hide ho; clear hx ho
  go_wp2_with fail
  refine (get_t (some ⟨g, 0, none⟩) (l.length + 3) l w3 (by omega) (by omega) He33.out (HG.out _ E3.out)).mono ?_
  rintro e w4 ⟨vr, rfl, hx, ho⟩
  have E4 := hide (E3.out.trans hx); have D4 := hide hx; have R4 := hide ho; clear hx ho
  go_wp2_with fail
  refine (unfix_t (some ⟨g, 0, none⟩) (l.length + 3) l many w4 (by omega) (by omega) He33.out (HG.out _ E4.out)).mono ?_
  rintro e w5 ⟨vs, rfl, hx, ho⟩
  have E5 := hide (E4.out.trans hx); have D5 := hide hx; have S5 := hide ho; clear hx ho
  go_wp2_with fail
  refine (rget_t B d l w5 (by omega) hd Hd2.out (HB.out _ E5.out)).mono ?_
  rintro e w6 ⟨vt, rfl, hx, ho⟩
  have E6 := hide (E5.out.trans hx); have D6 := hide hx; have T6 := hide ho.rb; clear hx ho
  go_wp2_with fail
  refine (runfix_t B d l many w6 (by omega) hd Hd2.out (HB.out _ E6.out)).mono ?_
  rintro e w7 ⟨vv, rfl, hx, ho⟩
  have E7 := hide (E6.out.trans hx); have D7 := hide hx; have V7 := hide ho.rb; clear hx ho
  go_wp2_with fail
  refine (rput_any B d l n w7 (by omega) hn (HB.out _ E7.out)).mono ?_
  rintro e w8 ⟨vp, rfl, hx, ho⟩
  have E8 := hide (E7.out.trans hx); have D8 := hide hx; have P8 := hide ho.rb; clear hx ho
  have Z2 := hide (D3.out.trans (D4.out.trans (D5.out.trans (D6.out.trans (D7.out.trans D8.out)))))
  have hpl := putN_len n
  have hfl := fixZ_len n many
  have hgl1 := gL_len (l := l)
  have hgl2 := gL_len2 (l := l) (many := many)
  have Lens := hide (And.intro hpl (And.intro hfl (And.intro hgl1 hgl2)))
  clear hpl hfl hgl1 hgl2
  go_wp2_with fail
  refine (same_v _ _ _ (l ++ putN n) (l ++ putN n) (X2.out.ext Z2.out).rb P8.out (by have := Lens.out; simp; omega) (by have := Lens.out; simp; omega)).mono ?_
  rintro e w9 ⟨rfl, hx⟩
  have E9 := hide (E8.out.trans hx); have D9 := hide hx; clear hx
  go_wp2_with fail
  refine (rfix_t B d l n many w9 (by omega) hn (HB.out _ E9.out)).mono ?_
  rintro e w10 ⟨vq, rfl, hx, ho⟩
  have E10 := hide (E9.out.trans hx); have D10 := hide hx; have Q10 := hide ho.rb; clear hx ho
  have Z3 := hide (D4.out.trans (D5.out.trans (D6.out.trans (D7.out.trans (D8.out.trans (D9.out.trans D10.out))))))
  go_wp2_with fail
  refine (same_v _ _ _ (l ++ fixZ n many) (l ++ fixZ n many) (Y3.out.ext Z3.out).rb Q10.out (by have := Lens.out; simp; omega) (by have := Lens.out; simp; omega)).mono ?_
  rintro e w11 ⟨rfl, hx⟩
  have E11 := hide (E10.out.trans hx); have D11 := hide hx; clear hx
  have Z4 := hide (D5.out.trans (D6.out.trans (D7.out.trans (D8.out.trans (D9.out.trans (D10.out.trans D11.out))))))
  have Z6 := hide (D7.out.trans (D8.out.trans (D9.out.trans (D10.out.trans D11.out))))
  go_wp2_with fail
  refine (same_v _ _ _ (gL (getN l)) (gL (getN l)) (R4.out.ext Z4.out).rb (T6.out.ext Z6.out) (by have := Lens.out; omega) (by have := Lens.out; omega)).mono ?_
  rintro e w12 ⟨rfl, hx⟩
  have E12 := hide (E11.out.trans hx); have D12 := hide hx; clear hx
  have Z5 := hide (D6.out.trans (D7.out.trans (D8.out.trans (D9.out.trans (D10.out.trans (D11.out.trans D12.out))))))
  have Z7 := hide (D8.out.trans (D9.out.trans (D10.out.trans (D11.out.trans D12.out))))
  go_wp2_with fail
  refine (same_v _ _ _ (gL (unfZ l many)) (gL (unfZ l many)) (S5.out.ext Z5.out).rb (V7.out.ext Z7.out) (by have := Lens.out; omega) (by have := Lens.out; omega)).mono ?_
  rintro e w13 ⟨rfl, hx⟩
  have E13 := hide (E12.out.trans hx)
  have Zx := hide (Z2.out.trans (D9.out.trans (D10.out.trans (D11.out.trans (D12.out.trans hx)))))
  have Zy := hide (Z3.out.trans (D11.out.trans (D12.out.trans hx)))
  have Zr := hide (Z4.out.trans (D12.out.trans hx))
  have Zs := hide (Z5.out.trans hx)
  clear hx
  have Ovvx := hide (X2.out.ext Zx.out); have Ovvy := hide (Y3.out.ext Zy.out); have Ovvr := hide (R4.out.ext Zr.out); have Ovvs := hide (S5.out.ext Zs.out)
  have Apvxvy := hide (Own.apart (w' := w2) X2.out (Nat.le_refl _) Y3.out)
  have Apvxvr := hide (Own.apart (w' := w2) X2.out D3.out.size R4.out)
  have Apvxvs := hide (Own.apart (w' := w2) X2.out (Nat.le_trans D3.out.size D4.out.size) S5.out)
  have Apvyvr := hide (Own.apart (w' := w2) Y3.out (Nat.le_refl _) R4.out)
  have Apvyvs := hide (Own.apart (w' := w2) Y3.out D4.out.size S5.out)
  have Apvrvs := hide (Own.apart (w' := w2) R4.out (Nat.le_refl _) S5.out)
  have Lovx := hide (Nat.le_refl w1.heap.size); have Lovy := hide E2.out.size; have Lovr := hide E3.out.size; have Lovs := hide E4.out.size
  have Bsvx := hide E5.out.size; have Bsvs := hide D5.out.size; have Bsvr := hide (Nat.le_trans D4.out.size D5.out.size); have Bsvy := hide (Nat.le_trans D3.out.size (Nat.le_trans D4.out.size D5.out.size))
  have Sz13 := hide Zs.out.size
  clear X2 Y3 R4 S5 T6 V7 P8 Q10 Z2 Z3 Z4 Z5 Z6 Z7 E2 E3 E4 E5 E6 E7 E8 E9 E10 E11 E12 D3 D4 D5 D6 D7 D8 D9 D10 D11 D12
  go_wp2_with fail
  refine (over_any w1.heap.size _ vx _ _ (by have := Lens.out; simp; omega) (Nat.le_trans Bsvx.out Sz13.out) Ovvx.out).mono ?_
  rintro e z0 ⟨⟨r0, rfl⟩, hg⟩
  have E20 := hide (Below.grown E13.out hg E13.out.size (fun k hk => Nat.le_trans Lovx.out (Ovvx.out.lt hk).1)); have Sz20 := hide (Nat.le_trans Sz13.out hg.size)
  have Owvy := hide (Ovvy.out.kept hg Apvxvy.out)
  have Owvr := hide (Ovvr.out.kept hg Apvxvr.out)
  have Owvs := hide (Ovvs.out.kept hg Apvxvs.out)
  clear hg Ovvy Ovvr Ovvs
  have Ovvy := Owvy; clear Owvy
  have Ovvr := Owvr; clear Owvr
  have Ovvs := Owvs; clear Owvs
  go_wp2_with fail
  refine (over_any w2.heap.size _ vy _ _ (by have := Lens.out; simp; omega) (Nat.le_trans Bsvy.out Sz20.out) Ovvy.out).mono ?_
  rintro e z1 ⟨⟨r1, rfl⟩, hg⟩
  have E21 := hide (Below.grown E20.out hg E20.out.size (fun k hk => Nat.le_trans Lovy.out (Ovvy.out.lt hk).1)); have Sz21 := hide (Nat.le_trans Sz20.out hg.size)
  have Owvr := hide (Ovvr.out.kept hg Apvyvr.out)
  have Owvs := hide (Ovvs.out.kept hg Apvyvs.out)
  clear hg Ovvr Ovvs
  have Ovvr := Owvr; clear Owvr
  have Ovvs := Owvs; clear Owvs
  go_wp2_with fail
  refine (over_any w3.heap.size _ vr _ _ (by have := Lens.out; omega) (Nat.le_trans Bsvr.out Sz21.out) Ovvr.out).mono ?_
  rintro e z2 ⟨⟨r2, rfl⟩, hg⟩
  have E22 := hide (Below.grown E21.out hg E21.out.size (fun k hk => Nat.le_trans Lovr.out (Ovvr.out.lt hk).1)); have Sz22 := hide (Nat.le_trans Sz21.out hg.size)
  have Owvs := hide (Ovvs.out.kept hg Apvrvs.out)
  clear hg Ovvs
  have Ovvs := Owvs; clear Owvs
  go_wp2_with fail
  refine (over_any w4.heap.size _ vs _ _ (by have := Lens.out; omega) (Nat.le_trans Bsvs.out Sz22.out) Ovvs.out).mono ?_
  rintro e z3 ⟨⟨r3, rfl⟩, hg⟩
  have E23 := hide (Below.grown E22.out hg E22.out.size (fun k hk => Nat.le_trans Lovs.out (Ovvs.out.lt hk).1)); have Sz23 := hide (Nat.le_trans Sz22.out hg.size)
  clear hg
  go_wp2_with fail
  refine (keptBytes_any g B d l _ (by omega) ((E23.out.block g hgl).trans Hg.out) (HB.out _ E23.out)).mono ?_
  rintro e w20 ⟨rfl, nn, rfl⟩
  have Hx20 := hide (Hx1.out.trans (Ext.trans (show Ext w1 z3 from E23.out) (Ext.drewN z3 nn)))
  go_wp2_with fail
  refine (awake_any _).mono ?_
  rintro e w21 ⟨rfl, hx⟩
  have Hx21 := hide (Hx20.out.trans hx); clear hx
  go_wp2_with fail
  go_ret
  exact ⟨rfl, Hx21.out⟩
theorem packTells_any (B : Option Addr) (d : Nat) (l : List UInt8) (n : Nat) (many : Int) (w : World) (hn : n < 18446744073709551616) (hd : l.length ≤ d) (hd2 : d ≤ maxLen) (hb : Row w B (bvs l)) :
    Calls Try.prog 6 #[.slice B l.length d, .int .u64 (n : Int), .int .i64 many] w fun e w' => e = .returned (.bool true) ∧ Ext w w' := by
  by_cases hl : l.length ≤ 40
  · exact packTells_main B d l n many w hn hl hd hd2 hb
  · have i1 : (40 : Int) < (l.length : Int) := by omega
    unfold maxLen at hd2
    go_enter Try.func6, Try.ntmps6
    go_wp2_with fail
    refine (awake_any _).mono ?_
    rintro e w' ⟨rfl, hx⟩
    go_wp2_with fail
    go_ret
    exact ⟨rfl, hx⟩
end Go.Proofs.Ytobbgjgcgohdgaa
