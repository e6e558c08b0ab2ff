/- PackBack, walked: it returns true and writes nothing that was there. Conditions: its argument reads as bytes. -/
import Derived.Test.YtobbgjgcgohdgaaPkL
import Derived.Test.YtobbgjgcgohdgaaOutB
import Derived.Test.YtobbgjgcgohdgaaTail
namespace Go.Proofs.Ytobbgjgcgohdgaa
open Go Go.RowKit
set_option linter.unusedVariables false

theorem row2_new {w : World} {u v u' v' : Value} {e : TypeId} (h : v = u) (h' : v' = u') : ∃ A c, (.slice (some ⟨w.heap.size, 0, none⟩) 2 2 : Value) = .slice A 2 c ∧ Row (w.alloc (.cells [v, v'].toArray e)) A [u, u'] := by
  subst h h'
  exact ⟨_, _, rfl, Row.new w [v, v'] e (0, 0)⟩
theorem or128_val (x : UInt8) : Value.int .u8 (bits .or .u8 (x.toNat : Int) 128) = bv (x ||| 128) := by
  unfold bv
  have h := u8_or_nat x.toNat 128 x.toNat_lt (by omega)
  have e128 : (128 : UInt8).toNat = 128 := by decide
  rw [show ((128 : Nat) : Int) = 128 from rfl] at h
  rw [UInt8.toNat_or, e128, h]
theorem wrap_pred {L : Nat} (h1 : 1 ≤ L) (h2 : L ≤ 10) : Value.int .i64 (IntKind.i64.wrap ((L : Int) - 1)) = .int .i64 ((L - 1 : Nat) : Int) := by
  have h : IntKind.i64.wrap ((L : Int) - 1) = ((L - 1 : Nat) : Int) := by
    rw [IntKind.wrap_i64]
    omega
  rw [h]
theorem rc_take {w : World} {A : Option Addr} {l : List UInt8} {c k : Nat} (h : Row w A (bvs l)) (hk : k ≤ l.length) (hc : l.length ≤ c) (hc2 : c ≤ maxLen) : RC w (.slice A k c) (l.take k) := by
  refine ⟨A, c, by simp [Nat.min_eq_left hk], by simp; omega, hc2, fun hn => ?_⟩
  have hne : bvs l ≠ [] := by
    intro e
    have : l = [] := by simpa [bvs] using e
    subst this
    simp [bvs] at hn
  obtain ⟨ad, h1, h2⟩ := h hne
  refine ⟨ad, h1, fun j u hu => h2 j u ?_⟩
  simp only [bvs, List.map_take, List.getElem?_take] at hu ⊢
  split at hu
  · exact hu
  · cases hu
set_option maxRecDepth 100000 in
set_option maxHeartbeats 2000000 in
theorem packBack_main (n m : Nat) (B : Option Addr) (d : Nat) (l : List UInt8) (w : World) (hn : n < 18446744073709551616) (hm : m < 18446744073709551616) (hl : l.length ≤ 20) (hd : l.length ≤ d) (hd2 : d ≤ maxLen) (hb : Row w B (bvs l)) :
    Calls Try.prog 3 #[.int .u64 (n : Int), .int .u64 (m : Int), .slice B l.length d] w fun e w' => e = .returned (.bool true) ∧ Ext w w' := by
  obtain ⟨i0, hi, hz0, hz1, hz2⟩ := info_parts Try.infoU8
  have Hi := hide hi; clear hi
  have i1 : ¬ (20 : Int) < (l.length : Int) := by omega
  have Hb := hide hb; clear hb
  unfold maxLen at hd2
  go_enter Try.func3, Try.ntmps3
  go_wp2_with fail
  refine (put_v w _ [] n (by simp) hn (RB.nil _)).mono ?_
  rintro e w1 ⟨u, rfl, hx1, ho1⟩
  rw [List.nil_append] at ho1
  have Hx1 := hide hx1; have Ho1 := hide ho1.rc; clear hx1 ho1
  go_wp2_with fail
  refine (put_v w1 _ [] m (by simp) hm (RB.nil _)).mono ?_
  rintro e w2 ⟨v, rfl, hx2, ho2⟩
  rw [List.nil_append] at ho2
  have Hx2 := hide (Hx1.out.trans hx2)
  have hu := Ho1.out.ext hx2
  have hv := ho2.rc
  clear hx2 ho2 Ho1 Hx1
  obtain ⟨A, c, rfl, hlc, hcm, ra⟩ := hu
  obtain ⟨C, cc, rfl, -, -, -⟩ := hv
  have hX := putN_len n
  have hY := putN_len m
  have Hmono := hide (fun h : n ≤ m => putN_mono h)
  have Hless := hide (getN_less n hn)
  have Hlong := hide (getN_long n hn)
  have Hput := hide (fun r => getN_put n r hn)
  generalize putN n = X at *
  generalize (putN m).length = M at *
  have hLX : X.length - 1 < X.length := by omega
  obtain ⟨ad, rfl, hcx⟩ := ra.byte hLX
  have Hlast := hide (show X.getLast? = some (X[X.length - 1]) by rw [List.getLast?_eq_getElem?, List.getElem?_eq_getElem hLX])
  generalize X[X.length - 1] = x at *
  have Hra := hide ra; clear ra
  have HL := hide (show X.length = X.length from rfl)
  generalize hLL : X.length = L at *
  have Hll := hide hLL
  clear HL hLX
  have i2 : ¬ (L : Int) < 1 := by omega
  have i3 : ¬ (10 : Int) < (L : Int) := by omega
  have i4 : ¬ (M : Int) < 1 := by omega
  unfold maxLen at hcm
  have Hcx := hide hcx; clear hcx
  go_wp2_with (at_builtin; refine wpList_app _ rfl _ _ 23 rfl w2.heap.size 5 i0 (.int .u8 0) 1 1 Try.underlying23 Hi.out hz0 hz1 hz2 rfl (by decide) _ 0 [] rfl (Own.nil _ _ _ _ _) _ _ _ (bvs X) rfl ((by simp [bvs, hLL])) (Hra.out) (bvs_one X) ?c2 ?c3 ?c4 ?_)
  try case c2 => omega
  try case c3 => unfold maxLen; omega
  try case c4 => simp

  intro v3 w3 o3 g3 _
  have hx3 := ext_of_grown g3
  have Hx3 := hide (Hx2.out.trans hx3)
  have O3 := hide o3; have Hx23 := hide hx3; clear o3 hx3 g3
  go_wp2_with (at_builtin; refine wpList_app _ rfl _ _ 23 rfl w2.heap.size 5 i0 (.int .u8 0) 1 1 Try.underlying23 Hi.out hz0 hz1 hz2 rfl (by decide) _ _ _ rfl (O3.out) _ _ _ (bvs l) rfl ((by simp [bvs])) ((Hb.out.ext Hx3.out)) (bvs_one l) ?c2 ?c3 ?c4 ?_)
  try case c2 => (simp; omega)
  try case c3 => unfold maxLen; (simp; omega)
  try case c4 => exact Hx23.out.size

  intro v4 w4 o4 g4 _
  have hx4 : Ext w w4 := Below.grown Hx3.out g4 Hx3.out.size (fun k hk => Nat.le_trans Hx2.out.size (O3.out.lt hk).1)
  have hx24 : Ext w2 w4 := Below.grown Hx23.out g4 Hx23.out.size (fun k hk => (O3.out.lt hk).1)
  rw [← bvs_append, show L + l.length = (X ++ l).length from by simp [Hll.out]] at o4
  have Hx4 := hide hx4; have O4 := hide o4.rc; have Hra4 := hide (Hra.out.ext hx24); have Hcx4 := hide (hx24.cell Hcx.out)
  clear hx4 o4 g4 hx24 O3 Hx3 Hx23 Hra Hcx
  go_wp2_with fail
  refine (get_v _ _ (X ++ l) (by simp [Hll.out]; omega) O4.out (n := n) (r := l) (by exact Hput.out l)).mono ?_
  rintro e w5 ⟨v5, rfl, hx, ho⟩
  have Hx5 := hide (Hx4.out.trans hx); have O5 := hide ho.rc; have Hra5 := hide (Hra4.out.ext hx); have Hcx5 := hide (hx.cell Hcx4.out)
  clear hx ho O4 Hra4 Hcx4 Hx4
  go_wp2_with fail
  refine (get_none _ _ (X.take (L - 1)) (by simp; omega) (rc_take Hra5.out (by omega) (by omega) (by unfold maxLen; omega)) Hless.out).mono ?_
  rintro e w6 ⟨rfl, hx⟩
  have Hx6 := hide (Hx5.out.trans hx); have O6 := hide (O5.out.ext hx); have Hra6 := hide (Hra5.out.ext hx); have Hcx6 := hide (hx.cell Hcx5.out)
  clear hx O5 Hra5 Hcx5 Hx5
  go_wp2_with fail
  have hRX : RB w6 (.slice (some ad) L c) X := ⟨some ad, c, by rw [Hll.out], by omega, Hra6.out⟩
  have hcx := Hcx6.out
  have hsub := wrap_pred hX.1 hX.2
  generalize hW0 : w6 = W0 at *
  refine wp_region_tail_at 14 (F := ofs [Fact.eq (.slice (some ad) L c), Fact.eq (.slice (some ad) L c), Fact.eq (.int .i64 ((L : Nat) : Int)), Fact.eq (.int .i64 (((L - 1) : Nat) : Int)), Fact.rb ((X.drop 0).take (L - 1 - 0)), Fact.own W0.heap.size 5 ((X.drop 0).take (L - 1 - 0)), Fact.eq (.slice (some ad) L c), Fact.eq (.slice (some ad) L c), Fact.eq (.int .i64 ((L : Nat) : Int)), Fact.eq (.int .i64 (((L - 1) : Nat) : Int)), Fact.eq (.pointer (some (ad.add (L - 1)))), Fact.eq (.int .u8 (x.toNat : Int)), Fact.eq (.int .u8 (bits .or .u8 (x.toNat : Int) 128)), Fact.row2 (.int .u8 (bits .or .u8 (x.toNat : Int) 128)) (.int .u8 0)]) (preExt) (by kernel_rfl) (by kernel_rfl) (ofs_mono _) ?hop ?hend
  case hop =>
    dsimp only [List.take]
    refine factsOk_cons (opOk_none rfl fun ρ w hx hk => out_move rfl ⟨Ext.refl _, (known_out (Fact.eq (.slice (some ad) L c)) hk 7 (by kernel_rfl) hx (rfl))⟩) ?_
    refine factsOk_cons (opOk_none rfl fun ρ w hx hk => out_move rfl ⟨Ext.refl _, (known_out (Fact.eq (.slice (some ad) L c)) hk 7 (by kernel_rfl) hx (rfl))⟩) ?_
    refine factsOk_cons (opOk_none rfl fun ρ w hx hk => out_len rfl Try.underlying23 (hk.dep 1 60 (by kernel_rfl) (by kernel_rfl)) ⟨Ext.refl _, rfl⟩) ?_
    refine factsOk_cons (opOk_none rfl fun ρ w hx hk => out_sub rfl (hk.dep 2 61 (by kernel_rfl) (by kernel_rfl)) (hk.const _) ⟨Ext.refl _, hsub⟩) ?_
    refine factsOk_cons (opOk_none rfl fun ρ w hx hk => out_slice (l := X) rfl Try.underlying23 Hi.out hz1 (by rw [show ρ (.tmp 59) = _ from (hk.dep 0 59 (by kernel_rfl) (by kernel_rfl))]; exact hRX.ext hx) rfl (hk.dep 3 62 (by kernel_rfl) (by kernel_rfl)) (by omega) (by omega) fun u hu => ⟨Ext.refl _, hu⟩) ?_
    refine factsOk_cons (opOk_none rfl fun ρ w hx hk => out_app_nil rfl Try.underlying23 Hi.out hz0 hz1 hz2 rfl (hk.const _) (hk.dep 4 63 (by kernel_rfl) (by kernel_rfl)) (by simp; omega) fun v w1 e1 o1 => ⟨e1, o1.mono hx.size⟩) ?_
    refine factsOk_cons (opOk_none rfl fun ρ w hx hk => out_move rfl ⟨Ext.refl _, (known_out (Fact.eq (.slice (some ad) L c)) hk 7 (by kernel_rfl) hx (rfl))⟩) ?_
    refine factsOk_cons (opOk_none rfl fun ρ w hx hk => out_move rfl ⟨Ext.refl _, (known_out (Fact.eq (.slice (some ad) L c)) hk 7 (by kernel_rfl) hx (rfl))⟩) ?_
    refine factsOk_cons (opOk_none rfl fun ρ w hx hk => out_len rfl Try.underlying23 (hk.dep 7 66 (by kernel_rfl) (by kernel_rfl)) ⟨Ext.refl _, rfl⟩) ?_
    refine factsOk_cons (opOk_none rfl fun ρ w hx hk => out_sub rfl (hk.dep 8 67 (by kernel_rfl) (by kernel_rfl)) (hk.const _) ⟨Ext.refl _, hsub⟩) ?_
    refine factsOk_cons (opOk_none rfl fun ρ w hx hk => out_index rfl Try.underlying23 Hi.out hz1 (hk.dep 6 65 (by kernel_rfl) (by kernel_rfl)) rfl (hk.dep 9 68 (by kernel_rfl) (by kernel_rfl)) (by omega) ⟨Ext.refl _, rfl⟩) ?_
    refine factsOk_cons (opOk_none rfl fun ρ w hx hk => out_load_int rfl Try.underlying5 (hk.dep 10 69 (by kernel_rfl) (by kernel_rfl)) (hx.cell hcx) ⟨Ext.refl _, rfl⟩) ?_
    refine factsOk_cons (opOk_none rfl fun ρ w hx hk => out_or rfl (hk.dep 11 70 (by kernel_rfl) (by kernel_rfl)) (hk.const _) ⟨Ext.refl _, rfl⟩) ?_
    refine factsOk_cons (opOk_none rfl fun ρ w hx hk => out_build2 rfl Try.underlying23 Hi.out hz0 hz1 (by rw [show ρ (.tmp 71) = _ from (hk.dep 12 71 (by kernel_rfl) (by kernel_rfl))]; rfl) (by rw [hk.const]; rfl) ⟨Ext.alloc _ _, row2_new (hk.dep 12 71 (by kernel_rfl) (by kernel_rfl)) (hk.const _)⟩) ?_
    exact factsOk_nil
  case hend =>

  intro vs w7 hx7 hf
  have f5 : Own w7 W0.heap.size 5 1 (vs 5) ((X.drop 0).take (L - 1 - 0)).length (bvs ((X.drop 0).take (L - 1 - 0))) := hf 5 64 (by kernel_rfl)
  have f13 : ∃ A c, vs 13 = .slice A 2 c ∧ Row w7 A [.int .u8 (bits .or .u8 (x.toNat : Int) 128), .int .u8 0] := hf 13 72 (by kernel_rfl)
  clear hf
  obtain ⟨A13, c13, e13, hr13⟩ := f13
  rw [show (X.drop 0).take (L - 1 - 0) = X.take (L - 1) from by simp] at f5
  rw [or128_val] at hr13
  have hT := Hlong.out x Hlast.out
  have hTl : (X.take (L - 1)).length = L - 1 := by simp; omega
  generalize X.take (L - 1) = T at *
  generalize hv5 : vs 5 = v7 at *
  dsimp only [List.take, List.drop]
  simp only [fill, List.setIfInBounds_toArray, List.set_cons_succ, List.set_cons_zero, Nat.reduceAdd, hv5, e13]
  have HT := hide hT
  have F5 := hide f5; have Hr13 := hide hr13; have Hx07 := hide hx7; have HTl := hide hTl
  have Hx7 := hide (Hx6.out.trans hx7); have O7 := hide (O6.out.ext hx7)
  clear f5 hr13 hx7 hTl hv5 e13 hT hRX hcx hsub Hcx6 Hra6
  go_wp2_with (at_builtin; refine wpList_app _ rfl _ _ 23 rfl W0.heap.size 5 i0 (.int .u8 0) 1 1 Try.underlying23 Hi.out hz0 hz1 hz2 rfl (by decide) _ _ _ rfl F5.out _ 2 _ [bv (x ||| 128), .int .u8 0] rfl rfl Hr13.out ?d1 ?d2 ?d3 ?d4 ?_)
  case d1 => intro u hu; simp at hu; rcases hu with rfl | rfl <;> rfl
  case d2 => have := HTl.out; omega
  case d3 => have := HTl.out; unfold maxLen; omega
  case d4 => exact Hx07.out.size
  intro v8 w8 o8 g8 _
  have hx8 : Ext w w8 := Below.grown Hx7.out g8 Hx7.out.size (fun k hk => Nat.le_trans Hx6.out.size (F5.out.lt hk).1)
  have hx78 : Ext W0 w8 := Below.grown Hx07.out g8 Hx07.out.size (fun k hk => (F5.out.lt hk).1)
  have hO8 : RC w8 v5 l := O6.out.ext hx78
  rw [show ([bv (x ||| 128), .int .u8 0] : List Value) = bvs [x ||| 128, 0] from rfl, ← bvs_append, show T.length + 2 = (T ++ [x ||| 128, 0]).length from by simp] at o8
  have Hx8 := hide hx8; have O8 := hide o8.rc; have R8 := hide hO8
  clear hx8 hx78 o8 g8 hO8
  go_wp2_with fail
  refine (get_none _ _ _ (by have := HTl.out; simp; omega) O8.out HT.out).mono ?_
  rintro e w9 ⟨rfl, hx⟩
  have Hx9 := hide (Hx8.out.trans hx); have R9 := hide (R8.out.ext hx)
  clear hx
  by_cases hnm : m < n
  · have j1 : (m : Int) < (n : Int) := by omega
    go_wp2_with fail
    refine (same_v _ _ _ l l R9.out.rb (RB.ext ⟨B, d, rfl, hd, Hb.out⟩ Hx9.out) (by omega) (by omega)).mono ?_
    rintro e w10 ⟨rfl, hx⟩
    have Hx10 := hide (Hx9.out.trans hx); clear hx
    go_wp2_with fail
    refine (awake_any _).mono ?_
    rintro e w11 ⟨rfl, hx⟩
    have Hx11 := hide (Hx10.out.trans hx); clear hx
    go_wp2_with fail
    go_ret
    exact ⟨rfl, Hx11.out⟩
  · have j1 : ¬ (m : Int) < (n : Int) := by omega
    have j2 := Hmono.out (by omega)
    have j3 : (L : Int) ≤ (M : Int) := by omega
    go_wp2_with fail
    refine (same_v _ _ _ l l R9.out.rb (RB.ext ⟨B, d, rfl, hd, Hb.out⟩ Hx9.out) (by omega) (by omega)).mono ?_
    rintro e w10 ⟨rfl, hx⟩
    have Hx10 := hide (Hx9.out.trans hx); clear hx
    go_wp2_with fail
    refine (awake_any _).mono ?_
    rintro e w11 ⟨rfl, hx⟩
    have Hx11 := hide (Hx10.out.trans hx); clear hx
    go_wp2_with fail
    go_ret
    exact ⟨rfl, Hx11.out⟩
theorem packBack_any (n m : Nat) (B : Option Addr) (d : Nat) (l : List UInt8) (w : World) (hn : n < 18446744073709551616) (hm : m < 18446744073709551616) (hd : l.length ≤ d) (hd2 : d ≤ maxLen) (hb : Row w B (bvs l)) :
    Calls Try.prog 3 #[.int .u64 (n : Int), .int .u64 (m : Int), .slice B l.length d] w fun e w' => e = .returned (.bool true) ∧ Ext w w' := by
  by_cases hl : l.length ≤ 20
  · exact packBack_main n m B d l w hn hm hl hd hd2 hb
  · have i1 : (20 : Int) < (l.length : Int) := by omega
    unfold maxLen at hd2
    go_enter Try.func3, Try.ntmps3
    go_wp2_with fail
    refine (awake_any _).mono ?_
    rintro e w' ⟨rfl, hx⟩
    go_wp2_with fail
    go_ret
    exact ⟨rfl, hx⟩
end Go.Proofs.Ytobbgjgcgohdgaa
