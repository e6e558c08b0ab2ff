/- The reference Get, walked. Conditions: at most 900000 bytes. -/
import Derived.Test.YtobbgjgcgohdgaaPkF2
import Derived.Test.YtobbgjgcgohdgaaPkU2
import Derived.Test.YtobbgjgcgohdgaaOutS
namespace Go.Proofs.Ytobbgjgcgohdgaa
open Go Go.RowKit
set_option linter.unusedVariables false

theorem getL_ten : ∀ (i m : Nat) (l : List UInt8), 9 < i → getL i m l = none
  | _, _, [], _ => rfl
  | i, m, x :: l, h => by
    simp only [getL]
    rw [if_pos (.inl h)]
theorem rput_v (w : World) (n : Nat) (hn : n < 18446744073709551616) :
    Calls Try.prog 18 #[.slice none 0 0, .int .u64 (n : Int)] w (Ret fun u w' => Ext w w' ∧ RB w' u (putN n)) := by
  refine (rput_any none 0 [] n w (by simp) hn (Row.nil _ _)).mono ?_
  rintro e w' ⟨v, he, hx, ho⟩
  exact ⟨v, he, hx, ho.rb⟩
theorem wrap_succ {k : Nat} (h : k ≤ 10) : Value.int .i64 (IntKind.i64.wrap ((k : Int) + 1)) = .int .i64 ((k + 1 : Nat) : Int) := by
  have h : IntKind.i64.wrap ((k : Int) + 1) = ((k + 1 : Nat) : Int) := by
    rw [IntKind.wrap_i64]
    omega
  rw [h]
theorem u64_nat (z : Int) (a b : Int) (h : z = bits BinOp.or .u64 a b) : ∃ n : Nat, z = (n : Int) ∧ n < 18446744073709551616 := by
  have h1 := bits_within .or .u64 a b
  simp [IntKind.min, IntKind.max, IntKind.signed, IntKind.bits] at h1
  refine ⟨z.toNat, by omega, by omega⟩
/-- what the reference makes of the byte that ends a number -/
theorem ref_step {l : List UInt8} {k m n1 : Nat} {x : UInt8} (hk : k ≤ 9) (hd : l.drop k = x :: l.drop (k + 1)) (hlt : k < l.length) (hm : m < 2 ^ (7 * k)) (hg : getL k m (l.drop k) = getN l) (hx : x.toNat < 128)
    (hn : n1 < 18446744073709551616) (hn1 : k < 9 ∨ x.toNat % 128 ≤ 1 → n1 = m + x.toNat % 128 * 2 ^ (7 * k)) :
    getN l = if putN n1 = (l.drop 0).take (k + 1 - 0) then some (n1, l.drop (k + 1)) else none := by
  have htk : l.take (k + 1) ++ l.drop (k + 1) = l := List.take_append_drop _ _
  have hlen : (l.take (k + 1)).length = k + 1 := by simp; omega
  rw [show (l.drop 0).take (k + 1 - 0) = l.take (k + 1) from by simp]
  split
  · next h =>
    rw [← htk, ← h]
    rw [getN_put n1 _ hn]
    congr 2
    rw [h, hlen.symm]
    simp
  · next h =>
    cases hgl : getN l with
    | none => rfl
    | some p =>
      exfalso
      obtain ⟨n', r⟩ := p
      have hgl' := hgl
      rw [← hg, hd] at hgl
      simp only [getL] at hgl
      by_cases h9 : 9 < k ∨ (k = 9 ∧ 1 < x.toNat % 128)
      · rw [if_pos h9] at hgl; cases hgl
      · rw [if_neg h9, if_pos hx] at hgl
        by_cases h0 : x.toNat = 0 ∧ 0 < k
        · rw [if_pos h0] at hgl; cases hgl
        · rw [if_neg h0] at hgl
          injection hgl with hgl
          injection hgl with e1 e2
          have : n1 = n' := by rw [hn1 (by omega)]; exact e1
          subst this
          subst e2
          have h3 := (getN_iff l n1 (l.drop (k + 1))).1 hgl'
          have h4 := h3.2
          rw [← htk] at h4
          have := (List.append_inj h4 (by
            have := congrArg List.length h4
            simp at this ⊢
            omega)).1
          exact h this.symm
set_option maxRecDepth 100000 in
set_option maxHeartbeats 2000000 in
theorem rget_any (A : Option Addr) (c : Nat) (l : List UInt8) (w : World) (hl : l.length ≤ 900000) (hc : l.length ≤ c) (hc2 : c ≤ maxLen) (ha : Row w A (bvs l)) :
    Calls Try.prog 16 #[.slice A l.length c] w fun e w' => Ext w w' ∧ getV w w' e (getN l) := by
  obtain ⟨i0, hi, hz0, hz1, hz2⟩ := info_parts Try.infoU8
  have Hi := hide hi; clear hi
  unfold maxLen at hc2
  go_enter Try.func16, Try.ntmps16
  go_wp2_with fail
  go_loop [5, 6] (fun nn i => ∃ (k m : Nat), k ≤ l.length ∧ k ≤ 10 ∧ (k ≤ 9 → m < 2 ^ (7 * k) ∧ getL k m (l.drop k) = getN l) ∧ (k = 10 → getN l = none) ∧ i = .int .i64 (k : Int) ∧ nn = .int .u64 (m : Int)) (fun _ i => l.length - (intOf i).toNat)
  case atStart => exact ⟨0, 0, by omega, by omega, fun _ => ⟨by simp, rfl⟩, by omega, rfl, rfl⟩
  case round =>
    obtain ⟨k, m, hk, hk10, hm, hten, rfl, rfl⟩ := hrel
    have Hm := hide hm; have Hten := hide hten; clear hm hten
    by_cases hlt : k < l.length
    · by_cases h10 : k < 10
      · obtain ⟨ad, rfl, hca⟩ := ha.byte hlt
        have Ha := hide ha
        clear ha
        have hd := hide (List.drop_eq_getElem_cons hlt)
        generalize hx : l[k] = x at *
        have Hx := hide hx; clear hx
        have i1 : (k : Int) < (l.length : Int) := by omega
        have i2 : (k : Int) < 10 := by omega
        have hand := and127 x
        have Hm9 := hide (Hm.out (by omega))
        obtain ⟨n1, hn1, hn1b⟩ := u64_nat _ _ _ (rfl : bits BinOp.or .u64 (m : Int) (IntKind.u64.wrap ((x.toNat : Int) % 128 * 2 ^ (7 * k))) = _)
        have Hn1 := hide hn1; clear hn1
        have Hn1b := hide hn1b; clear hn1b
        have Hval := hide (show k < 9 ∨ x.toNat % 128 ≤ 1 → n1 = m + x.toNat % 128 * 2 ^ (7 * k) from fun h => by
          have h1 := Hn1.out
          have h2 : x.toNat % 128 * 2 ^ (7 * k) < 2 ^ 64 ∧ m < 2 ^ 64 := by
            by_cases hk9 : k < 9
            · exact (get_step Hm9.out.1 hk9 (show x.toNat % 128 < 128 by omega)).2
            · have : k = 9 := by omega
              subst this
              have := Hm9.out.1
              omega
          have h3 := or_low m (x.toNat % 128) (7 * k) Hm9.out.1 h2.1 h2.2
          rw [show ((x.toNat % 128 : Nat) : Int) = (x.toNat : Int) % 128 from by omega] at h3
          rw [h3] at h1
          omega)
        by_cases h128 : 127 < x.toNat
        · have i5 : (128 : Int) ≤ (x.toNat : Int) := by omega
          go_wp2_with fail
          go_round
          case rel =>
            refine ⟨k + 1, n1, by omega, by omega, fun hk9 => ?_, fun hk10 => ?_, by go_num, by rw [← Hn1.out]⟩
            · have e := Hval.out (.inl (by omega))
              rw [e]
              refine ⟨(get_step Hm9.out.1 (by omega) (by omega)).1, ?_⟩
              rw [← Hm9.out.2, hd.out]
              simp only [getL]
              rw [if_neg (by omega), if_neg (by omega)]
            · rw [← Hm9.out.2, hd.out]
              simp only [getL]
              by_cases hc9 : 9 < k ∨ (k = 9 ∧ 1 < x.toNat % 128)
              · rw [if_pos hc9]
              · rw [if_neg hc9, if_neg (by omega)]
                exact getL_ten _ _ _ (by omega)
          case measure => simp [intOf]; omega
        · have i5 : ¬ (128 : Int) ≤ (x.toNat : Int) := by omega
          have Hstep := hide (ref_step (by omega) hd.out hlt Hm9.out.1 Hm9.out.2 (by omega) Hn1b.out Hval.out)
          go_wp2_with fail
          rw [Hn1.out]
          have hRB : RB w (.slice (some ad) l.length c) l := ⟨some ad, c, rfl, hc, Ha.out⟩
          have hadd := wrap_succ (k := k) hk10
          have hn1 := Hn1b.out
          refine wp_region_lit_facts (F := ofs [Fact.eq (.int .u64 ((n1 : Nat) : Int)), Fact.rb (putN n1), Fact.eq (.string (strOf (putN n1))), Fact.rb l, Fact.eq (.int .i64 ((k : Nat) : Int)), Fact.eq (.int .i64 ((k + 1 : Nat) : Int)), Fact.rb ((l.drop 0).take (k + 1 - 0)), Fact.eq (.string (strOf ((l.drop 0).take (k + 1 - 0)))), Fact.eq (.bool (decide (putN n1 ≠ (l.drop 0).take (k + 1 - 0))))]) (preExt) (by kernel_rfl) (by kernel_rfl) (ofs_mono _) ?hop ?hend
          case hop =>
            refine factsOk_cons (opOk_none rfl fun ρ w hx hk => out_move rfl ⟨Ext.refl _, (known_out (Fact.eq (.int .u64 ((n1 : Nat) : Int))) hk 5 (by kernel_rfl) hx (rfl))⟩) ?_
            refine factsOk_cons (opOk_none rfl fun ρ w hx hk => out_call2 rfl (hk.func _) (by kernel_rfl) (by rw [show ρ (.tmp 33) = _ from (hk.dep 0 33 (by kernel_rfl) (by kernel_rfl)), hk.const]; exact rput_v _ _ hn1) fun _ _ h => h) ?_
            refine factsOk_cons (opOk_none rfl fun ρ w hx hk => out_string rfl Try.underlying23 Try.underlying5 Try.underlying9 (hk.dep 1 34 (by kernel_rfl) (by kernel_rfl)) ⟨Ext.refl _, rfl⟩) ?_
            refine factsOk_cons (opOk_none rfl fun ρ w hx hk => out_move rfl ⟨Ext.refl _, (known_out (Fact.rb l) hk 0 (by kernel_rfl) hx (hRB))⟩) ?_
            refine factsOk_cons (opOk_none rfl fun ρ w hx hk => out_move rfl ⟨Ext.refl _, (known_out (Fact.eq (.int .i64 ((k : Nat) : Int))) hk 6 (by kernel_rfl) hx (rfl))⟩) ?_
            refine factsOk_cons (opOk_none rfl fun ρ w hx hk => out_add rfl (hk.dep 4 37 (by kernel_rfl) (by kernel_rfl)) (hk.const _) ⟨Ext.refl _, hadd⟩) ?_
            refine factsOk_cons (opOk_none rfl fun ρ w hx hk => out_slice (l := l) rfl Try.underlying23 Hi.out hz1 (hk.dep 3 36 (by kernel_rfl) (by kernel_rfl)) rfl (hk.dep 5 38 (by kernel_rfl) (by kernel_rfl)) (by omega) (by omega) fun u hu => ⟨Ext.refl _, hu⟩) ?_
            refine factsOk_cons (opOk_none rfl fun ρ w hx hk => out_string rfl Try.underlying23 Try.underlying5 Try.underlying9 (hk.dep 6 39 (by kernel_rfl) (by kernel_rfl)) ⟨Ext.refl _, rfl⟩) ?_
            refine factsOk_cons (opOk_none rfl fun ρ w hx hk => out_neq_str rfl (hk.dep 2 35 (by kernel_rfl) (by kernel_rfl)) (hk.dep 7 40 (by kernel_rfl) (by kernel_rfl)) ⟨Ext.refl _, rfl⟩) ?_
            exact factsOk_nil
          case hend =>

          intro vs w1 hx1 hf
          have f8 : vs 8 = .bool (decide (putN n1 ≠ (l.drop 0).take (k + 1 - 0))) := hf 8 41 (by kernel_rfl)
          clear hf
          try dsimp only [List.take, List.drop]
          simp only [fill, List.setIfInBounds_toArray, List.set_cons_succ, List.set_cons_zero, Nat.reduceAdd, f8]
          have Hx1 := hide hx1; clear hx1 hRB hadd hn1 f8
          by_cases hq : putN n1 = (l.drop 0).take (k + 1 - 0)
          · have hst := Hstep.out
            rw [if_pos hq] at hst
            have Hst := hide hst
            rw [show decide (putN n1 ≠ (l.drop 0).take (k + 1 - 0)) = false from by simp [hq]]
            clear hq hst Hstep
            have Ha1 := hide (Ha.out.ext Hx1.out)
            have Hlen := hide hlt
            by_cases hck : c = k + 1
            · have hlk : l.length ≤ k + 1 := by omega
              have Hlk := hide hlk
              go_wp2_with fail
              go_ret3
              refine ⟨Hx1.out, ?_⟩
              rw [Hst.out]
              have h0 : (l.drop (k + 1)).length = 0 := by have := Hlk.out; simp; omega
              exact ⟨_, rfl, by rw [h0]; exact own_end Hlk.out⟩
            · go_wp2_with (at_builtin; refine wpList_app _ rfl _ _ 23 rfl w1.heap.size 5 i0 (.int .u8 0) 1 1 Try.underlying23 Hi.out hz0 hz1 hz2 rfl (by decide) _ 0 [] rfl (Own.nil _ _ _ _ _) _ _ _ (bvs (l.drop (k + 1))) rfl (by simp [bvs]) (row_add Ha1.out) (bvs_one _) (by omega) (by unfold maxLen; omega) (by omega) ?_)
              intro v w2 o2 g2 _
              have Hx2 := hide (Hx1.out.trans (ext_of_grown g2)); have Ho := hide o2
              clear g2 o2
              go_wp2_with fail
              go_ret3
              refine ⟨Hx2.out, ?_⟩
              rw [Hst.out]
              exact ⟨v, rfl, by simpa using Ho.out.mono Hx1.out.size⟩
          · have hst := Hstep.out
            rw [if_neg hq] at hst
            rw [show decide (putN n1 ≠ (l.drop 0).take (k + 1 - 0)) = true from by simpa using hq]
            go_wp2_with fail
            go_ret3
            refine ⟨Hx1.out, ?_⟩
            rw [hst]
            rfl
      · have i1 : (k : Int) < (l.length : Int) := by omega
        have i2 : ¬ (k : Int) < 10 := by omega
        go_wp2_with fail
        go_ret3
        refine ⟨Ext.refl _, ?_⟩
        rw [Hten.out (by omega)]
        rfl
    · have i1 : ¬ (k : Int) < (l.length : Int) := by omega
      go_wp2_with fail
      go_ret3
      refine ⟨Ext.refl _, ?_⟩
      by_cases h10 : k = 10
      · rw [Hten.out h10]; rfl
      · rw [← (Hm.out (by omega)).2, show l.drop k = [] from by simp; omega]
        rfl
end Go.Proofs.Ytobbgjgcgohdgaa
