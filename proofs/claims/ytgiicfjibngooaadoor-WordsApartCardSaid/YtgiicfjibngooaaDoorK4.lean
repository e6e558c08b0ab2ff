/- Cutting at blanks; digits; numbers. -/
import Derived.Test.YtgiicfjibngooaaDoorK3
namespace Go.Proofs.YtgiicfjibngooaaDoor
open Go Go.RowKit
set_option linter.unusedVariables false
set_option linter.unusedSimpArgs false
attribute [local irreducible] ACode AOps AThen ABlock ACut

theorem con_tupF {P : Program} {f : FuncId} {us : List Value} {a : Value} {F : SFact} (h : ∀ (S : Nat → Prop) (w : World), SzA S w → Calls P f us.toArray w fun e w' => ∃ v, e = .returned (.tuple #[a, v]) ∧ Ext w w' ∧ F.holds (FreshS S w w') w' v) : Con P f (us.map AV.lit) [] fun z hz => z = .tup [.lit a, .snap F] ∧ hz = [] := fun S γ w vs hst hargs => by
  have := holdsL_lits hargs
  subst this
  refine (h S w hst.sz).mono ?_
  rintro e w' ⟨v, rfl, hx, hf⟩
  refine ⟨_, .tup [.lit a, .snap F], [], FreshS S w w', γ, rfl, ⟨rfl, rfl⟩, ⟨hx.os, hx.tape, hx.output, hx.size, fun b hb _ => hx.block b hb⟩, ?_, ⟨[a, v], rfl, a, _, rfl, rfl, v, _, rfl, hf, rfl⟩, ⟨fun j r h => by simp [look] at h, fun i j ri rj b h => by simp [look] at h, fun j r b h => by simp [look] at h, ?_, hst.one⟩, fun j r b h => by simp [look] at h, fun _ _ _ => rfl⟩
  · rintro b (h | ⟨h, _⟩)
    · exact .inl h
    · exact .inr (.inl h)
  · refine hst.sz.to freshS_sub (same_of_ext hst.sz hx) ?_
    rintro b (h | ⟨_, h⟩)
    · have := hst.sz b h; have := hx.size; omega
    · exact h
/-- a text cut at each blank -/
def spl (l : List UInt8) : List (List UInt8) := Lib.splitK [32] 0 (Lib.count l [32]) l
theorem idx_hit (r : List UInt8) : ∀ (w : List UInt8), (∀ b ∈ w, b ≠ 32) → Lib.index (w ++ 32 :: r) [32] = (w.length : Int)
  | [], _ => by simp [Lib.index]
  | b :: w, h => by
    have ih := idx_hit r w fun x hx => h x (List.mem_cons_of_mem _ hx)
    have hb : b ≠ 32 := h b List.mem_cons_self
    rw [List.cons_append]
    unfold Lib.index
    have h1 : ([32] : List UInt8).isPrefixOf (b :: (w ++ 32 :: r)) = false := by
      simp [List.isPrefixOf, Ne.symm hb]
    rw [h1, ih]
    have h2 : (((w.length : Nat) : Int) == -1) = false := by rw [beq_eq_false_iff_ne]; omega
    simp [h2]
theorem idx_miss : ∀ (w : List UInt8), (∀ b ∈ w, b ≠ 32) → Lib.index w [32] = -1
  | [], _ => rfl
  | b :: w, h => by
    have ih := idx_miss w fun x hx => h x (List.mem_cons_of_mem _ hx)
    have hb : b ≠ 32 := h b List.mem_cons_self
    unfold Lib.index
    have h1 : ([32] : List UInt8).isPrefixOf (b :: w) = false := by simp [List.isPrefixOf, Ne.symm hb]
    rw [h1, ih]
    rfl
theorem spl_cons {w : List UInt8} (r : List UInt8) (h : ∀ b ∈ w, b ≠ 32) : spl (w ++ 32 :: r) = w :: spl r := by
  have hi := idx_hit r w h
  have hc := Lib.count_hit (by simp) hi
  have e1 : (w ++ 32 :: r).drop (w.length + 1) = r := by
    rw [List.drop_append, List.drop_of_length_le (by omega), show w.length + 1 - w.length = 1 by omega]; rfl
  unfold spl
  rw [hc, show ([32] : List UInt8).length = 1 from rfl, e1, Nat.add_comm]
  have e2 : Lib.splitK [32] 0 (Lib.count r [32] + 1) (w ++ 32 :: r) = if Lib.index (w ++ 32 :: r) [32] == -1 then [w ++ 32 :: r] else (w ++ 32 :: r).take ((Lib.index (w ++ 32 :: r) [32]).toNat + 0) :: Lib.splitK [32] 0 (Lib.count r [32]) ((w ++ 32 :: r).drop ((Lib.index (w ++ 32 :: r) [32]).toNat + ([32] : List UInt8).length)) := rfl
  rw [e2, hi]
  have h2 : (((w.length : Nat) : Int) == -1) = false := by rw [beq_eq_false_iff_ne]; omega
  rw [h2]
  simp only [Bool.false_eq_true, if_false, Int.toNat_natCast, Nat.add_zero, List.length_cons, List.length_nil, Nat.zero_add, e1, List.take_left]
theorem spl_one {w : List UInt8} (h : ∀ b ∈ w, b ≠ 32) : spl w = [w] := by
  have hi := idx_miss w h
  unfold spl
  rw [Lib.count_miss hi]; rfl
theorem spl_pos (l : List UInt8) : 1 ≤ (spl l).length := by
  unfold spl
  cases Lib.count l [32] with
  | zero => exact Nat.le_refl _
  | succ k => unfold Lib.splitK; split <;> simp
theorem encS_all (xs : List ByteArray) : encS.all (xs.map (·.data.toList)) = xs.map fun s => .lit (.string s) := by
  induction xs with
  | nil => rfl
  | cons x xs ih =>
    have h1 : encS.all ((x :: xs).map (·.data.toList)) = encS.cells x.data.toList ++ encS.all (xs.map (·.data.toList)) := rfl
    rw [h1, ih]
    rfl
theorem split_con (l : List UInt8) (hl : l.length ≤ 70368744177664) (hl2 : l.length < 4294967281) : Con Tryd.prog 22 [.lit (.string (strOf l)), .lit (.string ⟨#[32]⟩)] [] (fun az hz => az = .snap (slF encS (spl l)) ∧ hz = []) :=
  con_fact (us := [.string (strOf l), .string ⟨#[32]⟩]) fun S w hs => by
    obtain ⟨m, hm⟩ := amb_ml hs.amb
    refine (Tryd.strings_Split (strOf l) ⟨#[32]⟩ m w (by rw [strOf_size]; omega) hm (by decide)).mono ?_
    rintro e w' ⟨rfl, rfl⟩
    have hd := Lib.splitB_data ⟨#[32]⟩ 0 (Lib.countB (strOf l) ⟨#[32]⟩) (strOf l)
    have hsp : spl l = (Lib.splitB ⟨#[32]⟩ 0 (Lib.countB (strOf l) ⟨#[32]⟩) (strOf l)).map (·.data.toList) := hd.symm
    have hlen := Lib.splitB_all ⟨#[32]⟩ (by decide) 0 _ (strOf l) rfl
    refine ⟨_, rfl, Ext.alloc w _, ?_⟩
    have hn : (spl l).length = Lib.countB (strOf l) ⟨#[32]⟩ + 1 := by rw [hsp, List.length_map]; exact hlen
    refine ⟨some ⟨w.heap.size, 0, none⟩, Lib.countB (strOf l) ⟨#[32]⟩ + 1, (Lib.splitB ⟨#[32]⟩ 0 (Lib.countB (strOf l) ⟨#[32]⟩) (strOf l)).map Value.string, by rw [hn], by omega, ?_, ?_, ?_⟩
    · intro _
      refine ⟨_, rfl, .inr ⟨Nat.le_refl _, by simp⟩, fun j u hu => ?_⟩
      have hadd : (⟨w.heap.size, 0, none⟩ : Addr).add j = ⟨w.heap.size, j, none⟩ := by unfold Addr.add; split <;> simp_all
      rw [hadd, cell_of_row _ w.heap.size j _ _ (0, 0) (heap_alloc_new w _)]
      simpa using hu
    · rw [hsp, encS_all]
      have : ∀ xs : List ByteArray, AV.holdsL (FreshS S w (w.alloc (.cells ((Lib.splitB ⟨#[32]⟩ 0 (Lib.countB (strOf l) ⟨#[32]⟩) (strOf l)).map Value.string).toArray 9))) noγ (w.alloc (.cells ((Lib.splitB ⟨#[32]⟩ 0 (Lib.countB (strOf l) ⟨#[32]⟩) (strOf l)).map Value.string).toArray 9)) (xs.map fun s => .lit (.string s)) (xs.map Value.string) := by
        intro xs
        induction xs with
        | nil => exact rfl
        | cons x xs ih => exact ⟨_, _, rfl, rfl, ih⟩
      exact this _
    · intro u hu
      obtain ⟨x, _, rfl⟩ := List.mem_map.1 hu
      rfl
def DIG : List UInt8 := [48, 49, 50, 51, 52, 53, 54, 55, 56, 57, 97, 98, 99, 100, 101, 102]
def dig (c : UInt8) : Int := Lib.indexByte DIG c
theorem dig_all : ∀ c : Fin 256, dig (UInt8.ofNat c.val) = -1 ∨ (0 ≤ dig (UInt8.ofNat c.val) ∧ dig (UInt8.ofNat c.val) < 16 ∧ hd (dig (UInt8.ofNat c.val)).toNat = UInt8.ofNat c.val) := by decide +kernel
theorem dig_bd (c : UInt8) : dig c = -1 ∨ (0 ≤ dig c ∧ dig c < 16 ∧ hd (dig c).toNat = c) := by
  have h := dig_all ⟨c.toNat, c.toNat_lt⟩
  simpa using h
theorem dig_hd : ∀ d : Fin 16, dig (hd d.val) = (d.val : Int) := by decide +kernel
theorem ib_con (c : UInt8) : Con Tryd.prog 41 [.lit (.string ⟨#[48, 49, 50, 51, 52, 53, 54, 55, 56, 57, 97, 98, 99, 100, 101, 102]⟩), .lit (.int .u8 (c.toNat : Int))] [] (fun az hz => az = .lit (.int .i64 (dig c)) ∧ hz = []) :=
  con_lit (us := [.string ⟨#[48, 49, 50, 51, 52, 53, 54, 55, 56, 57, 97, 98, 99, 100, 101, 102]⟩, .int .u8 (c.toNat : Int)]) fun S w hs => (Tryd.strings_IndexByte _ (c.toNat : Int) w).mono (by
    rintro e w' ⟨rfl, rfl⟩
    refine ⟨?_, Ext.refl _⟩
    have : ((c.toNat : Int).toNat).toUInt8 = c := by rw [Int.toNat_natCast]; simp
    rw [this]
    rfl)
theorem at_ok (l : List UInt8) (hl : l.length ≤ 70368744177664) (v : Int) (h : Lib.atoiAll l = .ok v) : Con Tryd.prog 26 [.lit (.string (strOf l))] [] (fun az hz => az = .tup [.lit (.int .i64 v), .lit .nilIface] ∧ hz = []) :=
  con_lits (us := [.string (strOf l)]) (rs := [.int .i64 v, .nilIface]) fun S w hs => by
    refine (Tryd.strconv_Atoi_ok (strOf l) (by rw [strOf_size]; omega) v h w).mono ?_
    rintro e w' ⟨rfl, rfl | ⟨t, rfl⟩⟩
    · exact ⟨rfl, Ext.refl _⟩
    · exact ⟨rfl, Lib.bytesWorld_below w _ t⟩
theorem at_no (l : List UInt8) (hl : l.length ≤ 70368744177664) (h : ∀ v, Lib.atoiAll l ≠ .ok v) : ∃ v, Con Tryd.prog 26 [.lit (.string (strOf l))] [] (fun az hz => az = .tup [.lit (.int .i64 v), .snap nnF] ∧ hz = []) ∧ -9223372036854775808 ≤ v ∧ v ≤ 9223372036854775807 := by
  rcases hh : Lib.atoiAll l with v | _ | _
  · exact absurd hh (h v)
  · refine ⟨0, con_tupF (us := [.string (strOf l)]) fun S w hs => ?_, by omega, by omega⟩
    obtain ⟨te, pe, hc⟩ := amb_es hs.amb
    refine (Tryd.strconv_Atoi_syntax (strOf l) (by rw [strOf_size]; omega) hh _ w hc (.inr ⟨te, pe, rfl⟩)).mono ?_
    rintro e w' ⟨N, rfl, _, _, hb⟩
    exact ⟨_, rfl, hb, _, _, rfl⟩
  · refine ⟨Lib.atoiSat l, con_tupF (us := [.string (strOf l)]) fun S w hs => ?_, by unfold Lib.atoiSat; split <;> omega, by unfold Lib.atoiSat; split <;> omega⟩
    obtain ⟨te, pe, hc⟩ := amb_er hs.amb
    refine (Tryd.strconv_Atoi_range (strOf l) (by rw [strOf_size]; omega) hh _ w hc (.inr ⟨te, pe, rfl⟩)).mono ?_
    rintro e w' ⟨N, rfl, _, _, hb⟩
    exact ⟨_, rfl, hb, _, _, rfl⟩
end Go.Proofs.YtgiicfjibngooaaDoor
