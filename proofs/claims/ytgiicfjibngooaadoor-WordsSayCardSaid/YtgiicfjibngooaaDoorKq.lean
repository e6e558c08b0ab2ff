/- Commands and pieces: plain; contracts turned. -/
import Derived.Test.YtgiicfjibngooaaDoorKk
namespace Go.Proofs.YtgiicfjibngooaaDoor
open Go Go.RowKit
set_option linter.unusedVariables false
set_option linter.unusedSimpArgs false
attribute [local irreducible] ACode AOps AThen ABlock ACut
theorem wst_0 (d : List (List UInt8)) : wst (d, []) 32 = (d, []) := rfl
theorem wst_sp {d : List (List UInt8)} {p : List UInt8} (hp : ¬ p = []) : wst (d, p) 32 = (d ++ [p], []) := by
  unfold wst; rw [if_pos rfl, if_neg hp]
theorem wst_c {d : List (List UInt8)} {p : List UInt8} {b : UInt8} (h : ¬ b = 32) : wst (d, p) b = (d, p ++ [b]) := by
  unfold wst; rw [if_neg h]
theorem fin_flat : ∀ (l : List UInt8) (d : List (List UInt8)) (p : List UInt8), (fin (l.foldl wst (d, p))).flatten = d.flatten ++ p ++ l.filter (fun b => decide (b ≠ 32))
  | [], d, p => by
    show (fin (d, p)).flatten = _
    unfold fin
    by_cases h : p = []
    · rw [if_pos h]; simp [h]
    · rw [if_neg h]; simp
  | b :: l, d, p => by
    rw [List.foldl_cons]
    by_cases h : b = 32
    · subst h
      by_cases hp : p = []
      · subst hp
        rw [wst_0, fin_flat l]; simp
      · rw [wst_sp hp, fin_flat l]; simp
    · rw [wst_c h, fin_flat l, List.filter_cons, if_pos (by simpa using h)]; simp
theorem spw_flat (l : List UInt8) : (spw l).flatten = l.filter (fun b => decide (b ≠ 32)) := by
  have := fin_flat l [] []
  simpa [spw, stL] using this
theorem fin_ne : ∀ (l : List UInt8) (d : List (List UInt8)) (p : List UInt8), (∀ w ∈ d, w ≠ []) → ∀ w ∈ fin (l.foldl wst (d, p)), w ≠ []
  | [], d, p, h => by
    show ∀ w ∈ fin (d, p), w ≠ []
    unfold fin
    by_cases hp : p = []
    · rw [if_pos hp]; exact h
    · rw [if_neg hp]
      intro w hw
      rcases List.mem_append.1 hw with hw | hw
      · exact h w hw
      · rw [List.mem_singleton.1 hw]; exact hp
  | b :: l, d, p, h => by
    rw [List.foldl_cons]
    by_cases hb : b = 32
    · subst hb
      by_cases hp : p = []
      · subst hp
        rw [wst_0]; exact fin_ne l _ _ h
      · rw [wst_sp hp]
        refine fin_ne l _ _ ?_
        intro w hw
        rcases List.mem_append.1 hw with hw | hw
        · exact h w hw
        · rw [List.mem_singleton.1 hw]; exact hp
    · rw [wst_c hb]; exact fin_ne l _ _ h
theorem spw_ne (l : List UInt8) {k : Nat} (h : k < (spw l).length) : nth (spw l) k ≠ [] := by
  rw [nth_eq h]
  exact fin_ne l [] [] (fun w hw => absurd hw (by simp)) _ (List.getElem_mem h)
theorem flat_take (ls : List (List UInt8)) {k : Nat} (h : k < ls.length) : (ls.take (k + 1)).flatten = (ls.take k).flatten ++ nth ls k := by
  rw [take_nth ls k h, List.flatten_append]; simp
theorem flat_take_len : ∀ (ls : List (List UInt8)) (k : Nat), (ls.take k).flatten.length ≤ ls.flatten.length
  | [], k => by simp
  | x :: ls, 0 => by simp
  | x :: ls, k + 1 => by
    have := flat_take_len ls k
    rw [List.take_succ_cons, List.flatten_cons, List.flatten_cons, List.length_append, List.length_append]; omega
theorem spw_take_len (l : List UInt8) (k : Nat) : ((spw l).take k).flatten.length ≤ l.length := by
  have h1 := flat_take_len (spw l) k
  rw [spw_flat] at h1
  exact Nat.le_trans h1 (List.length_filter_le _ _)
def noBl (l : List UInt8) : List UInt8 := l.filter (fun b => decide (b ≠ 32))
theorem noBl_len (l : List UInt8) : (noBl l).length ≤ l.length := List.length_filter_le _ _
theorem noBl_snoc (l : List UInt8) (b : UInt8) : noBl (l ++ [b]) = noBl l ++ (if b = 32 then [] else [b]) := by
  unfold noBl
  rw [List.filter_append]
  by_cases h : b = 32
  · rw [if_pos h, h]; simp
  · rw [if_neg h, List.filter_cons, if_pos (by simpa using h)]; simp
theorem ordC_inj (c d : Cmd) (h : ordC c = ordC d) : c = d := by
  have hk : (ordC c).kind = (ordC d).kind := by rw [h]
  have ha : (ordC c).addr = (ordC d).addr := by rw [h]
  have hd : (ordC c).data = (ordC d).data := by rw [h]
  have hm : (ordC c).many = (ordC d).many := by rw [h]
  cases c with
  | no  =>
    cases d with
    | no  =>
      rfl
    | dirty a2 d2 => exact absurd (show (0 : Int) = 1 from hk) (by decide)
    | fill a2 d2 => exact absurd (show (0 : Int) = 2 from hk) (by decide)
    | rd a2 => exact absurd (show (0 : Int) = 3 from hk) (by decide)
    | evict a2 => exact absurd (show (0 : Int) = 4 from hk) (by decide)
    | clean a2 => exact absurd (show (0 : Int) = 5 from hk) (by decide)
    | exi a2 m2 => exact absurd (show (0 : Int) = 6 from hk) (by decide)
  | dirty a1 d1 =>
    cases d with
    | no  => exact absurd (show (1 : Int) = 0 from hk) (by decide)
    | dirty a2 d2 =>
      obtain rfl : a1 = a2 := ha
      obtain rfl : d1 = d2 := hd
      rfl
    | fill a2 d2 => exact absurd (show (1 : Int) = 2 from hk) (by decide)
    | rd a2 => exact absurd (show (1 : Int) = 3 from hk) (by decide)
    | evict a2 => exact absurd (show (1 : Int) = 4 from hk) (by decide)
    | clean a2 => exact absurd (show (1 : Int) = 5 from hk) (by decide)
    | exi a2 m2 => exact absurd (show (1 : Int) = 6 from hk) (by decide)
  | fill a1 d1 =>
    cases d with
    | no  => exact absurd (show (2 : Int) = 0 from hk) (by decide)
    | dirty a2 d2 => exact absurd (show (2 : Int) = 1 from hk) (by decide)
    | fill a2 d2 =>
      obtain rfl : a1 = a2 := ha
      obtain rfl : d1 = d2 := hd
      rfl
    | rd a2 => exact absurd (show (2 : Int) = 3 from hk) (by decide)
    | evict a2 => exact absurd (show (2 : Int) = 4 from hk) (by decide)
    | clean a2 => exact absurd (show (2 : Int) = 5 from hk) (by decide)
    | exi a2 m2 => exact absurd (show (2 : Int) = 6 from hk) (by decide)
  | rd a1 =>
    cases d with
    | no  => exact absurd (show (3 : Int) = 0 from hk) (by decide)
    | dirty a2 d2 => exact absurd (show (3 : Int) = 1 from hk) (by decide)
    | fill a2 d2 => exact absurd (show (3 : Int) = 2 from hk) (by decide)
    | rd a2 =>
      obtain rfl : a1 = a2 := ha
      rfl
    | evict a2 => exact absurd (show (3 : Int) = 4 from hk) (by decide)
    | clean a2 => exact absurd (show (3 : Int) = 5 from hk) (by decide)
    | exi a2 m2 => exact absurd (show (3 : Int) = 6 from hk) (by decide)
  | evict a1 =>
    cases d with
    | no  => exact absurd (show (4 : Int) = 0 from hk) (by decide)
    | dirty a2 d2 => exact absurd (show (4 : Int) = 1 from hk) (by decide)
    | fill a2 d2 => exact absurd (show (4 : Int) = 2 from hk) (by decide)
    | rd a2 => exact absurd (show (4 : Int) = 3 from hk) (by decide)
    | evict a2 =>
      obtain rfl : a1 = a2 := ha
      rfl
    | clean a2 => exact absurd (show (4 : Int) = 5 from hk) (by decide)
    | exi a2 m2 => exact absurd (show (4 : Int) = 6 from hk) (by decide)
  | clean a1 =>
    cases d with
    | no  => exact absurd (show (5 : Int) = 0 from hk) (by decide)
    | dirty a2 d2 => exact absurd (show (5 : Int) = 1 from hk) (by decide)
    | fill a2 d2 => exact absurd (show (5 : Int) = 2 from hk) (by decide)
    | rd a2 => exact absurd (show (5 : Int) = 3 from hk) (by decide)
    | evict a2 => exact absurd (show (5 : Int) = 4 from hk) (by decide)
    | clean a2 =>
      obtain rfl : a1 = a2 := ha
      rfl
    | exi a2 m2 => exact absurd (show (5 : Int) = 6 from hk) (by decide)
  | exi a1 m1 =>
    cases d with
    | no  => exact absurd (show (6 : Int) = 0 from hk) (by decide)
    | dirty a2 d2 => exact absurd (show (6 : Int) = 1 from hk) (by decide)
    | fill a2 d2 => exact absurd (show (6 : Int) = 2 from hk) (by decide)
    | rd a2 => exact absurd (show (6 : Int) = 3 from hk) (by decide)
    | evict a2 => exact absurd (show (6 : Int) = 4 from hk) (by decide)
    | clean a2 => exact absurd (show (6 : Int) = 5 from hk) (by decide)
    | exi a2 m2 =>
      obtain rfl : a1 = a2 := ha
      obtain rfl : m1 = m2 := hm
      rfl
theorem okA_cmdO {o : Ord} (ha : o.addr < 18446744073709551616) (hd : o.data.length ≤ 1000000) (hm : -9223372036854775808 ≤ o.many ∧ o.many ≤ 9223372036854775807) : okA (cmdO o) := by
  unfold cmdO
  split
  · exact ⟨ha, hd⟩
  split
  · exact ⟨ha, hd⟩
  split
  · exact ha
  split
  · exact ha
  split
  · exact ha
  split
  · exact ⟨ha, hm⟩
  · trivial
theorem asO_len (o : Ord) : (asO o).data.length ≤ o.data.length := by
  unfold asO
  split
  · exact Nat.le_refl _
  split
  · exact Nat.zero_le _
  split
  · exact Nat.zero_le _
  · exact Nat.zero_le _
/-- what is said apart is apart -/
theorem apart {o p : Ord} (ho : sayE (cmdO o) = 0) (hp : sayE (cmdO p) = 0) : decide (sayS (cmdO o) = sayS (cmdO p)) = decide (asO o = asO p) := by
  have h1 := say1 ho
  have h2 := say1 hp
  rw [(say0 h1).1, (say0 h2).1, asO_cmd, asO_cmd]
  by_cases h : cmdO o = cmdO p
  · rw [h, decide_eq_true rfl, decide_eq_true rfl]
  · rw [decide_eq_false (fun e => h (sayL_inj _ _ h1 h2 e)), decide_eq_false (fun e => h (ordC_inj _ _ e))]
section
variable {P : Program} {T : List (Nat × TI)} {fr : List (Nat × AV)} {H : List (Nat × Res)} {o : Oper} {x y : Operand} {t t' : TypeId}
theorem sop_shr16u {a : Nat} {k' : IntKind} (ho : o.op = .binOp .shr t x y t' := by rfl) (hx : Opv fr x (.lit (.int .u64 (a : Int))) := by exact opv_std) (hy : Opv fr y (.lit (.int k' 4)) := by exact opv_std) : SOp P o fr H (.lit (.int .u64 ((a / 16 : Nat) : Int))) :=
  sop_cast (sop_shr ho hx hy (by omega)) (congrArg (fun r => Value.int .u64 r) (by
    show ((a : Int)).fdiv 16 = _
    rw [Int.fdiv_eq_ediv_of_nonneg _ (by decide)]
    omega))
end
theorem con_pre {P : Program} {f : FuncId} {args args' : List AV} {Hin : List (Nat × Res)} {post : AV → List (Nat × Res) → Prop} (h : Con P f args Hin post) (hw : ∀ (S : Nat → Prop) (γ : Nat → Value) (w : World) (vs : List Value), AV.holdsL S γ w args' vs → AV.holdsL S γ w args vs) : Con P f args' Hin post := fun S γ w vs hst hh => h S γ w vs hst (hw S γ w vs hh)
theorem make_nil (k : Int) (a : Nat) (m : Int) : Con Tryd.prog 16 [.agg [.lit (.int .i64 k), .lit (.int .u64 (a : Int)), .lit (.slice none 0 0), .lit (.int .i64 m)]] [] (fun az hz => az = cmdA (cmdO ⟨k, a, [], m⟩) ∧ hz = []) := con_pre (make_con ⟨k, a, [], m⟩) (fun S γ w vs h => by
  simp only [AV.holdsL] at h ⊢
  obtain ⟨v, r, rfl, h1, h2⟩ := h
  exact ⟨v, r, rfl, nil_ord h1, h2⟩)
theorem make_snap (k : Int) (a : Nat) (d : List UInt8) (m : Int) : Con Tryd.prog 16 [.agg [.lit (.int .i64 k), .lit (.int .u64 (a : Int)), .snap (slF encU d), .lit (.int .i64 m)]] [] (fun az hz => az = cmdA (cmdO ⟨k, a, d, m⟩) ∧ hz = []) := make_con ⟨k, a, d, m⟩
theorem say_ok (c : Cmd) (h : okC c = true) (hA : okA c) : Con Tryd.prog 17 [cmdA c] [] (fun az hz => az = .tup [.lit (.string (strOf (sayL c))), .lit .nilIface] ∧ hz = []) := by
  cases c with
  | no => exact absurd h (by decide)
  | dirty a d => exact say_dirty_ok _ _ hA.1 hA.2 (of_decide_eq_true h)
  | fill a d => exact say_fill_ok _ _ hA.1 hA.2 (of_decide_eq_true h)
  | rd a => exact say_rd_ok _ hA
  | evict a => exact say_evict_ok _ hA
  | clean a => exact say_clean_ok _ hA
  | exi a m => exact say_exi_ok _ _ hA.1 hA.2 (by simpa [okC] using h)
def dgN (n : Nat) : Nat := if n = 0 then 0 else (hexL n).length
theorem dgN_0 (a : Nat) : (hexL a).length = 1 + dgN (a / 16) := by
  unfold dgN
  by_cases h : a < 16
  · rw [hexL_lo h, if_pos (by omega)]; rfl
  · rw [hexL_hi h, if_neg (by omega), List.length_append]; simp; omega
theorem dgN_s {x : Nat} (h : 0 < x) : dgN x = 1 + dgN (x / 16) := by
  rw [← dgN_0]
  unfold dgN
  rw [if_neg (by omega)]
theorem itoU_digs : ∀ m : Fin 65, (itoU (m.val : Int)).length = if 9 < m.val then 2 else 1 := by decide +kernel
theorem dataL_eq (d : List UInt8) : (if 2 * (d.length : Int) < 1 then 1 else 2 * (d.length : Int)) = ((dataL d).length : Int) := by
  unfold dataL
  by_cases h : d.length = 0
  · rw [if_pos h, if_pos (by omega)]; rfl
  · rw [if_neg h, dgs_len, if_neg (by omega)]; omega
theorem wrapI {x : Int} (h0 : -9223372036854775808 ≤ x) (h1 : x ≤ 9223372036854775807) : IntKind.i64.wrap x = x := wrap_i64_in ⟨h0, h1⟩
end Go.Proofs.YtgiicfjibngooaaDoor
