/- A text's bytes qs0 a slice of one's own; a pointer to a block of one's own in an interface. Nothing of the program stands here. -/
import Derived.Test.YtgiicfjibngooaaDoorJ2
namespace Go.Proofs.YtgiicfjibngooaaDoor
open Go Go.RowKit
set_option linter.unusedVariables false
section
variable {P : Program} {T : List (Nat × TI)} {c : Ctx} {n : Nat} {Q : AQ} {fr : List (Nat × AV)} {H : List (Nat × Res)} {ops : Array Oper} {rest : List Oper} {o : Oper}
variable {x : Operand} {t t' d e s b s1 b1 s2 b2 : Nat} {l : List UInt8}
/-- []byte(s), a slice of one's own -/
theorem ao_bytes (hg : o.guard = none := by rfl) (hd : o.dst = some d := by rfl) (hn : Nat.blt d n = true := by rfl) (ho : o.op = .convert t t' x := by rfl) (hT : TTOk P T := by assumption) (ht : look T t = some ⟨.str, s, b⟩ := by rfl) (ht' : look T t' = some ⟨.slice e, s1, b1⟩ := by rfl) (he : look T e = some ⟨.int .u8, s2, b2⟩ := by rfl) (hx : Opv fr x (.lit (.string (strOf l))) := by exact opv_std)
    (hl : l.length ≤ 70368744177664 := by first | omega | (simp only [List.length_append, List.length_cons, List.length_nil, List.length_take, List.length_drop, List.length_set]; omega)) (hu : usesH (one1 (d + 1000)) (dropH (one1 (d + 1000)) H) = true := by rfl)
    (next : AOps P c n ops rest Q ((d, .own (d + 1000)) :: markF (one1 (d + 1000)) fr) ((d + 1000, .own e encU l) :: dropH (one1 (d + 1000)) H)) : AOps P c n ops (o :: rest) Q fr H := fun S γ tmps w hr => by
  refine ao_plain hg ?_
  have hv := (hr.env (ds := []) (fun _ => True)).lit hx trivial
  have hrun := run_bytes_of_string w t t' e (strOf l) (hT.str ht) (hT.slice ht') (hT.int he)
  have hsz : (strOf l).size = l.length := strOf_size l
  rw [hsz] at hrun
  refine outc (v := .slice (some ⟨w.heap.size, 0, none⟩) l.length (grownCap w l.length 0 e)) (w' := w.drew.alloc (.cells (bytesRow (strOf l) (grownCap w l.length 0 e)) e ((bytesRow (strOf l) (grownCap w l.length 0 e)).size, (bytesRow (strOf l) (grownCap w l.length 0 e)).size + 1))) ?_ ?_
  · simp only [execOp, ho, hv]
    exact (congrArg (fun r => r) (by simp [hrun]))
  · have hput : ∀ v, (Act.put ⟨tmps, []⟩ o.dst v) = ⟨tmps.setIfInBounds d v, []⟩ := fun v => by rw [hd]; rfl
    rw [hput]
    have hc1 := grownCap_ge w l.length 0 e
    have hc2 := grownCap_le_maxLen w l.length 0 e (by unfold maxLen; omega)
    have hbs : (bytesRow (strOf l) (grownCap w l.length 0 e)).size = grownCap w l.length 0 e := by
      have hd1 : (strOf l).data.size = l.length := hsz
      unfold bytesRow
      rw [Array.size_append, Array.size_map, Array.size_replicate, hsz, hd1]
      omega
    have hbt : (bytesRow (strOf l) (grownCap w l.length 0 e)).toList.take l.length = bvs l := by
      unfold bytesRow
      rw [Array.toList_append, List.take_append_of_le_length (by simp [strOf]), List.take_of_length_le (by simp [strOf])]
      simp [strOf, bvs]
      exact fun _ _ => rfl
    have hown : (Res.own e encU l).holds S (upd γ (d + 1000) (.slice (some ⟨w.heap.size, 0, none⟩) l.length (grownCap w l.length 0 e))) (w.drew.alloc (.cells (bytesRow (strOf l) (grownCap w l.length 0 e)) e ((bytesRow (strOf l) (grownCap w l.length 0 e)).size, (bytesRow (strOf l) (grownCap w l.length 0 e)).size + 1))) (.slice (some ⟨w.heap.size, 0, none⟩) l.length (grownCap w l.length 0 e)) := by
      refine ⟨bvs l, ⟨?_, _, _, rfl, .inr ⟨w.heap.size, _, rfl, Nat.zero_le _, ⟨_, .inr (Nat.le_refl _), heap_alloc_new w.drew _⟩, hc1, hc2, ?_, ?_⟩⟩, encU_holds l, ?_⟩
      · show _ = l.length * 1
        simp [bvs]
      · show grownCap w l.length 0 e * 1 ≤ _
        rw [hbs]; omega
      · show List.take (l.length * 1) _ = _
        rw [Nat.mul_one]; exact hbt
      · intro u hu
        unfold bvs at hu
        obtain ⟨r, _, rfl⟩ := List.mem_map.1 hu
        rfl
    refine next S _ _ _ (Rel.put (hr.eff1 (d + 1000) (r := .own e encU l) (Keep.of_ext ((Ext.drew w).trans (Ext.alloc w.drew _))) hown rfl (fun b hb => ?_) (Nat.ble_eq_true_of_le (by omega)) hu) (Nat.le_of_ble_eq_true hn) ?_)
    · refine .inl ?_
      cases hcc : grownCap w l.length 0 e with
      | zero => rw [hcc] at hb; simp [rblk, wblk] at hb
      | succ k => rw [hcc] at hb; simp [rblk, wblk] at hb; omega
    · simp only [AV.holds]; rw [upd_same]
/-- a pointer to a block of one's own, in an interface: the block is only read from here on -/
theorem ao_mkIfP {cs : List AV} {tm j tp : Nat} (hg : o.guard = none := by rfl) (hd : o.dst = some d := by rfl) (hn : Nat.blt d n = true := by rfl) (ho : o.op = .makeInterface tp (.tmp tm) := by rfl) (hT : TTOk P T := by assumption) (ht : look T tp = some ⟨.ptr e, s, b⟩ := by rfl) (hx : look fr tm = some (.ptr j 0) := by rfl) (hj : look H j = some (.box cs) := by rfl) (hp : AV.usesL (fun _ => false) cs = true := by rfl)
    (hx2 : look (frzB j cs fr) tm = some (.snap (placeF cs)) := by rfl)
    (next : AOps P c n ops rest Q ((d, .snap (ifF tp (.snap (placeF cs)))) :: frzB j cs fr) (dropH (one1 j) H)) : AOps P c n ops (o :: rest) Q fr H :=
  ao_freezeBox j hj hp (ao_op hd hn (.plain hg (sop_mkIfaceP ho hT ht (.of hx2))) next)
end
/-- the cells of a struct that is lent: one's own slices qs0 what they read qs0 -/
inductive LendL (H : List (Nat × Res)) : List AV → List AV → Prop
  | nil : LendL H [] []
  | own {j e : Nat} {α : Type} {E : Enc α} {ys : List α} {cs ds : List AV} (hj : look H j = some (.own e E ys)) (hr : LendL H cs ds) : LendL H (.own j :: cs) (.snap (slF E ys) :: ds)
  | nilS {α : Type} {E : Enc α} {cs ds : List AV} (hr : LendL H cs ds) : LendL H (.lit (.slice none 0 0) :: cs) (.snap (slF E []) :: ds)
  | keep {a : AV} {cs ds : List AV} (hr : LendL H cs ds) : LendL H (a :: cs) (a :: ds)
section
variable {P : Program} {fr : List (Nat × AV)} {H : List (Nat × Res)} {o : Oper} {S : Nat → Prop} {γ : Nat → Value} {w : World}
theorem LendL.holds {cs ds : List AV} (h : LendL H cs ds) (hst : St S γ w H) : ∀ {vs : List Value}, AV.holdsL S γ w cs vs → AV.holdsL (LentS true S γ H) γ w ds vs := by
  have hS : ∀ b, S b → LentS true S γ H b := fun b h => .inl h
  induction h with
  | nil => intro vs hh; simpa [AV.holdsL] using hh
  | @own j e α E ys cs ds hj _ ih =>
    intro vs hh
    simp only [AV.holdsL, AV.holds] at hh ⊢
    obtain ⟨v, r, rfl, h1, h2⟩ := hh
    refine ⟨v, r, rfl, ?_, ih h2⟩
    rw [h1]
    exact own_snap hst hj hS fun b hb => .inr ⟨rfl, j, _, hj, hb⟩
  | nilS _ ih =>
    intro vs hh
    simp only [AV.holdsL, AV.holds] at hh ⊢
    obtain ⟨v, r, rfl, h1, h2⟩ := hh
    refine ⟨v, r, rfl, ?_, ih h2⟩
    rw [h1]
    exact nil_sl _ _ _
  | keep _ ih =>
    intro vs hh
    simp only [AV.holdsL] at hh ⊢
    obtain ⟨v, r, rfl, h1, h2⟩ := hh
    exact ⟨v, r, rfl, AV.ext hS (fun _ _ => rfl) h1, ih h2⟩
inductive ArgsA (fr : List (Nat × AV)) (H : List (Nat × Res)) : List Operand → List AV → Prop
  | nil : ArgsA fr H [] []
  | cons {x : Operand} {a : AV} {xs : List Operand} {qs0 : List AV} (h : Opv fr x a) (hr : ArgsA fr H xs qs0) : ArgsA fr H (x :: xs) (a :: qs0)
  | agg {x : Operand} {cs ds : List AV} {xs : List Operand} {qs0 : List AV} (h : Opv fr x (.agg cs)) (hl : LendL H cs ds) (hr : ArgsA fr H xs qs0) : ArgsA fr H (x :: xs) (.agg ds :: qs0)
theorem ArgsA.holds {use : Operand → Prop} {ρ : Operand → Value} {xs : List Operand} {qs0 : List AV} (h : ArgsA fr H xs qs0) (env : Env fr H use ρ S γ w) (hu : ∀ x ∈ xs, use x) : AV.holdsL (LentS true S γ H) γ w qs0 (xs.map ρ) := by
  have hS : ∀ b, S b → LentS true S γ H b := fun b h => .inl h
  induction h with
  | nil => simp [AV.holdsL]
  | cons h _ ih =>
    simp only [List.map_cons, AV.holdsL]
    exact ⟨_, _, rfl, AV.ext hS (fun _ _ => rfl) (env.get h (hu _ List.mem_cons_self)), ih fun x hx => hu x (List.mem_cons_of_mem _ hx)⟩
  | agg h hl _ ih =>
    simp only [List.map_cons, AV.holdsL]
    refine ⟨_, _, rfl, ?_, ih fun x hx => hu x (List.mem_cons_of_mem _ hx)⟩
    have h1 := env.get h (hu _ List.mem_cons_self)
    simp only [AV.holds] at h1 ⊢
    obtain ⟨vs, hv, h2⟩ := h1
    exact ⟨vs, hv, hl.holds env.st h2⟩
/-- a call that only answers, lent a struct with slices of one's own -/
theorem sop_callA {f : FuncId} {xs : Array Operand} {tys : Array TypeId} {qs0 : List AV} {out : AV} (hC : Con P f qs0 [] fun a h => a = out ∧ h = []) (ho : o.op = .call { callee := .value (.func f), args := xs, argTypes := tys } := by rfl) (hf : entersB P f = true := by kernel_rfl)
    (hargs : ArgsA fr H xs.toList qs0 := by (repeat (first | exact .nil | refine .cons (by exact opv_std) ?_ | refine .agg (by exact opv_std) (by repeat (first | exact .nil | refine .own rfl ?_ | refine .nilS ?_ | refine .keep ?_)) ?_)))
    (hout : AV.uses (fun _ => false) out = true := by rfl) (hB : out.flat = true := by first | rfl | exact (fun _ => rfl)) : SOp P o fr H out := fun S γ w ρ env => by
  have hl : ∀ b, LentS true S γ H b → b < w.heap.size := by
    rintro b (h | ⟨_, j, r, hj, hb⟩)
    · exact env.st.sz b h
    · exact Res.blk_lt (env.st.res j r hj) hb
  refine out_call ho (env.func f) hf ?_
  have hcall := hC (LentS true S γ H) γ w _ (St.nil (env.st.sz.to (fun b h => .inl h) (fun _ _ => rfl) hl) env.st.one) (hargs.holds env (fun x hx => by simp [ho, Op.operands, Call.operands]; right; simpa using hx))
  rw [show (List.map ρ xs.toList).toArray = Array.map ρ xs from by rw [← Array.toList_map]] at hcall
  refine hcall.mono ?_
  rintro e w' ⟨v, out', Hout, S', γ', rfl, ⟨rfl, rfl⟩, hp⟩
  have hx : Ext w w' := ⟨hp.keep.os, hp.keep.tape, hp.keep.output, hp.keep.size, fun b hb => hp.keep.block b hb (by rintro ⟨j, r, hj, _⟩; simp [look] at hj)⟩
  exact ⟨v, rfl, hx, AV.flat_any out' v hB hp.val⟩
/-- a block of one's own is not wanted any more -/
theorem ao_drop {c : Ctx} {n : Nat} {Q : AQ} {ops : Array Oper} {rest : List Oper} (d j : Nat) (hd : o.dst = some d := by rfl) (hj : (match look H j with | some _ => true | none => false) = true := by rfl) (h : AOps P c n ops (o :: rest) Q fr (dropH (one1 j) H)) : AOps P c n ops (o :: rest) Q fr H := fun S γ tmps w hr => by
  have hH : ∀ i r, look (dropH (one1 j) H) i = some r → look H i = some r := fun i r hi => by
    rw [look_drop] at hi
    split at hi
    · cases hi
    · exact hi
  exact h S γ tmps w ⟨⟨fun i r hi => hr.st.res i r (hH i r hi), fun i k ri rk b hi hk => hr.st.dis i k ri rk b (hH i ri hi) (hH k rk hk), fun i r b hi => hr.st.live i r b (hH i r hi), hr.st.sz, hr.st.one⟩, hr.fr, hr.up, fun i r b hi => hr.own i r b (hH i r hi), hr.ids, hr.size, hr.keep⟩
end
end Go.Proofs.YtgiicfjibngooaaDoor
