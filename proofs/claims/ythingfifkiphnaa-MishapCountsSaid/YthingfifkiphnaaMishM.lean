/- The plain law of mishaps: which may be, what befalls an operation, which are yet to come, how many are dark. Nothing of the program stands here. -/
namespace Go.Proofs.Ythingfifkiphnaa
structure Mis where
  at_ : Int
  kind : Int
  bytes : Int
  fill : UInt8
deriving DecidableEq
/-- may a mishap be, by itself? -/
def Mis.one (m : Mis) : Bool := decide (1 ≤ m.at_) && decide (m.at_ ≤ 1073741824) && (decide (m.kind = 1) || decide (m.kind = 2)) && decide (0 ≤ m.bytes) && decide (m.bytes ≤ 65536)
/-- are all good, each behind the one before? -/
def mayF : Option Mis → List Mis → Bool
  | _, [] => true
  | p, m :: ms => m.one && (match p with | none => true | some q => decide (q.at_ < m.at_)) && mayF (some m) ms
def may (ms : List Mis) : Bool := mayF none ms && decide (ms.length ≤ 24)
def atM (n : Int) (ms : List Mis) : Option Mis := ms.find? fun m => decide (m.at_ = n)
def afterM (n : Int) (ms : List Mis) : List Mis := ms.filter fun m => decide (n < m.at_)
def darks (ms : List Mis) : Nat := ms.countP fun m => decide (m.kind = 2)

theorem mayF_iff : ∀ (ms : List Mis) (p : Option Mis), mayF p ms = true ↔ (∀ m ∈ ms, m.one = true) ∧ ms.Pairwise (fun a b => a.at_ < b.at_) ∧ ∀ q, p = some q → ∀ m ∈ ms, q.at_ < m.at_
  | [], p => by simp [mayF]
  | m :: ms, p => by
    have ih := mayF_iff ms (some m)
    simp only [mayF, Bool.and_eq_true, ih, List.forall_mem_cons, List.pairwise_cons]
    constructor
    · rintro ⟨⟨h1, h2⟩, h3, h4, h5⟩
      refine ⟨⟨h1, h3⟩, ⟨h5 m rfl, h4⟩, ?_⟩
      rintro q rfl
      have hq : q.at_ < m.at_ := by simpa using h2
      exact ⟨hq, fun x hx => Int.lt_trans hq (h5 m rfl x hx)⟩
    · rintro ⟨⟨h1, h3⟩, ⟨h5, h4⟩, h6⟩
      refine ⟨⟨h1, ?_⟩, h3, h4, ?_⟩
      · cases p with
        | none => rfl
        | some q => simpa using (h6 q rfl).1
      · rintro q e
        cases e
        exact h5
theorem may_iff (ms : List Mis) : may ms = true ↔ (∀ m ∈ ms, m.one = true) ∧ ms.Pairwise (fun a b => a.at_ < b.at_) ∧ ms.length ≤ 24 := by
  simp only [may, Bool.and_eq_true, mayF_iff, decide_eq_true_eq]
  constructor
  · rintro ⟨⟨h1, h2, _⟩, h3⟩; exact ⟨h1, h2, h3⟩
  · rintro ⟨h1, h2, h3⟩; exact ⟨⟨h1, h2, by simp⟩, h3⟩
theorem after_after (lo hi : Int) (h : lo ≤ hi) (ms : List Mis) : afterM hi (afterM lo ms) = afterM hi ms := by
  unfold afterM
  rw [List.filter_filter]
  congr 1
  funext m
  by_cases h1 : hi < m.at_
  · have : lo < m.at_ := by omega
    simp [h1, this]
  · simp [h1]
theorem may_after (n : Int) (ms : List Mis) (h : may ms = true) : may (afterM n ms) = true := by
  rw [may_iff] at h ⊢
  have hs : (afterM n ms).Sublist ms := List.filter_sublist
  exact ⟨fun m hm => h.1 m (hs.subset hm), h.2.1.sublist hs, Nat.le_trans hs.length_le h.2.2⟩
theorem darks_le (ms : List Mis) : darks ms ≤ ms.length := List.countP_le_length
theorem at_of (ms : List Mis) (h : ms.Pairwise (fun a b => a.at_ < b.at_)) (i : Nat) (hi : i < ms.length) : atM ms[i].at_ ms = some ms[i] := by
  induction ms generalizing i with
  | nil => simp at hi
  | cons m ms ih =>
    rw [List.pairwise_cons] at h
    cases i with
    | zero => simp [atM]
    | succ i =>
      have hi' : i < ms.length := by simpa using hi
      have h1 := ih h.2 i hi'
      have h2 := h.1 ms[i] (List.getElem_mem _)
      simp only [List.getElem_cons_succ]
      unfold atM at h1 ⊢
      rw [List.find?_cons]
      have : decide (m.at_ = ms[i].at_) = false := by simp; omega
      rw [this]
      exact h1
theorem darks_append (a b : List Mis) : darks (a ++ b) = darks a + darks b := List.countP_append ..
theorem may_snoc (ms : List Mis) (m : Mis) : may (ms ++ [m]) = (mayF none ms && m.one && decide (∀ x ∈ ms, x.at_ < m.at_) && decide (ms.length + 1 ≤ 24)) := by
  rw [Bool.eq_iff_iff]
  simp only [may, Bool.and_eq_true, mayF_iff, decide_eq_true_eq, List.length_append, List.length_singleton, List.pairwise_append, List.mem_append, List.mem_singleton, List.pairwise_singleton]
  constructor
  · rintro ⟨⟨h1, ⟨h2, _, h3⟩, _⟩, h5⟩
    exact ⟨⟨⟨⟨fun x hx => h1 x (.inl hx), h2, by simp⟩, h1 m (.inr rfl)⟩, fun x hx => h3 x hx m rfl⟩, h5⟩
  · rintro ⟨⟨⟨⟨h1, h2, _⟩, h3⟩, h4⟩, h5⟩
    refine ⟨⟨?_, ⟨h2, trivial, ?_⟩, by simp⟩, h5⟩
    · rintro x (hx | rfl)
      · exact h1 x hx
      · exact h3
    · rintro x hx y rfl
      exact h4 x hx
theorem darks_after (n : Int) (ms : List Mis) : darks (afterM n ms) ≤ darks ms := by
  unfold darks
  exact List.Sublist.countP_le List.filter_sublist
end Go.Proofs.Ythingfifkiphnaa
