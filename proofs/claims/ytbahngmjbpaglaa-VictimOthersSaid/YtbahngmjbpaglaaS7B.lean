/- Two parts are merged, of any lengths. -/
import Derived.Test.YtbahngmjbpaglaaS6aB
import Derived.Test.YtbahngmjbpaglaaS6bB
namespace Go.Proofs.Ytbahngmjbpaglaa
open Go Go.RowKit
set_option linter.unusedVariables false
set_option linter.unusedSimpArgs false
theorem symNB (le : Blk → Blk → Bool) (ho : LO le) (dom : Blk → Prop) (cmp : Blk → Blk → Int) : ∀ (N : Nat), ∀ (P L R Q D Z : List Blk) (hD : D = P ++ L ++ R ++ Q) (hZ : Z = P ++ srt le (L ++ R) ++ Q) (a m b : Int) (ha : a = (P.length : Int)) (hm : m = (P.length : Int) + (L.length : Int)) (hb : b = (P.length : Int) + (L.length : Int) + (R.length : Int)) (hl : D.length ≤ 100000) (hL0 : 0 < L.length) (hR0 : 0 < R.length) (hN : L.length + R.length ≤ N) (hsL : Sd le L) (hsR : Sd le R) (hag : Agr cmp le L R) (hdL : ∀ x ∈ L, dom x) (hdR : ∀ x ∈ R, dom x), Con Try.prog 57 [.own 0, .lit (.int .i64 a), .lit (.int .i64 m), .lit (.int .i64 b), .snap (fnF Try.prog (cspB dom cmp))] [(0, .own 42 encB (D))] (fun az hz => az = .tup [] ∧ hz = [(0, .own 42 encB (Z))])
  | 0 => fun _ _ _ _ _ _ _ _ _ _ _ _ _ _ _ hL0 _ hN _ _ _ _ _ => absurd hN (by omega)
  | N + 1 => fun P L R Q D Z hD hZ a m b ha hm hb hl hL0 hR0 hN hsL hsR hag hdL hdR => by
    by_cases h1 : L.length = 1
    · exact sym1B le ho dom cmp P L R Q D Z hD hZ a m b ha hm hb hl hL0 hR0 hsL hsR hag hdL hdR h1
    by_cases h2 : R.length = 1
    · exact sym2B le ho dom cmp P L R Q D Z hD hZ a m b ha hm hb hl hL0 hR0 hsL hsR hag hdL hdR (by omega) h2
    by_cases h3 : (L.length + R.length) / 2 < L.length
    · exact sym3aB le ho dom cmp N (symNB le ho dom cmp N) P L R Q D Z hD hZ a m b ha hm hb hl hL0 hR0 hN hsL hsR hag hdL hdR (by omega) (by omega) h3
    · exact sym3bB le ho dom cmp N (symNB le ho dom cmp N) P L R Q D Z hD hZ a m b ha hm hb hl hL0 hR0 hN hsL hsR hag hdL hdR (by omega) (by omega) h3
end Go.Proofs.Ytbahngmjbpaglaa
