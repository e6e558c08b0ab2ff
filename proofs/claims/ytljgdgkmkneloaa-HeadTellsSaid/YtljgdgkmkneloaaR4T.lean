/- HeadTells, walked whole. -/
import Derived.Test.YtljgdgkmkneloaaR4tTT
import Derived.Test.YtljgdgkmkneloaaR4tTF
import Derived.Test.YtljgdgkmkneloaaR4tFT
import Derived.Test.YtljgdgkmkneloaaR4tFF
namespace Go.Proofs.Ytljgdgkmkneloaa
open Go Go.RowKit
set_option linter.unusedVariables false
set_option linter.unusedSimpArgs false

theorem tells_con (data raw : List UInt8) (h : Hd) (hl : data.length ≤ 9223372036854775807) (hl2 : raw.length ≤ 9223372036854775807) (ha0 : 0 ≤ h.addr) (ha : h.addr < 18446744073709551616) : Con Try.prog 3 [.snap (slF encU data), .agg (encH.cells h), .snap (slF encU raw)] [] (fun az hz => az = .lit (.bool true) ∧ hz = []) := by
  cases hs : szd (data.length : Int) with
  | false =>
    cases hok : okR raw with
    | false => exact tells_FF data raw h hl hl2 ha0 ha (by rw [hs]; rfl) hok
    | true => exact tells_FT data raw h hl hl2 ha0 ha (by rw [hs]; rfl) hok
  | true =>
    cases hm : mayH h with
    | false =>
      cases hok : okR raw with
      | false => exact tells_FF data raw h hl hl2 ha0 ha (by rw [hm, Bool.and_false]) hok
      | true => exact tells_FT data raw h hl hl2 ha0 ha (by rw [hm, Bool.and_false]) hok
    | true =>
      cases hok : okR raw with
      | false => exact tells_TF data raw h hl hl2 ha0 ha hs hm hok
      | true => exact tells_TT data raw h hl hl2 ha0 ha hs hm hok
end Go.Proofs.Ytljgdgkmkneloaa
