/- PressEnds: both ways. -/
import Derived.Test.YtejgoienkpaabaaDoorEndB
import Derived.Test.YtejgoienkpaabaaDoorEndC
namespace Go.Proofs.YtejgoienkpaabaaDoor
open Go.RowKit
theorem ends_any (A : Option Addr) (c : Nat) (b : List UInt8) (max : Int) (w : World) (h : Sl w A b) (hc : b.length ≤ c) (hl : b.length ≤ maxLen) (he : ErrTab w) (hmn : -9223372036854775808 ≤ max) (hmx : max ≤ 9223372036854775807) :
    Calls Tryd.prog 8 #[.agg #[.slice A b.length c, .int .i64 max]] w fun e w' => e = .returned (.bool true) ∧ Below w.heap.size w w' := by
  by_cases hb : 65536 < b.length
  · exact ends_big A c b max w h hc hl he hmn hmx hb
  · exact ends_small A c b max w h hc hl he hmn hmx (by omega)
end Go.Proofs.YtejgoienkpaabaaDoor
