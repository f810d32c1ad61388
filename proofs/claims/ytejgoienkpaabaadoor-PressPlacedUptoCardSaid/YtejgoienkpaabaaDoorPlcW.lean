/- PressPlaced: both ways. -/
import Derived.Test.YtejgoienkpaabaaDoorPlcB
import Derived.Test.YtejgoienkpaabaaDoorPlcC
namespace Go.Proofs.YtejgoienkpaabaaDoor
open Go.RowKit
theorem placed_any (A : Option Addr) (c : Nat) (b : List UInt8) (max : Int) (w : World) (h : Sl w A b) (hc : b.length ≤ c) (hl : b.length ≤ 1048576) (he : ErrTab w) (hmx : max ≤ 9223372036854775807) :
    Calls Tryd.prog 4 #[.agg #[.slice A b.length c, .int .i64 max]] w fun e w' => e = .returned (.bool true) ∧ Below w.heap.size w w' := by
  by_cases hb : 65536 < b.length
  · exact placed_big A c b max w h hc hl he hmx hb
  · exact placed_small A c b max w h hc hl he hmx (by omega)
end Go.Proofs.YtejgoienkpaabaaDoor
