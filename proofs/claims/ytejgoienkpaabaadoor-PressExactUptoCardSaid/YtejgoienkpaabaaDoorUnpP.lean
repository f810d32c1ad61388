/- Plain: what Unpress answers. -/
import Derived.Test.YtejgoienkpaabaaDoorBindQ
import Derived.Test.YtejgoienkpaabaaDoorNum
namespace Go.Proofs.YtejgoienkpaabaaDoor
def unpP (b : List UInt8) (max : Int) : List UInt8 × Nat :=
  match b with
  | [] => ([], 80)
  | m :: t =>
    if 1 < m.toNat then ([], 80) else
    match num t with
    | none => ([], 80)
    | some (n, s) =>
      if max < 0 ∨ max < (n : Int) ∨ 65536 < n then ([], 81) else
      if m.toNat = 0 then (if (t.drop s).length = n then (t.drop s, 0) else ([], 80))
      else if 0 < n ∧ 148 ≤ (t.drop s).length then (match codedP (t.drop s) n with | some out => (out, 0) | none => ([], 80))
      else ([], 80)
end Go.Proofs.YtejgoienkpaabaaDoor
