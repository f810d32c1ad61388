/- Plain: bits of bytes, and how press reads a code. -/
import Derived.Test.YtejgoienkpaabaaDoorBindP
namespace Go.Proofs.YtejgoienkpaabaaDoor
/-- the bit at that place -/
def bitOf (bs : List UInt8) (i : Nat) : Nat := ((bs.getD (i / 8) 0).toNat / 2 ^ (7 - i % 8)) % 2
theorem bitOf_le (bs : List UInt8) (i : Nat) : bitOf bs i ≤ 1 := by unfold bitOf; omega
/-- one of a row's codes: its place in the line, and where the reading is behind it -/
def nxt (C : Nat → Nat) (bs : List UInt8) : Nat → Nat → Nat → Nat → Nat → Nat → Option (Nat × Nat)
  | 0, _, _, _, _, _ => none
  | f + 1, n, code, first, idx, p =>
    if 8 * bs.length ≤ p then none
    else if 2 * code + bitOf bs p < 2 * first + C n then some (idx + (2 * code + bitOf bs p - 2 * first), p + 1)
    else nxt C bs f (n + 1) (2 * code + bitOf bs p) (2 * first + C n) (idx + C n) (p + 1)
def isum (C : Nat → Nat) : Nat → Nat
  | 0 => 0
  | k + 1 => isum C k + C (k + 1)
/-- the number of the next n bits -/
def nbits (bs : List UInt8) : Nat → Nat → Nat → Option (Nat × Nat)
  | 0, v, p => some (v, p)
  | n + 1, v, p => if 8 * bs.length ≤ p then none else nbits bs n (2 * v + bitOf bs p) (p + 1)
end Go.Proofs.YtejgoienkpaabaaDoor
