/- Plain: how press reads a copy. -/
import Derived.Test.YtejgoienkpaabaaDoorBitP
namespace Go.Proofs.YtejgoienkpaabaaDoor
def copyOut : Nat → Nat → List UInt8 → List UInt8
  | 0, _, out => out
  | i + 1, back, out => copyOut i back out ++ [(copyOut i back out).getD ((copyOut i back out).length - back) 0]
theorem copyOut_length (i back : Nat) (out : List UInt8) : (copyOut i back out).length = out.length + i := by
  induction i with
  | zero => rfl
  | succ i ih => simp [copyOut, ih]; omega
/-- a length's or a way back's number: below 'free' it stands itself; else its extra bits follow -/
def extra (bs : List UInt8) (free sub low k p : Nat) : Option (Nat × Nat) :=
  if k < free then some (low + k, p) else (nbits bs (k - sub) 0 p).map fun x => (low + 2 ^ (k - sub) + x.1, x.2)
def copiedP (C : Nat → Nat) (ln : List Nat) (bs : List UInt8) (n k : Nat) (out : List UInt8) (p : Nat) : Option (List UInt8 × Nat) :=
  (extra bs 8 5 3 k p).bind fun a =>
    if ln.length = 0 then none else
    (nxt C bs 15 1 0 0 0 a.2).bind fun b =>
      (extra bs 4 2 1 (ln.getD b.1 0) b.2).bind fun c =>
        if out.length < c.1 ∨ n - out.length < a.1 then none else some (copyOut a.1 c.1 out, c.2)
end Go.Proofs.YtejgoienkpaabaaDoor
