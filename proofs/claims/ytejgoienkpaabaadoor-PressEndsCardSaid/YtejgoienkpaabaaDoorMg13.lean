/- RightP (merged: one text behind the other). -/
import Derived.Test.YtejgoienkpaabaaDoorMg12
/- Plain: the chapter's own example. -/
namespace Go.Proofs.YtejgoienkpaabaaDoor
def exSym : List Nat := ((List.replicate 277 0).set 97 1).set 258 1
def exDist : List Nat := (List.replicate 18 0).set 0 1
def exRow : List Nat := exSym ++ exDist ++ [0]
def packTo (row : List Nat) : Nat → List UInt8
  | 0 => []
  | k + 1 => packTo row k ++ [UInt8.ofNat (16 * row.getD (2 * k) 0 + row.getD (2 * k + 1) 0)]
def exB : List UInt8 := [1, 6] ++ packTo exRow 148 ++ [64]
set_option maxRecDepth 100000
theorem ex_codes : (cOut exSym 15).l = [(97, [48]), (258, [49])] := by decide +kernel
theorem ex_codes2 : (cOut exDist 15).l = [(0, [48])] := by decide +kernel
theorem ex_ln : exB.length = 151 := by decide +kernel
end Go.Proofs.YtejgoienkpaabaaDoor
namespace Go.Proofs.YtejgoienkpaabaaDoor
theorem refUnp_like (b : List UInt8) (n : Nat) : refCoded b n = codedP b n := refCoded_eq b n
def exRest : List UInt8 := packTo exRow 148 ++ [64]
theorem ex_sym : symRow exRest = exSym := by decide +kernel
theorem ex_dist : distRow exRest = exDist := by decide +kernel
theorem ex_w1 : wOk exSym false = true := by decide +kernel
theorem ex_w2 : wOk exDist true = true := by decide +kernel
theorem ex_drop : exRest.drop 148 = [64] := by decide +kernel
theorem ex_147 : (exRest.getD 147 0).toNat % 16 = 0 := by decide +kernel
theorem ex_dec : refDec [(97, [48]), (258, [49])] [(0, [48])] 6 7 [] (bitText [64]) = some ([97, 97, 97, 97, 97, 97], [48, 48, 48, 48, 48]) := by decide +kernel
theorem ex_coded : codedP exRest 6 = some [97, 97, 97, 97, 97, 97] := by
  rw [← refCoded_eq, refCoded, ex_sym, ex_dist, ex_w1, ex_w2, ex_drop, ex_codes, ex_codes2, if_neg, ex_dec]
  · rfl
  · rintro (h | h | h)
    · exact h ex_147
    · cases h
    · cases h
theorem ex_num : num (6 :: exRest) = some (6, 1) := rfl
theorem ex_len : exRest.length = 149 := by decide +kernel
theorem ex_eq : exB = 1 :: 6 :: exRest := by decide +kernel
theorem ex_unp : unpP exB 6 = ([97, 97, 97, 97, 97, 97], 0) := by
  rw [ex_eq]
  unfold unpP
  simp only [ex_num]
  rw [if_neg (by decide), if_neg (by decide), if_neg (by decide), List.drop_succ_cons, List.drop_zero, if_pos ⟨by decide, by rw [ex_len]; decide⟩, ex_coded]
end Go.Proofs.YtejgoienkpaabaaDoor
