/- Plain: what press.bind gathers of a row of code lengths. -/
namespace Go.Proofs.YtejgoienkpaabaaDoor
structure BS where
  C : Nat → Nat
  ln : List Nat
  sum : Nat
def bStep (n s l : Nat) (st : BS) : BS := if l = n then ⟨fun j => if j = n then st.C n + 1 else st.C j, st.ln ++ [s], st.sum + 2 ^ (15 - n)⟩ else st
def bIn (row : List Nat) (n : Nat) : Nat → BS → BS
  | 0, st => st
  | s + 1, st => bStep n s (row.getD s 0) (bIn row n s st)
def bOut (row : List Nat) : Nat → BS
  | 0 => ⟨fun _ => 0, [], 0⟩
  | k + 1 => bIn row (k + 1) row.length (bOut row k)
theorem bIn_le (row : List Nat) (n : Nat) (s : Nat) (st : BS) : (bIn row n s st).sum ≤ st.sum + 32768 * s ∧ (bIn row n s st).ln.length ≤ st.ln.length + s ∧ (∀ j, (bIn row n s st).C j ≤ st.C j + s) := by
  induction s with
  | zero => exact ⟨by simp [bIn], by simp [bIn], by simp [bIn]⟩
  | succ s ih =>
    obtain ⟨h1, h2, h3⟩ := ih
    have hp : 2 ^ (15 - n) ≤ 32768 := Nat.pow_le_pow_right (by decide) (show 15 - n ≤ 15 by omega)
    simp only [bIn, bStep]
    split
    · refine ⟨by simp; omega, by simp; omega, fun j => ?_⟩
      simp only
      split
      · rename_i h; subst h; have := h3 j; omega
      · have := h3 j; omega
    · exact ⟨by omega, by omega, fun j => by have := h3 j; omega⟩
theorem bOut_le (row : List Nat) (k : Nat) : (bOut row k).sum ≤ 32768 * (k * row.length) ∧ (bOut row k).ln.length ≤ k * row.length ∧ ∀ j, (bOut row k).C j ≤ k * row.length := by
  induction k with
  | zero => simp [bOut]
  | succ k ih =>
    obtain ⟨h1, h2, h3⟩ := ih
    obtain ⟨a1, a2, a3⟩ := bIn_le row (k + 1) row.length (bOut row k)
    have e : (k + 1) * row.length = k * row.length + row.length := Nat.succ_mul k _
    simp only [bOut, e]
    refine ⟨by omega, by omega, fun j => ?_⟩
    have := a3 j; have := h3 j; omega
/-- may the row be? -/
def bOk (row : List Nat) (none : Bool) : Bool :=
  let st := bOut row 15
  if st.ln.length = 0 then none else if st.ln.length = 1 then decide (st.C 1 = 1) else decide (st.sum = 32768)
end Go.Proofs.YtejgoienkpaabaaDoor
