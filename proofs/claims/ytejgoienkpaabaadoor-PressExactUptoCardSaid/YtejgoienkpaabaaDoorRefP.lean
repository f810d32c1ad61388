/- Plain: the reference's codes. -/
import Derived.Test.YtejgoienkpaabaaDoorBindQ
namespace Go.Proofs.YtejgoienkpaabaaDoor
/-- v as n digits -/
def digs (v : Nat) : Nat → List UInt8
  | 0 => []
  | n + 1 => UInt8.ofNat (48 + v / 2 ^ n % 2) :: digs v n
theorem digs_length (v n : Nat) : (digs v n).length = n := by induction n with
  | zero => rfl
  | succ n ih => simp [digs, ih]
structure CS where
  v : Nat
  last : Nat
  l : List (Nat × List UInt8)
def cVal (n : Nat) (st : CS) : Nat := if st.l = [] then st.v else (st.v + 1) * 2 ^ (n - st.last)
def cStep (n s len : Nat) (st : CS) : CS := if len = n then ⟨cVal n st, n, st.l ++ [(s, digs (cVal n st) n)]⟩ else st
def cIn (row : List Nat) (n : Nat) : Nat → CS → CS
  | 0, st => st
  | s + 1, st => cStep n s (row.getD s 0) (cIn row n s st)
def cOut (row : List Nat) : Nat → CS
  | 0 => ⟨0, 0, []⟩
  | k + 1 => cIn row (k + 1) row.length (cOut row k)
def CB (n m : Nat) (st : CS) : Prop := st.last ≤ n ∧ st.l.length ≤ m ∧ (st.v < st.l.length * 2 ^ st.last ∨ (st.l = [] ∧ st.v = 0))
theorem cVal_le (n m : Nat) (st : CS) (h : CB n m st) : cVal n st ≤ st.l.length * 2 ^ n := by
  obtain ⟨h1, h2, h3⟩ := h
  unfold cVal
  split
  · rename_i h0
    rcases h3 with h3 | ⟨_, h3⟩
    · simp [h0] at h3
    · omega
  · rename_i h0
    rcases h3 with h3 | ⟨h3, _⟩
    · have e : 2 ^ n = 2 ^ st.last * 2 ^ (n - st.last) := by rw [← Nat.pow_add]; congr 1; omega
      rw [e, ← Nat.mul_assoc]
      exact Nat.mul_le_mul_right _ h3
    · exact absurd h3 h0
theorem cStep_CB (n m s len : Nat) (st : CS) (h : CB n m st) : CB n (m + 1) (cStep n s len st) := by
  have hv := cVal_le n m st h
  unfold cStep
  split
  · refine ⟨Nat.le_refl _, by simp; exact h.2.1, .inl ?_⟩
    simp only [List.length_append, List.length_singleton, Nat.succ_mul]
    have : 0 < 2 ^ n := Nat.pow_pos (by decide)
    omega
  · exact ⟨h.1, by have := h.2.1; omega, h.2.2⟩
theorem cIn_CB (row : List Nat) (n m s : Nat) (st : CS) (h : CB n m st) : CB n (m + s) (cIn row n s st) := by
  induction s with
  | zero => exact h
  | succ s ih => exact cStep_CB n (m + s) s _ _ ih
theorem cOut_CB (row : List Nat) (k : Nat) : CB k (k * row.length) (cOut row k) := by
  induction k with
  | zero => exact ⟨Nat.le_refl _, by simp [cOut], .inr ⟨rfl, rfl⟩⟩
  | succ k ih =>
    have := cIn_CB row (k + 1) (k * row.length) row.length (cOut row k) ⟨by have := ih.1; omega, ih.2⟩
    rw [Nat.succ_mul]
    exact this
/-- may the row be? -/
structure WS where
  sum : Nat
  used : Nat
  ones : Nat
def wStep (len : Nat) (st : WS) : WS := if len < 1 then st else ⟨st.sum + 2 ^ (15 - len), st.used + 1, if len = 1 then st.ones + 1 else st.ones⟩
def wGo (row : List Nat) : Nat → WS
  | 0 => ⟨0, 0, 0⟩
  | s + 1 => wStep (row.getD s 0) (wGo row s)
def wOk (row : List Nat) (none : Bool) : Bool :=
  let st := wGo row row.length
  if st.used = 0 then none else if st.used = 1 then decide (st.ones = 1) else decide (st.sum = 32768)
theorem wGo_le (row : List Nat) (s : Nat) : (wGo row s).sum ≤ 32768 * s ∧ (wGo row s).used ≤ s ∧ (wGo row s).ones ≤ s := by
  induction s with
  | zero => simp [wGo]
  | succ s ih =>
    obtain ⟨h1, h2, h3⟩ := ih
    have hp : 2 ^ (15 - row.getD s 0) ≤ 32768 := Nat.pow_le_pow_right (by decide) (show 15 - row.getD s 0 ≤ 15 by omega)
    simp only [wGo, wStep]
    split
    · exact ⟨by omega, by omega, by omega⟩
    · refine ⟨by simp only; omega, by simp only; omega, ?_⟩
      simp only
      split <;> omega
/-- whose code stands at the front -/
def codeP : List (Nat × List UInt8) → List UInt8 → Option (Nat × List UInt8)
  | [], _ => none
  | (s, t) :: l, S => if t.length ≤ S.length ∧ S.take t.length = t then some (s, S.drop t.length) else codeP l S
/-- the number of these digits -/
def valGo (S : List UInt8) : Nat → Nat
  | 0 => 0
  | n + 1 => 2 * valGo S n + ((S.getD n 0).toNat - 48)
def valueP (S : List UInt8) (n : Nat) : Option (Nat × List UInt8) := if S.length < n then none else some (valGo S n, S.drop n)
/-- a copy's length and way back -/
def refExtra (S : List UInt8) (free sub low k : Nat) : Option (Nat × List UInt8) :=
  if k < free then some (low + k, S) else (valueP S (k - sub)).map fun x => (low + 2 ^ (k - sub) + x.1, x.2)
def refCopied (d : List (Nat × List UInt8)) (c : Nat) (S : List UInt8) : Option (Nat × Nat × List UInt8) :=
  (refExtra S 8 5 3 c).bind fun a => (codeP d a.2).bind fun w => (refExtra w.2 4 2 1 w.1).map fun b => (a.1, b.1, b.2)
def refDec (s d : List (Nat × List UInt8)) (n : Nat) : Nat → List UInt8 → List UInt8 → Option (List UInt8 × List UInt8)
  | 0, _, _ => none
  | f + 1, out, S =>
    if n ≤ out.length then some (out, S) else
    (codeP s S).bind fun a =>
      if a.1 < 256 then refDec s d n f (out ++ [UInt8.ofNat a.1]) a.2
      else (refCopied d (a.1 - 256) a.2).bind fun b =>
        if out.length < b.2.1 ∨ n - out.length < b.1 then none else refDec s d n f (copyOut b.1 b.2.1 out) b.2.2
def bitText (bs : List UInt8) : List UInt8 := bs.flatMap fun c => digs c.toNat 8
def refCoded (b : List UInt8) (n : Nat) : Option (List UInt8) :=
  if (b.getD 147 0).toNat % 16 ≠ 0 ∨ wOk (symRow b) false = false ∨ wOk (distRow b) true = false then none else
  (refDec (cOut (symRow b) 15).l (cOut (distRow b) 15).l n (n + 1) [] (bitText (b.drop 148))).bind fun a =>
    if 7 < a.2.length then none else if a.2.all (fun c => c == 48) then some a.1 else none
end Go.Proofs.YtejgoienkpaabaaDoor
