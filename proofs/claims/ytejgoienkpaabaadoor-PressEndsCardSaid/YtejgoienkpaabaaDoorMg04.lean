/- BindQ (merged: one text behind the other). -/
import Derived.Test.YtejgoienkpaabaaDoorMg02
/- Plain: what press.bind's book is good for; press's decoding as a function. -/
namespace Go.Proofs.YtejgoienkpaabaaDoor
theorem isum_congr {C D : Nat → Nat} {k : Nat} (h : ∀ j, 1 ≤ j → j ≤ k → C j = D j) : isum C k = isum D k := by
  induction k with
  | zero => rfl
  | succ k ih => simp only [isum]; rw [ih (fun j h1 h2 => h j h1 (by omega)), h (k + 1) (by omega) (by omega)]
theorem isum_mono (C : Nat → Nat) {k m : Nat} (h : k ≤ m) : isum C k ≤ isum C m := by
  induction m with
  | zero => have : k = 0 := by omega
            subst this; exact Nat.le_refl _
  | succ m ih =>
    by_cases hk : k = m + 1
    · subst hk; exact Nat.le_refl _
    · have := ih (by omega); simp only [isum]; omega
theorem bIn_isum (row : List Nat) (m s : Nat) (st : BS) (h0 : st.C (m + 1) = 0) (h : isum st.C m = st.ln.length) :
    isum (bIn row (m + 1) s st).C (m + 1) = (bIn row (m + 1) s st).ln.length ∧ ∀ j, j ≠ m + 1 → (bIn row (m + 1) s st).C j = st.C j := by
  induction s with
  | zero => exact ⟨by simp [bIn, isum, h0, h], fun _ _ => rfl⟩
  | succ s ih =>
    obtain ⟨h1, h2⟩ := ih
    simp only [bIn, bStep]
    split
    · refine ⟨?_, fun j hj => by simp only [if_neg hj]; exact h2 j hj⟩
      simp only [isum] at h1 ⊢
      rw [isum_congr (D := (bIn row (m + 1) s st).C) (fun j _ h2 => if_neg (by omega))]
      simp; omega
    · exact ⟨h1, h2⟩
theorem bOut_isum (row : List Nat) (m : Nat) : isum (bOut row m).C m = (bOut row m).ln.length ∧ ∀ j, m < j → (bOut row m).C j = 0 := by
  induction m with
  | zero => exact ⟨rfl, fun _ _ => rfl⟩
  | succ m ih =>
    obtain ⟨h1, h2⟩ := ih
    obtain ⟨a, b⟩ := bIn_isum row m row.length (bOut row m) (h2 _ (by omega)) h1
    exact ⟨a, fun j hj => by show (bIn row (m + 1) row.length (bOut row m)).C j = 0; rw [b j (by omega)]; exact h2 j (by omega)⟩
theorem bOut_sum_le (row : List Nat) (k : Nat) (hk : k ≤ 15) : isum (bOut row 15).C k ≤ (bOut row 15).ln.length := by
  rw [← (bOut_isum row 15).1]; exact isum_mono _ hk
theorem bIn_mem (row : List Nat) (n s : Nat) (st : BS) (hs : s ≤ row.length) (h : ∀ x ∈ st.ln, x < row.length) : ∀ x ∈ (bIn row n s st).ln, x < row.length := by
  induction s with
  | zero => exact h
  | succ s ih =>
    have := ih (by omega)
    simp only [bIn, bStep]
    split
    · intro x hx
      simp only [List.mem_append, List.mem_singleton] at hx
      rcases hx with hx | rfl
      · exact this x hx
      · omega
    · exact this
theorem bOut_mem (row : List Nat) (m : Nat) : ∀ x ∈ (bOut row m).ln, x < row.length := by
  induction m with
  | zero => intro x hx; simp [bOut] at hx
  | succ m ih => exact bIn_mem row (m + 1) row.length _ (Nat.le_refl _) ih
theorem bOut_getD (row : List Nat) (m i : Nat) (h : 0 < row.length) : (bOut row m).ln.getD i 0 < row.length := by
  rw [List.getD_eq_getElem?_getD]
  cases hi : (bOut row m).ln[i]? with
  | none => simpa using h
  | some x => exact bOut_mem row m x (List.mem_of_getElem? hi)
theorem extra_low {bs : List UInt8} {free sub low k p a q : Nat} (h : extra bs free sub low k p = some (a, q)) : low ≤ a := by
  unfold extra at h
  split at h
  · injection h with h; injection h with h1 h2; omega
  · cases hn : nbits bs (k - sub) 0 p with
    | none => rw [hn] at h; cases h
    | some x => rw [hn] at h; injection h with h; injection h with h1 h2; rw [← h1, Nat.add_assoc]; exact Nat.le_add_right _ _
theorem copiedP_len {C : Nat → Nat} {ln : List Nat} {bs : List UInt8} {n k p p2 : Nat} {out out2 : List UInt8} (hn : out.length ≤ n) (h : copiedP C ln bs n k out p = some (out2, p2)) : out.length < out2.length ∧ out2.length ≤ n := by
  unfold copiedP at h
  cases h1 : extra bs 8 5 3 k p with
  | none => rw [h1] at h; cases h
  | some a =>
    rw [h1, Option.bind_some] at h
    split at h
    · cases h
    · cases h2 : nxt C bs 15 1 0 0 0 a.2 with
      | none => rw [h2] at h; cases h
      | some b =>
        rw [h2, Option.bind_some] at h
        cases h3 : extra bs 4 2 1 (ln.getD b.1 0) b.2 with
        | none => rw [h3] at h; cases h
        | some c =>
          rw [h3, Option.bind_some] at h
          split at h
          · cases h
          · rename_i h5
            injection h with h
            injection h with h6 h7
            have h8 := extra_low (a := a.1) (q := a.2) h1
            rw [← h6, copyOut_length]
            omega
/-- the bytes told: one symbol behind the other -/
def decP (S D : BS) (bs : List UInt8) (n : Nat) : Nat → List UInt8 → Nat → Option (List UInt8 × Nat)
  | 0, _, _ => none
  | f + 1, out, p =>
    if n ≤ out.length then some (out, p) else
    (nxt S.C bs 15 1 0 0 0 p).bind fun a =>
      if S.ln.getD a.1 0 < 256 then decP S D bs n f (out ++ [UInt8.ofNat (S.ln.getD a.1 0)]) a.2
      else (copiedP D.C D.ln bs n (S.ln.getD a.1 0 - 256) out a.2).bind fun b => decP S D bs n f b.1 b.2
/-- the bits behind the last symbol -/
def padP (bs : List UInt8) : Nat → Nat → Bool
  | 0, _ => false
  | f + 1, p => if p % 8 = 0 then decide (p = 8 * bs.length) else if bitOf bs p = 0 then padP bs f (p + 1) else false
def lenAt (b : List UInt8) (i : Nat) : Nat := (b.getD (i / 2) 0).toNat / (if i % 2 = 0 then 16 else 1) % 16
def symRow (b : List UInt8) : List Nat := (List.range 277).map (lenAt b)
def distRow (b : List UInt8) : List Nat := (List.range 18).map fun i => lenAt b (277 + i)
def codedP (b : List UInt8) (n : Nat) : Option (List UInt8) :=
  if (b.getD 147 0).toNat % 16 ≠ 0 ∨ bOk (symRow b) false = false ∨ bOk (distRow b) true = false then none else
  (decP (bOut (symRow b) 15) (bOut (distRow b) 15) (b.drop 148) n (n + 1) [] 0).bind fun a => if padP (b.drop 148) 8 a.2 then some a.1 else none
end Go.Proofs.YtejgoienkpaabaaDoor
