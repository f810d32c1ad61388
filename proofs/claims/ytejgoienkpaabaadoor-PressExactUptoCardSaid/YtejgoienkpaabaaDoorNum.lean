/- Plain: the number at the front of bytes, in its shortest form. -/
namespace Go.Proofs.YtejgoienkpaabaaDoor
/-- from place i on, with n read so far -/
def numGo : List UInt8 → Nat → Nat → Option (Nat × Nat)
  | [], _, _ => none
  | c :: l, i, n =>
    if 10 ≤ i then none
    else if i = 9 ∧ 1 < c.toNat then none
    else if c.toNat < 128 then (if c.toNat = 0 ∧ 0 < i then none else some (n + c.toNat * 128 ^ i, i + 1))
    else numGo l (i + 1) (n + (c.toNat % 128) * 128 ^ i)
def num (l : List UInt8) : Option (Nat × Nat) := numGo l 0 0
theorem numGo_ten (l : List UInt8) (i n : Nat) (h : 10 ≤ i) : numGo l i n = none := by
  cases l with
  | nil => rfl
  | cons c l => simp [numGo, h]
theorem numGo_zero (c : UInt8) (l : List UInt8) (i n x : Nat) (hx : x = c.toNat) (h0 : x < 1) (hi : 0 < i) : numGo (c :: l) i n = none := by
  unfold numGo
  split
  · rfl
  · split
    · rfl
    · rw [if_pos (by omega), if_pos (by omega)]
theorem numGo_done (c : UInt8) (l : List UInt8) (i n x y : Nat) (hx : x = c.toNat) (hy : y = n + (x % 128) * 128 ^ i) (hb : x < 128) (hi : i < 10) (h9 : i = 9 → x ≤ 1) (h0 : 0 < x ∨ i = 0) : numGo (c :: l) i n = some (y, i + 1) := by
  rw [Nat.mod_eq_of_lt hb] at hy
  unfold numGo
  rw [if_neg (by omega), if_neg (by omega), if_pos (by omega), if_neg (by omega), ← hx, ← hy]
theorem numGo_more (c : UInt8) (l : List UInt8) (i n x y : Nat) (hx : x = c.toNat) (hy : y = n + (x % 128) * 128 ^ i) (hb : ¬ x < 128) (hi : i < 9) : numGo (c :: l) i n = numGo l (i + 1) y := by
  conv => lhs; unfold numGo
  rw [if_neg (by omega), if_neg (by omega), if_neg (by omega), ← hx, ← hy]
theorem numGo_nine (c : UInt8) (l : List UInt8) (i n x : Nat) (hi : 9 ≤ i) (hx : x = c.toNat) (hb : 1 < x) : numGo (c :: l) i n = none := by
  by_cases h10 : 10 ≤ i
  · exact numGo_ten _ _ _ h10
  obtain rfl : i = 9 := by omega
  unfold numGo
  rw [if_neg (by omega), if_pos ⟨rfl, by omega⟩]
theorem pow128 (i : Nat) (h : i < 9) : 128 ^ i * 128 ≤ 9223372036854775808 := by
  match i, h with
  | 0, _ => decide
  | 1, _ => decide
  | 2, _ => decide
  | 3, _ => decide
  | 4, _ => decide
  | 5, _ => decide
  | 6, _ => decide
  | 7, _ => decide
  | 8, _ => decide
theorem step_lt (i n c : Nat) (hn : n < 128 ^ i) : n + (c % 128) * 128 ^ i < 128 ^ (i + 1) := by
  rw [Nat.pow_succ]
  have h1 : c % 128 ≤ 127 := by omega
  have h2 : (c % 128) * 128 ^ i ≤ 127 * 128 ^ i := Nat.mul_le_mul_right _ h1
  omega
theorem step_lt9 (n c : Nat) (hc : c ≤ 1) (hn : n < 128 ^ 9) : n + c * 128 ^ 9 < 2 ^ 64 := by
  have h : (128 : Nat) ^ 9 = 9223372036854775808 := by decide
  rw [h] at *
  have : c * 9223372036854775808 ≤ 1 * 9223372036854775808 := Nat.mul_le_mul_right _ hc
  omega
theorem step_nine (k n x : Nat) (hk : 9 ≤ k) (hk' : k < 10) (hx : x ≤ 1) (hn : n < 128 ^ k) : n + (x % 128) * 128 ^ k < 2 ^ 64 := by
  obtain rfl : k = 9 := by omega
  rw [Nat.mod_eq_of_lt (by omega)]
  exact step_lt9 n x hx hn
/-- the or of what is read and the next seven bits -/
theorem or_add (i n x : Nat) (hn : n < 128 ^ i) : n ||| (x * 128 ^ i) = n + x * 128 ^ i := by
  have e : (128 : Nat) ^ i = 2 ^ (7 * i) := by rw [Nat.pow_mul]
  rw [e] at hn ⊢
  have h := Nat.two_pow_add_eq_or_of_lt hn x
  rw [Nat.mul_comm x, Nat.or_comm, ← h, Nat.add_comm]
theorem numGo_bound : ∀ (l : List UInt8) (i n v s : Nat), n < 128 ^ i → i ≤ 9 → numGo l i n = some (v, s) → v < 2 ^ 64 ∧ i < s ∧ s ≤ 10 ∧ s ≤ i + l.length := by
  intro l
  induction l with
  | nil => intro i n v s _ _ h; cases h
  | cons c l ih =>
    intro i n v s hn hi h
    have hc := c.toNat_lt
    unfold numGo at h
    rw [if_neg (by omega)] at h
    split at h
    · cases h
    · rename_i h9
      split at h
      · split at h
        · cases h
        · injection h with h
          injection h with h1 h2
          subst h1 h2
          refine ⟨?_, by omega, by omega, by simp⟩
          by_cases h8 : i < 9
          · have h1 := step_lt i n c.toNat hn
            rw [Nat.mod_eq_of_lt (by omega)] at h1
            have h2 := pow128 i h8
            rw [Nat.pow_succ] at h1
            omega
          · have : i = 9 := by omega
            subst this
            exact step_lt9 n c.toNat (by omega) hn
      · by_cases h8 : i < 9
        · obtain ⟨h1, h2, h3, h4⟩ := ih (i + 1) _ v s (step_lt i n c.toNat hn) (by omega) h
          refine ⟨h1, by omega, h3, ?_⟩
          simp only [List.length_cons]; omega
        · exfalso; omega
theorem num_bound (l : List UInt8) (v s : Nat) (h : num l = some (v, s)) : v < 2 ^ 64 ∧ 0 < s ∧ s ≤ 10 ∧ s ≤ l.length := by
  have := numGo_bound l 0 0 v s (by decide) (by decide) h
  omega
end Go.Proofs.YtejgoienkpaabaaDoor
