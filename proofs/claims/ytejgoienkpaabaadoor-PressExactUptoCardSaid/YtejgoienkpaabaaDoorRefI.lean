/- Plain: the reference's Unpress answers as press's. -/
import Derived.Test.YtejgoienkpaabaaDoorRefH
namespace Go.Proofs.YtejgoienkpaabaaDoor
def ks (C : Nat → Nat) : Nat → Nat
  | 0 => 0
  | k + 1 => ks C k + C (k + 1) * 2 ^ (15 - (k + 1))
theorem ks_mono (C : Nat → Nat) {k m : Nat} (h : k ≤ m) : ks C k ≤ ks C m := by
  induction m with
  | zero => have : k = 0 := by omega
            subst this; exact Nat.le_refl _
  | succ m ih =>
    by_cases hk : k = m + 1
    · subst hk; exact Nat.le_refl _
    · have := ih (by omega); simp only [ks]; omega
theorem ks_congr {C D : Nat → Nat} {k : Nat} (h : ∀ j, j ≤ k → C j = D j) : ks C k = ks D k := by
  induction k with
  | zero => rfl
  | succ k ih => simp only [ks]; rw [ih (fun j hj => h j (by omega)), h (k + 1) (Nat.le_refl _)]
theorem tot_mul (n c : Nat) (row : List Nat) (s : Nat) : tot (fun l => if l = n then c else 0) row s = tot (fun l => if l = n then 1 else 0) row s * c := by
  induction s with
  | zero => simp [tot]
  | succ s ih =>
    simp only [tot, ih]
    split
    · rw [Nat.add_mul, Nat.one_mul]
    · simp
theorem bOut_ks (row : List Nat) (k : Nat) : (bOut row k).sum = ks (bOut row k).C k := by
  induction k with
  | zero => rfl
  | succ k ih =>
    have h1 := (bIn_tot row (k + 1) row.length (bOut row k)).1
    have h2 := (bIn_tot row (k + 1) row.length (bOut row k)).2.2
    have h3 : (bOut row (k + 1)).C (k + 1) = tot (fun l => if l = k + 1 then 1 else 0) row row.length := by
      show (bIn row (k + 1) row.length (bOut row k)).C (k + 1) = _
      rw [h2, if_pos rfl, (bOut_tot row k).2.2, if_neg (by omega), Nat.zero_add]
    show (bIn row (k + 1) row.length (bOut row k)).sum = ks (bOut row (k + 1)).C k + (bOut row (k + 1)).C (k + 1) * 2 ^ (15 - (k + 1))
    rw [h1, ih, ks_congr (D := (bOut row k).C) (fun j hj => bOut_C row k (k + 1) (by omega) j hj), h3, ← tot_mul]
    congr 1
    apply tot_congr
    intro s
    generalize row.getD s 0 = l
    by_cases h : l = k + 1
    · rw [if_pos h, if_pos h, h]
    · rw [if_neg h, if_neg h]
theorem fst_ks (C : Nat → Nat) (h0 : C 0 = 0) (n : Nat) (hn : n ≤ 15) : (fst_ C n + C n) * 2 ^ (15 - n) = ks C n := by
  induction n with
  | zero => simp [fst_, h0, ks]
  | succ n ih =>
    have e : 2 ^ (15 - n) = 2 * 2 ^ (15 - (n + 1)) := by rw [show 15 - n = (15 - (n + 1)) + 1 by omega, Nat.pow_succ, Nat.mul_comm]
    have ih2 := ih (by omega)
    rw [fst_, ks, ← ih2, e, Nat.add_mul, ← Nat.mul_assoc, Nat.mul_comm (fst_ C n + C n) 2]
theorem pow_le14 (j : Nat) (h : j ≤ 14) : 2 ^ j ≤ 16384 := by
  have := Nat.pow_le_pow_right (n := 2) (by decide) h
  have e : (2 : Nat) ^ 14 = 16384 := by decide
  omega
theorem ks_le (C : Nat → Nat) (k : Nat) : ks C k ≤ isum C k * 16384 := by
  induction k with
  | zero => exact Nat.le_of_eq (by rw [ks, isum, Nat.zero_mul])
  | succ k ih =>
    have hm := Nat.mul_le_mul_left (C (k + 1)) (pow_le14 (15 - (k + 1)) (by omega))
    rw [ks, isum, Nat.add_mul]
    exact Nat.add_le_add ih hm
theorem twin_of (row : List Nat) (nn : Bool) (h : bOk row nn = true) : Twin (bOut row 15) (cOut row 15).l := by
  have h0 : (bOut row 15).C 0 = 0 := by rw [(bOut_tot row 15).2.2, if_neg (by omega)]
  have hO := invO_all (bOut row 15).C row 15 (fun j _ => rfl)
  refine ⟨h0, hO.1, hO.2.1, fun n h1 h2 => ?_⟩
  have hsum : ks (bOut row 15).C 15 ≤ 32768 := by
    rw [← bOut_ks]
    simp only [bOk] at h
    split at h
    · rename_i hz
      have := ks_le (bOut row 15).C 15
      rw [← bOut_ks, (bOut_isum row 15).1, hz] at this
      omega
    · split at h
      · rename_i hz
        have := ks_le (bOut row 15).C 15
        rw [← bOut_ks, (bOut_isum row 15).1, hz] at this
        omega
      · simp only [decide_eq_true_eq] at h
        omega
  have h3 := fst_ks (bOut row 15).C h0 n h2
  have h4 := ks_mono (bOut row 15).C h2
  have e : (2 : Nat) ^ n * 2 ^ (15 - n) = 32768 := by rw [← Nat.pow_add, show n + (15 - n) = 15 by omega]
  have h5 : (fst_ (bOut row 15).C n + (bOut row 15).C n) * 2 ^ (15 - n) ≤ 2 ^ n * 2 ^ (15 - n) := by omega
  exact Nat.le_of_mul_le_mul_right h5 (Nat.pow_pos (by decide))
theorem pad_ref (bs : List UInt8) (f : Nat) : ∀ p, p ≤ 8 * bs.length → (p % 8 = 0 → 1 ≤ f) → (p % 8 ≠ 0 → 9 ≤ f + p % 8) →
    padP bs f p = (decide (((bitText bs).drop p).length ≤ 7) && ((bitText bs).drop p).all (fun c => c == 48)) := by
  induction f with
  | zero => intro p hp h1 h2; by_cases h : p % 8 = 0
            · have := h1 h; omega
            · have := h2 h; omega
  | succ f ih =>
    intro p hp h1 h2
    rw [padP]
    by_cases h : p % 8 = 0
    · rw [if_pos h]
      by_cases he : p = 8 * bs.length
      · have hd : (bitText bs).drop p = [] := List.drop_eq_nil_of_le (by rw [bitText_length]; omega)
        rw [hd]
        simp [he]
      · have hl : ¬ ((bitText bs).drop p).length ≤ 7 := by rw [List.length_drop, bitText_length]; omega
        rw [decide_eq_false he, decide_eq_false hl, Bool.false_and]
    · rw [if_neg h]
      have hlt : p < 8 * bs.length := by omega
      have hg := bitText_get bs p hlt
      obtain ⟨hlt', hv⟩ := List.getElem?_eq_some_iff.1 hg
      have hd : (bitText bs).drop p = UInt8.ofNat (48 + bitOf bs p) :: (bitText bs).drop (p + 1) := by rw [List.drop_eq_getElem_cons hlt', hv]
      have hb := bitOf_le bs p
      rw [hd, List.all_cons]
      by_cases h0 : bitOf bs p = 0
      · rw [if_pos h0, ih (p + 1) (by omega) (by omega) (by omega), h0]
        have e1 : (UInt8.ofNat (48 + 0) == 48) = true := by decide
        rw [e1, Bool.true_and]
        congr 1
        rw [decide_eq_decide, List.length_cons, List.length_drop, bitText_length]
        omega
      · rw [if_neg h0, show bitOf bs p = 1 by omega]
        have e1 : (UInt8.ofNat (48 + 1) == 48) = false := by decide
        rw [e1, Bool.false_and, Bool.and_false]
theorem lenAt_le15 (b : List UInt8) (i : Nat) : lenAt b i ≤ 15 := by unfold lenAt; omega
theorem map_le15 (b : List UInt8) (g : Nat → Nat) (N s : Nat) : ((List.range N).map fun i => lenAt b (g i)).getD s 0 ≤ 15 := by
  rw [List.getD_eq_getElem?_getD]
  cases h : ((List.range N).map fun i => lenAt b (g i))[s]? with
  | none => decide
  | some x =>
    have := List.mem_of_getElem? h
    simp only [List.mem_map] at this
    obtain ⟨i, _, rfl⟩ := this
    exact lenAt_le15 b _
theorem refCoded_eq (b : List UInt8) (n : Nat) : refCoded b n = codedP b n := by
  unfold refCoded codedP
  rw [wOk_bOk (symRow b) false (fun s => map_le15 b (fun i => i) 277 s), wOk_bOk (distRow b) true (fun s => map_le15 b (fun i => 277 + i) 18 s)]
  by_cases h : (b.getD 147 0).toNat % 16 ≠ 0 ∨ bOk (symRow b) false = false ∨ bOk (distRow b) true = false
  · rw [if_pos h, if_pos h]
  · rw [if_neg h, if_neg h]
    have h1 : bOk (symRow b) false = true := by
      cases hh : bOk (symRow b) false with
      | true => rfl
      | false => exact absurd (.inr (.inl hh)) h
    have h2 : bOk (distRow b) true = true := by
      cases hh : bOk (distRow b) true with
      | true => rfl
      | false => exact absurd (.inr (.inr hh)) h
    obtain ⟨g1, g2⟩ := dec_ref (twin_of _ _ h1) (twin_of _ _ h2) (b.drop 148) n (n + 1) [] 0 (by omega)
    rw [List.drop_zero] at g1
    rw [g1]
    cases hd : decP (bOut (symRow b) 15) (bOut (distRow b) 15) (b.drop 148) n (n + 1) [] 0 with
    | none => rfl
    | some a =>
      have hq := g2 a.1 a.2 hd
      simp only [Option.map_some, Option.bind_some]
      rw [pad_ref (b.drop 148) 8 a.2 hq (by omega) (by omega)]
      by_cases hl : 7 < ((bitText (b.drop 148)).drop a.2).length
      · rw [if_pos hl, decide_eq_false (by omega), Bool.false_and, if_neg (by decide)]
      · rw [if_neg hl, decide_eq_true (show ((bitText (b.drop 148)).drop a.2).length ≤ 7 by omega), Bool.true_and]
end Go.Proofs.YtejgoienkpaabaaDoor
