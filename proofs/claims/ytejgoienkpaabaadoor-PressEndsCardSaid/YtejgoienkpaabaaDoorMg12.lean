/- RefH, RefI, LawA (merged: one text behind the other). -/
import Derived.Test.YtejgoienkpaabaaDoorMg11
/- Plain: the reference's decoding answers as press's, the second part. -/
namespace Go.Proofs.YtejgoienkpaabaaDoor
theorem digs_snoc (x b n : Nat) (hb : b < 2) : digs (2 * x + b) (n + 1) = digs x n ++ [UInt8.ofNat (48 + b)] := by
  induction n with
  | zero => simp only [digs, Nat.pow_zero, Nat.div_one, List.nil_append]; rw [show (2 * x + b) % 2 = b by omega]
  | succ n ih =>
    rw [digs, ih, digs]
    rw [show (2 * x + b) / 2 ^ (n + 1) = x / 2 ^ n by rw [Nat.pow_succ, Nat.mul_comm (2 ^ n) 2, ← Nat.div_div_eq_div_mul, show (2 * x + b) / 2 = x by omega]]
    rfl
theorem digs_inj (n x y : Nat) (hx : x < 2 ^ n) (hy : y < 2 ^ n) (h : digs x n = digs y n) : x = y := by
  induction n generalizing x y with
  | zero => simp at hx hy; omega
  | succ n ih =>
    rw [Nat.pow_succ] at hx hy
    have ex : x = 2 * (x / 2) + x % 2 := by omega
    have ey : y = 2 * (y / 2) + y % 2 := by omega
    rw [ex, ey, digs_snoc _ _ _ (by omega), digs_snoc _ _ _ (by omega)] at h
    obtain ⟨h1, h2⟩ := List.append_inj h (by rw [digs_length, digs_length])
    have h3 := ih _ _ (by omega) (by omega) h1
    have h4 : UInt8.ofNat (48 + x % 2) = UInt8.ofNat (48 + y % 2) := by simpa using h2
    have h5 : x % 2 = y % 2 := by
      rcases Nat.mod_two_eq_zero_or_one x with a | a <;> rcases Nat.mod_two_eq_zero_or_one y with b | b <;> rw [a, b] at h4 ⊢
      · exact absurd h4 (by decide)
      · exact absurd h4 (by decide)
    omega
/-- the number of the n bits from p on -/
def bv (bs : List UInt8) (p : Nat) : Nat → Nat
  | 0 => 0
  | n + 1 => 2 * bv bs p n + bitOf bs (p + n)
theorem bv_lt (bs : List UInt8) (p n : Nat) : bv bs p n < 2 ^ n := by
  induction n with
  | zero => exact Nat.zero_lt_one
  | succ n ih => have := bitOf_le bs (p + n); rw [bv, Nat.pow_succ]; omega
theorem bitText_length (bs : List UInt8) : (bitText bs).length = 8 * bs.length := by
  induction bs with
  | nil => rfl
  | cons c bs ih => rw [bitText, List.flatMap_cons, List.length_append, digs_length, ← bitText, ih, List.length_cons]; omega
theorem digs_get (v n i : Nat) (h : i < n) : (digs v n)[i]? = some (UInt8.ofNat (48 + v / 2 ^ (n - 1 - i) % 2)) := by
  induction n generalizing i with
  | zero => omega
  | succ n ih =>
    rw [digs]
    cases i with
    | zero => rfl
    | succ i =>
      rw [List.getElem?_cons_succ, ih i (by omega), show n - 1 - i = n + 1 - 1 - (i + 1) by omega]
theorem bitText_get (bs : List UInt8) (i : Nat) (h : i < 8 * bs.length) : (bitText bs)[i]? = some (UInt8.ofNat (48 + bitOf bs i)) := by
  induction bs generalizing i with
  | nil => simp at h
  | cons c bs ih =>
    rw [bitText, List.flatMap_cons]
    by_cases hi : i < 8
    · rw [List.getElem?_append_left (by rw [digs_length]; exact hi), digs_get _ _ _ hi]
      congr 3
      rw [bitOf, show i / 8 = 0 by omega, show i % 8 = i by omega]
      rfl
    · rw [List.getElem?_append_right (by rw [digs_length]; omega), digs_length, ← bitText, ih (i - 8) (by rw [List.length_cons] at h; omega)]
      congr 3
      rw [bitOf, bitOf, show i / 8 = (i - 8) / 8 + 1 by omega, show i % 8 = (i - 8) % 8 by omega]
      rfl
theorem take_digs (bs : List UInt8) (p n : Nat) (h : p + n ≤ 8 * bs.length) : ((bitText bs).drop p).take n = digs (bv bs p n) n := by
  induction n with
  | zero => simp [digs]
  | succ n ih =>
    rw [bv, digs_snoc _ _ _ (by have := bitOf_le bs (p + n); omega), List.take_add_one, ih (by omega), List.getElem?_drop, bitText_get bs (p + n) (by omega)]
    rfl
theorem codeP_first (l : List (Nat × List UInt8)) (S : List UInt8) (i : Nat) (hi : i < l.length) (hm : (l.getD i (0, [])).2.length ≤ S.length ∧ S.take (l.getD i (0, [])).2.length = (l.getD i (0, [])).2)
    (hb : ∀ j, j < i → ¬ ((l.getD j (0, [])).2.length ≤ S.length ∧ S.take (l.getD j (0, [])).2.length = (l.getD j (0, [])).2)) : codeP l S = some ((l.getD i (0, [])).1, S.drop (l.getD i (0, [])).2.length) := by
  induction l generalizing i with
  | nil => simp at hi
  | cons a l ih =>
    obtain ⟨s, t⟩ := a
    cases i with
    | zero =>
      have hm' : t.length ≤ S.length ∧ S.take t.length = t := hm
      rw [codeP, if_pos hm']; rfl
    | succ i =>
      have h0 : ¬ (t.length ≤ S.length ∧ S.take t.length = t) := hb 0 (by omega)
      rw [codeP, if_neg h0]
      exact ih i (by simpa using hi) hm (fun j hj => hb (j + 1) (by omega))
theorem codeP_none (l : List (Nat × List UInt8)) (S : List UInt8)
    (hb : ∀ j, j < l.length → ¬ ((l.getD j (0, [])).2.length ≤ S.length ∧ S.take (l.getD j (0, [])).2.length = (l.getD j (0, [])).2)) : codeP l S = none := by
  induction l with
  | nil => rfl
  | cons a l ih =>
    obtain ⟨s, t⟩ := a
    have h0 : ¬ (t.length ≤ S.length ∧ S.take t.length = t) := hb 0 (by simp)
    rw [codeP, if_neg h0]
    exact ih (fun j hj => hb (j + 1) (by simpa using hj))
theorem texts_length (C : Nat → Nat) (k : Nat) : (texts C k).length = isum C k := by
  induction k with
  | zero => rfl
  | succ k ih => simp [texts, isum, ih]
theorem texts_at (C : Nat → Nat) (k j : Nat) (h : j < isum C k) : ∃ n c, 1 ≤ n ∧ n ≤ k ∧ c < C n ∧ j = isum C (n - 1) + c ∧ (texts C k)[j]? = some (digs (fst_ C n + c) n) := by
  induction k with
  | zero => simp [isum] at h
  | succ k ih =>
    by_cases hj : j < isum C k
    · obtain ⟨n, c, h1, h2, h3, h4, h5⟩ := ih hj
      exact ⟨n, c, h1, by omega, h3, h4, by rw [texts, List.getElem?_append_left (by rw [texts_length]; exact hj), h5]⟩
    · simp only [isum] at h
      refine ⟨k + 1, j - isum C k, by omega, by omega, by omega, by simp; omega, ?_⟩
      rw [texts, List.getElem?_append_right (by rw [texts_length]; omega), texts_length, List.getElem?_map, List.getElem?_range (by omega)]
      rfl
theorem texts_of (C : Nat → Nat) (k n c : Nat) (h1 : 1 ≤ n) (h2 : n ≤ k) (hc : c < C n) : (texts C k)[isum C (n - 1) + c]? = some (digs (fst_ C n + c) n) := by
  induction k with
  | zero => omega
  | succ k ih =>
    by_cases hn : n = k + 1
    · subst hn
      rw [texts, Nat.add_sub_cancel, List.getElem?_append_right (by rw [texts_length]; omega), texts_length, List.getElem?_map, Nat.add_sub_cancel_left, List.getElem?_range hc]
      rfl
    · have hlt : isum C (n - 1) + c < isum C k := by
        have h3 := isum_mono C (show n ≤ k by omega)
        obtain ⟨m, rfl⟩ : ∃ m, n = m + 1 := ⟨n - 1, by omega⟩
        simp only [isum] at h3
        rw [Nat.add_sub_cancel]
        omega
      rw [texts, List.getElem?_append_left (by rw [texts_length]; exact hlt)]
      exact ih (by omega)
def NxtPost (C : Nat → Nat) (bs : List UInt8) (p n : Nat) (r : Option (Nat × Nat)) : Prop :=
  (∃ m c, n ≤ m ∧ m ≤ 15 ∧ c < C m ∧ p + m ≤ 8 * bs.length ∧ bv bs p m = fst_ C m + c ∧ (∀ j, n ≤ j → j < m → fst_ C j + C j ≤ bv bs p j) ∧ r = some (isum C (m - 1) + c, p + m)) ∨
  (r = none ∧ ∀ m, n ≤ m → m ≤ 15 → p + m ≤ 8 * bs.length → fst_ C m + C m ≤ bv bs p m)
theorem nxt_spec (C : Nat → Nat) (bs : List UInt8) (p f n first : Nat) (hf : n + 1 + f = 16) (hfirst : first = fst_ C n + C n) (hle : first ≤ bv bs p n) (hp : p + n ≤ 8 * bs.length) :
    NxtPost C bs p (n + 1) (nxt C bs f (n + 1) (bv bs p n) first (isum C n) (p + n)) := by
  induction f generalizing n first with
  | zero => exact .inr ⟨rfl, fun m h1 h2 => by omega⟩
  | succ f ih =>
    have hF : fst_ C (n + 1) = 2 * first := by rw [hfirst]; rfl
    rw [nxt]
    by_cases h1 : 8 * bs.length ≤ p + n
    · rw [if_pos h1]
      exact .inr ⟨rfl, fun m a b c => by omega⟩
    · rw [if_neg h1]
      have hbv : 2 * bv bs p n + bitOf bs (p + n) = bv bs p (n + 1) := rfl
      rw [hbv]
      by_cases h2 : bv bs p (n + 1) < 2 * first + C (n + 1)
      · rw [if_pos h2]
        refine .inl ⟨n + 1, bv bs p (n + 1) - 2 * first, by omega, by omega, by omega, by omega, by rw [hF]; omega, fun j a b => by omega, ?_⟩
        rw [Nat.add_sub_cancel]; rfl
      · rw [if_neg h2]
        have ih2 := ih (n + 1) (2 * first + C (n + 1)) (by omega) (by rw [hF]) (by omega) (by omega)
        have e1 : isum C n + C (n + 1) = isum C (n + 1) := rfl
        rw [e1]
        have e2 : p + n + 1 = p + (n + 1) := by omega
        rw [e2]
        rcases ih2 with ⟨m, c, a1, a2, a3, a4, a5, a6, a7⟩ | ⟨a1, a2⟩
        · refine .inl ⟨m, c, by omega, a2, a3, a4, a5, fun j b1 b2 => ?_, a7⟩
          by_cases hj : j = n + 1
          · subst hj; rw [hF]; omega
          · exact a6 j (by omega) b2
        · refine .inr ⟨a1, fun m b1 b2 b3 => ?_⟩
          by_cases hm : m = n + 1
          · subst hm; rw [hF]; omega
          · exact a2 m (by omega) b2 b3
/-- the reference finds the code that press finds -/
theorem code_nxt (C : Nat → Nat) (ln : List Nat) (l : List (Nat × List UInt8)) (bs : List UInt8) (p : Nat) (h0 : C 0 = 0) (hp : p ≤ 8 * bs.length) (h1 : l.map Prod.fst = ln) (h2 : l.map Prod.snd = texts C 15)
    (hk : ∀ n, 1 ≤ n → n ≤ 15 → fst_ C n + C n ≤ 2 ^ n) :
    codeP l ((bitText bs).drop p) = (nxt C bs 15 1 0 0 0 p).map (fun a => (ln.getD a.1 0, (bitText bs).drop a.2)) ∧ ∀ i q, nxt C bs 15 1 0 0 0 p = some (i, q) → q ≤ 8 * bs.length := by
  have hlen : l.length = isum C 15 := by rw [← texts_length, ← h2, List.length_map]
  have hat : ∀ j, j < l.length → ∃ n c, 1 ≤ n ∧ n ≤ 15 ∧ c < C n ∧ j = isum C (n - 1) + c ∧ (l.getD j (0, [])).2 = digs (fst_ C n + c) n := by
    intro j hj
    obtain ⟨n, c, a1, a2, a3, a4, a5⟩ := texts_at C 15 j (by omega)
    refine ⟨n, c, a1, a2, a3, a4, ?_⟩
    rw [← h2, List.getElem?_map, List.getElem?_eq_getElem hj] at a5
    rw [List.getD_eq_getElem?_getD, List.getElem?_eq_getElem hj]
    exact Option.some.inj a5
  have hSl : ((bitText bs).drop p).length = 8 * bs.length - p := by rw [List.length_drop, bitText_length]
  have hmt : ∀ n c, 1 ≤ n → n ≤ 15 → c < C n → (((digs (fst_ C n + c) n).length ≤ ((bitText bs).drop p).length ∧ ((bitText bs).drop p).take (digs (fst_ C n + c) n).length = digs (fst_ C n + c) n) ↔ (p + n ≤ 8 * bs.length ∧ bv bs p n = fst_ C n + c)) := by
    intro n c a1 a2 a3
    have hK := hk n a1 a2
    rw [digs_length, hSl]
    constructor
    · rintro ⟨b1, b2⟩
      have b3 : p + n ≤ 8 * bs.length := by omega
      rw [take_digs bs p n b3] at b2
      exact ⟨b3, digs_inj n _ _ (bv_lt _ _ _) (by omega) b2⟩
    · rintro ⟨b1, b2⟩
      exact ⟨by omega, by rw [take_digs bs p n b1, b2]⟩
  have hs := nxt_spec C bs p 15 0 0 (by omega) (by simp [fst_, h0]) (by simp) (by omega)
  have hz : nxt C bs 15 (0 + 1) (bv bs p 0) 0 (isum C 0) (p + 0) = nxt C bs 15 1 0 0 0 p := rfl
  rw [hz] at hs
  rcases hs with ⟨m, c, a1, a2, a3, a4, a5, a6, a7⟩ | ⟨a1, a2⟩
  · rw [a7]
    refine ⟨?_, fun i q h => by injection h with h; injection h with _ h; omega⟩
    have htx := texts_of C 15 m c a1 a2 a3
    have hi : isum C (m - 1) + c < l.length := by
      obtain ⟨hlt, _⟩ := List.getElem?_eq_some_iff.1 htx
      rw [texts_length] at hlt
      omega
    have ht : (l.getD (isum C (m - 1) + c) (0, [])).2 = digs (fst_ C m + c) m := by
      rw [← h2, List.getElem?_map, List.getElem?_eq_getElem hi] at htx
      rw [List.getD_eq_getElem?_getD, List.getElem?_eq_getElem hi]
      exact Option.some.inj htx
    rw [codeP_first l _ (isum C (m - 1) + c) hi]
    · rw [ht, digs_length, List.drop_drop]
      simp only [Option.map_some]
      congr 2
      rw [← h1, List.getD_eq_getElem?_getD, List.getD_eq_getElem?_getD, List.getElem?_map, List.getElem?_eq_getElem hi]
      rfl
    · rw [ht]
      exact (hmt m c a1 a2 a3).2 ⟨a4, a5⟩
    · intro j hj
      obtain ⟨n, d, b1, b2, b3, b4, b5⟩ := hat j (by omega)
      rw [b5]
      intro hm
      obtain ⟨c1, c2⟩ := (hmt n d b1 b2 b3).1 hm
      rcases Nat.lt_trichotomy n m with h | h | h
      · have := a6 n b1 h; omega
      · subst h; omega
      · have h3 := isum_mono C (show m ≤ n - 1 by omega)
        obtain ⟨m', rfl⟩ : ∃ m', m = m' + 1 := ⟨m - 1, by omega⟩
        simp only [isum, Nat.add_sub_cancel] at h3 hj
        omega
  · rw [a1]
    refine ⟨?_, fun i q h => by cases h⟩
    apply codeP_none
    intro j hj
    obtain ⟨n, d, b1, b2, b3, b4, b5⟩ := hat j hj
    rw [b5]
    intro hm
    obtain ⟨c1, c2⟩ := (hmt n d b1 b2 b3).1 hm
    have := a2 n b1 b2 c1
    omega
theorem valGo_bv (bs : List UInt8) (p n : Nat) (h : p + n ≤ 8 * bs.length) : valGo ((bitText bs).drop p) n = bv bs p n := by
  induction n with
  | zero => rfl
  | succ n ih =>
    rw [valGo, bv, ih (by omega), List.getD_eq_getElem?_getD, List.getElem?_drop, bitText_get bs (p + n) (by omega)]
    have := bitOf_le bs (p + n)
    have e : (UInt8.ofNat (48 + bitOf bs (p + n))).toNat = 48 + bitOf bs (p + n) := by simp; omega
    simp only [Option.getD_some, e]
    omega
theorem nbits_bv (bs : List UInt8) (n v p : Nat) (hp : p ≤ 8 * bs.length) : nbits bs n v p = if 8 * bs.length < p + n then none else some (v * 2 ^ n + bv bs p n, p + n) := by
  have gen : ∀ m k v, p + k ≤ 8 * bs.length → nbits bs m v (p + k) = (if 8 * bs.length < p + k + m then none else some (v * 2 ^ m + (bv bs p (k + m) - bv bs p k * 2 ^ m), p + (k + m))) ∧ bv bs p k * 2 ^ m ≤ bv bs p (k + m) := by
    intro m
    induction m with
    | zero => intro k v h; exact ⟨by rw [if_neg (by omega)]; simp [nbits], by simp⟩
    | succ m ih =>
      intro k v h
      have hpow : 2 ^ (m + 1) = 2 * 2 ^ m := by rw [Nat.pow_succ, Nat.mul_comm]
      have e0 : k + (m + 1) = (k + 1) + m := by omega
      have hb : bv bs p (k + 1) = 2 * bv bs p k + bitOf bs (p + k) := rfl
      have hle : bv bs p k * 2 ^ (m + 1) ≤ bv bs p (k + 1) * 2 ^ m := by
        rw [hpow, hb, ← Nat.mul_assoc, Nat.mul_comm (bv bs p k) 2]
        exact Nat.mul_le_mul_right _ (by omega)
      rw [nbits]
      by_cases h1 : 8 * bs.length ≤ p + k
      · rw [if_pos h1, if_pos (by omega)]
        refine ⟨rfl, ?_⟩
        have gen2 : ∀ m k, bv bs p k * 2 ^ m ≤ bv bs p (k + m) := by
          intro m
          induction m with
          | zero => intro k; simp
          | succ m ih2 =>
            intro k
            have e1 : bv bs p (k + (m + 1)) = 2 * bv bs p (k + m) + bitOf bs (p + (k + m)) := rfl
            rw [e1, Nat.pow_succ, ← Nat.mul_assoc]
            have := ih2 k
            omega
        exact gen2 (m + 1) k
      · rw [if_neg h1]
        obtain ⟨i1, i2⟩ := ih (k + 1) (2 * v + bitOf bs (p + k)) (by omega)
        have e2 : p + k + 1 = p + (k + 1) := by omega
        rw [e2, i1, e0]
        refine ⟨?_, Nat.le_trans hle i2⟩
        by_cases h2 : 8 * bs.length < p + (k + 1) + m
        · rw [if_pos h2, if_pos (by omega)]
        · rw [if_neg h2, if_neg (by omega)]
          congr 2
          have e3 : (2 * v + bitOf bs (p + k)) * 2 ^ m = v * 2 ^ (m + 1) + bitOf bs (p + k) * 2 ^ m := by rw [hpow, Nat.add_mul, Nat.mul_comm 2 v, Nat.mul_assoc]
          have e4 : bv bs p (k + 1) * 2 ^ m = bv bs p k * 2 ^ (m + 1) + bitOf bs (p + k) * 2 ^ m := by rw [hb, hpow, Nat.add_mul, Nat.mul_comm 2 (bv bs p k), Nat.mul_assoc]
          omega
  have := (gen n 0 v (by omega)).1
  simpa [bv] using this
theorem extra_ref (bs : List UInt8) (a b c k p : Nat) (hp : p ≤ 8 * bs.length) :
    refExtra ((bitText bs).drop p) a b c k = (extra bs a b c k p).map (fun x => (x.1, (bitText bs).drop x.2)) ∧ ∀ x q, extra bs a b c k p = some (x, q) → q ≤ 8 * bs.length := by
  unfold refExtra extra
  by_cases hk : k < a
  · rw [if_pos hk, if_pos hk]
    exact ⟨rfl, fun x q h => by injection h with h; injection h with _ h; omega⟩
  · rw [if_neg hk, if_neg hk, nbits_bv bs _ 0 p hp, valueP, List.length_drop, bitText_length]
    by_cases h1 : 8 * bs.length < p + (k - b)
    · rw [if_pos h1, if_pos (by omega)]
      exact ⟨rfl, fun x q h => by cases h⟩
    · rw [if_neg h1, if_neg (by omega), valGo_bv bs p _ (by omega)]
      refine ⟨by simp [List.drop_drop], fun x q h => ?_⟩
      injection h with h; injection h with _ h; simp at h; omega
structure Twin (st : BS) (l : List (Nat × List UInt8)) : Prop where
  zero : st.C 0 = 0
  fst : l.map Prod.fst = st.ln
  snd : l.map Prod.snd = texts st.C 15
  kraft : ∀ n, 1 ≤ n → n ≤ 15 → fst_ st.C n + st.C n ≤ 2 ^ n
theorem Twin.code {st : BS} {l : List (Nat × List UInt8)} (h : Twin st l) (bs : List UInt8) (p : Nat) (hp : p ≤ 8 * bs.length) :
    codeP l ((bitText bs).drop p) = (nxt st.C bs 15 1 0 0 0 p).map (fun a => (st.ln.getD a.1 0, (bitText bs).drop a.2)) ∧ ∀ i q, nxt st.C bs 15 1 0 0 0 p = some (i, q) → q ≤ 8 * bs.length :=
  code_nxt st.C st.ln l bs p h.zero hp h.fst h.snd h.kraft
theorem copied_ref {D : BS} {d : List (Nat × List UInt8)} (h : Twin D d) (bs : List UInt8) (n k p : Nat) (out : List UInt8) (hp : p ≤ 8 * bs.length) :
    ((refCopied d k ((bitText bs).drop p)).bind fun b => if out.length < b.2.1 ∨ n - out.length < b.1 then none else some (copyOut b.1 b.2.1 out, b.2.2)) = (copiedP D.C D.ln bs n k out p).map (fun x => (x.1, (bitText bs).drop x.2)) ∧
      ∀ o q, copiedP D.C D.ln bs n k out p = some (o, q) → q ≤ 8 * bs.length := by
  unfold refCopied copiedP
  obtain ⟨e1, e2⟩ := extra_ref bs 8 5 3 k p hp
  rw [e1]
  cases hx : extra bs 8 5 3 k p with
  | none => exact ⟨rfl, fun o q h => by cases h⟩
  | some a =>
    have hq := e2 a.1 a.2 hx
    simp only [Option.map_some, Option.bind_some]
    obtain ⟨c1, c2⟩ := h.code bs a.2 hq
    by_cases hl : D.ln.length = 0
    · have hd : d = [] := by
        have := congrArg List.length h.fst
        rw [List.length_map, hl] at this
        exact List.eq_nil_of_length_eq_zero this
      rw [if_pos hl, hd]
      exact ⟨rfl, fun o q h => by cases h⟩
    · rw [if_neg hl, c1]
      cases hn : nxt D.C bs 15 1 0 0 0 a.2 with
      | none => exact ⟨rfl, fun o q h => by cases h⟩
      | some w =>
        have hq2 := c2 w.1 w.2 hn
        simp only [Option.map_some, Option.bind_some]
        obtain ⟨f1, f2⟩ := extra_ref bs 4 2 1 (D.ln.getD w.1 0) w.2 hq2
        rw [f1]
        cases hy : extra bs 4 2 1 (D.ln.getD w.1 0) w.2 with
        | none => exact ⟨rfl, fun o q h => by cases h⟩
        | some c =>
          have hq3 := f2 c.1 c.2 hy
          simp only [Option.map_some, Option.bind_some]
          by_cases hc : out.length < c.1 ∨ n - out.length < a.1
          · rw [if_pos hc, if_pos hc]
            exact ⟨rfl, fun o q h => by cases h⟩
          · rw [if_neg hc, if_neg hc]
            exact ⟨rfl, fun o q h => by injection h with h; injection h with _ h; omega⟩
theorem dec_ref {S D : BS} {s d : List (Nat × List UInt8)} (hS : Twin S s) (hD : Twin D d) (bs : List UInt8) (n f : Nat) : ∀ (out : List UInt8) (p : Nat), p ≤ 8 * bs.length →
    refDec s d n f out ((bitText bs).drop p) = (decP S D bs n f out p).map (fun x => (x.1, (bitText bs).drop x.2)) ∧ ∀ o q, decP S D bs n f out p = some (o, q) → q ≤ 8 * bs.length := by
  induction f with
  | zero => intro out p hp; exact ⟨rfl, fun o q h => by cases h⟩
  | succ f ih =>
    intro out p hp
    rw [refDec, decP]
    by_cases hn : n ≤ out.length
    · rw [if_pos hn, if_pos hn]
      exact ⟨rfl, fun o q h => by injection h with h; injection h with _ h; omega⟩
    · rw [if_neg hn, if_neg hn]
      obtain ⟨c1, c2⟩ := hS.code bs p hp
      rw [c1]
      cases hx : nxt S.C bs 15 1 0 0 0 p with
      | none => exact ⟨rfl, fun o q h => by cases h⟩
      | some a =>
        have hq := c2 a.1 a.2 hx
        simp only [Option.map_some, Option.bind_some]
        by_cases hy : S.ln.getD a.1 0 < 256
        · rw [if_pos hy, if_pos hy]
          exact ih _ _ hq
        · rw [if_neg hy, if_neg hy]
          obtain ⟨g1, g2⟩ := copied_ref hD bs n (S.ln.getD a.1 0 - 256) a.2 out hq
          cases hc : copiedP D.C D.ln bs n (S.ln.getD a.1 0 - 256) out a.2 with
          | none =>
            rw [hc] at g1
            refine ⟨?_, fun o q h => by cases h⟩
            cases hr : refCopied d (S.ln.getD a.1 0 - 256) ((bitText bs).drop a.2) with
            | none => rfl
            | some b =>
              rw [hr] at g1
              simp only [Option.bind_some] at g1 ⊢
              split at g1
              · rename_i h; rw [if_pos h]; rfl
              · cases g1
          | some b =>
            rw [hc] at g1
            have hq2 := g2 b.1 b.2 hc
            obtain ⟨i1, i2⟩ := ih b.1 b.2 hq2
            refine ⟨?_, fun o q h => i2 o q h⟩
            rw [Option.bind_some, ← i1]
            cases hr : refCopied d (S.ln.getD a.1 0 - 256) ((bitText bs).drop a.2) with
            | none => rw [hr] at g1; cases g1
            | some z =>
              rw [hr] at g1
              simp only [Option.bind_some] at g1 ⊢
              by_cases h : out.length < z.2.1 ∨ n - out.length < z.1
              · rw [if_pos h] at g1; cases g1
              · rw [if_neg h] at g1
                have g2' := Option.some.inj (by simpa only [Option.map_some] using g1)
                have g3 := congrArg Prod.fst g2'
                have g4 := congrArg Prod.snd g2'
                simp only at g3 g4
                rw [← g3, ← g4]
                exact if_neg h
end Go.Proofs.YtejgoienkpaabaaDoor

/- Plain: the reference's Unpress answers as press's. -/
namespace Go.Proofs.YtejgoienkpaabaaDoor
def ks (C : Nat → Nat) : Nat → Nat
  | 0 => 0
  | k + 1 => ks C k + C (k + 1) * 2 ^ (15 - (k + 1))
theorem ks_mono (C : Nat → Nat) {k m : Nat} (h : k ≤ m) : ks C k ≤ ks C m := by
  induction m with
  | zero => have : k = 0 := by omega
            subst this; exact Nat.le_refl _
  | succ m ih =>
    by_cases hk : k = m + 1
    · subst hk; exact Nat.le_refl _
    · have := ih (by omega); simp only [ks]; omega
theorem ks_congr {C D : Nat → Nat} {k : Nat} (h : ∀ j, j ≤ k → C j = D j) : ks C k = ks D k := by
  induction k with
  | zero => rfl
  | succ k ih => simp only [ks]; rw [ih (fun j hj => h j (by omega)), h (k + 1) (Nat.le_refl _)]
theorem tot_mul (n c : Nat) (row : List Nat) (s : Nat) : tot (fun l => if l = n then c else 0) row s = tot (fun l => if l = n then 1 else 0) row s * c := by
  induction s with
  | zero => simp [tot]
  | succ s ih =>
    simp only [tot, ih]
    split
    · rw [Nat.add_mul, Nat.one_mul]
    · simp
theorem bOut_ks (row : List Nat) (k : Nat) : (bOut row k).sum = ks (bOut row k).C k := by
  induction k with
  | zero => rfl
  | succ k ih =>
    have h1 := (bIn_tot row (k + 1) row.length (bOut row k)).1
    have h2 := (bIn_tot row (k + 1) row.length (bOut row k)).2.2
    have h3 : (bOut row (k + 1)).C (k + 1) = tot (fun l => if l = k + 1 then 1 else 0) row row.length := by
      show (bIn row (k + 1) row.length (bOut row k)).C (k + 1) = _
      rw [h2, if_pos rfl, (bOut_tot row k).2.2, if_neg (by omega), Nat.zero_add]
    show (bIn row (k + 1) row.length (bOut row k)).sum = ks (bOut row (k + 1)).C k + (bOut row (k + 1)).C (k + 1) * 2 ^ (15 - (k + 1))
    rw [h1, ih, ks_congr (D := (bOut row k).C) (fun j hj => bOut_C row k (k + 1) (by omega) j hj), h3, ← tot_mul]
    congr 1
    apply tot_congr
    intro s
    generalize row.getD s 0 = l
    by_cases h : l = k + 1
    · rw [if_pos h, if_pos h, h]
    · rw [if_neg h, if_neg h]
theorem fst_ks (C : Nat → Nat) (h0 : C 0 = 0) (n : Nat) (hn : n ≤ 15) : (fst_ C n + C n) * 2 ^ (15 - n) = ks C n := by
  induction n with
  | zero => simp [fst_, h0, ks]
  | succ n ih =>
    have e : 2 ^ (15 - n) = 2 * 2 ^ (15 - (n + 1)) := by rw [show 15 - n = (15 - (n + 1)) + 1 by omega, Nat.pow_succ, Nat.mul_comm]
    have ih2 := ih (by omega)
    rw [fst_, ks, ← ih2, e, Nat.add_mul, ← Nat.mul_assoc, Nat.mul_comm (fst_ C n + C n) 2]
theorem pow_le14 (j : Nat) (h : j ≤ 14) : 2 ^ j ≤ 16384 := by
  have := Nat.pow_le_pow_right (n := 2) (by decide) h
  have e : (2 : Nat) ^ 14 = 16384 := by decide
  omega
theorem ks_le (C : Nat → Nat) (k : Nat) : ks C k ≤ isum C k * 16384 := by
  induction k with
  | zero => exact Nat.le_of_eq (by rw [ks, isum, Nat.zero_mul])
  | succ k ih =>
    have hm := Nat.mul_le_mul_left (C (k + 1)) (pow_le14 (15 - (k + 1)) (by omega))
    rw [ks, isum, Nat.add_mul]
    exact Nat.add_le_add ih hm
theorem twin_of (row : List Nat) (nn : Bool) (h : bOk row nn = true) : Twin (bOut row 15) (cOut row 15).l := by
  have h0 : (bOut row 15).C 0 = 0 := by rw [(bOut_tot row 15).2.2, if_neg (by omega)]
  have hO := invO_all (bOut row 15).C row 15 (fun j _ => rfl)
  refine ⟨h0, hO.1, hO.2.1, fun n h1 h2 => ?_⟩
  have hsum : ks (bOut row 15).C 15 ≤ 32768 := by
    rw [← bOut_ks]
    simp only [bOk] at h
    split at h
    · rename_i hz
      have := ks_le (bOut row 15).C 15
      rw [← bOut_ks, (bOut_isum row 15).1, hz] at this
      omega
    · split at h
      · rename_i hz
        have := ks_le (bOut row 15).C 15
        rw [← bOut_ks, (bOut_isum row 15).1, hz] at this
        omega
      · simp only [decide_eq_true_eq] at h
        omega
  have h3 := fst_ks (bOut row 15).C h0 n h2
  have h4 := ks_mono (bOut row 15).C h2
  have e : (2 : Nat) ^ n * 2 ^ (15 - n) = 32768 := by rw [← Nat.pow_add, show n + (15 - n) = 15 by omega]
  have h5 : (fst_ (bOut row 15).C n + (bOut row 15).C n) * 2 ^ (15 - n) ≤ 2 ^ n * 2 ^ (15 - n) := by omega
  exact Nat.le_of_mul_le_mul_right h5 (Nat.pow_pos (by decide))
theorem pad_ref (bs : List UInt8) (f : Nat) : ∀ p, p ≤ 8 * bs.length → (p % 8 = 0 → 1 ≤ f) → (p % 8 ≠ 0 → 9 ≤ f + p % 8) →
    padP bs f p = (decide (((bitText bs).drop p).length ≤ 7) && ((bitText bs).drop p).all (fun c => c == 48)) := by
  induction f with
  | zero => intro p hp h1 h2; by_cases h : p % 8 = 0
            · have := h1 h; omega
            · have := h2 h; omega
  | succ f ih =>
    intro p hp h1 h2
    rw [padP]
    by_cases h : p % 8 = 0
    · rw [if_pos h]
      by_cases he : p = 8 * bs.length
      · have hd : (bitText bs).drop p = [] := List.drop_eq_nil_of_le (by rw [bitText_length]; omega)
        rw [hd]
        simp [he]
      · have hl : ¬ ((bitText bs).drop p).length ≤ 7 := by rw [List.length_drop, bitText_length]; omega
        rw [decide_eq_false he, decide_eq_false hl, Bool.false_and]
    · rw [if_neg h]
      have hlt : p < 8 * bs.length := by omega
      have hg := bitText_get bs p hlt
      obtain ⟨hlt', hv⟩ := List.getElem?_eq_some_iff.1 hg
      have hd : (bitText bs).drop p = UInt8.ofNat (48 + bitOf bs p) :: (bitText bs).drop (p + 1) := by rw [List.drop_eq_getElem_cons hlt', hv]
      have hb := bitOf_le bs p
      rw [hd, List.all_cons]
      by_cases h0 : bitOf bs p = 0
      · rw [if_pos h0, ih (p + 1) (by omega) (by omega) (by omega), h0]
        have e1 : (UInt8.ofNat (48 + 0) == 48) = true := by decide
        rw [e1, Bool.true_and]
        congr 1
        rw [decide_eq_decide, List.length_cons, List.length_drop, bitText_length]
        omega
      · rw [if_neg h0, show bitOf bs p = 1 by omega]
        have e1 : (UInt8.ofNat (48 + 1) == 48) = false := by decide
        rw [e1, Bool.false_and, Bool.and_false]
theorem lenAt_le15 (b : List UInt8) (i : Nat) : lenAt b i ≤ 15 := by unfold lenAt; omega
theorem map_le15 (b : List UInt8) (g : Nat → Nat) (N s : Nat) : ((List.range N).map fun i => lenAt b (g i)).getD s 0 ≤ 15 := by
  rw [List.getD_eq_getElem?_getD]
  cases h : ((List.range N).map fun i => lenAt b (g i))[s]? with
  | none => decide
  | some x =>
    have := List.mem_of_getElem? h
    simp only [List.mem_map] at this
    obtain ⟨i, _, rfl⟩ := this
    exact lenAt_le15 b _
theorem refCoded_eq (b : List UInt8) (n : Nat) : refCoded b n = codedP b n := by
  unfold refCoded codedP
  rw [wOk_bOk (symRow b) false (fun s => map_le15 b (fun i => i) 277 s), wOk_bOk (distRow b) true (fun s => map_le15 b (fun i => 277 + i) 18 s)]
  by_cases h : (b.getD 147 0).toNat % 16 ≠ 0 ∨ bOk (symRow b) false = false ∨ bOk (distRow b) true = false
  · rw [if_pos h, if_pos h]
  · rw [if_neg h, if_neg h]
    have h1 : bOk (symRow b) false = true := by
      cases hh : bOk (symRow b) false with
      | true => rfl
      | false => exact absurd (.inr (.inl hh)) h
    have h2 : bOk (distRow b) true = true := by
      cases hh : bOk (distRow b) true with
      | true => rfl
      | false => exact absurd (.inr (.inr hh)) h
    obtain ⟨g1, g2⟩ := dec_ref (twin_of _ _ h1) (twin_of _ _ h2) (b.drop 148) n (n + 1) [] 0 (by omega)
    rw [List.drop_zero] at g1
    rw [g1]
    cases hd : decP (bOut (symRow b) 15) (bOut (distRow b) 15) (b.drop 148) n (n + 1) [] 0 with
    | none => rfl
    | some a =>
      have hq := g2 a.1 a.2 hd
      simp only [Option.map_some, Option.bind_some]
      rw [pad_ref (b.drop 148) 8 a.2 hq (by omega) (by omega)]
      by_cases hl : 7 < ((bitText (b.drop 148)).drop a.2).length
      · rw [if_pos hl, decide_eq_false (by omega), Bool.false_and, if_neg (by decide)]
      · rw [if_neg hl, decide_eq_true (show ((bitText (b.drop 148)).drop a.2).length ≤ 7 by omega), Bool.true_and]
end Go.Proofs.YtejgoienkpaabaaDoor

/- Contracts of the law's small helpers. -/
namespace Go.Proofs.YtejgoienkpaabaaDoor
open Go.RowKit
set_option maxRecDepth 100000
theorem num_any (k : IntKind) (v : Int) (w : World) : Calls Tryd.prog 14 #[.int k v] w fun e w' => e = .returned (.int k v) ∧ w' = w := by
  go_enter Tryd.func14, Tryd.ntmps14
  go_wp2_with fail
  go_ret
  exact ⟨rfl, rfl⟩
def CmpRel (w : World) (l : List UInt8) (vi : Value) (wr : World) : Prop :=
  ∃ k : Nat, k ≤ l.length ∧ vi = .int .i64 k ∧ Hid (Below w.heap.size w wr)
set_option maxHeartbeats 1000000 in
theorem cmp_same (A A' : Option Addr) (n c c' : Nat) (l : List UInt8) (w : World) (hn : l.length = n) (h : Sl w A l) (h' : Sl w A' l) (hl : l.length ≤ Lim) :
    Calls Tryd.prog 30 #[.slice A n c, .slice A' n c'] w fun e w' => e = .returned (.int .i64 0) ∧ Below w.heap.size w w' := by
  subst hn
  have hl3 := Lim_le hl
  rcases h with rfl | ⟨b, o, rfl, hb, hc⟩
  · go_enter Tryd.func30, Tryd.ntmps30
    go_wp2_with fail
    refine wp_loop_rounds 1 ?_
    rw [rounds_succ]
    go_wp2_with fail
    go_ret
    exact ⟨rfl, Below.refl _ _⟩
  · rcases h' with rfl | ⟨b', o', rfl, hb', hc'⟩
    · go_enter Tryd.func30, Tryd.ntmps30
      go_wp2_with fail
      refine wp_loop_rounds 1 ?_
      rw [rounds_succ]
      go_wp2_with fail
      go_ret
      exact ⟨rfl, Below.refl _ _⟩
    · have HC := Lib.hid hc
      have HC' := Lib.hid hc'
      clear hc hc'
      go_enter Tryd.func30, Tryd.ntmps30
      go_wp2_with fail
      go_loopw [5] (fun vi wr => CmpRel w l vi wr) (fun vi _ => l.length - (intOf vi).toNat)
      case atStart => exact ⟨0, by omega, rfl, Below.refl _ _⟩
      case round =>
        obtain ⟨k, hk, rfl, hB⟩ := hrel
        by_cases hlt : k < l.length
        · obtain ⟨x, hx⟩ : ∃ x, x = (l.getD k 0).toNat := ⟨_, rfl⟩
          have hc1 : wr.cell? ⟨b, o + k, none⟩ = some (.int .u8 (x : Int)) := by rw [hx]; exact (hB.out.cell (p := ⟨b, o + k, none⟩) hb).trans (HC.out k hlt)
          have hc2 : wr.cell? ⟨b', o' + k, none⟩ = some (.int .u8 (x : Int)) := by rw [hx]; exact (hB.out.cell (p := ⟨b', o' + k, none⟩) hb').trans (HC'.out k hlt)
          have hd : decide ((x : Int) < (x : Int)) = false := decide_eq_false (by omega)
          clear hx
          go_wp2_with fail
          go_quiet (fail)
          go_wp2_with fail
          go_quiet (fail)
          go_wp2_with fail
          go_roundw
          case rel => exact ⟨k + 1, by omega, by go_num, below_drewN' hB.out _⟩
          case measure => simp [intOf]; omega
        · go_wp2_with fail
          go_ret
          exact ⟨rfl, hB.out⟩
theorem eq_same (A A' : Option Addr) (n n' c c' : Nat) (l : List UInt8) (w : World) (hn : l.length = n) (hn' : l.length = n') (h : Sl w A l) (h' : Sl w A' l) (hl : l.length ≤ Lim) :
    Calls Tryd.prog 15 #[.slice A n c, .slice A' n' c'] w fun e w' => e = .returned (.bool true) ∧ Below w.heap.size w w' := by
  subst hn'
  subst hn
  go_enter Tryd.func15, Tryd.ntmps15
  go_wp2_with fail
  refine (cmp_same A A' _ c c' l w rfl h h' hl).mono ?_
  rintro e w1 ⟨rfl, hb⟩
  go_wp2_with fail
  go_ret
  exact ⟨rfl, hb⟩
def mk3 : List UInt8 := [165, 90, 165]
def LendPost (w : World) (l : List UInt8) (e : Ending) (w' : World) : Prop :=
  ∃ g c, e = .returned (.slice (some ⟨g, 0, none⟩) l.length c) ∧ l.length + 3 ≤ c ∧ w'.ownsRow w.heap.size 5 1 (.slice (some ⟨g, 0, none⟩) (l.length + 3) c) (l.length + 3) (U (l ++ mk3)) ∧ Below w.heap.size w w'
set_option maxHeartbeats 1000000 in
theorem lend_any (A : Option Addr) (n c : Nat) (l : List UInt8) (w : World) (hn : l.length = n) (h : Sl w A l) (hl : l.length ≤ Lim) :
    Calls Tryd.prog 9 #[.slice A n c] w fun e w' => LendPost w l e w' := by
  subst hn
  have hl3 := Lim_le hl
  obtain ⟨i5, hi5, hz50, hz51, hz52⟩ := info_parts info5
  have hr := Lib.hid h.reads
  clear h
  go_enter Tryd.func9, Tryd.ntmps9
  go_wp2_with (first
    | (at_builtin
       refine wpList_append_any w rfl (.tmp 4) (.tmp 5) 22 rfl w.heap.size 5 i5 (.int .u8 0) 1 1 Tryd.underlying22 hi5 hz50 hz51 hz52 rfl (by decide) (.slice none 0 0) 0 [] rfl (World.ownsRow_nil _ _ _ _) w.heap.size A l.length c (U l) rfl hr.out (U_one l) (by unfold maxLen; omega) (by omega) (Nat.le_refl _) ?_
       intro v1 w1 hown1 hg1 _
       have hb1 := Lib.hid ((Below.refl w.heap.size w).grown hg1 (Nat.le_refl _) (fun q hq => by simp [Value.ownBlock] at hq))
       obtain ⟨A1, c1, hv1⟩ := own_shape hown1
       have HO1 := Lib.hid hown1
       rw [Nat.zero_add, List.nil_append] at HO1
       rw [Nat.zero_add] at hv1
       subst hv1
       clear hown1 hg1
       have hs1 := hb1.out.size)
    | (at_builtin
       refine wpList_pushK w1 rfl (.tmp 7) (.tmp 8) 22 rfl w.heap.size 5 i5 (.int .u8 0) 1 1 Tryd.underlying22 hi5 hz50 hz51 hz52 rfl (by decide) A1 l.length c1 (U l) rfl HO1.out #[.int .u8 165, .int .u8 90, .int .u8 165] 3 5 rfl ?_ rfl (by omega) (by unfold maxLen; omega) hs1 ?_
       · intro u hu
         simp at hu
         rcases hu with rfl | rfl | rfl <;> rfl
       intro A2 c2 w2 hown2 hg2
       obtain ⟨g, cap, hv, hge, hlt⟩ := hown2.form (by omega)
       injection hv with hv1 hv2 hv3
       subst hv1 hv3
       have hcap : l.length + 3 ≤ c2 := by
         rcases hown2.2 with ⟨h, _⟩ | ⟨g', cap', cur', hv', _, _, hn', _⟩
         · cases h
         · injection hv' with _ _ h3; rw [h3]; exact hn'
       have HO2 := Lib.hid hown2
       have HB2 := Lib.hid (hb1.out.grown hg2 hs1 (fun q hq => (HO1.out.lt q hq).1))
       clear hown2 hg2)
    | fail)
  go_ret
  exact ⟨g, c2, rfl, hcap, by rw [U_append]; exact HO2.out, HB2.out⟩
set_option maxHeartbeats 1000000 in
theorem intact_any (g c n n' c' : Nat) (A : Option Addr) (l : List UInt8) (base : Nat) (w : World) (hn : l.length = n) (hn' : l.length = n') (hc : l.length + 3 ≤ c)
    (ho : w.ownsRow base 5 1 (.slice (some ⟨g, 0, none⟩) (l.length + 3) c) (l.length + 3) (U (l ++ mk3))) (h : Sl w A l) (hl : l.length ≤ Lim) :
    Calls Tryd.prog 11 #[.slice (some ⟨g, 0, none⟩) n c, .slice A n' c'] w fun e w' => e = .returned (.bool true) ∧ w' = w := by
  subst hn'
  subst hn
  have hl3 := Lim_le hl
  have hs1 : Sl w (some ⟨g, 0, none⟩) l := by
    rcases Sl.of_own ho with h0 | ⟨b, o, he, hb, hcell⟩
    · simp [mk3] at h0
    · injection he with he; injection he with he1 he2
      subst he1 he2
      refine .inr ⟨g, 0, rfl, hb, fun j hj => ?_⟩
      rw [hcell j (by simp; omega), List.getD_eq_getElem?_getD, List.getD_eq_getElem?_getD, List.getElem?_append_left hj]
  have hcv1 := run_str w (some ⟨g, 0, none⟩) l.length c l rfl hs1
  have hcv2 := run_str w A l.length c' l rfl h
  have heq : ((⟨l.toArray⟩ : ByteArray).toList == (⟨l.toArray⟩ : ByteArray).toList) = true := beq_iff_eq.2 rfl
  have hcell : ∀ j, j < 3 → w.cell? ⟨g, l.length + j, none⟩ = some (.int .u8 ((mk3.getD j 0).toNat : Int)) := by
    intro j hj
    rw [ho.cellAt (l.length + j) (by omega), U_get, List.getElem?_append_right (by omega), Nat.add_sub_cancel_left, List.getD_eq_getElem?_getD]
    rw [List.getElem?_eq_getElem (show j < mk3.length by simpa [mk3] using hj)]
    rfl
  have hc0 : w.cell? ⟨g, l.length, none⟩ = some (.int .u8 165) := hcell 0 (by omega)
  have hc1 : w.cell? ⟨g, l.length + 1, none⟩ = some (.int .u8 90) := hcell 1 (by omega)
  have hc2 : w.cell? ⟨g, l.length + 2, none⟩ = some (.int .u8 165) := hcell 2 (by omega)
  clear hcell hs1 ho h
  go_enter Tryd.func11, Tryd.ntmps11
  go_wp2_with fail
  go_ret
  exact ⟨rfl, rfl⟩
end Go.Proofs.YtejgoienkpaabaaDoor
