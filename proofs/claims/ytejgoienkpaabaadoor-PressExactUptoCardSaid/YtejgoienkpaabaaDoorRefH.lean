/- Plain: the reference's decoding answers as press's, the second part. -/
import Derived.Test.YtejgoienkpaabaaDoorRefG
namespace Go.Proofs.YtejgoienkpaabaaDoor
theorem digs_snoc (x b n : Nat) (hb : b < 2) : digs (2 * x + b) (n + 1) = digs x n ++ [UInt8.ofNat (48 + b)] := by
  induction n with
  | zero => simp only [digs, Nat.pow_zero, Nat.div_one, List.nil_append]; rw [show (2 * x + b) % 2 = b by omega]
  | succ n ih =>
    rw [digs, ih, digs]
    rw [show (2 * x + b) / 2 ^ (n + 1) = x / 2 ^ n by rw [Nat.pow_succ, Nat.mul_comm (2 ^ n) 2, ← Nat.div_div_eq_div_mul, show (2 * x + b) / 2 = x by omega]]
    rfl
theorem digs_inj (n x y : Nat) (hx : x < 2 ^ n) (hy : y < 2 ^ n) (h : digs x n = digs y n) : x = y := by
  induction n generalizing x y with
  | zero => simp at hx hy; omega
  | succ n ih =>
    rw [Nat.pow_succ] at hx hy
    have ex : x = 2 * (x / 2) + x % 2 := by omega
    have ey : y = 2 * (y / 2) + y % 2 := by omega
    rw [ex, ey, digs_snoc _ _ _ (by omega), digs_snoc _ _ _ (by omega)] at h
    obtain ⟨h1, h2⟩ := List.append_inj h (by rw [digs_length, digs_length])
    have h3 := ih _ _ (by omega) (by omega) h1
    have h4 : UInt8.ofNat (48 + x % 2) = UInt8.ofNat (48 + y % 2) := by simpa using h2
    have h5 : x % 2 = y % 2 := by
      rcases Nat.mod_two_eq_zero_or_one x with a | a <;> rcases Nat.mod_two_eq_zero_or_one y with b | b <;> rw [a, b] at h4 ⊢
      · exact absurd h4 (by decide)
      · exact absurd h4 (by decide)
    omega
/-- the number of the n bits from p on -/
def bv (bs : List UInt8) (p : Nat) : Nat → Nat
  | 0 => 0
  | n + 1 => 2 * bv bs p n + bitOf bs (p + n)
theorem bv_lt (bs : List UInt8) (p n : Nat) : bv bs p n < 2 ^ n := by
  induction n with
  | zero => exact Nat.zero_lt_one
  | succ n ih => have := bitOf_le bs (p + n); rw [bv, Nat.pow_succ]; omega
theorem bitText_length (bs : List UInt8) : (bitText bs).length = 8 * bs.length := by
  induction bs with
  | nil => rfl
  | cons c bs ih => rw [bitText, List.flatMap_cons, List.length_append, digs_length, ← bitText, ih, List.length_cons]; omega
theorem digs_get (v n i : Nat) (h : i < n) : (digs v n)[i]? = some (UInt8.ofNat (48 + v / 2 ^ (n - 1 - i) % 2)) := by
  induction n generalizing i with
  | zero => omega
  | succ n ih =>
    rw [digs]
    cases i with
    | zero => rfl
    | succ i =>
      rw [List.getElem?_cons_succ, ih i (by omega), show n - 1 - i = n + 1 - 1 - (i + 1) by omega]
theorem bitText_get (bs : List UInt8) (i : Nat) (h : i < 8 * bs.length) : (bitText bs)[i]? = some (UInt8.ofNat (48 + bitOf bs i)) := by
  induction bs generalizing i with
  | nil => simp at h
  | cons c bs ih =>
    rw [bitText, List.flatMap_cons]
    by_cases hi : i < 8
    · rw [List.getElem?_append_left (by rw [digs_length]; exact hi), digs_get _ _ _ hi]
      congr 3
      rw [bitOf, show i / 8 = 0 by omega, show i % 8 = i by omega]
      rfl
    · rw [List.getElem?_append_right (by rw [digs_length]; omega), digs_length, ← bitText, ih (i - 8) (by rw [List.length_cons] at h; omega)]
      congr 3
      rw [bitOf, bitOf, show i / 8 = (i - 8) / 8 + 1 by omega, show i % 8 = (i - 8) % 8 by omega]
      rfl
theorem take_digs (bs : List UInt8) (p n : Nat) (h : p + n ≤ 8 * bs.length) : ((bitText bs).drop p).take n = digs (bv bs p n) n := by
  induction n with
  | zero => simp [digs]
  | succ n ih =>
    rw [bv, digs_snoc _ _ _ (by have := bitOf_le bs (p + n); omega), List.take_add_one, ih (by omega), List.getElem?_drop, bitText_get bs (p + n) (by omega)]
    rfl
theorem codeP_first (l : List (Nat × List UInt8)) (S : List UInt8) (i : Nat) (hi : i < l.length) (hm : (l.getD i (0, [])).2.length ≤ S.length ∧ S.take (l.getD i (0, [])).2.length = (l.getD i (0, [])).2)
    (hb : ∀ j, j < i → ¬ ((l.getD j (0, [])).2.length ≤ S.length ∧ S.take (l.getD j (0, [])).2.length = (l.getD j (0, [])).2)) : codeP l S = some ((l.getD i (0, [])).1, S.drop (l.getD i (0, [])).2.length) := by
  induction l generalizing i with
  | nil => simp at hi
  | cons a l ih =>
    obtain ⟨s, t⟩ := a
    cases i with
    | zero =>
      have hm' : t.length ≤ S.length ∧ S.take t.length = t := hm
      rw [codeP, if_pos hm']; rfl
    | succ i =>
      have h0 : ¬ (t.length ≤ S.length ∧ S.take t.length = t) := hb 0 (by omega)
      rw [codeP, if_neg h0]
      exact ih i (by simpa using hi) hm (fun j hj => hb (j + 1) (by omega))
theorem codeP_none (l : List (Nat × List UInt8)) (S : List UInt8)
    (hb : ∀ j, j < l.length → ¬ ((l.getD j (0, [])).2.length ≤ S.length ∧ S.take (l.getD j (0, [])).2.length = (l.getD j (0, [])).2)) : codeP l S = none := by
  induction l with
  | nil => rfl
  | cons a l ih =>
    obtain ⟨s, t⟩ := a
    have h0 : ¬ (t.length ≤ S.length ∧ S.take t.length = t) := hb 0 (by simp)
    rw [codeP, if_neg h0]
    exact ih (fun j hj => hb (j + 1) (by simpa using hj))
theorem texts_length (C : Nat → Nat) (k : Nat) : (texts C k).length = isum C k := by
  induction k with
  | zero => rfl
  | succ k ih => simp [texts, isum, ih]
theorem texts_at (C : Nat → Nat) (k j : Nat) (h : j < isum C k) : ∃ n c, 1 ≤ n ∧ n ≤ k ∧ c < C n ∧ j = isum C (n - 1) + c ∧ (texts C k)[j]? = some (digs (fst_ C n + c) n) := by
  induction k with
  | zero => simp [isum] at h
  | succ k ih =>
    by_cases hj : j < isum C k
    · obtain ⟨n, c, h1, h2, h3, h4, h5⟩ := ih hj
      exact ⟨n, c, h1, by omega, h3, h4, by rw [texts, List.getElem?_append_left (by rw [texts_length]; exact hj), h5]⟩
    · simp only [isum] at h
      refine ⟨k + 1, j - isum C k, by omega, by omega, by omega, by simp; omega, ?_⟩
      rw [texts, List.getElem?_append_right (by rw [texts_length]; omega), texts_length, List.getElem?_map, List.getElem?_range (by omega)]
      rfl
theorem texts_of (C : Nat → Nat) (k n c : Nat) (h1 : 1 ≤ n) (h2 : n ≤ k) (hc : c < C n) : (texts C k)[isum C (n - 1) + c]? = some (digs (fst_ C n + c) n) := by
  induction k with
  | zero => omega
  | succ k ih =>
    by_cases hn : n = k + 1
    · subst hn
      rw [texts, Nat.add_sub_cancel, List.getElem?_append_right (by rw [texts_length]; omega), texts_length, List.getElem?_map, Nat.add_sub_cancel_left, List.getElem?_range hc]
      rfl
    · have hlt : isum C (n - 1) + c < isum C k := by
        have h3 := isum_mono C (show n ≤ k by omega)
        obtain ⟨m, rfl⟩ : ∃ m, n = m + 1 := ⟨n - 1, by omega⟩
        simp only [isum] at h3
        rw [Nat.add_sub_cancel]
        omega
      rw [texts, List.getElem?_append_left (by rw [texts_length]; exact hlt)]
      exact ih (by omega)
def NxtPost (C : Nat → Nat) (bs : List UInt8) (p n : Nat) (r : Option (Nat × Nat)) : Prop :=
  (∃ m c, n ≤ m ∧ m ≤ 15 ∧ c < C m ∧ p + m ≤ 8 * bs.length ∧ bv bs p m = fst_ C m + c ∧ (∀ j, n ≤ j → j < m → fst_ C j + C j ≤ bv bs p j) ∧ r = some (isum C (m - 1) + c, p + m)) ∨
  (r = none ∧ ∀ m, n ≤ m → m ≤ 15 → p + m ≤ 8 * bs.length → fst_ C m + C m ≤ bv bs p m)
theorem nxt_spec (C : Nat → Nat) (bs : List UInt8) (p f n first : Nat) (hf : n + 1 + f = 16) (hfirst : first = fst_ C n + C n) (hle : first ≤ bv bs p n) (hp : p + n ≤ 8 * bs.length) :
    NxtPost C bs p (n + 1) (nxt C bs f (n + 1) (bv bs p n) first (isum C n) (p + n)) := by
  induction f generalizing n first with
  | zero => exact .inr ⟨rfl, fun m h1 h2 => by omega⟩
  | succ f ih =>
    have hF : fst_ C (n + 1) = 2 * first := by rw [hfirst]; rfl
    rw [nxt]
    by_cases h1 : 8 * bs.length ≤ p + n
    · rw [if_pos h1]
      exact .inr ⟨rfl, fun m a b c => by omega⟩
    · rw [if_neg h1]
      have hbv : 2 * bv bs p n + bitOf bs (p + n) = bv bs p (n + 1) := rfl
      rw [hbv]
      by_cases h2 : bv bs p (n + 1) < 2 * first + C (n + 1)
      · rw [if_pos h2]
        refine .inl ⟨n + 1, bv bs p (n + 1) - 2 * first, by omega, by omega, by omega, by omega, by rw [hF]; omega, fun j a b => by omega, ?_⟩
        rw [Nat.add_sub_cancel]; rfl
      · rw [if_neg h2]
        have ih2 := ih (n + 1) (2 * first + C (n + 1)) (by omega) (by rw [hF]) (by omega) (by omega)
        have e1 : isum C n + C (n + 1) = isum C (n + 1) := rfl
        rw [e1]
        have e2 : p + n + 1 = p + (n + 1) := by omega
        rw [e2]
        rcases ih2 with ⟨m, c, a1, a2, a3, a4, a5, a6, a7⟩ | ⟨a1, a2⟩
        · refine .inl ⟨m, c, by omega, a2, a3, a4, a5, fun j b1 b2 => ?_, a7⟩
          by_cases hj : j = n + 1
          · subst hj; rw [hF]; omega
          · exact a6 j (by omega) b2
        · refine .inr ⟨a1, fun m b1 b2 b3 => ?_⟩
          by_cases hm : m = n + 1
          · subst hm; rw [hF]; omega
          · exact a2 m (by omega) b2 b3
/-- the reference finds the code that press finds -/
theorem code_nxt (C : Nat → Nat) (ln : List Nat) (l : List (Nat × List UInt8)) (bs : List UInt8) (p : Nat) (h0 : C 0 = 0) (hp : p ≤ 8 * bs.length) (h1 : l.map Prod.fst = ln) (h2 : l.map Prod.snd = texts C 15)
    (hk : ∀ n, 1 ≤ n → n ≤ 15 → fst_ C n + C n ≤ 2 ^ n) :
    codeP l ((bitText bs).drop p) = (nxt C bs 15 1 0 0 0 p).map (fun a => (ln.getD a.1 0, (bitText bs).drop a.2)) ∧ ∀ i q, nxt C bs 15 1 0 0 0 p = some (i, q) → q ≤ 8 * bs.length := by
  have hlen : l.length = isum C 15 := by rw [← texts_length, ← h2, List.length_map]
  have hat : ∀ j, j < l.length → ∃ n c, 1 ≤ n ∧ n ≤ 15 ∧ c < C n ∧ j = isum C (n - 1) + c ∧ (l.getD j (0, [])).2 = digs (fst_ C n + c) n := by
    intro j hj
    obtain ⟨n, c, a1, a2, a3, a4, a5⟩ := texts_at C 15 j (by omega)
    refine ⟨n, c, a1, a2, a3, a4, ?_⟩
    rw [← h2, List.getElem?_map, List.getElem?_eq_getElem hj] at a5
    rw [List.getD_eq_getElem?_getD, List.getElem?_eq_getElem hj]
    exact Option.some.inj a5
  have hSl : ((bitText bs).drop p).length = 8 * bs.length - p := by rw [List.length_drop, bitText_length]
  have hmt : ∀ n c, 1 ≤ n → n ≤ 15 → c < C n → (((digs (fst_ C n + c) n).length ≤ ((bitText bs).drop p).length ∧ ((bitText bs).drop p).take (digs (fst_ C n + c) n).length = digs (fst_ C n + c) n) ↔ (p + n ≤ 8 * bs.length ∧ bv bs p n = fst_ C n + c)) := by
    intro n c a1 a2 a3
    have hK := hk n a1 a2
    rw [digs_length, hSl]
    constructor
    · rintro ⟨b1, b2⟩
      have b3 : p + n ≤ 8 * bs.length := by omega
      rw [take_digs bs p n b3] at b2
      exact ⟨b3, digs_inj n _ _ (bv_lt _ _ _) (by omega) b2⟩
    · rintro ⟨b1, b2⟩
      exact ⟨by omega, by rw [take_digs bs p n b1, b2]⟩
  have hs := nxt_spec C bs p 15 0 0 (by omega) (by simp [fst_, h0]) (by simp) (by omega)
  have hz : nxt C bs 15 (0 + 1) (bv bs p 0) 0 (isum C 0) (p + 0) = nxt C bs 15 1 0 0 0 p := rfl
  rw [hz] at hs
  rcases hs with ⟨m, c, a1, a2, a3, a4, a5, a6, a7⟩ | ⟨a1, a2⟩
  · rw [a7]
    refine ⟨?_, fun i q h => by injection h with h; injection h with _ h; omega⟩
    have htx := texts_of C 15 m c a1 a2 a3
    have hi : isum C (m - 1) + c < l.length := by
      obtain ⟨hlt, _⟩ := List.getElem?_eq_some_iff.1 htx
      rw [texts_length] at hlt
      omega
    have ht : (l.getD (isum C (m - 1) + c) (0, [])).2 = digs (fst_ C m + c) m := by
      rw [← h2, List.getElem?_map, List.getElem?_eq_getElem hi] at htx
      rw [List.getD_eq_getElem?_getD, List.getElem?_eq_getElem hi]
      exact Option.some.inj htx
    rw [codeP_first l _ (isum C (m - 1) + c) hi]
    · rw [ht, digs_length, List.drop_drop]
      simp only [Option.map_some]
      congr 2
      rw [← h1, List.getD_eq_getElem?_getD, List.getD_eq_getElem?_getD, List.getElem?_map, List.getElem?_eq_getElem hi]
      rfl
    · rw [ht]
      exact (hmt m c a1 a2 a3).2 ⟨a4, a5⟩
    · intro j hj
      obtain ⟨n, d, b1, b2, b3, b4, b5⟩ := hat j (by omega)
      rw [b5]
      intro hm
      obtain ⟨c1, c2⟩ := (hmt n d b1 b2 b3).1 hm
      rcases Nat.lt_trichotomy n m with h | h | h
      · have := a6 n b1 h; omega
      · subst h; omega
      · have h3 := isum_mono C (show m ≤ n - 1 by omega)
        obtain ⟨m', rfl⟩ : ∃ m', m = m' + 1 := ⟨m - 1, by omega⟩
        simp only [isum, Nat.add_sub_cancel] at h3 hj
        omega
  · rw [a1]
    refine ⟨?_, fun i q h => by cases h⟩
    apply codeP_none
    intro j hj
    obtain ⟨n, d, b1, b2, b3, b4, b5⟩ := hat j hj
    rw [b5]
    intro hm
    obtain ⟨c1, c2⟩ := (hmt n d b1 b2 b3).1 hm
    have := a2 n b1 b2 c1
    omega
theorem valGo_bv (bs : List UInt8) (p n : Nat) (h : p + n ≤ 8 * bs.length) : valGo ((bitText bs).drop p) n = bv bs p n := by
  induction n with
  | zero => rfl
  | succ n ih =>
    rw [valGo, bv, ih (by omega), List.getD_eq_getElem?_getD, List.getElem?_drop, bitText_get bs (p + n) (by omega)]
    have := bitOf_le bs (p + n)
    have e : (UInt8.ofNat (48 + bitOf bs (p + n))).toNat = 48 + bitOf bs (p + n) := by simp; omega
    simp only [Option.getD_some, e]
    omega
theorem nbits_bv (bs : List UInt8) (n v p : Nat) (hp : p ≤ 8 * bs.length) : nbits bs n v p = if 8 * bs.length < p + n then none else some (v * 2 ^ n + bv bs p n, p + n) := by
  have gen : ∀ m k v, p + k ≤ 8 * bs.length → nbits bs m v (p + k) = (if 8 * bs.length < p + k + m then none else some (v * 2 ^ m + (bv bs p (k + m) - bv bs p k * 2 ^ m), p + (k + m))) ∧ bv bs p k * 2 ^ m ≤ bv bs p (k + m) := by
    intro m
    induction m with
    | zero => intro k v h; exact ⟨by rw [if_neg (by omega)]; simp [nbits], by simp⟩
    | succ m ih =>
      intro k v h
      have hpow : 2 ^ (m + 1) = 2 * 2 ^ m := by rw [Nat.pow_succ, Nat.mul_comm]
      have e0 : k + (m + 1) = (k + 1) + m := by omega
      have hb : bv bs p (k + 1) = 2 * bv bs p k + bitOf bs (p + k) := rfl
      have hle : bv bs p k * 2 ^ (m + 1) ≤ bv bs p (k + 1) * 2 ^ m := by
        rw [hpow, hb, ← Nat.mul_assoc, Nat.mul_comm (bv bs p k) 2]
        exact Nat.mul_le_mul_right _ (by omega)
      rw [nbits]
      by_cases h1 : 8 * bs.length ≤ p + k
      · rw [if_pos h1, if_pos (by omega)]
        refine ⟨rfl, ?_⟩
        have gen2 : ∀ m k, bv bs p k * 2 ^ m ≤ bv bs p (k + m) := by
          intro m
          induction m with
          | zero => intro k; simp
          | succ m ih2 =>
            intro k
            have e1 : bv bs p (k + (m + 1)) = 2 * bv bs p (k + m) + bitOf bs (p + (k + m)) := rfl
            rw [e1, Nat.pow_succ, ← Nat.mul_assoc]
            have := ih2 k
            omega
        exact gen2 (m + 1) k
      · rw [if_neg h1]
        obtain ⟨i1, i2⟩ := ih (k + 1) (2 * v + bitOf bs (p + k)) (by omega)
        have e2 : p + k + 1 = p + (k + 1) := by omega
        rw [e2, i1, e0]
        refine ⟨?_, Nat.le_trans hle i2⟩
        by_cases h2 : 8 * bs.length < p + (k + 1) + m
        · rw [if_pos h2, if_pos (by omega)]
        · rw [if_neg h2, if_neg (by omega)]
          congr 2
          have e3 : (2 * v + bitOf bs (p + k)) * 2 ^ m = v * 2 ^ (m + 1) + bitOf bs (p + k) * 2 ^ m := by rw [hpow, Nat.add_mul, Nat.mul_comm 2 v, Nat.mul_assoc]
          have e4 : bv bs p (k + 1) * 2 ^ m = bv bs p k * 2 ^ (m + 1) + bitOf bs (p + k) * 2 ^ m := by rw [hb, hpow, Nat.add_mul, Nat.mul_comm 2 (bv bs p k), Nat.mul_assoc]
          omega
  have := (gen n 0 v (by omega)).1
  simpa [bv] using this
theorem extra_ref (bs : List UInt8) (a b c k p : Nat) (hp : p ≤ 8 * bs.length) :
    refExtra ((bitText bs).drop p) a b c k = (extra bs a b c k p).map (fun x => (x.1, (bitText bs).drop x.2)) ∧ ∀ x q, extra bs a b c k p = some (x, q) → q ≤ 8 * bs.length := by
  unfold refExtra extra
  by_cases hk : k < a
  · rw [if_pos hk, if_pos hk]
    exact ⟨rfl, fun x q h => by injection h with h; injection h with _ h; omega⟩
  · rw [if_neg hk, if_neg hk, nbits_bv bs _ 0 p hp, valueP, List.length_drop, bitText_length]
    by_cases h1 : 8 * bs.length < p + (k - b)
    · rw [if_pos h1, if_pos (by omega)]
      exact ⟨rfl, fun x q h => by cases h⟩
    · rw [if_neg h1, if_neg (by omega), valGo_bv bs p _ (by omega)]
      refine ⟨by simp [List.drop_drop], fun x q h => ?_⟩
      injection h with h; injection h with _ h; simp at h; omega
structure Twin (st : BS) (l : List (Nat × List UInt8)) : Prop where
  zero : st.C 0 = 0
  fst : l.map Prod.fst = st.ln
  snd : l.map Prod.snd = texts st.C 15
  kraft : ∀ n, 1 ≤ n → n ≤ 15 → fst_ st.C n + st.C n ≤ 2 ^ n
theorem Twin.code {st : BS} {l : List (Nat × List UInt8)} (h : Twin st l) (bs : List UInt8) (p : Nat) (hp : p ≤ 8 * bs.length) :
    codeP l ((bitText bs).drop p) = (nxt st.C bs 15 1 0 0 0 p).map (fun a => (st.ln.getD a.1 0, (bitText bs).drop a.2)) ∧ ∀ i q, nxt st.C bs 15 1 0 0 0 p = some (i, q) → q ≤ 8 * bs.length :=
  code_nxt st.C st.ln l bs p h.zero hp h.fst h.snd h.kraft
theorem copied_ref {D : BS} {d : List (Nat × List UInt8)} (h : Twin D d) (bs : List UInt8) (n k p : Nat) (out : List UInt8) (hp : p ≤ 8 * bs.length) :
    ((refCopied d k ((bitText bs).drop p)).bind fun b => if out.length < b.2.1 ∨ n - out.length < b.1 then none else some (copyOut b.1 b.2.1 out, b.2.2)) = (copiedP D.C D.ln bs n k out p).map (fun x => (x.1, (bitText bs).drop x.2)) ∧
      ∀ o q, copiedP D.C D.ln bs n k out p = some (o, q) → q ≤ 8 * bs.length := by
  unfold refCopied copiedP
  obtain ⟨e1, e2⟩ := extra_ref bs 8 5 3 k p hp
  rw [e1]
  cases hx : extra bs 8 5 3 k p with
  | none => exact ⟨rfl, fun o q h => by cases h⟩
  | some a =>
    have hq := e2 a.1 a.2 hx
    simp only [Option.map_some, Option.bind_some]
    obtain ⟨c1, c2⟩ := h.code bs a.2 hq
    by_cases hl : D.ln.length = 0
    · have hd : d = [] := by
        have := congrArg List.length h.fst
        rw [List.length_map, hl] at this
        exact List.eq_nil_of_length_eq_zero this
      rw [if_pos hl, hd]
      exact ⟨rfl, fun o q h => by cases h⟩
    · rw [if_neg hl, c1]
      cases hn : nxt D.C bs 15 1 0 0 0 a.2 with
      | none => exact ⟨rfl, fun o q h => by cases h⟩
      | some w =>
        have hq2 := c2 w.1 w.2 hn
        simp only [Option.map_some, Option.bind_some]
        obtain ⟨f1, f2⟩ := extra_ref bs 4 2 1 (D.ln.getD w.1 0) w.2 hq2
        rw [f1]
        cases hy : extra bs 4 2 1 (D.ln.getD w.1 0) w.2 with
        | none => exact ⟨rfl, fun o q h => by cases h⟩
        | some c =>
          have hq3 := f2 c.1 c.2 hy
          simp only [Option.map_some, Option.bind_some]
          by_cases hc : out.length < c.1 ∨ n - out.length < a.1
          · rw [if_pos hc, if_pos hc]
            exact ⟨rfl, fun o q h => by cases h⟩
          · rw [if_neg hc, if_neg hc]
            exact ⟨rfl, fun o q h => by injection h with h; injection h with _ h; omega⟩
theorem dec_ref {S D : BS} {s d : List (Nat × List UInt8)} (hS : Twin S s) (hD : Twin D d) (bs : List UInt8) (n f : Nat) : ∀ (out : List UInt8) (p : Nat), p ≤ 8 * bs.length →
    refDec s d n f out ((bitText bs).drop p) = (decP S D bs n f out p).map (fun x => (x.1, (bitText bs).drop x.2)) ∧ ∀ o q, decP S D bs n f out p = some (o, q) → q ≤ 8 * bs.length := by
  induction f with
  | zero => intro out p hp; exact ⟨rfl, fun o q h => by cases h⟩
  | succ f ih =>
    intro out p hp
    rw [refDec, decP]
    by_cases hn : n ≤ out.length
    · rw [if_pos hn, if_pos hn]
      exact ⟨rfl, fun o q h => by injection h with h; injection h with _ h; omega⟩
    · rw [if_neg hn, if_neg hn]
      obtain ⟨c1, c2⟩ := hS.code bs p hp
      rw [c1]
      cases hx : nxt S.C bs 15 1 0 0 0 p with
      | none => exact ⟨rfl, fun o q h => by cases h⟩
      | some a =>
        have hq := c2 a.1 a.2 hx
        simp only [Option.map_some, Option.bind_some]
        by_cases hy : S.ln.getD a.1 0 < 256
        · rw [if_pos hy, if_pos hy]
          exact ih _ _ hq
        · rw [if_neg hy, if_neg hy]
          obtain ⟨g1, g2⟩ := copied_ref hD bs n (S.ln.getD a.1 0 - 256) a.2 out hq
          cases hc : copiedP D.C D.ln bs n (S.ln.getD a.1 0 - 256) out a.2 with
          | none =>
            rw [hc] at g1
            refine ⟨?_, fun o q h => by cases h⟩
            cases hr : refCopied d (S.ln.getD a.1 0 - 256) ((bitText bs).drop a.2) with
            | none => rfl
            | some b =>
              rw [hr] at g1
              simp only [Option.bind_some] at g1 ⊢
              split at g1
              · rename_i h; rw [if_pos h]; rfl
              · cases g1
          | some b =>
            rw [hc] at g1
            have hq2 := g2 b.1 b.2 hc
            obtain ⟨i1, i2⟩ := ih b.1 b.2 hq2
            refine ⟨?_, fun o q h => i2 o q h⟩
            rw [Option.bind_some, ← i1]
            cases hr : refCopied d (S.ln.getD a.1 0 - 256) ((bitText bs).drop a.2) with
            | none => rw [hr] at g1; cases g1
            | some z =>
              rw [hr] at g1
              simp only [Option.bind_some] at g1 ⊢
              by_cases h : out.length < z.2.1 ∨ n - out.length < z.1
              · rw [if_pos h] at g1; cases g1
              · rw [if_neg h] at g1
                have g2' := Option.some.inj (by simpa only [Option.map_some] using g1)
                have g3 := congrArg Prod.fst g2'
                have g4 := congrArg Prod.snd g2'
                simp only at g3 g4
                rw [← g3, ← g4]
                exact if_neg h
end Go.Proofs.YtejgoienkpaabaaDoor
