/- Plain: the reference's decoding answers as press's. -/
import Derived.Test.YtejgoienkpaabaaDoorRefP
import Derived.Test.YtejgoienkpaabaaDoorUnpP
namespace Go.Proofs.YtejgoienkpaabaaDoor
/-! ### may the row be? -/
def tot (p : Nat → Nat) (row : List Nat) : Nat → Nat
  | 0 => 0
  | s + 1 => tot p row s + p (row.getD s 0)
theorem tot_congr {p q : Nat → Nat} {row : List Nat} (h : ∀ s, p (row.getD s 0) = q (row.getD s 0)) (s : Nat) : tot p row s = tot q row s := by
  induction s with
  | zero => rfl
  | succ s ih => simp only [tot, ih, h]
theorem tot_add (p q : Nat → Nat) (row : List Nat) (s : Nat) : tot (fun l => p l + q l) row s = tot p row s + tot q row s := by
  induction s with
  | zero => rfl
  | succ s ih => simp only [tot, ih]; omega
theorem bIn_tot (row : List Nat) (n s : Nat) (st : BS) :
    (bIn row n s st).sum = st.sum + tot (fun l => if l = n then 2 ^ (15 - l) else 0) row s ∧ (bIn row n s st).ln.length = st.ln.length + tot (fun l => if l = n then 1 else 0) row s ∧
    ∀ j, (bIn row n s st).C j = st.C j + if j = n then tot (fun l => if l = n then 1 else 0) row s else 0 := by
  induction s with
  | zero => simp [bIn, tot]
  | succ s ih =>
    obtain ⟨h1, h2, h3⟩ := ih
    simp only [bIn, bStep, tot]
    split
    · rename_i h
      refine ⟨by simp only [h1, h]; omega, by simp [h2]; omega, fun j => ?_⟩
      simp only
      split
      · rename_i hj; subst hj; rw [h3]; simp; omega
      · rename_i hj; rw [h3]; simp [hj]
    · exact ⟨by omega, by omega, fun j => by rw [h3]; rfl⟩
theorem bOut_tot (row : List Nat) (k : Nat) :
    (bOut row k).sum = tot (fun l => if 1 ≤ l ∧ l ≤ k then 2 ^ (15 - l) else 0) row row.length ∧ (bOut row k).ln.length = tot (fun l => if 1 ≤ l ∧ l ≤ k then 1 else 0) row row.length ∧
    ∀ j, (bOut row k).C j = if 1 ≤ j ∧ j ≤ k then tot (fun l => if l = j then 1 else 0) row row.length else 0 := by
  induction k with
  | zero =>
    have h0 : ∀ (f : Nat → Nat) s, tot (fun l => if 1 ≤ l ∧ l ≤ 0 then f l else 0) row s = 0 := by
      intro f s
      induction s with
      | zero => rfl
      | succ s ih => simp only [tot, ih]; rw [if_neg (by omega)]
    exact ⟨(h0 (fun l => 2 ^ (15 - l)) _).symm, (h0 (fun _ => 1) _).symm, fun j => by rw [if_neg (by omega)]; rfl⟩
  | succ k ih =>
    obtain ⟨h1, h2, h3⟩ := ih
    obtain ⟨a1, a2, a3⟩ := bIn_tot row (k + 1) row.length (bOut row k)
    have hs : ∀ (f : Nat → Nat), tot (fun l => if 1 ≤ l ∧ l ≤ k then f l else 0) row row.length + tot (fun l => if l = k + 1 then f l else 0) row row.length = tot (fun l => if 1 ≤ l ∧ l ≤ k + 1 then f l else 0) row row.length := by
      intro f
      rw [← tot_add]
      apply tot_congr
      intro s
      generalize row.getD s 0 = l
      by_cases h : l = k + 1
      · rw [if_neg (by omega), if_pos h, if_pos (by omega), Nat.zero_add]
      · by_cases h' : 1 ≤ l ∧ l ≤ k
        · rw [if_pos h', if_neg h, if_pos (by omega), Nat.add_zero]
        · rw [if_neg h', if_neg h, if_neg (by omega)]
    refine ⟨?_, ?_, fun j => ?_⟩
    · show (bIn row (k + 1) row.length (bOut row k)).sum = _
      rw [a1, h1, ← hs]
    · show (bIn row (k + 1) row.length (bOut row k)).ln.length = _
      rw [a2, h2, ← hs]
    · show (bIn row (k + 1) row.length (bOut row k)).C j = _
      rw [a3, h3]
      by_cases h : j = k + 1
      · rw [if_neg (by omega), if_pos h, if_pos (by omega), Nat.zero_add, h]
      · rw [if_neg h, Nat.add_zero]
        by_cases h' : 1 ≤ j ∧ j ≤ k
        · rw [if_pos h', if_pos (by omega)]
        · rw [if_neg h', if_neg (by omega)]
theorem wGo_tot (row : List Nat) (s : Nat) : (wGo row s).sum = tot (fun l => if 1 ≤ l then 2 ^ (15 - l) else 0) row s ∧ (wGo row s).used = tot (fun l => if 1 ≤ l then 1 else 0) row s ∧ (wGo row s).ones = tot (fun l => if l = 1 then 1 else 0) row s := by
  induction s with
  | zero => exact ⟨rfl, rfl, rfl⟩
  | succ s ih =>
    obtain ⟨h1, h2, h3⟩ := ih
    simp only [wGo, wStep, tot]
    generalize row.getD s 0 = l
    split
    · rename_i h
      rw [if_neg (by omega), if_neg (by omega), if_neg (by omega)]
      exact ⟨h1, h2, h3⟩
    · rename_i h
      have h' : 1 ≤ l := by omega
      simp only [if_pos h']
      refine ⟨by rw [h1], by rw [h2], ?_⟩
      by_cases hl : l = 1
      · simp only [if_pos hl]; rw [h3]
      · simp only [if_neg hl]; rw [h3]; rfl
theorem wOk_bOk (row : List Nat) (nn : Bool) (h : ∀ s, row.getD s 0 ≤ 15) : wOk row nn = bOk row nn := by
  obtain ⟨a1, a2, a3⟩ := wGo_tot row row.length
  obtain ⟨b1, b2, b3⟩ := bOut_tot row 15
  have e : ∀ f : Nat → Nat, tot (fun l => if 1 ≤ l then f l else 0) row row.length = tot (fun l => if 1 ≤ l ∧ l ≤ 15 then f l else 0) row row.length := by
    intro f
    apply tot_congr
    intro s
    have := h s
    generalize row.getD s 0 = l at *
    by_cases h1 : 1 ≤ l
    · rw [if_pos h1, if_pos ⟨h1, this⟩]
    · rw [if_neg h1, if_neg (by omega)]
  rw [e] at a1
  rw [e (fun _ => 1)] at a2
  have b4 := b3 1
  rw [if_pos (by omega)] at b4
  simp only [wOk, bOk]
  rw [a1, a2, a3, ← b1, ← b2, ← b4]
/-! ### the codes -/
def fst_ (C : Nat → Nat) : Nat → Nat
  | 0 => 0
  | n + 1 => 2 * (fst_ C n + C n)
def texts (C : Nat → Nat) : Nat → List (List UInt8)
  | 0 => []
  | k + 1 => texts C k ++ (List.range (C (k + 1))).map fun i => digs (fst_ C (k + 1) + i) (k + 1)
theorem bOut_C (row : List Nat) (k m : Nat) (h : k ≤ m) (j : Nat) (hj : j ≤ k) : (bOut row m).C j = (bOut row k).C j := by
  rw [(bOut_tot row m).2.2, (bOut_tot row k).2.2]
  by_cases h1 : 1 ≤ j
  · rw [if_pos (by omega), if_pos (by omega)]
  · rw [if_neg (by omega), if_neg (by omega)]
def InvO (D : Nat → Nat) (row : List Nat) (k : Nat) : Prop :=
  (cOut row k).l.map Prod.fst = (bOut row k).ln ∧ (cOut row k).l.map Prod.snd = texts D k ∧
  (((cOut row k).l = [] ∧ (cOut row k).v = 0 ∧ fst_ D (k + 1) = 0) ∨ ((cOut row k).l ≠ [] ∧ (cOut row k).last ≤ k ∧ ((cOut row k).v + 1) * 2 ^ (k + 1 - (cOut row k).last) = fst_ D (k + 1)))
def InvI (D : Nat → Nat) (row : List Nat) (k s : Nat) : Prop :=
  (cIn row (k + 1) s (cOut row k)).l.map Prod.fst = (bIn row (k + 1) s (bOut row k)).ln ∧
  (cIn row (k + 1) s (cOut row k)).l.map Prod.snd = texts D k ++ (List.range ((bIn row (k + 1) s (bOut row k)).C (k + 1))).map (fun i => digs (fst_ D (k + 1) + i) (k + 1)) ∧
  (((bIn row (k + 1) s (bOut row k)).C (k + 1) = 0 ∧ cIn row (k + 1) s (cOut row k) = cOut row k) ∨
    (0 < (bIn row (k + 1) s (bOut row k)).C (k + 1) ∧ (cIn row (k + 1) s (cOut row k)).l ≠ [] ∧ (cIn row (k + 1) s (cOut row k)).last = k + 1 ∧ (cIn row (k + 1) s (cOut row k)).v + 1 = fst_ D (k + 1) + (bIn row (k + 1) s (bOut row k)).C (k + 1)))
theorem invI_of (D : Nat → Nat) (row : List Nat) (k : Nat) (h : InvO D row k) (s : Nat) : InvI D row k s := by
  induction s with
  | zero =>
    have h0 : (bOut row k).C (k + 1) = 0 := by rw [(bOut_tot row k).2.2, if_neg (by omega)]
    exact ⟨h.1, by show (cOut row k).l.map Prod.snd = texts D k ++ (List.range ((bOut row k).C (k + 1))).map _; rw [h0]; simpa using h.2.1, .inl ⟨h0, rfl⟩⟩
  | succ s ih =>
    obtain ⟨i1, i2, i3⟩ := ih
    have hcv : cVal (k + 1) (cIn row (k + 1) s (cOut row k)) = fst_ D (k + 1) + (bIn row (k + 1) s (bOut row k)).C (k + 1) := by
      rcases i3 with ⟨e1, e2⟩ | ⟨e1, e2, e3, e4⟩
      · rw [e2, e1, cVal]
        rcases h.2.2 with ⟨f1, f2, f3⟩ | ⟨f1, f2, f3⟩
        · rw [if_pos f1, f2, f3]
        · rw [if_neg f1, f3]; rfl
      · rw [cVal, if_neg e2, e3, Nat.sub_self, Nat.pow_zero, Nat.mul_one, e4]
    unfold InvI
    simp only [cIn, bIn, cStep, bStep]
    by_cases hr : row.getD s 0 = k + 1
    · simp only [if_pos hr]
      refine ⟨by simp [i1], ?_, .inr ⟨by simp, by simp, trivial, ?_⟩⟩
      · simp only [List.map_append, List.map_cons, List.map_nil, i2, hcv, if_pos, List.range_succ, List.append_assoc]
      · rw [hcv]; simp; omega
    · simp only [if_neg hr]
      exact ⟨i1, i2, i3⟩
theorem invO_all (D : Nat → Nat) (row : List Nat) (k : Nat) (hD : ∀ j, j ≤ k → D j = (bOut row k).C j) : InvO D row k := by
  induction k with
  | zero => exact ⟨rfl, rfl, .inl ⟨rfl, rfl, by simp only [fst_]; rw [hD 0 (Nat.le_refl _)]; rfl⟩⟩
  | succ k ih =>
    have hO := ih (fun j hj => by rw [hD j (by omega), bOut_C row k (k + 1) (by omega) j hj])
    obtain ⟨i1, i2, i3⟩ := invI_of D row k hO row.length
    have hd := hD (k + 1) (Nat.le_refl _)
    have hd' : (bIn row (k + 1) row.length (bOut row k)).C (k + 1) = D (k + 1) := hd.symm
    rw [hd'] at i2 i3
    have hf : fst_ D (k + 1 + 1) = 2 * (fst_ D (k + 1) + D (k + 1)) := rfl
    refine ⟨i1, i2, ?_⟩
    show ((cIn row (k + 1) row.length (cOut row k)).l = [] ∧ _) ∨ ((cIn row (k + 1) row.length (cOut row k)).l ≠ [] ∧ (cIn row (k + 1) row.length (cOut row k)).last ≤ k + 1 ∧ ((cIn row (k + 1) row.length (cOut row k)).v + 1) * 2 ^ (k + 1 + 1 - (cIn row (k + 1) row.length (cOut row k)).last) = _)
    rcases i3 with ⟨e1, e2⟩ | ⟨e1, e2, e3, e4⟩
    · rw [e2, hf, e1]
      rcases hO.2.2 with ⟨f1, f2, f3⟩ | ⟨f1, f2, f3⟩
      · exact .inl ⟨f1, by show (cIn row (k + 1) row.length (cOut row k)).v = 0; rw [e2]; exact f2, by rw [f3]⟩
      · refine .inr ⟨f1, by omega, ?_⟩
        rw [show k + 1 + 1 - (cOut row k).last = (k + 1 - (cOut row k).last) + 1 by omega, Nat.pow_succ, ← Nat.mul_assoc, f3]
        omega
    · refine .inr ⟨e2, by omega, ?_⟩
      rw [e3, hf, e4, show k + 1 + 1 - (k + 1) = 1 by omega]
      omega
end Go.Proofs.YtejgoienkpaabaaDoor
