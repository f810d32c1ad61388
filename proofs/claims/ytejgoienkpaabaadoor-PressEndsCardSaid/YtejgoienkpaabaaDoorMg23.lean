/- HufB, HufC, TreeA (merged: one text behind the other). -/
import Derived.Test.YtejgoienkpaabaaDoorMg22
import Derived.Deep.RegionHeld3
/- Plain: trees over like weights are no deeper than nine; what measure writes. -/
namespace Go.Proofs.YtejgoienkpaabaaDoor
/-- how high a tree is -/
def HT.high : HT → Nat
  | .leaf _ _ => 0
  | .node _ l r => max l.high r.high + 1
theorem deep_high (t : HT) : ∀ at_, t.deep at_ = at_ + t.high := by
  induction t with
  | leaf w s => intro at_; rfl
  | node w l r il ir => intro at_; rw [HT.deep, il, ir, HT.high]; omega
/-- from the front -/
def qGo : Nat → List Nat → List Nat
  | 0, q => q
  | f + 1, x :: y :: q => qGo f (q ++ [max x y + 1])
  | _ + 1, q => q
theorem pow_sub (h : Nat) (hh : h < 9) : 2 ^ (9 - h) = 2 * 2 ^ (9 - (h + 1)) := by
  rw [show 9 - h = (9 - (h + 1)) + 1 by omega, Nat.pow_succ]; omega
/-- rows of the form 'a of height h, then b of height h + 1' stay so -/
theorem qGo_high (f : Nat) : ∀ h a b, h ≤ 9 → 1 ≤ a → a + 2 * b ≤ 2 ^ (9 - h) → a + b ≤ f + 1 → ∀ x ∈ qGo f (List.replicate a h ++ List.replicate b (h + 1)), a + b = 1 ∨ True → x ≤ 9 ∨ ¬ (qGo f (List.replicate a h ++ List.replicate b (h + 1))).length = 1 := by
  induction f with
  | zero =>
    intro h a b hh ha hp hf x hx _
    have : a = 1 ∧ b = 0 := by omega
    obtain ⟨rfl, rfl⟩ := this
    simp [qGo] at hx
    exact .inl (by omega)
  | succ f ih =>
    intro h a b hh ha hp hf x hx _
    match a, ha with
    | 1, _ =>
      match b with
      | 0 =>
        have e : qGo (f + 1) (List.replicate 1 h ++ List.replicate 0 (h + 1)) = [h] := rfl
        rw [e] at hx
        simp at hx
        exact .inl (by omega)
      | b + 1 =>
        have h9 : h < 9 := by
          rcases Nat.lt_or_ge h 9 with h1 | h1
          · exact h1
          · have : 9 - h = 0 := by omega
            rw [this, Nat.pow_zero] at hp; omega
        have hpw := pow_sub h h9
        have e : qGo (f + 1) (List.replicate 1 h ++ List.replicate (b + 1) (h + 1)) = qGo f (List.replicate b (h + 1) ++ [max h (h + 1) + 1]) := rfl
        have e2 : max h (h + 1) + 1 = h + 1 + 1 := by omega
        rw [e, e2] at hx ⊢
        match b with
        | 0 =>
          have h8 : h + 1 < 9 := by
            rcases Nat.lt_or_ge (h + 1) 9 with h1 | h1
            · exact h1
            · have : 9 - (h + 1) = 0 := by omega
              rw [hpw, this, Nat.pow_zero] at hp; omega
          have hpw2 := pow_sub (h + 1) h8
          have := ih (h + 1 + 1) 1 0 (by omega) (by omega) (by have := Nat.one_le_two_pow (n := 9 - (h + 1 + 1)); omega) (by omega)
          exact this x hx (.inr trivial)
        | b + 1 =>
          exact ih (h + 1) (b + 1) 1 (by omega) (by omega) (by omega) (by omega) x hx (.inr trivial)
    | a + 2, _ =>
      have h9 : h < 9 := by
        rcases Nat.lt_or_ge h 9 with h1 | h1
        · exact h1
        · have : 9 - h = 0 := by omega
          rw [this, Nat.pow_zero] at hp; omega
      have hpw := pow_sub h h9
      have e : qGo (f + 1) (List.replicate (a + 2) h ++ List.replicate b (h + 1)) = qGo f (List.replicate a h ++ List.replicate (b + 1) (h + 1)) := by
        have e1 : List.replicate (a + 2) h ++ List.replicate b (h + 1) = h :: h :: (List.replicate a h ++ List.replicate b (h + 1)) := rfl
        rw [e1, qGo, Nat.max_self, List.append_assoc, ← List.replicate_succ']
      rw [e] at hx ⊢
      match a with
      | 0 =>
        have e3 : List.replicate 0 h ++ List.replicate (b + 1) (h + 1) = List.replicate (b + 1) (h + 1) ++ List.replicate 0 (h + 1 + 1) := by simp
        rw [e3] at hx ⊢
        exact ih (h + 1) (b + 1) 0 (by omega) (by omega) (by omega) (by omega) x hx (.inr trivial)
      | a + 1 =>
        exact ih h (a + 1) (b + 1) hh (by omega) (by omega) (by omega) x hx (.inr trivial)
/-- over weights of one the queue is taken from its front -/
theorem mergeQ_q (f : Nat) : ∀ l made : List HT, (∀ t ∈ l, t.w = 1) → (∀ t ∈ made, 1 ≤ t.w) → l = [] ∨ True →
    l.length + made.length ≤ f + 1 → 1 < l.length + made.length ∨ l = [] → (mergeQ f l made).map HT.high = qGo f ((l ++ made).map HT.high) := by
  induction f with
  | zero =>
    intro l made _ _ _ h1 h2
    rcases h2 with h2 | rfl
    · omega
    · rfl
  | succ f ih =>
    intro l made hl hm _ h1 h2
    rw [mergeQ]
    by_cases h : 1 < l.length + made.length
    · rw [if_pos h]
      match l, made, h with
      | a :: b :: l, made, h =>
        have ha := hl a (by simp)
        have hb := hl b (by simp)
        have e1 : least (a :: b :: l) made = (a, b :: l, made) := by
          unfold least isLeaf
          cases made with
          | nil => rfl
          | cons m made =>
            have := hm m (by simp)
            simp [ha, this]
        have e2 : least (b :: l) made = (b, l, made) := by
          unfold least isLeaf
          cases made with
          | nil => rfl
          | cons m made =>
            have := hm m (by simp)
            simp [hb, this]
        rw [e1]
        simp only [e2]
        rw [ih l (made ++ [HT.node (a.w + b.w) a b]) (fun t ht => hl t (by simp [ht])) (fun t ht => by
          simp only [List.mem_append, List.mem_singleton] at ht
          rcases ht with ht | rfl
          · exact hm t ht
          · show 1 ≤ a.w + b.w; omega) (.inr trivial) (by simp at h1 ⊢; omega) (by
          cases l with
          | nil => exact .inr rfl
          | cons c l => exact .inl (by simp; omega))]
        simp [qGo, HT.high, List.append_assoc]
      | [a], m :: made, h =>
        have ha := hl a (by simp)
        have hm1 := hm m (by simp)
        have e1 : least [a] (m :: made) = (a, [], m :: made) := by simp [least, isLeaf, ha, hm1]
        have e2 : least [] (m :: made) = (m, [], made) := by simp [least, isLeaf]
        rw [e1]
        simp only [e2]
        rw [ih [] (made ++ [HT.node (a.w + m.w) a m]) (fun t ht => by cases ht) (fun t ht => by
          simp only [List.mem_append, List.mem_singleton] at ht
          rcases ht with ht | rfl
          · exact hm t (by simp [ht])
          · show 1 ≤ a.w + m.w; omega) (.inr trivial) (by simp at h1 ⊢; omega) (.inr rfl)]
        simp [qGo, HT.high]
      | [], m :: n :: made, h =>
        have e1 : least [] (m :: n :: made) = (m, [], n :: made) := by simp [least, isLeaf]
        have e2 : least [] (n :: made) = (n, [], made) := by simp [least, isLeaf]
        have hm1 := hm m (by simp)
        rw [e1]
        simp only [e2]
        rw [ih [] (made ++ [HT.node (m.w + n.w) m n]) (fun t ht => by cases ht) (fun t ht => by
          simp only [List.mem_append, List.mem_singleton] at ht
          rcases ht with ht | rfl
          · exact hm t (by simp [ht])
          · show 1 ≤ m.w + n.w; omega) (.inr trivial) (by simp at h1 ⊢; omega) (.inr rfl)]
        simp [qGo, HT.high]
      | [], [m], h => simp at h
      | [], [], h => simp at h
      | [a], [], h => simp at h
    · rw [if_neg h]
      rcases h2 with h2 | rfl
      · omega
      · match made, h with
        | [], _ => rfl
        | [m], _ => rfl
        | m :: n :: made, h => simp at h
/-- the leaves of the used ones, from the first -/
def lvs (used : List Nat) : Nat → List HT
  | 0 => []
  | s + 1 => lvs used s ++ if 0 < used.getD s 0 then [.leaf (used.getD s 0) s] else []
theorem lvs_len (used : List Nat) (s : Nat) : (lvs used s).length ≤ s := by
  induction s with
  | zero => exact Nat.le_refl _
  | succ s ih => rw [lvs]; split <;> simp <;> omega
theorem lvs_mem (used : List Nat) (s : Nat) : ∀ t ∈ lvs used s, ∃ i, i < s ∧ 0 < used.getD i 0 ∧ t = .leaf (used.getD i 0) i := by
  induction s with
  | zero => intro t h; cases h
  | succ s ih =>
    intro t h
    rw [lvs] at h
    simp only [List.mem_append] at h
    rcases h with h | h
    · obtain ⟨i, a, b, c⟩ := ih t h
      exact ⟨i, by omega, b, c⟩
    · split at h
      · rename_i hp
        simp only [List.mem_singleton] at h
        exact ⟨s, by omega, hp, h⟩
      · cases h
theorem lvs_syms (used : List Nat) (s : Nat) : (symsL (lvs used s)).Nodup ∧ ∀ i, i ∈ symsL (lvs used s) ↔ i < s ∧ 0 < used.getD i 0 := by
  induction s with
  | zero => exact ⟨by simp [lvs, symsL], fun i => by simp [lvs, symsL]⟩
  | succ s ih =>
    obtain ⟨h1, h2⟩ := ih
    rw [lvs, symsL_append]
    by_cases hp : 0 < used.getD s 0
    · rw [if_pos hp]
      have e : symsL [HT.leaf (used.getD s 0) s] = [s] := rfl
      rw [e]
      refine ⟨List.nodup_append.2 ⟨h1, by simp, fun a ha b hb => ?_⟩, fun i => ?_⟩
      · simp only [List.mem_singleton] at hb
        subst hb
        have := ((h2 a).1 ha).1
        omega
      · simp only [List.mem_append, List.mem_singleton, h2]
        constructor
        · rintro (⟨a, b⟩ | rfl)
          · exact ⟨by omega, b⟩
          · exact ⟨by omega, hp⟩
        · rintro ⟨a, b⟩
          by_cases hi : i = s
          · exact .inr hi
          · exact .inl ⟨by omega, b⟩
    · rw [if_neg hp]
      have e : symsL [] = [] := rfl
      rw [e, List.append_nil]
      refine ⟨h1, fun i => ?_⟩
      rw [h2]
      constructor
      · rintro ⟨a, b⟩; exact ⟨by omega, b⟩
      · rintro ⟨a, b⟩
        refine ⟨?_, b⟩
        rcases Nat.lt_or_ge i s with h | h
        · exact h
        · obtain rfl : i = s := by omega
          exact absurd b hp
def half (used : List Nat) : List Nat := used.map fun w => (w + 1) / 2
theorem half_length (used : List Nat) : (half used).length = used.length := by simp [half]
theorem half_get (used : List Nat) (i : Nat) : (half used).getD i 0 = (used.getD i 0 + 1) / 2 := by
  simp only [half, List.getD_eq_getElem?_getD, List.getElem?_map]
  cases used[i]? <;> simp
/-- the trees in an order of places -/
def pick (ts : List HT) (σ : List Nat) : List HT := σ.map fun i => ts.getD i default
theorem pick_range (ts : List HT) : pick ts (List.range ts.length) = ts := by
  apply List.ext_getElem?
  intro i
  simp only [pick, List.getElem?_map]
  by_cases h : i < ts.length
  · rw [List.getElem?_range h, List.getElem?_eq_getElem h]
    simp [List.getD_eq_getElem?_getD, List.getElem?_eq_getElem h]
  · rw [List.getElem?_eq_none (by simpa using h), List.getElem?_eq_none (by simpa using h)]; rfl
theorem pick_perm (ts : List HT) (σ : List Nat) (h : σ.Perm (List.range ts.length)) : (pick ts σ).Perm ts := by
  have := h.map fun i => ts.getD i default
  rw [show (List.range ts.length).map (fun i => ts.getD i default) = ts from pick_range ts] at this
  exact this
theorem symsL_perm {a b : List HT} (h : a.Perm b) : (symsL a).Perm (symsL b) := h.flatMap_right _
/-- the tree that measure makes -/
def topOf (l : List HT) : HT := (mergeQ l.length l []).getD 0 default
theorem topOf_syms (l : List HT) (h : 2 ≤ l.length) : mergeQ l.length l [] = [topOf l] ∧ (symsL l).Perm (topOf l).syms := by
  obtain ⟨t, e1, e2⟩ := mergeQ_one l.length l [] (by simp) (.inl (by simp; omega))
  have e3 : topOf l = t := by unfold topOf; rw [e1]; rfl
  rw [e3]
  simp only [List.append_nil] at e2
  exact ⟨e1, e2⟩
theorem topOf_node (l : List HT) (h : 2 ≤ l.length) : (topOf l).syms ≠ [] := by
  intro e
  have h2 := (topOf_syms l h).2
  rw [e] at h2
  have h3 := List.perm_nil.1 h2
  match l, h with
  | a :: l, _ =>
    rw [symsL_cons] at h3
    have : ∀ t : HT, t.syms ≠ [] := by
      intro t
      induction t with
      | leaf w s => simp [HT.syms]
      | node w l r il ir => simp [HT.syms, il]
    exact this a (List.append_eq_nil_iff.1 h3).1
/-- over weights of one it is no deeper than nine -/
theorem topOf_one (l : List HT) (h : 2 ≤ l.length) (h512 : l.length ≤ 512) (hw : ∀ t ∈ l, t.w = 1) (hh : ∀ t ∈ l, t.high = 0) : (topOf l).deep 0 ≤ 9 := by
  have e := mergeQ_q l.length l [] hw (fun t ht => by cases ht) (.inr trivial) (by simp) (.inl (by simp; omega))
  rw [(topOf_syms l h).1, List.append_nil] at e
  have e2 : l.map HT.high = List.replicate l.length 0 ++ List.replicate 0 (0 + 1) := by
    simp only [List.replicate_zero, List.append_nil]
    apply List.ext_getElem?
    intro i
    rw [List.getElem?_map, List.getElem?_replicate]
    by_cases hi : i < l.length
    · rw [if_pos hi, List.getElem?_eq_getElem hi]; simp [hh _ (List.getElem_mem hi)]
    · rw [if_neg hi, List.getElem?_eq_none (by omega)]; rfl
  rw [e2] at e
  have := qGo_high l.length 0 l.length 0 (by omega) (by omega) (by simpa using h512) (by omega) (topOf l).high (by rw [← e]; simp) (.inr trivial)
  rw [← e] at this
  rw [deep_high]
  rcases this with h1 | h1
  · omega
  · simp at h1
end Go.Proofs.YtejgoienkpaabaaDoor

/- Plain: what measure writes is a row that may be. -/
namespace Go.Proofs.YtejgoienkpaabaaDoor
structure OkRow (used row : List Nat) : Prop where
  len : row.length = used.length
  zero : ∀ s, row.getD s 0 = 0 ↔ used.getD s 0 = 0
  le : ∀ s, row.getD s 0 ≤ 15
  ok : ∀ nn, (nn = true ∨ ∃ s, 0 < used.getD s 0) → bOk row nn = true
theorem getD_big (l : List Nat) (i : Nat) (h : l.length ≤ i) : l.getD i 0 = 0 := by
  rw [List.getD_eq_getElem?_getD, List.getElem?_eq_none h]; rfl
theorem getD_replicate0 (n i : Nat) : (List.replicate n 0).getD i 0 = 0 := by
  rw [List.getD_eq_getElem?_getD, List.getElem?_replicate]
  split <;> rfl
theorem list_ext_getD {a b : List Nat} (hl : a.length = b.length) (h : ∀ i, a.getD i 0 = b.getD i 0) : a = b := by
  apply List.ext_getElem?
  intro i
  have := h i
  rw [List.getD_eq_getElem?_getD, List.getD_eq_getElem?_getD] at this
  by_cases hi : i < a.length
  · rw [List.getElem?_eq_getElem hi, List.getElem?_eq_getElem (by omega)] at this ⊢
    simpa using this
  · rw [List.getElem?_eq_none (by omega), List.getElem?_eq_none (by omega)]
theorem tot_zero (p : Nat → Nat) (h0 : p 0 = 0) (row : List Nat) (h : ∀ i, row.getD i 0 = 0) (s : Nat) : tot p row s = 0 := by
  induction s with
  | zero => rfl
  | succ s ih => simp only [tot, ih, h, h0]
theorem symsL_leaf (l : List HT) (h : ∀ t ∈ l, ∃ w s, t = HT.leaf w s) : (symsL l).length = l.length := by
  induction l with
  | nil => rfl
  | cons a l ih =>
    obtain ⟨w, s, rfl⟩ := h _ (List.mem_cons_self ..)
    rw [symsL_cons, List.length_append, ih (fun t ht => h t (List.mem_cons_of_mem _ ht))]
    simp [HT.syms]; omega
theorem okRow_none (used : List Nat) (h : lvs used used.length = []) : OkRow used (List.replicate used.length 0) := by
  have hz : ∀ s, used.getD s 0 = 0 := by
    intro s
    by_cases hs : s < used.length
    · rcases Nat.eq_zero_or_pos (used.getD s 0) with h1 | h1
      · exact h1
      · have h3 := ((lvs_syms used used.length).2 s).2 ⟨hs, h1⟩
        rw [h] at h3
        cases h3
    · exact getD_big _ _ (by omega)
  refine ⟨by simp, fun s => by simp only [hz, getD_replicate0], fun s => by rw [getD_replicate0]; omega, fun nn hn => ?_⟩
  rcases hn with rfl | ⟨s, hs⟩
  · unfold bOk
    have := (bOut_tot (List.replicate used.length 0) 15).2.1
    rw [tot_zero _ (by simp) _ (fun i => getD_replicate0 _ _)] at this
    simp [this]
  · have := hz s; omega
theorem okRow_one (used : List Nat) (w s0 : Nat) (h : lvs used used.length = [.leaf w s0]) : OkRow used ((List.replicate used.length 0).set s0 1) := by
  have hs := (lvs_syms used used.length).2
  rw [h] at hs
  have e : symsL [HT.leaf w s0] = [s0] := rfl
  rw [e] at hs
  have h0 := (hs s0).1 (by simp)
  have hget : ∀ i, ((List.replicate used.length 0).set s0 1).getD i 0 = if i = s0 then 1 else 0 := by
    intro i
    rw [List.getD_eq_getElem?_getD, List.getElem?_set]
    by_cases hi : s0 = i
    · subst hi; simp [h0.1]
    · rw [if_neg hi, if_neg (fun e => hi e.symm), ← List.getD_eq_getElem?_getD, getD_replicate0]
  have ht : ∀ p : Nat → Nat, p 0 = 0 → tot p ((List.replicate used.length 0).set s0 1) used.length = p 1 := by
    intro p hp
    have := tot_set p (List.replicate used.length 0) s0 1 used.length h0.1 (by simp)
    rw [getD_replicate0, hp, tot_zero p hp _ (fun i => getD_replicate0 _ _)] at this
    omega
  refine ⟨by simp, fun s => ?_, fun s => by rw [hget]; split <;> omega, fun nn _ => ?_⟩
  · rw [hget]
    by_cases hi : s = s0
    · subst hi; rw [if_pos rfl]; omega
    · rw [if_neg hi]
      refine ⟨fun _ => ?_, fun _ => rfl⟩
      by_cases hl : s < used.length
      · rcases Nat.eq_zero_or_pos (used.getD s 0) with h1 | h1
        · exact h1
        · have := (hs s).2 ⟨hl, h1⟩
          simp at this
          exact absurd this hi
      · exact getD_big _ _ (by omega)
  · unfold bOk
    obtain ⟨_, b2, b3⟩ := bOut_tot ((List.replicate used.length 0).set s0 1) 15
    have hlen : ((List.replicate used.length 0).set s0 1).length = used.length := by simp
    rw [hlen, ht _ (by simp)] at b2
    have b4 := b3 1
    rw [if_pos (by omega), hlen, ht _ (by simp)] at b4
    simp only [b2, b4]
    simp
theorem okRow_tree (used row : List Nat) (l : List HT) (h : l.Perm (lvs used used.length)) (h2 : 2 ≤ l.length) (hd : (topOf l).deep 0 ≤ 15) (hlen : row.length = used.length) (hz : ∀ s, used.getD s 0 = 0 → row.getD s 0 = 0) :
    OkRow used ((topOf l).put 0 row) := by
  obtain ⟨_, hp⟩ := topOf_syms l h2
  have hp2 := hp.symm.trans (symsL_perm h)
  obtain ⟨n1, n2⟩ := lvs_syms used used.length
  have hnd : (topOf l).syms.Nodup := hp2.nodup_iff.2 n1
  have hmem : ∀ s, s ∈ (topOf l).syms ↔ s < used.length ∧ 0 < used.getD s 0 := fun s => hp2.mem_iff.trans (n2 s)
  have hcnt : 2 ≤ (topOf l).syms.length := by
    rw [hp2.length_eq, symsL_leaf _ (fun t ht => by obtain ⟨i, _, _, e⟩ := lvs_mem _ _ t ht; exact ⟨_, _, e⟩), ← h.length_eq]
    exact h2
  generalize topOf l = t at *
  have e0 : t.put 0 row = t.put 0 (List.replicate used.length 0) := by
    refine list_ext_getD (by rw [put_length, put_length, hlen]; simp) fun i => put_same t 0 _ _ (by simp [hlen]) i ?_
    by_cases hi : i ∈ t.syms
    · exact .inl hi
    · refine .inr ?_
      rw [getD_replicate0]
      apply hz
      by_cases hl : i < used.length
      · rcases Nat.eq_zero_or_pos (used.getD i 0) with h1 | h1
        · exact h1
        · exact absurd ((hmem i).2 ⟨hl, h1⟩) hi
      · exact getD_big _ _ (by omega)
  rw [e0]
  have hlz : (List.replicate used.length 0).length = used.length := by simp
  have htot : ∀ p : Nat → Nat, p 0 = 0 → tot p (t.put 0 (List.replicate used.length 0)) used.length = addsT p t 0 := by
    intro p hp
    have := tot_put p hp t 0 (List.replicate used.length 0) hnd (fun s hs => ⟨by rw [hlz]; exact ((hmem s).1 hs).1, getD_replicate0 _ _⟩)
    rw [hlz, tot_zero p hp _ (fun i => getD_replicate0 _ _), Nat.zero_add] at this
    exact this
  match t, hcnt with
  | .leaf w s, hcnt => simp [HT.syms] at hcnt
  | .node w a b, _ =>
    simp only [HT.deep, Nat.zero_add] at hd
    have hout : ∀ s, s ∉ (HT.node w a b).syms → ((HT.node w a b).put 0 (List.replicate used.length 0)).getD s 0 = 0 := by
      intro s hs
      rw [put_other _ _ _ _ hs, getD_replicate0]
    have hin : ∀ s, s ∈ (HT.node w a b).syms → 1 ≤ ((HT.node w a b).put 0 (List.replicate used.length 0)).getD s 0 ∧ ((HT.node w a b).put 0 (List.replicate used.length 0)).getD s 0 ≤ 15 := by
      intro s hs
      have hl := ((hmem s).1 hs).1
      show 1 ≤ (b.put 1 (a.put 1 (List.replicate used.length 0))).getD s 0 ∧ (b.put 1 (a.put 1 (List.replicate used.length 0))).getD s 0 ≤ 15
      by_cases hb : s ∈ b.syms
      · have := put_range b 1 (a.put 1 (List.replicate used.length 0)) s hb (by rw [put_length, hlz]; exact hl)
        omega
      · rw [put_other _ _ _ _ hb]
        simp only [HT.syms, List.mem_append] at hs
        have := put_range a 1 (List.replicate used.length 0) s (hs.resolve_right hb) (by rw [hlz]; exact hl)
        omega
    refine ⟨by rw [put_length, hlz], fun s => ?_, fun s => ?_, fun nn _ => ?_⟩
    · by_cases hs : s ∈ (HT.node w a b).syms
      · have := hin s hs
        have := ((hmem s).1 hs).2
        omega
      · rw [hout s hs]
        refine ⟨fun _ => ?_, fun _ => rfl⟩
        by_cases hl : s < used.length
        · rcases Nat.eq_zero_or_pos (used.getD s 0) with h1 | h1
          · exact h1
          · exact absurd ((hmem s).2 ⟨hl, h1⟩) hs
        · exact getD_big _ _ (by omega)
    · by_cases hs : s ∈ (HT.node w a b).syms
      · exact (hin s hs).2
      · rw [hout s hs]; omega
    · unfold bOk
      obtain ⟨b1, b2, _⟩ := bOut_tot ((HT.node w a b).put 0 (List.replicate used.length 0)) 15
      rw [put_length, hlz, htot _ (by simp)] at b1 b2
      simp only [addsT, Nat.zero_add] at b1 b2
      rw [adds_kraft a 1 (by omega) (by omega), adds_kraft b 1 (by omega) (by omega)] at b1
      have c1 := adds_pos a 1 (by omega) (by omega)
      have c2 := adds_pos b 1 (by omega) (by omega)
      rw [if_neg (by omega), if_neg (by omega), b1]
      rfl
/-- the row that measure fills in: srt tells the order that the sort gives -/
def measP (srt : List HT → List Nat) : Nat → List Nat → List Nat → List Nat
  | 0, _, row => row
  | f + 1, used, row =>
    if (lvs used used.length).length = 0 then row
    else if (lvs used used.length).length = 1 then row.set ((symsL (lvs used used.length)).getD 0 0) 1
    else if (topOf (pick (lvs used used.length) (srt (lvs used used.length)))).deep 0 ≤ 15 then (topOf (pick (lvs used used.length) (srt (lvs used used.length)))).put 0 row
    else measP srt f (half used) ((topOf (pick (lvs used used.length) (srt (lvs used used.length)))).put 0 row)
theorem half_sum (used : List Nat) : (half used).sum ≤ used.sum ∧ ((∃ i, 2 ≤ used.getD i 0) → (half used).sum < used.sum) := by
  induction used with
  | nil => exact ⟨by simp [half], fun ⟨i, h⟩ => by simp at h⟩
  | cons a l ih =>
    obtain ⟨h1, h2⟩ := ih
    have e : (half (a :: l)).sum = (a + 1) / 2 + (half l).sum := by simp [half]
    rw [e, List.sum_cons]
    refine ⟨?_, fun ⟨i, h⟩ => ?_⟩
    · rcases Nat.eq_zero_or_pos a with rfl | ha
      · simpa using h1
      · omega
    · cases i with
      | zero => simp at h; omega
      | succ i =>
        have := h2 ⟨i, by simpa using h⟩
        rcases Nat.eq_zero_or_pos a with rfl | ha
        · simpa using this
        · omega
/-- where the tree is too deep, something weighs two or more -/
theorem deep_two (used : List Nat) (l : List HT) (h : l.Perm (lvs used used.length)) (h2 : 2 ≤ l.length) (h512 : used.length ≤ 512) (hd : ¬ (topOf l).deep 0 ≤ 15) : ∃ i, 2 ≤ used.getD i 0 := by
  apply Classical.byContradiction
  intro hc
  have hm : ∀ t ∈ l, t.w = 1 ∧ t.high = 0 := by
    intro t ht
    obtain ⟨i, a, b, rfl⟩ := lvs_mem _ _ t (h.mem_iff.1 ht)
    refine ⟨?_, rfl⟩
    show used.getD i 0 = 1
    have : ¬ 2 ≤ used.getD i 0 := fun hh => hc ⟨i, hh⟩
    omega
  have := topOf_one l h2 (by rw [h.length_eq]; have := lvs_len used used.length; omega) (fun t ht => (hm t ht).1) (fun t ht => (hm t ht).2)
  omega
end Go.Proofs.YtejgoienkpaabaaDoor

/- The trees of measure in memory; the contract of depth. -/
namespace Go.Proofs.YtejgoienkpaabaaDoor
open Go.RowKit
set_option maxRecDepth 100000
abbrev Ptr (p : Nat) : Value := .pointer (some ⟨p, 0, none⟩)
/-- block p is the root of that tree -/
def NodeAt (w : World) : HT → Nat → Prop
  | .leaf wt s, p => Blk w p 172 #[.int .i64 (wt : Int), .int .i64 (s : Int), .pointer none, .pointer none]
  | .node wt l r, p => ∃ pl pr, Blk w p 172 #[.int .i64 (wt : Int), .int .i64 0, Ptr pl, Ptr pr] ∧ NodeAt w l pl ∧ NodeAt w r pr
/-- nodes stay as they are -/
def KeepN (w w' : World) : Prop := ∀ g cs, Blk w g 172 cs → Blk w' g 172 cs
theorem KeepN.refl (w : World) : KeepN w w := fun _ _ h => h
theorem KeepN.trans {a b c : World} (h : KeepN a b) (k : KeepN b c) : KeepN a c := fun g cs x => k g cs (h g cs x)
theorem KeepN.drewN {a b : World} (h : KeepN a b) (n : Nat) : KeepN a (b.drewN n) := h
theorem KeepN.alloc {a b : World} (h : KeepN a b) (o : Obj) : KeepN a (b.alloc o) := fun g cs x => (h g cs x).alloc o
theorem KeepN.setCell {a b : World} (h : KeepN a b) {g : Nat} {t : TypeId} {cs : Array Value} (hg : Blk b g t cs) (ht : t ≠ 172) (i : Nat) (v : Value) : KeepN a (b.setCell ⟨g, i, none⟩ v) :=
  fun g' cs' x => (h g' cs' x).far (p := ⟨g, i, none⟩) (Blk.ne_ (h g' cs' x) hg (fun e => ht e.symm)) v
theorem KeepN.gb {a b c : World} (h : KeepN a b) {row : Option Nat} (hg : b.grownBy c row) (hr : ∀ g cs, Blk b g 172 cs → row ≠ some g) : KeepN a c :=
  fun g cs x => (h g cs x).gb hg (fun e => hr g cs (h g cs x) e.symm)
theorem KeepN.below {a b c : World} (h : KeepN a b) (hb : Below b.heap.size b c) : KeepN a c := fun g cs x => (h g cs x).below hb (h g cs x).lt
theorem NodeAt.keep {w w' : World} (hk : KeepN w w') : ∀ (t : HT) (p : Nat), NodeAt w t p → NodeAt w' t p := by
  intro t
  induction t with
  | leaf wt s => intro p h; exact hk _ _ h
  | node wt l r il ir =>
    intro p h
    obtain ⟨pl, pr, h1, h2, h3⟩ := h
    exact ⟨pl, pr, hk _ _ h1, il _ h2, ir _ h3⟩
theorem NodeAt.w {w : World} {t : HT} {p : Nat} (h : NodeAt w t p) : w.cell? ⟨p, 0, none⟩ = some (.int .i64 (t.w : Int)) ∧ ∃ cs, Blk w p 172 cs := by
  cases t with
  | leaf wt s =>
    have h1 : Blk w p 172 _ := h
    exact ⟨by rw [h1.cell]; rfl, _, h1⟩
  | node wt l r =>
    obtain ⟨pl, pr, h1, _⟩ := h
    exact ⟨by rw [h1.cell]; rfl, _, h1⟩
/-- ints as an array of cells -/
def IA (l : List Nat) : Array Value := (I l).toArray
theorem IA_get (l : List Nat) (i : Nat) : (IA l)[i]? = l[i]?.map fun b => .int .i64 (b : Int) := by
  unfold IA
  rw [List.getElem?_toArray, I_get]
theorem IA_set (pre row post : List Nat) (s v : Nat) (h : s < row.length) : (IA (pre ++ row ++ post)).setIfInBounds (pre.length + s) (.int .i64 (v : Int)) = IA (pre ++ row.set s v ++ post) := by
  unfold IA
  rw [List.setIfInBounds_toArray]
  congr 1
  have e : I (pre ++ row.set s v ++ post) = (I (pre ++ row ++ post)).set (pre.length + s) (.int .i64 (v : Int)) := by
    have e2 : pre ++ row.set s v ++ post = (pre ++ row ++ post).set (pre.length + s) v := by
      rw [List.append_assoc, List.append_assoc, List.set_append_right _ _ (by omega), Nat.add_sub_cancel_left, List.set_append_left _ _ h]
    rw [e2]
    simp [I, List.map_set]
  rw [e]
theorem IA_at (pre row post : List Nat) (s : Nat) (h : s < row.length) : (IA (pre ++ row ++ post))[pre.length + s]? = some (.int .i64 (row.getD s 0 : Int)) := by
  rw [IA_get, List.append_assoc, List.getElem?_append_right (by omega), Nat.add_sub_cancel_left, List.getElem?_append_left h, List.getElem?_eq_getElem h]
  simp [List.getD_eq_getElem?_getD, List.getElem?_eq_getElem h]
def DepthPost (w : World) (gl : Nat) (pre row post : List Nat) (t : HT) (at_ : Nat) (e : Ending) (w' : World) : Prop :=
  e = .returned (.int .i64 (t.deep at_ : Int)) ∧ Blk w' gl 85 (IA (pre ++ t.put at_ row ++ post)) ∧ w.grownBy w' (some gl)
def DepthC (t : HT) : Prop :=
  ∀ (w : World) (p at_ gl cap : Nat) (pre row post : List Nat), NodeAt w t p → Blk w gl 85 (IA (pre ++ row ++ post)) → (∀ s ∈ t.syms, s < row.length) → at_ + t.high ≤ 1000000 →
    Calls Tryd.prog 98 #[Ptr p, .int .i64 (at_ : Int), .slice (some ⟨gl, pre.length, none⟩) row.length cap] w fun e w' => DepthPost w gl pre row post t at_ e w'
theorem depth_leaf (wt s : Nat) : DepthC (.leaf wt s) := by
  intro w p at_ gl cap pre row post hn hb hs ha
  have hn1 : Blk w p 172 _ := hn
  have c1 := hn1.cell 1
  have c2 := hn1.cell 2
  simp at c1 c2
  have hsl : s < row.length := hs s (by simp [HT.syms])
  have hsz : pre.length + s < (IA (pre ++ row ++ post)).size := by simp [IA, I]; omega
  have ca : w.cell? ⟨gl, pre.length + s, none⟩ = some (.int .i64 (row.getD s 0 : Int)) := by rw [hb.cell, IA_at _ _ _ _ hsl]
  have cf := hb.frozen (pre.length + s)
  have HB := Lib.hid hb
  have HF : Hid (Blk (w.setCell ⟨gl, pre.length + s, none⟩ (.int .i64 (at_ : Int))) gl 85 (IA (pre ++ row.set s at_ ++ post))) := by
    unfold Hid
    rw [← IA_set _ _ _ _ _ hsl]
    exact hb.set_ _ _
  have HG : Hid (w.grownBy (w.setCell ⟨gl, pre.length + s, none⟩ (.int .i64 (at_ : Int))) (some gl)) :=
    ⟨rfl, rfl, rfl, by simp, fun k _ hne => Below.heap_setCell _ _ _ _ (fun e => hne (by rw [show k = gl from e]))⟩
  clear hb hn hn1 hs
  go_enter Tryd.func98, Tryd.ntmps98
  go_wp2_with fail
  go_ret
  exact ⟨rfl, HF.out, HG.out⟩
set_option maxHeartbeats 400000 in
theorem depth_node (wt : Nat) (l r : HT) (il : DepthC l) (ir : DepthC r) : DepthC (.node wt l r) := by
  intro w p at_ gl cap pre row post hn hb hs ha
  obtain ⟨pl, pr, hn1, hl, hr⟩ := hn
  have c2 := hn1.cell 2
  have c3 := hn1.cell 3
  simp [Ptr] at c2 c3
  have hne : p ≠ gl := Blk.ne_ hn1 hb (by decide)
  simp only [HT.high] at ha
  have hsl : ∀ s ∈ l.syms, s < row.length := fun s h => hs s (by simp [HT.syms, h])
  have hsr : ∀ s ∈ r.syms, s < row.length := fun s h => hs s (by simp [HT.syms, h])
  obtain ⟨a1, ha1⟩ : ∃ x, x = at_ + 1 := ⟨_, rfl⟩
  have ea1 : (at_ : Int) + 1 = (a1 : Int) := by omega
  have hlb : a1 + l.high ≤ 1000000 := by omega
  have hrb : a1 + r.high ≤ 1000000 := by omega
  obtain ⟨row1, hr1⟩ : ∃ x, x = l.put a1 row := ⟨_, rfl⟩
  obtain ⟨row2, hr2⟩ : ∃ x, x = r.put a1 row1 := ⟨_, rfl⟩
  obtain ⟨n, hn⟩ : ∃ n, n = row.length := ⟨_, rfl⟩
  have hl1 : row1.length = n := by rw [hr1, put_length, hn]
  have HL : Hid (∀ w', KeepN w w' → Blk w' gl 85 (IA (pre ++ row ++ post)) → Calls Tryd.prog 98 #[Ptr pl, .int .i64 (a1 : Int), .slice (some ⟨gl, pre.length, none⟩) n cap] w' fun e w2 => e = .returned (.int .i64 (l.deep a1 : Int)) ∧ Blk w2 gl 85 (IA (pre ++ row1 ++ post)) ∧ w'.grownBy w2 (some gl)) := by
    intro w' hk hb'
    have := il w' pl a1 gl cap pre row post (hl.keep hk) hb' hsl hlb
    rw [hn, hr1]
    exact this
  have HRr : Hid (∀ w', KeepN w w' → Blk w' gl 85 (IA (pre ++ row1 ++ post)) → Calls Tryd.prog 98 #[Ptr pr, .int .i64 (a1 : Int), .slice (some ⟨gl, pre.length, none⟩) n cap] w' fun e w2 => e = .returned (.int .i64 (r.deep a1 : Int)) ∧ Blk w2 gl 85 (IA (pre ++ row2 ++ post)) ∧ w'.grownBy w2 (some gl)) := by
    intro w' hk hb'
    have := ir w' pr a1 gl cap pre row1 post (hr.keep hk) hb' (fun s h => by rw [hl1, hn]; exact hsr s h) hrb
    rw [hl1] at this
    rw [hr2]
    exact this
  have HD : Hid (HT.deep (.node wt l r) at_ = max (l.deep a1) (r.deep a1)) := by unfold Hid; rw [HT.deep, ha1]
  have HP : Hid (HT.put (.node wt l r) at_ row = row2) := by unfold Hid; rw [HT.put, hr2, hr1, ha1]
  have HB := Lib.hid hb
  have HN1 := Lib.hid hn1
  have hdl : l.deep a1 ≤ 1000000 := by rw [deep_high]; exact hlb
  have hdr : r.deep a1 ≤ 1000000 := by rw [deep_high]; exact hrb
  have HPO : Hid (∀ e w2, e = .returned (.int .i64 (max (l.deep a1) (r.deep a1) : Nat)) → Blk w2 gl 85 (IA (pre ++ row2 ++ post)) → w.grownBy w2 (some gl) → DepthPost w gl pre row post (.node wt l r) at_ e w2) := by
    intro e w2 h1 h2 h3
    unfold DepthPost
    rw [HD.out, HP.out]
    exact ⟨h1, h2, h3⟩
  generalize DepthPost w gl pre row post (.node wt l r) at_ = PP at *
  generalize l.deep a1 = dl at *
  generalize r.deep a1 = dr at *
  rw [← hn]
  have HGL : Hid (∀ {a b : World}, Blk a gl 85 (IA (pre ++ row ++ post)) ∨ Blk a gl 85 (IA (pre ++ row1 ++ post)) → KeepN w a → a.grownBy b (some gl) → KeepN w b) := by
    intro a b h1 h2 h3
    refine h2.gb h3 (fun g cs x e => ?_)
    rcases h1 with h1 | h1 <;> exact Blk.ne_ x h1 (by decide) (Option.some.inj e).symm
  have HC : Hid (∀ {a : World}, KeepN w a → a.cell? ⟨p, 2, none⟩ = some (.pointer (some ⟨pl, 0, none⟩)) ∧ a.cell? ⟨p, 3, none⟩ = some (.pointer (some ⟨pr, 0, none⟩))) := by
    intro a h
    have h1 := h _ _ HN1.out
    exact ⟨by rw [h1.cell]; rfl, by rw [h1.cell]; rfl⟩
  have hwa : IntKind.i64.wrap (a1 : Int) = (a1 : Int) := wraps_i64 _ (by omega) (by omega)
  clear hb hn1 hl hr hs hsl hsr il ir ha ha1 HD HP hr1 hr2 hn hl1 HN1 hlb hrb
  go_enter Tryd.func98, Tryd.ntmps98
  go_wp2_with fail
  go_region_held3 (fun w' => w'.cell? ⟨p, 2, none⟩ = some (.pointer (some ⟨pl, 0, none⟩)) ∧ w'.cell? ⟨p, 3, none⟩ = some (.pointer (some ⟨pr, 0, none⟩))) (first | exact hC2 | exact hC1 | exact ⟨c2, c3⟩)
    (first
      | (go_at_call 98; refine (HRr.out _ hK1 hB1).mono ?_; rintro e w2 ⟨rfl, hB2, hG2⟩; have hK2 := HGL.out (.inr hB1) hK1 hG2; have hC2 := HC.out hK2)
      | (go_at_call 98; refine (HL.out w.drew (fun _ _ h => h) HB.out).mono ?_; rintro e w1 ⟨rfl, hB1, hG1⟩; have hK1 := HGL.out (a := w.drew) (.inl HB.out) (fun _ _ h => h) hG1; have hC1 := HC.out hK1))
  have HG3 : Hid (w.grownBy w2 (some gl)) := gb_trans (a := w) (b := w1) ⟨hG1.os, hG1.tape, hG1.output, hG1.size, hG1.block⟩ hG2
  clear hC1 hC2 hK1 hK2 hG1 hG2
  go_wp2_with fail
  all_goals
    refine HPO.out _ _ ?_ hB2 HG3.out
    congr 3
    omega
theorem depth_any : ∀ t, DepthC t := by
  intro t
  induction t with
  | leaf wt s => exact depth_leaf wt s
  | node wt l r il ir => exact depth_node wt l r il ir
end Go.Proofs.YtejgoienkpaabaaDoor
