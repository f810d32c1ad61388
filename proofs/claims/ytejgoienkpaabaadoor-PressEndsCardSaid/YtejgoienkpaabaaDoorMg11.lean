/- RefF, RefG (merged: one text behind the other). -/
import Derived.Test.YtejgoienkpaabaaDoorMg10
import Derived.Test.YtejgoienkpaabaaDoorMg08
import Derived.Test.YtejgoienkpaabaaDoorMg06
/- Contracts of the reference's Copy and Unpress. -/
namespace Go.Proofs.YtejgoienkpaabaaDoor
open Go.RowKit
set_option maxRecDepth 100000
set_option maxHeartbeats 400000 in
theorem copy_reads (A : Option Addr) (n c : Nat) (l : List UInt8) (w : World) (h : Reads w w.heap.size 1 A n (U l)) (hn : n ≤ Lim) :
    Calls Tryd.prog 18 #[.slice A n c] w fun e w' => e = .returned (.slice (some ⟨w.heap.size, 0, none⟩) n n) ∧ w'.ownsRow w.heap.size 5 1 (.slice (some ⟨w.heap.size, 0, none⟩) n n) n (U l) ∧ Below w.heap.size w w' := by
  obtain ⟨i0, hi, hz0, hz1, hz2⟩ := info_parts info5
  have hn1 := Lim_le hn
  have hlen : (U l).length = n := by have := h.1; simpa using this
  have h2 : i0.bytes * n ≤ 281474976710656 := by rw [hz2]; omega
  have h3 : n ≤ maxLen := by simp only [maxLen]; omega
  have Hl := Lib.hid hlen
  clear hn1 hlen
  go_enter Tryd.func18, Tryd.ntmps18
  go_wp2_with (first
    | (at_make
       refine wpList_make_full w rfl (.tmp 5) (.tmp 5) 22 rfl w.heap.size 5 i0 _ 1 Tryd.underlying22 hi hz0 hz1 .i64 .i64 n n n rfl rfl rfl rfl h2 h3 (Nat.le_refl _) ?_
       intro w1 hown hg
       have hf := Lib.hid (own_full hown)
       have hm := Lib.hid (show (madeCells (Value.int IntKind.u8 0).cells (n * 1)).toList.length = n from by simpa using hown.1)
       have hb : Below w.heap.size w w1 := (Below.refl _ _).grown hg (Nat.le_refl _) (by intro k hk; cases hk)
       have hr := h.below hb)
    | (with_reducible refine wpList_copy_splice rfl (.tmp 7) (.tmp 8) 22 22 rfl 5 Tryd.underlying22 size5 _ _ n n n c rfl rfl w.heap.size 0 _ 5 hf.out (U l) ?_ ?_ ?_ (U_one l) w.heap.size w hb (Nat.le_refl _) ?_
       · rw [Hl.out]; exact (Nat.min_self n).symm
       · intro hp
         obtain ⟨ad, e1, e2, e3⟩ := hr.2 (by rw [Hl.out] at hp; exact hp)
         exact ⟨rfl, ad, e1, e3⟩
       · rw [hm.out, Hl.out]; omega
       intro w2 hg2 hb2))
  go_ret
  refine ⟨rfl, full_own (Nat.le_refl _) Hl.out h3 ?_, hb2⟩
  have := hg2.out
  rw [this]
  have h1 := hm.out
  have h2 := Hl.out
  simp only [splice]
  rw [List.drop_eq_nil_of_le (by omega)]
  simp

theorem copy_any (A : Option Addr) (n c : Nat) (l : List UInt8) (w : World) (hn : l.length = n) (h : Sl w A l) (hl : l.length ≤ Lim) :
    Calls Tryd.prog 18 #[.slice A n c] w fun e w' => e = .returned (.slice (some ⟨w.heap.size, 0, none⟩) n n) ∧ w'.ownsRow w.heap.size 5 1 (.slice (some ⟨w.heap.size, 0, none⟩) n n) n (U l) ∧ Below w.heap.size w w' := by
  subst hn
  exact copy_reads A l.length c l w h.reads hl
def refUnpP (b : List UInt8) (max : Int) : List UInt8 × Nat :=
  match b with
  | [] => ([], 80)
  | m :: t =>
    if 1 < m.toNat then ([], 80) else
    match num t with
    | none => ([], 80)
    | some (n, s) =>
      if max < 0 ∨ max < (n : Int) ∨ 65536 < n then ([], 81) else
      if m.toNat = 0 then (if (t.drop s).length = n then (t.drop s, 0) else ([], 80))
      else if 0 < n ∧ 148 ≤ (t.drop s).length then (match refCoded (t.drop s) n with | some out => (out, 0) | none => ([], 80))
      else ([], 80)
def RUnpPost (w : World) (b : List UInt8) (max : Int) (e : Ending) (w' : World) : Prop :=
  Below w.heap.size w w' ∧ ∃ A c, e = .returned (.tuple #[.slice A (refUnpP b max).1.length c, .int .i64 ((refUnpP b max).2 : Int)]) ∧
    ((refUnpP b max).2 = 0 → w'.ownsRow w.heap.size 5 1 (.slice A (refUnpP b max).1.length c) (refUnpP b max).1.length (U (refUnpP b max).1)) ∧ ((refUnpP b max).2 ≠ 0 → A = none ∧ c = 0)
theorem RUnpPost.fail {w w' : World} {b : List UInt8} {max : Int} {k : Nat} {e : Ending} (hb : Below w.heap.size w w') (h : refUnpP b max = ([], k)) (hk : k ≠ 0) (he : e = .returned (.tuple #[.slice none 0 0, .int .i64 (k : Int)])) : RUnpPost w b max e w' := by
  refine ⟨hb, none, 0, ?_, fun h0 => absurd h0 (by rw [h]; exact hk), fun _ => ⟨rfl, rfl⟩⟩
  rw [h, he]
  rfl
theorem RUnpPost.good {w w' : World} {b : List UInt8} {max : Int} {out : List UInt8} {A : Option Addr} {n c : Nat} {e : Ending} (hb : Below w.heap.size w w') (h : refUnpP b max = (out, 0)) (hn : out.length = n) (ho : w'.ownsRow w.heap.size 5 1 (.slice A n c) n (U out)) (he : e = .returned (.tuple #[.slice A n c, .int .i64 0])) : RUnpPost w b max e w' := by
  subst hn
  refine ⟨hb, A, c, ?_, fun _ => ?_, fun h0 => absurd (by rw [h]) h0⟩
  · rw [h, he]; rfl
  · rw [h]; exact ho
set_option maxHeartbeats 2000000 in
theorem runp_any (A : Option Addr) (n c : Nat) (b : List UInt8) (max : Int) (w : World) (hn : b.length = n) (hsl : Sl w A b) (hc : n ≤ c) (hl : b.length ≤ Lim) (hmx : max ≤ 9223372036854775807) :
    Calls Tryd.prog 13 #[.slice A n c, .int .i64 max] w fun e w' => RUnpPost w b max e w' := by
  subst hn
  have hl3 := Lim_le hl
  cases b with
  | nil =>
    go_enter Tryd.func13, Tryd.ntmps13
    go_wp2_with fail
    go_ret2
    exact RUnpPost.fail (k := 80) (Below.refl _ _) rfl (by omega) rfl
  | cons m t =>
    obtain ⟨h, o, rfl, hh, hcell⟩ : ∃ h o, A = some ⟨h, o, none⟩ ∧ h < w.heap.size ∧ ∀ j, j < (m :: t).length → w.cell? ⟨h, o + j, none⟩ = some (.int .u8 (((m :: t).getD j 0).toNat : Int)) := by
      rcases hsl with h | h
      · cases h
      · exact h
    have HS : Hid (Sl w (some ⟨h, o, none⟩) (m :: t)) := .inr ⟨h, o, rfl, hh, hcell⟩
    obtain ⟨L, hL⟩ : ∃ L, L = t.length := ⟨_, rfl⟩
    have hc0 := hcell 0 (by simp)
    obtain ⟨x, hx⟩ : ∃ x, x = m.toNat := ⟨_, rfl⟩
    have hx2 : x < 256 := by rw [hx]; exact m.toNat_lt
    simp only [List.getD_cons_zero, Nat.add_zero] at hc0
    rw [← hx] at hc0
    have hlen : (m :: t).length = L + 1 := by rw [hL]; rfl
    rw [hlen] at hc hl3 ⊢
    have HX := Lib.hid hx
    have HL := Lib.hid hL
    have HLim := Lib.hid hl
    clear hx hcell hlen hL hl hsl
    go_enter Tryd.func13, Tryd.ntmps13
    by_cases hx1 : 1 < x
    · have hd1 : decide ((1 : Int) < (x : Int)) = true := decide_eq_true (by omega)
      go_wp2_with fail
      go_ret2
      exact RUnpPost.fail (k := 80) (Below.refl _ _) (by rw [refUnpP, if_pos (by rw [← HX.out]; exact hx1)]) (by omega) rfl
    · have hd1 : decide ((1 : Int) < (x : Int)) = false := decide_eq_false (by omega)
      have HX1 : Hid (¬ 1 < m.toNat) := by show ¬ _; rw [← HX.out]; exact hx1
      by_cases hc1 : c = 1
      · subst hc1
        obtain rfl : L = 0 := by omega
        have ht : t = [] := List.eq_nil_of_length_eq_zero HL.out.symm
        have HT := Lib.hid ht
        clear ht
        go_wp2_with fail
        refine (number_any _ 0 0 [] w rfl (.inl rfl) (Nat.zero_le _)).mono ?_
        rintro e w1 ⟨rfl, rfl⟩
        have e0 : ((numR []).2 : Int) = 0 := rfl
        rw [e0]
        go_wp2_with fail
        go_ret2
        exact RUnpPost.fail (k := 80) (Below.refl _ _) (by rw [HT.out, refUnpP, if_neg HX1.out]; rfl) (by omega) rfl
      · go_wp2_with fail
        refine (number_any _ L (c - 1) t w HL.out.symm (by simpa using HS.out.rest 0) (by have := HLim.out; simp at this; omega)).mono ?_
        rintro e w1 ⟨rfl, rfl⟩
        obtain ⟨v, s, hvs⟩ : ∃ v s, numR t = (v, s) := ⟨_, _, rfl⟩
        rw [hvs]
        cases hnum : num t with
        | none =>
          have h0 : numR t = (0, 0) := by rw [numR, hnum]; rfl
          rw [h0] at hvs
          injection hvs with h1 h2
          subst h1 h2
          have HN : Hid (refUnpP (m :: t) max = ([], 80)) := by show _ = _; rw [refUnpP, if_neg HX1.out, hnum]
          clear hnum h0
          go_wp2_with fail
          go_ret2
          exact RUnpPost.fail (k := 80) (Below.refl _ _) HN.out (by omega) rfl
        | some vs =>
          obtain ⟨v', s'⟩ := vs
          have h0 : numR t = (v', s') := by rw [numR, hnum]; rfl
          rw [h0] at hvs
          injection hvs with h1 h2
          subst h1 h2
          have hbd := num_bound t v' s' hnum
          have hv64 := hbd.1
          have hs0 := hbd.2.1
          have hs10 := hbd.2.2.1
          have hsL : s' ≤ L := by rw [HL.out]; exact hbd.2.2.2
          have HN : Hid (refUnpP (m :: t) max = if max < 0 ∨ max < (v' : Int) ∨ 65536 < v' then ([], 81) else
              if m.toNat = 0 then (if (t.drop s').length = v' then (t.drop s', 0) else ([], 80))
              else if 0 < v' ∧ 148 ≤ (t.drop s').length then (match refCoded (t.drop s') v' with | some out => (out, 0) | none => ([], 80))
              else ([], 80)) := by show _ = _; rw [refUnpP, if_neg HX1.out, hnum]
          clear hbd h0 hnum
          by_cases hm0 : max < 0
          · have hdm : decide (max < 0) = true := decide_eq_true hm0
            go_wp2_with fail
            go_ret2
            exact RUnpPost.fail (k := 81) (Below.refl _ _) (by rw [HN.out, if_pos (.inl hm0)]) (by omega) rfl
          · have hdm : decide (max < 0) = false := decide_eq_false hm0
            obtain ⟨mx, rfl⟩ : ∃ mx : Nat, max = (mx : Int) := ⟨max.toNat, by omega⟩
            have hw1 : IntKind.u64.wrap (mx : Int) = (mx : Int) := wraps_u64 _ (by omega) (by omega)
            by_cases hmv : mx < v'
            · have hdv : decide ((mx : Int) < (v' : Int)) = true := decide_eq_true (by omega)
              go_wp2_with fail
              go_ret2
              exact RUnpPost.fail (k := 81) (Below.refl _ _) (by rw [HN.out, if_pos (.inr (.inl (by omega)))]) (by omega) rfl
            · have hdv : decide ((mx : Int) < (v' : Int)) = false := decide_eq_false (by omega)
              by_cases h65 : 65536 < v'
              · have hd6 : decide ((65536 : Int) < (v' : Int)) = true := decide_eq_true (by omega)
                go_wp2_with fail
                go_ret2
                exact RUnpPost.fail (k := 81) (Below.refl _ _) (by rw [HN.out, if_pos (.inr (.inr h65))]) (by omega) rfl
              · have hd6 : decide ((65536 : Int) < (v' : Int)) = false := decide_eq_false (by omega)
                have HN2 : Hid (refUnpP (m :: t) (mx : Int) = if m.toNat = 0 then (if (t.drop s').length = v' then (t.drop s', 0) else ([], 80))
                  else if 0 < v' ∧ 148 ≤ (t.drop s').length then (match refCoded (t.drop s') v' with | some out => (out, 0) | none => ([], 80))
                  else ([], 80)) := by show _ = _; rw [HN.out, if_neg (by omega)]
                clear HN
                have hw2 : IntKind.i64.wrap (v' : Int) = (v' : Int) := wraps_i64 _ (by omega) (by omega)
                obtain ⟨R, hR⟩ : ∃ R, R = t.drop s' := ⟨_, rfl⟩
                rw [← hR] at HN2
                obtain ⟨k, hk⟩ : ∃ k, k = L - s' := ⟨_, rfl⟩
                have hRl : R.length = k := by rw [hR, List.length_drop, hk, HL.out]
                have ek : (L : Int) + 1 - (1 + (s' : Int)) = (k : Int) := by omega
                have HR := Lib.hid hR
                have HRL := Lib.hid hRl
                have hk40 : k ≤ L := by omega
                have hkp := Lib.hid hk
                have htn : ((1 : Int) + (s' : Int)).toNat = 1 + s' := by omega
                have hkk : L + 1 - (1 + s') = k := by omega
                have hSR : Hid (Sl w1 (some ⟨h, o + (1 + s'), none⟩) R) := by show Sl _ _ _; rw [hR]; exact HS.out.rest s'
                have HRM : Hid (R.length ≤ Lim) := by
                  show _ ≤ _
                  have h1 := HLim.out
                  have h2 := HL.out
                  have h3 := HRL.out
                  rw [List.length_cons] at h1
                  omega
                clear hR hRl hk
                by_cases hcs : c = 1 + s'
                · subst hcs
                  have hk0 : k = 0 := by omega
                  have hSR : Hid (Sl w1 (some ⟨h, o, none⟩) R) := .inl (List.eq_nil_of_length_eq_zero (by rw [HRL.out]; exact hk0))
                  clear hk0
                  by_cases hx0 : x = 0
                  · have hxz : ((x : Int) == 0) = true := beq_iff_eq.2 (by omega)
                    have HX0 : Hid (m.toNat = 0) := by show _ = _; rw [← HX.out]; exact hx0
                    clear hx0
                    by_cases hkv : k = v'
                    · have hkb : ((k : Int) != (v' : Int)) = false := by rw [bne_eq_false_iff_eq]; omega
                      have HG : Hid (refUnpP (m :: t) (mx : Int) = (R, 0)) := by show _ = _; rw [HN2.out, if_pos HX0.out, if_pos (by rw [HRL.out]; exact hkv)]
                      clear hkv
                      go_wp2_with fail
                      refine (copy_any (some ⟨h, o, none⟩) k 0 R w1 HRL.out hSR.out HRM.out).mono ?_
                      rintro e w2 ⟨rfl, ho, hb⟩
                      have HO := Lib.hid ho
                      have HB := Lib.hid hb
                      clear ho hb
                      go_wp2_with fail
                      go_ret2
                      exact RUnpPost.good HB.out HG.out HRL.out HO.out rfl
                    · have hkb : ((k : Int) != (v' : Int)) = true := by simp; omega
                      go_wp2_with fail
                      go_ret2
                      exact RUnpPost.fail (k := 80) (Below.refl _ _) (by rw [HN2.out, if_pos HX0.out, if_neg (by rw [HRL.out]; exact hkv)]) (by omega) rfl
                  · have hxz : ((x : Int) == 0) = false := beq_eq_false_iff_ne.2 (by omega)
                    have HX0 : Hid (¬ m.toNat = 0) := by show ¬ _; rw [← HX.out]; exact hx0
                    go_wp2_with fail
                    refine (rcoded_any (some ⟨h, o, none⟩) k 0 v' R w1 HRL.out hSR.out HRM.out (by omega)).mono ?_
                    rintro e w2 ⟨hb, ⟨out, A3, c3, h1, h2, h3, rfl, ho⟩ | ⟨h1, rfl⟩⟩
                    · have HG : Hid (refUnpP (m :: t) (mx : Int) = (out, 0)) := by show _ = _; rw [HN2.out, if_neg HX0.out, if_pos ⟨h1, h2⟩, h3]
                      have HO := Lib.hid ho
                      have HB := Lib.hid hb
                      clear ho hb h1 h2 h3
                      go_wp2_with fail
                      go_ret2
                      exact RUnpPost.good HB.out HG.out rfl HO.out rfl
                    · have HG : Hid (refUnpP (m :: t) (mx : Int) = ([], 80)) := by
                        show _ = _
                        rw [HN2.out, if_neg HX0.out]
                        split
                        · rename_i h2; rw [h1 h2.1 h2.2]
                        · rfl
                      have HB := Lib.hid hb
                      clear hb h1
                      go_wp2_with fail
                      go_ret2
                      exact RUnpPost.fail (k := 80) HB.out HG.out (by omega) rfl
                · by_cases hx0 : x = 0
                  · have hxz : ((x : Int) == 0) = true := beq_iff_eq.2 (by omega)
                    have HX0 : Hid (m.toNat = 0) := by show _ = _; rw [← HX.out]; exact hx0
                    clear hx0
                    by_cases hkv : k = v'
                    · have hkb : ((k : Int) != (v' : Int)) = false := by rw [bne_eq_false_iff_eq]; omega
                      have HG : Hid (refUnpP (m :: t) (mx : Int) = (R, 0)) := by show _ = _; rw [HN2.out, if_pos HX0.out, if_pos (by rw [HRL.out]; exact hkv)]
                      clear hkv
                      go_wp2_with fail
                      refine (copy_any (some ⟨h, o + (1 + s'), none⟩) k (c - (1 + s')) R w1 HRL.out hSR.out HRM.out).mono ?_
                      rintro e w2 ⟨rfl, ho, hb⟩
                      have HO := Lib.hid ho
                      have HB := Lib.hid hb
                      clear ho hb
                      go_wp2_with fail
                      go_ret2
                      exact RUnpPost.good HB.out HG.out HRL.out HO.out rfl
                    · have hkb : ((k : Int) != (v' : Int)) = true := by simp; omega
                      go_wp2_with fail
                      go_ret2
                      exact RUnpPost.fail (k := 80) (Below.refl _ _) (by rw [HN2.out, if_pos HX0.out, if_neg (by rw [HRL.out]; exact hkv)]) (by omega) rfl
                  · have hxz : ((x : Int) == 0) = false := beq_eq_false_iff_ne.2 (by omega)
                    have HX0 : Hid (¬ m.toNat = 0) := by show ¬ _; rw [← HX.out]; exact hx0
                    go_wp2_with fail
                    refine (rcoded_any (some ⟨h, o + (1 + s'), none⟩) k (c - (1 + s')) v' R w1 HRL.out hSR.out HRM.out (by omega)).mono ?_
                    rintro e w2 ⟨hb, ⟨out, A3, c3, h1, h2, h3, rfl, ho⟩ | ⟨h1, rfl⟩⟩
                    · have HG : Hid (refUnpP (m :: t) (mx : Int) = (out, 0)) := by show _ = _; rw [HN2.out, if_neg HX0.out, if_pos ⟨h1, h2⟩, h3]
                      have HO := Lib.hid ho
                      have HB := Lib.hid hb
                      clear ho hb h1 h2 h3
                      go_wp2_with fail
                      go_ret2
                      exact RUnpPost.good HB.out HG.out rfl HO.out rfl
                    · have HG : Hid (refUnpP (m :: t) (mx : Int) = ([], 80)) := by
                        show _ = _
                        rw [HN2.out, if_neg HX0.out]
                        split
                        · rename_i h2; rw [h1 h2.1 h2.2]
                        · rfl
                      have HB := Lib.hid hb
                      clear hb h1
                      go_wp2_with fail
                      go_ret2
                      exact RUnpPost.fail (k := 80) HB.out HG.out (by omega) rfl
end Go.Proofs.YtejgoienkpaabaaDoor

/- Plain: the reference's decoding answers as press's. -/
namespace Go.Proofs.YtejgoienkpaabaaDoor
/-! ### may the row be? -/
def tot (p : Nat → Nat) (row : List Nat) : Nat → Nat
  | 0 => 0
  | s + 1 => tot p row s + p (row.getD s 0)
theorem tot_congr {p q : Nat → Nat} {row : List Nat} (h : ∀ s, p (row.getD s 0) = q (row.getD s 0)) (s : Nat) : tot p row s = tot q row s := by
  induction s with
  | zero => rfl
  | succ s ih => simp only [tot, ih, h]
theorem tot_add (p q : Nat → Nat) (row : List Nat) (s : Nat) : tot (fun l => p l + q l) row s = tot p row s + tot q row s := by
  induction s with
  | zero => rfl
  | succ s ih => simp only [tot, ih]; omega
theorem bIn_tot (row : List Nat) (n s : Nat) (st : BS) :
    (bIn row n s st).sum = st.sum + tot (fun l => if l = n then 2 ^ (15 - l) else 0) row s ∧ (bIn row n s st).ln.length = st.ln.length + tot (fun l => if l = n then 1 else 0) row s ∧
    ∀ j, (bIn row n s st).C j = st.C j + if j = n then tot (fun l => if l = n then 1 else 0) row s else 0 := by
  induction s with
  | zero => simp [bIn, tot]
  | succ s ih =>
    obtain ⟨h1, h2, h3⟩ := ih
    simp only [bIn, bStep, tot]
    split
    · rename_i h
      refine ⟨by simp only [h1, h]; omega, by simp [h2]; omega, fun j => ?_⟩
      simp only
      split
      · rename_i hj; subst hj; rw [h3]; simp; omega
      · rename_i hj; rw [h3]; simp [hj]
    · exact ⟨by omega, by omega, fun j => by rw [h3]; rfl⟩
theorem bOut_tot (row : List Nat) (k : Nat) :
    (bOut row k).sum = tot (fun l => if 1 ≤ l ∧ l ≤ k then 2 ^ (15 - l) else 0) row row.length ∧ (bOut row k).ln.length = tot (fun l => if 1 ≤ l ∧ l ≤ k then 1 else 0) row row.length ∧
    ∀ j, (bOut row k).C j = if 1 ≤ j ∧ j ≤ k then tot (fun l => if l = j then 1 else 0) row row.length else 0 := by
  induction k with
  | zero =>
    have h0 : ∀ (f : Nat → Nat) s, tot (fun l => if 1 ≤ l ∧ l ≤ 0 then f l else 0) row s = 0 := by
      intro f s
      induction s with
      | zero => rfl
      | succ s ih => simp only [tot, ih]; rw [if_neg (by omega)]
    exact ⟨(h0 (fun l => 2 ^ (15 - l)) _).symm, (h0 (fun _ => 1) _).symm, fun j => by rw [if_neg (by omega)]; rfl⟩
  | succ k ih =>
    obtain ⟨h1, h2, h3⟩ := ih
    obtain ⟨a1, a2, a3⟩ := bIn_tot row (k + 1) row.length (bOut row k)
    have hs : ∀ (f : Nat → Nat), tot (fun l => if 1 ≤ l ∧ l ≤ k then f l else 0) row row.length + tot (fun l => if l = k + 1 then f l else 0) row row.length = tot (fun l => if 1 ≤ l ∧ l ≤ k + 1 then f l else 0) row row.length := by
      intro f
      rw [← tot_add]
      apply tot_congr
      intro s
      generalize row.getD s 0 = l
      by_cases h : l = k + 1
      · rw [if_neg (by omega), if_pos h, if_pos (by omega), Nat.zero_add]
      · by_cases h' : 1 ≤ l ∧ l ≤ k
        · rw [if_pos h', if_neg h, if_pos (by omega), Nat.add_zero]
        · rw [if_neg h', if_neg h, if_neg (by omega)]
    refine ⟨?_, ?_, fun j => ?_⟩
    · show (bIn row (k + 1) row.length (bOut row k)).sum = _
      rw [a1, h1, ← hs]
    · show (bIn row (k + 1) row.length (bOut row k)).ln.length = _
      rw [a2, h2, ← hs]
    · show (bIn row (k + 1) row.length (bOut row k)).C j = _
      rw [a3, h3]
      by_cases h : j = k + 1
      · rw [if_neg (by omega), if_pos h, if_pos (by omega), Nat.zero_add, h]
      · rw [if_neg h, Nat.add_zero]
        by_cases h' : 1 ≤ j ∧ j ≤ k
        · rw [if_pos h', if_pos (by omega)]
        · rw [if_neg h', if_neg (by omega)]
theorem wGo_tot (row : List Nat) (s : Nat) : (wGo row s).sum = tot (fun l => if 1 ≤ l then 2 ^ (15 - l) else 0) row s ∧ (wGo row s).used = tot (fun l => if 1 ≤ l then 1 else 0) row s ∧ (wGo row s).ones = tot (fun l => if l = 1 then 1 else 0) row s := by
  induction s with
  | zero => exact ⟨rfl, rfl, rfl⟩
  | succ s ih =>
    obtain ⟨h1, h2, h3⟩ := ih
    simp only [wGo, wStep, tot]
    generalize row.getD s 0 = l
    split
    · rename_i h
      rw [if_neg (by omega), if_neg (by omega), if_neg (by omega)]
      exact ⟨h1, h2, h3⟩
    · rename_i h
      have h' : 1 ≤ l := by omega
      simp only [if_pos h']
      refine ⟨by rw [h1], by rw [h2], ?_⟩
      by_cases hl : l = 1
      · simp only [if_pos hl]; rw [h3]
      · simp only [if_neg hl]; rw [h3]; rfl
theorem wOk_bOk (row : List Nat) (nn : Bool) (h : ∀ s, row.getD s 0 ≤ 15) : wOk row nn = bOk row nn := by
  obtain ⟨a1, a2, a3⟩ := wGo_tot row row.length
  obtain ⟨b1, b2, b3⟩ := bOut_tot row 15
  have e : ∀ f : Nat → Nat, tot (fun l => if 1 ≤ l then f l else 0) row row.length = tot (fun l => if 1 ≤ l ∧ l ≤ 15 then f l else 0) row row.length := by
    intro f
    apply tot_congr
    intro s
    have := h s
    generalize row.getD s 0 = l at *
    by_cases h1 : 1 ≤ l
    · rw [if_pos h1, if_pos ⟨h1, this⟩]
    · rw [if_neg h1, if_neg (by omega)]
  rw [e] at a1
  rw [e (fun _ => 1)] at a2
  have b4 := b3 1
  rw [if_pos (by omega)] at b4
  simp only [wOk, bOk]
  rw [a1, a2, a3, ← b1, ← b2, ← b4]
/-! ### the codes -/
def fst_ (C : Nat → Nat) : Nat → Nat
  | 0 => 0
  | n + 1 => 2 * (fst_ C n + C n)
def texts (C : Nat → Nat) : Nat → List (List UInt8)
  | 0 => []
  | k + 1 => texts C k ++ (List.range (C (k + 1))).map fun i => digs (fst_ C (k + 1) + i) (k + 1)
theorem bOut_C (row : List Nat) (k m : Nat) (h : k ≤ m) (j : Nat) (hj : j ≤ k) : (bOut row m).C j = (bOut row k).C j := by
  rw [(bOut_tot row m).2.2, (bOut_tot row k).2.2]
  by_cases h1 : 1 ≤ j
  · rw [if_pos (by omega), if_pos (by omega)]
  · rw [if_neg (by omega), if_neg (by omega)]
def InvO (D : Nat → Nat) (row : List Nat) (k : Nat) : Prop :=
  (cOut row k).l.map Prod.fst = (bOut row k).ln ∧ (cOut row k).l.map Prod.snd = texts D k ∧
  (((cOut row k).l = [] ∧ (cOut row k).v = 0 ∧ fst_ D (k + 1) = 0) ∨ ((cOut row k).l ≠ [] ∧ (cOut row k).last ≤ k ∧ ((cOut row k).v + 1) * 2 ^ (k + 1 - (cOut row k).last) = fst_ D (k + 1)))
def InvI (D : Nat → Nat) (row : List Nat) (k s : Nat) : Prop :=
  (cIn row (k + 1) s (cOut row k)).l.map Prod.fst = (bIn row (k + 1) s (bOut row k)).ln ∧
  (cIn row (k + 1) s (cOut row k)).l.map Prod.snd = texts D k ++ (List.range ((bIn row (k + 1) s (bOut row k)).C (k + 1))).map (fun i => digs (fst_ D (k + 1) + i) (k + 1)) ∧
  (((bIn row (k + 1) s (bOut row k)).C (k + 1) = 0 ∧ cIn row (k + 1) s (cOut row k) = cOut row k) ∨
    (0 < (bIn row (k + 1) s (bOut row k)).C (k + 1) ∧ (cIn row (k + 1) s (cOut row k)).l ≠ [] ∧ (cIn row (k + 1) s (cOut row k)).last = k + 1 ∧ (cIn row (k + 1) s (cOut row k)).v + 1 = fst_ D (k + 1) + (bIn row (k + 1) s (bOut row k)).C (k + 1)))
theorem invI_of (D : Nat → Nat) (row : List Nat) (k : Nat) (h : InvO D row k) (s : Nat) : InvI D row k s := by
  induction s with
  | zero =>
    have h0 : (bOut row k).C (k + 1) = 0 := by rw [(bOut_tot row k).2.2, if_neg (by omega)]
    exact ⟨h.1, by show (cOut row k).l.map Prod.snd = texts D k ++ (List.range ((bOut row k).C (k + 1))).map _; rw [h0]; simpa using h.2.1, .inl ⟨h0, rfl⟩⟩
  | succ s ih =>
    obtain ⟨i1, i2, i3⟩ := ih
    have hcv : cVal (k + 1) (cIn row (k + 1) s (cOut row k)) = fst_ D (k + 1) + (bIn row (k + 1) s (bOut row k)).C (k + 1) := by
      rcases i3 with ⟨e1, e2⟩ | ⟨e1, e2, e3, e4⟩
      · rw [e2, e1, cVal]
        rcases h.2.2 with ⟨f1, f2, f3⟩ | ⟨f1, f2, f3⟩
        · rw [if_pos f1, f2, f3]
        · rw [if_neg f1, f3]; rfl
      · rw [cVal, if_neg e2, e3, Nat.sub_self, Nat.pow_zero, Nat.mul_one, e4]
    unfold InvI
    simp only [cIn, bIn, cStep, bStep]
    by_cases hr : row.getD s 0 = k + 1
    · simp only [if_pos hr]
      refine ⟨by simp [i1], ?_, .inr ⟨by simp, by simp, trivial, ?_⟩⟩
      · simp only [List.map_append, List.map_cons, List.map_nil, i2, hcv, if_pos, List.range_succ, List.append_assoc]
      · rw [hcv]; simp; omega
    · simp only [if_neg hr]
      exact ⟨i1, i2, i3⟩
theorem invO_all (D : Nat → Nat) (row : List Nat) (k : Nat) (hD : ∀ j, j ≤ k → D j = (bOut row k).C j) : InvO D row k := by
  induction k with
  | zero => exact ⟨rfl, rfl, .inl ⟨rfl, rfl, by simp only [fst_]; rw [hD 0 (Nat.le_refl _)]; rfl⟩⟩
  | succ k ih =>
    have hO := ih (fun j hj => by rw [hD j (by omega), bOut_C row k (k + 1) (by omega) j hj])
    obtain ⟨i1, i2, i3⟩ := invI_of D row k hO row.length
    have hd := hD (k + 1) (Nat.le_refl _)
    have hd' : (bIn row (k + 1) row.length (bOut row k)).C (k + 1) = D (k + 1) := hd.symm
    rw [hd'] at i2 i3
    have hf : fst_ D (k + 1 + 1) = 2 * (fst_ D (k + 1) + D (k + 1)) := rfl
    refine ⟨i1, i2, ?_⟩
    show ((cIn row (k + 1) row.length (cOut row k)).l = [] ∧ _) ∨ ((cIn row (k + 1) row.length (cOut row k)).l ≠ [] ∧ (cIn row (k + 1) row.length (cOut row k)).last ≤ k + 1 ∧ ((cIn row (k + 1) row.length (cOut row k)).v + 1) * 2 ^ (k + 1 + 1 - (cIn row (k + 1) row.length (cOut row k)).last) = _)
    rcases i3 with ⟨e1, e2⟩ | ⟨e1, e2, e3, e4⟩
    · rw [e2, hf, e1]
      rcases hO.2.2 with ⟨f1, f2, f3⟩ | ⟨f1, f2, f3⟩
      · exact .inl ⟨f1, by show (cIn row (k + 1) row.length (cOut row k)).v = 0; rw [e2]; exact f2, by rw [f3]⟩
      · refine .inr ⟨f1, by omega, ?_⟩
        rw [show k + 1 + 1 - (cOut row k).last = (k + 1 - (cOut row k).last) + 1 by omega, Nat.pow_succ, ← Nat.mul_assoc, f3]
        omega
    · refine .inr ⟨e2, by omega, ?_⟩
      rw [e3, hf, e4, show k + 1 + 1 - (k + 1) = 1 by omega]
      omega
end Go.Proofs.YtejgoienkpaabaaDoor
