/- Prs, PrsD, PrsE (merged: one text behind the other). -/
import Derived.Test.YtejgoienkpaabaaDoorMg30
/- press.Press. -/
namespace Go.Proofs.YtejgoienkpaabaaDoor
open Go.RowKit
set_option maxRecDepth 100000
def plainP (b : List UInt8) : List UInt8 := (0 :: varP b.length) ++ b
def pressP (b : List UInt8) : List UInt8 := if b.length < 64 then plainP b else if (shortP b).length < (plainP b).length then shortP b else plainP b
/-- what Press answers -/
def PressPost (w : World) (b : List UInt8) (e : Ending) (w' : World) : Prop :=
  Below w.heap.size w w' ∧
    ((65536 < b.length ∧ e = .returned (.tuple #[.slice none 0 0, .int .i64 81])) ∨
      (b.length ≤ 65536 ∧ (64 ≤ b.length → OkRow (usedP b) (slP b) ∧ OkRow (waysP b) (dlP b)) ∧ ∃ A n c, e = .returned (.tuple #[.slice A n c, .int .i64 0]) ∧ n = (pressP b).length ∧ w'.ownsRow w.heap.size 5 1 (.slice A n c) n (U (pressP b))))
set_option maxHeartbeats 1000000 in
theorem press_any (A : Option Addr) (n c : Nat) (b : List UInt8) (w : World) (hn : b.length = n) (hs : Sl w A b) (hl : b.length ≤ Lim) :
    Calls Tryd.prog 19 #[.slice A n c] w fun e w' => PressPost w b e w' := by
  have HN := Lib.hid hn
  have HS := Lib.hid hs
  by_cases hbig : 65536 < n
  · have hbd : decide ((65536 : Int) < (n : Int)) = true := decide_eq_true (by omega)
    have hlim : n ≤ Lim := by omega
    unfold Lim at hlim
    clear hn hs hl
    go_enter Tryd.func19, Tryd.ntmps19
    go_wp2_with fail
    go_ret2
    exact ⟨Below.refl _ _, .inl ⟨by rw [HN.out]; exact hbig, rfl⟩⟩
  · have hbd : decide ((65536 : Int) < (n : Int)) = false := decide_eq_false (by omega)
    have hnb : n ≤ 65536 := by omega
    clear hn hs hl
    go_enter Tryd.func19, Tryd.ntmps19
    go_wp2_with fail
    refine (head_any 0 n w (by omega) hnb).mono ?_
    rintro e w1 ⟨rfl, A1, n1, c1, hW1, hB1⟩
    obtain ⟨g, hg⟩ : ∃ g, g = w.heap.size := ⟨_, rfl⟩
    have hn1 : n1 ≤ 5 := by
      rw [hW1.len]
      have := vr_le n
      simp [varP_length]
      omega
    have hs1 : w.heap.size ≤ w1.heap.size := hB1.size
    have HRAW : Hid (Calls Tryd.prog 36 #[.pointer (some ⟨g, 0, none⟩), .slice A n c] w1 fun e w' => e = .returned (.tuple #[]) ∧ WrPost w1 g g ((UInt8.ofNat 0 :: varP n) ++ b) w') := by
      rw [← hg] at hW1
      exact raw_any g g n1 c1 n c A1 A _ _ w1 hW1 (by omega) HN.out (HS.out.below hB1) (by omega)
    have HB1 := Lib.hid hB1
    have HG := Lib.hid hg
    rw [← hg]
    clear hW1 hB1 hg
    go_wp2_with fail
    refine HRAW.out.mono ?_
    rintro e w2 ⟨rfl, A2, n2, c2, hW2, hB2⟩
    have HB2 : Hid (Below w.heap.size w w2) := HB1.out.trans (by rw [← HG.out]; exact hB2)
    have HL2 : Hid (n2 = (plainP b).length) := by
      unfold Hid plainP
      rw [hW2.len, HN.out]
      rfl
    have hn2 : n2 ≤ Lim := by
      rw [HL2.out]
      have := vr_le b.length
      have := HN.out
      simp [plainP, varP_length, Lim]
      omega
    have HOUT := Lib.hid (out_any g g n2 c2 A2 _ w2 hW2 hn2)
    clear hW2 hB2 HRAW HB1
    go_wp2_with fail
    refine HOUT.out.mono ?_
    rintro e w3 ⟨rfl, ho, hB3⟩
    have HO3 : Hid (w3.ownsRow w.heap.size 5 1 (.slice (some ⟨w2.heap.size, 0, none⟩) n2 n2) n2 (U (plainP b))) := by
      unfold Hid plainP
      rw [HN.out]
      exact own_base ho HB2.out.size
    have HB3 : Hid (Below w.heap.size w w3) := HB2.out.trans (hB3.mono HB2.out.size)
    obtain ⟨g2, hg2⟩ : ∃ g2, g2 = w2.heap.size := ⟨_, rfl⟩
    rw [← hg2] at HO3 ⊢
    have hn2b : n2 ≤ 70000 := by
      rw [HL2.out]
      have := vr_le b.length
      have := HN.out
      simp [plainP, varP_length]
      omega
    clear ho hB3 HOUT HB2 hg2
    by_cases h64 : n < 64
    · have h64d : decide ((n : Int) < 64) = true := decide_eq_true (by omega)
      go_wp2_with fail
      go_ret2
      refine ⟨HB3.out, .inr ⟨by rw [HN.out]; exact hnb, fun h => ?_, _, _, _, rfl, ?_, ?_⟩⟩
      · rw [HN.out] at h; omega
      · unfold pressP; rw [HN.out, if_pos h64]; exact HL2.out
      · unfold pressP; rw [HN.out, if_pos h64]; exact HO3.out
    · have h64d : decide ((n : Int) < 64) = false := decide_eq_false (by omega)
      obtain ⟨h, o, hA, hh, hc⟩ : ∃ h o, A = some ⟨h, o, none⟩ ∧ h < w.heap.size ∧ ∀ j, j < b.length → w.cell? ⟨h, o + j, none⟩ = some (.int .u8 ((b.getD j 0).toNat : Int)) := by
        rcases HS.out with h1 | h1
        · have := HN.out; rw [h1] at this; simp at this; omega
        · exact h1
      subst hA
      have HSH : Hid (Calls Tryd.prog 38 #[.slice (some ⟨h, o, none⟩) n c] w3 fun e w' => ShortPost w3 b e w') := by
        have h1 := shorter_any h o c b w3 (fun j hj => (HB3.out.cell (p := ⟨h, o + j, none⟩) hh).trans (hc j hj)) (Nat.lt_of_lt_of_le hh HB3.out.size) (by rw [HN.out]; omega) (by rw [HN.out]; exact hnb)
        rw [HN.out] at h1
        exact h1
      clear hc
      go_wp2_with fail
      refine HSH.out.mono ?_
      rintro e w4 ⟨hK1, hK2, A4, n4, c4, rfl, hn4, ho4, hB4⟩
      have HK : Hid (64 ≤ b.length → OkRow (usedP b) (slP b) ∧ OkRow (waysP b) (dlP b)) := fun _ => ⟨hK1, hK2⟩
      have HN4 := Lib.hid hn4
      have HO4 := Lib.hid (own_base ho4 HB3.out.size)
      have HO34 := Lib.hid (own_below HO3.out hB4)
      have HB4 := Lib.hid (HB3.out.trans (hB4.mono HB3.out.size))
      have hnb4 : n4 ≤ 1000000 := by
        rw [hn4]
        have h1 := found_len b (by rw [HN.out]; exact hnb)
        have h2 := toksBits_len (sl := slP b) (dl := dlP b) _ (fine_of b (by rw [HN.out]; exact hnb) hK1 hK2)
        have h3 := vr_le b.length
        have h4 := HN.out
        unfold shortP
        rw [List.length_append, List.length_append, pack_length]
        simp [tabP, varP_length]
        omega
      clear hK1 hK2 hn4 ho4 hB4 HSH HO3 HB3
      by_cases hlt : n4 < n2
      · have hltd : decide ((n4 : Int) < (n2 : Int)) = true := decide_eq_true (by omega)
        go_wp2_with fail
        go_ret2
        have e : pressP b = shortP b := by
          unfold pressP
          rw [HN.out, if_neg h64, if_pos (by rw [← HN4.out, ← HL2.out]; exact hlt)]
        refine ⟨HB4.out, .inr ⟨by rw [HN.out]; exact hnb, HK.out, _, _, _, rfl, ?_, ?_⟩⟩
        · rw [e]; exact HN4.out
        · rw [e]; exact HO4.out
      · have hltd : decide ((n4 : Int) < (n2 : Int)) = false := decide_eq_false (by omega)
        go_wp2_with fail
        go_ret2
        have e : pressP b = plainP b := by
          unfold pressP
          rw [HN.out, if_neg h64, if_neg (by rw [← HN4.out, ← HL2.out]; exact hlt)]
        refine ⟨HB4.out, .inr ⟨by rw [HN.out]; exact hnb, HK.out, _, _, _, rfl, ?_, ?_⟩⟩
        · rw [e]; exact HL2.out
        · rw [e]; exact HO34.out
end Go.Proofs.YtejgoienkpaabaaDoor

/- Plain: what is pressed reads back; a byte more, a byte less, another method do not. -/
namespace Go.Proofs.YtejgoienkpaabaaDoor
set_option maxRecDepth 20000
section
variable {bs ext : List UInt8}
theorem bitOf_ext {p : Nat} (h : p < 8 * bs.length) : bitOf (bs ++ ext) p = bitOf bs p := by
  unfold bitOf
  rw [List.getD_eq_getElem?_getD, List.getD_eq_getElem?_getD, List.getElem?_append_left (by omega)]
theorem nxt_ext (C : Nat → Nat) : ∀ (f n code first idx p : Nat) (r : Nat × Nat), nxt C bs f n code first idx p = some r → nxt C (bs ++ ext) f n code first idx p = some r ∧ r.2 ≤ 8 * bs.length := by
  intro f
  induction f with
  | zero => intro n code first idx p r h; cases h
  | succ f ih =>
    intro n code first idx p r h
    rw [nxt] at h ⊢
    by_cases hp : 8 * bs.length ≤ p
    · rw [if_pos hp] at h; cases h
    · rw [if_neg hp] at h
      rw [if_neg (by rw [List.length_append]; omega), bitOf_ext (by omega)]
      split at h
      · rename_i h1
        rw [if_pos h1]
        cases h
        exact ⟨rfl, by show p + 1 ≤ _; omega⟩
      · rename_i h1
        rw [if_neg h1]
        exact ih _ _ _ _ _ r h
theorem nbits_ext : ∀ (n v p : Nat) (r : Nat × Nat), p ≤ 8 * bs.length → nbits bs n v p = some r → nbits (bs ++ ext) n v p = some r ∧ r.2 ≤ 8 * bs.length := by
  intro n
  induction n with
  | zero => intro v p r hp h; rw [nbits] at h ⊢; cases h; exact ⟨rfl, hp⟩
  | succ n ih =>
    intro v p r hp h
    rw [nbits] at h ⊢
    by_cases hq : 8 * bs.length ≤ p
    · rw [if_pos hq] at h; cases h
    · rw [if_neg hq] at h
      rw [if_neg (by rw [List.length_append]; omega), bitOf_ext (by omega)]
      exact ih _ _ r (by omega) h
theorem extra_ext (free sub low k p : Nat) (r : Nat × Nat) (hp : p ≤ 8 * bs.length) (h : extra bs free sub low k p = some r) : extra (bs ++ ext) free sub low k p = some r ∧ r.2 ≤ 8 * bs.length := by
  unfold extra at h ⊢
  by_cases hk : k < free
  · rw [if_pos hk] at h ⊢
    cases h
    exact ⟨rfl, hp⟩
  · rw [if_neg hk] at h ⊢
    cases hn : nbits bs (k - sub) 0 p with
    | none => rw [hn] at h; cases h
    | some x =>
      rw [hn] at h
      obtain ⟨h1, h2⟩ := nbits_ext (ext := ext) _ _ _ x hp hn
      rw [h1]
      cases h
      exact ⟨rfl, h2⟩
theorem copied_ext (C : Nat → Nat) (ln : List Nat) (n k : Nat) (out : List UInt8) (p : Nat) (r : List UInt8 × Nat) (hp : p ≤ 8 * bs.length) (h : copiedP C ln bs n k out p = some r) : copiedP C ln (bs ++ ext) n k out p = some r ∧ r.2 ≤ 8 * bs.length := by
  unfold copiedP at h ⊢
  cases h1 : extra bs 8 5 3 k p with
  | none => rw [h1] at h; cases h
  | some a =>
    rw [h1] at h
    obtain ⟨e1, l1⟩ := extra_ext (ext := ext) _ _ _ _ _ a hp h1
    rw [e1]
    simp only [Option.bind_some] at h ⊢
    by_cases hl : ln.length = 0
    · rw [if_pos hl] at h; cases h
    · rw [if_neg hl] at h ⊢
      cases h2 : nxt C bs 15 1 0 0 0 a.2 with
      | none => rw [h2] at h; cases h
      | some b =>
        rw [h2] at h
        obtain ⟨e2, l2⟩ := nxt_ext (ext := ext) C _ _ _ _ _ _ b h2
        rw [e2]
        simp only [Option.bind_some] at h ⊢
        cases h3 : extra bs 4 2 1 (ln.getD b.1 0) b.2 with
        | none => rw [h3] at h; cases h
        | some c =>
          rw [h3] at h
          obtain ⟨e3, l3⟩ := extra_ext (ext := ext) _ _ _ _ _ c l2 h3
          rw [e3]
          simp only [Option.bind_some] at h ⊢
          split at h
          · cases h
          · rename_i h4
            rw [if_neg h4]
            cases h
            exact ⟨rfl, l3⟩
theorem dec_ext (S D : BS) (n : Nat) : ∀ (f : Nat) (out : List UInt8) (p : Nat) (r : List UInt8 × Nat), p ≤ 8 * bs.length → decP S D bs n f out p = some r → decP S D (bs ++ ext) n f out p = some r ∧ r.2 ≤ 8 * bs.length := by
  intro f
  induction f with
  | zero => intro out p r hp h; cases h
  | succ f ih =>
    intro out p r hp h
    rw [decP] at h ⊢
    by_cases hn : n ≤ out.length
    · rw [if_pos hn] at h ⊢
      cases h
      exact ⟨rfl, hp⟩
    · rw [if_neg hn] at h ⊢
      cases h1 : nxt S.C bs 15 1 0 0 0 p with
      | none => rw [h1] at h; cases h
      | some a =>
        rw [h1] at h
        obtain ⟨e1, l1⟩ := nxt_ext (ext := ext) S.C _ _ _ _ _ _ a h1
        rw [e1]
        simp only [Option.bind_some] at h ⊢
        by_cases hs : S.ln.getD a.1 0 < 256
        · rw [if_pos hs] at h ⊢
          exact ih _ _ r l1 h
        · rw [if_neg hs] at h ⊢
          cases h2 : copiedP D.C D.ln bs n (S.ln.getD a.1 0 - 256) out a.2 with
          | none => rw [h2] at h; cases h
          | some b =>
            rw [h2] at h
            obtain ⟨e2, l2⟩ := copied_ext (ext := ext) D.C D.ln n _ out a.2 b l1 h2
            rw [e2]
            simp only [Option.bind_some] at h ⊢
            exact ih _ _ r l2 h
end
theorem ofNat_toNat (x : Nat) (h : x < 256) : (UInt8.ofNat x).toNat = x := by
  rw [UInt8.toNat_ofNat']
  omega
/-- the number's shortest form reads back -/
theorem num_varP (n : Nat) (hn : n ≤ 65536) (t : List UInt8) : num (varP n ++ t) = some (n, (varP n).length) := by
  unfold num
  rw [varP_length]
  unfold varP vr
  by_cases h1 : n < 128
  · rw [if_pos h1]
    exact numGo_done _ _ 0 0 n n (by simp <;> omega) (by simp <;> omega) h1 (by omega) (by omega) (.inr rfl)
  · rw [if_neg h1]
    by_cases h2 : n < 16384
    · rw [if_pos h2]
      have e0 : n / 128 ^ 0 % 128 + 128 < 256 := by omega
      show numGo (UInt8.ofNat (n / 128 ^ 0 % 128 + 128) :: UInt8.ofNat (n / 128 ^ 1) :: t) 0 0 = _
      rw [numGo_more _ _ 0 0 (n % 128 + 128) (n % 128) (by rw [ofNat_toNat _ e0] <;> simp) (by simp) (by omega) (by omega)]
      exact numGo_done _ _ 1 _ (n / 128) n (by rw [ofNat_toNat _ (by simp <;> omega)] <;> simp) (by simp <;> omega) (by omega) (by omega) (by omega) (.inl (by omega))
    · rw [if_neg h2]
      have e0 : n / 128 ^ 0 % 128 + 128 < 256 := by omega
      have e1 : n / 128 ^ 1 % 128 + 128 < 256 := by omega
      show numGo (UInt8.ofNat (n / 128 ^ 0 % 128 + 128) :: UInt8.ofNat (n / 128 ^ 1 % 128 + 128) :: UInt8.ofNat (n / 128 ^ 2) :: t) 0 0 = _
      rw [numGo_more _ _ 0 0 (n % 128 + 128) (n % 128) (by rw [ofNat_toNat _ e0] <;> simp) (by simp) (by omega) (by omega)]
      rw [numGo_more _ _ 1 (n % 128) (n / 128 % 128 + 128) (n % 128 + n / 128 % 128 * 128) (by rw [ofNat_toNat _ e1] <;> simp) (by simp) (by omega) (by omega)]
      have e2 : n / 16384 % 128 = n / 16384 := by omega
      exact numGo_done _ _ 2 _ (n / 16384) n (by rw [ofNat_toNat _ (by simp <;> omega)] <;> simp) (by simp [e2] <;> omega) (by omega) (by omega) (by omega) (.inl (by omega))
/-- one byte alone, the last of the three -/
theorem num_short (n : Nat) : num ((varP n).dropLast) = none := by
  unfold varP num
  rw [List.dropLast_concat]
  unfold vr
  split
  · rfl
  · split
    · show numGo [UInt8.ofNat (n / 128 ^ 0 % 128 + 128)] 0 0 = none
      rw [numGo_more _ _ 0 0 (n % 128 + 128) (n % 128) (by rw [ofNat_toNat _ (by omega)] <;> simp) (by simp) (by omega) (by omega)]
      rfl
    · show numGo [UInt8.ofNat (n / 128 ^ 0 % 128 + 128), UInt8.ofNat (n / 128 ^ 1 % 128 + 128)] 0 0 = none
      rw [numGo_more _ _ 0 0 (n % 128 + 128) (n % 128) (by rw [ofNat_toNat _ (by omega)] <;> simp) (by simp) (by omega) (by omega)]
      rw [numGo_more _ _ 1 (n % 128) (n / 128 % 128 + 128) (n % 128 + n / 128 % 128 * 128) (by rw [ofNat_toNat _ (by omega)] <;> simp) (by simp) (by omega) (by omega)]
      rfl
/-- the table tells the lengths -/
theorem lenOf2_le (sl dl : List Nat) (h1 : ∀ i, sl.getD i 0 ≤ 15) (h2 : ∀ i, dl.getD i 0 ≤ 15) (i : Nat) : lenOf2 sl dl i ≤ 15 := by
  unfold lenOf2
  split
  · exact h1 _
  · exact h2 _
theorem tabP_length (sl dl : List Nat) (k : Nat) : (tabP sl dl k).length = k := by simp [tabP]
theorem tabP_getD (sl dl : List Nat) (h1 : ∀ i, sl.getD i 0 ≤ 15) (h2 : ∀ i, dl.getD i 0 ≤ 15) (rest : List UInt8) (j : Nat) (hj : j < 148) : ((tabP sl dl 148 ++ rest).getD j 0).toNat = 16 * lenOf2 sl dl (2 * j) + lenOf2 sl dl (2 * j + 1) := by
  rw [List.getD_eq_getElem?_getD, List.getElem?_append_left (by rw [tabP_length]; exact hj)]
  unfold tabP
  rw [List.getElem?_map, List.getElem?_range hj]
  simp only [Option.map_some, Option.getD_some]
  have a := lenOf2_le sl dl h1 h2 (2 * j)
  have b := lenOf2_le sl dl h1 h2 (2 * j + 1)
  exact ofNat_toNat _ (by omega)
theorem lenAt_tab (sl dl : List Nat) (h1 : ∀ i, sl.getD i 0 ≤ 15) (h2 : ∀ i, dl.getD i 0 ≤ 15) (rest : List UInt8) (i : Nat) (hi : i < 296) : lenAt (tabP sl dl 148 ++ rest) i = lenOf2 sl dl i := by
  unfold lenAt
  rw [tabP_getD sl dl h1 h2 rest (i / 2) (by omega)]
  have a := lenOf2_le sl dl h1 h2 (2 * (i / 2))
  have b := lenOf2_le sl dl h1 h2 (2 * (i / 2) + 1)
  by_cases he : i % 2 = 0
  · rw [if_pos he]
    have e : 2 * (i / 2) = i := by omega
    rw [e] at a b ⊢
    omega
  · rw [if_neg he]
    have e : 2 * (i / 2) + 1 = i := by omega
    rw [e] at b ⊢
    omega
theorem symRow_tab (sl dl : List Nat) (hs : sl.length = 277) (h1 : ∀ i, sl.getD i 0 ≤ 15) (h2 : ∀ i, dl.getD i 0 ≤ 15) (rest : List UInt8) : symRow (tabP sl dl 148 ++ rest) = sl := by
  refine list_ext_getD (by simp [symRow, hs]) (fun i => ?_)
  unfold symRow
  by_cases hi : i < 277
  · rw [List.getD_eq_getElem?_getD, List.getElem?_map, List.getElem?_range hi]
    show lenAt _ i = _
    rw [lenAt_tab sl dl h1 h2 rest i (by omega), lenOf2, if_pos hi]
  · rw [getD_big _ _ (by simp; omega), getD_big _ _ (by omega)]
theorem distRow_tab (sl dl : List Nat) (hs : dl.length = 18) (h1 : ∀ i, sl.getD i 0 ≤ 15) (h2 : ∀ i, dl.getD i 0 ≤ 15) (rest : List UInt8) : distRow (tabP sl dl 148 ++ rest) = dl := by
  refine list_ext_getD (by simp [distRow, hs]) (fun i => ?_)
  unfold distRow
  by_cases hi : i < 18
  · rw [List.getD_eq_getElem?_getD, List.getElem?_map, List.getElem?_range hi]
    show lenAt _ (277 + i) = _
    rw [lenAt_tab sl dl h1 h2 rest (277 + i) (by omega), lenOf2, if_neg (by omega), Nat.add_sub_cancel_left]
  · rw [getD_big _ _ (by simp; omega), getD_big _ _ (by omega)]
/-- the free bits -/
theorem pad_ok (bs : List UInt8) : ∀ (f p : Nat), p ≤ 8 * bs.length → 8 * bs.length < p + f → 8 * bs.length < p + 8 → (∀ q, p ≤ q → q < 8 * bs.length → bitOf bs q = 0) → padP bs f p = true := by
  intro f
  induction f with
  | zero => intro p h1 h2 _ _; omega
  | succ f ih =>
    intro p h1 h2 h4 h3
    rw [padP]
    by_cases hp : p % 8 = 0
    · rw [if_pos hp]
      exact decide_eq_true (by omega)
    · rw [if_neg hp, if_pos (h3 p (Nat.le_refl _) (by omega))]
      exact ih (p + 1) (by omega) (by omega) (by omega) (fun q hq => h3 q (by omega))
theorem pad_no (bs : List UInt8) : ∀ (f p : Nat), p + 7 < 8 * bs.length → padP bs f p = false := by
  intro f
  induction f with
  | zero => intro p _; rfl
  | succ f ih =>
    intro p h
    rw [padP]
    by_cases hp : p % 8 = 0
    · rw [if_pos hp]
      exact decide_eq_false (by omega)
    · rw [if_neg hp]
      split
      · exact ih (p + 1) (by omega)
      · rfl
/-- what the coded form says -/
structure Said (sl dl : List Nat) (ts : List Tok) (b : List UInt8) : Prop where
  s : bOk sl false = true
  d : bOk dl true = true
  ls : sl.length = 277
  ld : dl.length = 18
  l1 : ∀ i, sl.getD i 0 ≤ 15
  l2 : ∀ i, dl.getD i 0 ≤ 15
  c : Chain ts [] b
  f : ∀ t ∈ ts, Fine sl dl t
  n : 0 < ts.length
section
variable {sl dl : List Nat} {ts : List Tok} {b : List UInt8}
theorem Said.tl (h : Said sl dl ts b) : ts.length ≤ b.length := by
  have := chain_len _ _ _ h.c
  simpa using this
theorem Said.dec (h : Said sl dl ts b) : decP (bOut sl 15) (bOut dl 15) (pack (toksBits sl dl ts)) b.length (b.length + 1) [] 0 = some (b, (toksBits sl dl ts).length) := by
  have hle := toksBits_le sl dl ts
  have hst : Stand (pack (toksBits sl dl ts)) 0 (toksBits sl dl ts) := by
    refine ⟨by rw [pack_length]; omega, fun j hj => ?_⟩
    rw [Nat.zero_add]
    exact pack_bit _ hle j (by rw [pack_length]; omega)
  have := dec_toks sl dl h.s h.d h.ls h.ld h.l1 h.l2 (pack (toksBits sl dl ts)) b ts (b.length + 1) 0 [] h.c (fun t ht => (h.f t ht).l1) (fun t ht hc => ((h.f t ht).d hc).2.2.1) hst (by have := h.tl; omega)
  rw [Nat.zero_add] at this
  exact this
theorem Said.long (h : Said sl dl ts b) : 0 < (toksBits sl dl ts).length := by
  have hn := h.n
  cases hts : ts with
  | nil => rw [hts] at hn; simp at hn
  | cons t r =>
    have hf := h.f t (by rw [hts]; exact List.mem_cons_self ..)
    have e : toksBits sl dl (t :: r) = tokBits sl dl t ++ toksBits sl dl r := rfl
    rw [e, List.length_append]
    unfold tokBits
    rw [List.length_append, bits_length]
    have := hf.l1
    omega
theorem Said.coded (h : Said sl dl ts b) (ext : List UInt8) : codedP (tabP sl dl 148 ++ (pack (toksBits sl dl ts) ++ ext)) b.length = if ext = [] then some b else none := by
  unfold codedP
  rw [symRow_tab sl dl h.ls h.l1 h.l2, distRow_tab sl dl h.ld h.l1 h.l2, h.s, h.d, tabP_getD sl dl h.l1 h.l2 _ 147 (by omega)]
  have e295 : lenOf2 sl dl (2 * 147 + 1) = 0 := by
    unfold lenOf2
    rw [if_neg (by omega)]
    exact getD_big _ _ (by rw [h.ld]; omega)
  rw [e295, if_neg (by simp), List.drop_append_of_le_length (by rw [tabP_length]; omega), List.drop_of_length_le (by rw [tabP_length]; omega), List.nil_append]
  obtain ⟨hd, _⟩ := dec_ext (ext := ext) _ _ _ _ _ _ _ (by omega) h.dec
  rw [hd, Option.bind_some]
  have hle := toksBits_le sl dl ts
  have hpl := pack_length (toksBits sl dl ts)
  by_cases he : ext = []
  · subst he
    rw [List.append_nil, if_pos rfl, if_pos]
    refine pad_ok _ 8 _ (by omega) (by omega) (by omega) (fun q h1 h2 => ?_)
    rw [pack_bit _ hle q h2]
    exact getD_big _ _ h1
  · rw [if_neg he]
    have : 0 < ext.length := List.length_pos_iff.2 he
    have hp : padP (pack (toksBits sl dl ts) ++ ext) 8 (toksBits sl dl ts).length = false ∨ True := .inr trivial
    clear hp
    have key : padP (pack (toksBits sl dl ts) ++ ext) 8 (toksBits sl dl ts).length = false := pad_no _ 8 _ (by rw [List.length_append]; omega)
    rw [key]
    rfl
theorem Said.cut (h : Said sl dl ts b) : codedP (tabP sl dl 148 ++ (pack (toksBits sl dl ts)).dropLast) b.length = none := by
  unfold codedP
  rw [symRow_tab sl dl h.ls h.l1 h.l2, distRow_tab sl dl h.ld h.l1 h.l2, h.s, h.d, tabP_getD sl dl h.l1 h.l2 _ 147 (by omega)]
  have e295 : lenOf2 sl dl (2 * 147 + 1) = 0 := by
    unfold lenOf2
    rw [if_neg (by omega)]
    exact getD_big _ _ (by rw [h.ld]; omega)
  rw [e295, if_neg (by simp), List.drop_append_of_le_length (by rw [tabP_length]; omega), List.drop_of_length_le (by rw [tabP_length]; omega), List.nil_append]
  have hpl := pack_length (toksBits sl dl ts)
  have hlong := h.long
  have hne : pack (toksBits sl dl ts) ≠ [] := by intro e; rw [e] at hpl; simp at hpl; omega
  cases hc : decP (bOut sl 15) (bOut dl 15) (pack (toksBits sl dl ts)).dropLast b.length (b.length + 1) [] 0 with
  | none => rfl
  | some r =>
    obtain ⟨h1, h2⟩ := dec_ext (ext := [(pack (toksBits sl dl ts)).getLast hne]) _ _ _ _ _ _ r (by omega) hc
    rw [List.dropLast_concat_getLast hne, h.dec] at h1
    cases h1
    rw [List.length_dropLast] at h2
    simp only at h2
    omega
end
end Go.Proofs.YtejgoienkpaabaaDoor

/- Plain: what Press answers, by the reader. -/
namespace Go.Proofs.YtejgoienkpaabaaDoor
set_option maxRecDepth 20000
structure Good (p b : List UInt8) : Prop where
  back : ∀ max : Int, (b.length : Int) ≤ max → unpP p max = (b, 0)
  small : ∀ max : Int, max < (b.length : Int) → unpP p max = ([], 81)
  len : p.length ≤ b.length + 8
  two : 2 ≤ p.length
  more : ∀ x, unpP (p ++ [x]) b.length = ([], 80)
  less : unpP p.dropLast b.length = ([], 80)
theorem unp_other (m : UInt8) (t : List UInt8) (max : Int) (h : 1 < m.toNat) : unpP (m :: t) max = ([], 80) := by
  unfold unpP
  simp only
  rw [if_pos h]
theorem unp_nil (max : Int) : unpP [] max = ([], 80) := rfl
section
variable {n : Nat} (hn : n ≤ 65536) (t : List UInt8) (max : Int)
include hn
theorem unp0 : unpP (0 :: (varP n ++ t)) max = if max < (n : Int) then ([], 81) else if t.length = n then (t, 0) else ([], 80) := by
  unfold unpP
  simp only
  rw [if_neg (by decide), num_varP n hn]
  simp only
  rw [List.drop_left]
  by_cases hm : max < (n : Int)
  · rw [if_pos (.inr (.inl hm)), if_pos hm]
  · rw [if_neg (by omega), if_neg hm, if_pos (by decide)]
theorem unp1 : unpP (1 :: (varP n ++ t)) max = if max < (n : Int) then ([], 81) else if 0 < n ∧ 148 ≤ t.length then (match codedP t n with | some out => (out, 0) | none => ([], 80)) else ([], 80) := by
  unfold unpP
  simp only
  rw [if_neg (by decide), num_varP n hn]
  simp only
  rw [List.drop_left]
  by_cases hm : max < (n : Int)
  · rw [if_pos (.inr (.inl hm)), if_pos hm]
  · rw [if_neg (by omega), if_neg hm, if_neg (by decide)]
    rfl
end
theorem plainP_eq (b : List UInt8) : plainP b = 0 :: (varP b.length ++ b) := rfl
theorem good_plain (b : List UInt8) (hb : b.length ≤ 65536) : Good (plainP b) b := by
  rw [plainP_eq]
  have hv := vr_le b.length
  refine ⟨fun max h => ?_, fun max h => ?_, ?_, ?_, fun x => ?_, ?_⟩
  · rw [unp0 hb, if_neg (by omega), if_pos rfl]
  · rw [unp0 hb, if_pos h]
  · simp [varP_length]; omega
  · simp [varP_length]; omega
  · show unpP (0 :: (varP b.length ++ b ++ [x])) _ = _
    rw [List.append_assoc, unp0 hb, if_neg (by omega), if_neg (by simp)]
  · by_cases he : b = []
    · subst he
      rfl
    · have e : (0 :: (varP b.length ++ b)).dropLast = 0 :: (varP b.length ++ b.dropLast) := by
        rw [List.dropLast_cons_of_ne_nil (by simp [he]), List.dropLast_append_of_ne_nil he]
      have hp : 0 < b.length := List.length_pos_iff.2 he
      rw [e, unp0 hb, if_neg (by omega), if_neg (by rw [List.length_dropLast]; omega)]
theorem said_of (b : List UInt8) (hb : b.length ≤ 65536) (hb1 : 1 ≤ b.length) (h1 : OkRow (usedP b) (slP b)) (h2 : OkRow (waysP b) (dlP b)) : Said (slP b) (dlP b) (foundP b) b := by
  have hc := found_chain b hb
  have hf := fine_of b hb h1 h2
  have hn : 0 < (foundP b).length := by
    cases hts : foundP b with
    | nil =>
      rw [hts] at hc
      have e : [] = b := hc
      rw [← e] at hb1
      simp at hb1
    | cons t r => simp
  obtain ⟨t, ht⟩ : ∃ t, t ∈ foundP b := ⟨(foundP b)[0], List.getElem_mem _⟩
  have hu : 0 < (usedP b).getD t.sym 0 := usedL_pos (foundP b) _ (fun x hx => by simpa using (found_toks b hb x hx).1) t ht
  exact ⟨h1.ok false (.inr ⟨_, hu⟩), h2.ok true (.inl rfl), by rw [h1.len]; unfold usedP; rw [usedL_length]; simp, by rw [h2.len]; unfold waysP; rw [waysL_length]; simp, h1.le, h2.le, hc, hf, hn⟩
theorem shortP_eq (b : List UInt8) : shortP b = 1 :: (varP b.length ++ (tabP (slP b) (dlP b) 148 ++ pack (toksBits (slP b) (dlP b) (foundP b)))) := by
  unfold shortP
  simp
theorem good_short (b : List UInt8) (hb : b.length ≤ 65536) (hb1 : 1 ≤ b.length) (h : Said (slP b) (dlP b) (foundP b) b) (hl : (shortP b).length < (plainP b).length) : Good (shortP b) b := by
  have hv := vr_le b.length
  have h0 := h.coded []
  rw [if_pos rfl, List.append_nil] at h0
  have hlong := h.long
  have hpl := pack_length (toksBits (slP b) (dlP b) (foundP b))
  have hpn : (plainP b).length = 1 + ((vr b.length + 1) + b.length) := by simp [plainP, varP_length]; omega
  have hs2 : (shortP b).length = 1 + ((vr b.length + 1) + (148 + (pack (toksBits (slP b) (dlP b) (foundP b))).length)) := by
    rw [shortP_eq]; simp [varP_length, tabP_length]; omega
  rw [shortP_eq] at hl ⊢
  rw [shortP_eq] at hs2
  refine ⟨fun max h => ?_, fun max h => ?_, by omega, by omega, fun x => ?_, ?_⟩
  · rw [unp1 hb, if_neg (by omega), if_pos ⟨by omega, by rw [List.length_append, tabP_length]; omega⟩, h0]
  · rw [unp1 hb, if_pos h]
  · have h1 := h.coded [x]
    rw [if_neg (by simp)] at h1
    show unpP (1 :: (varP b.length ++ (tabP (slP b) (dlP b) 148 ++ pack (toksBits (slP b) (dlP b) (foundP b))) ++ [x])) _ = _
    rw [List.append_assoc, List.append_assoc, unp1 hb, if_neg (by omega), if_pos ⟨by omega, by rw [List.length_append, tabP_length]; omega⟩, h1]
  · have hne : pack (toksBits (slP b) (dlP b) (foundP b)) ≠ [] := by intro e; rw [e] at hpl; simp at hpl; omega
    have e : (1 :: (varP b.length ++ (tabP (slP b) (dlP b) 148 ++ pack (toksBits (slP b) (dlP b) (foundP b))))).dropLast = 1 :: (varP b.length ++ (tabP (slP b) (dlP b) 148 ++ (pack (toksBits (slP b) (dlP b) (foundP b))).dropLast)) := by
      rw [List.dropLast_cons_of_ne_nil (by simp [hne]), List.dropLast_append_of_ne_nil (by simp [hne]), List.dropLast_append_of_ne_nil hne]
    rw [e, unp1 hb, if_neg (by omega), if_pos ⟨by omega, by rw [List.length_append, tabP_length]; omega⟩, h.cut]
theorem good_press (b : List UInt8) (hb : b.length ≤ 65536) (hk : 64 ≤ b.length → OkRow (usedP b) (slP b) ∧ OkRow (waysP b) (dlP b)) : Good (pressP b) b := by
  unfold pressP
  by_cases h1 : b.length < 64
  · rw [if_pos h1]; exact good_plain b hb
  · rw [if_neg h1]
    split
    · rename_i h2
      obtain ⟨k1, k2⟩ := hk (by omega)
      exact good_short b hb (by omega) (said_of b hb (by omega) k1 k2) h2
    · exact good_plain b hb
end Go.Proofs.YtejgoienkpaabaaDoor
