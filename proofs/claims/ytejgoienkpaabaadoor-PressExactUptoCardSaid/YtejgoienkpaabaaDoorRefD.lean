/- Contract of the reference's copied. -/
import Derived.Test.YtejgoienkpaabaaDoorRefC
import Derived.Test.YtejgoienkpaabaaDoorCop
import Derived.Test.YtejgoienkpaabaaDoorCop
namespace Go.Proofs.YtejgoienkpaabaaDoor
open Go.RowKit
set_option maxRecDepth 100000
def RCopPost (w : World) (g : Nat) (d : List (Nat × List UInt8)) (c : Nat) (S : List UInt8) (e : Ending) (w' : World) : Prop :=
  w.grownBy w' (some g) ∧ ((refCopied d c S = none ∧ ∃ (S' : List UInt8) (x y : Int), Lk w' g S' true ∧ e = .returned (.tuple #[.int .i64 x, .int .i64 y])) ∨
    ∃ (x y : Nat) (S' : List UInt8), refCopied d c S = some (x, y, S') ∧ Lk w' g S' false ∧ e = .returned (.tuple #[.int .i64 (x : Int), .int .i64 (y : Int)]))
theorem valueP_lt {S S' : List UInt8} {n x : Nat} (hd : Dig S) (h : valueP S n = some (x, S')) : x < 2 ^ n ∧ Dig S' ∧ S'.length ≤ S.length := by
  unfold valueP at h
  split at h
  · cases h
  · injection h with h
    injection h with h1 h2
    subst h1 h2
    exact ⟨valGo_lt S hd n, fun c hc => hd c (List.mem_of_mem_drop hc), by simp⟩
theorem codeP_dig {l : List (Nat × List UInt8)} {S S' : List UInt8} {s : Nat} (hd : Dig S) (h : codeP l S = some (s, S')) : Dig S' ∧ S'.length ≤ S.length ∧ ∃ t, (s, t) ∈ l := by
  induction l with
  | nil => cases h
  | cons a l ih =>
    obtain ⟨s0, t⟩ := a
    unfold codeP at h
    split at h
    · injection h with h
      injection h with h1 h2
      subst h1 h2
      exact ⟨fun c hc => hd c (List.mem_of_mem_drop hc), by simp, t, by simp⟩
    · obtain ⟨a1, a2, t', a3⟩ := ih h
      exact ⟨a1, a2, t', List.mem_cons_of_mem _ a3⟩
theorem refCopied_len {d : List (Nat × List UInt8)} {c x y : Nat} {S S' : List UInt8} (hd : Dig S) (h : refCopied d c S = some (x, y, S')) : Dig S' ∧ S'.length ≤ S.length := by
  have hE : ∀ {S S' : List UInt8} {a b f k x : Nat}, Dig S → refExtra S a b f k = some (x, S') → Dig S' ∧ S'.length ≤ S.length := by
    intro S S' a b f k x hd h
    unfold refExtra at h
    split at h
    · injection h with h; injection h with h1 h2; subst h2; exact ⟨hd, Nat.le_refl _⟩
    · cases hv : valueP S (k - b) with
      | none => rw [hv] at h; cases h
      | some z =>
        obtain ⟨z1, z2⟩ := z
        rw [hv] at h
        injection h with h; injection h with h1 h2; subst h2
        exact (valueP_lt hd hv).2
  unfold refCopied at h
  cases h1 : refExtra S 8 5 3 c with
  | none => rw [h1] at h; cases h
  | some a =>
    rw [h1, Option.bind_some] at h
    cases h2 : codeP d a.2 with
    | none => rw [h2] at h; cases h
    | some b =>
      rw [h2, Option.bind_some] at h
      cases h3 : refExtra b.2 4 2 1 b.1 with
      | none => rw [h3] at h; cases h
      | some z =>
        rw [h3] at h
        injection h with h; injection h with e1 e2; injection e2 with e3 e4
        subst e4
        have q1 := hE hd h1
        have q2 := codeP_dig q1.1 h2
        have q3 := hE q2.1 h3
        exact ⟨q3.1, by omega⟩
set_option maxHeartbeats 1000000 in
theorem rcop_any (g cp c : Nat) (A : Option Addr) (d : List (Nat × List UInt8)) (S : List UInt8) (w : World) (h : Lk w g S false) (hr : CRow w A d) (hl : d.length ≤ 100000) (hl2 : ∀ j, (d.getD j (0, [])).2.length ≤ 1000) (hdg : Dig S) (hc : c ≤ 20) (hs : ∀ s t, (s, t) ∈ d → s < 18) :
    Calls Tryd.prog 56 #[.pointer (some ⟨g, 0, none⟩), .int .i64 c, .slice A d.length cp] w fun e w' => RCopPost w g d c S e w' := by
  have H := Lib.hid h
  have HR := Lib.hid hr
  have HL2 := Lib.hid hl2
  have HDG := Lib.hid hdg
  have HSY := Lib.hid hs
  clear h hr hl2 hdg hs
  go_enter Tryd.func56, Tryd.ntmps56
  by_cases hc8 : c < 8
  · have hd1 : decide ((8 : Int) ≤ (c : Int)) = false := decide_eq_false (by omega)
    have HX : Hid (refExtra S 8 5 3 c = some (3 + c, S)) := by show _ = _; rw [refExtra, if_pos hc8]
    go_wp2_with fail
    obtain ⟨wx, hwx⟩ : ∃ wx, wx = w := ⟨_, rfl⟩
    have HLk := H
    have HRX := HR
    have HG := Lib.hid (gb_refl w (some g))
    have HD1 := HDG
    obtain ⟨S1, hS1⟩ : ∃ S1, S1 = S := ⟨_, rfl⟩
    rw [← hwx, ← hS1] at HLk
    rw [← hwx] at HRX
    rw [← hS1] at HD1
    rw [show Hid (w.grownBy w (some g)) = Hid (w.grownBy wx (some g)) by rw [hwx]] at HG
    rw [show some (3 + c, S) = some (3 + c, S1) by rw [hS1]] at HX
    rw [← hwx]
    clear hwx hS1
    have H1 := Lib.hid (show Lk wx g S1 false from HLk.out)
    clear HLk
    refine (code_any g cp A d S1 false wx H1.out HRX.out hl HL2.out).mono ?_
    rintro e w2 ⟨hg2, ⟨hcp, hlk, rfl⟩ | ⟨x, S2, hcp, hlk, rfl⟩⟩
    · have HN : Hid (refCopied d c S = none) := by show _ = _; rw [refCopied, HX.out, Option.bind_some, hcp]; rfl
      have HK := Lib.hid hlk
      have HG2 := Lib.hid (gb_trans HG.out hg2)
      clear hcp hlk hg2
      go_wp2_with fail
      go_ret2
      exact ⟨HG2.out, .inl ⟨HN.out, S1, _, _, HK.out, rfl⟩⟩
    · obtain ⟨hd2, -, t, ht⟩ := codeP_dig HD1.out hcp
      have hx18 := HSY.out _ _ ht
      have HD2 := Lib.hid hd2
      have HK := Lib.hid hlk
      have HCP := Lib.hid hcp
      have HG2 := Lib.hid (gb_trans HG.out hg2)
      have hbad := HK.out.b
      clear hcp hlk hg2 hd2 ht
      by_cases hx4 : x < 4
      · have hd4 : decide ((4 : Int) ≤ (x : Int)) = false := decide_eq_false (by omega)
        have HS : Hid (refCopied d c S = some (3 + c, 1 + x, S2)) := by
          show _ = _
          rw [refCopied, HX.out, Option.bind_some, HCP.out, Option.bind_some, refExtra, if_pos hx4]; rfl
        go_wp2_with fail
        go_ret2
        exact ⟨HG2.out, .inr ⟨_, _, S2, HS.out, HK.out, by push_cast; rfl⟩⟩
      · have hd4 : decide ((4 : Int) ≤ (x : Int)) = true := decide_eq_true (by omega)
        obtain ⟨m2, hm2⟩ : ∃ m2, m2 = x - 2 := ⟨_, rfl⟩
        have em2 : (x : Int) - 2 = (m2 : Int) := by omega
        have hpc2 := pow_cast m2 (by omega)
        have hpc2' : (2 : Int) ^ m2 = ((2 ^ m2 : Nat) : Int) := by push_cast; rfl
        obtain ⟨y2, hy2⟩ : ∃ y2 : Nat, y2 = 2 ^ m2 := ⟨_, rfl⟩
        have hy2b : y2 ≤ 65536 := by rw [hy2]; exact Nat.pow_le_pow_right (by decide) (show m2 ≤ 16 by omega)
        rw [← hy2] at hpc2 hpc2'
        have hm2b : m2 ≤ 16 := by omega
        have hmn2 : min m2 64 = m2 := Nat.min_eq_left (by omega)
        have HE : Hid (∀ z S3, valueP S2 m2 = some (z, S3) → refCopied d c S = some (3 + c, 1 + y2 + z, S3)) := by
          intro z S3 hv
          rw [refCopied, HX.out, Option.bind_some, HCP.out, Option.bind_some, refExtra, if_neg hx4, ← hm2, hv, ← hy2]; rfl
        have HE0 : Hid (valueP S2 m2 = none → refCopied d c S = none) := by
          intro hv
          rw [refCopied, HX.out, Option.bind_some, HCP.out, Option.bind_some, refExtra, if_neg hx4, ← hm2, hv]; rfl
        clear hm2 hy2
        go_wp2_with fail
        refine (value_any g m2 S2 false w2 HK.out HD2.out (by omega)).mono ?_
        rintro e w3 ⟨hg3, ⟨hv, hlk, rfl⟩ | ⟨z, S3, hv, hlk, rfl⟩⟩
        · have HN := Lib.hid (HE0.out hv)
          have HK3 := Lib.hid hlk
          have HG3 := Lib.hid (gb_trans HG2.out hg3)
          clear hv hlk hg3
          go_wp2_with fail
          go_ret2
          exact ⟨HG3.out, .inl ⟨HN.out, S2, _, _, HK3.out, rfl⟩⟩
        · have hzb : z < 131072 := Nat.lt_of_lt_of_le (valueP_lt HD2.out hv).1 (Nat.pow_le_pow_right (by decide) (show m2 ≤ 17 by omega))
          have HN := Lib.hid (HE.out z S3 hv)
          have HK3 := Lib.hid hlk
          have HG3 := Lib.hid (gb_trans HG2.out hg3)
          clear hv hlk hg3
          go_wp2_with fail
          go_ret2
          exact ⟨HG3.out, .inr ⟨_, _, S3, HN.out, HK3.out, by push_cast; rfl⟩⟩
  · have hd1 : decide ((8 : Int) ≤ (c : Int)) = true := decide_eq_true (by omega)
    obtain ⟨m, hm⟩ : ∃ m, m = c - 5 := ⟨_, rfl⟩
    have em : (c : Int) - 5 = (m : Int) := by omega
    have hpc := pow_cast m (by omega)
    have hpc' : (2 : Int) ^ m = ((2 ^ m : Nat) : Int) := by push_cast; rfl
    obtain ⟨y, hy⟩ : ∃ y : Nat, y = 2 ^ m := ⟨_, rfl⟩
    have hyb : y ≤ 65536 := by rw [hy]; exact Nat.pow_le_pow_right (by decide) (show m ≤ 16 by omega)
    rw [← hy] at hpc hpc'
    have hmb : m ≤ 15 := by omega
    have hmn : min m 64 = m := Nat.min_eq_left (by omega)
    have HE : Hid (∀ z S3, valueP S m = some (z, S3) → refExtra S 8 5 3 c = some (3 + y + z, S3)) := by
      intro z S3 hv
      rw [refExtra, if_neg hc8, ← hm, hv, ← hy]; rfl
    have HE0 : Hid (valueP S m = none → refCopied d c S = none) := by
      intro hv
      rw [refCopied, refExtra, if_neg hc8, ← hm, hv]; rfl
    clear hm hy
    go_wp2_with fail
    refine (value_any g m S false w H.out HDG.out (by omega)).mono ?_
    rintro e wx ⟨hg1, ⟨hv, hlk, rfl⟩ | ⟨z0, S1, hv, hlk, rfl⟩⟩
    · have HN := Lib.hid (HE0.out hv)
      have HLk := Lib.hid hlk
      have HG := Lib.hid hg1
      have HRX := Lib.hid (HR.out.gb H.out.blk (by decide) hg1)
      clear hv hlk hg1
      go_wp2_with fail
      refine (code_any g cp A d S true wx HLk.out HRX.out hl HL2.out).mono ?_
      rintro e w2 ⟨hg2, ⟨hcp, hlk, rfl⟩ | ⟨x, S2, hcp, hlk, rfl⟩⟩
      · have HK := Lib.hid hlk
        have HG2 := Lib.hid (gb_trans HG.out hg2)
        clear hcp hlk hg2
        go_wp2_with fail
        go_ret2
        exact ⟨HG2.out, .inl ⟨HN.out, S, _, _, HK.out, rfl⟩⟩
      · obtain ⟨-, -, t, ht⟩ := codeP_dig HDG.out hcp
        have hx18 := HSY.out _ _ ht
        have HK := Lib.hid hlk
        have HG2 := Lib.hid (gb_trans HG.out hg2)
        have hbad := HK.out.b
        clear hcp hlk hg2 ht
        by_cases hx4 : x < 4
        · have hd4 : decide ((4 : Int) ≤ (x : Int)) = false := decide_eq_false (by omega)
          go_wp2_with fail
          go_ret2
          exact ⟨HG2.out, .inl ⟨HN.out, S2, _, _, HK.out, rfl⟩⟩
        · have hd4 : decide ((4 : Int) ≤ (x : Int)) = true := decide_eq_true (by omega)
          go_wp2_with fail
          go_ret2
          exact ⟨HG2.out, .inl ⟨HN.out, S2, _, _, HK.out, rfl⟩⟩
    · have hzb0 : z0 < 131072 := Nat.lt_of_lt_of_le (valueP_lt HDG.out hv).1 (Nat.pow_le_pow_right (by decide) (show m ≤ 17 by omega))
      have HX := Lib.hid (HE.out z0 S1 hv)
      have HLk := Lib.hid hlk
      have HG := Lib.hid hg1
      have HD1 := Lib.hid (valueP_lt HDG.out hv).2.1
      have HRX := Lib.hid (HR.out.gb H.out.blk (by decide) hg1)
      clear hv hlk hg1
      go_wp2_with fail
      have H1 := Lib.hid (show Lk wx g S1 false from HLk.out)
      clear HLk
      refine (code_any g cp A d S1 false wx H1.out HRX.out hl HL2.out).mono ?_
      rintro e w2 ⟨hg2, ⟨hcp, hlk, rfl⟩ | ⟨x, S2, hcp, hlk, rfl⟩⟩
      · have HN : Hid (refCopied d c S = none) := by show _ = _; rw [refCopied, HX.out, Option.bind_some, hcp]; rfl
        have HK := Lib.hid hlk
        have HG2 := Lib.hid (gb_trans HG.out hg2)
        clear hcp hlk hg2
        go_wp2_with fail
        go_ret2
        exact ⟨HG2.out, .inl ⟨HN.out, S1, _, _, HK.out, rfl⟩⟩
      · obtain ⟨hd2, -, t, ht⟩ := codeP_dig HD1.out hcp
        have hx18 := HSY.out _ _ ht
        have HD2 := Lib.hid hd2
        have HK := Lib.hid hlk
        have HCP := Lib.hid hcp
        have HG2 := Lib.hid (gb_trans HG.out hg2)
        have hbad := HK.out.b
        clear hcp hlk hg2 hd2 ht
        by_cases hx4 : x < 4
        · have hd4 : decide ((4 : Int) ≤ (x : Int)) = false := decide_eq_false (by omega)
          have HS : Hid (refCopied d c S = some (3 + y + z0, 1 + x, S2)) := by
            show _ = _
            rw [refCopied, HX.out, Option.bind_some, HCP.out, Option.bind_some, refExtra, if_pos hx4]; rfl
          go_wp2_with fail
          go_ret2
          exact ⟨HG2.out, .inr ⟨_, _, S2, HS.out, HK.out, by push_cast; rfl⟩⟩
        · have hd4 : decide ((4 : Int) ≤ (x : Int)) = true := decide_eq_true (by omega)
          obtain ⟨m2, hm2⟩ : ∃ m2, m2 = x - 2 := ⟨_, rfl⟩
          have em2 : (x : Int) - 2 = (m2 : Int) := by omega
          have hpc2 := pow_cast m2 (by omega)
          have hpc2' : (2 : Int) ^ m2 = ((2 ^ m2 : Nat) : Int) := by push_cast; rfl
          obtain ⟨y2, hy2⟩ : ∃ y2 : Nat, y2 = 2 ^ m2 := ⟨_, rfl⟩
          have hy2b : y2 ≤ 65536 := by rw [hy2]; exact Nat.pow_le_pow_right (by decide) (show m2 ≤ 16 by omega)
          rw [← hy2] at hpc2 hpc2'
          have hm2b : m2 ≤ 16 := by omega
          have hmn2 : min m2 64 = m2 := Nat.min_eq_left (by omega)
          have HE : Hid (∀ z S3, valueP S2 m2 = some (z, S3) → refCopied d c S = some (3 + y + z0, 1 + y2 + z, S3)) := by
            intro z S3 hv
            rw [refCopied, HX.out, Option.bind_some, HCP.out, Option.bind_some, refExtra, if_neg hx4, ← hm2, hv, ← hy2]; rfl
          have HE0 : Hid (valueP S2 m2 = none → refCopied d c S = none) := by
            intro hv
            rw [refCopied, HX.out, Option.bind_some, HCP.out, Option.bind_some, refExtra, if_neg hx4, ← hm2, hv]; rfl
          clear hm2 hy2
          go_wp2_with fail
          refine (value_any g m2 S2 false w2 HK.out HD2.out (by omega)).mono ?_
          rintro e w3 ⟨hg3, ⟨hv, hlk, rfl⟩ | ⟨z, S3, hv, hlk, rfl⟩⟩
          · have HN := Lib.hid (HE0.out hv)
            have HK3 := Lib.hid hlk
            have HG3 := Lib.hid (gb_trans HG2.out hg3)
            clear hv hlk hg3
            go_wp2_with fail
            go_ret2
            exact ⟨HG3.out, .inl ⟨HN.out, S2, _, _, HK3.out, rfl⟩⟩
          · have hzb : z < 131072 := Nat.lt_of_lt_of_le (valueP_lt HD2.out hv).1 (Nat.pow_le_pow_right (by decide) (show m2 ≤ 17 by omega))
            have HN := Lib.hid (HE.out z S3 hv)
            have HK3 := Lib.hid hlk
            have HG3 := Lib.hid (gb_trans HG2.out hg3)
            clear hv hlk hg3
            go_wp2_with fail
            go_ret2
            exact ⟨HG3.out, .inr ⟨_, _, S3, HN.out, HK3.out, by push_cast; rfl⟩⟩
end Go.Proofs.YtejgoienkpaabaaDoor
