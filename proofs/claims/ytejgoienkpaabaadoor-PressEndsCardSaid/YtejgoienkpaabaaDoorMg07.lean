/- Unp (merged: one text behind the other). -/
import Derived.Test.YtejgoienkpaabaaDoorMg05
import Derived.Test.YtejgoienkpaabaaDoorMg06
import Derived.Deep.Cut
/- The contract of press.Unpress. -/
namespace Go.Proofs.YtejgoienkpaabaaDoor
open Go.RowKit
set_option maxRecDepth 100000
/-- a slice of bytes that reads as l -/
def Sl (w : World) (A : Option Addr) (l : List UInt8) : Prop :=
  l = [] ∨ ∃ h o, A = some ⟨h, o, none⟩ ∧ h < w.heap.size ∧ ∀ j, j < l.length → w.cell? ⟨h, o + j, none⟩ = some (.int .u8 ((l.getD j 0).toNat : Int))
theorem addr_add (h o j : Nat) : (⟨h, o, none⟩ : Addr).add j = ⟨h, o + j, none⟩ := by
  unfold Addr.add
  by_cases hj : j = 0
  · subst hj; simp
  · simp [hj]
theorem Sl.reads {w : World} {A : Option Addr} {l : List UInt8} (h : Sl w A l) : Reads w w.heap.size 1 A l.length (U l) := by
  refine ⟨by simp [U_length], fun hp => ?_⟩
  rcases h with rfl | ⟨h, o, rfl, hlt, hc⟩
  · simp at hp
  · refine ⟨⟨h, o, none⟩, rfl, hlt, fun j u hu => ?_⟩
    rw [U_get] at hu
    rw [addr_add]
    cases hj : l[j]? with
    | none => rw [hj] at hu; cases hu
    | some x =>
      rw [hj] at hu
      obtain ⟨hlj, _⟩ := List.getElem?_eq_some_iff.1 hj
      rw [hc j hlj, List.getD_eq_getElem?_getD, hj]
      exact hu
theorem Sl.below {w w' : World} {A : Option Addr} {l : List UInt8} (h : Sl w A l) (hb : Below w.heap.size w w') : Sl w' A l := by
  rcases h with rfl | ⟨h, o, rfl, hlt, hc⟩
  · exact .inl rfl
  · exact .inr ⟨h, o, rfl, by have := hb.size; omega, fun j hj => (hb.cell (p := ⟨h, o + j, none⟩) hlt).trans (hc j hj)⟩
theorem Sl.of_own {w : World} {base : Nat} {A : Option Addr} {c n : Nat} {l : List UInt8} (h : w.ownsRow base 5 1 (.slice A n c) n (U l)) : Sl w A l := by
  have hn : l.length = n := by have := h.1; simpa [U_length] using this
  by_cases h0 : l = []
  · exact .inl h0
  · have hp : 0 < n := by rw [← hn]; exact List.length_pos_iff.2 h0
    obtain ⟨g, cap, hv, _, hlt⟩ := h.form hp
    have hh := h
    injection hv with hv1 hv2 hv3
    subst hv1 hv3
    refine .inr ⟨g, 0, rfl, hlt, fun j hj => ?_⟩
    rw [Nat.zero_add, hh.cellAt j (by omega), U_get, List.getElem?_eq_getElem hj, List.getD_eq_getElem?_getD, List.getElem?_eq_getElem hj]
    rfl
theorem Sl.rest {w : World} {h o : Nat} {m : UInt8} {t : List UInt8} (hs : Sl w (some ⟨h, o, none⟩) (m :: t)) (s : Nat) : Sl w (some ⟨h, o + (1 + s), none⟩) (t.drop s) := by
  rcases hs with hs | ⟨h', o', he, hlt, hc⟩
  · cases hs
  · injection he with he
    injection he with he1 he2
    subst he1 he2
    refine .inr ⟨h, o + (1 + s), rfl, hlt, fun j hj => ?_⟩
    rw [List.length_drop] at hj
    have e := hc (1 + s + j) (by simp; omega)
    rw [Nat.add_assoc, e]
    have : (m :: t).getD (1 + s + j) 0 = (t.drop s).getD j 0 := by
      rw [show 1 + s + j = (s + j) + 1 by omega]
      simp [List.getD_eq_getElem?_getD, List.getElem?_drop]
    rw [this]
theorem ErrTab.below {w w' : World} (h : ErrTab w) (hb : Below w.heap.size w w') : ErrTab w' := by
  have h0 : 0 < w.heap.size := by
    rcases Nat.eq_zero_or_pos w.heap.size with h0 | h0
    · obtain ⟨h1, _⟩ := h
      simp [World.cell?, h0] at h1
    · exact h0
  obtain ⟨h1, h2, h3, h4, h5⟩ := h
  exact ⟨(hb.cell (p := ⟨0, 0, none⟩) h0).trans h1, (hb.cell (p := ⟨0, 1, none⟩) h0).trans h2, (hb.cell (p := ⟨0, 2, none⟩) h0).trans h3, (hb.cell (p := ⟨0, 3, none⟩) h0).trans h4, (hb.cell (p := ⟨0, 4, none⟩) h0).trans h5⟩

def ReadPost (w : World) (l : List UInt8) (e : Ending) (w' : World) : Prop :=
  ∃ g, e = .returned (.pointer (some ⟨g, 0, none⟩)) ∧ Rdr w' g w.heap.size l 0 0 ∧ w.heap.size ≤ g ∧ Below w.heap.size w w'
theorem read_any (A : Option Addr) (n c : Nat) (l : List UInt8) (w : World) (hn : l.length = n) (h : Sl w A l) (hl : l.length ≤ Lim) :
    Calls Tryd.prog 21 #[.slice A n c] w fun e w' => ReadPost w l e w' := by
  subst hn
  have HS := Lib.hid h
  clear h
  go_enter Tryd.func21, Tryd.ntmps21
  go_wp2_with fail
  refine (taken_any A l.length c l w HS.out.reads hl).mono ?_
  rintro e w1 ⟨rfl, ho, hb⟩
  have HO := Lib.hid ho
  have HB := Lib.hid hb
  have hs := hb.size
  clear ho hb
  go_wp2_with fail
  go_ret
  refine ⟨w1.heap.size, rfl, ⟨?_, ?_, hl, Nat.zero_le _⟩, hs, HB.out.alloc hs _⟩
  · exact Blk.new w1 78 _
  · have h1 : Blk w1 w.heap.size 5 (U l).toArray := own_full HO.out
    exact h1.alloc _
theorem var_max (g h : Nat) (l : List UInt8) (a : Nat) (w : World) (r : Rdr w g h l a 0) :
    Calls Tryd.prog 23 #[.pointer (some ⟨g, 0, none⟩), .int .u64 18446744073709551615] w fun e w' => VarPost w g h l a 18446744073709551615 e w' :=
  var_any g h l a 18446744073709551615 w r
def UnpPost (w : World) (b : List UInt8) (max : Int) (e : Ending) (w' : World) : Prop :=
  Below w.heap.size w w' ∧ ∃ A c, e = .returned (.tuple #[.slice A (unpP b max).1.length c, .int .i64 ((unpP b max).2 : Int)]) ∧
    ((unpP b max).2 = 0 → w'.ownsRow w.heap.size 5 1 (.slice A (unpP b max).1.length c) (unpP b max).1.length (U (unpP b max).1)) ∧ ((unpP b max).2 ≠ 0 → A = none ∧ c = 0)
theorem UnpPost.fail {w w' : World} {b : List UInt8} {max : Int} {k : Nat} {e : Ending} (hb : Below w.heap.size w w') (h : unpP b max = ([], k)) (hk : k ≠ 0) (he : e = .returned (.tuple #[.slice none 0 0, .int .i64 (k : Int)])) : UnpPost w b max e w' := by
  refine ⟨hb, none, 0, ?_, fun h0 => absurd h0 (by rw [h]; exact hk), fun _ => ⟨rfl, rfl⟩⟩
  rw [h, he]
  rfl
set_option maxHeartbeats 1000000 in
theorem unp_empty (A : Option Addr) (c : Nat) (max : Int) (w : World) (he : ErrTab w) :
    Calls Tryd.prog 10 #[.slice A 0 c, .int .i64 max] w fun e w' => UnpPost w [] max e w' := by
  have HE := Lib.hid he
  clear he
  go_enter Tryd.func10, Tryd.ntmps10
  go_wp2_with fail
  refine (read_any A 0 c [] w rfl (.inl rfl) (Nat.zero_le _)).mono ?_
  rintro e w1 ⟨g, rfl, r1, hg1, hb1⟩
  have R1 := Lib.hid r1
  have HB1 := Lib.hid hb1
  clear r1 hb1
  go_wp2_with fail
  refine (u8_none g _ [] w1 R1.out).mono ?_
  rintro e w2 ⟨rfl, r2, hg2⟩
  have R2 := Lib.hid r2
  have HB2 := Lib.hid (HB1.out.trans (below_of_gb_some hg2 hg1 HB1.out.size))
  clear r2 hg2
  go_wp2_with fail
  refine (var_met g _ [] _ 1 _ w2 R2.out (by omega)).mono ?_
  rintro e w3 ⟨rfl, rfl⟩
  go_wp2_with fail
  refine (fault_any g _ [] _ 1 _ R2.out (by omega) (HE.out.below HB2.out)).mono ?_
  rintro e w3 ⟨rfl, rfl⟩
  have e1 : errOf 1 = 10 := rfl
  rw [e1]
  go_wp2_with fail
  go_ret2
  exact UnpPost.fail HB2.out rfl (by omega) rfl
set_option maxHeartbeats 4000000 in
theorem unp_cons (h o c : Nat) (m : UInt8) (t : List UInt8) (max : Int) (w : World) (he : ErrTab w) (hh : h < w.heap.size) (hl : (m :: t).length ≤ Lim) (hcap : (m :: t).length ≤ c)
    (hc : ∀ j, j < (m :: t).length → w.cell? ⟨h, o + j, none⟩ = some (.int .u8 (((m :: t).getD j 0).toNat : Int))) (hmx : max ≤ 9223372036854775807) :
    Calls Tryd.prog 10 #[.slice (some ⟨h, o, none⟩) (m :: t).length c, .int .i64 max] w fun e w' => UnpPost w (m :: t) max e w' := by
  have HE := Lib.hid he
  have HC := Lib.hid hc
  have HL := Lib.hid hl
  have hl3 := Lim_le hl
  have hpos : 0 < (m :: t).length := by simp
  obtain ⟨N, hN⟩ : ∃ N, N = (m :: t).length := ⟨_, rfl⟩
  have hsl : Sl w (some ⟨h, o, none⟩) (m :: t) := .inr ⟨h, o, rfl, hh, hc⟩
  rw [← hN] at hl3 hpos hcap ⊢
  have HN := Lib.hid hN
  have HSL := Lib.hid hsl
  obtain ⟨i0, hi0, hz0, hz1, hz2⟩ := info_parts info5
  have hlen : t.length + 1 = N := by rw [hN]; simp
  clear he hc hl hN hsl
  go_enter Tryd.func10, Tryd.ntmps10
  go_wp2_with fail
  refine (read_any _ N c (m :: t) w HN.out.symm HSL.out HL.out).mono ?_
  rintro e w1 ⟨g, rfl, r1, hg1, hb1⟩
  have R1 := Lib.hid r1
  have HB1 := Lib.hid hb1
  clear r1 hb1
  go_wp2_with fail
  refine (u8_any g _ (m :: t) 0 m w1 R1.out rfl).mono ?_
  rintro e w2 ⟨rfl, r2, hg2⟩
  have R2 := Lib.hid r2
  have HB2 := Lib.hid (HB1.out.trans (below_of_gb_some hg2 hg1 HB1.out.size))
  obtain ⟨x, hx⟩ : ∃ x, x = m.toNat := ⟨_, rfl⟩
  have hx2 : x < 256 := by rw [hx]; exact m.toNat_lt
  rw [← hx]
  have HX := Lib.hid hx
  clear r2 hg2 hx
  go_wp2_with fail
  refine (var_max g _ (m :: t) 1 w2 R2.out).mono ?_
  rintro e w3 ⟨hg3, (⟨n, s, hnum, hmost, rfl, r3⟩ | ⟨hbad, m', hm0, hm5, rfl, r3⟩)⟩
  · have R3 := Lib.hid r3
    have HB3 := Lib.hid (HB2.out.trans (below_of_gb_some hg3 hg1 HB2.out.size))
    have hbd := num_bound _ n s hnum
    have hs1 : 1 + s ≤ N := by have := r3.hat; rw [← HN.out] at this; exact this
    have hs2 : 1 ≤ s := hbd.2.1
    have hn64 : n < 18446744073709551616 := hbd.1
    have HNUM := Lib.hid (show num t = some (n, s) from hnum)
    have HN64 := Lib.hid hn64
    clear r3 hg3 hbd hnum hmost hn64
    go_wp2_with fail
    refine (fault_any g _ (m :: t) _ 0 _ R3.out (by omega) (HE.out.below HB3.out)).mono ?_
    rintro e w4 ⟨rfl, rfl⟩
    have e0 : errOf 0 = 0 := rfl
    rw [e0]
    by_cases hx1 : 1 < x
    · have hxb : decide ((1 : Int) < (x : Int)) = true := by simp; omega
      go_wp2_with fail
      go_ret2
      exact UnpPost.fail HB3.out (k := 80) (by rw [unpP, if_pos (by rw [← HX.out]; exact hx1)]) (by omega) rfl
    · have hxb : decide ((1 : Int) < (x : Int)) = false := by simp; omega
      have HU : Hid (unpP (m :: t) max = if max < 0 ∨ max < (n : Int) ∨ 65536 < n then ([], 81) else if x = 0 then (if (t.drop s).length = n then (t.drop s, 0) else ([], 80))
          else if 0 < n ∧ 148 ≤ (t.drop s).length then (match codedP (t.drop s) n with | some out => (out, 0) | none => ([], 80)) else ([], 80)) := by
        show _ = _
        rw [unpP, if_neg (by rw [← HX.out]; exact hx1), HNUM.out, HX.out]
        rfl
      by_cases hmax : max < 0
      · have hmb : decide (max < 0) = true := by simpa using hmax
        go_wp2_with fail
        go_ret2
        exact UnpPost.fail HB3.out (k := 81) (by rw [HU.out, if_pos (.inl hmax)]) (by omega) rfl
      · have hmb : decide (max < 0) = false := by simpa using hmax
        have hmw : IntKind.u64.wrap max = max := wraps_u64 _ (by omega) (by omega)
        by_cases hmn : max < (n : Int)
        · have hmnb : decide (max < (n : Int)) = true := by simpa using hmn
          go_wp2_with fail
          go_ret2
          exact UnpPost.fail HB3.out (k := 81) (by rw [HU.out, if_pos (.inr (.inl hmn))]) (by omega) rfl
        · have hmnb : decide (max < (n : Int)) = false := by simpa using hmn
          by_cases hn6 : 65536 < n
          · have hn6b : decide ((65536 : Int) < (n : Int)) = true := by simp; omega
            go_wp2_with fail
            go_ret2
            exact UnpPost.fail HB3.out (k := 81) (by rw [HU.out, if_pos (.inr (.inr hn6))]) (by omega) rfl
          · have hn6b : decide ((65536 : Int) < (n : Int)) = false := by simp; omega
            have HU2 : Hid (unpP (m :: t) max = if x = 0 then (if (t.drop s).length = n then (t.drop s, 0) else ([], 80)) else if 0 < n ∧ 148 ≤ (t.drop s).length then (match codedP (t.drop s) n with | some out => (out, 0) | none => ([], 80)) else ([], 80)) := by
              show _ = _
              rw [HU.out, if_neg (by omega)]
            go_wp2_with fail
            refine (at_any g _ (m :: t) _ 0 _ R3.out).mono ?_
            rintro e w4 ⟨rfl, rfl⟩
            by_cases hcs : c = 1 + s
            · have HSR : Hid (Sl w4 (some ⟨h, o, none⟩) (t.drop s)) := .inl (List.drop_eq_nil_of_le (by omega))
              go_upto_if 45 with (fail)
              have HCS := Lib.hid hcs
              have hcs1 : c ≤ 1 + s := by omega
              clear hcs
              have HRL : Hid ((t.drop s).length = N - (1 + s)) := by show _ = _; rw [List.length_drop]; omega
              have hRb0 : N - (1 + s) ≤ N := Nat.sub_le _ _
              clear hlen HU
              by_cases hx0 : x < 1
              · have hxe : ((x : Int) == 0) = true := beq_iff_eq.2 (by omega)
                by_cases hRn : N - (1 + s) = n
                · have hRb : (((N - (1 + s) : Nat) : Int) == (n : Int)) = true := beq_iff_eq.2 (by omega)
                  have HRN := Lib.hid hRn
                  have HU3 : Hid (unpP (m :: t) max = (t.drop s, 0)) := by
                    show _ = _
                    rw [HU2.out, if_pos (by omega), if_pos (by rw [HRL.out]; exact hRn)]
                  have hsr : Sl w4 (some ⟨h, o, none⟩) (t.drop s) := HSR.out
                  have hrd := hsr.reads
                  rw [HRL.out] at hrd
                  have HRD := Lib.hid (hrd.alloc (Nat.le_refl _) (.cells #[] 5))
                  have HLT := Lib.hid (World.ownsRow_lit (e := 5) (size := 1) w4 #[] 0 HB3.out.size (Nat.zero_le _) rfl)
                  have hsz4 := HB3.out.size
                  have hb47 : (0 + (N - (1 + s))) * 1 ≤ 140737488355328 := by omega
                  have hb63 : 0 + (N - (1 + s)) ≤ maxLen := by simp only [maxLen]; omega
                  clear hRn HU2 hsr hrd
                  go_wp2_with (first
                    | (at_builtin
                       refine wpList_append_any _ rfl (.tmp 51) (.tmp 52) 22 rfl w.heap.size 5 i0 (.int .u8 0) 1 1 Tryd.underlying22 hi0 hz0 hz1 hz2 rfl (by decide) (.slice (some ⟨w4.heap.size, 0, none⟩) 0 0) 0 [] rfl HLT.out w4.heap.size (some ⟨h, o, none⟩) (N - (1 + s)) _ (U (t.drop s)) rfl HRD.out (U_one _) hb63 hb47 (by simp; omega) ?_
                       intro v5 w5 hown5 hg5 _
                       obtain ⟨A5, c5, hv5⟩ := own_shape hown5
                       rw [hv5]
                       rw [hv5] at hown5)
                    | fail)
                  go_ret2
                  refine ⟨HB3.out.trans (((Below.refl _ _).alloc hsz4 _).grown hg5 (by simp; omega) (fun q hq => by simp [Value.ownBlock] at hq; omega)), A5, c5, ?_, fun _ => ?_, fun h0 => absurd (by rw [HU3.out]) h0⟩
                  · rw [HU3.out, HRL.out]; simp
                  · rw [HU3.out, HRL.out]; simpa using hown5
                · have hRb : (((N - (1 + s) : Nat) : Int) == (n : Int)) = false := beq_eq_false_iff_ne.2 (by omega)
                  have HRN := Lib.hid hRn
                  have HU3 : Hid (unpP (m :: t) max = ([], 80)) := by
                    show _ = _
                    rw [HU2.out, if_pos (by omega), if_neg (by rw [HRL.out]; exact hRn)]
                  clear hRn HU2
                  go_wp2_with fail
                  go_ret2
                  exact UnpPost.fail HB3.out (k := 80) HU3.out (by omega) rfl
              · have hxe : ((x : Int) == 0) = false := beq_eq_false_iff_ne.2 (by omega)
                by_cases hn0 : 0 < n
                · have hn0b : decide ((0 : Int) < (n : Int)) = true := by simp; omega
                  by_cases h148 : 148 ≤ N - (1 + s)
                  · have h148b : decide ((148 : Int) ≤ ((N - (1 + s) : Nat) : Int)) = true := by simp; omega
                    exact absurd h148 (by omega)
                  · have h148b : decide ((148 : Int) ≤ ((N - (1 + s) : Nat) : Int)) = false := by simp; omega
                    have HU3 : Hid (unpP (m :: t) max = ([], 80)) := by
                      show _ = _
                      rw [HU2.out, if_neg (by omega), if_neg (by rw [HRL.out]; omega)]
                    clear HU2
                    go_wp2_with fail
                    go_ret2
                    exact UnpPost.fail HB3.out (k := 80) HU3.out (by omega) rfl
                · have hn0b : decide ((0 : Int) < (n : Int)) = false := by simp; omega
                  have HU3 : Hid (unpP (m :: t) max = ([], 80)) := by
                    show _ = _
                    rw [HU2.out, if_neg (by omega), if_neg (by omega)]
                  clear HU2
                  go_wp2_with fail
                  go_ret2
                  exact UnpPost.fail HB3.out (k := 80) HU3.out (by omega) rfl
            · have HSR : Hid (Sl w4 (some ⟨h, o + (1 + s), none⟩) (t.drop s)) := Sl.rest (HSL.out.below HB3.out) s
              go_upto_if 45 with (fail)
              have HCS := Lib.hid hcs
              have hcs1 : c < 1 + s ∨ 1 + s < c := by omega
              clear hcs
              have HRL : Hid ((t.drop s).length = N - (1 + s)) := by show _ = _; rw [List.length_drop]; omega
              have hRb0 : N - (1 + s) ≤ N := Nat.sub_le _ _
              clear hlen HU
              by_cases hx0 : x < 1
              · have hxe : ((x : Int) == 0) = true := beq_iff_eq.2 (by omega)
                by_cases hRn : N - (1 + s) = n
                · have hRb : (((N - (1 + s) : Nat) : Int) == (n : Int)) = true := beq_iff_eq.2 (by omega)
                  have HRN := Lib.hid hRn
                  have HU3 : Hid (unpP (m :: t) max = (t.drop s, 0)) := by
                    show _ = _
                    rw [HU2.out, if_pos (by omega), if_pos (by rw [HRL.out]; exact hRn)]
                  have hsr : Sl w4 (some ⟨h, o + (1 + s), none⟩) (t.drop s) := HSR.out
                  have hrd := hsr.reads
                  rw [HRL.out] at hrd
                  have HRD := Lib.hid (hrd.alloc (Nat.le_refl _) (.cells #[] 5))
                  have HLT := Lib.hid (World.ownsRow_lit (e := 5) (size := 1) w4 #[] 0 HB3.out.size (Nat.zero_le _) rfl)
                  have hsz4 := HB3.out.size
                  have hb47 : (0 + (N - (1 + s))) * 1 ≤ 140737488355328 := by omega
                  have hb63 : 0 + (N - (1 + s)) ≤ maxLen := by simp only [maxLen]; omega
                  clear hRn HU2 hsr hrd
                  go_wp2_with (first
                    | (at_builtin
                       refine wpList_append_any _ rfl (.tmp 51) (.tmp 52) 22 rfl w.heap.size 5 i0 (.int .u8 0) 1 1 Tryd.underlying22 hi0 hz0 hz1 hz2 rfl (by decide) (.slice (some ⟨w4.heap.size, 0, none⟩) 0 0) 0 [] rfl HLT.out w4.heap.size (some ⟨h, o + (1 + s), none⟩) (N - (1 + s)) _ (U (t.drop s)) rfl HRD.out (U_one _) hb63 hb47 (by simp; omega) ?_
                       intro v5 w5 hown5 hg5 _
                       obtain ⟨A5, c5, hv5⟩ := own_shape hown5
                       rw [hv5]
                       rw [hv5] at hown5)
                    | fail)
                  go_ret2
                  refine ⟨HB3.out.trans (((Below.refl _ _).alloc hsz4 _).grown hg5 (by simp; omega) (fun q hq => by simp [Value.ownBlock] at hq; omega)), A5, c5, ?_, fun _ => ?_, fun h0 => absurd (by rw [HU3.out]) h0⟩
                  · rw [HU3.out, HRL.out]; simp
                  · rw [HU3.out, HRL.out]; simpa using hown5
                · have hRb : (((N - (1 + s) : Nat) : Int) == (n : Int)) = false := beq_eq_false_iff_ne.2 (by omega)
                  have HRN := Lib.hid hRn
                  have HU3 : Hid (unpP (m :: t) max = ([], 80)) := by
                    show _ = _
                    rw [HU2.out, if_pos (by omega), if_neg (by rw [HRL.out]; exact hRn)]
                  clear hRn HU2
                  go_wp2_with fail
                  go_ret2
                  exact UnpPost.fail HB3.out (k := 80) HU3.out (by omega) rfl
              · have hxe : ((x : Int) == 0) = false := beq_eq_false_iff_ne.2 (by omega)
                by_cases hn0 : 0 < n
                · have hn0b : decide ((0 : Int) < (n : Int)) = true := by simp; omega
                  by_cases h148 : 148 ≤ N - (1 + s)
                  · have h148b : decide ((148 : Int) ≤ ((N - (1 + s) : Nat) : Int)) = true := by simp; omega
                    have hcd : ∃ o', o' = o + (1 + s) ∧ h < w4.heap.size ∧ ∀ j, j < (t.drop s).length → w4.cell? ⟨h, o' + j, none⟩ = some (.int .u8 (((t.drop s).getD j 0).toNat : Int)) := by
                      rcases HSR.out with h0 | ⟨h', o', he, hlt, hc⟩
                      · exfalso
                        have := HRL.out
                        rw [h0] at this
                        simp at this
                        omega
                      · injection he with he
                        injection he with he1 he2
                        subst he1 he2
                        exact ⟨_, rfl, hlt, hc⟩
                    obtain ⟨o', ho', hlt', hc'⟩ := hcd
                    subst ho'
                    have HRC := Lib.hid (coded_any h (o + (1 + s)) (c - (1 + s)) n (t.drop s) w4 hlt' hc' (by rw [HRL.out]; exact h148) (by rw [HRL.out]; omega) (by rw [HRL.out]; show _ ≤ 1099511627776; omega) hn0 (by omega))
                    have hrc := HRC.out
                    rw [HRL.out] at hrc
                    have HRC2 := Lib.hid hrc
                    clear hc' hrc HRC
                    go_wp2_with fail
                    refine HRC2.out.mono ?_
                    rintro e w5 ⟨hb5, (⟨out, A5, c5, hcp, rfl, ho5⟩ | ⟨hcp, v5, rfl⟩)⟩
                    · have HU3 : Hid (unpP (m :: t) max = (out, 0)) := by
                        show _ = _
                        rw [HU2.out, if_neg (by omega), if_pos ⟨hn0, by rw [HRL.out]; exact h148⟩, hcp]
                      have HB5 := Lib.hid (HB3.out.trans (hb5.mono HB3.out.size))
                      have HO5 := Lib.hid ho5
                      clear HU2 hcp hb5 ho5
                      go_wp2_with fail
                      go_ret2
                      refine ⟨HB5.out, A5, c5, by rw [HU3.out]; rfl, fun _ => ?_, fun h0 => absurd (by rw [HU3.out]) h0⟩
                      rw [HU3.out]
                      exact own_base HO5.out HB3.out.size
                    · have HU3 : Hid (unpP (m :: t) max = ([], 80)) := by
                        show _ = _
                        rw [HU2.out, if_neg (by omega), if_pos ⟨hn0, by rw [HRL.out]; exact h148⟩, hcp]
                      have HB5 := Lib.hid (HB3.out.trans (hb5.mono HB3.out.size))
                      clear HU2 hcp hb5
                      go_wp2_with fail
                      go_ret2
                      exact UnpPost.fail HB5.out (k := 80) HU3.out (by omega) rfl
                  · have h148b : decide ((148 : Int) ≤ ((N - (1 + s) : Nat) : Int)) = false := by simp; omega
                    have HU3 : Hid (unpP (m :: t) max = ([], 80)) := by
                      show _ = _
                      rw [HU2.out, if_neg (by omega), if_neg (by rw [HRL.out]; omega)]
                    clear HU2
                    go_wp2_with fail
                    go_ret2
                    exact UnpPost.fail HB3.out (k := 80) HU3.out (by omega) rfl
                · have hn0b : decide ((0 : Int) < (n : Int)) = false := by simp; omega
                  have HU3 : Hid (unpP (m :: t) max = ([], 80)) := by
                    show _ = _
                    rw [HU2.out, if_neg (by omega), if_neg (by omega)]
                  clear HU2
                  go_wp2_with fail
                  go_ret2
                  exact UnpPost.fail HB3.out (k := 80) HU3.out (by omega) rfl
  · have R3 := Lib.hid r3
    have HB3 := Lib.hid (HB2.out.trans (below_of_gb_some hg3 hg1 HB2.out.size))
    have hnone : Hid (num t = none) := by
      rcases hbad with hbad | ⟨n, s, hn, hlt⟩
      · exact hbad
      · have := num_bound _ n s hn
        omega
    have hm' : errOf m' ≠ 0 := by
      match m', hm0, hm5 with
      | 1, _, _ => decide
      | 2, _, _ => decide
      | 3, _, _ => decide
      | 4, _, _ => decide
    clear r3 hg3 hbad
    go_wp2_with fail
    refine (fault_any g _ (m :: t) _ m' _ R3.out hm5 (HE.out.below HB3.out)).mono ?_
    rintro e w4 ⟨rfl, rfl⟩
    have hmb : (errOf m' != 0) = true := by rw [bne_iff_ne]; exact hm'
    clear hm'
    go_wp2_with fail
    go_ret2
    refine UnpPost.fail HB3.out (k := 80) ?_ (by omega) rfl
    rw [unpP, hnone.out]
    split <;> rfl
end Go.Proofs.YtejgoienkpaabaaDoor
