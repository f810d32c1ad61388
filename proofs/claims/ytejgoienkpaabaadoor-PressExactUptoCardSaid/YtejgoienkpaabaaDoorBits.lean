/- The contract of the closure that reads a number of several bits. -/
import Derived.Test.YtejgoienkpaabaaDoorBit
namespace Go.Proofs.YtejgoienkpaabaaDoor
open Go.RowKit
set_option maxRecDepth 100000
theorem or_bit (v x : Nat) (hv : v < 1000000000) (hx : x ≤ 1) : bits .or .i64 ((v : Int) * 2) (x : Int) = ((2 * v + x : Nat) : Int) := by
  have h0 := or_i64 (v * 2) x (by omega) (by omega)
  have h1 := Nat.two_pow_add_eq_or_of_lt (b := x) (i := 1) (by omega) v
  have h2 : (v * 2) ||| x = 2 * v + x := by rw [Nat.mul_comm v]; exact h1.symm
  rw [h2] at h0
  simpa using h0
def NBPost (w : World) (ga gb h o cap : Nat) (bs : List UInt8) (r : Option (Nat × Nat)) (e : Ending) (w' : World) : Prop :=
  w.grownBy w' (some ga) ∧
  ((∃ v p', r = some (v, p') ∧ e = .returned (.tuple #[.int .i64 (v : Int), .bool true]) ∧ Bits w' ga gb h o cap bs p') ∨ (r = none ∧ e = .returned (.tuple #[.int .i64 0, .bool false])))
def NBRel (w : World) (ga gb h o cap : Nat) (bs : List UInt8) (k p : Nat) (vv vi : Value) (wr : World) : Prop :=
  ∃ i v p' : Nat, i ≤ k ∧ vi = .int .i64 i ∧ vv = .int .i64 v ∧ Hid (v < 2 ^ i) ∧ Hid (nbits bs k 0 p = nbits bs (k - i) v p') ∧ Hid (Bits wr ga gb h o cap bs p') ∧ Hid (w.grownBy wr (some ga))
set_option maxHeartbeats 1000000 in
theorem bits_any (gf ga gb h o cap : Nat) (bs : List UInt8) (k p : Nat) (w : World) (hf : Blk w gf 91 #[.func (.func 45) #[] #[.pointer (some ⟨ga, 0, none⟩), .pointer (some ⟨gb, 0, none⟩)]]) (b : Bits w ga gb h o cap bs p) (hk : k ≤ 20) :
    Calls Tryd.prog 46 #[.int .i64 k, .pointer (some ⟨gf, 0, none⟩)] w fun e w' => NBPost w ga gb h o cap bs (nbits bs k 0 p) e w' := by
  have HF := Lib.hid hf
  have HB := Lib.hid b
  have hne : gf ≠ ga := hf.ne_ b.at_ (by decide)
  clear hf b
  go_enter Tryd.func46, Tryd.ntmps46
  go_wp2_with fail
  go_loopw [5, 9] (fun vv vi wr => NBRel w ga gb h o cap bs k p vv vi wr) (fun _ vi _ => k - (intOf vi).toNat)
  case atStart => exact ⟨0, 0, p, by omega, rfl, rfl, by show _ < _; decide, rfl, HB, gb_refl _ _⟩
  case round =>
    obtain ⟨i, v, p', hi, rfl, rfl, hv, hx, hb, hg⟩ := hrel
    by_cases hlt : i < k
    · have hfc := (HF.out.gb hg.out (by simpa using hne)).cell 0
      simp at hfc
      go_wp2_with fail
      by_cases hp : 8 * bs.length ≤ p'
      · refine (bit_none ga gb h o cap bs p' _ hb.out hp).mono ?_
        rintro e w1 ⟨rfl, rfl⟩
        go_wp2_with fail
        go_ret2
        refine ⟨hg.out, .inr ⟨?_, rfl⟩⟩
        rw [hx.out]
        obtain ⟨f, hf⟩ : ∃ f, k - i = f + 1 := ⟨k - i - 1, by omega⟩
        rw [hf, nbits, if_pos hp]
      · refine (bit_some ga gb h o cap bs p' _ hb.out (by omega)).mono ?_
        rintro e w1 ⟨rfl, hb1, hg1⟩
        obtain ⟨x, hxx⟩ : ∃ x, x = bitOf bs p' := ⟨_, rfl⟩
        have hx1 : x ≤ 1 := by rw [hxx]; exact bitOf_le _ _
        have HB1 := Lib.hid hb1
        have HG1 := Lib.hid (gb_trans hg.out hg1)
        clear hb1 hg1 hfc
        rw [← hxx]
        have HXX := Lib.hid hxx
        clear hxx
        have hvb : v < 1048576 := Nat.lt_of_lt_of_le hv.out (Nat.pow_le_pow_right (by decide) (show i ≤ 20 by omega))
        have hval := or_bit v x (by omega) hx1
        obtain ⟨c1, hc1⟩ : ∃ c1, c1 = 2 * v + x := ⟨_, rfl⟩
        rw [← hc1] at hval
        have HC1 := Lib.hid hc1
        clear hc1
        go_wp2_with fail
        go_roundw
        case rel => exact ⟨i + 1, c1, p' + 1, by omega, by go_num, rfl, by
          show _ < _
          have h1 := HC1.out
          have h2 := hv.out
          rw [Nat.pow_succ]
          omega, by
          show _ = _
          rw [hx.out]
          obtain ⟨f, hf⟩ : ∃ f, k - i = f + 1 := ⟨k - i - 1, by omega⟩
          have hf2 : k - (i + 1) = f := by omega
          rw [hf, hf2, nbits, if_neg hp, ← HXX.out, ← HC1.out], HB1, HG1⟩
        case measure => simp [intOf]; omega
    · go_wp2_with fail
      go_ret2
      refine ⟨hg.out, .inl ⟨v, p', ?_, rfl, hb.out⟩⟩
      rw [hx.out, show k - i = 0 by omega]
      rfl
end Go.Proofs.YtejgoienkpaabaaDoor
