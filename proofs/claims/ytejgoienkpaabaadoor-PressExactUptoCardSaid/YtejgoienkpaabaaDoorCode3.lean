/- Contracts of package code's reader: next, fixed, U8, Fault. -/
import Derived.Test.YtejgoienkpaabaaDoorCode2
namespace Go.Proofs.YtejgoienkpaabaaDoor
open Go.RowKit
set_option maxRecDepth 100000

theorem next_met (g h : Nat) (l : List UInt8) (a m : Nat) (k : Int) (w : World) (r : Rdr w g h l a m) (hm : m ≠ 0) :
    Calls Tryd.prog 79 #[.pointer (some ⟨g, 0, none⟩), .int .i64 k] w fun e w' => e = .returned (.slice none 0 0) ∧ w' = w := by
  have h2 := r.c2
  have hb : (((m : Int) == 0) = false) := by simpa using hm
  have hb' : (((m : Int) != 0) = true) := by simpa using hm
  clear r hm
  go_enter Tryd.func79, Tryd.ntmps79
  go_wp2
  go_ret
  exact ⟨rfl, rfl⟩

theorem next_short (g h : Nat) (l : List UInt8) (a : Nat) (k : Int) (w : World) (r : Rdr w g h l a 0) (hk : (l.length : Int) - a < k) :
    Calls Tryd.prog 79 #[.pointer (some ⟨g, 0, none⟩), .int .i64 k] w fun e w' => e = .returned (.slice none 0 0) ∧ Rdr w' g h l a 1 ∧ w.grownBy w' (some g) := by
  have h1 := r.c1
  have h2 := r.c2
  have H := Lib.hid r
  clear r
  go_enter Tryd.func79, Tryd.ntmps79
  go_wp2_with fail
  refine (left_any g h l a 0 _ H.out).mono ?_
  rintro e w1 ⟨rfl, k1, rfl⟩
  go_wp2_with fail
  refine (stop_any g h l a 0 a 1 _ (H.out.drewN _) H.out.hat).mono ?_
  rintro e w1 ⟨rfl, r1, g1⟩
  have H1 := Lib.hid r1
  clear r1
  go_wp2
  go_ret
  exact ⟨rfl, H1.out, gb_trans (gb_drewN (gb_refl _ _) _) g1⟩

theorem U_cell {w : World} {h : Nat} {l : List UInt8} (hb : Blk w h 5 (U l).toArray) (j : Nat) : w.cell? ⟨h, j, none⟩ = l[j]?.map fun b => .int .u8 (b.toNat : Int) := by
  rw [hb.cell, List.getElem?_toArray, U_get]

/-- what 'next' gives where k bytes are left -/
def NextOk (w : World) (g h : Nat) (l : List UInt8) (a k : Nat) (e : Ending) (w' : World) : Prop :=
  ∃ o c, e = .returned (.slice (some ⟨h, o, none⟩) k c) ∧ (0 < k → o = a) ∧ Rdr w' g h l (a + k) 0 ∧ w.grownBy w' (some g)

theorem Rdr.moved {w : World} {g h : Nat} {l : List UInt8} {a m : Nat} (r : Rdr w g h l a m) (a' : Nat) (ha' : a' ≤ l.length) (n : Nat) :
    Rdr ((w.drewN n).setCell ⟨g, 1, none⟩ (.int .i64 a')) g h l a' m ∧ w.grownBy ((w.drewN n).setCell ⟨g, 1, none⟩ (.int .i64 a')) (some g) := by
  have hb : w.grownBy ((w.drewN n).setCell ⟨g, 1, none⟩ (.int .i64 a')) (some g) := gb_set (p := ⟨g, 1, none⟩) (gb_drewN (gb_refl _ _) _) (.inl rfl) _
  have hk := (r.blk.drewN n).set_ 1 (.int .i64 a')
  exact ⟨r.turned hb ha' (by simpa using hk), hb⟩

theorem next_ok (g h : Nat) (l : List UInt8) (a k : Nat) (w : World) (r : Rdr w g h l a 0) (hk : a + k ≤ l.length) :
    Calls Tryd.prog 79 #[.pointer (some ⟨g, 0, none⟩), .int .i64 k] w fun e w' => NextOk w g h l a k e w' := by
  have h0 := r.c0
  have h1 := r.c1
  have h2 := r.c2
  have f1 := r.blk.frozen 1
  have hl := Lim_le r.len
  have H := Lib.hid r
  clear r
  go_enter Tryd.func79, Tryd.ntmps79
  go_wp2_with fail
  refine (left_any g h l a 0 _ H.out).mono ?_
  rintro e w1 ⟨rfl, k1, rfl⟩
  go_wp2_with fail
  go_quiet (fail)
  go_wp2
  all_goals go_ret
  all_goals have hm := H.out.moved (a + k) hk (k1 + nq)
  · rename_i he
    exact ⟨0, _, rfl, fun hp => by omega, by simpa using hm⟩
  · exact ⟨a, _, rfl, fun hp => rfl, by simpa using hm⟩

set_option maxHeartbeats 400000 in
theorem fixed_one (g h : Nat) (l : List UInt8) (a : Nat) (b : UInt8) (w : World) (r : Rdr w g h l a 0) (hk : l[a]? = some b) :
    Calls Tryd.prog 40 #[.pointer (some ⟨g, 0, none⟩), .int .i64 1] w fun e w' => e = .returned (.int .u64 (b.toNat : Int)) ∧ Rdr w' g h l (a + 1) 0 ∧ w.grownBy w' (some g) := by
  have ha : a + 1 ≤ l.length := by
    obtain ⟨h', _⟩ := List.getElem?_eq_some_iff.1 hk
    omega
  have hb := b.toNat_lt
  have HK := Lib.hid hk
  clear hk
  go_enter Tryd.func40, Tryd.ntmps40
  go_wp2_with fail
  refine (next_ok g h l a 1 _ r ha).mono ?_
  rintro e w1 ⟨o, c, rfl, ho, r1, g1⟩
  obtain rfl := ho (by omega)
  have hc := U_cell r1.row o
  rw [HK.out] at hc
  have hc' : w1.cell? ⟨h, o, none⟩ = some (.int .u8 (b.toNat : Int)) := by simpa using hc
  clear hc ho
  have HR := Lib.hid r1
  have HG := Lib.hid g1
  clear r1 g1 r
  go_wp2
  refine wp_loop_rounds 2 ?_
  rw [rounds_succ]
  go_wp2
  rw [rounds_succ]
  go_wp2
  go_ret
  refine ⟨ret_int ?_, HR.out, HG.out⟩
  have := or_u64 0 b.toNat (by omega) (by omega)
  simpa using this

theorem u8_any (g h : Nat) (l : List UInt8) (a : Nat) (b : UInt8) (w : World) (r : Rdr w g h l a 0) (hk : l[a]? = some b) :
    Calls Tryd.prog 22 #[.pointer (some ⟨g, 0, none⟩)] w fun e w' => e = .returned (.int .u8 (b.toNat : Int)) ∧ Rdr w' g h l (a + 1) 0 ∧ w.grownBy w' (some g) := by
  have hb := b.toNat_lt
  have HK := Lib.hid hk
  have HR := Lib.hid r
  clear hk r
  go_enter Tryd.func22, Tryd.ntmps22
  go_wp2_with fail
  refine (fixed_one g h l a b w HR.out HK.out).mono ?_
  rintro e w1 ⟨rfl, r1, g1⟩
  have HR1 := Lib.hid r1
  have HG := Lib.hid g1
  clear r1 g1
  go_wp2
  go_ret
  exact ⟨ret_int (by first | rfl | (simp; omega)), HR1.out, HG.out⟩

/-- of a reader at its end: none -/
theorem fixed_none (g h : Nat) (l : List UInt8) (w : World) (r : Rdr w g h l l.length 0) :
    Calls Tryd.prog 40 #[.pointer (some ⟨g, 0, none⟩), .int .i64 1] w fun e w' => e = .returned (.int .u64 0) ∧ Rdr w' g h l l.length 1 ∧ w.grownBy w' (some g) := by
  have HR := Lib.hid r
  clear r
  go_enter Tryd.func40, Tryd.ntmps40
  go_wp2_with fail
  refine (next_short g h l l.length 1 w HR.out (by omega)).mono ?_
  rintro e w1 ⟨rfl, r1, g1⟩
  have HR1 := Lib.hid r1
  have HG := Lib.hid g1
  clear r1 g1
  go_wp2
  refine wp_loop_rounds 1 ?_
  rw [rounds_succ]
  go_wp2
  go_ret
  exact ⟨rfl, HR1.out, HG.out⟩
theorem u8_none (g h : Nat) (l : List UInt8) (w : World) (r : Rdr w g h l l.length 0) :
    Calls Tryd.prog 22 #[.pointer (some ⟨g, 0, none⟩)] w fun e w' => e = .returned (.int .u8 0) ∧ Rdr w' g h l l.length 1 ∧ w.grownBy w' (some g) := by
  have HR := Lib.hid r
  clear r
  go_enter Tryd.func22, Tryd.ntmps22
  go_wp2_with fail
  refine (fixed_none g h l w HR.out).mono ?_
  rintro e w1 ⟨rfl, r1, g1⟩
  have HR1 := Lib.hid r1
  have HG := Lib.hid g1
  clear r1 g1
  go_wp2
  go_ret
  exact ⟨rfl, HR1.out, HG.out⟩

/-- the table of the reader's faults, laid by the program's text -/
def ErrTab (w : World) : Prop := w.cell? ⟨0, 0, none⟩ = some (.int .i64 0) ∧ w.cell? ⟨0, 1, none⟩ = some (.int .i64 10) ∧ w.cell? ⟨0, 2, none⟩ = some (.int .i64 11) ∧ w.cell? ⟨0, 3, none⟩ = some (.int .i64 12) ∧ w.cell? ⟨0, 4, none⟩ = some (.int .i64 14)
def errOf (m : Nat) : Int := match m with | 0 => 0 | 1 => 10 | 2 => 11 | 3 => 12 | _ => 14
theorem ErrTab.at_ {w : World} (h : ErrTab w) (m : Nat) (hm : m < 5) : w.cell? ⟨0, m, none⟩ = some (.int .i64 (errOf m)) := by
  obtain ⟨h0, h1, h2, h3, h4⟩ := h
  match m, hm with
  | 0, _ => exact h0
  | 1, _ => exact h1
  | 2, _ => exact h2
  | 3, _ => exact h3
  | 4, _ => exact h4
theorem fault_any (g h : Nat) (l : List UInt8) (a m : Nat) (w : World) (r : Rdr w g h l a m) (hm : m < 5) (he : ErrTab w) :
    Calls Tryd.prog 24 #[.pointer (some ⟨g, 0, none⟩)] w fun e w' => e = .returned (.int .i64 (errOf m)) ∧ w' = w := by
  have h2 := r.c2
  have hc := he.at_ m hm
  clear r he
  go_enter Tryd.func24, Tryd.ntmps24
  go_wp2
  go_ret
  exact ⟨rfl, rfl⟩
end Go.Proofs.YtejgoienkpaabaaDoor
