/- Contracts of package code's reader. -/
import Derived.Test.YtejgoienkpaabaaDoorCode1
namespace Go.Proofs.YtejgoienkpaabaaDoor
open Go.RowKit
set_option maxRecDepth 100000

/-- A reader: its struct is block g, the bytes it reads are block h. -/
structure Rdr (w : World) (g h : Nat) (l : List UInt8) (at_ met : Nat) : Prop where
  blk : Blk w g 78 #[.slice (some ⟨h, 0, none⟩) l.length l.length, .int .i64 at_, .int .i64 met]
  row : Blk w h 5 (U l).toArray
  len : l.length ≤ Lim
  hat : at_ ≤ l.length

theorem Rdr.ne {w : World} {g h : Nat} {l : List UInt8} {a m : Nat} (r : Rdr w g h l a m) : g ≠ h := r.blk.ne_ r.row (by decide)
theorem Rdr.c0 {w : World} {g h : Nat} {l : List UInt8} {a m : Nat} (r : Rdr w g h l a m) : w.cell? ⟨g, 0, none⟩ = some (.slice (some ⟨h, 0, none⟩) l.length l.length) := by rw [r.blk.cell]; rfl
theorem Rdr.c1 {w : World} {g h : Nat} {l : List UInt8} {a m : Nat} (r : Rdr w g h l a m) : w.cell? ⟨g, 1, none⟩ = some (.int .i64 a) := by rw [r.blk.cell]; rfl
theorem Rdr.c2 {w : World} {g h : Nat} {l : List UInt8} {a m : Nat} (r : Rdr w g h l a m) : w.cell? ⟨g, 2, none⟩ = some (.int .i64 m) := by rw [r.blk.cell]; rfl
theorem Rdr.drewN {w : World} {g h : Nat} {l : List UInt8} {a m : Nat} (r : Rdr w g h l a m) (k : Nat) : Rdr (w.drewN k) g h l a m := ⟨r.blk.drewN k, r.row.drewN k, r.len, r.hat⟩
theorem Rdr.gb {w w' : World} {g h : Nat} {l : List UInt8} {a m : Nat} (r : Rdr w g h l a m) (hb : w.grownBy w' none) : Rdr w' g h l a m := ⟨r.blk.gb hb (by simp), r.row.gb hb (by simp), r.len, r.hat⟩
theorem Rdr.turned {w w' : World} {g h : Nat} {l : List UInt8} {a m a' m' : Nat} (r : Rdr w g h l a m) (hb : w.grownBy w' (some g)) (ha : a' ≤ l.length)
    (hk : Blk w' g 78 #[.slice (some ⟨h, 0, none⟩) l.length l.length, .int .i64 a', .int .i64 m']) : Rdr w' g h l a' m' :=
  ⟨hk, r.row.gb hb (by have := r.ne; simpa using fun e => this e.symm), r.len, ha⟩

theorem Rdr.stopped {w : World} {g h : Nat} {l : List UInt8} {a m : Nat} (r : Rdr w g h l a m) (a' m' : Nat) (ha' : a' ≤ l.length) :
    Rdr ((w.setCell ⟨g, 1, none⟩ (.int .i64 a')).setCell ⟨g, 2, none⟩ (.int .i64 m')) g h l a' m' ∧ w.grownBy ((w.setCell ⟨g, 1, none⟩ (.int .i64 a')).setCell ⟨g, 2, none⟩ (.int .i64 m')) (some g) := by
  have hb : w.grownBy ((w.setCell ⟨g, 1, none⟩ (.int .i64 a')).setCell ⟨g, 2, none⟩ (.int .i64 m')) (some g) := by
    refine gb_set (p := ⟨g, 2, none⟩) ?_ (.inl rfl) _
    exact gb_set (p := ⟨g, 1, none⟩) (gb_refl _ _) (.inl rfl) _
  have hk := (r.blk.set_ 1 (.int .i64 a')).set_ 2 (.int .i64 m')
  exact ⟨r.turned hb ha' (by simpa using hk), hb⟩

theorem left_any (g h : Nat) (l : List UInt8) (a m : Nat) (w : World) (r : Rdr w g h l a m) :
    Calls Tryd.prog 41 #[.pointer (some ⟨g, 0, none⟩)] w fun e w' => e = .returned (.int .i64 ((l.length : Int) - a)) ∧ ∃ k, w' = w.drewN k := by
  have h0 := r.c0
  have h1 := r.c1
  have hl := Lim_le r.len
  have ha := r.hat
  clear r
  go_enter Tryd.func41, Tryd.ntmps41
  go_wp2_with fail
  go_quiet (fail)
  go_wp2
  go_ret
  exact ⟨rfl, _, rfl⟩

theorem at_any (g h : Nat) (l : List UInt8) (a m : Nat) (w : World) (r : Rdr w g h l a m) :
    Calls Tryd.prog 25 #[.pointer (some ⟨g, 0, none⟩)] w fun e w' => e = .returned (.int .i64 a) ∧ w' = w := by
  have h1 := r.c1
  clear r
  go_enter Tryd.func25, Tryd.ntmps25
  go_wp2
  go_ret
  exact ⟨rfl, rfl⟩

theorem stop_any (g h : Nat) (l : List UInt8) (a m : Nat) (a' m' : Nat) (w : World) (r : Rdr w g h l a m) (ha' : a' ≤ l.length) :
    Calls Tryd.prog 42 #[.pointer (some ⟨g, 0, none⟩), .int .i64 a', .int .i64 m'] w fun e w' => e = .returned (.tuple #[]) ∧ Rdr w' g h l a' m' ∧ w.grownBy w' (some g) := by
  have h1 := r.c1
  have h2 := r.c2
  have f1 := r.blk.frozen 1
  have f2 := r.blk.frozen 2
  have H := Lib.hid r
  clear r
  go_enter Tryd.func42, Tryd.ntmps42
  go_wp2
  go_end0
  exact ⟨rfl, H.out.stopped a' m' ha'⟩
end Go.Proofs.YtejgoienkpaabaaDoor
