/- Code3, Num, Code4, UnpP (merged: one text behind the other). -/
import Derived.Test.YtejgoienkpaabaaDoorMg01
import Derived.Test.YtejgoienkpaabaaDoorMg04
/- Contracts of package code's reader: next, fixed, U8, Fault. -/
namespace Go.Proofs.YtejgoienkpaabaaDoor
open Go.RowKit
set_option maxRecDepth 100000

theorem next_met (g h : Nat) (l : List UInt8) (a m : Nat) (k : Int) (w : World) (r : Rdr w g h l a m) (hm : m ≠ 0) :
    Calls Tryd.prog 79 #[.pointer (some ⟨g, 0, none⟩), .int .i64 k] w fun e w' => e = .returned (.slice none 0 0) ∧ w' = w := by
  have h2 := r.c2
  have hb : (((m : Int) == 0) = false) := by simpa using hm
  have hb' : (((m : Int) != 0) = true) := by simpa using hm
  clear r hm
  go_enter Tryd.func79, Tryd.ntmps79
  go_wp2
  go_ret
  exact ⟨rfl, rfl⟩

theorem next_short (g h : Nat) (l : List UInt8) (a : Nat) (k : Int) (w : World) (r : Rdr w g h l a 0) (hk : (l.length : Int) - a < k) :
    Calls Tryd.prog 79 #[.pointer (some ⟨g, 0, none⟩), .int .i64 k] w fun e w' => e = .returned (.slice none 0 0) ∧ Rdr w' g h l a 1 ∧ w.grownBy w' (some g) := by
  have h1 := r.c1
  have h2 := r.c2
  have H := Lib.hid r
  clear r
  go_enter Tryd.func79, Tryd.ntmps79
  go_wp2_with fail
  refine (left_any g h l a 0 _ H.out).mono ?_
  rintro e w1 ⟨rfl, k1, rfl⟩
  go_wp2_with fail
  refine (stop_any g h l a 0 a 1 _ (H.out.drewN _) H.out.hat).mono ?_
  rintro e w1 ⟨rfl, r1, g1⟩
  have H1 := Lib.hid r1
  clear r1
  go_wp2
  go_ret
  exact ⟨rfl, H1.out, gb_trans (gb_drewN (gb_refl _ _) _) g1⟩

theorem U_cell {w : World} {h : Nat} {l : List UInt8} (hb : Blk w h 5 (U l).toArray) (j : Nat) : w.cell? ⟨h, j, none⟩ = l[j]?.map fun b => .int .u8 (b.toNat : Int) := by
  rw [hb.cell, List.getElem?_toArray, U_get]

/-- what 'next' gives where k bytes are left -/
def NextOk (w : World) (g h : Nat) (l : List UInt8) (a k : Nat) (e : Ending) (w' : World) : Prop :=
  ∃ o c, e = .returned (.slice (some ⟨h, o, none⟩) k c) ∧ (0 < k → o = a) ∧ Rdr w' g h l (a + k) 0 ∧ w.grownBy w' (some g)

theorem Rdr.moved {w : World} {g h : Nat} {l : List UInt8} {a m : Nat} (r : Rdr w g h l a m) (a' : Nat) (ha' : a' ≤ l.length) (n : Nat) :
    Rdr ((w.drewN n).setCell ⟨g, 1, none⟩ (.int .i64 a')) g h l a' m ∧ w.grownBy ((w.drewN n).setCell ⟨g, 1, none⟩ (.int .i64 a')) (some g) := by
  have hb : w.grownBy ((w.drewN n).setCell ⟨g, 1, none⟩ (.int .i64 a')) (some g) := gb_set (p := ⟨g, 1, none⟩) (gb_drewN (gb_refl _ _) _) (.inl rfl) _
  have hk := (r.blk.drewN n).set_ 1 (.int .i64 a')
  exact ⟨r.turned hb ha' (by simpa using hk), hb⟩

theorem next_ok (g h : Nat) (l : List UInt8) (a k : Nat) (w : World) (r : Rdr w g h l a 0) (hk : a + k ≤ l.length) :
    Calls Tryd.prog 79 #[.pointer (some ⟨g, 0, none⟩), .int .i64 k] w fun e w' => NextOk w g h l a k e w' := by
  have h0 := r.c0
  have h1 := r.c1
  have h2 := r.c2
  have f1 := r.blk.frozen 1
  have hl := Lim_le r.len
  have H := Lib.hid r
  clear r
  go_enter Tryd.func79, Tryd.ntmps79
  go_wp2_with fail
  refine (left_any g h l a 0 _ H.out).mono ?_
  rintro e w1 ⟨rfl, k1, rfl⟩
  go_wp2_with fail
  go_quiet (fail)
  go_wp2
  all_goals go_ret
  all_goals have hm := H.out.moved (a + k) hk (k1 + nq)
  · rename_i he
    exact ⟨0, _, rfl, fun hp => by omega, by simpa using hm⟩
  · exact ⟨a, _, rfl, fun hp => rfl, by simpa using hm⟩

set_option maxHeartbeats 400000 in
theorem fixed_one (g h : Nat) (l : List UInt8) (a : Nat) (b : UInt8) (w : World) (r : Rdr w g h l a 0) (hk : l[a]? = some b) :
    Calls Tryd.prog 40 #[.pointer (some ⟨g, 0, none⟩), .int .i64 1] w fun e w' => e = .returned (.int .u64 (b.toNat : Int)) ∧ Rdr w' g h l (a + 1) 0 ∧ w.grownBy w' (some g) := by
  have ha : a + 1 ≤ l.length := by
    obtain ⟨h', _⟩ := List.getElem?_eq_some_iff.1 hk
    omega
  have hb := b.toNat_lt
  have HK := Lib.hid hk
  clear hk
  go_enter Tryd.func40, Tryd.ntmps40
  go_wp2_with fail
  refine (next_ok g h l a 1 _ r ha).mono ?_
  rintro e w1 ⟨o, c, rfl, ho, r1, g1⟩
  obtain rfl := ho (by omega)
  have hc := U_cell r1.row o
  rw [HK.out] at hc
  have hc' : w1.cell? ⟨h, o, none⟩ = some (.int .u8 (b.toNat : Int)) := by simpa using hc
  clear hc ho
  have HR := Lib.hid r1
  have HG := Lib.hid g1
  clear r1 g1 r
  go_wp2
  refine wp_loop_rounds 2 ?_
  rw [rounds_succ]
  go_wp2
  rw [rounds_succ]
  go_wp2
  go_ret
  refine ⟨ret_int ?_, HR.out, HG.out⟩
  have := or_u64 0 b.toNat (by omega) (by omega)
  simpa using this

theorem u8_any (g h : Nat) (l : List UInt8) (a : Nat) (b : UInt8) (w : World) (r : Rdr w g h l a 0) (hk : l[a]? = some b) :
    Calls Tryd.prog 22 #[.pointer (some ⟨g, 0, none⟩)] w fun e w' => e = .returned (.int .u8 (b.toNat : Int)) ∧ Rdr w' g h l (a + 1) 0 ∧ w.grownBy w' (some g) := by
  have hb := b.toNat_lt
  have HK := Lib.hid hk
  have HR := Lib.hid r
  clear hk r
  go_enter Tryd.func22, Tryd.ntmps22
  go_wp2_with fail
  refine (fixed_one g h l a b w HR.out HK.out).mono ?_
  rintro e w1 ⟨rfl, r1, g1⟩
  have HR1 := Lib.hid r1
  have HG := Lib.hid g1
  clear r1 g1
  go_wp2
  go_ret
  exact ⟨ret_int (by first | rfl | (simp; omega)), HR1.out, HG.out⟩

/-- of a reader at its end: none -/
theorem fixed_none (g h : Nat) (l : List UInt8) (w : World) (r : Rdr w g h l l.length 0) :
    Calls Tryd.prog 40 #[.pointer (some ⟨g, 0, none⟩), .int .i64 1] w fun e w' => e = .returned (.int .u64 0) ∧ Rdr w' g h l l.length 1 ∧ w.grownBy w' (some g) := by
  have HR := Lib.hid r
  clear r
  go_enter Tryd.func40, Tryd.ntmps40
  go_wp2_with fail
  refine (next_short g h l l.length 1 w HR.out (by omega)).mono ?_
  rintro e w1 ⟨rfl, r1, g1⟩
  have HR1 := Lib.hid r1
  have HG := Lib.hid g1
  clear r1 g1
  go_wp2
  refine wp_loop_rounds 1 ?_
  rw [rounds_succ]
  go_wp2
  go_ret
  exact ⟨rfl, HR1.out, HG.out⟩
theorem u8_none (g h : Nat) (l : List UInt8) (w : World) (r : Rdr w g h l l.length 0) :
    Calls Tryd.prog 22 #[.pointer (some ⟨g, 0, none⟩)] w fun e w' => e = .returned (.int .u8 0) ∧ Rdr w' g h l l.length 1 ∧ w.grownBy w' (some g) := by
  have HR := Lib.hid r
  clear r
  go_enter Tryd.func22, Tryd.ntmps22
  go_wp2_with fail
  refine (fixed_none g h l w HR.out).mono ?_
  rintro e w1 ⟨rfl, r1, g1⟩
  have HR1 := Lib.hid r1
  have HG := Lib.hid g1
  clear r1 g1
  go_wp2
  go_ret
  exact ⟨rfl, HR1.out, HG.out⟩

/-- the table of the reader's faults, laid by the program's text -/
def ErrTab (w : World) : Prop := w.cell? ⟨0, 0, none⟩ = some (.int .i64 0) ∧ w.cell? ⟨0, 1, none⟩ = some (.int .i64 10) ∧ w.cell? ⟨0, 2, none⟩ = some (.int .i64 11) ∧ w.cell? ⟨0, 3, none⟩ = some (.int .i64 12) ∧ w.cell? ⟨0, 4, none⟩ = some (.int .i64 14)
def errOf (m : Nat) : Int := match m with | 0 => 0 | 1 => 10 | 2 => 11 | 3 => 12 | _ => 14
theorem ErrTab.at_ {w : World} (h : ErrTab w) (m : Nat) (hm : m < 5) : w.cell? ⟨0, m, none⟩ = some (.int .i64 (errOf m)) := by
  obtain ⟨h0, h1, h2, h3, h4⟩ := h
  match m, hm with
  | 0, _ => exact h0
  | 1, _ => exact h1
  | 2, _ => exact h2
  | 3, _ => exact h3
  | 4, _ => exact h4
theorem fault_any (g h : Nat) (l : List UInt8) (a m : Nat) (w : World) (r : Rdr w g h l a m) (hm : m < 5) (he : ErrTab w) :
    Calls Tryd.prog 24 #[.pointer (some ⟨g, 0, none⟩)] w fun e w' => e = .returned (.int .i64 (errOf m)) ∧ w' = w := by
  have h2 := r.c2
  have hc := he.at_ m hm
  clear r he
  go_enter Tryd.func24, Tryd.ntmps24
  go_wp2
  go_ret
  exact ⟨rfl, rfl⟩
end Go.Proofs.YtejgoienkpaabaaDoor

/- Plain: the number at the front of bytes, in its shortest form. -/
namespace Go.Proofs.YtejgoienkpaabaaDoor
/-- from place i on, with n read so far -/
def numGo : List UInt8 → Nat → Nat → Option (Nat × Nat)
  | [], _, _ => none
  | c :: l, i, n =>
    if 10 ≤ i then none
    else if i = 9 ∧ 1 < c.toNat then none
    else if c.toNat < 128 then (if c.toNat = 0 ∧ 0 < i then none else some (n + c.toNat * 128 ^ i, i + 1))
    else numGo l (i + 1) (n + (c.toNat % 128) * 128 ^ i)
def num (l : List UInt8) : Option (Nat × Nat) := numGo l 0 0
theorem numGo_ten (l : List UInt8) (i n : Nat) (h : 10 ≤ i) : numGo l i n = none := by
  cases l with
  | nil => rfl
  | cons c l => simp [numGo, h]
theorem numGo_zero (c : UInt8) (l : List UInt8) (i n x : Nat) (hx : x = c.toNat) (h0 : x < 1) (hi : 0 < i) : numGo (c :: l) i n = none := by
  unfold numGo
  split
  · rfl
  · split
    · rfl
    · rw [if_pos (by omega), if_pos (by omega)]
theorem numGo_done (c : UInt8) (l : List UInt8) (i n x y : Nat) (hx : x = c.toNat) (hy : y = n + (x % 128) * 128 ^ i) (hb : x < 128) (hi : i < 10) (h9 : i = 9 → x ≤ 1) (h0 : 0 < x ∨ i = 0) : numGo (c :: l) i n = some (y, i + 1) := by
  rw [Nat.mod_eq_of_lt hb] at hy
  unfold numGo
  rw [if_neg (by omega), if_neg (by omega), if_pos (by omega), if_neg (by omega), ← hx, ← hy]
theorem numGo_more (c : UInt8) (l : List UInt8) (i n x y : Nat) (hx : x = c.toNat) (hy : y = n + (x % 128) * 128 ^ i) (hb : ¬ x < 128) (hi : i < 9) : numGo (c :: l) i n = numGo l (i + 1) y := by
  conv => lhs; unfold numGo
  rw [if_neg (by omega), if_neg (by omega), if_neg (by omega), ← hx, ← hy]
theorem numGo_nine (c : UInt8) (l : List UInt8) (i n x : Nat) (hi : 9 ≤ i) (hx : x = c.toNat) (hb : 1 < x) : numGo (c :: l) i n = none := by
  by_cases h10 : 10 ≤ i
  · exact numGo_ten _ _ _ h10
  obtain rfl : i = 9 := by omega
  unfold numGo
  rw [if_neg (by omega), if_pos ⟨rfl, by omega⟩]
theorem pow128 (i : Nat) (h : i < 9) : 128 ^ i * 128 ≤ 9223372036854775808 := by
  match i, h with
  | 0, _ => decide
  | 1, _ => decide
  | 2, _ => decide
  | 3, _ => decide
  | 4, _ => decide
  | 5, _ => decide
  | 6, _ => decide
  | 7, _ => decide
  | 8, _ => decide
theorem step_lt (i n c : Nat) (hn : n < 128 ^ i) : n + (c % 128) * 128 ^ i < 128 ^ (i + 1) := by
  rw [Nat.pow_succ]
  have h1 : c % 128 ≤ 127 := by omega
  have h2 : (c % 128) * 128 ^ i ≤ 127 * 128 ^ i := Nat.mul_le_mul_right _ h1
  omega
theorem step_lt9 (n c : Nat) (hc : c ≤ 1) (hn : n < 128 ^ 9) : n + c * 128 ^ 9 < 2 ^ 64 := by
  have h : (128 : Nat) ^ 9 = 9223372036854775808 := by decide
  rw [h] at *
  have : c * 9223372036854775808 ≤ 1 * 9223372036854775808 := Nat.mul_le_mul_right _ hc
  omega
theorem step_nine (k n x : Nat) (hk : 9 ≤ k) (hk' : k < 10) (hx : x ≤ 1) (hn : n < 128 ^ k) : n + (x % 128) * 128 ^ k < 2 ^ 64 := by
  obtain rfl : k = 9 := by omega
  rw [Nat.mod_eq_of_lt (by omega)]
  exact step_lt9 n x hx hn
/-- the or of what is read and the next seven bits -/
theorem or_add (i n x : Nat) (hn : n < 128 ^ i) : n ||| (x * 128 ^ i) = n + x * 128 ^ i := by
  have e : (128 : Nat) ^ i = 2 ^ (7 * i) := by rw [Nat.pow_mul]
  rw [e] at hn ⊢
  have h := Nat.two_pow_add_eq_or_of_lt hn x
  rw [Nat.mul_comm x, Nat.or_comm, ← h, Nat.add_comm]
theorem numGo_bound : ∀ (l : List UInt8) (i n v s : Nat), n < 128 ^ i → i ≤ 9 → numGo l i n = some (v, s) → v < 2 ^ 64 ∧ i < s ∧ s ≤ 10 ∧ s ≤ i + l.length := by
  intro l
  induction l with
  | nil => intro i n v s _ _ h; cases h
  | cons c l ih =>
    intro i n v s hn hi h
    have hc := c.toNat_lt
    unfold numGo at h
    rw [if_neg (by omega)] at h
    split at h
    · cases h
    · rename_i h9
      split at h
      · split at h
        · cases h
        · injection h with h
          injection h with h1 h2
          subst h1 h2
          refine ⟨?_, by omega, by omega, by simp⟩
          by_cases h8 : i < 9
          · have h1 := step_lt i n c.toNat hn
            rw [Nat.mod_eq_of_lt (by omega)] at h1
            have h2 := pow128 i h8
            rw [Nat.pow_succ] at h1
            omega
          · have : i = 9 := by omega
            subst this
            exact step_lt9 n c.toNat (by omega) hn
      · by_cases h8 : i < 9
        · obtain ⟨h1, h2, h3, h4⟩ := ih (i + 1) _ v s (step_lt i n c.toNat hn) (by omega) h
          refine ⟨h1, by omega, h3, ?_⟩
          simp only [List.length_cons]; omega
        · exfalso; omega
theorem num_bound (l : List UInt8) (v s : Nat) (h : num l = some (v, s)) : v < 2 ^ 64 ∧ 0 < s ∧ s ≤ 10 ∧ s ≤ l.length := by
  have := numGo_bound l 0 0 v s (by decide) (by decide) h
  omega
end Go.Proofs.YtejgoienkpaabaaDoor

/- Contract of package code's Var. -/
namespace Go.Proofs.YtejgoienkpaabaaDoor
open Go.RowKit
set_option maxRecDepth 100000
/-- what Var gives, for a number of at most 'most' -/
def VarPost (w : World) (g h : Nat) (l : List UInt8) (a most : Nat) (e : Ending) (w' : World) : Prop :=
  w.grownBy w' (some g) ∧
  ((∃ n s, num (l.drop a) = some (n, s) ∧ n ≤ most ∧ e = .returned (.int .u64 (n : Int)) ∧ Rdr w' g h l (a + s) 0) ∨
   (((num (l.drop a) = none) ∨ (∃ n s, num (l.drop a) = some (n, s) ∧ most < n)) ∧ ∃ m', 0 < m' ∧ m' < 5 ∧ e = .returned (.int .u64 0) ∧ Rdr w' g h l a m'))
theorem var_met (g h : Nat) (l : List UInt8) (a m : Nat) (most : Int) (w : World) (r : Rdr w g h l a m) (hm : m ≠ 0) :
    Calls Tryd.prog 23 #[.pointer (some ⟨g, 0, none⟩), .int .u64 most] w fun e w' => e = .returned (.int .u64 0) ∧ w' = w := by
  have h2 := r.c2
  have hb : (((m : Int) == 0) = false) := by simpa using hm
  have hb' : (((m : Int) != 0) = true) := by simpa using hm
  clear r hm
  go_enter Tryd.func23, Tryd.ntmps23
  go_wp2
  go_ret
  exact ⟨rfl, rfl⟩

theorem and127 (x : Nat) (h : x < 256) : bits .and .u8 (x : Int) 127 = ((x % 128 : Nat) : Int) := by
  have := and_u8 x 127 (by omega) (by omega)
  rw [Nat.and_two_pow_sub_one_eq_mod x 7] at this
  simpa using this
theorem and128 (x : Nat) (h : x < 256) : (bits .and .u8 (x : Int) 128 != 0) = decide (128 ≤ x) := by
  have h1 := and_u8 x 128 (by omega) (by omega)
  have h2 : ((128 : Nat) : Int) = 128 := rfl
  rw [h2] at h1
  rw [h1]
  have h3 : ∀ y : Fin 256, ((((y.val &&& 128 : Nat) : Int)) != 0) = decide (128 ≤ y.val) := by decide +kernel
  exact h3 ⟨x, h⟩
theorem or_step (v x k : Nat) (hx : x < 256) (hv : v < 128 ^ k) (hb : v + (x % 128) * 128 ^ k < 2 ^ 64) :
    bits .or .u64 (v : Int) (IntKind.u64.wrap (IntKind.u64.wrap (bits .and .u8 (x : Int) 127) * 2 ^ (7 * k))) = ((v + (x % 128) * 128 ^ k : Nat) : Int) := by
  have e : (2 : Int) ^ (7 * k) = ((128 ^ k : Nat) : Int) := by rw [Int.pow_mul]; simp
  have ho := or_add k v (x % 128) hv
  rw [and127 x hx, wraps_u64 ((x % 128 : Nat) : Int) (by omega) (by omega), e, ← Int.natCast_mul]
  generalize (x % 128) * 128 ^ k = z at *
  rw [wraps_u64 (z : Int) (by omega) (by omega), or_u64 _ _ (by omega) (by omega), ho]
theorem num_step (l : List UInt8) (a k v : Nat) (c : UInt8) (hc : l[a + k]? = some c) : numGo (l.drop (a + k)) k v = numGo (c :: l.drop (a + (k + 1))) k v := by
  obtain ⟨hlt, he⟩ := List.getElem?_eq_some_iff.1 hc
  rw [List.drop_eq_getElem_cons hlt, he]
  rfl

theorem var_empty (g h : Nat) (l : List UInt8) (most : Nat) (w : World) (r : Rdr w g h l l.length 0) :
    Calls Tryd.prog 23 #[.pointer (some ⟨g, 0, none⟩), .int .u64 most] w fun e w' => VarPost w g h l l.length most e w' := by
  have h0 := r.c0
  have h1 := r.c1
  have h2 := r.c2
  have hl := Lim_le r.len
  have H := Lib.hid r
  clear r
  go_enter Tryd.func23, Tryd.ntmps23
  go_wp2_with fail
  go_quiet ((go_at_call 41; exact Calls.quiet_of (left_any g h l l.length 0 _ (H.out.drewN _))))
  go_wp2
  refine wp_loop_rounds 1 ?_
  rw [rounds_succ]
  go_wp2_with fail
  refine (stop_any g h l l.length 0 l.length 1 _ (H.out.drewN _) (Nat.le_refl _)).mono ?_
  rintro e w1 ⟨rfl, r1, g1⟩
  have HR1 := Lib.hid r1
  have HG := Lib.hid g1
  clear r1 g1
  go_wp2
  go_ret
  exact ⟨gb_trans (gb_drewN (gb_refl _ _) _) HG.out, .inr ⟨.inl (by simp [num, numGo]), 1, by omega, by omega, rfl, HR1.out⟩⟩

set_option maxHeartbeats 1000000 in
theorem var_lt10 (g h : Nat) (l : List UInt8) (a most : Nat) (w : World) (r : Rdr w g h l a 0) (hz : ¬ l.length = a) (h10 : (l.length : Int) - a < 10) :
    Calls Tryd.prog 23 #[.pointer (some ⟨g, 0, none⟩), .int .u64 most] w fun e w' => VarPost w g h l a most e w' := by
  have h0 := r.c0
  have h1 := r.c1
  have h2 := r.c2
  have f1 := r.blk.frozen 1
  have hl := Lim_le r.len
  have ha := r.hat
  have H := Lib.hid r
  clear r
  go_enter Tryd.func23, Tryd.ntmps23
  go_wp2_with fail
  go_quiet ((go_at_call 41; exact Calls.quiet_of (left_any g h l a 0 _ (H.out.drewN _))))
  go_wp2
  go_loop [5, 33] (fun n i => ∃ k v : Nat, k ≤ l.length - a ∧ i = .int .i64 k ∧ n = .int .u64 v ∧ Hid (v < 128 ^ k) ∧ Hid (num (l.drop a) = numGo (l.drop (a + k)) k v)) (fun _ i => l.length - a - (intOf i).toNat)
  case atStart => exact ⟨0, 0, by omega, rfl, rfl, by show _ < _; decide, rfl⟩
  case round =>
    obtain ⟨k, v, hk, rfl, rfl, hv, hnum⟩ := hrel
    by_cases hlt : k < l.length - a
    · obtain ⟨c, hc⟩ : ∃ c, l[a + k]? = some c := ⟨_, List.getElem?_eq_getElem (by omega)⟩
      obtain ⟨x, hx⟩ : ∃ x : Nat, x = c.toNat := ⟨_, rfl⟩
      have hcell : w.cell? ⟨h, a + k, none⟩ = some (.int .u8 (x : Int)) := by rw [U_cell H.out.row, hc, hx]; rfl
      have hcl : x < 256 := by rw [hx]; exact c.toNat_lt
      have HC := Lib.hid (hnum.out.trans (num_step l a k v c hc))
      have HX := Lib.hid hx
      clear hc hnum hx
      have hk9 : ((k : Int) == 9) = false := beq_eq_false_iff_ne.2 (by omega)
      have HY1 := Lib.hid (step_lt k v x hv.out)
      have hval := or_step v x k hcl hv.out (by have h1 := pow128 k (by omega); have h2 := HY1.out; rw [Nat.pow_succ] at h2; omega)
      obtain ⟨y, hy⟩ : ∃ y : Nat, y = v + (x % 128) * 128 ^ k := ⟨_, rfl⟩
      have HY0 : Hid (y < 128 ^ (k + 1)) := by rw [hy]; exact HY1
      rw [← hy] at hval
      have HY := Lib.hid hy
      clear hy HY1
      by_cases hb : x < 128
      · have hand : (bits .and .u8 (x : Int) 128 != 0) = false := by rw [and128 x hcl]; simpa using hb
        by_cases hx0 : x < 1
        · have hxb : ((x : Int) == 0) = true := beq_iff_eq.2 (by omega)
          by_cases hk0 : 0 < k
          · have HN := Lib.hid (HC.out.trans (numGo_zero c _ k v x HX.out hx0 hk0))
            go_wp2_with fail
            refine (stop_any g h l a 0 a 2 _ (H.out.drewN _) H.out.hat).mono ?_
            rintro e w1 ⟨rfl, r1, g1⟩
            have HR1 := Lib.hid r1
            have HG := Lib.hid g1
            clear r1 g1
            go_wp2
            go_ret
            exact ⟨gb_trans (gb_drewN (gb_refl _ _) _) HG.out, .inr ⟨.inl HN.out, 2, by omega, by omega, rfl, HR1.out⟩⟩
          · skip
            have HN := Lib.hid (HC.out.trans (numGo_done c _ k v x y HX.out HY.out hb (by omega) (by omega) (by omega)))
            by_cases hm : y ≤ most
            · go_wp2_with fail
              go_ret
              have hbd := num_bound (l.drop a) y (k + 1) HN.out
              have hm2 := H.out.moved (a + (k + 1)) (by have := hbd.2.2.2; simp at this; omega) nq
              exact ⟨by simpa using hm2.2, .inl ⟨y, k + 1, HN.out, by omega, rfl, by simpa using hm2.1⟩⟩
            · go_wp2_with fail
              refine (stop_any g h l a 0 a 3 _ (H.out.drewN _) H.out.hat).mono ?_
              rintro e w1 ⟨rfl, r1, g1⟩
              have HR1 := Lib.hid r1
              have HG := Lib.hid g1
              clear r1 g1
              go_wp2
              go_ret
              exact ⟨gb_trans (gb_drewN (gb_refl _ _) _) HG.out, .inr ⟨.inr ⟨y, k + 1, HN.out, by omega⟩, 3, by omega, by omega, rfl, HR1.out⟩⟩
        · have hxb : ((x : Int) == 0) = false := beq_eq_false_iff_ne.2 (by omega)
          have HN := Lib.hid (HC.out.trans (numGo_done c _ k v x y HX.out HY.out hb (by omega) (by omega) (by omega)))
          by_cases hm : y ≤ most
          · go_wp2_with fail
            go_ret
            have hbd := num_bound (l.drop a) y (k + 1) HN.out
            have hm2 := H.out.moved (a + (k + 1)) (by have := hbd.2.2.2; simp at this; omega) nq
            exact ⟨by simpa using hm2.2, .inl ⟨y, k + 1, HN.out, by omega, rfl, by simpa using hm2.1⟩⟩
          · go_wp2_with fail
            refine (stop_any g h l a 0 a 3 _ (H.out.drewN _) H.out.hat).mono ?_
            rintro e w1 ⟨rfl, r1, g1⟩
            have HR1 := Lib.hid r1
            have HG := Lib.hid g1
            clear r1 g1
            go_wp2
            go_ret
            exact ⟨gb_trans (gb_drewN (gb_refl _ _) _) HG.out, .inr ⟨.inr ⟨y, k + 1, HN.out, by omega⟩, 3, by omega, by omega, rfl, HR1.out⟩⟩
      · have hand : (bits .and .u8 (x : Int) 128 != 0) = true := by rw [and128 x hcl]; simp; omega
        go_wp2_with fail
        go_round
        case rel => exact ⟨k + 1, y, by omega, by go_num, rfl, HY0, HC.out.trans (numGo_more c _ k v x y HX.out HY.out hb (by omega))⟩
        case measure => simp [intOf]; omega
      
    · have hnn : num (l.drop a) = none := by
        rw [hnum.out]
        rw [List.drop_eq_nil_of_le (by omega)]; rfl
      have HN := Lib.hid hnn
      clear hnn hnum
      go_wp2_with fail
      refine (stop_any g h l a 0 a 1 _ (H.out.drewN _) H.out.hat).mono ?_
      rintro e w1 ⟨rfl, r1, g1⟩
      have HR1 := Lib.hid r1
      have HG := Lib.hid g1
      clear r1 g1
      go_wp2
      go_ret
      exact ⟨gb_trans (gb_drewN (gb_refl _ _) _) HG.out, .inr ⟨.inl HN.out, 1, by omega, by omega, rfl, HR1.out⟩⟩
set_option maxHeartbeats 1000000 in
theorem var_ge10 (g h : Nat) (l : List UInt8) (a most : Nat) (w : World) (r : Rdr w g h l a 0) (hz : ¬ l.length = a) (h10 : ¬ ((l.length : Int) - a < 10)) :
    Calls Tryd.prog 23 #[.pointer (some ⟨g, 0, none⟩), .int .u64 most] w fun e w' => VarPost w g h l a most e w' := by
  have h0 := r.c0
  have h1 := r.c1
  have h2 := r.c2
  have f1 := r.blk.frozen 1
  have hl := Lim_le r.len
  have ha := r.hat
  have H := Lib.hid r
  clear r
  go_enter Tryd.func23, Tryd.ntmps23
  go_wp2_with fail
  go_quiet ((go_at_call 41; exact Calls.quiet_of (left_any g h l a 0 _ (H.out.drewN _))))
  go_wp2
  go_loop [5, 33] (fun n i => ∃ k v : Nat, k ≤ 10 ∧ i = .int .i64 k ∧ n = .int .u64 v ∧ Hid (v < 128 ^ k) ∧ Hid (num (l.drop a) = numGo (l.drop (a + k)) k v)) (fun _ i => 10 - (intOf i).toNat)
  case atStart => exact ⟨0, 0, by omega, rfl, rfl, by show _ < _; decide, rfl⟩
  case round =>
    obtain ⟨k, v, hk, rfl, rfl, hv, hnum⟩ := hrel
    by_cases hlt : k < 10
    · obtain ⟨c, hc⟩ : ∃ c, l[a + k]? = some c := ⟨_, List.getElem?_eq_getElem (by omega)⟩
      obtain ⟨x, hx⟩ : ∃ x : Nat, x = c.toNat := ⟨_, rfl⟩
      have hcell : w.cell? ⟨h, a + k, none⟩ = some (.int .u8 (x : Int)) := by rw [U_cell H.out.row, hc, hx]; rfl
      have hcl : x < 256 := by rw [hx]; exact c.toNat_lt
      have HC := Lib.hid (hnum.out.trans (num_step l a k v c hc))
      have HX := Lib.hid hx
      clear hc hnum hx
      by_cases h9 : k < 9
      · skip
        have hk9 : ((k : Int) == 9) = false := beq_eq_false_iff_ne.2 (by omega)
        have HY1 := Lib.hid (step_lt k v x hv.out)
        have hval := or_step v x k hcl hv.out (by have h1 := pow128 k (by omega); have h2 := HY1.out; rw [Nat.pow_succ] at h2; omega)
        obtain ⟨y, hy⟩ : ∃ y : Nat, y = v + (x % 128) * 128 ^ k := ⟨_, rfl⟩
        have HY0 : Hid (y < 128 ^ (k + 1)) := by rw [hy]; exact HY1
        rw [← hy] at hval
        have HY := Lib.hid hy
        clear hy HY1
        by_cases hb : x < 128
        · have hand : (bits .and .u8 (x : Int) 128 != 0) = false := by rw [and128 x hcl]; simpa using hb
          by_cases hx0 : x < 1
          · have hxb : ((x : Int) == 0) = true := beq_iff_eq.2 (by omega)
            by_cases hk0 : 0 < k
            · have HN := Lib.hid (HC.out.trans (numGo_zero c _ k v x HX.out hx0 hk0))
              go_wp2_with fail
              refine (stop_any g h l a 0 a 2 _ (H.out.drewN _) H.out.hat).mono ?_
              rintro e w1 ⟨rfl, r1, g1⟩
              have HR1 := Lib.hid r1
              have HG := Lib.hid g1
              clear r1 g1
              go_wp2
              go_ret
              exact ⟨gb_trans (gb_drewN (gb_refl _ _) _) HG.out, .inr ⟨.inl HN.out, 2, by omega, by omega, rfl, HR1.out⟩⟩
            · skip
              have HN := Lib.hid (HC.out.trans (numGo_done c _ k v x y HX.out HY.out hb (by omega) (by omega) (by omega)))
              by_cases hm : y ≤ most
              · go_wp2_with fail
                go_ret
                have hbd := num_bound (l.drop a) y (k + 1) HN.out
                have hm2 := H.out.moved (a + (k + 1)) (by have := hbd.2.2.2; simp at this; omega) nq
                exact ⟨by simpa using hm2.2, .inl ⟨y, k + 1, HN.out, by omega, rfl, by simpa using hm2.1⟩⟩
              · go_wp2_with fail
                refine (stop_any g h l a 0 a 3 _ (H.out.drewN _) H.out.hat).mono ?_
                rintro e w1 ⟨rfl, r1, g1⟩
                have HR1 := Lib.hid r1
                have HG := Lib.hid g1
                clear r1 g1
                go_wp2
                go_ret
                exact ⟨gb_trans (gb_drewN (gb_refl _ _) _) HG.out, .inr ⟨.inr ⟨y, k + 1, HN.out, by omega⟩, 3, by omega, by omega, rfl, HR1.out⟩⟩
          · have hxb : ((x : Int) == 0) = false := beq_eq_false_iff_ne.2 (by omega)
            have HN := Lib.hid (HC.out.trans (numGo_done c _ k v x y HX.out HY.out hb (by omega) (by omega) (by omega)))
            by_cases hm : y ≤ most
            · go_wp2_with fail
              go_ret
              have hbd := num_bound (l.drop a) y (k + 1) HN.out
              have hm2 := H.out.moved (a + (k + 1)) (by have := hbd.2.2.2; simp at this; omega) nq
              exact ⟨by simpa using hm2.2, .inl ⟨y, k + 1, HN.out, by omega, rfl, by simpa using hm2.1⟩⟩
            · go_wp2_with fail
              refine (stop_any g h l a 0 a 3 _ (H.out.drewN _) H.out.hat).mono ?_
              rintro e w1 ⟨rfl, r1, g1⟩
              have HR1 := Lib.hid r1
              have HG := Lib.hid g1
              clear r1 g1
              go_wp2
              go_ret
              exact ⟨gb_trans (gb_drewN (gb_refl _ _) _) HG.out, .inr ⟨.inr ⟨y, k + 1, HN.out, by omega⟩, 3, by omega, by omega, rfl, HR1.out⟩⟩
        · have hand : (bits .and .u8 (x : Int) 128 != 0) = true := by rw [and128 x hcl]; simp; omega
          go_wp2_with fail
          go_round
          case rel => exact ⟨k + 1, y, by omega, by go_num, rfl, HY0, HC.out.trans (numGo_more c _ k v x y HX.out HY.out hb (by omega))⟩
          case measure => simp [intOf]; omega
        
      · skip
        have hk9 : ((k : Int) == 9) = true := beq_iff_eq.2 (by omega)
        have hk9' : ((k : Int) != 9) = false := by rw [bne_eq_false_iff_eq]; omega
        by_cases hx1 : 1 < x
        · have HN := Lib.hid (HC.out.trans (numGo_nine c _ k v x (by omega) HX.out hx1))
          go_wp2_with fail
          refine (stop_any g h l a 0 a 2 _ (H.out.drewN _) H.out.hat).mono ?_
          rintro e w1 ⟨rfl, r1, g1⟩
          have HR1 := Lib.hid r1
          have HG := Lib.hid g1
          clear r1 g1
          go_wp2
          go_ret
          exact ⟨gb_trans (gb_drewN (gb_refl _ _) _) HG.out, .inr ⟨.inl HN.out, 2, by omega, by omega, rfl, HR1.out⟩⟩
        · have hval := or_step v x k hcl hv.out (step_nine k v x (by omega) (by omega) (by omega) hv.out)
          obtain ⟨y, hy⟩ : ∃ y : Nat, y = v + (x % 128) * 128 ^ k := ⟨_, rfl⟩
          rw [← hy] at hval
          have HY := Lib.hid hy
          clear hy
          have hb : x < 128 := by omega
          have hand : (bits .and .u8 (x : Int) 128 != 0) = false := by rw [and128 x hcl]; simpa using hb
          by_cases hx0 : x < 1
          · have hxb : ((x : Int) == 0) = true := beq_iff_eq.2 (by omega)
            have HN := Lib.hid (HC.out.trans (numGo_zero c _ k v x HX.out hx0 (by omega)))
            go_wp2_with fail
            refine (stop_any g h l a 0 a 2 _ (H.out.drewN _) H.out.hat).mono ?_
            rintro e w1 ⟨rfl, r1, g1⟩
            have HR1 := Lib.hid r1
            have HG := Lib.hid g1
            clear r1 g1
            go_wp2
            go_ret
            exact ⟨gb_trans (gb_drewN (gb_refl _ _) _) HG.out, .inr ⟨.inl HN.out, 2, by omega, by omega, rfl, HR1.out⟩⟩
          · have hxb : ((x : Int) == 0) = false := beq_eq_false_iff_ne.2 (by omega)
            have HN := Lib.hid (HC.out.trans (numGo_done c _ k v x y HX.out HY.out hb (by omega) (by omega) (by omega)))
            by_cases hm : y ≤ most
            · go_wp2_with fail
              go_ret
              have hbd := num_bound (l.drop a) y (k + 1) HN.out
              have hm2 := H.out.moved (a + (k + 1)) (by have := hbd.2.2.2; simp at this; omega) nq
              exact ⟨by simpa using hm2.2, .inl ⟨y, k + 1, HN.out, by omega, rfl, by simpa using hm2.1⟩⟩
            · go_wp2_with fail
              refine (stop_any g h l a 0 a 3 _ (H.out.drewN _) H.out.hat).mono ?_
              rintro e w1 ⟨rfl, r1, g1⟩
              have HR1 := Lib.hid r1
              have HG := Lib.hid g1
              clear r1 g1
              go_wp2
              go_ret
              exact ⟨gb_trans (gb_drewN (gb_refl _ _) _) HG.out, .inr ⟨.inr ⟨y, k + 1, HN.out, by omega⟩, 3, by omega, by omega, rfl, HR1.out⟩⟩
    · have hnn : num (l.drop a) = none := by
        rw [hnum.out]
        exact numGo_ten _ _ _ (by omega)
      have HN := Lib.hid hnn
      clear hnn hnum
      go_wp2_with fail
      refine (stop_any g h l a 0 a 2 _ (H.out.drewN _) H.out.hat).mono ?_
      rintro e w1 ⟨rfl, r1, g1⟩
      have HR1 := Lib.hid r1
      have HG := Lib.hid g1
      clear r1 g1
      go_wp2
      go_ret
      exact ⟨gb_trans (gb_drewN (gb_refl _ _) _) HG.out, .inr ⟨.inl HN.out, 2, by omega, by omega, rfl, HR1.out⟩⟩

theorem var_any (g h : Nat) (l : List UInt8) (a most : Nat) (w : World) (r : Rdr w g h l a 0) :
    Calls Tryd.prog 23 #[.pointer (some ⟨g, 0, none⟩), .int .u64 most] w fun e w' => VarPost w g h l a most e w' := by
  by_cases hz : l.length = a
  · subst hz
    exact var_empty g h l most w r
  · by_cases h10 : (l.length : Int) - a < 10
    · exact var_lt10 g h l a most w r hz h10
    · exact var_ge10 g h l a most w r hz h10
end Go.Proofs.YtejgoienkpaabaaDoor

/- Plain: what Unpress answers. -/
namespace Go.Proofs.YtejgoienkpaabaaDoor
def unpP (b : List UInt8) (max : Int) : List UInt8 × Nat :=
  match b with
  | [] => ([], 80)
  | m :: t =>
    if 1 < m.toNat then ([], 80) else
    match num t with
    | none => ([], 80)
    | some (n, s) =>
      if max < 0 ∨ max < (n : Int) ∨ 65536 < n then ([], 81) else
      if m.toNat = 0 then (if (t.drop s).length = n then (t.drop s, 0) else ([], 80))
      else if 0 < n ∧ 148 ≤ (t.drop s).length then (match codedP (t.drop s) n with | some out => (out, 0) | none => ([], 80))
      else ([], 80)
end Go.Proofs.YtejgoienkpaabaaDoor
