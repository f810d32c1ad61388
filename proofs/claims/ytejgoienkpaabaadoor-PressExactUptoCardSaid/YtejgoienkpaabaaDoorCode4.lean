/- Contract of package code's Var. -/
import Derived.Test.YtejgoienkpaabaaDoorCode3
import Derived.Test.YtejgoienkpaabaaDoorNum
namespace Go.Proofs.YtejgoienkpaabaaDoor
open Go.RowKit
set_option maxRecDepth 100000
/-- what Var gives, for a number of at most 'most' -/
def VarPost (w : World) (g h : Nat) (l : List UInt8) (a most : Nat) (e : Ending) (w' : World) : Prop :=
  w.grownBy w' (some g) ∧
  ((∃ n s, num (l.drop a) = some (n, s) ∧ n ≤ most ∧ e = .returned (.int .u64 (n : Int)) ∧ Rdr w' g h l (a + s) 0) ∨
   (((num (l.drop a) = none) ∨ (∃ n s, num (l.drop a) = some (n, s) ∧ most < n)) ∧ ∃ m', 0 < m' ∧ m' < 5 ∧ e = .returned (.int .u64 0) ∧ Rdr w' g h l a m'))
theorem var_met (g h : Nat) (l : List UInt8) (a m : Nat) (most : Int) (w : World) (r : Rdr w g h l a m) (hm : m ≠ 0) :
    Calls Tryd.prog 23 #[.pointer (some ⟨g, 0, none⟩), .int .u64 most] w fun e w' => e = .returned (.int .u64 0) ∧ w' = w := by
  have h2 := r.c2
  have hb : (((m : Int) == 0) = false) := by simpa using hm
  have hb' : (((m : Int) != 0) = true) := by simpa using hm
  clear r hm
  go_enter Tryd.func23, Tryd.ntmps23
  go_wp2
  go_ret
  exact ⟨rfl, rfl⟩

theorem and127 (x : Nat) (h : x < 256) : bits .and .u8 (x : Int) 127 = ((x % 128 : Nat) : Int) := by
  have := and_u8 x 127 (by omega) (by omega)
  rw [Nat.and_two_pow_sub_one_eq_mod x 7] at this
  simpa using this
theorem and128 (x : Nat) (h : x < 256) : (bits .and .u8 (x : Int) 128 != 0) = decide (128 ≤ x) := by
  have h1 := and_u8 x 128 (by omega) (by omega)
  have h2 : ((128 : Nat) : Int) = 128 := rfl
  rw [h2] at h1
  rw [h1]
  have h3 : ∀ y : Fin 256, ((((y.val &&& 128 : Nat) : Int)) != 0) = decide (128 ≤ y.val) := by decide +kernel
  exact h3 ⟨x, h⟩
theorem or_step (v x k : Nat) (hx : x < 256) (hv : v < 128 ^ k) (hb : v + (x % 128) * 128 ^ k < 2 ^ 64) :
    bits .or .u64 (v : Int) (IntKind.u64.wrap (IntKind.u64.wrap (bits .and .u8 (x : Int) 127) * 2 ^ (7 * k))) = ((v + (x % 128) * 128 ^ k : Nat) : Int) := by
  have e : (2 : Int) ^ (7 * k) = ((128 ^ k : Nat) : Int) := by rw [Int.pow_mul]; simp
  have ho := or_add k v (x % 128) hv
  rw [and127 x hx, wraps_u64 ((x % 128 : Nat) : Int) (by omega) (by omega), e, ← Int.natCast_mul]
  generalize (x % 128) * 128 ^ k = z at *
  rw [wraps_u64 (z : Int) (by omega) (by omega), or_u64 _ _ (by omega) (by omega), ho]
theorem num_step (l : List UInt8) (a k v : Nat) (c : UInt8) (hc : l[a + k]? = some c) : numGo (l.drop (a + k)) k v = numGo (c :: l.drop (a + (k + 1))) k v := by
  obtain ⟨hlt, he⟩ := List.getElem?_eq_some_iff.1 hc
  rw [List.drop_eq_getElem_cons hlt, he]
  rfl

theorem var_empty (g h : Nat) (l : List UInt8) (most : Nat) (w : World) (r : Rdr w g h l l.length 0) :
    Calls Tryd.prog 23 #[.pointer (some ⟨g, 0, none⟩), .int .u64 most] w fun e w' => VarPost w g h l l.length most e w' := by
  have h0 := r.c0
  have h1 := r.c1
  have h2 := r.c2
  have hl := Lim_le r.len
  have H := Lib.hid r
  clear r
  go_enter Tryd.func23, Tryd.ntmps23
  go_wp2_with fail
  go_quiet ((go_at_call 41; exact Calls.quiet_of (left_any g h l l.length 0 _ (H.out.drewN _))))
  go_wp2
  refine wp_loop_rounds 1 ?_
  rw [rounds_succ]
  go_wp2_with fail
  refine (stop_any g h l l.length 0 l.length 1 _ (H.out.drewN _) (Nat.le_refl _)).mono ?_
  rintro e w1 ⟨rfl, r1, g1⟩
  have HR1 := Lib.hid r1
  have HG := Lib.hid g1
  clear r1 g1
  go_wp2
  go_ret
  exact ⟨gb_trans (gb_drewN (gb_refl _ _) _) HG.out, .inr ⟨.inl (by simp [num, numGo]), 1, by omega, by omega, rfl, HR1.out⟩⟩

set_option maxHeartbeats 1000000 in
theorem var_lt10 (g h : Nat) (l : List UInt8) (a most : Nat) (w : World) (r : Rdr w g h l a 0) (hz : ¬ l.length = a) (h10 : (l.length : Int) - a < 10) :
    Calls Tryd.prog 23 #[.pointer (some ⟨g, 0, none⟩), .int .u64 most] w fun e w' => VarPost w g h l a most e w' := by
  have h0 := r.c0
  have h1 := r.c1
  have h2 := r.c2
  have f1 := r.blk.frozen 1
  have hl := Lim_le r.len
  have ha := r.hat
  have H := Lib.hid r
  clear r
  go_enter Tryd.func23, Tryd.ntmps23
  go_wp2_with fail
  go_quiet ((go_at_call 41; exact Calls.quiet_of (left_any g h l a 0 _ (H.out.drewN _))))
  go_wp2
  go_loop [5, 33] (fun n i => ∃ k v : Nat, k ≤ l.length - a ∧ i = .int .i64 k ∧ n = .int .u64 v ∧ Hid (v < 128 ^ k) ∧ Hid (num (l.drop a) = numGo (l.drop (a + k)) k v)) (fun _ i => l.length - a - (intOf i).toNat)
  case atStart => exact ⟨0, 0, by omega, rfl, rfl, by show _ < _; decide, rfl⟩
  case round =>
    obtain ⟨k, v, hk, rfl, rfl, hv, hnum⟩ := hrel
    by_cases hlt : k < l.length - a
    · obtain ⟨c, hc⟩ : ∃ c, l[a + k]? = some c := ⟨_, List.getElem?_eq_getElem (by omega)⟩
      obtain ⟨x, hx⟩ : ∃ x : Nat, x = c.toNat := ⟨_, rfl⟩
      have hcell : w.cell? ⟨h, a + k, none⟩ = some (.int .u8 (x : Int)) := by rw [U_cell H.out.row, hc, hx]; rfl
      have hcl : x < 256 := by rw [hx]; exact c.toNat_lt
      have HC := Lib.hid (hnum.out.trans (num_step l a k v c hc))
      have HX := Lib.hid hx
      clear hc hnum hx
      have hk9 : ((k : Int) == 9) = false := beq_eq_false_iff_ne.2 (by omega)
      have HY1 := Lib.hid (step_lt k v x hv.out)
      have hval := or_step v x k hcl hv.out (by have h1 := pow128 k (by omega); have h2 := HY1.out; rw [Nat.pow_succ] at h2; omega)
      obtain ⟨y, hy⟩ : ∃ y : Nat, y = v + (x % 128) * 128 ^ k := ⟨_, rfl⟩
      have HY0 : Hid (y < 128 ^ (k + 1)) := by rw [hy]; exact HY1
      rw [← hy] at hval
      have HY := Lib.hid hy
      clear hy HY1
      by_cases hb : x < 128
      · have hand : (bits .and .u8 (x : Int) 128 != 0) = false := by rw [and128 x hcl]; simpa using hb
        by_cases hx0 : x < 1
        · have hxb : ((x : Int) == 0) = true := beq_iff_eq.2 (by omega)
          by_cases hk0 : 0 < k
          · have HN := Lib.hid (HC.out.trans (numGo_zero c _ k v x HX.out hx0 hk0))
            go_wp2_with fail
            refine (stop_any g h l a 0 a 2 _ (H.out.drewN _) H.out.hat).mono ?_
            rintro e w1 ⟨rfl, r1, g1⟩
            have HR1 := Lib.hid r1
            have HG := Lib.hid g1
            clear r1 g1
            go_wp2
            go_ret
            exact ⟨gb_trans (gb_drewN (gb_refl _ _) _) HG.out, .inr ⟨.inl HN.out, 2, by omega, by omega, rfl, HR1.out⟩⟩
          · skip
            have HN := Lib.hid (HC.out.trans (numGo_done c _ k v x y HX.out HY.out hb (by omega) (by omega) (by omega)))
            by_cases hm : y ≤ most
            · go_wp2_with fail
              go_ret
              have hbd := num_bound (l.drop a) y (k + 1) HN.out
              have hm2 := H.out.moved (a + (k + 1)) (by have := hbd.2.2.2; simp at this; omega) nq
              exact ⟨by simpa using hm2.2, .inl ⟨y, k + 1, HN.out, by omega, rfl, by simpa using hm2.1⟩⟩
            · go_wp2_with fail
              refine (stop_any g h l a 0 a 3 _ (H.out.drewN _) H.out.hat).mono ?_
              rintro e w1 ⟨rfl, r1, g1⟩
              have HR1 := Lib.hid r1
              have HG := Lib.hid g1
              clear r1 g1
              go_wp2
              go_ret
              exact ⟨gb_trans (gb_drewN (gb_refl _ _) _) HG.out, .inr ⟨.inr ⟨y, k + 1, HN.out, by omega⟩, 3, by omega, by omega, rfl, HR1.out⟩⟩
        · have hxb : ((x : Int) == 0) = false := beq_eq_false_iff_ne.2 (by omega)
          have HN := Lib.hid (HC.out.trans (numGo_done c _ k v x y HX.out HY.out hb (by omega) (by omega) (by omega)))
          by_cases hm : y ≤ most
          · go_wp2_with fail
            go_ret
            have hbd := num_bound (l.drop a) y (k + 1) HN.out
            have hm2 := H.out.moved (a + (k + 1)) (by have := hbd.2.2.2; simp at this; omega) nq
            exact ⟨by simpa using hm2.2, .inl ⟨y, k + 1, HN.out, by omega, rfl, by simpa using hm2.1⟩⟩
          · go_wp2_with fail
            refine (stop_any g h l a 0 a 3 _ (H.out.drewN _) H.out.hat).mono ?_
            rintro e w1 ⟨rfl, r1, g1⟩
            have HR1 := Lib.hid r1
            have HG := Lib.hid g1
            clear r1 g1
            go_wp2
            go_ret
            exact ⟨gb_trans (gb_drewN (gb_refl _ _) _) HG.out, .inr ⟨.inr ⟨y, k + 1, HN.out, by omega⟩, 3, by omega, by omega, rfl, HR1.out⟩⟩
      · have hand : (bits .and .u8 (x : Int) 128 != 0) = true := by rw [and128 x hcl]; simp; omega
        go_wp2_with fail
        go_round
        case rel => exact ⟨k + 1, y, by omega, by go_num, rfl, HY0, HC.out.trans (numGo_more c _ k v x y HX.out HY.out hb (by omega))⟩
        case measure => simp [intOf]; omega
      
    · have hnn : num (l.drop a) = none := by
        rw [hnum.out]
        rw [List.drop_eq_nil_of_le (by omega)]; rfl
      have HN := Lib.hid hnn
      clear hnn hnum
      go_wp2_with fail
      refine (stop_any g h l a 0 a 1 _ (H.out.drewN _) H.out.hat).mono ?_
      rintro e w1 ⟨rfl, r1, g1⟩
      have HR1 := Lib.hid r1
      have HG := Lib.hid g1
      clear r1 g1
      go_wp2
      go_ret
      exact ⟨gb_trans (gb_drewN (gb_refl _ _) _) HG.out, .inr ⟨.inl HN.out, 1, by omega, by omega, rfl, HR1.out⟩⟩
set_option maxHeartbeats 1000000 in
theorem var_ge10 (g h : Nat) (l : List UInt8) (a most : Nat) (w : World) (r : Rdr w g h l a 0) (hz : ¬ l.length = a) (h10 : ¬ ((l.length : Int) - a < 10)) :
    Calls Tryd.prog 23 #[.pointer (some ⟨g, 0, none⟩), .int .u64 most] w fun e w' => VarPost w g h l a most e w' := by
  have h0 := r.c0
  have h1 := r.c1
  have h2 := r.c2
  have f1 := r.blk.frozen 1
  have hl := Lim_le r.len
  have ha := r.hat
  have H := Lib.hid r
  clear r
  go_enter Tryd.func23, Tryd.ntmps23
  go_wp2_with fail
  go_quiet ((go_at_call 41; exact Calls.quiet_of (left_any g h l a 0 _ (H.out.drewN _))))
  go_wp2
  go_loop [5, 33] (fun n i => ∃ k v : Nat, k ≤ 10 ∧ i = .int .i64 k ∧ n = .int .u64 v ∧ Hid (v < 128 ^ k) ∧ Hid (num (l.drop a) = numGo (l.drop (a + k)) k v)) (fun _ i => 10 - (intOf i).toNat)
  case atStart => exact ⟨0, 0, by omega, rfl, rfl, by show _ < _; decide, rfl⟩
  case round =>
    obtain ⟨k, v, hk, rfl, rfl, hv, hnum⟩ := hrel
    by_cases hlt : k < 10
    · obtain ⟨c, hc⟩ : ∃ c, l[a + k]? = some c := ⟨_, List.getElem?_eq_getElem (by omega)⟩
      obtain ⟨x, hx⟩ : ∃ x : Nat, x = c.toNat := ⟨_, rfl⟩
      have hcell : w.cell? ⟨h, a + k, none⟩ = some (.int .u8 (x : Int)) := by rw [U_cell H.out.row, hc, hx]; rfl
      have hcl : x < 256 := by rw [hx]; exact c.toNat_lt
      have HC := Lib.hid (hnum.out.trans (num_step l a k v c hc))
      have HX := Lib.hid hx
      clear hc hnum hx
      by_cases h9 : k < 9
      · skip
        have hk9 : ((k : Int) == 9) = false := beq_eq_false_iff_ne.2 (by omega)
        have HY1 := Lib.hid (step_lt k v x hv.out)
        have hval := or_step v x k hcl hv.out (by have h1 := pow128 k (by omega); have h2 := HY1.out; rw [Nat.pow_succ] at h2; omega)
        obtain ⟨y, hy⟩ : ∃ y : Nat, y = v + (x % 128) * 128 ^ k := ⟨_, rfl⟩
        have HY0 : Hid (y < 128 ^ (k + 1)) := by rw [hy]; exact HY1
        rw [← hy] at hval
        have HY := Lib.hid hy
        clear hy HY1
        by_cases hb : x < 128
        · have hand : (bits .and .u8 (x : Int) 128 != 0) = false := by rw [and128 x hcl]; simpa using hb
          by_cases hx0 : x < 1
          · have hxb : ((x : Int) == 0) = true := beq_iff_eq.2 (by omega)
            by_cases hk0 : 0 < k
            · have HN := Lib.hid (HC.out.trans (numGo_zero c _ k v x HX.out hx0 hk0))
              go_wp2_with fail
              refine (stop_any g h l a 0 a 2 _ (H.out.drewN _) H.out.hat).mono ?_
              rintro e w1 ⟨rfl, r1, g1⟩
              have HR1 := Lib.hid r1
              have HG := Lib.hid g1
              clear r1 g1
              go_wp2
              go_ret
              exact ⟨gb_trans (gb_drewN (gb_refl _ _) _) HG.out, .inr ⟨.inl HN.out, 2, by omega, by omega, rfl, HR1.out⟩⟩
            · skip
              have HN := Lib.hid (HC.out.trans (numGo_done c _ k v x y HX.out HY.out hb (by omega) (by omega) (by omega)))
              by_cases hm : y ≤ most
              · go_wp2_with fail
                go_ret
                have hbd := num_bound (l.drop a) y (k + 1) HN.out
                have hm2 := H.out.moved (a + (k + 1)) (by have := hbd.2.2.2; simp at this; omega) nq
                exact ⟨by simpa using hm2.2, .inl ⟨y, k + 1, HN.out, by omega, rfl, by simpa using hm2.1⟩⟩
              · go_wp2_with fail
                refine (stop_any g h l a 0 a 3 _ (H.out.drewN _) H.out.hat).mono ?_
                rintro e w1 ⟨rfl, r1, g1⟩
                have HR1 := Lib.hid r1
                have HG := Lib.hid g1
                clear r1 g1
                go_wp2
                go_ret
                exact ⟨gb_trans (gb_drewN (gb_refl _ _) _) HG.out, .inr ⟨.inr ⟨y, k + 1, HN.out, by omega⟩, 3, by omega, by omega, rfl, HR1.out⟩⟩
          · have hxb : ((x : Int) == 0) = false := beq_eq_false_iff_ne.2 (by omega)
            have HN := Lib.hid (HC.out.trans (numGo_done c _ k v x y HX.out HY.out hb (by omega) (by omega) (by omega)))
            by_cases hm : y ≤ most
            · go_wp2_with fail
              go_ret
              have hbd := num_bound (l.drop a) y (k + 1) HN.out
              have hm2 := H.out.moved (a + (k + 1)) (by have := hbd.2.2.2; simp at this; omega) nq
              exact ⟨by simpa using hm2.2, .inl ⟨y, k + 1, HN.out, by omega, rfl, by simpa using hm2.1⟩⟩
            · go_wp2_with fail
              refine (stop_any g h l a 0 a 3 _ (H.out.drewN _) H.out.hat).mono ?_
              rintro e w1 ⟨rfl, r1, g1⟩
              have HR1 := Lib.hid r1
              have HG := Lib.hid g1
              clear r1 g1
              go_wp2
              go_ret
              exact ⟨gb_trans (gb_drewN (gb_refl _ _) _) HG.out, .inr ⟨.inr ⟨y, k + 1, HN.out, by omega⟩, 3, by omega, by omega, rfl, HR1.out⟩⟩
        · have hand : (bits .and .u8 (x : Int) 128 != 0) = true := by rw [and128 x hcl]; simp; omega
          go_wp2_with fail
          go_round
          case rel => exact ⟨k + 1, y, by omega, by go_num, rfl, HY0, HC.out.trans (numGo_more c _ k v x y HX.out HY.out hb (by omega))⟩
          case measure => simp [intOf]; omega
        
      · skip
        have hk9 : ((k : Int) == 9) = true := beq_iff_eq.2 (by omega)
        have hk9' : ((k : Int) != 9) = false := by rw [bne_eq_false_iff_eq]; omega
        by_cases hx1 : 1 < x
        · have HN := Lib.hid (HC.out.trans (numGo_nine c _ k v x (by omega) HX.out hx1))
          go_wp2_with fail
          refine (stop_any g h l a 0 a 2 _ (H.out.drewN _) H.out.hat).mono ?_
          rintro e w1 ⟨rfl, r1, g1⟩
          have HR1 := Lib.hid r1
          have HG := Lib.hid g1
          clear r1 g1
          go_wp2
          go_ret
          exact ⟨gb_trans (gb_drewN (gb_refl _ _) _) HG.out, .inr ⟨.inl HN.out, 2, by omega, by omega, rfl, HR1.out⟩⟩
        · have hval := or_step v x k hcl hv.out (step_nine k v x (by omega) (by omega) (by omega) hv.out)
          obtain ⟨y, hy⟩ : ∃ y : Nat, y = v + (x % 128) * 128 ^ k := ⟨_, rfl⟩
          rw [← hy] at hval
          have HY := Lib.hid hy
          clear hy
          have hb : x < 128 := by omega
          have hand : (bits .and .u8 (x : Int) 128 != 0) = false := by rw [and128 x hcl]; simpa using hb
          by_cases hx0 : x < 1
          · have hxb : ((x : Int) == 0) = true := beq_iff_eq.2 (by omega)
            have HN := Lib.hid (HC.out.trans (numGo_zero c _ k v x HX.out hx0 (by omega)))
            go_wp2_with fail
            refine (stop_any g h l a 0 a 2 _ (H.out.drewN _) H.out.hat).mono ?_
            rintro e w1 ⟨rfl, r1, g1⟩
            have HR1 := Lib.hid r1
            have HG := Lib.hid g1
            clear r1 g1
            go_wp2
            go_ret
            exact ⟨gb_trans (gb_drewN (gb_refl _ _) _) HG.out, .inr ⟨.inl HN.out, 2, by omega, by omega, rfl, HR1.out⟩⟩
          · have hxb : ((x : Int) == 0) = false := beq_eq_false_iff_ne.2 (by omega)
            have HN := Lib.hid (HC.out.trans (numGo_done c _ k v x y HX.out HY.out hb (by omega) (by omega) (by omega)))
            by_cases hm : y ≤ most
            · go_wp2_with fail
              go_ret
              have hbd := num_bound (l.drop a) y (k + 1) HN.out
              have hm2 := H.out.moved (a + (k + 1)) (by have := hbd.2.2.2; simp at this; omega) nq
              exact ⟨by simpa using hm2.2, .inl ⟨y, k + 1, HN.out, by omega, rfl, by simpa using hm2.1⟩⟩
            · go_wp2_with fail
              refine (stop_any g h l a 0 a 3 _ (H.out.drewN _) H.out.hat).mono ?_
              rintro e w1 ⟨rfl, r1, g1⟩
              have HR1 := Lib.hid r1
              have HG := Lib.hid g1
              clear r1 g1
              go_wp2
              go_ret
              exact ⟨gb_trans (gb_drewN (gb_refl _ _) _) HG.out, .inr ⟨.inr ⟨y, k + 1, HN.out, by omega⟩, 3, by omega, by omega, rfl, HR1.out⟩⟩
    · have hnn : num (l.drop a) = none := by
        rw [hnum.out]
        exact numGo_ten _ _ _ (by omega)
      have HN := Lib.hid hnn
      clear hnn hnum
      go_wp2_with fail
      refine (stop_any g h l a 0 a 2 _ (H.out.drewN _) H.out.hat).mono ?_
      rintro e w1 ⟨rfl, r1, g1⟩
      have HR1 := Lib.hid r1
      have HG := Lib.hid g1
      clear r1 g1
      go_wp2
      go_ret
      exact ⟨gb_trans (gb_drewN (gb_refl _ _) _) HG.out, .inr ⟨.inl HN.out, 2, by omega, by omega, rfl, HR1.out⟩⟩

theorem var_any (g h : Nat) (l : List UInt8) (a most : Nat) (w : World) (r : Rdr w g h l a 0) :
    Calls Tryd.prog 23 #[.pointer (some ⟨g, 0, none⟩), .int .u64 most] w fun e w' => VarPost w g h l a most e w' := by
  by_cases hz : l.length = a
  · subst hz
    exact var_empty g h l most w r
  · by_cases h10 : (l.length : Int) - a < 10
    · exact var_lt10 g h l a most w r hz h10
    · exact var_ge10 g h l a most w r hz h10
end Go.Proofs.YtejgoienkpaabaaDoor
