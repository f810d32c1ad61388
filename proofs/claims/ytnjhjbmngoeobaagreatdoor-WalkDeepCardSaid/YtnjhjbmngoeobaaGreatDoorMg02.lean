/- Laws towards WalkDeep: Code4, ObjP, Words, CpyG. -/
import Derived.Test.YtnjhjbmngoeobaaGreatDoorMg01
import Derived.Deep.RegionLaw
import Derived.Lib.AppendStr
import Derived.Deep.LoopGhost
import Derived.Deep.RegionHeld3
namespace Go.Proofs.YtnjhjbmngoeobaaGreatDoor
open Go.RowKit
set_option maxRecDepth 100000
def VarPost (w : World) (g h : Nat) (l : List UInt8) (a most : Nat) (e : Ending) (w' : World) : Prop :=
 w.grownBy w' (some g) ∧
 ((∃ n s, num (l.drop a) = some (n, s) ∧ n ≤ most ∧ e = .returned (.int .u64 (n : Int)) ∧ Rdr w' g h l (a + s) 0) ∨
  (((num (l.drop a) = none) ∨ (∃ n s, num (l.drop a) = some (n, s) ∧ most < n)) ∧ ∃ m', 0 < m' ∧ m' < 5 ∧ e = .returned (.int .u64 0) ∧ Rdr w' g h l a m'))
theorem var_met (g h : Nat) (l : List UInt8) (a m : Nat) (most : Int) (w : World) (r : Rdr w g h l a m) (hm : m ≠ 0) :
 Calls Tryz.prog 76 #[.pointer (some ⟨g, 0, none⟩), .int .u64 most] w fun e w' => e = .returned (.int .u64 0) ∧ w' = w := by
 have h2 := r.c2
 have hb : (((m : Int) == 0) = false) := by simpa using hm
 have hb' : (((m : Int) != 0) = true) := by simpa using hm
 clear r hm
 go_enter Tryz.func76, Tryz.ntmps76
 go_wp2
 go_ret
 exact ⟨rfl, rfl⟩
theorem and127 (x : Nat) (h : x < 256) : bits .and .u8 (x : Int) 127 = ((x % 128 : Nat) : Int) := by
 have := and_u8 x 127 (by omega) (by omega)
 rw [Nat.and_two_pow_sub_one_eq_mod x 7] at this
 simpa using this
theorem and128 (x : Nat) (h : x < 256) : (bits .and .u8 (x : Int) 128 != 0) = decide (128 ≤ x) := by
 have h1 := and_u8 x 128 (by omega) (by omega)
 have h2 : ((128 : Nat) : Int) = 128 := rfl
 rw [h2] at h1
 rw [h1]
 have h3 : ∀ y : Fin 256, ((((y.val &&& 128 : Nat) : Int)) != 0) = decide (128 ≤ y.val) := by decide +kernel
 exact h3 ⟨x, h⟩
theorem or_step (v x k : Nat) (hx : x < 256) (hv : v < 128 ^ k) (hb : v + (x % 128) * 128 ^ k < 2 ^ 64) :
 bits .or .u64 (v : Int) (IntKind.u64.wrap (IntKind.u64.wrap (bits .and .u8 (x : Int) 127) * 2 ^ (7 * k))) = ((v + (x % 128) * 128 ^ k : Nat) : Int) := by
 have e : (2 : Int) ^ (7 * k) = ((128 ^ k : Nat) : Int) := by rw [Int.pow_mul]; simp
 have ho := or_add k v (x % 128) hv
 rw [and127 x hx, wraps_u64 ((x % 128 : Nat) : Int) (by omega) (by omega), e, ← Int.natCast_mul]
 generalize (x % 128) * 128 ^ k = z at *
 rw [wraps_u64 (z : Int) (by omega) (by omega), or_u64 _ _ (by omega) (by omega), ho]
theorem num_step (l : List UInt8) (a k v : Nat) (c : UInt8) (hc : l[a + k]? = some c) : numGo (l.drop (a + k)) k v = numGo (c :: l.drop (a + (k + 1))) k v := by
 obtain ⟨hlt, he⟩ := List.getElem?_eq_some_iff.1 hc
 rw [List.drop_eq_getElem_cons hlt, he]
 rfl
theorem var_empty (g h : Nat) (l : List UInt8) (most : Nat) (w : World) (r : Rdr w g h l l.length 0) :
 Calls Tryz.prog 76 #[.pointer (some ⟨g, 0, none⟩), .int .u64 most] w fun e w' => VarPost w g h l l.length most e w' := by
 have h0 := r.c0
 have h1 := r.c1
 have h2 := r.c2
 have hl := Lim_le r.len
 have H := Lib.hid r
 clear r
 go_enter Tryz.func76, Tryz.ntmps76
 go_wp2_with fail
 go_quiet ((go_at_call 60; exact Calls.quiet_of (left_any g h l l.length 0 _ (H.out.drewN _))))
 go_wp2
 refine wp_loop_rounds 1 ?_
 rw [rounds_succ]
 go_wp2_with fail
 refine (stop_any g h l l.length 0 l.length 1 _ (H.out.drewN _) (Nat.le_refl _)).mono ?_
 rintro e w1 ⟨rfl, r1, g1⟩
 have HR1 := Lib.hid r1
 have HG := Lib.hid g1
 clear r1 g1
 go_wp2
 go_ret
 exact ⟨gb_trans (gb_drewN (gb_refl _ _) _) HG.out, .inr ⟨.inl (by simp [num, numGo]), 1, by omega, by omega, rfl, HR1.out⟩⟩
set_option maxHeartbeats 1000000 in
theorem var_lt10 (g h : Nat) (l : List UInt8) (a most : Nat) (w : World) (r : Rdr w g h l a 0) (hz : ¬ l.length = a) (h10 : (l.length : Int) - a < 10) :
 Calls Tryz.prog 76 #[.pointer (some ⟨g, 0, none⟩), .int .u64 most] w fun e w' => VarPost w g h l a most e w' := by
 have h0 := r.c0
 have h1 := r.c1
 have h2 := r.c2
 have f1 := r.blk.frozen 1
 have hl := Lim_le r.len
 have ha := r.hat
 have H := Lib.hid r
 clear r
 go_enter Tryz.func76, Tryz.ntmps76
 go_wp2_with fail
 go_quiet ((go_at_call 60; exact Calls.quiet_of (left_any g h l a 0 _ (H.out.drewN _))))
 go_wp2
 go_loop [5, 33] (fun n i => ∃ k v : Nat, k ≤ l.length - a ∧ i = .int .i64 k ∧ n = .int .u64 v ∧ Hid (v < 128 ^ k) ∧ Hid (num (l.drop a) = numGo (l.drop (a + k)) k v)) (fun _ i => l.length - a - (intOf i).toNat)
 case atStart => exact ⟨0, 0, by omega, rfl, rfl, by show _ < _; decide, rfl⟩
 case round =>
  obtain ⟨k, v, hk, rfl, rfl, hv, hnum⟩ := hrel
  by_cases hlt : k < l.length - a
  · obtain ⟨c, hc⟩ : ∃ c, l[a + k]? = some c := ⟨_, List.getElem?_eq_getElem (by omega)⟩
    obtain ⟨x, hx⟩ : ∃ x : Nat, x = c.toNat := ⟨_, rfl⟩
    have hcell : w.cell? ⟨h, a + k, none⟩ = some (.int .u8 (x : Int)) := by rw [U_cell H.out.row, hc, hx]; rfl
    have hcl : x < 256 := by rw [hx]; exact c.toNat_lt
    have HC := Lib.hid (hnum.out.trans (num_step l a k v c hc))
    have HX := Lib.hid hx
    clear hc hnum hx
    have hk9 : ((k : Int) == 9) = false := beq_eq_false_iff_ne.2 (by omega)
    have HY1 := Lib.hid (step_lt k v x hv.out)
    have hval := or_step v x k hcl hv.out (by have h1 := pow128 k (by omega); have h2 := HY1.out; rw [Nat.pow_succ] at h2; omega)
    obtain ⟨y, hy⟩ : ∃ y : Nat, y = v + (x % 128) * 128 ^ k := ⟨_, rfl⟩
    have HY0 : Hid (y < 128 ^ (k + 1)) := by rw [hy]; exact HY1
    rw [← hy] at hval
    have HY := Lib.hid hy
    clear hy HY1
    by_cases hb : x < 128
    · have hand : (bits .and .u8 (x : Int) 128 != 0) = false := by rw [and128 x hcl]; simpa using hb
      by_cases hx0 : x < 1
      · have hxb : ((x : Int) == 0) = true := beq_iff_eq.2 (by omega)
        by_cases hk0 : 0 < k
        · have HN := Lib.hid (HC.out.trans (numGo_zero c _ k v x HX.out hx0 hk0))
          go_wp2_with fail
          refine (stop_any g h l a 0 a 2 _ (H.out.drewN _) H.out.hat).mono ?_
          rintro e w1 ⟨rfl, r1, g1⟩
          have HR1 := Lib.hid r1
          have HG := Lib.hid g1
          clear r1 g1
          go_wp2
          go_ret
          exact ⟨gb_trans (gb_drewN (gb_refl _ _) _) HG.out, .inr ⟨.inl HN.out, 2, by omega, by omega, rfl, HR1.out⟩⟩
        · skip
          have HN := Lib.hid (HC.out.trans (numGo_done c _ k v x y HX.out HY.out hb (by omega) (by omega) (by omega)))
          by_cases hm : y ≤ most
          · go_wp2_with fail
            go_ret
            have hbd := num_bound (l.drop a) y (k + 1) HN.out
            have hm2 := H.out.moved (a + (k + 1)) (by have := hbd.2.2.2; simp at this; omega) nq
            exact ⟨by simpa using hm2.2, .inl ⟨y, k + 1, HN.out, by omega, rfl, by simpa using hm2.1⟩⟩
          · go_wp2_with fail
            refine (stop_any g h l a 0 a 3 _ (H.out.drewN _) H.out.hat).mono ?_
            rintro e w1 ⟨rfl, r1, g1⟩
            have HR1 := Lib.hid r1
            have HG := Lib.hid g1
            clear r1 g1
            go_wp2
            go_ret
            exact ⟨gb_trans (gb_drewN (gb_refl _ _) _) HG.out, .inr ⟨.inr ⟨y, k + 1, HN.out, by omega⟩, 3, by omega, by omega, rfl, HR1.out⟩⟩
      · have hxb : ((x : Int) == 0) = false := beq_eq_false_iff_ne.2 (by omega)
        have HN := Lib.hid (HC.out.trans (numGo_done c _ k v x y HX.out HY.out hb (by omega) (by omega) (by omega)))
        by_cases hm : y ≤ most
        · go_wp2_with fail
          go_ret
          have hbd := num_bound (l.drop a) y (k + 1) HN.out
          have hm2 := H.out.moved (a + (k + 1)) (by have := hbd.2.2.2; simp at this; omega) nq
          exact ⟨by simpa using hm2.2, .inl ⟨y, k + 1, HN.out, by omega, rfl, by simpa using hm2.1⟩⟩
        · go_wp2_with fail
          refine (stop_any g h l a 0 a 3 _ (H.out.drewN _) H.out.hat).mono ?_
          rintro e w1 ⟨rfl, r1, g1⟩
          have HR1 := Lib.hid r1
          have HG := Lib.hid g1
          clear r1 g1
          go_wp2
          go_ret
          exact ⟨gb_trans (gb_drewN (gb_refl _ _) _) HG.out, .inr ⟨.inr ⟨y, k + 1, HN.out, by omega⟩, 3, by omega, by omega, rfl, HR1.out⟩⟩
    · have hand : (bits .and .u8 (x : Int) 128 != 0) = true := by rw [and128 x hcl]; simp; omega
      go_wp2_with fail
      go_round
      case rel => exact ⟨k + 1, y, by omega, by go_num, rfl, HY0, HC.out.trans (numGo_more c _ k v x y HX.out HY.out hb (by omega))⟩
      case measure => simp [intOf]; omega
  · have hnn : num (l.drop a) = none := by
     rw [hnum.out]
     rw [List.drop_eq_nil_of_le (by omega)]; rfl
    have HN := Lib.hid hnn
    clear hnn hnum
    go_wp2_with fail
    refine (stop_any g h l a 0 a 1 _ (H.out.drewN _) H.out.hat).mono ?_
    rintro e w1 ⟨rfl, r1, g1⟩
    have HR1 := Lib.hid r1
    have HG := Lib.hid g1
    clear r1 g1
    go_wp2
    go_ret
    exact ⟨gb_trans (gb_drewN (gb_refl _ _) _) HG.out, .inr ⟨.inl HN.out, 1, by omega, by omega, rfl, HR1.out⟩⟩
set_option maxHeartbeats 1000000 in
theorem var_ge10 (g h : Nat) (l : List UInt8) (a most : Nat) (w : World) (r : Rdr w g h l a 0) (hz : ¬ l.length = a) (h10 : ¬ ((l.length : Int) - a < 10)) :
 Calls Tryz.prog 76 #[.pointer (some ⟨g, 0, none⟩), .int .u64 most] w fun e w' => VarPost w g h l a most e w' := by
 have h0 := r.c0
 have h1 := r.c1
 have h2 := r.c2
 have f1 := r.blk.frozen 1
 have hl := Lim_le r.len
 have ha := r.hat
 have H := Lib.hid r
 clear r
 go_enter Tryz.func76, Tryz.ntmps76
 go_wp2_with fail
 go_quiet ((go_at_call 60; exact Calls.quiet_of (left_any g h l a 0 _ (H.out.drewN _))))
 go_wp2
 go_loop [5, 33] (fun n i => ∃ k v : Nat, k ≤ 10 ∧ i = .int .i64 k ∧ n = .int .u64 v ∧ Hid (v < 128 ^ k) ∧ Hid (num (l.drop a) = numGo (l.drop (a + k)) k v)) (fun _ i => 10 - (intOf i).toNat)
 case atStart => exact ⟨0, 0, by omega, rfl, rfl, by show _ < _; decide, rfl⟩
 case round =>
  obtain ⟨k, v, hk, rfl, rfl, hv, hnum⟩ := hrel
  by_cases hlt : k < 10
  · obtain ⟨c, hc⟩ : ∃ c, l[a + k]? = some c := ⟨_, List.getElem?_eq_getElem (by omega)⟩
    obtain ⟨x, hx⟩ : ∃ x : Nat, x = c.toNat := ⟨_, rfl⟩
    have hcell : w.cell? ⟨h, a + k, none⟩ = some (.int .u8 (x : Int)) := by rw [U_cell H.out.row, hc, hx]; rfl
    have hcl : x < 256 := by rw [hx]; exact c.toNat_lt
    have HC := Lib.hid (hnum.out.trans (num_step l a k v c hc))
    have HX := Lib.hid hx
    clear hc hnum hx
    by_cases h9 : k < 9
    · skip
      have hk9 : ((k : Int) == 9) = false := beq_eq_false_iff_ne.2 (by omega)
      have HY1 := Lib.hid (step_lt k v x hv.out)
      have hval := or_step v x k hcl hv.out (by have h1 := pow128 k (by omega); have h2 := HY1.out; rw [Nat.pow_succ] at h2; omega)
      obtain ⟨y, hy⟩ : ∃ y : Nat, y = v + (x % 128) * 128 ^ k := ⟨_, rfl⟩
      have HY0 : Hid (y < 128 ^ (k + 1)) := by rw [hy]; exact HY1
      rw [← hy] at hval
      have HY := Lib.hid hy
      clear hy HY1
      by_cases hb : x < 128
      · have hand : (bits .and .u8 (x : Int) 128 != 0) = false := by rw [and128 x hcl]; simpa using hb
        by_cases hx0 : x < 1
        · have hxb : ((x : Int) == 0) = true := beq_iff_eq.2 (by omega)
          by_cases hk0 : 0 < k
          · have HN := Lib.hid (HC.out.trans (numGo_zero c _ k v x HX.out hx0 hk0))
            go_wp2_with fail
            refine (stop_any g h l a 0 a 2 _ (H.out.drewN _) H.out.hat).mono ?_
            rintro e w1 ⟨rfl, r1, g1⟩
            have HR1 := Lib.hid r1
            have HG := Lib.hid g1
            clear r1 g1
            go_wp2
            go_ret
            exact ⟨gb_trans (gb_drewN (gb_refl _ _) _) HG.out, .inr ⟨.inl HN.out, 2, by omega, by omega, rfl, HR1.out⟩⟩
          · skip
            have HN := Lib.hid (HC.out.trans (numGo_done c _ k v x y HX.out HY.out hb (by omega) (by omega) (by omega)))
            by_cases hm : y ≤ most
            · go_wp2_with fail
              go_ret
              have hbd := num_bound (l.drop a) y (k + 1) HN.out
              have hm2 := H.out.moved (a + (k + 1)) (by have := hbd.2.2.2; simp at this; omega) nq
              exact ⟨by simpa using hm2.2, .inl ⟨y, k + 1, HN.out, by omega, rfl, by simpa using hm2.1⟩⟩
            · go_wp2_with fail
              refine (stop_any g h l a 0 a 3 _ (H.out.drewN _) H.out.hat).mono ?_
              rintro e w1 ⟨rfl, r1, g1⟩
              have HR1 := Lib.hid r1
              have HG := Lib.hid g1
              clear r1 g1
              go_wp2
              go_ret
              exact ⟨gb_trans (gb_drewN (gb_refl _ _) _) HG.out, .inr ⟨.inr ⟨y, k + 1, HN.out, by omega⟩, 3, by omega, by omega, rfl, HR1.out⟩⟩
        · have hxb : ((x : Int) == 0) = false := beq_eq_false_iff_ne.2 (by omega)
          have HN := Lib.hid (HC.out.trans (numGo_done c _ k v x y HX.out HY.out hb (by omega) (by omega) (by omega)))
          by_cases hm : y ≤ most
          · go_wp2_with fail
            go_ret
            have hbd := num_bound (l.drop a) y (k + 1) HN.out
            have hm2 := H.out.moved (a + (k + 1)) (by have := hbd.2.2.2; simp at this; omega) nq
            exact ⟨by simpa using hm2.2, .inl ⟨y, k + 1, HN.out, by omega, rfl, by simpa using hm2.1⟩⟩
          · go_wp2_with fail
            refine (stop_any g h l a 0 a 3 _ (H.out.drewN _) H.out.hat).mono ?_
            rintro e w1 ⟨rfl, r1, g1⟩
            have HR1 := Lib.hid r1
            have HG := Lib.hid g1
            clear r1 g1
            go_wp2
            go_ret
            exact ⟨gb_trans (gb_drewN (gb_refl _ _) _) HG.out, .inr ⟨.inr ⟨y, k + 1, HN.out, by omega⟩, 3, by omega, by omega, rfl, HR1.out⟩⟩
      · have hand : (bits .and .u8 (x : Int) 128 != 0) = true := by rw [and128 x hcl]; simp; omega
        go_wp2_with fail
        go_round
        case rel => exact ⟨k + 1, y, by omega, by go_num, rfl, HY0, HC.out.trans (numGo_more c _ k v x y HX.out HY.out hb (by omega))⟩
        case measure => simp [intOf]; omega
    · skip
      have hk9 : ((k : Int) == 9) = true := beq_iff_eq.2 (by omega)
      have hk9' : ((k : Int) != 9) = false := by rw [bne_eq_false_iff_eq]; omega
      by_cases hx1 : 1 < x
      · have HN := Lib.hid (HC.out.trans (numGo_nine c _ k v x (by omega) HX.out hx1))
        go_wp2_with fail
        refine (stop_any g h l a 0 a 2 _ (H.out.drewN _) H.out.hat).mono ?_
        rintro e w1 ⟨rfl, r1, g1⟩
        have HR1 := Lib.hid r1
        have HG := Lib.hid g1
        clear r1 g1
        go_wp2
        go_ret
        exact ⟨gb_trans (gb_drewN (gb_refl _ _) _) HG.out, .inr ⟨.inl HN.out, 2, by omega, by omega, rfl, HR1.out⟩⟩
      · have hval := or_step v x k hcl hv.out (step_nine k v x (by omega) (by omega) (by omega) hv.out)
        obtain ⟨y, hy⟩ : ∃ y : Nat, y = v + (x % 128) * 128 ^ k := ⟨_, rfl⟩
        rw [← hy] at hval
        have HY := Lib.hid hy
        clear hy
        have hb : x < 128 := by omega
        have hand : (bits .and .u8 (x : Int) 128 != 0) = false := by rw [and128 x hcl]; simpa using hb
        by_cases hx0 : x < 1
        · have hxb : ((x : Int) == 0) = true := beq_iff_eq.2 (by omega)
          have HN := Lib.hid (HC.out.trans (numGo_zero c _ k v x HX.out hx0 (by omega)))
          go_wp2_with fail
          refine (stop_any g h l a 0 a 2 _ (H.out.drewN _) H.out.hat).mono ?_
          rintro e w1 ⟨rfl, r1, g1⟩
          have HR1 := Lib.hid r1
          have HG := Lib.hid g1
          clear r1 g1
          go_wp2
          go_ret
          exact ⟨gb_trans (gb_drewN (gb_refl _ _) _) HG.out, .inr ⟨.inl HN.out, 2, by omega, by omega, rfl, HR1.out⟩⟩
        · have hxb : ((x : Int) == 0) = false := beq_eq_false_iff_ne.2 (by omega)
          have HN := Lib.hid (HC.out.trans (numGo_done c _ k v x y HX.out HY.out hb (by omega) (by omega) (by omega)))
          by_cases hm : y ≤ most
          · go_wp2_with fail
            go_ret
            have hbd := num_bound (l.drop a) y (k + 1) HN.out
            have hm2 := H.out.moved (a + (k + 1)) (by have := hbd.2.2.2; simp at this; omega) nq
            exact ⟨by simpa using hm2.2, .inl ⟨y, k + 1, HN.out, by omega, rfl, by simpa using hm2.1⟩⟩
          · go_wp2_with fail
            refine (stop_any g h l a 0 a 3 _ (H.out.drewN _) H.out.hat).mono ?_
            rintro e w1 ⟨rfl, r1, g1⟩
            have HR1 := Lib.hid r1
            have HG := Lib.hid g1
            clear r1 g1
            go_wp2
            go_ret
            exact ⟨gb_trans (gb_drewN (gb_refl _ _) _) HG.out, .inr ⟨.inr ⟨y, k + 1, HN.out, by omega⟩, 3, by omega, by omega, rfl, HR1.out⟩⟩
  · have hnn : num (l.drop a) = none := by
     rw [hnum.out]
     exact numGo_ten _ _ _ (by omega)
    have HN := Lib.hid hnn
    clear hnn hnum
    go_wp2_with fail
    refine (stop_any g h l a 0 a 2 _ (H.out.drewN _) H.out.hat).mono ?_
    rintro e w1 ⟨rfl, r1, g1⟩
    have HR1 := Lib.hid r1
    have HG := Lib.hid g1
    clear r1 g1
    go_wp2
    go_ret
    exact ⟨gb_trans (gb_drewN (gb_refl _ _) _) HG.out, .inr ⟨.inl HN.out, 2, by omega, by omega, rfl, HR1.out⟩⟩
theorem var_any (g h : Nat) (l : List UInt8) (a most : Nat) (w : World) (r : Rdr w g h l a 0) :
 Calls Tryz.prog 76 #[.pointer (some ⟨g, 0, none⟩), .int .u64 most] w fun e w' => VarPost w g h l a most e w' := by
 by_cases hz : l.length = a
 · subst hz
   exact var_empty g h l most w r
 · by_cases h10 : (l.length : Int) - a < 10
   · exact var_lt10 g h l a most w r hz h10
   · exact var_ge10 g h l a most w r hz h10
end Go.Proofs.YtnjhjbmngoeobaaGreatDoor
namespace Go.Proofs.YtnjhjbmngoeobaaGreatDoor
set_option maxRecDepth 20000
abbrev Bs := List UInt8
abbrev Id := {b : List UInt8 // b.length = 32}
def pad32 (b : Bs) : Id := ⟨(b ++ List.replicate 32 0).take 32, by simp⟩
theorem pad32_id (b : Bs) (h : b.length = 32) : pad32 b = ⟨b, h⟩ := by
 apply Subtype.ext
 show (b ++ List.replicate 32 0).take 32 = b
 rw [← h, List.take_left]
def zeroId : Id := ⟨List.replicate 32 0, by simp⟩
def beNat (b : Bs) : Nat := b.foldl (fun n c => n * 256 + c.toNat) 0
def be8 (n : Nat) : Bs := [UInt8.ofNat (n / 72057594037927936), UInt8.ofNat (n / 281474976710656), UInt8.ofNat (n / 1099511627776), UInt8.ofNat (n / 4294967296), UInt8.ofNat (n / 16777216), UInt8.ofNat (n / 65536), UInt8.ofNat (n / 256), UInt8.ofNat n]
def rU8 : Option Bs → UInt8 × Option Bs
 | some (b :: t) => (b, some t)
 | _ => (0, none)
def rRaw (k : Nat) : Option Bs → Bs × Option Bs
 | some t => if k ≤ t.length then (t.take k, some (t.drop k)) else ([], none)
 | none => ([], none)
def rNum (most : Nat) : Option Bs → Nat × Option Bs
 | some t => (match num t with | some (n, z) => if n ≤ most then (n, some (t.drop z)) else (0, none) | none => (0, none))
 | none => (0, none)
def rBytes (most : Nat) (s : Option Bs) : Bs × Option Bs := rRaw (rNum most s).1 (rNum most s).2
def rId (s : Option Bs) : Id × Option Bs := (pad32 (rRaw 32 s).1, (rRaw 32 s).2)
def rU64 (s : Option Bs) : Nat × Option Bs := (beNat (rRaw 8 s).1, (rRaw 8 s).2)
structure Ent where
 mode : Nat
 name : Bs
 id : Id deriving DecidableEq
structure Com where
 tree : Id
 parents : List Id
 who : Bs
 time : Nat
 text : Bs deriving DecidableEq
structure Tg where
 target : Id
 kind : Nat
 name : Bs
 who : Bs
 time : Nat
 text : Bs deriving DecidableEq
inductive Ob where
 | blob (b : Bs)
 | tree (es : List Ent)
 | commit (c : Com)
 | tag (t : Tg) deriving DecidableEq
def rEnt (s : Option Bs) : Ent × Option Bs :=
 (⟨(rU8 s).1.toNat, (rBytes 255 (rU8 s).2).1, (rId (rBytes 255 (rU8 s).2).2).1⟩, (rId (rBytes 255 (rU8 s).2).2).2)
def rTree : Nat → List Ent → Option Bs → List Ent × Option Bs
 | 0, es, s => (es, s)
 | _ + 1, es, none => (es, none)
 | n + 1, es, some t => rTree n (es ++ [(rEnt (some t)).1]) (rEnt (some t)).2
def rPars : Nat → List Id → Option Bs → List Id × Option Bs
 | 0, es, s => (es, s)
 | _ + 1, es, none => (es, none)
 | n + 1, es, some t => rPars n (es ++ [(rId (some t)).1]) (rId (some t)).2
def rTr (s : Option Bs) : List Ent × Option Bs := rTree (rNum 1024 s).1 [] (rNum 1024 s).2
def rCom (s : Option Bs) : Com × Option Bs :=
 let t := rId s
 let n := rNum 8 t.2
 let ps := rPars n.1 [] n.2
 let who := rBytes 255 ps.2
 let time := rU64 who.2
 let text := rBytes 4096 time.2
 (⟨t.1, ps.1, who.1, time.1, text.1⟩, text.2)
def rTag (s : Option Bs) : Tg × Option Bs :=
 let t := rId s
 let k := rU8 t.2
 let name := rBytes 255 k.2
 let who := rBytes 255 name.2
 let time := rU64 who.2
 let text := rBytes 4096 time.2
 (⟨t.1, k.1.toNat, name.1, who.1, time.1, text.1⟩, text.2)
def rOb (l : Bs) : Option (Ob × Option Bs) :=
 match l with
 | [] => none
 | k :: t =>
   if k.toNat = 1 then some (.blob t, some [])
   else if k.toNat = 2 then some (.tree (rTr (some t)).1, (rTr (some t)).2)
   else if k.toNat = 3 then some (.commit (rCom (some t)).1, (rCom (some t)).2)
   else if k.toNat = 4 then some (.tag (rTag (some t)).1, (rTag (some t)).2)
   else none
def idsB : List Id → Bs
 | [] => []
 | i :: l => i.1 ++ idsB l
def layB (s : Bs) : Bs := varP s.length ++ s
def layEnt (e : Ent) : Bs := UInt8.ofNat e.mode :: (layB e.name ++ e.id.1)
def layOb : Ob → Bs
 | .blob b => 1 :: b
 | .tree es => 2 :: (varP es.length ++ es.flatMap layEnt)
 | .commit c => 3 :: (c.tree.1 ++ (varP c.parents.length ++ (idsB c.parents ++ (layB c.who ++ (be8 c.time ++ layB c.text)))))
 | .tag t => 4 :: (t.target.1 ++ (UInt8.ofNat t.kind :: (layB t.name ++ (layB t.who ++ (be8 t.time ++ layB t.text)))))
structure EntFit (e : Ent) : Prop where
 mode : e.mode < 256
 name : e.name.length ≤ 255
def ObFit : Ob → Prop
 | .blob _ => True
 | .tree es => es.length ≤ 1024 ∧ ∀ e ∈ es, EntFit e
 | .commit c => c.parents.length ≤ 8 ∧ c.who.length ≤ 255 ∧ c.time < 18446744073709551616 ∧ c.text.length ≤ 4096
 | .tag t => t.kind < 256 ∧ t.name.length ≤ 255 ∧ t.who.length ≤ 255 ∧ t.time < 18446744073709551616 ∧ t.text.length ≤ 4096
theorem rRaw_lay (x t : Bs) : rRaw x.length (some (x ++ t)) = (x, some t) := by
 unfold rRaw
 simp only
 rw [if_pos (by simp), List.take_left, List.drop_left]
theorem rNum_lay (n most : Nat) (hn : n ≤ most) (h : n ≤ 65536) (t : Bs) : rNum most (some (varP n ++ t)) = (n, some t) := by
 unfold rNum
 simp only [num_varP n h t]
 rw [if_pos hn, List.drop_left]
theorem rBytes_lay (s : Bs) (most : Nat) (hn : s.length ≤ most) (h : s.length ≤ 65536) (t : Bs) : rBytes most (some (layB s ++ t)) = (s, some t) := by
 unfold rBytes layB
 rw [List.append_assoc, rNum_lay s.length most hn h]
 exact rRaw_lay s t
theorem rId_lay (i : Id) (t : Bs) : rId (some (i.1 ++ t)) = (i, some t) := by
 unfold rId
 have := rRaw_lay i.1 t
 rw [i.2] at this
 rw [this]
 simp only [pad32_id i.1 i.2]
theorem beNat_be8 (n : Nat) (h : n < 18446744073709551616) : beNat (be8 n) = n := by
 unfold beNat be8
 simp only [List.foldl_cons, List.foldl_nil, UInt8.toNat_ofNat']
 omega
theorem rU64_lay (n : Nat) (h : n < 18446744073709551616) (t : Bs) : rU64 (some (be8 n ++ t)) = (n, some t) := by
 unfold rU64
 have : rRaw 8 (some (be8 n ++ t)) = (be8 n, some t) := rRaw_lay (be8 n) t
 rw [this]
 simp only [beNat_be8 n h]
theorem byteNat (n : Nat) (h : n < 256) : (UInt8.ofNat n).toNat = n := by rw [UInt8.toNat_ofNat']; omega
theorem rEnt_lay (e : Ent) (h : EntFit e) (t : Bs) : rEnt (some (layEnt e ++ t)) = (e, some t) := by
 have h1 : rU8 (some (layEnt e ++ t)) = (UInt8.ofNat e.mode, some (layB e.name ++ (e.id.1 ++ t))) := by
  unfold layEnt rU8
  simp
 unfold rEnt
 rw [h1]
 simp only [rBytes_lay e.name 255 h.name (by have := h.name; omega), rId_lay, byteNat _ h.mode]
theorem rTree_lay : ∀ (es pre : List Ent) (t : Bs), (∀ e ∈ es, EntFit e) → rTree es.length pre (some (es.flatMap layEnt ++ t)) = (pre ++ es, some t)
 | [], pre, t, _ => by simp [rTree]
 | e :: es, pre, t, h => by
   have h1 : (e :: es).flatMap layEnt ++ t = layEnt e ++ (es.flatMap layEnt ++ t) := by simp
   rw [h1, List.length_cons, rTree, rEnt_lay e (h e (by simp))]
   simp only
   rw [rTree_lay es _ t (fun x hx => h x (by simp [hx]))]
   simp
theorem rPars_lay : ∀ (es pre : List Id) (t : Bs), rPars es.length pre (some (idsB es ++ t)) = (pre ++ es, some t)
 | [], pre, t => by simp [rPars, idsB]
 | e :: es, pre, t => by
   have h1 : idsB (e :: es) ++ t = e.1 ++ (idsB es ++ t) := by simp [idsB]
   rw [h1, List.length_cons, rPars, rId_lay e]
   simp only
   rw [rPars_lay es _ t]
   simp
theorem rOb_lay (o : Ob) (h : ObFit o) : rOb (layOb o) = some (o, some []) := by
 cases o with
 | blob b => simp [layOb, rOb]
 | tree es =>
   obtain ⟨h1, h2⟩ := h
   have e1 := rNum_lay es.length 1024 h1 (by omega) (es.flatMap layEnt)
   have e2 := rTree_lay es [] [] h2
   simp only [List.append_nil, List.nil_append] at e2
   have e3 : rTr (some (varP es.length ++ es.flatMap layEnt)) = (es, some []) := by
    unfold rTr
    rw [e1]
    exact e2
   simp [layOb, rOb, e3]
 | commit c =>
   obtain ⟨h1, h2, h3, h4⟩ := h
   have e3 : rCom (some (c.tree.1 ++ (varP c.parents.length ++ (idsB c.parents ++ (layB c.who ++ (be8 c.time ++ layB c.text)))))) = (c, some []) := by
    unfold rCom
    have e2 := rPars_lay c.parents [] (layB c.who ++ (be8 c.time ++ layB c.text))
    have e4 := rBytes_lay c.text 4096 h4 (by omega) []
    rw [List.append_nil] at e4
    simp only [rId_lay, rNum_lay c.parents.length 8 h1 (by omega), e2, rBytes_lay c.who 255 h2 (by omega), rU64_lay c.time h3, e4, List.nil_append]
   simp [layOb, rOb, e3]
 | tag g =>
   obtain ⟨h1, h2, h3, h4, h5⟩ := h
   have e3 : rTag (some (g.target.1 ++ (UInt8.ofNat g.kind :: (layB g.name ++ (layB g.who ++ (be8 g.time ++ layB g.text)))))) = (g, some []) := by
    unfold rTag
    have e4 := rBytes_lay g.text 4096 h5 (by omega) []
    rw [List.append_nil] at e4
    have e5 : rU8 (some (UInt8.ofNat g.kind :: (layB g.name ++ (layB g.who ++ (be8 g.time ++ layB g.text))))) = (UInt8.ofNat g.kind, some (layB g.name ++ (layB g.who ++ (be8 g.time ++ layB g.text)))) := rfl
    simp only [rId_lay, e5, rBytes_lay g.name 255 h2 (by omega), rBytes_lay g.who 255 h3 (by omega), rU64_lay g.time h4, e4, byteNat _ h1]
   simp [layOb, rOb, e3]
end Go.Proofs.YtnjhjbmngoeobaaGreatDoor
namespace Go.Proofs.YtnjhjbmngoeobaaGreatDoor
open Go.RowKit
set_option maxRecDepth 100000
def Sl (w : World) (A : Option Addr) (l : List UInt8) : Prop :=
 l = [] ∨ ∃ h o, A = some ⟨h, o, none⟩ ∧ h < w.heap.size ∧ ∀ j, j < l.length → w.cell? ⟨h, o + j, none⟩ = some (.int .u8 ((l.getD j 0).toNat : Int))
theorem addr_add (h o j : Nat) : (⟨h, o, none⟩ : Addr).add j = ⟨h, o + j, none⟩ := by
 unfold Addr.add
 by_cases hj : j = 0
 · subst hj; simp
 · simp [hj]
theorem Sl.reads {w : World} {A : Option Addr} {l : List UInt8} (h : Sl w A l) : Reads w w.heap.size 1 A l.length (U l) := by
 refine ⟨by simp [U_length], fun hp => ?_⟩
 rcases h with rfl | ⟨h, o, rfl, hlt, hc⟩
 · simp at hp
 · refine ⟨⟨h, o, none⟩, rfl, hlt, fun j u hu => ?_⟩
   rw [U_get] at hu
   rw [addr_add]
   cases hj : l[j]? with
   | none => rw [hj] at hu; cases hu
   | some x =>
     rw [hj] at hu
     obtain ⟨hlj, _⟩ := List.getElem?_eq_some_iff.1 hj
     rw [hc j hlj, List.getD_eq_getElem?_getD, hj]
     exact hu
theorem Sl.below {w w' : World} {A : Option Addr} {l : List UInt8} (h : Sl w A l) (hb : Below w.heap.size w w') : Sl w' A l := by
 rcases h with rfl | ⟨h, o, rfl, hlt, hc⟩
 · exact .inl rfl
 · exact .inr ⟨h, o, rfl, by have := hb.size; omega, fun j hj => (hb.cell (p := ⟨h, o + j, none⟩) hlt).trans (hc j hj)⟩
theorem Sl.of_own {w : World} {base : Nat} {A : Option Addr} {c n : Nat} {l : List UInt8} (h : w.ownsRow base 5 1 (.slice A n c) n (U l)) : Sl w A l := by
 have hn : l.length = n := by have := h.1; simpa [U_length] using this
 by_cases h0 : l = []
 · exact .inl h0
 · have hp : 0 < n := by rw [← hn]; exact List.length_pos_iff.2 h0
   obtain ⟨g, cap, hv, _, hlt⟩ := h.form hp
   have hh := h
   injection hv with hv1 hv2 hv3
   subst hv1 hv3
   refine .inr ⟨g, 0, rfl, hlt, fun j hj => ?_⟩
   rw [Nat.zero_add, hh.cellAt j (by omega), U_get, List.getElem?_eq_getElem hj, List.getD_eq_getElem?_getD, List.getElem?_eq_getElem hj]
   rfl
theorem Sl.take {w : World} {A : Option Addr} {l : List UInt8} (h : Sl w A l) (k : Nat) : Sl w A (l.take k) := by
 rcases h with rfl | ⟨h, o, rfl, hl, hc⟩
 · exact .inl (by simp)
 · refine .inr ⟨h, o, rfl, hl, fun j hj => ?_⟩
   rw [List.length_take] at hj
   rw [hc j (by omega), List.getD_eq_getElem?_getD, List.getD_eq_getElem?_getD, List.getElem?_take, if_pos (by omega)]
theorem own_base {w : World} {base base' : Nat} {e : TypeId} {size : Nat} {v : Value} {n : Nat} {xs : List Value} (h : w.ownsRow base e size v n xs) (hb : base' ≤ base) : w.ownsRow base' e size v n xs := by
 refine ⟨h.1, ?_⟩
 rcases h.2 with h2 | ⟨g, cap, cur, hv, hg, r⟩
 · exact .inl h2
 · exact .inr ⟨g, cap, cur, hv, by omega, r⟩
theorem own_below {w w' : World} {base : Nat} {e : TypeId} {size : Nat} {v : Value} {n : Nat} {xs : List Value} (h : w.ownsRow base e size v n xs) (hb : Below w.heap.size w w') : w'.ownsRow base e size v n xs := by
 refine ⟨h.1, ?_⟩
 rcases h.2 with h2 | ⟨g, cap, cur, hv, hg, hh, r⟩
 · exact Or.inl h2
 · exact Or.inr ⟨g, cap, cur, hv, hg, (hb.block g (Blk.lt (t := e) (cs := cur) hh)).trans hh, r⟩
theorem own_set_other {w : World} {base : Nat} {e : TypeId} {size : Nat} {v : Value} {n : Nat} {xs : List Value} (h : w.ownsRow base e size v n xs) {a : Addr} (ha : v.ownBlock ≠ some a.block) (u : Value) :
 (w.setCell a u).ownsRow base e size v n xs := by
 obtain ⟨h1, h2⟩ := h
 refine ⟨h1, ?_⟩
 rcases h2 with h2 | ⟨g, cap, cur, hv, hg, hh, r⟩
 · exact Or.inl h2
 · refine Or.inr ⟨g, cap, cur, hv, hg, ?_, r⟩
   rw [Below.heap_setCell _ _ _ _ (by rintro rfl; apply ha; rw [hv]; rfl)]
   exact hh
theorem own_lt {w : World} {base e size n : Nat} {v : Value} {xs : List Value} (h : w.ownsRow base e size v n xs) (q : Nat) (hq : v.ownBlock = some q) : base ≤ q ∧ q < w.heap.size := h.lt q hq
theorem own_cap {w : World} {base e size n c : Nat} {A : Option Addr} {xs : List Value} (h : w.ownsRow base e size (.slice A n c) n xs) : n ≤ c := by
 rcases h.2 with ⟨h1, h2⟩ | ⟨g', cap', cur', hv', _, _, hn', _⟩
 · injection h1 with _ a b
   omega
 · injection hv' with _ _ h3; rw [h3]; exact hn'
theorem below_of_gb_some {w w' : World} {B k : Nat} (h : w.grownBy w' (some k)) (hB : B ≤ k) (hs : B ≤ w.heap.size) : Below B w w' :=
 ⟨h.os, h.tape, h.output, h.size, fun i hi => h.block i (by omega) (by simp; omega)⟩
theorem step_pushK {P : Program} (W : World) {ops : Array Oper} {o : Oper} {a : Act} {K : Act → World → Prop} {Q : Exit → Act → World → Prop} {E : Prop} (hgd : o.guard = none) (s x : Operand) (t : TypeId)
 (ho : o.op = .call { callee := .builtin .append, args := #[s, x], argTypes := #[t, t] })
 (base : Nat) (e : TypeId) (i : TypeInfo) (z : Value) (size bytes : Nat) (ht : P.underlying t = some (.slice e)) (hi : P.info? e = some i) (hz : i.zero = some z)
 (hsize : i.size = size) (hby : i.bytes = bytes) (hzs : z.cells.size = size) (hsz : 0 < size)
 (A : Option Addr) (n c : Nat) (xs : List Value) (hs : a.eval s = .slice A n c) (hown : W.ownsRow base e size (.slice A n c) n xs)
 (us : Array Value) (m : Nat) (te : TypeId) (hus : us.size = m * size) (h1 : ∀ u ∈ us.toList, u.oneCell' = true) (hx : a.eval x = .slice (some ⟨W.heap.size, 0, none⟩) m m)
 (hbytes : (n + m) * bytes ≤ 140737488355328) (h63 : n + m ≤ maxLen) (hbase : base ≤ W.heap.size)
 (h : ∀ A' c' w', w'.ownsRow base e size (.slice A' (n + m) c') (n + m) (xs ++ us.toList) → W.grownBy w' (Value.slice A n c).ownBlock → K (a.put o.dst (.slice A' (n + m) c')) w') :
 if Region.wanted o (yielded ops a.tmps) = true then Oper.wp P o a (W.alloc (.cells us te)) K Q else E := by
 have hw : Region.wanted o (yielded ops a.tmps) = true := by simp [Region.wanted, hgd]
 rw [if_pos hw]
 refine wp_append_own (W.alloc (.cells us te)) s x t ho base e i z size bytes ht hi hz hsize hby hzs hsz (.slice A n c) n xs hs (hown.alloc _) ⟨W.heap.size, 0, none⟩ m m us.toList hx (by simpa using hus) ?_ h1 h63 hbytes (by simp; omega) ?_
 · intro j v hj
   have := (Blk.new W te us).cell j
   rw [addr_add, Nat.zero_add, this]
   simpa using hj
 · intro v' w' ho' hg' _
   obtain ⟨A', c', rfl⟩ := own_shape ho'
   exact h A' c' w' ho' (gb_trans (gb_alloc (gb_refl _ _) _) hg')
end Go.Proofs.YtnjhjbmngoeobaaGreatDoor
namespace Go.Proofs.YtnjhjbmngoeobaaGreatDoor
open Go.RowKit
theorem gb_setRow {a w : World} {g : Nat} (h : a.grownBy w (some g)) (cs : Array Value) : a.grownBy (w.setRow g cs) (some g) :=
 ⟨h.os, h.tape, h.output, by simpa [World.setRow] using h.size, fun i hi hne => (setRow_other w g i cs (fun e => hne (by rw [e]))).trans (h.block i hi hne)⟩
theorem step_copyG {P : Program} {ops : Array Oper} {o : Oper} {a : Act} {w : World} {K : Act → World → Prop} {Q : Exit → Act → World → Prop} {E : Prop} (hgd : o.guard = none) (d s : Operand) (dT sT : TypeId)
 (ho : o.op = .call { callee := .builtin .copy, args := #[d, s], argTypes := #[dT, sT] }) (elem : TypeId) (hu : P.underlying dT = some (.slice elem)) (hsz : (P.info? elem).map (·.size) = some 1)
 (dp sp : Option Addr) (dLen dCap sLen sCap : Nat) (hd : a.eval d = .slice dp dLen dCap) (hs : a.eval s = .slice sp sLen sCap)
 (g off : Nat) (cur : List Value) (t : TypeId) (hg : w.heap[g]? = some (.cells cur.toArray t (0, 0))) (cs : List Value) (hn : cs.length = Nat.min sLen dLen)
 (hpos : 0 < cs.length → dp = some ⟨g, off, none⟩ ∧ ∃ ad, sp = some ad ∧ ∀ j v, cs[j]? = some v → w.cell? (ad.add j) = some v)
 (hfit : off + cs.length ≤ cur.length) (h1 : ∀ v ∈ cs, v.oneCell' = true)
 (h : ∀ w', Hid (w'.heap[g]? = some (.cells (splice cur off cs).toArray t (0, 0))) → Hid (w.grownBy w' (some g)) → K (a.put o.dst (goInt cs.length)) w') :
 if Region.wanted o (yielded ops a.tmps) = true then Oper.wp P o a w K Q else E := by
 have hw : Region.wanted o (yielded ops a.tmps) = true := by simp [Region.wanted, hgd]
 rw [if_pos hw]
 by_cases h0 : cs.length = 0
 · obtain rfl : cs = [] := List.eq_nil_of_length_eq_zero h0
   have hrun := run_copy_none (P := P) w dT sT o.type elem dp sp dLen dCap sLen sCap hu hsz (by simpa using hn.symm)
   unfold Oper.wp
   simp [execOp, ho, resolve, invoke, builtin, hd, hs, hrun, Result.andThen]
   exact h w (show _ = _ by simpa [splice] using hg) (gb_refl _ _)
 · obtain ⟨rfl, ad, rfl, hsrc⟩ := hpos (by omega)
   have hrun := run_copy_row (P := P) w dT sT o.type elem g off dLen dCap ad sLen sCap cur.toArray t cs hu hsz hg hn hsrc (by simpa using hfit) h1
   unfold Oper.wp
   simp [execOp, ho, resolve, invoke, builtin, hd, hs, hrun, Result.andThen]
   exact h _ (show _ = _ by simpa [splice] using setRow_heap w g _ _ t _ hg) (gb_setRow (gb_refl _ _) _)
theorem run_storeG {P : Program} {w : World} (ty : TypeId) (g off : Nat) (cur : List Value) (t : TypeId) (hg : w.heap[g]? = some (.cells cur.toArray t (0, 0))) (cs : List Value)
 (hfit : off + cs.length ≤ cur.length) (h1 : ∀ v ∈ cs, v.oneCell' = true) (hi : (P.info? ty).map (·.size) = some cs.length) :
 ∃ w', (storeVar ty ⟨g, off, none⟩ (.agg cs.toArray)).run P w = .ok () w' ∧ w'.heap[g]? = some (.cells (splice cur off cs).toArray t (0, 0)) ∧ w.grownBy w' (some g) := by
 have hr := run_storeCells_at P g off t cs 0 cur.toArray w hg (by simpa using hfit) h1
 cases hq : P.info? ty with
 | none => simp [hq] at hi
 | some i =>
   have hs : cs.length = i.size := by simp [hq] at hi; omega
   refine ⟨w.setRow g (splice cur off cs).toArray, ?_, setRow_heap w g cur.toArray (splice cur off cs).toArray t (0, 0) hg, gb_setRow (gb_refl _ _) _⟩
   simp [storeVar, sizeOf, typeInfo, hq, Value.cells, hs]
   simp at hr
   rw [hs] at hr
   unfold splice
   rw [hs]
   exact hr
theorem wpList_storeG {P : Program} {ops : Array Oper} {rest : List Oper} {op : Oper} {a : Act} {w : World} {Q : Exit → Act → World → Prop} (hgd : op.guard = none) (ty : TypeId) (x y : Operand) (ho : op.op = .store ty x y)
 (g off : Nat) (cs : List Value) (hx : a.eval x = .pointer (some ⟨g, off, none⟩)) (hy : a.eval y = .agg cs.toArray)
 (cur : List Value) (t : TypeId) (hg : w.heap[g]? = some (.cells cur.toArray t (0, 0))) (hfit : off + cs.length ≤ cur.length) (h1 : ∀ v ∈ cs, v.oneCell' = true) (hi : (P.info? ty).map (·.size) = some cs.length)
 (h : ∀ w', Hid (w'.heap[g]? = some (.cells (splice cur off cs).toArray t (0, 0))) → Hid (w.grownBy w' (some g)) → wpList P ops Q rest (a.put op.dst undef) w') : wpList P ops Q (op :: rest) a w := by
 obtain ⟨w', hrun, h2, h3⟩ := run_storeG (P := P) ty g off cur t hg cs hfit h1 hi
 refine wpList_plain hgd fun _ hK => ?_
 unfold Oper.wp execOp
 simp only [ho, hx, hy, Instr.storeAt, Instr.sureAddr, Sem.run_bind, Sem.run_pure, Result.andThen_ok, hrun]
 exact hK _ _ (h w' h2 h3)
theorem splice_all {α : Type} (cur cs : List α) (h : cur.length = cs.length) : splice cur 0 cs = cs := by
 unfold splice
 rw [List.drop_of_length_le (by omega)]
 simp
end Go.Proofs.YtnjhjbmngoeobaaGreatDoor
