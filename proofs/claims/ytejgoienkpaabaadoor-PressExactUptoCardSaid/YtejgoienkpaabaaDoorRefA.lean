/- Contracts of the reference's number and digits. -/
import Derived.Test.YtejgoienkpaabaaDoorUnp
import Derived.Test.YtejgoienkpaabaaDoorRefP
import Derived.Laws.IdiomStrings
namespace Go.Proofs.YtejgoienkpaabaaDoor
open Go.RowKit
set_option maxRecDepth 100000
theorem unp_any (A : Option Addr) (n c : Nat) (l : List UInt8) (max : Int) (w : World) (hn : l.length = n) (h : Sl w A l) (hc : n ≤ c) (hl : l.length ≤ Lim) (he : ErrTab w) (hmx : max ≤ 9223372036854775807) :
    Calls Tryd.prog 10 #[.slice A n c, .int .i64 max] w fun e w' => UnpPost w l max e w' := by
  subst hn
  cases l with
  | nil => exact unp_empty A c max w he
  | cons m t =>
    rcases h with h | ⟨b, o, rfl, hlt, hcell⟩
    · cases h
    · exact unp_cons b o c m t max w he hlt hl hc hcell hmx
/-- what 'number' tells -/
def numR (l : List UInt8) : Nat × Nat := (num l).getD (0, 0)
def NumRel (l : List UInt8) (vn vu vi : Value) : Prop :=
  ∃ k v U : Nat, k ≤ 10 ∧ k ≤ l.length ∧ vi = .int .i64 k ∧ vn = .int .u64 v ∧ vu = .int .u64 U ∧ Hid (U = 128 ^ k % 2 ^ 64) ∧ Hid (k < 10 → v < 128 ^ k) ∧ v < 18446744073709551616 ∧ Hid (num l = numGo (l.drop k) k v)
theorem ret2ii {k k' : IntKind} {a b c d : Int} (h : a = b) (h' : c = d) : Ending.returned (.tuple #[.int k a, .int k' c]) = .returned (.tuple #[.int k b, .int k' d]) := by rw [h, h']
set_option maxHeartbeats 1000000 in
theorem number_cons (h o n c : Nat) (l : List UInt8) (w : World) (hn : l.length = n) (hl : l.length ≤ Lim) (hc : ∀ j, j < l.length → w.cell? ⟨h, o + j, none⟩ = some (.int .u8 ((l.getD j 0).toNat : Int))) :
    Calls Tryd.prog 28 #[.slice (some ⟨h, o, none⟩) n c] w fun e w' => e = .returned (.tuple #[.int .u64 ((numR l).1 : Int), .int .i64 ((numR l).2 : Int)]) ∧ w' = w := by
  have HC := Lib.hid hc
  have hl3 := Lim_le hl
  subst hn
  clear hc
  go_enter Tryd.func28, Tryd.ntmps28
  go_wp2_with fail
  go_loop [4, 5, 6] (fun vn vu vi => NumRel l vn vu vi) (fun _ _ vi => 10 - (intOf vi).toNat)
  case atStart => exact ⟨0, 0, 1, by omega, by omega, rfl, rfl, rfl, by show _ = _; decide, fun _ => by decide, by omega, rfl⟩
  case round =>
    obtain ⟨k, v, U, hk, hkl, rfl, rfl, rfl, hU, hv, hv64, hx⟩ := hrel
    by_cases hlt : k < 10 ∧ k < l.length
    · obtain ⟨hk10, hkl2⟩ := hlt
      obtain ⟨x, hxx⟩ : ∃ x, x = (l.getD k 0).toNat := ⟨_, rfl⟩
      have hx2 : x < 256 := by rw [hxx]; exact (l.getD k 0).toNat_lt
      have hcell := HC.out k hkl2
      rw [← hxx] at hcell
      have hd : l.drop k = l.getD k 0 :: l.drop (k + 1) := by
        rw [List.drop_eq_getElem_cons hkl2, List.getD_eq_getElem?_getD, List.getElem?_eq_getElem hkl2]
        rfl
      have HD := Lib.hid hd
      have HXX := Lib.hid hxx
      have hv0 := hv.out hk10
      clear hd hxx
      by_cases hk9 : k < 9
      · have hUk : U = 128 ^ k := by rw [hU.out]; exact Nat.mod_eq_of_lt (by have := pow128 k hk9; omega)
        have hUb : U ≤ 72057594037927936 := by rw [hUk]; have := pow128 k hk9; omega
        have hst := step_lt k v x hv0
        have hpw : 128 ^ (k + 1) ≤ 9223372036854775808 := by rw [Nat.pow_succ]; exact pow128 k hk9
        obtain ⟨z, hz⟩ : ∃ z, z = (x % 128) * 128 ^ k := ⟨_, rfl⟩
        have ez : (U : Int) * ((x : Int) % 128) = (z : Int) := by
          rw [hz, hUk]; push_cast; rw [Int.mul_comm]
        have hy1 : v + z < 128 ^ (k + 1) := by rw [hz]; exact hst
        have hzb : v + z ≤ 9223372036854775808 := by omega
        have hk9b : ((k : Int) == 9) = false := beq_eq_false_iff_ne.2 (by omega)
        have HUK := Lib.hid hUk
        have HZ := Lib.hid hz
        have HY1 := Lib.hid hy1
        clear hUk hz hy1 hpw hst hv0
        by_cases hx128 : x < 128
        · by_cases hx0 : x < 1
          · have hxb : ((x : Int) == 0) = true := beq_iff_eq.2 (by omega)
            by_cases hk0 : 0 < k
            · have hN : num l = none := by rw [hx.out, HD.out]; exact numGo_zero _ _ k v x HXX.out hx0 hk0
              have HN := Lib.hid (show numR l = (0, 0) by rw [numR, hN]; rfl)
              clear hN
              go_wp2_with fail
              go_ret2
              exact ⟨by rw [HN.out]; rfl, rfl⟩
            · have hN : num l = some (v + z, k + 1) := by rw [hx.out, HD.out]; exact numGo_done _ _ k v x (v + z) HXX.out (by rw [HZ.out]) hx128 hk10 (by omega) (.inr (by omega))
              have HN := Lib.hid (show numR l = (v + z, k + 1) by rw [numR, hN]; rfl)
              clear hN
              go_wp2_with fail
              go_ret2
              exact ⟨by rw [HN.out]; exact ret2ii (by simp) (by simp), rfl⟩
          · have hxb : ((x : Int) == 0) = false := beq_eq_false_iff_ne.2 (by omega)
            have hN : num l = some (v + z, k + 1) := by rw [hx.out, HD.out]; exact numGo_done _ _ k v x (v + z) HXX.out (by rw [HZ.out]) hx128 hk10 (by omega) (.inl (by omega))
            have HN := Lib.hid (show numR l = (v + z, k + 1) by rw [numR, hN]; rfl)
            clear hN
            go_wp2_with fail
            go_ret2
            exact ⟨by rw [HN.out]; exact ret2ii (by simp) (by simp), rfl⟩
        · go_wp2_with fail
          go_round
          case rel => exact ⟨k + 1, v + z, U * 128, by omega, by omega, by go_num, by go_num, by go_num, by show _ = _; rw [Nat.pow_succ, ← HUK.out]; omega, fun _ => HY1.out, by omega, by
            show _ = _
            rw [hx.out, HD.out]
            exact numGo_more _ _ k v x (v + z) HXX.out (by rw [HZ.out]) hx128 hk9⟩
          case measure => simp [intOf]; omega
      · have hk9b : ((k : Int) == 9) = true := beq_iff_eq.2 (by omega)
        by_cases hx1 : 1 < x
        · have hN : num l = none := by rw [hx.out, HD.out]; exact numGo_nine _ _ k v x (by omega) HXX.out hx1
          have HN := Lib.hid (show numR l = (0, 0) by rw [numR, hN]; rfl)
          clear hN hv0
          go_wp2_with fail
          go_ret2
          exact ⟨by rw [HN.out]; rfl, rfl⟩
        · have hUk : U = 128 ^ k := by
            rw [hU.out]
            obtain rfl : k = 9 := by omega
            decide
          have hy1 := step_nine k v x (by omega) hk10 (by omega) hv0
          obtain ⟨z, hz⟩ : ∃ z, z = (x % 128) * 128 ^ k := ⟨_, rfl⟩
          have ez : (U : Int) * ((x : Int) % 128) = (z : Int) := by
            rw [hz, hUk]; push_cast; rw [Int.mul_comm]
          rw [← hz] at hy1
          have hzb : v + z ≤ 18446744073709551615 := by omega
          have hkp : 0 < k := by omega
          have HZ := Lib.hid hz
          have HUK := Lib.hid hUk
          clear hUk hz hy1 hv0
          by_cases hx0 : x < 1
          · have hxb : ((x : Int) == 0) = true := beq_iff_eq.2 (by omega)
            have hN : num l = none := by rw [hx.out, HD.out]; exact numGo_zero _ _ k v x HXX.out hx0 (by omega)
            have HN := Lib.hid (show numR l = (0, 0) by rw [numR, hN]; rfl)
            clear hN
            go_wp2_with fail
            go_ret2
            exact ⟨by rw [HN.out]; rfl, rfl⟩
          · have hxb : ((x : Int) == 0) = false := beq_eq_false_iff_ne.2 (by omega)
            have hN : num l = some (v + z, k + 1) := by rw [hx.out, HD.out]; exact numGo_done _ _ k v x (v + z) HXX.out (by rw [HZ.out]) (by omega) hk10 (by omega) (.inl (by omega))
            have HN := Lib.hid (show numR l = (v + z, k + 1) by rw [numR, hN]; rfl)
            clear hN
            go_wp2_with fail
            go_ret2
            exact ⟨by rw [HN.out]; exact ret2ii (by simp) (by simp), rfl⟩
    · have hN : num l = none := by
        rw [hx.out]
        by_cases h10 : 10 ≤ k
        · exact numGo_ten _ _ _ h10
        · rw [List.drop_eq_nil_of_le (by omega)]; rfl
      have HN := Lib.hid (show numR l = (0, 0) by rw [numR, hN]; rfl)
      clear hN
      by_cases h10 : k < 10
      · have hkl3 : l.length ≤ k := by omega
        go_wp2_with fail
        go_ret2
        exact ⟨by rw [HN.out]; rfl, rfl⟩
      · go_wp2_with fail
        go_ret2
        exact ⟨by rw [HN.out]; rfl, rfl⟩

theorem number_any (A : Option Addr) (n c : Nat) (l : List UInt8) (w : World) (hn : l.length = n) (h : Sl w A l) (hl : l.length ≤ Lim) :
    Calls Tryd.prog 28 #[.slice A n c] w fun e w' => e = .returned (.tuple #[.int .u64 ((numR l).1 : Int), .int .i64 ((numR l).2 : Int)]) ∧ w' = w := by
  rcases h with rfl | ⟨b, o, rfl, _, hcell⟩
  · obtain rfl : n = 0 := by rw [← hn]; rfl
    go_enter Tryd.func28, Tryd.ntmps28
    go_wp2_with fail
    refine wp_loop_rounds 1 ?_
    rw [rounds_succ]
    go_wp2_with fail
    go_ret2
    exact ⟨rfl, rfl⟩
  · exact number_cons b o n c l w hn hl hcell

/-- the first j of n digits -/
def digsTo (v n : Nat) : Nat → List UInt8
  | 0 => []
  | j + 1 => digsTo v n j ++ [UInt8.ofNat (48 + v / 2 ^ (n - 1 - j) % 2)]
theorem digsTo_length (v n j : Nat) : (digsTo v n j).length = j := by induction j with
  | zero => rfl
  | succ j ih => simp [digsTo, ih]
theorem digsTo_shift (v n j : Nat) : digsTo v (n + 1) (j + 1) = UInt8.ofNat (48 + v / 2 ^ n % 2) :: digsTo v n j := by
  induction j with
  | zero => simp [digsTo]
  | succ j ih => rw [digsTo, ih, digsTo]; simp [Nat.sub_sub, Nat.add_comm]
theorem digsTo_all (v n : Nat) : digsTo v n n = digs v n := by
  induction n with
  | zero => rfl
  | succ n ih => rw [digsTo_shift, ih, digs]
/-- 'string(b)' of a slice that reads as l -/
theorem run_str (w : World) (A : Option Addr) (n c : Nat) (l : List UInt8) (hn : l.length = n) (h : Sl w A l) : (convert 22 9 (.slice A n c)).run Tryd.prog w = .ok (.string ⟨l.toArray⟩) w := by
  subst hn
  rcases h with rfl | ⟨b, o, rfl, _, hc⟩
  · rcases A with _ | ⟨b, o, sp⟩
    · exact run_convert_bytes_nil (P := Tryd.prog) w 22 5 rfl rfl 0 c 9 rfl
    · have := run_convert_bytes_back (P := Tryd.prog) w 22 9 5 ⟨b, o, sp⟩ c [] rfl rfl rfl (fun j hj => by simp at hj)
      simpa using this
  · refine run_convert_bytes_back (P := Tryd.prog) w 22 9 5 ⟨b, o, none⟩ c l rfl rfl rfl (fun j hj => ?_)
    rw [addr_add, hc j hj, List.getD_eq_getElem?_getD, List.getElem?_eq_getElem hj]
    rfl
def DigRel (w : World) (v n : Nat) (vb vi : Value) (wr : World) : Prop :=
  ∃ (j c : Nat) (A : Option Addr), j ≤ n ∧ vi = .int .i64 ((n : Int) - 1 - j) ∧ vb = .slice A j c ∧ Hid (wr.ownsRow w.heap.size 5 1 (.slice A j c) j (U (digsTo v n j))) ∧ Hid (Below w.heap.size w wr)
set_option maxHeartbeats 1000000 in
theorem digits_any (v n : Nat) (w : World) (hn : n ≤ 64) :
    Calls Tryd.prog 52 #[.int .i64 v, .int .i64 n] w fun e w' => e = .returned (.string ⟨(digs v n).toArray⟩) ∧ Below w.heap.size w w' := by
  obtain ⟨i0, hi0, hz0, hz1, hz2⟩ := info_parts info5
  go_enter Tryd.func52, Tryd.ntmps52
  go_wp2_with fail
  go_loopw [5, 6] (fun vb vi wr => DigRel w v n vb vi wr) (fun _ vi _ => (intOf vi + 1).toNat)
  case atStart => exact ⟨0, 0, none, by omega, by simp, rfl, World.ownsRow_nil _ _ _ _, Below.refl _ _⟩
  case round =>
    obtain ⟨j, c, A, hj, rfl, rfl, ho, hb⟩ := hrel
    by_cases hlt : j < n
    · obtain ⟨m, hm⟩ : ∃ m, m = n - 1 - j := ⟨_, rfl⟩
      have em : (n : Int) - 1 - (j : Int) = (m : Int) := by omega
      obtain ⟨q, hq⟩ : ∃ q, q = v / 2 ^ m := ⟨_, rfl⟩
      have eq1 : (v : Int) / 2 ^ min m 64 = (q : Int) := by rw [hq, Nat.min_eq_left (by omega)]; simp
      have eq2 : (v : Int) / 2 ^ m = (q : Int) := by rw [hq]; simp
      have hqv : q ≤ v := by rw [hq]; exact Nat.div_le_self _ _
      have HM := Lib.hid hm
      have HQ := Lib.hid hq
      have hsz := hb.out.size
      have hmb : m < 64 := by omega
      clear hm hq
      go_wp2_with (first
        | (at_builtin
           refine wpList_push wr rfl (.tmp 13) (.tmp 21) 22 rfl w.heap.size 5 i0 (.int .u8 0) 1 Tryd.underlying22 hi0 hz0 hz1 hz2 rfl A j c (U (digsTo v n j)) rfl ho.out _ _ rfl rfl (by omega) (by unfold maxLen; omega) hsz ?_
           intro A5 c5 w5 hown5 hg5)
        | fail)
      go_roundw
      case rel =>
        refine ⟨j + 1, c5, A5, by omega, by go_num, rfl, ?_, hb.out.grown hg5 hsz (fun q hq => (ho.out.lt q hq).1)⟩
        show World.ownsRow _ _ _ _ _ _ _
        have e1 : ((48 + (q : Int) % 2) % 256) = 48 + (q : Int) % 2 := by omega
        rw [digsTo, U_append, ← HM.out, ← HQ.out]
        simpa [U, e1] using hown5
      case measure => simp [intOf]; omega
    · obtain rfl : j = n := by omega
      have hcv := run_str wr A j c (digsTo v j j) (digsTo_length _ _ _) (Sl.of_own ho.out)
      rw [digsTo_all] at hcv
      go_wp2_with fail
      go_ret
      exact ⟨rfl, hb.out⟩
end Go.Proofs.YtejgoienkpaabaaDoor
