/- RefP, RefA, RefB (merged: one text behind the other). -/
import Derived.Test.YtejgoienkpaabaaDoorMg04
import Derived.Test.YtejgoienkpaabaaDoorMg07
import Derived.Laws.IdiomStrings
import Derived.Test.YtejgoienkpaabaaDoorMg02
/- Plain: the reference's codes. -/
namespace Go.Proofs.YtejgoienkpaabaaDoor
/-- v as n digits -/
def digs (v : Nat) : Nat → List UInt8
  | 0 => []
  | n + 1 => UInt8.ofNat (48 + v / 2 ^ n % 2) :: digs v n
theorem digs_length (v n : Nat) : (digs v n).length = n := by induction n with
  | zero => rfl
  | succ n ih => simp [digs, ih]
structure CS where
  v : Nat
  last : Nat
  l : List (Nat × List UInt8)
def cVal (n : Nat) (st : CS) : Nat := if st.l = [] then st.v else (st.v + 1) * 2 ^ (n - st.last)
def cStep (n s len : Nat) (st : CS) : CS := if len = n then ⟨cVal n st, n, st.l ++ [(s, digs (cVal n st) n)]⟩ else st
def cIn (row : List Nat) (n : Nat) : Nat → CS → CS
  | 0, st => st
  | s + 1, st => cStep n s (row.getD s 0) (cIn row n s st)
def cOut (row : List Nat) : Nat → CS
  | 0 => ⟨0, 0, []⟩
  | k + 1 => cIn row (k + 1) row.length (cOut row k)
def CB (n m : Nat) (st : CS) : Prop := st.last ≤ n ∧ st.l.length ≤ m ∧ (st.v < st.l.length * 2 ^ st.last ∨ (st.l = [] ∧ st.v = 0))
theorem cVal_le (n m : Nat) (st : CS) (h : CB n m st) : cVal n st ≤ st.l.length * 2 ^ n := by
  obtain ⟨h1, h2, h3⟩ := h
  unfold cVal
  split
  · rename_i h0
    rcases h3 with h3 | ⟨_, h3⟩
    · simp [h0] at h3
    · omega
  · rename_i h0
    rcases h3 with h3 | ⟨h3, _⟩
    · have e : 2 ^ n = 2 ^ st.last * 2 ^ (n - st.last) := by rw [← Nat.pow_add]; congr 1; omega
      rw [e, ← Nat.mul_assoc]
      exact Nat.mul_le_mul_right _ h3
    · exact absurd h3 h0
theorem cStep_CB (n m s len : Nat) (st : CS) (h : CB n m st) : CB n (m + 1) (cStep n s len st) := by
  have hv := cVal_le n m st h
  unfold cStep
  split
  · refine ⟨Nat.le_refl _, by simp; exact h.2.1, .inl ?_⟩
    simp only [List.length_append, List.length_singleton, Nat.succ_mul]
    have : 0 < 2 ^ n := Nat.pow_pos (by decide)
    omega
  · exact ⟨h.1, by have := h.2.1; omega, h.2.2⟩
theorem cIn_CB (row : List Nat) (n m s : Nat) (st : CS) (h : CB n m st) : CB n (m + s) (cIn row n s st) := by
  induction s with
  | zero => exact h
  | succ s ih => exact cStep_CB n (m + s) s _ _ ih
theorem cOut_CB (row : List Nat) (k : Nat) : CB k (k * row.length) (cOut row k) := by
  induction k with
  | zero => exact ⟨Nat.le_refl _, by simp [cOut], .inr ⟨rfl, rfl⟩⟩
  | succ k ih =>
    have := cIn_CB row (k + 1) (k * row.length) row.length (cOut row k) ⟨by have := ih.1; omega, ih.2⟩
    rw [Nat.succ_mul]
    exact this
/-- may the row be? -/
structure WS where
  sum : Nat
  used : Nat
  ones : Nat
def wStep (len : Nat) (st : WS) : WS := if len < 1 then st else ⟨st.sum + 2 ^ (15 - len), st.used + 1, if len = 1 then st.ones + 1 else st.ones⟩
def wGo (row : List Nat) : Nat → WS
  | 0 => ⟨0, 0, 0⟩
  | s + 1 => wStep (row.getD s 0) (wGo row s)
def wOk (row : List Nat) (none : Bool) : Bool :=
  let st := wGo row row.length
  if st.used = 0 then none else if st.used = 1 then decide (st.ones = 1) else decide (st.sum = 32768)
theorem wGo_le (row : List Nat) (s : Nat) : (wGo row s).sum ≤ 32768 * s ∧ (wGo row s).used ≤ s ∧ (wGo row s).ones ≤ s := by
  induction s with
  | zero => simp [wGo]
  | succ s ih =>
    obtain ⟨h1, h2, h3⟩ := ih
    have hp : 2 ^ (15 - row.getD s 0) ≤ 32768 := Nat.pow_le_pow_right (by decide) (show 15 - row.getD s 0 ≤ 15 by omega)
    simp only [wGo, wStep]
    split
    · exact ⟨by omega, by omega, by omega⟩
    · refine ⟨by simp only; omega, by simp only; omega, ?_⟩
      simp only
      split <;> omega
/-- whose code stands at the front -/
def codeP : List (Nat × List UInt8) → List UInt8 → Option (Nat × List UInt8)
  | [], _ => none
  | (s, t) :: l, S => if t.length ≤ S.length ∧ S.take t.length = t then some (s, S.drop t.length) else codeP l S
/-- the number of these digits -/
def valGo (S : List UInt8) : Nat → Nat
  | 0 => 0
  | n + 1 => 2 * valGo S n + ((S.getD n 0).toNat - 48)
def valueP (S : List UInt8) (n : Nat) : Option (Nat × List UInt8) := if S.length < n then none else some (valGo S n, S.drop n)
/-- a copy's length and way back -/
def refExtra (S : List UInt8) (free sub low k : Nat) : Option (Nat × List UInt8) :=
  if k < free then some (low + k, S) else (valueP S (k - sub)).map fun x => (low + 2 ^ (k - sub) + x.1, x.2)
def refCopied (d : List (Nat × List UInt8)) (c : Nat) (S : List UInt8) : Option (Nat × Nat × List UInt8) :=
  (refExtra S 8 5 3 c).bind fun a => (codeP d a.2).bind fun w => (refExtra w.2 4 2 1 w.1).map fun b => (a.1, b.1, b.2)
def refDec (s d : List (Nat × List UInt8)) (n : Nat) : Nat → List UInt8 → List UInt8 → Option (List UInt8 × List UInt8)
  | 0, _, _ => none
  | f + 1, out, S =>
    if n ≤ out.length then some (out, S) else
    (codeP s S).bind fun a =>
      if a.1 < 256 then refDec s d n f (out ++ [UInt8.ofNat a.1]) a.2
      else (refCopied d (a.1 - 256) a.2).bind fun b =>
        if out.length < b.2.1 ∨ n - out.length < b.1 then none else refDec s d n f (copyOut b.1 b.2.1 out) b.2.2
def bitText (bs : List UInt8) : List UInt8 := bs.flatMap fun c => digs c.toNat 8
def refCoded (b : List UInt8) (n : Nat) : Option (List UInt8) :=
  if (b.getD 147 0).toNat % 16 ≠ 0 ∨ wOk (symRow b) false = false ∨ wOk (distRow b) true = false then none else
  (refDec (cOut (symRow b) 15).l (cOut (distRow b) 15).l n (n + 1) [] (bitText (b.drop 148))).bind fun a =>
    if 7 < a.2.length then none else if a.2.all (fun c => c == 48) then some a.1 else none
end Go.Proofs.YtejgoienkpaabaaDoor

/- Contracts of the reference's number and digits. -/
namespace Go.Proofs.YtejgoienkpaabaaDoor
open Go.RowKit
set_option maxRecDepth 100000
theorem unp_any (A : Option Addr) (n c : Nat) (l : List UInt8) (max : Int) (w : World) (hn : l.length = n) (h : Sl w A l) (hc : n ≤ c) (hl : l.length ≤ Lim) (he : ErrTab w) (hmx : max ≤ 9223372036854775807) :
    Calls Tryd.prog 10 #[.slice A n c, .int .i64 max] w fun e w' => UnpPost w l max e w' := by
  subst hn
  cases l with
  | nil => exact unp_empty A c max w he
  | cons m t =>
    rcases h with h | ⟨b, o, rfl, hlt, hcell⟩
    · cases h
    · exact unp_cons b o c m t max w he hlt hl hc hcell hmx
/-- what 'number' tells -/
def numR (l : List UInt8) : Nat × Nat := (num l).getD (0, 0)
def NumRel (l : List UInt8) (vn vu vi : Value) : Prop :=
  ∃ k v U : Nat, k ≤ 10 ∧ k ≤ l.length ∧ vi = .int .i64 k ∧ vn = .int .u64 v ∧ vu = .int .u64 U ∧ Hid (U = 128 ^ k % 2 ^ 64) ∧ Hid (k < 10 → v < 128 ^ k) ∧ v < 18446744073709551616 ∧ Hid (num l = numGo (l.drop k) k v)
theorem ret2ii {k k' : IntKind} {a b c d : Int} (h : a = b) (h' : c = d) : Ending.returned (.tuple #[.int k a, .int k' c]) = .returned (.tuple #[.int k b, .int k' d]) := by rw [h, h']
set_option maxHeartbeats 1000000 in
theorem number_cons (h o n c : Nat) (l : List UInt8) (w : World) (hn : l.length = n) (hl : l.length ≤ Lim) (hc : ∀ j, j < l.length → w.cell? ⟨h, o + j, none⟩ = some (.int .u8 ((l.getD j 0).toNat : Int))) :
    Calls Tryd.prog 28 #[.slice (some ⟨h, o, none⟩) n c] w fun e w' => e = .returned (.tuple #[.int .u64 ((numR l).1 : Int), .int .i64 ((numR l).2 : Int)]) ∧ w' = w := by
  have HC := Lib.hid hc
  have hl3 := Lim_le hl
  subst hn
  clear hc
  go_enter Tryd.func28, Tryd.ntmps28
  go_wp2_with fail
  go_loop [4, 5, 6] (fun vn vu vi => NumRel l vn vu vi) (fun _ _ vi => 10 - (intOf vi).toNat)
  case atStart => exact ⟨0, 0, 1, by omega, by omega, rfl, rfl, rfl, by show _ = _; decide, fun _ => by decide, by omega, rfl⟩
  case round =>
    obtain ⟨k, v, U, hk, hkl, rfl, rfl, rfl, hU, hv, hv64, hx⟩ := hrel
    by_cases hlt : k < 10 ∧ k < l.length
    · obtain ⟨hk10, hkl2⟩ := hlt
      obtain ⟨x, hxx⟩ : ∃ x, x = (l.getD k 0).toNat := ⟨_, rfl⟩
      have hx2 : x < 256 := by rw [hxx]; exact (l.getD k 0).toNat_lt
      have hcell := HC.out k hkl2
      rw [← hxx] at hcell
      have hd : l.drop k = l.getD k 0 :: l.drop (k + 1) := by
        rw [List.drop_eq_getElem_cons hkl2, List.getD_eq_getElem?_getD, List.getElem?_eq_getElem hkl2]
        rfl
      have HD := Lib.hid hd
      have HXX := Lib.hid hxx
      have hv0 := hv.out hk10
      clear hd hxx
      by_cases hk9 : k < 9
      · have hUk : U = 128 ^ k := by rw [hU.out]; exact Nat.mod_eq_of_lt (by have := pow128 k hk9; omega)
        have hUb : U ≤ 72057594037927936 := by rw [hUk]; have := pow128 k hk9; omega
        have hst := step_lt k v x hv0
        have hpw : 128 ^ (k + 1) ≤ 9223372036854775808 := by rw [Nat.pow_succ]; exact pow128 k hk9
        obtain ⟨z, hz⟩ : ∃ z, z = (x % 128) * 128 ^ k := ⟨_, rfl⟩
        have ez : (U : Int) * ((x : Int) % 128) = (z : Int) := by
          rw [hz, hUk]; push_cast; rw [Int.mul_comm]
        have hy1 : v + z < 128 ^ (k + 1) := by rw [hz]; exact hst
        have hzb : v + z ≤ 9223372036854775808 := by omega
        have hk9b : ((k : Int) == 9) = false := beq_eq_false_iff_ne.2 (by omega)
        have HUK := Lib.hid hUk
        have HZ := Lib.hid hz
        have HY1 := Lib.hid hy1
        clear hUk hz hy1 hpw hst hv0
        by_cases hx128 : x < 128
        · by_cases hx0 : x < 1
          · have hxb : ((x : Int) == 0) = true := beq_iff_eq.2 (by omega)
            by_cases hk0 : 0 < k
            · have hN : num l = none := by rw [hx.out, HD.out]; exact numGo_zero _ _ k v x HXX.out hx0 hk0
              have HN := Lib.hid (show numR l = (0, 0) by rw [numR, hN]; rfl)
              clear hN
              go_wp2_with fail
              go_ret2
              exact ⟨by rw [HN.out]; rfl, rfl⟩
            · have hN : num l = some (v + z, k + 1) := by rw [hx.out, HD.out]; exact numGo_done _ _ k v x (v + z) HXX.out (by rw [HZ.out]) hx128 hk10 (by omega) (.inr (by omega))
              have HN := Lib.hid (show numR l = (v + z, k + 1) by rw [numR, hN]; rfl)
              clear hN
              go_wp2_with fail
              go_ret2
              exact ⟨by rw [HN.out]; exact ret2ii (by simp) (by simp), rfl⟩
          · have hxb : ((x : Int) == 0) = false := beq_eq_false_iff_ne.2 (by omega)
            have hN : num l = some (v + z, k + 1) := by rw [hx.out, HD.out]; exact numGo_done _ _ k v x (v + z) HXX.out (by rw [HZ.out]) hx128 hk10 (by omega) (.inl (by omega))
            have HN := Lib.hid (show numR l = (v + z, k + 1) by rw [numR, hN]; rfl)
            clear hN
            go_wp2_with fail
            go_ret2
            exact ⟨by rw [HN.out]; exact ret2ii (by simp) (by simp), rfl⟩
        · go_wp2_with fail
          go_round
          case rel => exact ⟨k + 1, v + z, U * 128, by omega, by omega, by go_num, by go_num, by go_num, by show _ = _; rw [Nat.pow_succ, ← HUK.out]; omega, fun _ => HY1.out, by omega, by
            show _ = _
            rw [hx.out, HD.out]
            exact numGo_more _ _ k v x (v + z) HXX.out (by rw [HZ.out]) hx128 hk9⟩
          case measure => simp [intOf]; omega
      · have hk9b : ((k : Int) == 9) = true := beq_iff_eq.2 (by omega)
        by_cases hx1 : 1 < x
        · have hN : num l = none := by rw [hx.out, HD.out]; exact numGo_nine _ _ k v x (by omega) HXX.out hx1
          have HN := Lib.hid (show numR l = (0, 0) by rw [numR, hN]; rfl)
          clear hN hv0
          go_wp2_with fail
          go_ret2
          exact ⟨by rw [HN.out]; rfl, rfl⟩
        · have hUk : U = 128 ^ k := by
            rw [hU.out]
            obtain rfl : k = 9 := by omega
            decide
          have hy1 := step_nine k v x (by omega) hk10 (by omega) hv0
          obtain ⟨z, hz⟩ : ∃ z, z = (x % 128) * 128 ^ k := ⟨_, rfl⟩
          have ez : (U : Int) * ((x : Int) % 128) = (z : Int) := by
            rw [hz, hUk]; push_cast; rw [Int.mul_comm]
          rw [← hz] at hy1
          have hzb : v + z ≤ 18446744073709551615 := by omega
          have hkp : 0 < k := by omega
          have HZ := Lib.hid hz
          have HUK := Lib.hid hUk
          clear hUk hz hy1 hv0
          by_cases hx0 : x < 1
          · have hxb : ((x : Int) == 0) = true := beq_iff_eq.2 (by omega)
            have hN : num l = none := by rw [hx.out, HD.out]; exact numGo_zero _ _ k v x HXX.out hx0 (by omega)
            have HN := Lib.hid (show numR l = (0, 0) by rw [numR, hN]; rfl)
            clear hN
            go_wp2_with fail
            go_ret2
            exact ⟨by rw [HN.out]; rfl, rfl⟩
          · have hxb : ((x : Int) == 0) = false := beq_eq_false_iff_ne.2 (by omega)
            have hN : num l = some (v + z, k + 1) := by rw [hx.out, HD.out]; exact numGo_done _ _ k v x (v + z) HXX.out (by rw [HZ.out]) (by omega) hk10 (by omega) (.inl (by omega))
            have HN := Lib.hid (show numR l = (v + z, k + 1) by rw [numR, hN]; rfl)
            clear hN
            go_wp2_with fail
            go_ret2
            exact ⟨by rw [HN.out]; exact ret2ii (by simp) (by simp), rfl⟩
    · have hN : num l = none := by
        rw [hx.out]
        by_cases h10 : 10 ≤ k
        · exact numGo_ten _ _ _ h10
        · rw [List.drop_eq_nil_of_le (by omega)]; rfl
      have HN := Lib.hid (show numR l = (0, 0) by rw [numR, hN]; rfl)
      clear hN
      by_cases h10 : k < 10
      · have hkl3 : l.length ≤ k := by omega
        go_wp2_with fail
        go_ret2
        exact ⟨by rw [HN.out]; rfl, rfl⟩
      · go_wp2_with fail
        go_ret2
        exact ⟨by rw [HN.out]; rfl, rfl⟩

theorem number_any (A : Option Addr) (n c : Nat) (l : List UInt8) (w : World) (hn : l.length = n) (h : Sl w A l) (hl : l.length ≤ Lim) :
    Calls Tryd.prog 28 #[.slice A n c] w fun e w' => e = .returned (.tuple #[.int .u64 ((numR l).1 : Int), .int .i64 ((numR l).2 : Int)]) ∧ w' = w := by
  rcases h with rfl | ⟨b, o, rfl, _, hcell⟩
  · obtain rfl : n = 0 := by rw [← hn]; rfl
    go_enter Tryd.func28, Tryd.ntmps28
    go_wp2_with fail
    refine wp_loop_rounds 1 ?_
    rw [rounds_succ]
    go_wp2_with fail
    go_ret2
    exact ⟨rfl, rfl⟩
  · exact number_cons b o n c l w hn hl hcell

/-- the first j of n digits -/
def digsTo (v n : Nat) : Nat → List UInt8
  | 0 => []
  | j + 1 => digsTo v n j ++ [UInt8.ofNat (48 + v / 2 ^ (n - 1 - j) % 2)]
theorem digsTo_length (v n j : Nat) : (digsTo v n j).length = j := by induction j with
  | zero => rfl
  | succ j ih => simp [digsTo, ih]
theorem digsTo_shift (v n j : Nat) : digsTo v (n + 1) (j + 1) = UInt8.ofNat (48 + v / 2 ^ n % 2) :: digsTo v n j := by
  induction j with
  | zero => simp [digsTo]
  | succ j ih => rw [digsTo, ih, digsTo]; simp [Nat.sub_sub, Nat.add_comm]
theorem digsTo_all (v n : Nat) : digsTo v n n = digs v n := by
  induction n with
  | zero => rfl
  | succ n ih => rw [digsTo_shift, ih, digs]
/-- 'string(b)' of a slice that reads as l -/
theorem run_str (w : World) (A : Option Addr) (n c : Nat) (l : List UInt8) (hn : l.length = n) (h : Sl w A l) : (convert 22 9 (.slice A n c)).run Tryd.prog w = .ok (.string ⟨l.toArray⟩) w := by
  subst hn
  rcases h with rfl | ⟨b, o, rfl, _, hc⟩
  · rcases A with _ | ⟨b, o, sp⟩
    · exact run_convert_bytes_nil (P := Tryd.prog) w 22 5 rfl rfl 0 c 9 rfl
    · have := run_convert_bytes_back (P := Tryd.prog) w 22 9 5 ⟨b, o, sp⟩ c [] rfl rfl rfl (fun j hj => by simp at hj)
      simpa using this
  · refine run_convert_bytes_back (P := Tryd.prog) w 22 9 5 ⟨b, o, none⟩ c l rfl rfl rfl (fun j hj => ?_)
    rw [addr_add, hc j hj, List.getD_eq_getElem?_getD, List.getElem?_eq_getElem hj]
    rfl
def DigRel (w : World) (v n : Nat) (vb vi : Value) (wr : World) : Prop :=
  ∃ (j c : Nat) (A : Option Addr), j ≤ n ∧ vi = .int .i64 ((n : Int) - 1 - j) ∧ vb = .slice A j c ∧ Hid (wr.ownsRow w.heap.size 5 1 (.slice A j c) j (U (digsTo v n j))) ∧ Hid (Below w.heap.size w wr)
set_option maxHeartbeats 1000000 in
theorem digits_any (v n : Nat) (w : World) (hn : n ≤ 64) :
    Calls Tryd.prog 52 #[.int .i64 v, .int .i64 n] w fun e w' => e = .returned (.string ⟨(digs v n).toArray⟩) ∧ Below w.heap.size w w' := by
  obtain ⟨i0, hi0, hz0, hz1, hz2⟩ := info_parts info5
  go_enter Tryd.func52, Tryd.ntmps52
  go_wp2_with fail
  go_loopw [5, 6] (fun vb vi wr => DigRel w v n vb vi wr) (fun _ vi _ => (intOf vi + 1).toNat)
  case atStart => exact ⟨0, 0, none, by omega, by simp, rfl, World.ownsRow_nil _ _ _ _, Below.refl _ _⟩
  case round =>
    obtain ⟨j, c, A, hj, rfl, rfl, ho, hb⟩ := hrel
    by_cases hlt : j < n
    · obtain ⟨m, hm⟩ : ∃ m, m = n - 1 - j := ⟨_, rfl⟩
      have em : (n : Int) - 1 - (j : Int) = (m : Int) := by omega
      obtain ⟨q, hq⟩ : ∃ q, q = v / 2 ^ m := ⟨_, rfl⟩
      have eq1 : (v : Int) / 2 ^ min m 64 = (q : Int) := by rw [hq, Nat.min_eq_left (by omega)]; simp
      have eq2 : (v : Int) / 2 ^ m = (q : Int) := by rw [hq]; simp
      have hqv : q ≤ v := by rw [hq]; exact Nat.div_le_self _ _
      have HM := Lib.hid hm
      have HQ := Lib.hid hq
      have hsz := hb.out.size
      have hmb : m < 64 := by omega
      clear hm hq
      go_wp2_with (first
        | (at_builtin
           refine wpList_push wr rfl (.tmp 13) (.tmp 21) 22 rfl w.heap.size 5 i0 (.int .u8 0) 1 Tryd.underlying22 hi0 hz0 hz1 hz2 rfl A j c (U (digsTo v n j)) rfl ho.out _ _ rfl rfl (by omega) (by unfold maxLen; omega) hsz ?_
           intro A5 c5 w5 hown5 hg5)
        | fail)
      go_roundw
      case rel =>
        refine ⟨j + 1, c5, A5, by omega, by go_num, rfl, ?_, hb.out.grown hg5 hsz (fun q hq => (ho.out.lt q hq).1)⟩
        show World.ownsRow _ _ _ _ _ _ _
        have e1 : ((48 + (q : Int) % 2) % 256) = 48 + (q : Int) % 2 := by omega
        rw [digsTo, U_append, ← HM.out, ← HQ.out]
        simpa [U, e1] using hown5
      case measure => simp [intOf]; omega
    · obtain rfl : j = n := by omega
      have hcv := run_str wr A j c (digsTo v j j) (digsTo_length _ _ _) (Sl.of_own ho.out)
      rw [digsTo_all] at hcv
      go_wp2_with fail
      go_ret
      exact ⟨rfl, hb.out⟩
end Go.Proofs.YtejgoienkpaabaaDoor

/- Contracts of the reference's Codes and Whole. -/
namespace Go.Proofs.YtejgoienkpaabaaDoor
open Go.RowKit
set_option maxRecDepth 100000
/-- codes as cells -/
def K (l : List (Nat × List UInt8)) : List Value := l.flatMap fun c => [.int .i64 (c.1 : Int), .string ⟨c.2.toArray⟩]
theorem K_length (l : List (Nat × List UInt8)) : (K l).length = l.length * 2 := by
  induction l with
  | nil => rfl
  | cons a l ih => rw [show K (a :: l) = [.int .i64 (a.1 : Int), .string ⟨a.2.toArray⟩] ++ K l from rfl]; simp [ih]; omega
theorem K_append (a b : List (Nat × List UInt8)) : K (a ++ b) = K a ++ K b := by simp [K]
theorem K_get (l : List (Nat × List UInt8)) (i : Nat) : (K l)[2 * i]? = l[i]?.map (fun c => .int .i64 (c.1 : Int)) ∧ (K l)[2 * i + 1]? = l[i]?.map (fun c => .string ⟨c.2.toArray⟩) := by
  induction l generalizing i with
  | nil => exact ⟨rfl, rfl⟩
  | cons a l ih =>
    rw [show K (a :: l) = .int .i64 (a.1 : Int) :: .string ⟨a.2.toArray⟩ :: K l from rfl]
    cases i with
    | zero => exact ⟨rfl, rfl⟩
    | succ i => exact ih i
theorem K_one (l : List (Nat × List UInt8)) : ∀ u ∈ K l, u.oneCell' = true := by
  intro u hu
  simp only [K, List.mem_flatMap] at hu
  obtain ⟨b, _, hb⟩ := hu
  simp at hb
  rcases hb with rfl | rfl <;> rfl
/-- append(xs, u) onto a row of the call's own: one element of more cells than one -/
theorem wpList_pushK {P : Program} (W : World) {ops : Array Oper} {rest : List Oper} {o : Oper} {a : Act} {Q : Exit → Act → World → Prop} (hgd : o.guard = none) (s x : Operand) (t : TypeId)
    (ho : o.op = .call { callee := .builtin .append, args := #[s, x], argTypes := #[t, t] })
    (base : Nat) (e : TypeId) (i : TypeInfo) (z : Value) (size bytes : Nat) (ht : P.underlying t = some (.slice e)) (hi : P.info? e = some i) (hz : i.zero = some z)
    (hsize : i.size = size) (hby : i.bytes = bytes) (hzs : z.cells.size = size) (hsz : 0 < size)
    (A : Option Addr) (n c : Nat) (xs : List Value) (hs : a.eval s = .slice A n c) (hown : W.ownsRow base e size (.slice A n c) n xs)
    (us : Array Value) (m : Nat) (te : TypeId) (hus : us.size = m * size) (h1 : ∀ u ∈ us.toList, u.oneCell' = true) (hx : a.eval x = .slice (some ⟨W.heap.size, 0, none⟩) m m)
    (hbytes : (n + m) * bytes ≤ 140737488355328) (h63 : n + m ≤ maxLen) (hbase : base ≤ W.heap.size)
    (h : ∀ A' c' w', w'.ownsRow base e size (.slice A' (n + m) c') (n + m) (xs ++ us.toList) → W.grownBy w' (Value.slice A n c).ownBlock → wpList P ops Q rest (a.put o.dst (.slice A' (n + m) c')) w') :
    wpList P ops Q (o :: rest) a (W.alloc (.cells us te)) := by
  refine wpList_append_own (W.alloc (.cells us te)) hgd s x t ho base e i z size bytes ht hi hz hsize hby hzs hsz (.slice A n c) n xs hs (hown.alloc _) ⟨W.heap.size, 0, none⟩ m m us.toList hx (by simpa using hus) ?_ h1 h63 hbytes (by simp; omega) ?_
  · intro j v hj
    have := (Blk.new W te us).cell j
    rw [addr_add, Nat.zero_add, this]
    simpa using hj
  · intro v' w' ho' hg' _
    obtain ⟨A', c', rfl⟩ := own_shape ho'
    exact h A' c' w' ho' (gb_trans (gb_alloc (gb_refl _ _) _) hg')
theorem info126 : (Tryd.prog.info? 126).map (fun i => (i.zero, i.size, i.bytes)) = some (some (.agg #[.int .i64 0, .string ⟨#[]⟩]), 2, 24) := by kernel_rfl
@[go_sem] theorem build126 (s : Int) (t : ByteArray) (w : World) : (Instr.build 126 #[(0, .int .i64 s), (1, .string t)]).run Tryd.prog w = .ok (.agg #[.int .i64 s, .string t]) w := run_build w 126 _ _ (by kernel_rfl)
theorem own_below {w w' : World} {base : Nat} {e : TypeId} {size : Nat} {v : Value} {n : Nat} {xs : List Value} (h : w.ownsRow base e size v n xs) (hb : Below w.heap.size w w') : w'.ownsRow base e size v n xs := by
  refine ⟨h.1, ?_⟩
  rcases h.2 with h2 | ⟨g, cap, cur, hv, hg, hh, r⟩
  · exact Or.inl h2
  · exact Or.inr ⟨g, cap, cur, hv, hg, (hb.block g (Blk.lt (t := e) (cs := cur) hh)).trans hh, r⟩
structure Cst (w0 wr : World) (st : CS) (A : Option Addr) (c : Nat) : Prop where
  own : wr.ownsRow w0.heap.size 126 2 (.slice A st.l.length c) st.l.length (K st.l)
  below : Below w0.heap.size w0 wr
def COut (w : World) (row : List Nat) (vl vv va vn : Value) (wr : World) : Prop :=
  ∃ (k c : Nat) (A : Option Addr), 1 ≤ k ∧ k ≤ 16 ∧ vn = .int .i64 k ∧ vv = .int .i64 ((cOut row (k - 1)).v : Int) ∧ va = .int .i64 ((cOut row (k - 1)).last : Int) ∧ vl = .slice A (cOut row (k - 1)).l.length c ∧ Hid (Cst w wr (cOut row (k - 1)) A c)
def CIn (w : World) (row : List Nat) (k : Nat) (vl vv va vs : Value) (wr : World) : Prop :=
  ∃ (s c : Nat) (A : Option Addr), s ≤ row.length ∧ vs = .int .i64 s ∧ vv = .int .i64 ((cIn row k s (cOut row (k - 1))).v : Int) ∧ va = .int .i64 ((cIn row k s (cOut row (k - 1))).last : Int) ∧ vl = .slice A (cIn row k s (cOut row (k - 1))).l.length c ∧ Hid (Cst w wr (cIn row k s (cOut row (k - 1))) A c)
def CodesPost (w : World) (row : List Nat) (e : Ending) (w' : World) : Prop :=
  ∃ A c, e = .returned (.slice A (cOut row 15).l.length c) ∧ Cst w w' (cOut row 15) A c
set_option maxHeartbeats 1000000 in
theorem codes_any (b off cap : Nat) (row : List Nat) (w : World) (hr : Row w w.heap.size b off row) (hl : row.length ≤ 1000) :
    Calls Tryd.prog 50 #[.slice (some ⟨b, off, none⟩) row.length cap] w fun e w' => CodesPost w row e w' := by
  obtain ⟨i0, hi, hz0, hz1, hz2⟩ := info_parts info126
  have HR := Lib.hid hr
  clear hr
  go_enter Tryd.func50, Tryd.ntmps50
  go_wp2_with fail
  go_loopw [3, 4, 5, 6] (fun vl vv va vn wr => COut w row vl vv va vn wr) (fun _ _ _ n _ => 16 - (intOf n).toNat)
  case atStart => exact ⟨1, 0, none, by omega, by omega, rfl, rfl, rfl, rfl, ⟨World.ownsRow_nil _ _ _ _, Below.refl _ _⟩⟩
  case round =>
    obtain ⟨k, c, A, hk1, hk2, rfl, rfl, rfl, rfl, hB⟩ := hrel
    by_cases hlt : k ≤ 15
    · have hd : decide ((k : Int) ≤ 15) = true := by simp; omega
      go_wp2_with fail
      obtain ⟨wo, rfl⟩ : ∃ wo : World, wo = wr := ⟨_, rfl⟩
      go_loopw [3, 4, 5, 7] (fun vl vv va vs wr => CIn w row k vl vv va vs wr) (fun _ _ _ n _ => row.length - (intOf n).toNat)
      case atStart => exact ⟨0, c, A, by omega, rfl, rfl, rfl, rfl, hB⟩
      case round =>
        obtain ⟨s, c1, A1, hs, rfl, rfl, rfl, rfl, hB1⟩ := hrel
        by_cases hlt1 : s < row.length
        · obtain ⟨x, hx⟩ : ∃ x, x = row.getD s 0 := ⟨_, rfl⟩
          have hcell : wr.cell? ⟨b, off + s, none⟩ = some (.int .i64 (x : Int)) := by rw [hx]; exact (HR.out.below hB1.out.below).2 s hlt1
          have HX := Lib.hid hx
          clear hx
          by_cases hxk : x = k
          · have hxb : ((x : Int) != (k : Int)) = false := by simp; omega
            have HXK := Lib.hid hxk
            clear hxk
            have hcb : CB k ((k - 1) * row.length + s) (cIn row k s (cOut row (k - 1))) := cIn_CB row k _ s _ ⟨by have := (cOut_CB row (k - 1)).1; omega, (cOut_CB row (k - 1)).2⟩
            have hm : (k - 1) * row.length ≤ 15 * row.length := Nat.mul_le_mul_right _ (by omega)
            have HNX : Hid (cIn row k (s + 1) (cOut row (k - 1)) = ⟨cVal k (cIn row k s (cOut row (k - 1))), k, (cIn row k s (cOut row (k - 1))).l ++ [(s, digs (cVal k (cIn row k s (cOut row (k - 1)))) k)]⟩) := by
              show _ = _
              rw [cIn, ← HX.out, HXK.out]
              simp [cStep]
            generalize cIn row k s (cOut row (k - 1)) = st at *
            have hvl := cVal_le k _ st hcb
            have hlen : st.l.length ≤ 20000 := by have := hcb.2.1; omega
            have hlast := hcb.1
            have hvle : cVal k st ≤ 655360000 := by
              have hp : 2 ^ k ≤ 32768 := Nat.pow_le_pow_right (by decide) (show k ≤ 15 by omega)
              have := Nat.mul_le_mul hlen hp
              omega
            have hsv : st.v ≤ 655360000 := by
              rcases hcb.2.2 with h | ⟨_, h⟩
              · have hp : 2 ^ st.last ≤ 32768 := Nat.pow_le_pow_right (by decide) (show st.last ≤ 15 by omega)
                have := Nat.mul_le_mul hlen hp
                omega
              · omega
            have hO := Lib.hid hB1.out.own
            have hb1 := Lib.hid hB1.out.below
            have hsz := hB1.out.below.size
            clear hm hvl hcb hB1
            obtain ⟨y, hy⟩ : ∃ y : Nat, y = cVal k st := ⟨_, rfl⟩
            rw [← hy] at HNX hvle
            have HY := Lib.hid hy
            clear hy
            by_cases h0 : 0 < st.l.length
            · have hd2 : decide ((0 : Int) < (st.l.length : Int)) = true := by simp; omega
              obtain ⟨d, hdd⟩ : ∃ d, d = k - st.last := ⟨_, rfl⟩
              have em : (k : Int) - (st.last : Int) = (d : Int) := by omega
              have hyv : ((st.v : Int) + 1) * 2 ^ d = (y : Int) := by
                rw [HY.out, cVal, if_neg (by intro h; rw [h] at h0; simp at h0), ← hdd]; push_cast; rfl
              have hd15 : d ≤ 15 := by omega
              clear hdd
              have hmin : min d 64 = d := Nat.min_eq_left (by omega)
              go_wp2_with fail
              refine (digits_any y k wr (by omega)).mono ?_
              rintro e w1 ⟨rfl, hbw⟩
              have hO1 := Lib.hid (own_below hO.out hbw)
              have hb2 := Lib.hid (hb1.out.trans (hbw.mono hsz))
              have hsz2 : w.heap.size ≤ w1.heap.size := Nat.le_trans hsz hbw.size
              clear hO hb1 hbw
              go_wp2_with (first
                | (at_builtin
                   refine wpList_pushK w1 rfl (.tmp 35) (.tmp 41) 98 rfl w.heap.size 126 i0 _ 2 24 Tryd.underlying98 hi hz0 hz1 hz2 rfl (by decide) A1 st.l.length c1 (K st.l) rfl hO1.out _ 1 _ rfl ?_ rfl (by omega) (by unfold maxLen; omega) hsz2 ?_
                   · intro u hu
                     simp at hu
                     rcases hu with rfl | rfl <;> rfl
                   intro A2 c2 w2 hown2 hg2)
                | fail)
              go_roundw
              case rel =>
                refine ⟨s + 1, c2, A2, by omega, by go_num, by rw [HNX.out], by rw [HNX.out], by rw [HNX.out]; simp, ?_⟩
                rw [HNX.out]
                refine ⟨?_, hb2.out.grown hg2 hsz2 (fun q hq => (hO1.out.lt q hq).1)⟩
                simpa [K_append, K] using hown2
              case measure => simp [intOf]; omega
            · have hd2 : decide ((0 : Int) < (st.l.length : Int)) = false := decide_eq_false (by omega)
              have hyv : st.v = y := by
                rw [HY.out, cVal, if_pos (List.eq_nil_of_length_eq_zero (by omega))]
              have h00 : st.l.length ≤ 0 := by omega
              rw [hyv]
              have HY2 := Lib.hid hyv
              clear hyv
              go_wp2_with fail
              refine (digits_any y k wr (by omega)).mono ?_
              rintro e w1 ⟨rfl, hbw⟩
              have hO1 := Lib.hid (own_below hO.out hbw)
              have hb2 := Lib.hid (hb1.out.trans (hbw.mono hsz))
              have hsz2 : w.heap.size ≤ w1.heap.size := Nat.le_trans hsz hbw.size
              clear hO hb1 hbw
              go_wp2_with (first
                | (at_builtin
                   refine wpList_pushK w1 rfl (.tmp 35) (.tmp 41) 98 rfl w.heap.size 126 i0 _ 2 24 Tryd.underlying98 hi hz0 hz1 hz2 rfl (by decide) A1 st.l.length c1 (K st.l) rfl hO1.out _ 1 _ rfl ?_ rfl (by omega) (by unfold maxLen; omega) hsz2 ?_
                   · intro u hu
                     simp at hu
                     rcases hu with rfl | rfl <;> rfl
                   intro A2 c2 w2 hown2 hg2)
                | fail)
              go_roundw
              case rel =>
                refine ⟨s + 1, c2, A2, by omega, by go_num, by rw [HNX.out], by rw [HNX.out], by rw [HNX.out]; simp, ?_⟩
                rw [HNX.out]
                refine ⟨?_, hb2.out.grown hg2 hsz2 (fun q hq => (hO1.out.lt q hq).1)⟩
                simpa [K_append, K] using hown2
              case measure => simp [intOf]; omega
          · have hxb : ((x : Int) != (k : Int)) = true := by simp; omega
            have HNX : Hid (cIn row k (s + 1) (cOut row (k - 1)) = cIn row k s (cOut row (k - 1))) := by
              show _ = _
              rw [cIn, ← HX.out]
              simp [cStep, hxk]
            generalize cIn row k s (cOut row (k - 1)) = st at *
            go_wp2_with fail
            go_roundw
            case rel => exact ⟨s + 1, c1, A1, by omega, by go_num, by rw [HNX.out], by rw [HNX.out], by rw [HNX.out], by rw [HNX.out]; exact hB1⟩
            case measure => simp [intOf]; omega
        · have hse : cIn row k s (cOut row (k - 1)) = cOut row k := by
            obtain rfl : s = row.length := by omega
            obtain ⟨k', rfl⟩ : ∃ k', k = k' + 1 := ⟨k - 1, by omega⟩
            rfl
          rw [hse] at hB1 ⊢
          clear hse
          go_wp2_with fail
          go_roundw
          case rel => exact ⟨k + 1, c1, A1, by omega, by omega, by go_num, rfl, rfl, rfl, hB1⟩
          case measure => simp [intOf]; omega
    · obtain rfl : k = 16 := by omega
      have hB' : Hid (Cst w wr (cOut row 15) A c) := hB
      clear hB
      have hle := (cOut_CB row 15).2.1
      show Code.wp _ _ _ _ _
      simp only [Nat.reduceSub]
      have HST := Lib.hid hB'
      go_wp2_with fail
      go_ret
      exact ⟨_, _, rfl, hB'.out⟩
def WhoRel (row : List Nat) (va vu vo vi : Value) : Prop :=
  ∃ s : Nat, s ≤ row.length ∧ vi = .int .i64 s ∧ va = .int .i64 ((wGo row s).sum : Int) ∧ vu = .int .i64 ((wGo row s).used : Int) ∧ vo = .int .i64 ((wGo row s).ones : Int)
theorem ret_bool {a b : Bool} (h : a = b) : Ending.returned (.bool a) = .returned (.bool b) := by rw [h]
set_option maxHeartbeats 1000000 in
theorem whole_any (b off cap : Nat) (row : List Nat) (nn : Bool) (w : World) (hr : Row w w.heap.size b off row) (hl : row.length ≤ 1000) (h15 : ∀ s, row.getD s 0 ≤ 15) :
    Calls Tryd.prog 54 #[.slice (some ⟨b, off, none⟩) row.length cap, .bool nn] w fun e w' => e = .returned (.bool (wOk row nn)) ∧ w' = w := by
  have HR := Lib.hid hr
  have H15 := Lib.hid h15
  clear hr h15
  go_enter Tryd.func54, Tryd.ntmps54
  go_wp2_with fail
  go_loop [5, 6, 7, 8] (fun va vu vo vi => WhoRel row va vu vo vi) (fun _ _ _ vi => row.length - (intOf vi).toNat)
  case atStart => exact ⟨0, by omega, rfl, rfl, rfl, rfl⟩
  case round =>
    obtain ⟨s, hs, rfl, rfl, rfl, rfl⟩ := hrel
    have hle := wGo_le row s
    by_cases hlt : s < row.length
    · obtain ⟨x, hx⟩ : ∃ x, x = row.getD s 0 := ⟨_, rfl⟩
      have hcell : w.cell? ⟨b, off + s, none⟩ = some (.int .i64 (x : Int)) := by rw [hx]; exact HR.out.2 s hlt
      have hx15 : x ≤ 15 := by rw [hx]; exact H15.out s
      have HX := Lib.hid hx
      clear hx
      have hb1 : (wGo row s).sum ≤ 1000000000 := by omega
      have hb2 : (wGo row s).used ≤ 1000 := by omega
      have hb3 : (wGo row s).ones ≤ 1000 := by omega
      clear hle
      by_cases h1 : x < 1
      · have hd : decide ((x : Int) < 1) = true := by simp; omega
        have HNX : Hid (wGo row (s + 1) = wGo row s) := by
          show _ = _
          rw [wGo, ← HX.out, wStep, if_pos h1]
        go_wp2_with fail
        go_round
        case rel => exact ⟨s + 1, by omega, by go_num, by rw [HNX.out], by rw [HNX.out], by rw [HNX.out]⟩
        case measure => simp [intOf]; omega
      · have hd : decide ((x : Int) < 1) = false := by simp; omega
        have hval := shl_pow x hx15
        obtain ⟨d, hdd⟩ : ∃ d, d = 15 - x := ⟨_, rfl⟩
        have em : (15 : Int) - (x : Int) = (d : Int) := by omega
        have hval2 : (2 : Int) ^ d = ((2 ^ d : Nat) : Int) := by push_cast; rfl
        rw [← hdd] at hval
        obtain ⟨y, hy⟩ : ∃ y : Nat, y = 2 ^ d := ⟨_, rfl⟩
        have hyb : y ≤ 32768 := by rw [hy]; exact Nat.pow_le_pow_right (by decide) (show d ≤ 15 by omega)
        rw [← hy] at hval hval2
        have HY : Hid (y = 2 ^ (15 - x)) := by show _ = _; rw [hy, hdd]
        have hd64 : min d 64 = d := Nat.min_eq_left (by omega)
        have hd15 : d ≤ 15 := by omega
        clear hy hdd
        by_cases hx1 : x = 1
        · have hxb : ((x : Int) == 1) = true := beq_iff_eq.2 (by omega)
          have HNX : Hid (wGo row (s + 1) = ⟨(wGo row s).sum + y, (wGo row s).used + 1, (wGo row s).ones + 1⟩) := by
            show _ = _
            rw [wGo, ← HX.out, wStep, if_neg h1, if_pos hx1, ← HY.out]
          have HX1 := Lib.hid hx1
          clear hx1
          go_wp2_with fail
          go_round
          case rel => exact ⟨s + 1, by omega, by go_num, by rw [HNX.out]; simp, by rw [HNX.out]; simp, by rw [HNX.out]; simp⟩
          case measure => simp [intOf]; omega
        · have hxb : ((x : Int) == 1) = false := beq_eq_false_iff_ne.2 (by omega)
          have HNX : Hid (wGo row (s + 1) = ⟨(wGo row s).sum + y, (wGo row s).used + 1, (wGo row s).ones⟩) := by
            show _ = _
            rw [wGo, ← HX.out, wStep, if_neg h1, if_neg hx1, ← HY.out]
          go_wp2_with fail
          go_round
          case rel => exact ⟨s + 1, by omega, by go_num, by rw [HNX.out]; simp, by rw [HNX.out]; simp, by rw [HNX.out]⟩
          case measure => simp [intOf]; omega
    · obtain rfl : s = row.length := by omega
      have hok : Hid (wOk row nn = if (wGo row row.length).used = 0 then nn else if (wGo row row.length).used = 1 then decide ((wGo row row.length).ones = 1) else decide ((wGo row row.length).sum = 32768)) := rfl
      generalize wGo row row.length = st at *
      by_cases h0 : st.used = 0
      · have hb0 : ((st.used : Int) == 0) = true := beq_iff_eq.2 (by omega)
        have H0 := Lib.hid h0
        clear h0
        go_wp2_with fail
        go_ret
        exact ⟨by rw [hok.out, if_pos H0.out]; rfl, rfl⟩
      · have hb0 : ((st.used : Int) == 0) = false := beq_eq_false_iff_ne.2 (by omega)
        have H0 := Lib.hid h0
        by_cases h1 : st.used = 1
        · have hb1 : ((st.used : Int) == 1) = true := beq_iff_eq.2 (by omega)
          have H1 := Lib.hid h1
          clear h1 h0
          go_wp2_with fail
          go_ret
          exact ⟨by rw [hok.out, if_neg H0.out, if_pos H1.out]; exact ret_bool (eqb _ 1), rfl⟩
        · have hb1 : ((st.used : Int) == 1) = false := beq_eq_false_iff_ne.2 (by omega)
          have H1 := Lib.hid h1
          clear h1 h0
          go_wp2_with fail
          go_ret
          exact ⟨by rw [hok.out, if_neg H0.out, if_neg H1.out]; exact ret_bool (eqb _ 32768), rfl⟩
end Go.Proofs.YtejgoienkpaabaaDoor
