/- Walk2 (merged: one text behind the other). -/
import Derived.Test.YtejgoienkpaabaaDoorMg19
/- PressExact: the walk. (Printed by gen_walk.py.) -/
namespace Go.Proofs.YtejgoienkpaabaaDoor
open Go.RowKit
set_option maxRecDepth 100000
theorem Bks.below {w w' : World} {T gb : Nat} {B O : Value} {es : List En} {p t d u : Nat} (h : Bks w T gb B O es p t d u) (hb : Below w.heap.size w w') : Bks w' T gb B O es p t d u :=
  ⟨h.blk.below hb h.blk.lt, own_below h.ownB hb, own_below h.ownO hb, fun e he => (h.ents e he).far fun _ _ _ hB => hB.below hb hB.lt, h.hgb⟩
theorem Bks.start (w : World) : Bks (w.alloc (.cells (bk (.slice none 0 0) (.slice none 0 0) 0 0 0 0) 48)) w.heap.size w.heap.size (.slice none 0 0) (.slice none 0 0) [] 0 0 0 0 :=
  ⟨Blk.new w 48 _, World.ownsRow_nil _ _ _ _, World.ownsRow_nil _ _ _ _, fun e he => (by cases he), Nat.le_refl _⟩
theorem build48 (w : World) : (Instr.build 48 #[]).run Tryd.prog w = .ok (.agg (bk (.slice none 0 0) (.slice none 0 0) 0 0 0 0)) w := bk_start w
theorem wp_build48 {o : Oper} {a : Act} {w : World} {K : Act → World → Prop} {Q : Exit → Act → World → Prop} (ho : o.op = Op.build 48 #[]) (h : K (a.put o.dst (.agg (bk (.slice none 0 0) (.slice none 0 0) 0 0 0 0))) w) : Oper.wp Tryd.prog o a w K Q := by
  unfold Oper.wp
  simp [execOp, ho, build48]
  exact h
theorem Kp.below {T : Nat} {L : Nat → Prop} {w w' : World} {S : Nat} (h : Kp T L w w') (hS : S ≤ T) (hL : ∀ q, q < S → ¬ L q) : Below S w w' := ⟨h.os, h.tape, h.output, h.size, fun k hk => h.block k (by omega) (hL k hk)⟩
def FillRel (W : World) (gi n base ci : Nat) (vi : Value) (wr : World) : Prop :=
  ∃ i : Nat, i ≤ n ∧ vi = .int .i64 i ∧ Hid (∃ ys, wr.ownsRow base 5 1 (.slice (some ⟨gi, 0, none⟩) (n + 3) ci) (n + 3) ys) ∧ Hid (W.grownBy wr (some gi))
set_option maxHeartbeats 8000000 in
theorem exact_any (A : Option Addr) (c : Nat) (b : List UInt8) (max : Int) (w : World) (h : Sl w A b) (hc : b.length ≤ c) (hl : b.length ≤ Lim) (he : ErrTab w) (hmx : max ≤ 9223372036854775807) :
    Calls Tryd.prog 3 #[.agg #[.slice A b.length c, .int .i64 max]] w fun e w' => e = .returned (.bool true) ∧ Below w.heap.size w w' := by
  have HS := Lib.hid h
  have HE := Lib.hid he
  have hlim := Lim_le hl
  obtain ⟨hul, -, huk⟩ := unp_len b max
  have HR := Lib.hid (fun (A' : Option Addr) (n' c' : Nat) (w' : World) (hn : b.length = n') (hs : Sl w' A' b) (hc' : n' ≤ c') (he' : ErrTab w') => unp_own A' n' c' b max w' hn hs hc' hl he' hmx)
  have HRR := Lib.hid (fun (A' : Option Addr) (n' c' : Nat) (w' : World) (hn : b.length = n') (hs : Sl w' A' b) (hc' : n' ≤ c') => runp_own A' n' c' b max w' hn hs hc' hl hmx)
  generalize (unpP b max).1 = OUT at *
  generalize (unpP b max).2 = E at *
  have hol : OUT.length ≤ Lim := by unfold Lim; omega
  clear h he
  go_enter Tryd.func3, Tryd.ntmps3
  go_wp2_with fail
  have BT0 := Lib.hid (Blk.new w 24 #[.slice A b.length c, .int .i64 max])
  have B0 := Lib.hid ((Below.refl w.heap.size w).alloc (Nat.le_refl _) (.cells #[.slice A b.length c, .int .i64 max] 24))
  have z0 : w.heap.size + 1 ≤ (w.alloc (.cells #[.slice A b.length c, .int .i64 max] 24)).heap.size := by simp
  obtain ⟨gt, hgt⟩ : ∃ gt, gt = w.heap.size := ⟨_, rfl⟩
  have hgt2 : gt ≤ w.heap.size := by omega
  have hgt3 : w.heap.size ≤ gt := by omega
  rw [← hgt] at BT0
  rw [← hgt]
  generalize w.alloc (.cells #[.slice A b.length c, .int .i64 max] 24) = w0 at *
  have ca0 : w0.cell? ⟨gt, 0, none⟩ = some (.slice A b.length c) := by rw [BT0.out.cell]; rfl
  have cb0 : w0.cell? ⟨gt, 1, none⟩ = some (.int .i64 max) := by rw [BT0.out.cell]; rfl
  clear hgt
  refine (lend_any A b.length c b w0 rfl (HS.out.below B0.out) hl).mono ?_
  rintro e w1 ⟨gi, ci, rfl, hci, hoi, hb⟩
  have BT1 := Lib.hid (BT0.out.below hb BT0.out.lt)
  have B1 := Lib.hid (B0.out.trans (hb.mono B0.out.size))
  have z1 : w0.heap.size ≤ w1.heap.size := hb.size
  have ca1 : w1.cell? ⟨gt, 0, none⟩ = some (.slice A b.length c) := by rw [BT1.out.cell]; rfl
  have cb1 : w1.cell? ⟨gt, 1, none⟩ = some (.int .i64 max) := by rw [BT1.out.cell]; rfl
  have gib : w0.heap.size ≤ gi ∧ gi < w1.heap.size := own_lt hoi gi rfl
  have OI1 := Lib.hid hoi
  clear hoi hb
  go_wp2_with fail
  refine (HR.out (some ⟨gi, 0, none⟩) b.length ci w1 rfl (sl_pre OI1.out) (by omega) (HE.out.below B1.out)).mono ?_
  rintro e w2 ⟨A2, c2, rfl, ho, hb⟩
  have BT2 := Lib.hid (BT1.out.below hb BT1.out.lt)
  have B2 := Lib.hid (B1.out.trans (hb.mono B1.out.size))
  have z2 : w1.heap.size ≤ w2.heap.size := hb.size
  have ca2 : w2.cell? ⟨gt, 0, none⟩ = some (.slice A b.length c) := by rw [BT2.out.cell]; rfl
  have cb2 : w2.cell? ⟨gt, 1, none⟩ = some (.int .i64 max) := by rw [BT2.out.cell]; rfl
  have OI2 := Lib.hid (own_below OI1.out hb)
  have OO2 := Lib.hid ho
  have hq2 : ∀ q, (Value.slice A2 OUT.length c2).ownBlock = some q → w1.heap.size ≤ q ∧ q < w2.heap.size := own_lt ho
  clear ho hb
  go_wp2_with fail
  refine (intact_any gi ci b.length b.length c A b _ w2 rfl rfl hci OI2.out (HS.out.below B2.out) hl).mono ?_
  rintro e w2' ⟨rfl, rfl⟩
  go_wp2_with fail
  refine (right_any w2' (HE.out.below B2.out)).mono ?_
  rintro e w3 ⟨rfl, hb⟩
  have BT3 := Lib.hid (BT2.out.below hb BT2.out.lt)
  have B3 := Lib.hid (B2.out.trans (hb.mono B2.out.size))
  have z3 : w2'.heap.size ≤ w3.heap.size := hb.size
  have ca3 : w3.cell? ⟨gt, 0, none⟩ = some (.slice A b.length c) := by rw [BT3.out.cell]; rfl
  have cb3 : w3.cell? ⟨gt, 1, none⟩ = some (.int .i64 max) := by rw [BT3.out.cell]; rfl
  have OI3 := Lib.hid (own_below OI2.out hb)
  have OO3 := Lib.hid (own_below OO2.out hb)
  clear hb OI2 OO2 OI1
  go_wp2_with fail
  go_loopw [6] (fun vi wr => FillRel w3 gi b.length w0.heap.size ci vi wr) (fun vi _ => b.length - (intOf vi).toNat)
  case atStart => exact ⟨0, by omega, rfl, ⟨_, OI3.out⟩, gb_refl _ _⟩
  case round =>
  obtain ⟨i, hi, rfl, hys, hg⟩ := hrel
  by_cases hlt : i < b.length
  · obtain ⟨ys, ho⟩ := hys.out
    obtain ⟨u, hcu, hfu, _⟩ := own_cell ho (show i < b.length + 3 by omega)
    go_wp2_with fail
    go_roundw
    case rel => exact ⟨i + 1, by omega, by go_num, ⟨_, own_set ho (i := i) (.int .u8 238)⟩, gb_set (p := ⟨gi, i, none⟩) hg.out (.inl rfl) _⟩
    case measure => simp [intOf]; omega
  obtain ⟨w4, hw4⟩ : ∃ w4, w4 = wr := ⟨_, rfl⟩
  subst hw4
  have BT4 := Lib.hid (BT3.out.gb hg.out (by intro e; injection e; omega))
  have B4 := Lib.hid (B3.out.trans (below_of_gb_some hg.out (by omega) B3.out.size))
  have z4 : w3.heap.size ≤ w4.heap.size := hg.out.size
  have ca4 : w4.cell? ⟨gt, 0, none⟩ = some (.slice A b.length c) := by rw [BT4.out.cell]; rfl
  have cb4 : w4.cell? ⟨gt, 1, none⟩ = some (.int .i64 max) := by rw [BT4.out.cell]; rfl
  have OO4 := Lib.hid (OO3.out.kept hg.out (.inr (by intro e; have := hq2 gi e; omega)))
  clear hys hg OO3 OI3
  go_wp2_with fail
  refine (HRR.out A b.length c w4 rfl (HS.out.below B4.out) hc).mono ?_
  rintro e w5 ⟨A5, c5, rfl, ho, hb⟩
  have BT5 := Lib.hid (BT4.out.below hb BT4.out.lt)
  have B5 := Lib.hid (B4.out.trans (hb.mono B4.out.size))
  have z5 : w4.heap.size ≤ w5.heap.size := hb.size
  have ca5 : w5.cell? ⟨gt, 0, none⟩ = some (.slice A b.length c) := by rw [BT5.out.cell]; rfl
  have cb5 : w5.cell? ⟨gt, 1, none⟩ = some (.int .i64 max) := by rw [BT5.out.cell]; rfl
  have OW5 := Lib.hid ho
  have OO5 := Lib.hid (own_below OO4.out hb)
  have hq5 : ∀ q, (Value.slice A5 OUT.length c5).ownBlock = some q → w4.heap.size ≤ q ∧ q < w5.heap.size := own_lt ho
  clear ho hb OO4
  go_wp2_with fail
  refine (num_any .i64 (E : Int) w5).mono ?_
  rintro e w5' ⟨rfl, rfl⟩
  go_wp2_with fail
  refine (eq_same A2 A5 OUT.length OUT.length c2 c5 OUT w5' rfl rfl (Sl.of_own OO5.out) (Sl.of_own OW5.out) hol).mono ?_
  rintro e w6 ⟨rfl, hb⟩
  have BT6 := Lib.hid (BT5.out.below hb BT5.out.lt)
  have B6 := Lib.hid (B5.out.trans (hb.mono B5.out.size))
  have z6 : w5'.heap.size ≤ w6.heap.size := hb.size
  have ca6 : w6.cell? ⟨gt, 0, none⟩ = some (.slice A b.length c) := by rw [BT6.out.cell]; rfl
  have cb6 : w6.cell? ⟨gt, 1, none⟩ = some (.int .i64 max) := by rw [BT6.out.cell]; rfl
  have OW6 := Lib.hid (own_below OW5.out hb)
  have OO6 := Lib.hid (own_below OO5.out hb)
  clear hb OW5 OO5
  go_wp2_with fail
  refine (HR.out A b.length c w6 rfl (HS.out.below B6.out) hc (HE.out.below B6.out)).mono ?_
  rintro e w7 ⟨A7, c7, rfl, ho, hb⟩
  have BT7 := Lib.hid (BT6.out.below hb BT6.out.lt)
  have B7 := Lib.hid (B6.out.trans (hb.mono B6.out.size))
  have z7 : w6.heap.size ≤ w7.heap.size := hb.size
  have ca7 : w7.cell? ⟨gt, 0, none⟩ = some (.slice A b.length c) := by rw [BT7.out.cell]; rfl
  have cb7 : w7.cell? ⟨gt, 1, none⟩ = some (.int .i64 max) := by rw [BT7.out.cell]; rfl
  have OW7 := Lib.hid (own_below OW6.out hb)
  have OO7 := Lib.hid (own_below OO6.out hb)
  have O17 := Lib.hid ho
  have hq7 : ∀ q, (Value.slice A7 OUT.length c7).ownBlock = some q → w6.heap.size ≤ q ∧ q < w7.heap.size := own_lt ho
  clear ho hb OW6 OO6
  go_wp2_with fail
  refine (HR.out A b.length c w7 rfl (HS.out.below B7.out) hc (HE.out.below B7.out)).mono ?_
  rintro e w8 ⟨A8, c8, rfl, ho, hb⟩
  have BT8 := Lib.hid (BT7.out.below hb BT7.out.lt)
  have B8 := Lib.hid (B7.out.trans (hb.mono B7.out.size))
  have z8 : w7.heap.size ≤ w8.heap.size := hb.size
  have ca8 : w8.cell? ⟨gt, 0, none⟩ = some (.slice A b.length c) := by rw [BT8.out.cell]; rfl
  have cb8 : w8.cell? ⟨gt, 1, none⟩ = some (.int .i64 max) := by rw [BT8.out.cell]; rfl
  have OW8 := Lib.hid (own_below OW7.out hb)
  have OO8 := Lib.hid (own_below OO7.out hb)
  have O18 := Lib.hid (own_below O17.out hb)
  have O28 := Lib.hid ho
  have hq8 : ∀ q, (Value.slice A8 OUT.length c8).ownBlock = some q → w7.heap.size ≤ q ∧ q < w8.heap.size := own_lt ho
  clear ho hb OW7 OO7 O17
  go_wp2_with fail
  refine (num_any .i64 (E : Int) w8).mono ?_
  rintro e w8' ⟨rfl, rfl⟩
  go_wp2_with fail
  refine (num_any .i64 (E : Int) w8').mono ?_
  rintro e w8'' ⟨rfl, rfl⟩
  go_wp2_with fail
  refine (eq_same A7 A5 OUT.length OUT.length c7 c5 OUT w8'' rfl rfl (Sl.of_own O18.out) (Sl.of_own OW8.out) hol).mono ?_
  rintro e w9 ⟨rfl, hb⟩
  have BT9 := Lib.hid (BT8.out.below hb BT8.out.lt)
  have B9 := Lib.hid (B8.out.trans (hb.mono B8.out.size))
  have z9 : w8''.heap.size ≤ w9.heap.size := hb.size
  have ca9 : w9.cell? ⟨gt, 0, none⟩ = some (.slice A b.length c) := by rw [BT9.out.cell]; rfl
  have cb9 : w9.cell? ⟨gt, 1, none⟩ = some (.int .i64 max) := by rw [BT9.out.cell]; rfl
  have OW9 := Lib.hid (own_below OW8.out hb)
  have OO9 := Lib.hid (own_below OO8.out hb)
  have O19 := Lib.hid (own_below O18.out hb)
  have O29 := Lib.hid (own_below O28.out hb)
  clear hb OW8 OO8 O18 O28
  go_wp2_with fail
  refine (eq_same A8 A5 OUT.length OUT.length c8 c5 OUT w9 rfl rfl (Sl.of_own O29.out) (Sl.of_own OW9.out) hol).mono ?_
  rintro e w10 ⟨rfl, hb⟩
  have BT10 := Lib.hid (BT9.out.below hb BT9.out.lt)
  have B10 := Lib.hid (B9.out.trans (hb.mono B9.out.size))
  have z10 : w9.heap.size ≤ w10.heap.size := hb.size
  have ca10 : w10.cell? ⟨gt, 0, none⟩ = some (.slice A b.length c) := by rw [BT10.out.cell]; rfl
  have cb10 : w10.cell? ⟨gt, 1, none⟩ = some (.int .i64 max) := by rw [BT10.out.cell]; rfl
  have OWa := Lib.hid (own_below OW9.out hb)
  have OOa := Lib.hid (own_below OO9.out hb)
  have O1a := Lib.hid (own_below O19.out hb)
  have O2a := Lib.hid (own_below O29.out hb)
  clear hb OW9 OO9 O19 O29
  go_wp2_with fail
  refine wp_build48 rfl ?_
  go_wp2_with fail
  have bk0 := Bks.start w10
  have zb : w10.heap.size < (w10.alloc (.cells (bk (.slice none 0 0) (.slice none 0 0) 0 0 0 0) 48)).heap.size := by simp
  have BT11 := Lib.hid (BT10.out.alloc (.cells (bk (.slice none 0 0) (.slice none 0 0) 0 0 0 0) 48))
  have B11 := Lib.hid (B10.out.alloc B10.out.size (.cells (bk (.slice none 0 0) (.slice none 0 0) 0 0 0 0) 48))
  have OWb := Lib.hid (OWa.out.alloc (.cells (bk (.slice none 0 0) (.slice none 0 0) 0 0 0 0) 48))
  have OOb := Lib.hid (OOa.out.alloc (.cells (bk (.slice none 0 0) (.slice none 0 0) 0 0 0 0) 48))
  have O1b := Lib.hid (O1a.out.alloc (.cells (bk (.slice none 0 0) (.slice none 0 0) 0 0 0 0) 48))
  have O2b := Lib.hid (O2a.out.alloc (.cells (bk (.slice none 0 0) (.slice none 0 0) 0 0 0 0) 48))
  obtain ⟨gb, hgb⟩ : ∃ gb, gb = w10.heap.size := ⟨_, rfl⟩
  have hgb2 : gb ≤ w10.heap.size := by omega
  have hgb3 : w10.heap.size ≤ gb := by omega
  rw [← hgb] at bk0
  rw [← hgb]
  have BK0 := Lib.hid bk0
  clear hgb bk0 OWa OOa O1a O2a
  generalize w10.alloc (.cells (bk (.slice none 0 0) (.slice none 0 0) 0 0 0 0) 48) = w11 at *
  have ca11 : w11.cell? ⟨gt, 0, none⟩ = some (.slice A b.length c) := by rw [BT11.out.cell]; rfl
  have cb11 : w11.cell? ⟨gt, 1, none⟩ = some (.int .i64 max) := by rw [BT11.out.cell]; rfl
  refine (bytes_any gb gb w1.heap.size OUT.length c2 0 A2 (.slice none 0 0) (.slice none 0 0) [] (U OUT) 0 0 0 w11 BK0.out OOb.out (by omega) (by omega) (by omega) (by simp) (fun e he => by cases he)).mono ?_
  rintro e w12 ⟨rfl, B12v, O12v, bks12, own12, kp12⟩
  have hb := kp12.below (S := gt + 1) (by omega) (fun q hq hL => by have := hq2 q hL; omega)
  have BT12 := Lib.hid (BT11.out.below hb (by omega))
  have B12 := Lib.hid (B11.out.trans (hb.mono (by omega)))
  have z12 : w11.heap.size ≤ w12.heap.size := kp12.size
  have ca12 : w12.cell? ⟨gt, 0, none⟩ = some (.slice A b.length c) := by rw [BT12.out.cell]; rfl
  have cb12 : w12.cell? ⟨gt, 1, none⟩ = some (.int .i64 max) := by rw [BT12.out.cell]; rfl
  have OW12 := Lib.hid (kp12.own OWb.out (fun q hq => ⟨by have := hq5 q hq; omega, fun hL => by have := hq5 q hq; have := hq2 q hL; omega⟩))
  have O112 := Lib.hid (kp12.own O1b.out (fun q hq => ⟨by have := hq7 q hq; omega, fun hL => by have := hq7 q hq; have := hq2 q hL; omega⟩))
  have O212 := Lib.hid (kp12.own O2b.out (fun q hq => ⟨by have := hq8 q hq; omega, fun hL => by have := hq8 q hq; have := hq2 q hL; omega⟩))
  have M12 := Lib.hid own12
  have BK12 : Hid (Bks w12 gb gb B12v O12v [⟨A2, OUT.length, c2, 1⟩] 0 1 0 (0 + (1200 + 3 * OUT.length))) := bks12
  clear hb kp12 own12 bks12 OWb OOb O1b O2b BK0
  go_wp2_with fail
  refine (bytes_any gb gb w6.heap.size OUT.length c7 1 A7 B12v O12v [⟨A2, OUT.length, c2, 1⟩] (U OUT) 0 0 (0 + (1200 + 3 * OUT.length)) w12 BK12.out O112.out (by omega) (by omega) (by omega) (by simp) (fun e he hn h hA hq => by
    obtain rfl : e = ⟨A2, OUT.length, c2, 1⟩ := by simpa using he
    have hA' : A2 = some ⟨h, 0, none⟩ := hA
    have h1 := hq2 h (by rw [hA']; rfl)
    have h2 := hq7 h hq
    omega)).mono ?_
  rintro e w13 ⟨rfl, B13v, O13v, bks13, own13, kp13⟩
  have hb := kp13.below (S := gt + 1) (by omega) (fun q hq hL => by have := hq7 q hL; omega)
  have BT13 := Lib.hid (BT12.out.below hb (by omega))
  have B13 := Lib.hid (B12.out.trans (hb.mono (by omega)))
  have z13 : w12.heap.size ≤ w13.heap.size := kp13.size
  have ca13 : w13.cell? ⟨gt, 0, none⟩ = some (.slice A b.length c) := by rw [BT13.out.cell]; rfl
  have cb13 : w13.cell? ⟨gt, 1, none⟩ = some (.int .i64 max) := by rw [BT13.out.cell]; rfl
  have OW13 := Lib.hid (kp13.own OW12.out (fun q hq => ⟨by have := hq5 q hq; omega, fun hL => by have := hq5 q hq; have := hq7 q hL; omega⟩))
  have M13 := Lib.hid (kp13.own M12.out (fun q hq => ⟨by have := hq2 q hq; omega, fun hL => by have := hq2 q hq; have := hq7 q hL; omega⟩))
  have O213 := Lib.hid (kp13.own O212.out (fun q hq => ⟨by have := hq8 q hq; omega, fun hL => by have := hq8 q hq; have := hq7 q hL; omega⟩))
  have N13 := Lib.hid own13
  have BK13 : Hid (Bks w13 gb gb B13v O13v [⟨A2, OUT.length, c2, 1⟩, ⟨A7, OUT.length, c7, 2⟩] 0 2 0 (0 + (1200 + 3 * OUT.length) + (1200 + 3 * OUT.length))) := bks13
  clear hb kp13 own13 bks13 OW12 O112 O212 M12 BK12
  go_wp2_with fail
  refine (bytes_any gb gb w7.heap.size OUT.length c8 2 A8 B13v O13v [⟨A2, OUT.length, c2, 1⟩, ⟨A7, OUT.length, c7, 2⟩] (U OUT) 0 0 (0 + (1200 + 3 * OUT.length) + (1200 + 3 * OUT.length)) w13 BK13.out O213.out (by omega) (by omega) (by omega) (by simp) (fun e he hn h hA hq => by
    have h3 := hq8 h hq
    have he' : e = ⟨A2, OUT.length, c2, 1⟩ ∨ e = ⟨A7, OUT.length, c7, 2⟩ := by simpa using he
    rcases he' with rfl | rfl
    · have hA' : A2 = some ⟨h, 0, none⟩ := hA
      have h1 := hq2 h (by rw [hA']; rfl)
      omega
    · have hA' : A7 = some ⟨h, 0, none⟩ := hA
      have h1 := hq7 h (by rw [hA']; rfl)
      omega)).mono ?_
  rintro e w14 ⟨rfl, B14v, O14v, bks14, own14, kp14⟩
  have hb := kp14.below (S := gt + 1) (by omega) (fun q hq hL => by have := hq8 q hL; omega)
  have BT14 := Lib.hid (BT13.out.below hb (by omega))
  have B14 := Lib.hid (B13.out.trans (hb.mono (by omega)))
  have z14 : w13.heap.size ≤ w14.heap.size := kp14.size
  have ca14 : w14.cell? ⟨gt, 0, none⟩ = some (.slice A b.length c) := by rw [BT14.out.cell]; rfl
  have cb14 : w14.cell? ⟨gt, 1, none⟩ = some (.int .i64 max) := by rw [BT14.out.cell]; rfl
  have OW14 := Lib.hid (kp14.own OW13.out (fun q hq => ⟨by have := hq5 q hq; omega, fun hL => by have := hq5 q hq; have := hq8 q hL; omega⟩))
  have M14 := Lib.hid (kp14.own M13.out (fun q hq => ⟨by have := hq2 q hq; omega, fun hL => by have := hq2 q hq; have := hq8 q hL; omega⟩))
  have N14 := Lib.hid (kp14.own N13.out (fun q hq => ⟨by have := hq7 q hq; omega, fun hL => by have := hq7 q hq; have := hq8 q hL; omega⟩))
  have P14 := Lib.hid own14
  have BK14 : Hid (Bks w14 gb gb B14v O14v [⟨A2, OUT.length, c2, 1⟩, ⟨A7, OUT.length, c7, 2⟩, ⟨A8, OUT.length, c8, 3⟩] 0 3 0 (0 + (1200 + 3 * OUT.length) + (1200 + 3 * OUT.length) + (1200 + 3 * OUT.length))) := bks14
  clear hb kp14 own14 bks14 OW13 O213 M13 N13 BK13
  go_wp2_with fail
  refine (HR.out A b.length c w14 rfl (HS.out.below B14.out) hc (HE.out.below B14.out)).mono ?_
  rintro e w15 ⟨A15, c15, rfl, ho, hb⟩
  have BT15 := Lib.hid (BT14.out.below hb BT14.out.lt)
  have B15 := Lib.hid (B14.out.trans (hb.mono B14.out.size))
  have z15 : w14.heap.size ≤ w15.heap.size := hb.size
  have ca15 : w15.cell? ⟨gt, 0, none⟩ = some (.slice A b.length c) := by rw [BT15.out.cell]; rfl
  have cb15 : w15.cell? ⟨gt, 1, none⟩ = some (.int .i64 max) := by rw [BT15.out.cell]; rfl
  have OW15 := Lib.hid (own_below OW14.out hb)
  have M15 := Lib.hid (own_below M14.out hb)
  have N15 := Lib.hid (own_below N14.out hb)
  have P15 := Lib.hid (own_below P14.out hb)
  have BK15 := Lib.hid (BK14.out.below hb)
  have OA15 := Lib.hid ho
  clear ho hb OW14 M14 N14 P14 BK14
  go_wp2_with fail
  refine (num_any .i64 (E : Int) w15).mono ?_
  rintro e w15' ⟨rfl, rfl⟩
  go_wp2_with fail
  refine (eq_same A15 A5 OUT.length OUT.length c15 c5 OUT w15' rfl rfl (Sl.of_own OA15.out) (Sl.of_own OW15.out) hol).mono ?_
  rintro e w16 ⟨rfl, hb⟩
  have B16 := Lib.hid (B15.out.trans (hb.mono B15.out.size))
  have z16 : w15'.heap.size ≤ w16.heap.size := hb.size
  have M16 := Lib.hid (own_below M15.out hb)
  have N16 := Lib.hid (own_below N15.out hb)
  have P16 := Lib.hid (own_below P15.out hb)
  have BK16 := Lib.hid (BK15.out.below hb)
  clear hb OW15 M15 N15 P15 BK15
  have hLi : Lists w16 (fun q => (Value.slice A2 OUT.length c2).ownBlock = some q ∨ (Value.slice A7 OUT.length c7).ownBlock = some q ∨ (Value.slice A8 OUT.length c8).ownBlock = some q)
      [⟨A2, OUT.length, c2, 1⟩, ⟨A7, OUT.length, c7, 2⟩, ⟨A8, OUT.length, c8, 3⟩] := by
    refine ⟨by simp, fun e he => ?_, fun j e he => ?_, fun j e he q hq => ?_, fun i j e x hij he hx q hq hq' => ?_⟩
    · have he' : e = ⟨A2, OUT.length, c2, 1⟩ ∨ e = ⟨A7, OUT.length, c7, 2⟩ ∨ e = ⟨A8, OUT.length, c8, 3⟩ := by simpa using he
      rcases he' with rfl | rfl | rfl <;> exact ⟨by simp, by simp only; omega⟩
    · rcases j with _ | _ | _ | j
      · simp at he; subst he; exact own_base M16.out (Nat.zero_le _)
      · simp at he; subst he; exact own_base N16.out (Nat.zero_le _)
      · simp at he; subst he; exact own_base P16.out (Nat.zero_le _)
      · simp at he
    · rcases j with _ | _ | _ | j
      · simp at he; subst he; exact .inl hq
      · simp at he; subst he; exact .inr (.inl hq)
      · simp at he; subst he; exact .inr (.inr hq)
      · simp at he
    · rcases i with _ | _ | _ | i <;> rcases j with _ | _ | _ | j <;> simp at he hx <;> subst he <;> subst hx <;> first
        | (exact hij rfl)
        | (have h1 := hq2 q hq; have h2 := hq7 q hq'; omega)
        | (have h1 := hq2 q hq; have h2 := hq8 q hq'; omega)
        | (have h1 := hq7 q hq; have h2 := hq2 q hq'; omega)
        | (have h1 := hq7 q hq; have h2 := hq8 q hq'; omega)
        | (have h1 := hq8 q hq; have h2 := hq2 q hq'; omega)
        | (have h1 := hq8 q hq; have h2 := hq7 q hq'; omega)
  have HLI := Lib.hid hLi
  clear hLi
  go_wp2_with fail
  refine (look_any gb gb B14v O14v _ _ 3 _ w16 BK16.out (by omega) HLI.out (by omega)).mono ?_
  rintro e w17 ⟨rfl, hk⟩
  have HF := Lib.hid (B16.out.trans (hk.below (S := w.heap.size) (by omega) (fun q hq hL => by
    rcases hL with hL | hL | hL
    · have := hq2 q hL; omega
    · have := hq7 q hL; omega
    · have := hq8 q hL; omega)))
  clear hk
  go_wp2_with fail
  go_ret
  exact ⟨rfl, HF.out⟩
end Go.Proofs.YtejgoienkpaabaaDoor
