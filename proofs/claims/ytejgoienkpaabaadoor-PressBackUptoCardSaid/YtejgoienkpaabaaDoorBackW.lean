/- PressBack: the walk. (Printed by gen_back.py.) -/
import Derived.Test.YtejgoienkpaabaaDoorMg33
namespace Go.Proofs.YtejgoienkpaabaaDoor
open Go.RowKit
set_option maxRecDepth 100000
set_option maxHeartbeats 8000000 in
theorem back_any (A : Option Addr) (c : Nat) (b : List UInt8) (max : Int) (w : World) (h : Sl w A b) (hl : b.length ≤ 1048576) (he : ErrTab w) :
    Calls Tryd.prog 5 #[.agg #[.slice A b.length c, .int .i64 max]] w fun e w' => e = .returned (.bool true) ∧ Below w.heap.size w w' := by
  have HS := Lib.hid h
  have HE := Lib.hid he
  have HLIM : Hid (b.length ≤ Lim) := by unfold Hid Lim; omega
  clear h he
  by_cases hbig : 65536 < b.length
  · have hbd : decide ((65536 : Int) < (b.length : Int)) = true := decide_eq_true (by omega)
    go_enter Tryd.func5, Tryd.ntmps5
    go_wp2_with fail
    have BT0 := Lib.hid (Blk.new w 24 #[.slice A b.length c, .int .i64 max])
    have B0 := Lib.hid ((Below.refl w.heap.size w).alloc (Nat.le_refl _) (.cells #[.slice A b.length c, .int .i64 max] 24))
    have z0 : w.heap.size + 1 ≤ (w.alloc (.cells #[.slice A b.length c, .int .i64 max] 24)).heap.size := by simp
    obtain ⟨gt, hgt⟩ : ∃ gt, gt = w.heap.size := ⟨_, rfl⟩
    have hgt2 : gt ≤ w.heap.size := by omega
    have hgt3 : w.heap.size ≤ gt := by omega
    rw [← hgt] at BT0
    rw [← hgt]
    generalize w.alloc (.cells #[.slice A b.length c, .int .i64 max] 24) = w0 at *
    have ca0 : w0.cell? ⟨gt, 0, none⟩ = some (.slice A b.length c) := by rw [BT0.out.cell]; rfl
    have cb0 : w0.cell? ⟨gt, 1, none⟩ = some (.int .i64 max) := by rw [BT0.out.cell]; rfl
    clear hgt
    refine (lend_any A b.length c b w0 rfl (HS.out.below B0.out) HLIM.out).mono ?_
    rintro e w1 ⟨gi, ci, rfl, hci, hoi, hb⟩
    have BT1 := Lib.hid (BT0.out.below hb BT0.out.lt)
    have B1 := Lib.hid (B0.out.trans (hb.mono B0.out.size))
    have z1 : w0.heap.size ≤ w1.heap.size := hb.size
    have ca1 : w1.cell? ⟨gt, 0, none⟩ = some (.slice A b.length c) := by rw [BT1.out.cell]; rfl
    have cb1 : w1.cell? ⟨gt, 1, none⟩ = some (.int .i64 max) := by rw [BT1.out.cell]; rfl
    have OI_1 := Lib.hid hoi
    clear hb ca0 cb0 BT0
    go_wp2_with fail
    refine (press_big (some ⟨gi, 0, none⟩) b.length ci b w1 rfl (sl_pre OI_1.out) HLIM.out hbig).mono ?_
    rintro e w2 ⟨rfl, hb⟩
    have BT2 := Lib.hid (BT1.out.below hb BT1.out.lt)
    have B2 := Lib.hid (B1.out.trans (hb.mono B1.out.size))
    have z2 : w1.heap.size ≤ w2.heap.size := hb.size
    have ca2 : w2.cell? ⟨gt, 0, none⟩ = some (.slice A b.length c) := by rw [BT2.out.cell]; rfl
    have cb2 : w2.cell? ⟨gt, 1, none⟩ = some (.int .i64 max) := by rw [BT2.out.cell]; rfl
    have OI_2 := Lib.hid (own_below OI_1.out hb)
    clear hb OI_1 ca1 cb1 BT1
    go_wp2_with fail
    refine (intact_any gi ci b.length b.length c A b _ w2 rfl rfl hci OI_2.out (HS.out.below B2.out) HLIM.out).mono ?_
    rintro e w2' ⟨rfl, rfl⟩
    skip
    go_wp2_with fail
    refine (right_any w2' (HE.out.below B2.out)).mono ?_
    rintro e w3 ⟨rfl, hb⟩
    have BT3 := Lib.hid (BT2.out.below hb BT2.out.lt)
    have B3 := Lib.hid (B2.out.trans (hb.mono B2.out.size))
    have z3 : w2'.heap.size ≤ w3.heap.size := hb.size
    have ca3 : w3.cell? ⟨gt, 0, none⟩ = some (.slice A b.length c) := by rw [BT3.out.cell]; rfl
    have cb3 : w3.cell? ⟨gt, 1, none⟩ = some (.int .i64 max) := by rw [BT3.out.cell]; rfl
    have OI_3 := Lib.hid (own_below OI_2.out hb)
    clear hb OI_2 ca2 cb2 BT2
    go_wp2_with fail
    refine (num_any .i64 81 w3).mono ?_
    rintro e w3' ⟨rfl, rfl⟩
    skip
    go_wp2_with fail
    go_ret
    exact ⟨rfl, B3.out⟩
  · have hsm : b.length ≤ 65536 := by omega
    have hbd : decide ((65536 : Int) < (b.length : Int)) = false := decide_eq_false (by omega)
    have HPR := Lib.hid (fun (A' : Option Addr) (n' c' : Nat) (w' : World) (hn : b.length = n') (hs : Sl w' A' b) => press_own A' n' c' b w' hn hs hsm)
    unfold PrPost at HPR
    generalize pressP b = P at HPR
    go_enter Tryd.func5, Tryd.ntmps5
    go_wp2_with fail
    have BT0 := Lib.hid (Blk.new w 24 #[.slice A b.length c, .int .i64 max])
    have B0 := Lib.hid ((Below.refl w.heap.size w).alloc (Nat.le_refl _) (.cells #[.slice A b.length c, .int .i64 max] 24))
    have z0 : w.heap.size + 1 ≤ (w.alloc (.cells #[.slice A b.length c, .int .i64 max] 24)).heap.size := by simp
    obtain ⟨gt, hgt⟩ : ∃ gt, gt = w.heap.size := ⟨_, rfl⟩
    have hgt2 : gt ≤ w.heap.size := by omega
    have hgt3 : w.heap.size ≤ gt := by omega
    rw [← hgt] at BT0
    rw [← hgt]
    generalize w.alloc (.cells #[.slice A b.length c, .int .i64 max] 24) = w0 at *
    have ca0 : w0.cell? ⟨gt, 0, none⟩ = some (.slice A b.length c) := by rw [BT0.out.cell]; rfl
    have cb0 : w0.cell? ⟨gt, 1, none⟩ = some (.int .i64 max) := by rw [BT0.out.cell]; rfl
    clear hgt
    refine (lend_any A b.length c b w0 rfl (HS.out.below B0.out) HLIM.out).mono ?_
    rintro e w1 ⟨gi, ci, rfl, hci, hoi, hb⟩
    have BT1 := Lib.hid (BT0.out.below hb BT0.out.lt)
    have B1 := Lib.hid (B0.out.trans (hb.mono B0.out.size))
    have z1 : w0.heap.size ≤ w1.heap.size := hb.size
    have ca1 : w1.cell? ⟨gt, 0, none⟩ = some (.slice A b.length c) := by rw [BT1.out.cell]; rfl
    have cb1 : w1.cell? ⟨gt, 1, none⟩ = some (.int .i64 max) := by rw [BT1.out.cell]; rfl
    have OI_1 := Lib.hid hoi
    clear hb ca0 cb0 BT0
    go_wp2_with fail
    refine (HPR.out (some ⟨gi, 0, none⟩) b.length ci w1 rfl (sl_pre OI_1.out)).mono ?_
    rintro e w2 ⟨A2, c2, rfl, ho, hb, hgood⟩
    have BT2 := Lib.hid (BT1.out.below hb BT1.out.lt)
    have B2 := Lib.hid (B1.out.trans (hb.mono B1.out.size))
    have z2 : w1.heap.size ≤ w2.heap.size := hb.size
    have ca2 : w2.cell? ⟨gt, 0, none⟩ = some (.slice A b.length c) := by rw [BT2.out.cell]; rfl
    have cb2 : w2.cell? ⟨gt, 1, none⟩ = some (.int .i64 max) := by rw [BT2.out.cell]; rfl
    have OI_2 := Lib.hid (own_below OI_1.out hb)
    have OP_2 := Lib.hid ho
    clear hb OI_1 ca1 cb1 BT1
    have HG := Lib.hid hgood
    have hpl := hgood.len
    have hPL : P.length ≤ Lim := by unfold Lim; omega
    have hq2 : ∀ q, (Value.slice A2 P.length c2).ownBlock = some q → w1.heap.size ≤ q ∧ q < w2.heap.size := own_lt ho
    have HQ2 := Lib.hid hq2
    clear hgood hq2
    go_wp2_with fail
    refine (intact_any gi ci b.length b.length c A b _ w2 rfl rfl hci OI_2.out (HS.out.below B2.out) HLIM.out).mono ?_
    rintro e w2' ⟨rfl, rfl⟩
    skip
    clear OI_2
    go_wp2_with fail
    refine (right_any w2' (HE.out.below B2.out)).mono ?_
    rintro e w3 ⟨rfl, hb⟩
    have BT3 := Lib.hid (BT2.out.below hb BT2.out.lt)
    have B3 := Lib.hid (B2.out.trans (hb.mono B2.out.size))
    have z3 : w2'.heap.size ≤ w3.heap.size := hb.size
    have ca3 : w3.cell? ⟨gt, 0, none⟩ = some (.slice A b.length c) := by rw [BT3.out.cell]; rfl
    have cb3 : w3.cell? ⟨gt, 1, none⟩ = some (.int .i64 max) := by rw [BT3.out.cell]; rfl
    have OP_3 := Lib.hid (own_below OP_2.out hb)
    clear hb OP_2 ca2 cb2 BT2
    go_wp2_with fail
    refine (HPR.out A b.length c w3 rfl (HS.out.below B3.out)).mono ?_
    rintro e w4 ⟨A4, c4, rfl, ho, hb, _⟩
    have BT4 := Lib.hid (BT3.out.below hb BT3.out.lt)
    have B4 := Lib.hid (B3.out.trans (hb.mono B3.out.size))
    have z4 : w3.heap.size ≤ w4.heap.size := hb.size
    have ca4 : w4.cell? ⟨gt, 0, none⟩ = some (.slice A b.length c) := by rw [BT4.out.cell]; rfl
    have cb4 : w4.cell? ⟨gt, 1, none⟩ = some (.int .i64 max) := by rw [BT4.out.cell]; rfl
    have OP_4 := Lib.hid (own_below OP_3.out hb)
    have OQ_4 := Lib.hid ho
    clear hb OP_3 ca3 cb3 BT3
    have HQ4 : Hid (∀ q, (Value.slice A4 P.length c4).ownBlock = some q → w3.heap.size ≤ q ∧ q < w4.heap.size) := own_lt ho
    go_wp2_with fail
    refine (num_any .i64 0 w4).mono ?_
    rintro e w4' ⟨rfl, rfl⟩
    skip
    go_wp2_with fail
    refine (num_any .i64 0 w4').mono ?_
    rintro e w4'' ⟨rfl, rfl⟩
    skip
    go_wp2_with fail
    refine (eq_same A2 A4 P.length P.length c2 c4 P w4'' rfl rfl (Sl.of_own OP_4.out) (Sl.of_own OQ_4.out) hPL).mono ?_
    rintro e w5 ⟨rfl, hb⟩
    have BT5 := Lib.hid (BT4.out.below hb BT4.out.lt)
    have B5 := Lib.hid (B4.out.trans (hb.mono B4.out.size))
    have z5 : w4''.heap.size ≤ w5.heap.size := hb.size
    have ca5 : w5.cell? ⟨gt, 0, none⟩ = some (.slice A b.length c) := by rw [BT5.out.cell]; rfl
    have cb5 : w5.cell? ⟨gt, 1, none⟩ = some (.int .i64 max) := by rw [BT5.out.cell]; rfl
    have OP_5 := Lib.hid (own_below OP_4.out hb)
    have OQ_5 := Lib.hid (own_below OQ_4.out hb)
    clear hb OP_4 OQ_4 ca4 cb4 BT4
    have hgt : decide ((b.length : Int) + 8 < (P.length : Int)) = false := decide_eq_false (by omega)
    have HU := Lib.hid (unp_own A2 P.length c2 P b.length w5 rfl (Sl.of_own OP_5.out) (own_cap OP_5.out) hPL (HE.out.below B5.out) (by omega))
    rw [HG.out.back b.length (Int.le_refl _)] at HU
    simp only at HU
    go_wp2_with fail
    refine HU.out.mono ?_
    rintro e w6 ⟨A6, c6, rfl, ho, hb⟩
    have BT6 := Lib.hid (BT5.out.below hb BT5.out.lt)
    have B6 := Lib.hid (B5.out.trans (hb.mono B5.out.size))
    have z6 : w5.heap.size ≤ w6.heap.size := hb.size
    have ca6 : w6.cell? ⟨gt, 0, none⟩ = some (.slice A b.length c) := by rw [BT6.out.cell]; rfl
    have cb6 : w6.cell? ⟨gt, 1, none⟩ = some (.int .i64 max) := by rw [BT6.out.cell]; rfl
    have OP_6 := Lib.hid (own_below OP_5.out hb)
    have OQ_6 := Lib.hid (own_below OQ_5.out hb)
    have OA_6 := Lib.hid ho
    clear hb OP_5 OQ_5 ca5 cb5 BT5
    clear HU
    have HR := Lib.hid (runp_own A2 P.length c2 P 65536 w6 rfl (Sl.of_own OP_6.out) (own_cap OP_6.out) hPL (by omega))
    rw [HG.out.back 65536 (by omega)] at HR
    simp only at HR
    go_wp2_with fail
    refine HR.out.mono ?_
    rintro e w7 ⟨A7, c7, rfl, ho, hb⟩
    have BT7 := Lib.hid (BT6.out.below hb BT6.out.lt)
    have B7 := Lib.hid (B6.out.trans (hb.mono B6.out.size))
    have z7 : w6.heap.size ≤ w7.heap.size := hb.size
    have ca7 : w7.cell? ⟨gt, 0, none⟩ = some (.slice A b.length c) := by rw [BT7.out.cell]; rfl
    have cb7 : w7.cell? ⟨gt, 1, none⟩ = some (.int .i64 max) := by rw [BT7.out.cell]; rfl
    have OP_7 := Lib.hid (own_below OP_6.out hb)
    have OQ_7 := Lib.hid (own_below OQ_6.out hb)
    have OA_7 := Lib.hid (own_below OA_6.out hb)
    have OB_7 := Lib.hid ho
    clear hb OP_6 OQ_6 OA_6 ca6 cb6 BT6
    clear HR
    go_wp2_with fail
    refine (num_any .i64 0 w7).mono ?_
    rintro e w7' ⟨rfl, rfl⟩
    skip
    go_wp2_with fail
    refine (eq_same A6 A b.length b.length c6 c b w7' rfl rfl (Sl.of_own OA_7.out) (HS.out.below B7.out) HLIM.out).mono ?_
    rintro e w8 ⟨rfl, hb⟩
    have BT8 := Lib.hid (BT7.out.below hb BT7.out.lt)
    have B8 := Lib.hid (B7.out.trans (hb.mono B7.out.size))
    have z8 : w7'.heap.size ≤ w8.heap.size := hb.size
    have ca8 : w8.cell? ⟨gt, 0, none⟩ = some (.slice A b.length c) := by rw [BT8.out.cell]; rfl
    have cb8 : w8.cell? ⟨gt, 1, none⟩ = some (.int .i64 max) := by rw [BT8.out.cell]; rfl
    have OP_8 := Lib.hid (own_below OP_7.out hb)
    have OQ_8 := Lib.hid (own_below OQ_7.out hb)
    have OA_8 := Lib.hid (own_below OA_7.out hb)
    have OB_8 := Lib.hid (own_below OB_7.out hb)
    clear hb OP_7 OQ_7 OA_7 OB_7 ca7 cb7 BT7
    go_wp2_with fail
    refine (eq_same A7 A b.length b.length c7 c b w8 rfl rfl (Sl.of_own OB_8.out) (HS.out.below B8.out) HLIM.out).mono ?_
    rintro e w9 ⟨rfl, hb⟩
    have BT9 := Lib.hid (BT8.out.below hb BT8.out.lt)
    have B9 := Lib.hid (B8.out.trans (hb.mono B8.out.size))
    have z9 : w8.heap.size ≤ w9.heap.size := hb.size
    have ca9 : w9.cell? ⟨gt, 0, none⟩ = some (.slice A b.length c) := by rw [BT9.out.cell]; rfl
    have cb9 : w9.cell? ⟨gt, 1, none⟩ = some (.int .i64 max) := by rw [BT9.out.cell]; rfl
    have OP_9 := Lib.hid (own_below OP_8.out hb)
    have OQ_9 := Lib.hid (own_below OQ_8.out hb)
    have OA_9 := Lib.hid (own_below OA_8.out hb)
    have OB_9 := Lib.hid (own_below OB_8.out hb)
    clear hb OP_8 OQ_8 OA_8 OB_8 ca8 cb8 BT8
    clear OA_9 OB_9
    have HU := Lib.hid (unp_own A2 P.length c2 P ((b.length : Int) - 1) w9 rfl (Sl.of_own OP_9.out) (own_cap OP_9.out) hPL (HE.out.below B9.out) (by omega))
    rw [HG.out.small ((b.length : Int) - 1) (by omega)] at HU
    simp only at HU
    go_wp2_with fail
    refine HU.out.mono ?_
    rintro e w10 ⟨A10, c10, rfl, ho, hb⟩
    have BT10 := Lib.hid (BT9.out.below hb BT9.out.lt)
    have B10 := Lib.hid (B9.out.trans (hb.mono B9.out.size))
    have z10 : w9.heap.size ≤ w10.heap.size := hb.size
    have ca10 : w10.cell? ⟨gt, 0, none⟩ = some (.slice A b.length c) := by rw [BT10.out.cell]; rfl
    have cb10 : w10.cell? ⟨gt, 1, none⟩ = some (.int .i64 max) := by rw [BT10.out.cell]; rfl
    have OP_10 := Lib.hid (own_below OP_9.out hb)
    have OQ_10 := Lib.hid (own_below OQ_9.out hb)
    clear hb OP_9 OQ_9 ca9 cb9 BT9
    clear HU ho
    go_wp2_with fail
    refine (num_any .i64 81 w10).mono ?_
    rintro e w10' ⟨rfl, rfl⟩
    skip
    go_wp2_with fail
    refine wp_build48 rfl ?_
    go_wp2_with fail
    have bk0 := Bks.start w10'
    have zb : w10'.heap.size < (w10'.alloc (.cells (bk (.slice none 0 0) (.slice none 0 0) 0 0 0 0) 48)).heap.size := by simp
    have BT11 := Lib.hid (BT10.out.alloc (.cells (bk (.slice none 0 0) (.slice none 0 0) 0 0 0 0) 48))
    have B11 := Lib.hid (B10.out.alloc B10.out.size (.cells (bk (.slice none 0 0) (.slice none 0 0) 0 0 0 0) 48))
    have OP_11 := Lib.hid (OP_10.out.alloc (.cells (bk (.slice none 0 0) (.slice none 0 0) 0 0 0 0) 48))
    have OQ_11 := Lib.hid (OQ_10.out.alloc (.cells (bk (.slice none 0 0) (.slice none 0 0) 0 0 0 0) 48))
    obtain ⟨gb, hgb⟩ : ∃ gb, gb = w10'.heap.size := ⟨_, rfl⟩
    have hgb2 : gb ≤ w10'.heap.size := by omega
    have hgb3 : w10'.heap.size ≤ gb := by omega
    rw [← hgb] at bk0
    rw [← hgb]
    have BK0 := Lib.hid bk0
    clear hgb bk0 OP_10 OQ_10 ca10 cb10 BT10
    generalize w10'.alloc (.cells (bk (.slice none 0 0) (.slice none 0 0) 0 0 0 0) 48) = w11 at *
    have ca11 : w11.cell? ⟨gt, 0, none⟩ = some (.slice A b.length c) := by rw [BT11.out.cell]; rfl
    have hq2 := HQ2.out
    have hq4 := HQ4.out
    refine (bytes_any gb gb w1.heap.size P.length c2 0 A2 (.slice none 0 0) (.slice none 0 0) [] (U P) 0 0 0 w11 BK0.out OP_11.out (by omega) (by omega) (by omega) (by simp) (fun e he => by cases he)).mono ?_
    rintro e w12 ⟨rfl, B12v, O12v, bks12, own12, kp12⟩
    have hb := kp12.below (S := gt + 1) (by omega) (fun q hq hL => by have := hq2 q hL; omega)
    have B12 := Lib.hid (B11.out.trans (hb.mono (by omega)))
    have z12 : w11.heap.size ≤ w12.heap.size := kp12.size
    have OQ_12 := Lib.hid (kp12.own OQ_11.out (fun q hq => ⟨by have := hq4 q hq; omega, fun hL => by have := hq4 q hq; have := hq2 q hL; omega⟩))
    have M12 := Lib.hid own12
    have BK12 : Hid (Bks w12 gb gb B12v O12v [⟨A2, P.length, c2, 1⟩] 0 1 0 (0 + (1200 + 3 * P.length))) := bks12
    clear hb kp12 own12 bks12 OP_11 OQ_11 BK0 hq2 hq4
    go_wp2_with fail
    have hq2 := HQ2.out
    have hq4 := HQ4.out
    refine (bytes_any gb gb w3.heap.size P.length c4 1 A4 B12v O12v [⟨A2, P.length, c2, 1⟩] (U P) 0 0 (0 + (1200 + 3 * P.length)) w12 BK12.out OQ_12.out (by omega) (by omega) (by omega) (by simp) (fun e he hn h hA hq => by
      obtain rfl : e = ⟨A2, P.length, c2, 1⟩ := by simpa using he
      have hA' : A2 = some ⟨h, 0, none⟩ := hA
      have h1 := hq2 h (by rw [hA']; rfl)
      have h2 := hq4 h hq
      omega)).mono ?_
    rintro e w13 ⟨rfl, B13v, O13v, bks13, own13, kp13⟩
    have hb := kp13.below (S := gt + 1) (by omega) (fun q hq hL => by have := hq4 q hL; omega)
    have B13 := Lib.hid (B12.out.trans (hb.mono (by omega)))
    have z13 : w12.heap.size ≤ w13.heap.size := kp13.size
    have M13 := Lib.hid (kp13.own M12.out (fun q hq => ⟨by have := hq2 q hq; omega, fun hL => by have := hq2 q hq; have := hq4 q hL; omega⟩))
    have N13 := Lib.hid own13
    have BK13 : Hid (Bks w13 gb gb B13v O13v [⟨A2, P.length, c2, 1⟩, ⟨A4, P.length, c4, 2⟩] 0 2 0 (0 + (1200 + 3 * P.length) + (1200 + 3 * P.length))) := bks13
    clear hb kp13 own13 bks13 OQ_12 M12 BK12
    have hLi : Lists w13 (fun q => (Value.slice A2 P.length c2).ownBlock = some q ∨ (Value.slice A4 P.length c4).ownBlock = some q)
        [⟨A2, P.length, c2, 1⟩, ⟨A4, P.length, c4, 2⟩] := by
      refine ⟨by simp, fun e he => ?_, fun j e he => ?_, fun j e he q hq => ?_, fun i j e x hij he hx q hq hq' => ?_⟩
      · have he' : e = ⟨A2, P.length, c2, 1⟩ ∨ e = ⟨A4, P.length, c4, 2⟩ := by simpa using he
        rcases he' with rfl | rfl <;> exact ⟨by simp, by simp only; omega⟩
      · rcases j with _ | _ | j
        · simp at he; subst he; exact own_base M13.out (Nat.zero_le _)
        · simp at he; subst he; exact own_base N13.out (Nat.zero_le _)
        · simp at he
      · rcases j with _ | _ | j
        · simp at he; subst he; exact .inl hq
        · simp at he; subst he; exact .inr hq
        · simp at he
      · rcases i with _ | _ | i <;> rcases j with _ | _ | j <;> simp at he hx <;> subst he <;> subst hx <;> first
          | (exact hij rfl)
          | (have h1 := hq2 q hq; have h2 := hq4 q hq'; omega)
          | (have h1 := hq4 q hq; have h2 := hq2 q hq'; omega)
    have HLI := Lib.hid hLi
    clear hLi hq2 hq4
    go_wp2_with fail
    refine (look_any gb gb B13v O13v _ _ 2 _ w13 BK13.out (by omega) HLI.out (by omega)).mono ?_
    rintro e w17 ⟨rfl, hk⟩
    have HF := Lib.hid (B13.out.trans (hk.below (S := w.heap.size) (by omega) (fun q hq hL => by
      rcases hL with hL | hL
      · have := HQ2.out q hL; omega
      · have := HQ4.out q hL; omega)))
    clear hk
    go_wp2_with fail
    go_ret
    exact ⟨rfl, HF.out⟩
end Go.Proofs.YtejgoienkpaabaaDoor
