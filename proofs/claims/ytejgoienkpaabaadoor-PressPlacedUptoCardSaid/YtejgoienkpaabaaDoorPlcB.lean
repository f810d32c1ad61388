/- PressPlaced: the walk. (Printed by gen_placed.py.) -/
import Derived.Test.YtejgoienkpaabaaDoorPlcA
namespace Go.Proofs.YtejgoienkpaabaaDoor
open Go.RowKit
set_option maxRecDepth 100000
set_option maxHeartbeats 16000000 in
theorem placed_big (A : Option Addr) (c : Nat) (b : List UInt8) (max : Int) (w : World) (h : Sl w A b) (hc : b.length ≤ c) (hl : b.length ≤ 1048576) (he : ErrTab w) (hmx : max ≤ 9223372036854775807) (hbig : 65536 < b.length) :
    Calls Tryd.prog 4 #[.agg #[.slice A b.length c, .int .i64 max]] w fun e w' => e = .returned (.bool true) ∧ Below w.heap.size w w' := by
  have HS := Lib.hid h
  have HE := Lib.hid he
  have HLIM : Hid (b.length ≤ Lim) := by unfold Hid Lim; omega
  obtain ⟨O1, E1, hu1⟩ : ∃ O1 E1, unpP b max = (O1, E1) := ⟨_, _, rfl⟩
  have hu1l : O1.length ≤ 65536 ∧ E1 ≤ 81 := by have := unp_len b max; rw [hu1] at this; exact ⟨this.1, this.2.2⟩
  have HU1 := Lib.hid hu1
  have hO1 : O1.length ≤ Lim := by unfold Lim; omega
  obtain ⟨bt, hbt⟩ : ∃ bt, bt = b.take 65536 := ⟨_, rfl⟩
  have hbtl : bt.length = 65536 := by rw [hbt, List.length_take]; omega
  have HBD := Lib.hid hbt
  have HBT := Lib.hid hbtl
  have hbl : bt.length ≤ Lim := by unfold Lim; omega
  have hbs : bt.length ≤ 65536 := by omega
  have hbd : decide ((65536 : Int) < (b.length : Int)) = true := decide_eq_true (by omega)
  clear h he hu1 hbt hbtl
  go_enter Tryd.func4, Tryd.ntmps4
  go_wp2_with fail
  have BT0 := Lib.hid (Blk.new w 24 #[.slice A b.length c, .int .i64 max])
  have B0 := Lib.hid ((Below.refl w.heap.size w).alloc (Nat.le_refl _) (.cells #[.slice A b.length c, .int .i64 max] 24))
  have z0 : w.heap.size + 1 ≤ (w.alloc (.cells #[.slice A b.length c, .int .i64 max] 24)).heap.size := by simp
  obtain ⟨gt, hgt⟩ : ∃ gt, gt = w.heap.size := ⟨_, rfl⟩
  have hgt2 : gt ≤ w.heap.size := by omega
  have hgt3 : w.heap.size ≤ gt := by omega
  rw [← hgt] at BT0
  rw [← hgt]
  generalize w.alloc (.cells #[.slice A b.length c, .int .i64 max] 24) = w0 at *
  have ca0 : w0.cell? ⟨gt, 0, none⟩ = some (.slice A b.length c) := by rw [BT0.out.cell]; rfl
  have cb0 : w0.cell? ⟨gt, 1, none⟩ = some (.int .i64 max) := by rw [BT0.out.cell]; rfl
  clear hgt
  refine (copy_any A b.length c b w0 rfl (HS.out.below B0.out) HLIM.out).mono ?_
  rintro e w1 ⟨rfl, ho, hb⟩
  have BT1 := Lib.hid (BT0.out.below hb BT0.out.lt)
  have B1 := Lib.hid (B0.out.trans (hb.mono B0.out.size))
  have z1 : w0.heap.size ≤ w1.heap.size := hb.size
  have ca1 : w1.cell? ⟨gt, 0, none⟩ = some (.slice A b.length c) := by rw [BT1.out.cell]; rfl
  have cb1 : w1.cell? ⟨gt, 1, none⟩ = some (.int .i64 max) := by rw [BT1.out.cell]; rfl
  have X_1 := Lib.hid ho
  clear hb ca0 cb0 BT0
  obtain ⟨g1, hg1⟩ : ∃ g1, g1 = w0.heap.size := ⟨_, rfl⟩
  have hg1a : w0.heap.size ≤ g1 := by omega
  have hg1b : g1 < w1.heap.size := by rw [hg1]; exact (own_lt X_1.out _ rfl).2
  rw [← hg1] at X_1 ⊢
  clear hg1
  go_wp2_with fail
  refine (copy_any (some ⟨g1, 0, none⟩) 65536 b.length bt w1 HBT.out (by rw [HBD.out]; exact (Sl.of_own X_1.out).take 65536) hbl).mono ?_
  rintro e w2 ⟨rfl, ho, hb⟩
  have BT2 := Lib.hid (BT1.out.below hb BT1.out.lt)
  have B2 := Lib.hid (B1.out.trans (hb.mono B1.out.size))
  have z2 : w1.heap.size ≤ w2.heap.size := hb.size
  have ca2 : w2.cell? ⟨gt, 0, none⟩ = some (.slice A b.length c) := by rw [BT2.out.cell]; rfl
  have cb2 : w2.cell? ⟨gt, 1, none⟩ = some (.int .i64 max) := by rw [BT2.out.cell]; rfl
  have X_2 := Lib.hid (own_below X_1.out hb)
  have Y_2 := Lib.hid ho
  clear hb X_1 ca1 cb1 BT1
  obtain ⟨g2, hg2⟩ : ∃ g2, g2 = w1.heap.size := ⟨_, rfl⟩
  have hg2a : w1.heap.size ≤ g2 := by omega
  have hg2b : g2 < w2.heap.size := by rw [hg2]; exact (own_lt Y_2.out _ rfl).2
  rw [← hg2] at Y_2 ⊢
  clear hg2
  go_wp2_with fail
  refine (press_own (some ⟨g1, 0, none⟩) 65536 b.length bt w2 HBT.out (by rw [HBD.out]; exact (Sl.of_own X_2.out).take 65536) hbs).mono ?_
  rintro e w3 ⟨A3, c3, rfl, ho, hb, hgood⟩
  have BT3 := Lib.hid (BT2.out.below hb BT2.out.lt)
  have B3 := Lib.hid (B2.out.trans (hb.mono B2.out.size))
  have z3 : w2.heap.size ≤ w3.heap.size := hb.size
  have ca3 : w3.cell? ⟨gt, 0, none⟩ = some (.slice A b.length c) := by rw [BT3.out.cell]; rfl
  have cb3 : w3.cell? ⟨gt, 1, none⟩ = some (.int .i64 max) := by rw [BT3.out.cell]; rfl
  have X_3 := Lib.hid (own_below X_2.out hb)
  have Y_3 := Lib.hid (own_below Y_2.out hb)
  have P_3 := Lib.hid ho
  clear hb X_2 Y_2 ca2 cb2 BT2
  have hq3 : ∀ q, (Value.slice A3 (pressP bt).length c3).ownBlock = some q → w2.heap.size ≤ q ∧ q < w3.heap.size := own_lt P_3.out
  have HG := Lib.hid hgood
  have hpl := hgood.len
  generalize pressP bt = P at *
  have hPL : P.length ≤ Lim := by unfold Lim; omega
  have HQ3 := Lib.hid hq3
  clear hgood hq3
  go_wp2_with fail
  go_loopw [7] (fun vi wr => XfRel w3 g1 65536 b.length g1 vi wr) (fun vi _ => 65536 - (intOf vi).toNat)
  case atStart => exact ⟨0, by omega, rfl, ⟨_, rfl, X_3.out⟩, gb_refl _ _⟩
  case round =>
  obtain ⟨i, hi, rfl, HL, HGB⟩ := hrel
  by_cases hlt : i < 65536
  · have hltd : decide ((i : Int) < 65536) = true := decide_eq_true (by omega)
    obtain ⟨l, hll, hlo⟩ := HL.out
    have hcu := own_u8 hlo hll (i := i) (by omega)
    have hfu : wr.frozen? ⟨g1, i, none⟩ = false := by obtain ⟨_, _, hf, _⟩ := own_cell hlo (show i < b.length by omega); exact hf
    have hx8 : (l.getD i 0).toNat < 256 := UInt8.toNat_lt _
    generalize (l.getD i 0).toNat = x at *
    obtain ⟨y, hy⟩ : ∃ y, y = x ^^^ 85 := ⟨_, rfl⟩
    have hxo := xor_u8 85 (.inl rfl) x hx8
    rw [← hy] at hxo
    have exo : Go.bits .xor .u8 (x : Int) 85 = (y : Int) := hxo.1
    have HSET := Lib.hid (XfRel.set hlt hll hlo HGB.out hxo.2)
    clear hy hxo hll hlo HL
    go_wp2_with fail
    go_roundw
    case rel => exact HSET.out
    case measure => simp [intOf]; omega
  have hltd : decide ((i : Int) < (65536 : Int)) = false := decide_eq_false (by omega)
  obtain ⟨w4, hw4⟩ : ∃ z, z = wr := ⟨_, rfl⟩
  subst hw4
  have BT4 := Lib.hid (BT3.out.gb HGB.out (by intro e; injection e; omega))
  have B4 := Lib.hid (B3.out.trans (below_of_gb_some HGB.out (by omega) B3.out.size))
  have z4 : w3.heap.size ≤ w4.heap.size := HGB.out.size
  have ca4 : w4.cell? ⟨gt, 0, none⟩ = some (.slice A b.length c) := by rw [BT4.out.cell]; rfl
  have cb4 : w4.cell? ⟨gt, 1, none⟩ = some (.int .i64 max) := by rw [BT4.out.cell]; rfl
  have Y_4 := Lib.hid (Y_3.out.kept HGB.out (.inr (by intro e; have e2 : g2 = g1 := (by simpa [Value.ownBlock] using e); omega)))
  have P_4 := Lib.hid (P_3.out.kept HGB.out (.inr (by intro e; have := HQ3.out _ e; omega)))
  obtain ⟨l, hll, hlo⟩ := HL.out
  have X_4 := Lib.hid hlo
  have HLL := Lib.hid hll
  clear hlo hll HL HGB X_3 Y_3 P_3 ca3 cb3 BT3
  have hll := HLL.out
  obtain ⟨bn, hbn⟩ : ∃ bn, bn = l.take 65536 := ⟨_, rfl⟩
  have hbnl : bn.length = 65536 := by rw [hbn, List.length_take, hll]; omega
  have HBN := Lib.hid hbn
  have HBNL := Lib.hid hbnl
  have hbns : bn.length ≤ 65536 := by omega
  have hbnm : bn.length ≤ Lim := by unfold Lim; omega
  clear hll hbn hbnl
  go_wp2_with fail
  refine (copy_any (some ⟨g1, 0, none⟩) 65536 b.length bn w4 HBNL.out (by rw [HBN.out]; exact (Sl.of_own X_4.out).take 65536) hbnm).mono ?_
  rintro e w5 ⟨rfl, ho, hb⟩
  have BT5 := Lib.hid (BT4.out.below hb BT4.out.lt)
  have B5 := Lib.hid (B4.out.trans (hb.mono B4.out.size))
  have z5 : w4.heap.size ≤ w5.heap.size := hb.size
  have ca5 : w5.cell? ⟨gt, 0, none⟩ = some (.slice A b.length c) := by rw [BT5.out.cell]; rfl
  have cb5 : w5.cell? ⟨gt, 1, none⟩ = some (.int .i64 max) := by rw [BT5.out.cell]; rfl
  have X_5 := Lib.hid (own_below X_4.out hb)
  have Y_5 := Lib.hid (own_below Y_4.out hb)
  have P_5 := Lib.hid (own_below P_4.out hb)
  have N_5 := Lib.hid ho
  clear hb X_4 Y_4 P_4 ca4 cb4 BT4
  clear hi hlt hltd
  obtain ⟨g5, hg5⟩ : ∃ g5, g5 = w4.heap.size := ⟨_, rfl⟩
  rw [← hg5] at N_5 ⊢
  clear hg5
  go_wp2_with fail
  refine (press_own (some ⟨g1, 0, none⟩) 65536 b.length bn w5 HBNL.out (by rw [HBN.out]; exact (Sl.of_own X_5.out).take 65536) hbns).mono ?_
  rintro e w6 ⟨A6, c6, rfl, ho, hb, hgood⟩
  have BT6 := Lib.hid (BT5.out.below hb BT5.out.lt)
  have B6 := Lib.hid (B5.out.trans (hb.mono B5.out.size))
  have z6 : w5.heap.size ≤ w6.heap.size := hb.size
  have ca6 : w6.cell? ⟨gt, 0, none⟩ = some (.slice A b.length c) := by rw [BT6.out.cell]; rfl
  have cb6 : w6.cell? ⟨gt, 1, none⟩ = some (.int .i64 max) := by rw [BT6.out.cell]; rfl
  have X_6 := Lib.hid (own_below X_5.out hb)
  have Y_6 := Lib.hid (own_below Y_5.out hb)
  have P_6 := Lib.hid (own_below P_5.out hb)
  have N_6 := Lib.hid (own_below N_5.out hb)
  have Q_6 := Lib.hid ho
  clear hb X_5 Y_5 P_5 N_5 ca5 cb5 BT5
  have HG6 := Lib.hid hgood
  have hql := hgood.len
  generalize pressP bn = Q at *
  have hQL : Q.length ≤ Lim := by unfold Lim; omega
  clear hgood
  clear X_6
  go_wp2_with fail
  refine (num_any .i64 0 w6).mono ?_
  rintro e w6' ⟨rfl, rfl⟩
  skip
  go_wp2_with fail
  refine (num_any .i64 0 w6').mono ?_
  rintro e w6'' ⟨rfl, rfl⟩
  skip
  go_wp2_with fail
  refine (right_any w6'' (HE.out.below B6.out)).mono ?_
  rintro e w7 ⟨rfl, hb⟩
  have BT7 := Lib.hid (BT6.out.below hb BT6.out.lt)
  have B7 := Lib.hid (B6.out.trans (hb.mono B6.out.size))
  have z7 : w6''.heap.size ≤ w7.heap.size := hb.size
  have ca7 : w7.cell? ⟨gt, 0, none⟩ = some (.slice A b.length c) := by rw [BT7.out.cell]; rfl
  have cb7 : w7.cell? ⟨gt, 1, none⟩ = some (.int .i64 max) := by rw [BT7.out.cell]; rfl
  have Y_7 := Lib.hid (own_below Y_6.out hb)
  have P_7 := Lib.hid (own_below P_6.out hb)
  have N_7 := Lib.hid (own_below N_6.out hb)
  have Q_7 := Lib.hid (own_below Q_6.out hb)
  clear hb Y_6 P_6 N_6 Q_6 ca6 cb6 BT6
  go_wp2_with fail
  refine (runp_ok A3 P.length c3 65536 0 P bt 65536 w7 rfl (Sl.of_own P_7.out) (own_cap P_7.out) hPL (by omega) (HG.out.back _ (by rw [HBT.out]; exact Int.le_refl _)) HBT.out).mono ?_
  rintro e w8 ⟨A8, c8, rfl, ho, hb⟩
  have BT8 := Lib.hid (BT7.out.below hb BT7.out.lt)
  have B8 := Lib.hid (B7.out.trans (hb.mono B7.out.size))
  have z8 : w7.heap.size ≤ w8.heap.size := hb.size
  have ca8 : w8.cell? ⟨gt, 0, none⟩ = some (.slice A b.length c) := by rw [BT8.out.cell]; rfl
  have cb8 : w8.cell? ⟨gt, 1, none⟩ = some (.int .i64 max) := by rw [BT8.out.cell]; rfl
  have Y_8 := Lib.hid (own_below Y_7.out hb)
  have P_8 := Lib.hid (own_below P_7.out hb)
  have N_8 := Lib.hid (own_below N_7.out hb)
  have Q_8 := Lib.hid (own_below Q_7.out hb)
  have R_8 := Lib.hid ho
  clear hb Y_7 P_7 N_7 Q_7 ca7 cb7 BT7
  clear P_8
  go_wp2_with fail
  refine (runp_ok A6 Q.length c6 65536 0 Q bn 65536 w8 rfl (Sl.of_own Q_8.out) (own_cap Q_8.out) hQL (by omega) (HG6.out.back _ (by rw [HBNL.out]; exact Int.le_refl _)) HBNL.out).mono ?_
  rintro e w9 ⟨A9, c9, rfl, ho, hb⟩
  have BT9 := Lib.hid (BT8.out.below hb BT8.out.lt)
  have B9 := Lib.hid (B8.out.trans (hb.mono B8.out.size))
  have z9 : w8.heap.size ≤ w9.heap.size := hb.size
  have ca9 : w9.cell? ⟨gt, 0, none⟩ = some (.slice A b.length c) := by rw [BT9.out.cell]; rfl
  have cb9 : w9.cell? ⟨gt, 1, none⟩ = some (.int .i64 max) := by rw [BT9.out.cell]; rfl
  have Y_9 := Lib.hid (own_below Y_8.out hb)
  have N_9 := Lib.hid (own_below N_8.out hb)
  have Q_9 := Lib.hid (own_below Q_8.out hb)
  have R_9 := Lib.hid (own_below R_8.out hb)
  have S_9 := Lib.hid ho
  clear hb Y_8 N_8 Q_8 R_8 ca8 cb8 BT8
  clear Q_9
  go_wp2_with fail
  refine (eq_same A8 (some ⟨g2, 0, none⟩) 65536 65536 c8 65536 bt w9 HBT.out HBT.out (Sl.of_own R_9.out) (Sl.of_own Y_9.out) hbl).mono ?_
  rintro e w10 ⟨rfl, hb⟩
  have BT10 := Lib.hid (BT9.out.below hb BT9.out.lt)
  have B10 := Lib.hid (B9.out.trans (hb.mono B9.out.size))
  have z10 : w9.heap.size ≤ w10.heap.size := hb.size
  have ca10 : w10.cell? ⟨gt, 0, none⟩ = some (.slice A b.length c) := by rw [BT10.out.cell]; rfl
  have cb10 : w10.cell? ⟨gt, 1, none⟩ = some (.int .i64 max) := by rw [BT10.out.cell]; rfl
  have Y_10 := Lib.hid (own_below Y_9.out hb)
  have N_10 := Lib.hid (own_below N_9.out hb)
  have R_10 := Lib.hid (own_below R_9.out hb)
  have S_10 := Lib.hid (own_below S_9.out hb)
  clear hb Y_9 N_9 R_9 S_9 ca9 cb9 BT9
  clear R_10 Y_10
  go_wp2_with fail
  refine (eq_same A9 (some ⟨g5, 0, none⟩) 65536 65536 c9 65536 bn w10 HBNL.out HBNL.out (Sl.of_own S_10.out) (Sl.of_own N_10.out) hbnm).mono ?_
  rintro e w11 ⟨rfl, hb⟩
  have BT11 := Lib.hid (BT10.out.below hb BT10.out.lt)
  have B11 := Lib.hid (B10.out.trans (hb.mono B10.out.size))
  have z11 : w10.heap.size ≤ w11.heap.size := hb.size
  have ca11 : w11.cell? ⟨gt, 0, none⟩ = some (.slice A b.length c) := by rw [BT11.out.cell]; rfl
  have cb11 : w11.cell? ⟨gt, 1, none⟩ = some (.int .i64 max) := by rw [BT11.out.cell]; rfl
  have N_11 := Lib.hid (own_below N_10.out hb)
  have S_11 := Lib.hid (own_below S_10.out hb)
  clear hb N_10 S_10 ca10 cb10 BT10
  clear S_11 N_11
  go_wp2_with fail
  refine (copy_any A b.length c b w11 rfl (HS.out.below B11.out) HLIM.out).mono ?_
  rintro e w12 ⟨rfl, ho, hb⟩
  have BT12 := Lib.hid (BT11.out.below hb BT11.out.lt)
  have B12 := Lib.hid (B11.out.trans (hb.mono B11.out.size))
  have z12 : w11.heap.size ≤ w12.heap.size := hb.size
  have ca12 : w12.cell? ⟨gt, 0, none⟩ = some (.slice A b.length c) := by rw [BT12.out.cell]; rfl
  have cb12 : w12.cell? ⟨gt, 1, none⟩ = some (.int .i64 max) := by rw [BT12.out.cell]; rfl
  have I_12 := Lib.hid ho
  clear hb ca11 cb11 BT11
  obtain ⟨gi, hgi⟩ : ∃ gi, gi = w11.heap.size := ⟨_, rfl⟩
  have hgia : w11.heap.size ≤ gi := by omega
  have hgib : gi < w12.heap.size := by rw [hgi]; exact (own_lt I_12.out _ rfl).2
  rw [← hgi] at I_12 ⊢
  clear hgi
  go_wp2_with fail
  refine (unp_ok (some ⟨gi, 0, none⟩) b.length b.length O1.length E1 b O1 max w12 rfl (Sl.of_own I_12.out) (Nat.le_refl _) HLIM.out (HE.out.below B12.out) hmx HU1.out rfl).mono ?_
  rintro e w13 ⟨A13, c13, rfl, ho, hb⟩
  have BT13 := Lib.hid (BT12.out.below hb BT12.out.lt)
  have B13 := Lib.hid (B12.out.trans (hb.mono B12.out.size))
  have z13 : w12.heap.size ≤ w13.heap.size := hb.size
  have ca13 : w13.cell? ⟨gt, 0, none⟩ = some (.slice A b.length c) := by rw [BT13.out.cell]; rfl
  have cb13 : w13.cell? ⟨gt, 1, none⟩ = some (.int .i64 max) := by rw [BT13.out.cell]; rfl
  have I_13 := Lib.hid (own_below I_12.out hb)
  have U_13 := Lib.hid ho
  clear hb I_12 ca12 cb12 BT12
  have HQ13 : Hid (∀ q, (Value.slice A13 O1.length c13).ownBlock = some q → w12.heap.size ≤ q ∧ q < w13.heap.size) := own_lt U_13.out
  go_wp2_with fail
  go_loopw [18] (fun vi wr => XfRel w13 gi b.length b.length gi vi wr) (fun vi _ => b.length - (intOf vi).toNat)
  case atStart => exact ⟨0, by omega, rfl, ⟨_, rfl, I_13.out⟩, gb_refl _ _⟩
  case round =>
  obtain ⟨i, hi, rfl, HL, HGB⟩ := hrel
  by_cases hlt : i < b.length
  · have hltd : decide ((i : Int) < ((b.length : Nat) : Int)) = true := decide_eq_true (by omega)
    obtain ⟨l, hll, hlo⟩ := HL.out
    have hcu := own_u8 hlo hll (i := i) (by omega)
    have hfu : wr.frozen? ⟨gi, i, none⟩ = false := by obtain ⟨_, _, hf, _⟩ := own_cell hlo (show i < b.length by omega); exact hf
    have hx8 : (l.getD i 0).toNat < 256 := UInt8.toNat_lt _
    generalize (l.getD i 0).toNat = x at *
    obtain ⟨r, hr⟩ : ∃ r, r = i % 7 := ⟨_, rfl⟩
    have er : (i : Int).tmod 7 = (r : Int) := by rw [Int.tmod_eq_emod_of_nonneg (by omega)]; omega
    have hr7 : r < 7 := by omega
    clear hr
    by_cases hr3 : r = 3
    · subst hr3
      have er3 : (i : Int).tmod 7 = 3 := er
      obtain ⟨y, hy⟩ : ∃ y, y = x ^^^ 1 := ⟨_, rfl⟩
      have hxo := xor_u8 1 (.inr rfl) x hx8
      rw [← hy] at hxo
      have exo : Go.bits .xor .u8 (x : Int) 1 = (y : Int) := hxo.1
      have HSET := Lib.hid (XfRel.set hlt hll hlo HGB.out hxo.2)
      clear hy hxo hll hlo HL er
      go_wp2_with fail
      go_roundw
      case rel => exact HSET.out
      case measure => simp [intOf]; omega
    · have hr3d : decide ((r : Int) = 3) = false := decide_eq_false (by omega)
      have HSET := Lib.hid (XfRel.skip hlt hll hlo HGB.out)
      clear hll hlo HL hcu hfu hx8 HGB hbig hbd hbl hbs hO1 hpl hql hPL hQL hbns hbnm
      go_wp2_with fail
      go_roundw
      case rel => exact HSET.out
      case measure => simp [intOf]; omega
  have hltd : decide ((i : Int) < (b.length : Int)) = false := decide_eq_false (by omega)
  obtain ⟨w14, hw14⟩ : ∃ z, z = wr := ⟨_, rfl⟩
  subst hw14
  have BT14 := Lib.hid (BT13.out.gb HGB.out (by intro e; injection e; omega))
  have B14 := Lib.hid (B13.out.trans (below_of_gb_some HGB.out (by omega) B13.out.size))
  have z14 : w13.heap.size ≤ w14.heap.size := HGB.out.size
  have ca14 : w14.cell? ⟨gt, 0, none⟩ = some (.slice A b.length c) := by rw [BT14.out.cell]; rfl
  have cb14 : w14.cell? ⟨gt, 1, none⟩ = some (.int .i64 max) := by rw [BT14.out.cell]; rfl
  have U_14 := Lib.hid (U_13.out.kept HGB.out (.inr (by intro e; have := HQ13.out _ e; omega)))
  obtain ⟨l, hll, hlo⟩ := HL.out
  have I_14 := Lib.hid hlo
  have HLL := Lib.hid hll
  clear hlo hll HL HGB I_13 U_13 ca13 cb13 BT13
  obtain ⟨O2, E2, hu2⟩ : ∃ O2 E2, unpP l max = (O2, E2) := ⟨_, _, rfl⟩
  have hu2l : O2.length ≤ 65536 ∧ E2 ≤ 81 := by have := unp_len l max; rw [hu2] at this; exact ⟨this.1, this.2.2⟩
  have HU2 := Lib.hid hu2
  have hO2 : O2.length ≤ Lim := by unfold Lim; omega
  clear hu2
  have hll := HLL.out
  have hlL : l.length ≤ Lim := by rw [hll]; exact HLIM.out
  clear hll
  go_wp2_with fail
  refine (copy_any (some ⟨gi, 0, none⟩) b.length b.length l w14 HLL.out (Sl.of_own I_14.out) hlL).mono ?_
  rintro e w15 ⟨rfl, ho, hb⟩
  have BT15 := Lib.hid (BT14.out.below hb BT14.out.lt)
  have B15 := Lib.hid (B14.out.trans (hb.mono B14.out.size))
  have z15 : w14.heap.size ≤ w15.heap.size := hb.size
  have ca15 : w15.cell? ⟨gt, 0, none⟩ = some (.slice A b.length c) := by rw [BT15.out.cell]; rfl
  have cb15 : w15.cell? ⟨gt, 1, none⟩ = some (.int .i64 max) := by rw [BT15.out.cell]; rfl
  have I_15 := Lib.hid (own_below I_14.out hb)
  have U_15 := Lib.hid (own_below U_14.out hb)
  have O_15 := Lib.hid ho
  clear hb I_14 U_14 ca14 cb14 BT14
  obtain ⟨go, hgo⟩ : ∃ go, go = w14.heap.size := ⟨_, rfl⟩
  rw [← hgo] at O_15 ⊢
  clear hgo
  go_wp2_with fail
  refine (unp_ok (some ⟨gi, 0, none⟩) b.length b.length O2.length E2 l O2 max w15 HLL.out (Sl.of_own I_15.out) (Nat.le_refl _) hlL (HE.out.below B15.out) hmx HU2.out rfl).mono ?_
  rintro e w16 ⟨A16, c16, rfl, ho, hb⟩
  have BT16 := Lib.hid (BT15.out.below hb BT15.out.lt)
  have B16 := Lib.hid (B15.out.trans (hb.mono B15.out.size))
  have z16 : w15.heap.size ≤ w16.heap.size := hb.size
  have ca16 : w16.cell? ⟨gt, 0, none⟩ = some (.slice A b.length c) := by rw [BT16.out.cell]; rfl
  have cb16 : w16.cell? ⟨gt, 1, none⟩ = some (.int .i64 max) := by rw [BT16.out.cell]; rfl
  have I_16 := Lib.hid (own_below I_15.out hb)
  have U_16 := Lib.hid (own_below U_15.out hb)
  have O_16 := Lib.hid (own_below O_15.out hb)
  have V_16 := Lib.hid ho
  clear hb I_15 U_15 O_15 ca15 cb15 BT15
  clear I_16
  go_wp2_with fail
  refine (runp_ok A b.length c O1.length E1 b O1 max w16 rfl (HS.out.below B16.out) hc HLIM.out hmx HU1.out rfl).mono ?_
  rintro e w17 ⟨A17, c17, rfl, ho, hb⟩
  have BT17 := Lib.hid (BT16.out.below hb BT16.out.lt)
  have B17 := Lib.hid (B16.out.trans (hb.mono B16.out.size))
  have z17 : w16.heap.size ≤ w17.heap.size := hb.size
  have ca17 : w17.cell? ⟨gt, 0, none⟩ = some (.slice A b.length c) := by rw [BT17.out.cell]; rfl
  have cb17 : w17.cell? ⟨gt, 1, none⟩ = some (.int .i64 max) := by rw [BT17.out.cell]; rfl
  have U_17 := Lib.hid (own_below U_16.out hb)
  have O_17 := Lib.hid (own_below O_16.out hb)
  have V_17 := Lib.hid (own_below V_16.out hb)
  have C_17 := Lib.hid ho
  clear hb U_16 O_16 V_16 ca16 cb16 BT16
  go_wp2_with fail
  refine (runp_ok (some ⟨go, 0, none⟩) b.length b.length O2.length E2 l O2 max w17 HLL.out (Sl.of_own O_17.out) (Nat.le_refl _) hlL hmx HU2.out rfl).mono ?_
  rintro e w18 ⟨A18, c18, rfl, ho, hb⟩
  have BT18 := Lib.hid (BT17.out.below hb BT17.out.lt)
  have B18 := Lib.hid (B17.out.trans (hb.mono B17.out.size))
  have z18 : w17.heap.size ≤ w18.heap.size := hb.size
  have ca18 : w18.cell? ⟨gt, 0, none⟩ = some (.slice A b.length c) := by rw [BT18.out.cell]; rfl
  have cb18 : w18.cell? ⟨gt, 1, none⟩ = some (.int .i64 max) := by rw [BT18.out.cell]; rfl
  have U_18 := Lib.hid (own_below U_17.out hb)
  have O_18 := Lib.hid (own_below O_17.out hb)
  have V_18 := Lib.hid (own_below V_17.out hb)
  have C_18 := Lib.hid (own_below C_17.out hb)
  have D_18 := Lib.hid ho
  clear hb U_17 O_17 V_17 C_17 ca17 cb17 BT17
  clear O_18
  go_wp2_with fail
  refine (eq_same A13 A17 O1.length O1.length c13 c17 O1 w18 rfl rfl (Sl.of_own U_18.out) (Sl.of_own C_18.out) hO1).mono ?_
  rintro e w19 ⟨rfl, hb⟩
  have BT19 := Lib.hid (BT18.out.below hb BT18.out.lt)
  have B19 := Lib.hid (B18.out.trans (hb.mono B18.out.size))
  have z19 : w18.heap.size ≤ w19.heap.size := hb.size
  have ca19 : w19.cell? ⟨gt, 0, none⟩ = some (.slice A b.length c) := by rw [BT19.out.cell]; rfl
  have cb19 : w19.cell? ⟨gt, 1, none⟩ = some (.int .i64 max) := by rw [BT19.out.cell]; rfl
  have U_19 := Lib.hid (own_below U_18.out hb)
  have V_19 := Lib.hid (own_below V_18.out hb)
  have C_19 := Lib.hid (own_below C_18.out hb)
  have D_19 := Lib.hid (own_below D_18.out hb)
  clear hb U_18 V_18 C_18 D_18 ca18 cb18 BT18
  go_wp2_with fail
  refine (num_any .i64 (E1 : Int) w19).mono ?_
  rintro e w19' ⟨rfl, rfl⟩
  skip
  go_wp2_with fail
  refine (eq_same A16 A18 O2.length O2.length c16 c18 O2 w19' rfl rfl (Sl.of_own V_19.out) (Sl.of_own D_19.out) hO2).mono ?_
  rintro e w20 ⟨rfl, hb⟩
  have BT20 := Lib.hid (BT19.out.below hb BT19.out.lt)
  have B20 := Lib.hid (B19.out.trans (hb.mono B19.out.size))
  have z20 : w19'.heap.size ≤ w20.heap.size := hb.size
  have ca20 : w20.cell? ⟨gt, 0, none⟩ = some (.slice A b.length c) := by rw [BT20.out.cell]; rfl
  have cb20 : w20.cell? ⟨gt, 1, none⟩ = some (.int .i64 max) := by rw [BT20.out.cell]; rfl
  have U_20 := Lib.hid (own_below U_19.out hb)
  have V_20 := Lib.hid (own_below V_19.out hb)
  have C_20 := Lib.hid (own_below C_19.out hb)
  have D_20 := Lib.hid (own_below D_19.out hb)
  clear hb U_19 V_19 C_19 D_19 ca19 cb19 BT19
  go_wp2_with fail
  refine (num_any .i64 (E2 : Int) w20).mono ?_
  rintro e w20' ⟨rfl, rfl⟩
  skip
  go_wp2_with fail
  go_ret
  exact ⟨rfl, B20.out⟩
end Go.Proofs.YtejgoienkpaabaaDoor
