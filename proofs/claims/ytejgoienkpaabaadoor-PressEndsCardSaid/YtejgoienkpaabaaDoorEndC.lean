/- PressEnds: the walk. (Printed by gen_ends.py.) -/
import Derived.Test.YtejgoienkpaabaaDoorEndA
namespace Go.Proofs.YtejgoienkpaabaaDoor
open Go.RowKit
set_option maxRecDepth 100000
set_option maxHeartbeats 16000000 in
theorem ends_small (A : Option Addr) (c : Nat) (b : List UInt8) (max : Int) (w : World) (h : Sl w A b) (_hc : b.length ≤ c) (hl : b.length ≤ maxLen) (he : ErrTab w) (hmn0 : -9223372036854775808 ≤ max) (hmx : max ≤ 9223372036854775807) (hsm0 : b.length ≤ 65536) :
    Calls Tryd.prog 8 #[.agg #[.slice A b.length c, .int .i64 max]] w fun e w' => e = .returned (.bool true) ∧ Below w.heap.size w w' := by
  unfold maxLen at hl
  have HS := Lib.hid h
  have HE := Lib.hid he
  obtain ⟨bt, hbt⟩ : ∃ bt, bt = b.take 65536 := ⟨_, rfl⟩
  have hbtl : bt.length = b.length := by rw [hbt, List.length_take]; omega
  have HBD := Lib.hid hbt
  have HBT := Lib.hid hbtl
  have hbs : bt.length ≤ 65536 := by omega
  have hbd : decide ((65536 : Int) < (b.length : Int)) = false := decide_eq_false (by omega)
  clear h he hbt hbtl
  go_enter Tryd.func8, Tryd.ntmps8
  go_wp2_with fail
  have BT0 := Lib.hid (Blk.new w 24 #[.slice A b.length c, .int .i64 max])
  have B0 := Lib.hid ((Below.refl w.heap.size w).alloc (Nat.le_refl _) (.cells #[.slice A b.length c, .int .i64 max] 24))
  have z0 : w.heap.size + 1 ≤ (w.alloc (.cells #[.slice A b.length c, .int .i64 max] 24)).heap.size := by simp
  obtain ⟨gt, hgt⟩ : ∃ gt, gt = w.heap.size := ⟨_, rfl⟩
  have hgt2 : gt ≤ w.heap.size := by omega
  have hgt3 : w.heap.size ≤ gt := by omega
  rw [← hgt] at BT0
  rw [← hgt]
  generalize w.alloc (.cells #[.slice A b.length c, .int .i64 max] 24) = w0 at *
  have ca0 : w0.cell? ⟨gt, 0, none⟩ = some (.slice A b.length c) := by rw [BT0.out.cell]; rfl
  have cb0 : w0.cell? ⟨gt, 1, none⟩ = some (.int .i64 max) := by rw [BT0.out.cell]; rfl
  clear hgt
  refine (press_own A b.length c bt w0 HBT.out (by rw [HBD.out]; exact (HS.out.below B0.out).take 65536) hbs).mono ?_
  rintro e w1 ⟨A2, c2, rfl, ho, hb, hgood⟩
  have BT1 := Lib.hid (BT0.out.below hb BT0.out.lt)
  have B1 := Lib.hid (B0.out.trans (hb.mono B0.out.size))
  have z1 : w0.heap.size ≤ w1.heap.size := hb.size
  have ca1 : w1.cell? ⟨gt, 0, none⟩ = some (.slice A b.length c) := by rw [BT1.out.cell]; rfl
  have cb1 : w1.cell? ⟨gt, 1, none⟩ = some (.int .i64 max) := by rw [BT1.out.cell]; rfl
  have P_1 := Lib.hid ho
  clear hb ca0 cb0 BT0
  have HG := Lib.hid hgood
  have hpl := hgood.len
  have hp2 := hgood.two
  generalize pressP bt = P at *
  obtain ⟨n, hn⟩ : ∃ n, n = P.length := ⟨_, rfl⟩
  rw [← hn] at hpl hp2 P_1 ⊢
  have HN := Lib.hid hn
  have hnL : n ≤ Lim := by unfold Lim; omega
  have hn6 : n ≤ 65544 := by omega
  have hlt2 : decide ((n : Int) < 2) = false := decide_eq_false (by omega)
  clear hgood hn
  go_wp2_with fail
  refine (num_any .i64 0 w1).mono ?_
  rintro e w1' ⟨rfl, rfl⟩
  skip
  go_wp2_with fail
  refine (right_any w1' (HE.out.below B1.out)).mono ?_
  rintro e w2 ⟨rfl, hb⟩
  have BT2 := Lib.hid (BT1.out.below hb BT1.out.lt)
  have B2 := Lib.hid (B1.out.trans (hb.mono B1.out.size))
  have z2 : w1'.heap.size ≤ w2.heap.size := hb.size
  have ca2 : w2.cell? ⟨gt, 0, none⟩ = some (.slice A b.length c) := by rw [BT2.out.cell]; rfl
  have cb2 : w2.cell? ⟨gt, 1, none⟩ = some (.int .i64 max) := by rw [BT2.out.cell]; rfl
  have P_2 := Lib.hid (own_below P_1.out hb)
  clear hb P_1 ca1 cb1 BT1
  obtain ⟨T, hT⟩ : ∃ T, T = w2.heap.size := ⟨_, rfl⟩
  obtain ⟨x, hx, hwx⟩ := byte_of max
  have HC18 : Hid (∀ w', Below T w2 w' → Calls Tryd.prog 18 #[.slice A2 n c2] w' fun e w'' => ∃ g, e = .returned (.slice (some ⟨g, 0, none⟩) n n) ∧ w''.ownsRow T 5 1 (.slice (some ⟨g, 0, none⟩) n n) n (U P) ∧ Below T w2 w'' ∧ Below w'.heap.size w' w'') := by
    intro w' hb'
    rw [hT] at hb' ⊢
    refine (copy_any A2 n c2 P w' HN.out.symm (Sl.of_own (own_below P_2.out hb')) (by rw [← HN.out]; exact hnL)).mono ?_
    rintro e w'' ⟨rfl, ho, hb⟩
    exact ⟨_, rfl, own_base ho hb'.size, hb'.trans (hb.mono hb'.size), hb⟩
  have HC10 : Hid (∀ w' g4 c4, w'.ownsRow T 5 1 (.slice (some ⟨g4, 0, none⟩) (n + 1) c4) (n + 1) (U P ++ [.int .u8 (x : Int)]) → Below T w2 w' → Calls Tryd.prog 10 #[.slice (some ⟨g4, 0, none⟩) (n + 1) c4, .int .i64 ((b.length : Nat) : Int)] w' fun e w'' => ∃ A5 m5 c5, e = .returned (.tuple #[.slice A5 m5 c5, .int .i64 80]) ∧ Below T w2 w'') := by
    intro w' g4 c4 ho hb'
    have hU : U P ++ [.int .u8 (x : Int)] = U (P ++ [UInt8.ofNat x]) := by rw [U_append]; simp only [U, List.map_cons, List.map_nil, ofNat_toNat x hx]
    rw [hU] at ho
    have hl : (P ++ [UInt8.ofNat x]).length = n + 1 := by rw [List.length_append, ← HN.out]; rfl
    have hm := HG.out.more (UInt8.ofNat x)
    rw [HBT.out] at hm
    rw [hT] at hb' ⊢
    refine (unp_er (some ⟨g4, 0, none⟩) (n + 1) c4 80 (P ++ [UInt8.ofNat x]) [] ((b.length : Nat) : Int) w' hl (Sl.of_own ho) (own_cap ho) (by rw [hl]; unfold Lim; omega) (HE.out.below (B2.out.trans (hb'.mono B2.out.size))) (by omega) hm).mono ?_
    rintro e w'' ⟨A5, m5, c5, rfl, hb⟩
    exact ⟨A5, m5, c5, rfl, hb'.trans (hb.mono hb'.size)⟩
  have hgT : gt < T := by have := BT2.out.lt; omega
  have KC : Hid (∀ w', Below T w2 w' → w'.cell? ⟨gt, 1, none⟩ = some (.int .i64 max)) := fun w' hb => (hb.cell (p := ⟨gt, 1, none⟩) hgT).trans cb2
  have hbd0 : Below T w2 w2.drew := by rw [hT]; exact (Below.refl _ _).drew
  have HBD0 := Lib.hid hbd0
  clear hbd0
  obtain ⟨i5, hi5, hz50, hz51, hz52⟩ := info_parts info5
  have hTle : T ≤ w2.heap.size := by omega
  have HT := Lib.hid hT
  clear hT
  go_wp2_with fail
  go_region_held3 (fun w' => w'.cell? ⟨gt, 1, none⟩ = some (.int .i64 max)) (first | exact KC.out _ hb5 | exact KC.out _ hba | exact KC.out _ hbb | exact KC.out _ (hba.alloc hsa _) | exact KC.out _ (HBD0.out.alloc hTle _) | exact cb2) (first
    | (go_at_call 18; first
        | (refine (HC18.out _ HBD0.out).mono ?_; rintro e wa ⟨ga, rfl, hoa, hba, hbba⟩; have hsa : T ≤ wa.heap.size := Nat.le_trans hTle hba.size)
        | (refine (HC18.out _ (HBD0.out.alloc hTle _)).mono ?_; rintro e wa ⟨ga, rfl, hoa, hba, hbba⟩; have hsa : T ≤ wa.heap.size := Nat.le_trans hTle hba.size))
    | (refine step_append_lies _ (by rfl) (.tmp 41) (.tmp 45) 22 (by rfl) T 5 i5 (.int .u8 0) 1 1 Tryd.underlying22 hi5 hz50 hz51 hz52 rfl (by decide) (.slice (some ⟨ga, 0, none⟩) n n) n (U P) (by rfl) (by first | exact hoa | exact hoa.alloc _) ⟨_, 0, none⟩ 1 _ [.int .u8 (x : Int)] (by rfl) rfl (by first | exact news_one (Blk.new wa 5 _) | exact news_one ((Blk.new w2.drew 5 _).below hbba (Blk.new w2.drew 5 _).lt)) (by intro u hu; simp at hu; subst hu; rfl) (by omega) (by unfold maxLen; omega) (by omega) (by first | exact hsa | (simp; omega)) _ rfl ?_; intro gb cb wb hown hgrow hlies hltb; have hbb : Below T w2 wb := (by first | exact hba.grown hgrow hsa (fun q hq => (hoa.lt q hq).1) | exact (hba.alloc hsa _).grown hgrow (by simp; omega) (fun q hq => (hoa.lt q hq).1)))
    | (go_at_call 10; refine (HC10.out _ _ _ hown hbb).mono ?_; rintro e w3 ⟨A5, m5, c5, rfl, hb5⟩))
  all_goals
    have hb : Below w2.heap.size w2 w3 := by rw [← HT.out]; exact hb5
    clear hb5
    try clear hoa hba hbba hsa hown hgrow hlies hltb hbb
    clear hwx hTle KC HBD0 HC18 HC10 hi5 hz50 hz51 hz52 HT hgT
    have BT3 := Lib.hid (BT2.out.below hb BT2.out.lt)
    have B3 := Lib.hid (B2.out.trans (hb.mono B2.out.size))
    have z3 : w2.heap.size ≤ w3.heap.size := hb.size
    have ca3 : w3.cell? ⟨gt, 0, none⟩ = some (.slice A b.length c) := by rw [BT3.out.cell]; rfl
    have cb3 : w3.cell? ⟨gt, 1, none⟩ = some (.int .i64 max) := by rw [BT3.out.cell]; rfl
    have P_3 := Lib.hid (own_below P_2.out hb)
    clear hb P_2 ca2 cb2 BT2
    obtain ⟨m, hm⟩ : ∃ m, n = m + 1 := ⟨n - 1, by omega⟩
    have em : (n : Int) - 1 = (m : Int) := by omega
    have hmn : m ≤ n := by omega
    have hmc : m ≤ c2 := Nat.le_trans hmn (own_cap P_3.out)
    have hmc2 : n ≤ c2 := own_cap P_3.out
    have HL : Hid (∀ w', Below w3.heap.size w3 w' → Calls Tryd.prog 10 #[.slice A2 m c2, .int .i64 ((b.length : Nat) : Int)] w' fun e w'' => ErPost w' 80 e w'') := by
      intro w' hb'
      have hl : P.dropLast.length = m := by rw [List.length_dropLast, ← HN.out]; omega
      have hx := HG.out.less
      rw [HBT.out] at hx
      exact unp_er A2 m c2 80 P.dropLast [] _ w' hl (by rw [List.dropLast_eq_take]; exact (Sl.of_own (own_below P_3.out hb')).take _) hmc (by rw [hl]; unfold Lim; omega) (HE.out.below (B3.out.trans (hb'.mono B3.out.size))) (by omega) hx
    have HM := Lib.hid hm
    clear hm
    go_wp2_with fail
    refine (num_any .i64 80 w3).mono ?_
    rintro e w3' ⟨rfl, rfl⟩
    skip
    go_wp2_with fail
    refine (HL.out w3' (Below.refl _ _)).mono ?_
    rintro e w4 ⟨A4, m4, c4, rfl, hb⟩
    have BT4 := Lib.hid (BT3.out.below hb BT3.out.lt)
    have B4 := Lib.hid (B3.out.trans (hb.mono B3.out.size))
    have z4 : w3'.heap.size ≤ w4.heap.size := hb.size
    have ca4 : w4.cell? ⟨gt, 0, none⟩ = some (.slice A b.length c) := by rw [BT4.out.cell]; rfl
    have cb4 : w4.cell? ⟨gt, 1, none⟩ = some (.int .i64 max) := by rw [BT4.out.cell]; rfl
    have P_4 := Lib.hid (own_below P_3.out hb)
    clear hb P_3 ca3 cb3 BT3
    clear HL em
    have hg4 : gt < w4.heap.size := BT4.out.lt
    go_wp2_with fail
    refine (copy_any A2 n c2 P w4 HN.out.symm (Sl.of_own P_4.out) (by rw [← HN.out]; exact hnL)).mono ?_
    rintro e w5 ⟨rfl, ho, hb⟩
    have BT5 := Lib.hid (BT4.out.below hb BT4.out.lt)
    have B5 := Lib.hid (B4.out.trans (hb.mono B4.out.size))
    have z5 : w4.heap.size ≤ w5.heap.size := hb.size
    have ca5 : w5.cell? ⟨gt, 0, none⟩ = some (.slice A b.length c) := by rw [BT5.out.cell]; rfl
    have cb5 : w5.cell? ⟨gt, 1, none⟩ = some (.int .i64 max) := by rw [BT5.out.cell]; rfl
    have P_5 := Lib.hid (own_below P_4.out hb)
    have X_5 := Lib.hid ho
    clear hb P_4 ca4 cb4 BT4
    clear P_5
    obtain ⟨g5, hg5⟩ : ∃ g5, g5 = w4.heap.size := ⟨_, rfl⟩
    have hg5a : gt < g5 := by omega
    have hg5b : w.heap.size ≤ g5 := by have := B4.out.size; omega
    rw [← hg5] at X_5 ⊢
    have hX5 := X_5.out
    obtain ⟨u5, hcu, hfu, hg5l⟩ := own_cell hX5 (show 0 < n by omega)
    have hr0 : ∀ r : Nat, r < 254 → IntKind.u8.wrap ((r : Int) + 2) = ((r + 2 : Nat) : Int) ∧ IntKind.u8.wrap (2 + (r : Int)) = ((r + 2 : Nat) : Int) := fun r hr => ⟨by rw [wraps_u8 _ (by omega) (by omega)]; omega, by rw [wraps_u8 _ (by omega) (by omega)]; omega⟩
    have HR0 := Lib.hid hr0
    clear hg5 hr0 hX5
    go_wp2_with fail
    refine (within_any max w5 hmn0 hmx).mono ?_
    rintro e w5' ⟨r, hr, rfl, rfl⟩
    have er := (HR0.out r hr).1
    have er2 := (HR0.out r hr).2
    obtain ⟨y, hy⟩ : ∃ y, y = r + 2 := ⟨_, rfl⟩
    rw [← hy] at er er2
    have hy1 : 1 < y := by omega
    have hy2 : y < 256 := by omega
    clear hy HR0
    have X_6 : Hid ((w5.setCell ⟨g5, 0, none⟩ (.int .u8 (y : Int))).ownsRow g5 5 1 (.slice (some ⟨g5, 0, none⟩) n n) n (U (P.set 0 (UInt8.ofNat y)))) := by
      have := own_set X_5.out (i := 0) (.int .u8 (y : Int))
      rw [← ofNat_toNat y hy2, U_set] at this
      rw [ofNat_toNat y hy2] at this
      exact this
    have HU6 : Hid (Calls Tryd.prog 10 #[.slice (some ⟨g5, 0, none⟩) n n, .int .i64 ((b.length : Nat) : Int)] (w5.setCell ⟨g5, 0, none⟩ (.int .u8 (y : Int))) fun e w'' => ErPost (w5.setCell ⟨g5, 0, none⟩ (.int .u8 (y : Int))) 80 e w'') := by
      obtain ⟨p0, pt, hpt⟩ : ∃ p0 pt, P = p0 :: pt := by
        cases hP : P with
        | nil => have := HN.out; rw [hP] at this; simp at this; omega
        | cons a t => exact ⟨a, t, rfl⟩
      have hx : unpP (P.set 0 (UInt8.ofNat y)) ((b.length : Nat) : Int) = ([], 80) := by
        rw [hpt]
        exact unp_other _ _ _ (by rw [ofNat_toNat y hy2]; exact hy1)
      refine unp_er _ n n 80 (P.set 0 (UInt8.ofNat y)) [] _ _ (by rw [List.length_set]; exact HN.out.symm) (Sl.of_own X_6.out) (Nat.le_refl _) (by rw [List.length_set, ← HN.out]; exact hnL) (HE.out.below ?_) (by omega) hx
      exact B5.out.setCell (p := ⟨g5, 0, none⟩) hg5b _
    have B6 : Hid (Below w.heap.size w (w5.setCell ⟨g5, 0, none⟩ (.int .u8 (y : Int)))) := B5.out.setCell (p := ⟨g5, 0, none⟩) hg5b _
    clear X_6 X_5
    go_wp2_with fail
    refine HU6.out.mono ?_
    rintro e w7 ⟨A7, m7, c7, rfl, hb⟩
    have B7 := Lib.hid (B6.out.trans (hb.mono B6.out.size))
    clear hb B6 HU6 hcu hfu er er2
    go_wp2_with fail
    refine (unp_er none 0 0 80 [] [] ((b.length : Nat) : Int) w7 rfl (.inl rfl) (Nat.le_refl _) (by unfold Lim; simp) (HE.out.below B7.out) (by omega) (unp_nil _)).mono ?_
    rintro e w8 ⟨A8, m8, c8, rfl, hb⟩
    have B8 := Lib.hid (B7.out.trans (hb.mono B7.out.size))
    clear hb
    go_wp2_with fail
    refine (num_any .i64 80 w8).mono ?_
    rintro e w9 ⟨rfl, rfl⟩
    go_wp2_with fail
    refine (num_any .i64 80 w9).mono ?_
    rintro e w10 ⟨rfl, rfl⟩
    go_wp2_with fail
    refine (num_any .i64 80 w10).mono ?_
    rintro e w11 ⟨rfl, rfl⟩
    go_wp2_with fail
    go_ret
    exact ⟨rfl, B8.out⟩
end Go.Proofs.YtejgoienkpaabaaDoor
