/- Laws towards WalkDeep: WdA. -/
import Derived.Test.YtnjhjbmngoeobaaGreatDoorMg38
import Derived.Deep.CutRange
namespace Go.Proofs.YtnjhjbmngoeobaaGreatDoor
open Go.RowKit Go.Maps
set_option maxRecDepth 100000
set_option maxHeartbeats 2000000 in
def deepS (W : World) (N Tg : Int) (A : Option Addr) (tn tc : Nat) (l : List Int) :
 Split ((l.length = tn) → (Ti W A l) → (ErrTab W) → (DigTab W) → (∀ B, SortP B) → Calls Tryz.prog 3 #[.agg #[.int .i64 N, .int .i64 Tg, .slice A tn tc]] W (WdPost W)) := by
 apply Split.mk
 case h =>
  intro hP hl ht he hd hsort
  obtain ⟨w1, hw1⟩ : ∃ w1, w1 = W.alloc (.cells #[.int .i64 N, .int .i64 Tg, .slice A tn tc] 24) := ⟨_, rfl⟩
  have hb1 : Below W.heap.size W w1 := by rw [hw1]; exact (Below.refl _ _).alloc (Nat.le_refl _) _
  have HBX : Hid (Blk w1 W.heap.size 24 #[.int .i64 N, .int .i64 Tg, .slice A tn tc]) := by rw [hw1]; exact Blk.new _ _ _
  have HB1 := Lib.hid hb1
  have HW1 := Lib.hid hw1
  have HE : Hid (ErrTab w1) := he.below hb1 he.lt
  have HD : Hid (DigTab w1) := hd.below hb1
  have HT : Hid (Ti w1 A l) := ht.below hb1
  have HL := Lib.hid hl
  have HSO := Lib.hid hsort
  have HN := Lib.hid (new_store w1)
  obtain ⟨tm, htm⟩ : ∃ tm, tm = tmF l := ⟨_, rfl⟩
  have HTM : Hid (tm = tmF l ∧ Tms tm) := ⟨htm, by rw [htm]; exact tmF_ok l⟩
  clear hw1 hb1 ht he hd hl hsort htm
  go_enter Tryz.func3, Tryz.ntmps3
  go_upto_region 1 with fail
  rw [← HW1.out]
  clear HW1
  go_wp2_with fail
  refine HN.out.mono ?_
  rintro e w2 ⟨a, m, D, rfl, hst, hb2⟩
  have HS2 : Hid (StA w2 w1.heap.size a m []) := ⟨⟨D, hst⟩, .nil, KnS.nil, HE.out.below hb2 HE.out.lt, HD.out.below hb2, HE.out.lt, HD.out.beg.lt, HD.out.rnd.lt⟩
  have HB2 := Lib.hid hb2
  have HM : Hid (w1.heap.size ≤ m) := hst.hm
  have hcN : w2.cell? ⟨W.heap.size, 0, none⟩ = some (.int .i64 N) := (HBX.out.below hb2 HBX.out.lt).cell 0
  have HWI := Lib.hid (within_any N 1500 (by omega) (by omega) w2)
  obtain ⟨n, hn⟩ : ∃ n, n = 1 + wi N 1500 := ⟨_, rfl⟩
  have hwn := wi_lt N (m := 1500) (by omega)
  have hnb : n ≤ 1500 := by omega
  have hn1 : 1 ≤ n := by omega
  have en : (1 : Int) + (wi N 1500 : Int) = (n : Int) := by omega
  have ewn : IntKind.i64.wrap (n : Int) = (n : Int) := wraps_i64 _ (by omega) (by omega)
  have HNN := Lib.hid hn
  clear hst hb2 HN hwn hn
  go_wp2_with fail
  refine HWI.out.mono ?_
  rintro e wz ⟨rfl, rfl⟩
  have HO2 : Hid (w2.ownsRow w1.heap.size 30 32 (.slice none 0 0) 0 (IdsU (Cids tm 0))) := own_nil _ _ _ _
  clear HWI hcN
  go_wp2_with fail
  go_loopw [5, 6, 7] (fun v5 v6 v7 wr => Wd1 w1 tm a m n v5 v6 v7 wr) (fun _ _ v7 _ => n - (intOf v7).toNat)
  case atStart => exact ⟨0, 0, [], none, 0, Nat.zero_le _, rfl, rfl, rfl, rfl, HO2, Line.start tm, HS2, HB2⟩
  case round =>
   clear HO2 HS2 HB2
   obtain ⟨i, c, S, L, lc, hi, rfl, rfl, rfl, HC3, HO, HLI, HST, HB⟩ := hrel
   have hcb : c ≤ 4500 := by have := HC3.out; omega
   have hu30 := Tryz.underlying30
   by_cases hlt : i < n
   · have hd1 : decide ((i : Int) < (n : Int)) = true := decide_eq_true (by omega)
     have hd2 : decide (i < n) = true := decide_eq_true hlt
     have hib : i ≤ 1500 := by omega
     have HLT := Lib.hid hlt
     clear hlt hi
     obtain ⟨ih, hih⟩ : ∃ ih, ih = i / 256 := ⟨_, rfl⟩
     obtain ⟨wa, hwa⟩ : ∃ wa, wa = wr.alloc (.cells #[.int .u8 1, .int .u8 ((i : Int) % 256), .int .u8 (ih : Int)] 5) := ⟨_, rfl⟩
     have hga : wr.grownBy wa none := by rw [hwa]; exact gb_alloc (gb_refl _ _) _
     have hsa : Sl wa (some ⟨wr.heap.size, 0, none⟩) (Bq i) := by rw [hwa]; exact sl_B wr i ih hih hib
     have hll := HLI.out.len
     have HSL : Hid (S.length ≤ 4500) := by have := HLT.out; show S.length ≤ 4500; omega
     have HPA := Lib.hid (put_all w1.heap.size a m 3 3 ⟨wr.heap.size, 0, none⟩ S (Bq i) _ wa (HST.out.below (below_of_gb hga)) (kn_B i) hsa rfl (Nat.le_refl _) (by have := HSL.out; omega))
     have HBA : Hid (Below w1.heap.size w1 wa) := HB.out.trans ((below_of_gb hga).mono HB.out.size)
     have HOA : Hid (wa.ownsRow w1.heap.size 30 32 (.slice L i lc) i (IdsU (Cids tm i))) := own_below HO.out (below_of_gb hga)
     have HSA := Lib.hid (HST.out.below (below_of_gb hga))
     have HWA := Lib.hid hwa
     have cv3 : (i : Int) / 256 = (ih : Int) := by omega
     clear hih hwa hga hsa hll HST HO HB
     go_wp2_with fail
     rw [← HWA.out]
     refine HPA.out.mono ?_
     rintro e wb ⟨jB, xB, eB, SB, rfl, hsB, hgB, hcB⟩
     have HSB := Lib.hid hsB
     have HCB : Hid (PutC S (Bq i) jB eB SB) := hcB
     have HBB : Hid (Below w1.heap.size w1 wb) := HBA.out.trans (below_of_gb_some hgB HSA.out.hm_ HBA.out.size)
     have HOB : Hid (wb.ownsRow w1.heap.size 30 32 (.slice L i lc) i (IdsU (Cids tm i))) := HSA.out.rowk HOA.out hgB
     have HNB := id_new wb
     have HZB := Lib.hid (id_size _ jB.2)
     have HZB2 := Lib.hid (id_size' _ jB.2)
     have HFB := Lib.hid (id_fit _ jB.2)
     clear hsB hgB hcB HPA HWA HBA HOA HSA cv3
     go_upto_region 11 with (with_reducible refine wpList_storeG rfl 30 (.tmp 8) (.tmp 62) rfl wb.heap.size 0 (U jB.1) rfl rfl (U (List.replicate 32 0)) 30 HNB.out HFB.out (U_one _) HZB.out ?_; intro wc HBc HGc)
     have Gc : wb.grownBy wc none := gb_fresh HGc.out
     have hrc : wc.heap[wb.heap.size]? = some (.cells (U jB.1).toArray 30 (0, 0)) := by
      have h1 := HBc.out
      rw [splice_id _ jB.2] at h1
      exact h1
     have HSc := Lib.hid (HSB.out.below (below_of_gb Gc))
     have HBC : Hid (Below w1.heap.size w1 wc) := HBB.out.trans ((below_of_gb Gc).mono HBB.out.size)
     have HOC : Hid (wc.ownsRow w1.heap.size 30 32 (.slice L i lc) i (IdsU (Cids tm i))) := own_below HOB.out (below_of_gb Gc)
     obtain ⟨d0, d1, d2, d3, d4, d5, d6, d7, d8, d9, d10, d11, d12, d13, d14, d15, d16, d17, d18, d19, d20, d21, d22, d23, d24, d25, d26, d27, d28, d29, d30, d31, hU⟩ := id32 jB
     have HV := Lib.hid (entV_lit jB d0 d1 d2 d3 d4 d5 d6 d7 d8 d9 d10 d11 d12 d13 d14 d15 d16 d17 d18 d19 d20 d21 d22 d23 d24 d25 d26 d27 d28 d29 d30 d31 hU)
     have hsz := HZB2.out
     rw [hU] at hrc hsz
     have HRc := Lib.hid hrc
     have HZL := Lib.hid hsz
     obtain ⟨wd, hwd⟩ : ∃ wd, wd = wc.alloc (.cells #[.int .i64 1, .string ⟨#[102]⟩, d0, d1, d2, d3, d4, d5, d6, d7, d8, d9, d10, d11, d12, d13, d14, d15, d16, d17, d18, d19, d20, d21, d22, d23, d24, d25, d26, d27, d28, d29, d30, d31] 39) := ⟨_, rfl⟩
     have hgd : wc.grownBy wd none := by rw [hwd]; exact gb_alloc (gb_refl _ _) _
     have hrd : wd.rangeAt wc.heap.size 0 (entV ⟨1, [102], jB⟩) := by
      rw [HV.out, hwd]
      exact range_of_blk (Blk.new wc 39 #[.int .i64 1, .string ⟨#[102]⟩, d0, d1, d2, d3, d4, d5, d6, d7, d8, d9, d10, d11, d12, d13, d14, d15, d16, d17, d18, d19, d20, d21, d22, d23, d24, d25, d26, d27, d28, d29, d30, d31]) (fun j v hj => by rw [Nat.zero_add, List.getElem?_toArray]; exact hj)
     have HENT := Lib.hid (enc_tree wd ⟨1, [102], jB⟩ 102 wc.heap.size 1 (.slice none 0 0) (by show 1 ≤ 1; omega) (by show 1 ≤ 4; omega) rfl (by decide) (by decide) (by decide) (by decide) hrd (by rw [hwd]; simp))
     have HWD := Lib.hid hwd
     have HSd := Lib.hid (HSc.out.below (below_of_gb hgd))
     have HBd : Hid (Below w1.heap.size w1 wd) := HBC.out.trans ((below_of_gb hgd).mono HBC.out.size)
     have HOd : Hid (wd.ownsRow w1.heap.size 30 32 (.slice L i lc) i (IdsU (Cids tm i))) := own_below HOC.out (below_of_gb hgd)
     clear HBc HGc HNB HFB HZB HZB2 Gc hrc hsz hU hwd hgd hrd HSB HBB HOB HSc HBC HOC HV
     go_wp2_with (with_reducible refine wpList_load_row rfl 30 (.tmp 8) rfl wb.heap.size rfl 30 #[d0, d1, d2, d3, d4, d5, d6, d7, d8, d9, d10, d11, d12, d13, d14, d15, d16, d17, d18, d19, d20, d21, d22, d23, d24, d25, d26, d27, d28, d29, d30, d31] (0, 0) _ HRc.out hu30 rfl HZL.out ?_)
     rw [← HWD.out]
     rw [show (Tryz.zeroCells47.setIfInBounds 0 (Value.int IntKind.i64 2)).setIfInBounds 2 (.slice (some ⟨wc.heap.size, 0, none⟩) 1 1) = (obL (.int .i64 2) (.slice none 0 0) (.slice (some ⟨wc.heap.size, 0, none⟩) 1 1) zCom zTag).toArray from by kernel_rfl]
     refine HENT.out.mono ?_
     rintro e we ⟨qt, rfl, hot, hbe⟩
     have HSe := Lib.hid (HSd.out.below hbe)
     have HBe : Hid (Below w1.heap.size w1 we) := HBd.out.trans (hbe.mono HBd.out.size)
     have HOe : Hid (we.ownsRow w1.heap.size 30 32 (.slice L i lc) i (IdsU (Cids tm i))) := own_below HOd.out hbe
     obtain ⟨bt, hbt⟩ : ∃ bt, bt = 2 :: 1 :: layEnt ⟨1, [102], jB⟩ := ⟨_, rfl⟩
     rw [← hbt] at hot
     rw [← hbt]
     have hbt2 : bt = layOb (obT jB) := by rw [hbt, lay_obT]
     obtain ⟨lt, hlt⟩ : ∃ lt, lt = bt.length := ⟨_, rfl⟩
     rw [← hlt]
     have HPE := Lib.hid (put_all w1.heap.size a m lt lt ⟨qt, 0, none⟩ SB bt (obT jB) we HSe.out (by rw [hbt2]; exact kn_obT jB) (Sl.of_own hot) hlt.symm (Nat.le_refl _) (by have := HSL.out; have := HCB.out.len; omega))
     have HBT := Lib.hid hbt2
     clear hot hbe hbt hbt2 hlt HENT HWD HSd HBd HOd HRc HZL
     go_wp2_with fail
     refine HPE.out.mono ?_
     rintro e wf ⟨jT, xT, eT, ST, rfl, hsT, hgT, hcT⟩
     have HSf := Lib.hid hsT
     have HCT : Hid (PutC SB bt jT eT ST) := hcT
     have HBf : Hid (Below w1.heap.size w1 wf) := HBe.out.trans (below_of_gb_some hgT HSe.out.hm_ HBe.out.size)
     have HOf : Hid (wf.ownsRow w1.heap.size 30 32 (.slice L i lc) i (IdsU (Cids tm i))) := HSe.out.rowk HOe.out hgT
     have HNf := id_new wf
     have HZT := Lib.hid (id_size _ jT.2)
     have HZT2 := Lib.hid (id_size' _ jT.2)
     have HFT := Lib.hid (id_fit _ jT.2)
     clear hsT hgT hcT HPE HBe HOe HSe
     go_upto_region 13 with (with_reducible refine wpList_storeG rfl 30 (.tmp 13) (.tmp 77) rfl wf.heap.size 0 (U jT.1) rfl rfl (U (List.replicate 32 0)) 30 HNf.out HFT.out (U_one _) HZT.out ?_; intro wg HBg HGg)
     have Gg : wf.grownBy wg none := gb_fresh HGg.out
     have HRg : Hid (wg.heap[wf.heap.size]? = some (.cells (U jT.1).toArray 30 (0, 0))) := by
      have h1 := HBg.out
      rw [splice_id _ jT.2] at h1
      exact h1
     have HSg := Lib.hid (HSf.out.below (below_of_gb Gg))
     have HBG : Hid (Below w1.heap.size w1 wg) := HBf.out.trans ((below_of_gb Gg).mono HBf.out.size)
     have HOg : Hid (wg.ownsRow w1.heap.size 30 32 (.slice L i lc) i (IdsU (Cids tm i))) := own_below HOf.out (below_of_gb Gg)
     have HBC := Lib.hid (build_com_t jT wg)
     have HNg := acom_new wg
     have HKI : Hid ((Tryz.prog.info? 43).map (·.size) = some (comQ jT (.slice none 0 0) 0).length) := comQ_size _ _ _
     have HKF : Hid (0 + (comQ jT (.slice none 0 0) 0).length ≤ zCom.length) := comQ_fit _ _ _
     have HKO : Hid (∀ v ∈ comQ jT (.slice none 0 0) 0, v.oneCell' = true) := comL_one _ _ _ _ _ rfl rfl rfl rfl
     clear HBg HGg HNf HFT HZT Gg HSf HBf HOf
     refine wp_region_lit ?_
     refine wpList_load_row rfl 30 (.tmp 13) rfl wf.heap.size rfl 30 (U jT.1).toArray (0, 0) _ HRg.out hu30 rfl HZT2.out ?_
     refine wpList_buildL rfl 43 [(0, .tmp 80)] rfl [(0, .agg (U jT.1).toArray)] rfl _ HBC.out ?_
     go_upto_region 14 with (with_reducible refine wpList_storeG rfl 43 (.tmp 16) (.tmp 81) rfl wg.heap.size 0 (comQ jT (.slice none 0 0) 0) rfl rfl zCom 43 HNg.out HKF.out HKO.out HKI.out ?_; intro wh HBh HGh)
     have Gh : wg.grownBy wh none := gb_fresh HGh.out
     obtain ⟨cb, hcb⟩ : ∃ cb, cb = wg.heap.size := ⟨_, rfl⟩
     have HKb : Hid (Blk wh cb 43 (comQ jT (.slice none 0 0) 0).toArray) := by
      have h1 := HBh.out
      rw [comQ_splice, ← hcb] at h1
      exact h1
     rw [← hcb]
     have HBH : Hid (Below cb wg wh) := by rw [hcb]; exact below_of_gb Gh
     have HCBE := Lib.hid hcb
     have hu22 := Tryz.underlying22
     clear HBh HGh HNg HKI HKF HKO HBC HRg HZT2 Gh hcb
     go_frame
     go_upto_if 83 with fail
     go_cut [] from 48 to 162 (fun wx => ∃ P : Value, Hid (Blk wx cb 43 (comQ jT P 0).toArray) ∧ Hid (ParW wx cb P (parQ tm i)) ∧ Hid (Below cb wg wx))
     case first =>
      by_cases h0 : i = 0
      · have hd3 : decide ((0 : Int) < (i : Int)) = false := decide_eq_false (by omega)
        have hd4 : decide (0 < i) = false := decide_eq_false (by omega)
        have HPV : Hid (ParW wh cb (.slice none 0 0) (parQ tm i)) := .inl ⟨by unfold parQ; rw [if_pos h0], rfl⟩
        go_wp2_with fail
        go_meet
        case rel => exact ⟨_, HKb, HPV, HBH⟩
      · have hd3 : decide ((0 : Int) < (i : Int)) = true := decide_eq_true (by omega)
        have hd4 : decide (0 < i) = true := decide_eq_true (by omega)
        obtain ⟨i1, hi1⟩ : ∃ i1, i1 = i - 1 := ⟨_, rfl⟩
        have ei1 : (i : Int) - 1 = (i1 : Int) := by omega
        have ewi1 : IntKind.i64.wrap (i1 : Int) = (i1 : Int) := wraps_i64 _ (by omega) (by omega)
        have b1 : (0 : Int) ≤ (i1 : Int) := by omega
        have b2 : (i1 : Int) < (i : Int) := by omega
        have b3 : i1 < i := by omega
        have hbg : Below wg.heap.size wg wh := by rw [← HCBE.out]; exact HBH.out
        have hoh := own_below HOg.out hbg
        obtain ⟨q, rfl, hq, hrq, hlc⟩ := own_ids hoh (by omega)
        obtain ⟨p, hp⟩ : ∃ p, p = shaI (Cq tm i1) := ⟨_, rfl⟩
        have hrp : wh.rangeAt q (i1 * 32) (U p.1) := by
         have := own_at hoh (j := i1) (by rw [Cids_len]; omega)
         rw [Cids_at tm b3, ← hp] at this
         exact this
        have hsp := id_size _ p.2
        obtain ⟨d0, d1, d2, d3, d4, d5, d6, d7, d8, d9, d10, d11, d12, d13, d14, d15, d16, d17, d18, d19, d20, d21, d22, d23, d24, d25, d26, d27, d28, d29, d30, d31, hU⟩ := id32 p
        obtain ⟨wi_, hwi⟩ : ∃ wi_, wi_ = wh.alloc (.cells #[d0, d1, d2, d3, d4, d5, d6, d7, d8, d9, d10, d11, d12, d13, d14, d15, d16, d17, d18, d19, d20, d21, d22, d23, d24, d25, d26, d27, d28, d29, d30, d31] 30) := ⟨_, rfl⟩
        have hgi : wh.grownBy wi_ none := by rw [hwi]; exact gb_alloc (gb_refl _ _) _
        have hbi : Blk wi_ wh.heap.size 30 (U p.1).toArray := by rw [hwi, hU]; exact Blk.new _ _ _
        have hki : Blk wi_ cb 43 (comQ jT (.slice none 0 0) 0).toArray := HKb.out.gb hgi (by simp)
        rw [hU] at hrp hsp
        have HRP := Lib.hid hrp
        have HSPz := Lib.hid hsp
        have hck : (wh.alloc (.cells #[d0, d1, d2, d3, d4, d5, d6, d7, d8, d9, d10, d11, d12, d13, d14, d15, d16, d17, d18, d19, d20, d21, d22, d23, d24, d25, d26, d27, d28, d29, d30, d31] 30)).cell? ⟨cb, 32, none⟩ = some (.slice none 0 0) := by
         rw [← hwi, hki.cell, List.getElem?_toArray]
         exact (comL_at jT _ _ _ _).1
        have hfk : (wh.alloc (.cells #[d0, d1, d2, d3, d4, d5, d6, d7, d8, d9, d10, d11, d12, d13, d14, d15, d16, d17, d18, d19, d20, d21, d22, d23, d24, d25, d26, d27, d28, d29, d30, d31] 30)).frozen? ⟨cb, 32, none⟩ = false := by rw [← hwi]; exact hki.frozen 32
        have FIN : Hid (Blk (wi_.setCell ⟨cb, 32, none⟩ (.slice (some ⟨wh.heap.size, 0, none⟩) 1 1)) cb 43 (comQ jT (.slice (some ⟨wh.heap.size, 0, none⟩) 1 1) 0).toArray ∧ ParW (wi_.setCell ⟨cb, 32, none⟩ (.slice (some ⟨wh.heap.size, 0, none⟩) 1 1)) cb (.slice (some ⟨wh.heap.size, 0, none⟩) 1 1) (parQ tm i) ∧
         Below cb wg (wi_.setCell ⟨cb, 32, none⟩ (.slice (some ⟨wh.heap.size, 0, none⟩) 1 1))) := by
         refine ⟨?_, ParW.set (.inr ⟨p, wh.heap.size, ?_, rfl, HKb.out.lt, hbi.lt, id_rangeB hbi⟩) 32 _, ?_⟩
         · have h1 := hki.set_ 32 (.slice (some ⟨wh.heap.size, 0, none⟩) 1 1)
           rw [comQ_set32] at h1
           exact h1
         · unfold parQ
           rw [if_neg h0, hp, hi1]
         · have h1 : Below cb wg wi_ := HBH.out.trans ((below_of_gb hgi).mono (Nat.le_of_lt HKb.out.lt))
           exact h1.setCell (Nat.le_refl _) _
        have HWI2 := Lib.hid hwi
        clear hwi hgi hbi hki hrp hsp hU hp hq hrq hlc hi1 h0 hoh hbg
        go_wp2_with (with_reducible refine wpList_load_mid rfl 30 (.tmp 87) rfl q (i1 * 32) rfl [d0, d1, d2, d3, d4, d5, d6, d7, d8, d9, d10, d11, d12, d13, d14, d15, d16, d17, d18, d19, d20, d21, d22, d23, d24, d25, d26, d27, d28, d29, d30, d31] _ HRP.out hu30 rfl HSPz.out ?_)
        go_meet
        case rel =>
         rw [← HWI2.out]
         exact ⟨_, FIN.out.1, FIN.out.2.1, FIN.out.2.2⟩
     case rest =>
      obtain ⟨wj, rfl⟩ : ∃ z : World, z = wc := ⟨_, rfl⟩
      obtain ⟨P, HKj, HPj, HBj⟩ := hcut
      have HBJ : Hid (Below w1.heap.size w1 wj) := by
       have h := HBj.out
       rw [HCBE.out] at h
       exact HBG.out.trans (h.mono HBG.out.size)
      have hcT : wj.cell? ⟨W.heap.size, 2, none⟩ = some (.slice A tn tc) := (HBX.out.below HBJ.out HBX.out.lt).cell 2
      have HTj : Hid (Ti wj A l) := HT.out.below HBJ.out
      have ht0 : (tn : Int) = 0 ↔ tn = 0 := by omega
      clear HKb HBH
      go_upto_if 94 with fail
      go_cut [] from 48 to 162 (fun wx => Hid (Blk wx cb 43 (comQ jT P (tm i)).toArray) ∧ Hid (ParW wx cb P (parQ tm i)) ∧ Hid (Below cb wg wx))
      case first =>
       by_cases h0 : tn = 0
       · have hd3 : decide ((0 : Int) < (tn : Int)) = false := decide_eq_false (by omega)
         have hd4 : decide (0 < tn) = false := decide_eq_false (by omega)
         have HKt : Hid (Blk wj cb 43 (comQ jT P (tm i)).toArray) := by
          have e : tm i = 0 := by
           rw [HTM.out.1]
           unfold tmF
           rw [if_pos (List.eq_nil_of_length_eq_zero (by rw [HL.out, h0]))]
          rw [e]
          exact HKj.out
         clear hcT ht0
         go_wp2_with fail
         go_meet
         case rel => exact ⟨HKt, HPj, HBj⟩
       · have hd3 : decide ((0 : Int) < (tn : Int)) = true := decide_eq_true (by omega)
         have hd4 : decide (0 < tn) = true := decide_eq_true (by omega)
         have hln : l ≠ [] := by
          intro e
          have := HL.out
          rw [e] at this
          exact h0 this.symm
         obtain ⟨q, o, rfl, hq, hti⟩ : ∃ q o, A = some ⟨q, o, none⟩ ∧ q < wj.heap.size ∧ ∀ j, j < l.length → wj.cell? ⟨q, o + j, none⟩ = some (.int .i64 (l.getD j 0)) := by
          rcases HTj.out with h | h
          · exact absurd h hln
          · exact h
         obtain ⟨rr, hrr⟩ : ∃ rr, rr = i % tn := ⟨_, rfl⟩
         have hrt : rr < tn := by rw [hrr]; exact Nat.mod_lt _ (by omega)
         have erm : (i : Int).tmod (tn : Int) = (rr : Int) := by rw [hrr]; exact (Int.ofNat_tmod i tn).symm
         have hrb : rr ≤ i := by rw [hrr]; exact Nat.mod_le _ _
         have ewr : IntKind.i64.wrap (rr : Int) = (rr : Int) := wraps_i64 _ (by omega) (by omega)
         have c1 : (0 : Int) ≤ (rr : Int) := by omega
         have c2 : (rr : Int) < (tn : Int) := by omega
         have ht1 : ¬(tn : Int) = 0 := by omega
         obtain ⟨xv, hxv⟩ : ∃ xv, xv = l.getD rr 0 := ⟨_, rfl⟩
         have htc : wj.drew.cell? ⟨q, o + rr, none⟩ = some (.int .i64 xv) := by
          rw [hxv]
          exact hti rr (by rw [HL.out]; exact hrt)
         have htd : wj.drew.cell? ⟨W.heap.size, 2, none⟩ = some (.slice (some ⟨q, o, none⟩) tn tc) := hcT
         have hck : wj.drew.cell? ⟨cb, 34, none⟩ = some (.int .u64 0) := by
          show wj.cell? _ = _
          rw [HKj.out.cell, List.getElem?_toArray]
          exact (comL_at jT _ _ _ _).2.2.1
         have hfk : wj.drew.frozen? ⟨cb, 34, none⟩ = false := HKj.out.frozen 34
         have hwl := wi_lt xv (m := 1000) (by omega)
         have etm : tm i = wi xv 1000 := by
          rw [HTM.out.1]
          unfold tmF
          rw [if_neg hln, HL.out, ← hrr, ← hxv]
         obtain ⟨tv, htv⟩ : ∃ tv, tv = wi xv 1000 := ⟨_, rfl⟩
         have etv : (wi xv 1000 : Int) = (tv : Int) := by rw [htv]
         have hwb : tv ≤ 1000 := by omega
         have ewt : IntKind.u64.wrap (tv : Int) = (tv : Int) := by rw [IntKind.wrap_u64]; omega
         have hn1 : cb ≠ W.heap.size := by
          have h1 := HBX.out.lt
          have h2 := HBG.out.size
          have h3 := HCBE.out
          omega
         have HNE := Lib.hid hn1
         have hn2 : q < cb := by
          have h2 := HBG.out.size
          have h3 := HCBE.out
          rcases HT.out with h | ⟨q', o', e, h4, _⟩
          · exact absurd h hln
          · injection e with e
            injection e with e _
            omega
         have hs3 : (wj.drew.setCell ⟨cb, 34, none⟩ (.int .u64 (tv : Int))).cell? ⟨W.heap.size, 2, none⟩ = some (.slice (some ⟨q, o, none⟩) tn tc) := (World.cell?_of_block (a := ⟨W.heap.size, 2, none⟩) (Below.heap_setCell wj.drew ⟨cb, 34, none⟩ _ W.heap.size (by show W.heap.size ≠ cb; omega))).trans htd
         have hs4 : (wj.drew.setCell ⟨cb, 34, none⟩ (.int .u64 (tv : Int))).cell? ⟨q, o + rr, none⟩ = some (.int .i64 xv) := (World.cell?_of_block (a := ⟨q, o + rr, none⟩) (Below.heap_setCell wj.drew ⟨cb, 34, none⟩ _ q (by show q ≠ cb; omega))).trans htc
         have FIN : Hid (Blk (wj.drew.setCell ⟨cb, 34, none⟩ (.int .u64 (tv : Int))) cb 43 (comQ jT P (tm i)).toArray ∧ ParW (wj.drew.setCell ⟨cb, 34, none⟩ (.int .u64 (tv : Int))) cb P (parQ tm i) ∧ Below cb wg (wj.drew.setCell ⟨cb, 34, none⟩ (.int .u64 (tv : Int)))) := by
          refine ⟨?_, ParW.set (w := wj.drew) HPj.out 34 _, HBj.out.drew.setCell (Nat.le_refl _) _⟩
          have h1 := HKj.out.drew.set_ 34 (.int .u64 (tv : Int))
          rw [comQ_set34] at h1
          rw [etm, ← htv]
          exact h1
         have HWT := Lib.hid (within_any xv 1000 (by omega) (by omega) wj.drew)
         unfold Hid at HWT
         rw [etv] at HWT
         replace HWT := Lib.hid HWT
         have hSS : wj.drew.cell? ⟨W.heap.size, 2, none⟩ = some (.slice (some ⟨q, o, none⟩) tn tc) ∧ wj.drew.cell? ⟨q, o + rr, none⟩ = some (.int .i64 xv) := ⟨htd, htc⟩
         have hSE : (wj.drew.setCell ⟨cb, 34, none⟩ (.int .u64 (tv : Int))).cell? ⟨W.heap.size, 2, none⟩ = some (.slice (some ⟨q, o, none⟩) tn tc) ∧ (wj.drew.setCell ⟨cb, 34, none⟩ (.int .u64 (tv : Int))).cell? ⟨q, o + rr, none⟩ = some (.int .i64 xv) := ⟨hs3, hs4⟩
         clear hti hxv hrr hq htc htd hwl etm htv etv hn2 hs3 hs4 hrb hln hn1 hcT ht0
         go_upto_region 17 with fail
         refine wp_region_noPanic ?_
         refine wp_region_held_drew (S := fun w' => w'.cell? ⟨W.heap.size, 2, none⟩ = some (.slice (some ⟨q, o, none⟩) tn tc) ∧ w'.cell? ⟨q, o + rr, none⟩ = some (.int .i64 xv)) (by kernel_rfl) hSS (fun hHeld => ?_)
         refine wpAnyH_take (i := 0) (oi := { dst := some 95, op := Go.Op.fieldAddr 24 (Go.Operand.tmp 1) 2, type := 0, pos := "outright.go:323", after := #[], guard := none }) (v := .pointer (some ⟨W.heap.size, 2, none⟩)) rfl (by kernel_rfl) ?_ ?_ ?_ ?_ hHeld ?_
         · kernel_rfl
         · kernel_rfl
         · exact fun _ _ _ h => h
         · exact Or.inl ⟨by rfl, fun w' _ => by go_simp⟩
         (try simp only [Act.put, List.setIfInBounds_toArray, List.set_cons_zero, List.set_cons_succ])
         refine wpAnyH_take (i := 1) (oi := { dst := some 96, op := Go.Op.load 22 (Go.Operand.tmp 95), type := 22, pos := "outright.go:323", after := #[{ on := 0, ground := Go.Ground.data }], guard := none }) (v := .slice (some ⟨q, o, none⟩) tn tc) rfl (by kernel_rfl) ?_ ?_ ?_ ?_ hHeld ?_
         · kernel_rfl
         · kernel_rfl
         · exact fun _ _ _ h => h
         · exact Or.inl ⟨by rfl, fun w' hSw => by (try dsimp only at hSw); obtain ⟨hSw1, hSw2⟩ := hSw; go_simp⟩
         (try simp only [Act.put, List.setIfInBounds_toArray, List.set_cons_zero, List.set_cons_succ])
         refine wpAnyH_take (i := 2) (oi := { dst := some 97, op := Go.Op.move (Go.Operand.tmp 7), type := 3, pos := "outright.go:323", after := #[], guard := none }) (v := .int .i64 (i : Int)) rfl (by kernel_rfl) ?_ ?_ ?_ ?_ hHeld ?_
         · kernel_rfl
         · kernel_rfl
         · exact fun _ _ _ h => h
         · exact Or.inl ⟨by rfl, fun w' _ => by go_simp⟩
         (try simp only [Act.put, List.setIfInBounds_toArray, List.set_cons_zero, List.set_cons_succ])
         refine wpAnyH_take (i := 3) (oi := { dst := some 98, op := Go.Op.fieldAddr 24 (Go.Operand.tmp 1) 2, type := 0, pos := "outright.go:323", after := #[], guard := none }) (v := .pointer (some ⟨W.heap.size, 2, none⟩)) rfl (by kernel_rfl) ?_ ?_ ?_ ?_ hHeld ?_
         · kernel_rfl
         · kernel_rfl
         · exact fun _ _ _ h => h
         · exact Or.inl ⟨by rfl, fun w' _ => by go_simp⟩
         (try simp only [Act.put, List.setIfInBounds_toArray, List.set_cons_zero, List.set_cons_succ])
         refine wpAnyH_take (i := 4) (oi := { dst := some 99, op := Go.Op.load 22 (Go.Operand.tmp 98), type := 22, pos := "outright.go:323", after := #[{ on := 3, ground := Go.Ground.data }], guard := none }) (v := .slice (some ⟨q, o, none⟩) tn tc) rfl (by kernel_rfl) ?_ ?_ ?_ ?_ hHeld ?_
         · kernel_rfl
         · kernel_rfl
         · exact fun _ _ _ h => h
         · exact Or.inl ⟨by rfl, fun w' hSw => by (try dsimp only at hSw); obtain ⟨hSw1, hSw2⟩ := hSw; go_simp⟩
         (try simp only [Act.put, List.setIfInBounds_toArray, List.set_cons_zero, List.set_cons_succ])
         refine wpAnyH_take (i := 5) (oi := { dst := some 100, op := Go.Op.call { callee := Go.Callee.builtin Go.Builtin.len, args := #[Go.Operand.tmp 99], argTypes := #[22] }, type := 3, pos := "outright.go:323", after := #[{ on := 4, ground := Go.Ground.data }], guard := none }) (v := .int .i64 (tn : Int)) rfl (by kernel_rfl) ?_ ?_ ?_ ?_ hHeld ?_
         · kernel_rfl
         · kernel_rfl
         · exact fun _ _ _ h => h
         · exact Or.inl ⟨by rfl, fun w' _ => by go_simp⟩
         (try simp only [Act.put, List.setIfInBounds_toArray, List.set_cons_zero, List.set_cons_succ])
         refine wpAnyH_take (i := 6) (oi := { dst := some 101, op := Go.Op.binOp Go.BinOp.rem 3 (Go.Operand.tmp 97) (Go.Operand.tmp 100) 3, type := 3, pos := "outright.go:323", after := #[{ on := 2, ground := Go.Ground.data }, { on := 5, ground := Go.Ground.data }], guard := none }) (v := .int .i64 (rr : Int)) rfl (by kernel_rfl) ?_ ?_ ?_ ?_ hHeld ?_
         · kernel_rfl
         · kernel_rfl
         · exact fun _ _ _ h => h
         · exact Or.inl ⟨by rfl, fun w' _ => by go_simp⟩
         (try simp only [Act.put, List.setIfInBounds_toArray, List.set_cons_zero, List.set_cons_succ])
         refine wpAnyH_take (i := 7) (oi := { dst := some 102, op := Go.Op.indexAddr 22 (Go.Operand.tmp 96) (Go.Operand.tmp 101), type := 0, pos := "outright.go:323", after := #[{ on := 1, ground := Go.Ground.data }, { on := 6, ground := Go.Ground.data }], guard := none }) (v := .pointer (some ⟨q, o + rr, none⟩)) rfl (by kernel_rfl) ?_ ?_ ?_ ?_ hHeld ?_
         · kernel_rfl
         · kernel_rfl
         · exact fun _ _ _ h => h
         · exact Or.inl ⟨by rfl, fun w' _ => by go_simp⟩
         (try simp only [Act.put, List.setIfInBounds_toArray, List.set_cons_zero, List.set_cons_succ])
         refine wpAnyH_take (i := 8) (oi := { dst := some 103, op := Go.Op.load 3 (Go.Operand.tmp 102), type := 3, pos := "outright.go:323", after := #[{ on := 7, ground := Go.Ground.data }], guard := none }) (v := .int .i64 xv) rfl (by kernel_rfl) ?_ ?_ ?_ ?_ hHeld ?_
         · kernel_rfl
         · kernel_rfl
         · exact fun _ _ _ h => h
         · exact Or.inl ⟨by rfl, fun w' hSw => by (try dsimp only at hSw); obtain ⟨hSw1, hSw2⟩ := hSw; go_simp⟩
         (try simp only [Act.put, List.setIfInBounds_toArray, List.set_cons_zero, List.set_cons_succ])
         refine wpAnyH_ready (rs := [9]) (by kernel_rfl) (by simp) ?_
         refine AllReadyH.cons (o := { dst := some 104, op := Go.Op.call { callee := Go.Callee.value (Go.Operand.func 5), args := #[Go.Operand.tmp 103, Go.Operand.const (Go.Value.int Go.IntKind.i64 1000)], argTypes := #[3, 3] }, type := 3, pos := "outright.go:323", after := #[{ on := 8, ground := Go.Ground.data }], guard := none }) rfl (fun K hK => ?_) AllReadyH.nil
         go_simp
         refine HWT.out.mono ?_
         rintro e wz ⟨rfl, rfl⟩
         refine hK.out _ _ hSS (fun hHeld => ?_)
         clear hK K
         (try simp only [Act.put, List.setIfInBounds_toArray, List.set_cons_zero, List.set_cons_succ])
         refine wpAnyH_take (i := 10) (oi := { dst := some 105, op := Go.Op.convert 3 41 (Go.Operand.tmp 104), type := 41, pos := "outright.go:323", after := #[{ on := 9, ground := Go.Ground.data }], guard := none }) (v := .int .u64 (tv : Int)) rfl (by kernel_rfl) ?_ ?_ ?_ ?_ hHeld ?_
         · kernel_rfl
         · kernel_rfl
         · exact fun _ _ _ h => h
         · exact Or.inl ⟨by rfl, fun w' _ => by go_simp⟩
         (try simp only [Act.put, List.setIfInBounds_toArray, List.set_cons_zero, List.set_cons_succ])
         refine wpAnyH_take (i := 11) (oi := { dst := some 106, op := Go.Op.fieldAddr 43 (Go.Operand.tmp 16) 3, type := 0, pos := "outright.go:323", after := #[{ on := 0, ground := Go.Ground.phase }, { on := 1, ground := Go.Ground.phase }, { on := 2, ground := Go.Ground.phase }, { on := 3, ground := Go.Ground.phase }, { on := 4, ground := Go.Ground.phase }, { on := 5, ground := Go.Ground.phase }, { on := 6, ground := Go.Ground.phase }, { on := 7, ground := Go.Ground.phase }, { on := 8, ground := Go.Ground.phase }, { on := 9, ground := Go.Ground.phase }, { on := 10, ground := Go.Ground.phase }], guard := none }) (v := .pointer (some ⟨cb, 34, none⟩)) rfl (by kernel_rfl) ?_ ?_ ?_ ?_ hHeld ?_
         · kernel_rfl
         · kernel_rfl
         · exact fun _ _ _ h => h
         · exact Or.inl ⟨by rfl, fun w' _ => by go_simp⟩
         (try simp only [Act.put, List.setIfInBounds_toArray, List.set_cons_zero, List.set_cons_succ])
         refine wpAnyH_ready (rs := [12]) (by kernel_rfl) (by simp) ?_
         refine AllReadyH.cons (o := { dst := none, op := Go.Op.store 41 (Go.Operand.tmp 106) (Go.Operand.tmp 105), type := 0, pos := "outright.go:323", after := #[{ on := 11, ground := Go.Ground.data }, { on := 10, ground := Go.Ground.data }, { on := 9, ground := Go.Ground.chain }, { on := 0, ground := Go.Ground.phase }, { on := 1, ground := Go.Ground.phase }, { on := 2, ground := Go.Ground.phase }, { on := 3, ground := Go.Ground.phase }, { on := 4, ground := Go.Ground.phase }, { on := 5, ground := Go.Ground.phase }, { on := 6, ground := Go.Ground.phase }, { on := 7, ground := Go.Ground.phase }, { on := 8, ground := Go.Ground.phase }, { on := 9, ground := Go.Ground.phase }, { on := 10, ground := Go.Ground.phase }], guard := none }) rfl (fun K hK => ?_) AllReadyH.nil
         go_simp
         refine hK.out _ _ hSE (fun hHeld => ?_)
         clear hK K
         (try simp only [Act.put, List.setIfInBounds_toArray, List.set_cons_zero, List.set_cons_succ])
         refine wpAnyH_done (by kernel_rfl) ?_ _
         refine NoPanic.normal ?_
         go_wp2_with fail
         go_meet
         case rel => exact ⟨FIN.out.1, FIN.out.2.1, FIN.out.2.2⟩
      case rest =>
       obtain ⟨wk, rfl⟩ : ∃ z : World, z = wc := ⟨_, rfl⟩
       obtain ⟨HKk, HPk, HBk⟩ := hcut
       have hbk : Below wg.heap.size wg wk := by rw [← HCBE.out]; exact HBk.out
       have HSk := Lib.hid (HSg.out.below hbk)
       have HBK : Hid (Below w1.heap.size w1 wk) := HBG.out.trans (hbk.mono HBG.out.size)
       have HOk : Hid (wk.ownsRow w1.heap.size 30 32 (.slice L i lc) i (IdsU (Cids tm i))) := own_below HOg.out hbk
       have HBO : Hid ((Instr.build 47 #[(0, .int .i64 3), (3, .agg (comQ jT P (tm i)).toArray)]).run Tryz.prog wk = .ok (.agg (obL (.int .i64 3) (.slice none 0 0) (.slice none 0 0) (comQ jT P (tm i)) zTag).toArray) wk) := build_ob_com jT P (.string ⟨#[]⟩) (.int .u64 (tm i : Int)) (.string ⟨#[]⟩) wk
       have HEN := Lib.hid (enc_com wk jT P (parQ tm i) (tm i) (HTM.out.2 i) HPk.out.v)
       have HKZ : Hid ((Tryz.prog.info? 43).map (·.size) = some (comQ jT P (tm i)).toArray.size) := by rw [List.size_toArray]; exact comQ_size _ _ _
       have HKN := Lib.hid (kn_com jT (parQ tm i) (tm i) wk P HPk.out.v (HTM.out.2 i))
       have HKR : Hid (wk.heap[cb]? = some (.cells (comQ jT P (tm i)).toArray 43 (0, 0))) := HKk.out
       have hu43 := Tryz.underlying43
       clear hbk HKj HPj HBj HTj HSg HOg HBG HBJ HKk HPk HBk HCBE hcT ht0
       go_upto_region 18 with fail
       refine wp_region_lit ?_
       refine wpList_load_row rfl 43 (.tmp 16) rfl cb rfl 43 (comQ jT P (tm i)).toArray (0, 0) _ HKR.out hu43 rfl HKZ.out ?_
       refine wpList_buildL rfl 47 [(0, .const (.int .i64 3)), (3, .tmp 108)] rfl [(0, .int .i64 3), (3, .agg (comQ jT P (tm i)).toArray)] rfl _ HBO.out ?_
       go_wp2_with fail
       refine HEN.out.mono ?_
       rintro e wl ⟨qc, rfl, hoc, hbl⟩
       have HSl := Lib.hid (HSk.out.below hbl)
       have HBl : Hid (Below w1.heap.size w1 wl) := HBK.out.trans (hbl.mono HBK.out.size)
       have HOl : Hid (wl.ownsRow w1.heap.size 30 32 (.slice L i lc) i (IdsU (Cids tm i))) := own_below HOk.out hbl
       obtain ⟨bc, hbc⟩ : ∃ bc, bc = layOb (obC jT (parQ tm i) (tm i)) := ⟨_, rfl⟩
       unfold Hid at HKN
       rw [← hbc] at hoc HKN
       rw [← hbc]
       replace HKN := Lib.hid HKN
       obtain ⟨lb, hlb⟩ : ∃ lb, lb = bc.length := ⟨_, rfl⟩
       rw [← hlb]
       have HPU := Lib.hid (put_all w1.heap.size a m lb lb ⟨qc, 0, none⟩ ST bc _ wl HSl.out HKN.out (Sl.of_own hoc) hlb.symm (Nat.le_refl _) (by have := HSL.out; have := HCB.out.len; have := HCT.out.len; omega))
       have HBC2 := Lib.hid hbc
       clear hoc hbl hbc hlb HEN HBO HKZ HKR HKN HSk HBK HOk
       go_wp2_with fail
       refine HPU.out.mono ?_
       rintro e wm ⟨jC, xC, eC, SC, rfl, hsC, hgC, hcC⟩
       have HCC : Hid (PutC ST bc jC eC SC) := hcC
       have HSm := Lib.hid hsC
       have HBm : Hid (Below w1.heap.size w1 wm) := HBl.out.trans (below_of_gb_some hgC HSl.out.hm_ HBl.out.size)
       have HOm : Hid (wm.ownsRow w1.heap.size 30 32 (.slice L i lc) i (IdsU (Cids tm i))) := HSl.out.rowk HOl.out hgC
       have HNm := id_new wm
       have HZC := Lib.hid (id_size _ jC.2)
       have HZC2 := Lib.hid (id_size' _ jC.2)
       have HFC := Lib.hid (id_fit _ jC.2)
       clear hsC hgC hcC HPU HSl HBl HOl
       go_upto_region 20 with (with_reducible refine wpList_storeG rfl 30 (.tmp 19) (.tmp 117) rfl wm.heap.size 0 (U jC.1) rfl rfl (U (List.replicate 32 0)) 30 HNm.out HFC.out (U_one _) HZC.out ?_; intro wn HBN0 HGN0)
       have Gn : wm.grownBy wn none := gb_fresh HGN0.out
       have HRn : Hid (wn.heap[wm.heap.size]? = some (.cells (U jC.1).toArray 30 (0, 0))) := by
        have h1 := HBN0.out
        rw [splice_id _ jC.2] at h1
        exact h1
       have HSn := Lib.hid (HSm.out.below (below_of_gb Gn))
       have HBn : Hid (Below w1.heap.size w1 wn) := HBm.out.trans ((below_of_gb Gn).mono HBm.out.size)
       have HOn : Hid (wn.ownsRow w1.heap.size 30 32 (.slice L i lc) i (IdsU (Cids tm i))) := own_below HOm.out (below_of_gb Gn)
       have HNU0 := Lib.hid num0
       have HNU45 : Hid (∀ w : World, Calls Tryz.prog 8 #[.int .i64 45] w fun e w' => e = .returned (.int .i64 45) ∧ w = w') := fun w => num_any 45 w
       have HBEG := Lib.hid (begun_any wn HSn.out.er HSn.out.dg HSO.out)
       have HNUM := Lib.hid (And.intro HCB.out.n (And.intro HCT.out.n HCC.out.n))
       clear HBN0 HGN0 HNm HZC HFC Gn HSm HBm HOm
       rcases HNUM.out.1 with h45 | h45
       · rcases HNUM.out.2.1 with h46 | h46
         · rcases HNUM.out.2.2 with h47 | h47
           · subst h45
             subst h46
             subst h47
             have HNEW : Hid (Line SC tm (i + 1) ∧ jC = shaI (Cq tm i)) := by
              have hLI := HLI.out
              obtain ⟨e1, g1, s1⟩ := HCB.out.new rfl (fun old hg => hLI.newB HTM.out.2 (by omega) hg)
              have e2 : bt = Tq i := by rw [HBT.out, e1]; rfl
              obtain ⟨e3, g3, s3⟩ := HCT.out.new rfl (fun old hg => by
               rw [e2]
               rw [s1, e2] at hg
               exact hLI.newT HTM.out.2 g1 hg)
              rw [e2] at e3 g3 s3
              have e4 : bc = Cq tm i := by rw [HBC2.out, e3, Cq_eq]
              obtain ⟨e5, g5, s5⟩ := HCC.out.new rfl (fun old hg => by
               rw [e4]
               rw [s3, s1, e4] at hg
               rw [s1] at g3
               exact hLI.newC HTM.out.2 g1 g3 hg)
              rw [e4] at e5 g5 s5
              refine ⟨?_, e5⟩
              rw [s5, s3, s1]
              rw [s3, s1] at g5
              rw [s1] at g3
              exact hLI.round HTM.out.2 (by omega) g1 g3 g5
             have HONE : Hid (∀ u ∈ (U jC.1).toArray.toList, u.oneCell' = true) := by unfold Hid; rw [List.toList_toArray]; exact U_one _
             have HAPP : Hid (IdsU (Cids tm i) ++ U jC.1 = IdsU (Cids tm (i + 1))) := by
              unfold Hid
              rw [Cids_succ, ← HNEW.out.2, IdsU_snoc]
             obtain ⟨d0, d1, d2, d3, d4, d5, d6, d7, d8, d9, d10, d11, d12, d13, d14, d15, d16, d17, d18, d19, d20, d21, d22, d23, d24, d25, d26, d27, d28, d29, d30, d31, hU⟩ := id32 jC
             have hr := HRn.out
             have hz := HZC2.out
             unfold Hid at HONE HAPP
             rw [hU] at hr hz HONE HAPP
             replace HONE := Lib.hid HONE
             replace HAPP := Lib.hid HAPP
             have HRL := Lib.hid hr
             have HZL := Lib.hid hz
             obtain ⟨ie, hie, his, hib2, ze, hiz, hzs⟩ := info_id
             have HIE := Lib.hid (And.intro hie (And.intro his (And.intro hib2 (And.intro hiz hzs))))
             clear hr hz hU HRn HZC2 HBEG HNUM HLI HCB HCT HCC HBT HBC2 HNU45 hie his hib2 hiz hzs
             go_wp2_with fail
             refine (HNU0.out _).mono ?_
             rintro e wz ⟨rfl, rfl⟩
             go_wp2_with fail
             refine (HNU0.out _).mono ?_
             rintro e wz ⟨rfl, rfl⟩
             go_wp2_with fail
             refine (HNU0.out _).mono ?_
             rintro e wz ⟨rfl, rfl⟩
             go_wp2_with fail
             refine (HNU0.out _).mono ?_
             rintro e wz ⟨rfl, rfl⟩
             go_wp2_with fail
             refine (HNU0.out _).mono ?_
             rintro e wz ⟨rfl, rfl⟩
             go_wp2_with fail
             refine (HNU0.out _).mono ?_
             rintro e wz ⟨rfl, rfl⟩
             go_wp2_with fail
             refine (HNU0.out _).mono ?_
             rintro e wz ⟨rfl, rfl⟩
             go_wp2_with fail
             refine (HNU0.out _).mono ?_
             rintro e wz ⟨rfl, rfl⟩
             go_wp2_with (first
              | (with_reducible refine wpList_load_row rfl 30 (.tmp 19) rfl wm.heap.size rfl 30 #[d0, d1, d2, d3, d4, d5, d6, d7, d8, d9, d10, d11, d12, d13, d14, d15, d16, d17, d18, d19, d20, d21, d22, d23, d24, d25, d26, d27, d28, d29, d30, d31] (0, 0) _ HRL.out hu30 rfl HZL.out ?_)
              | (at_builtin
                 refine wpList_pushN wn rfl (.tmp 157) (.tmp 159) 28 rfl w1.heap.size 30 ie ze 32 32 Tryz.underlying28 HIE.out.1 HIE.out.2.2.2.1 HIE.out.2.1 HIE.out.2.2.1 HIE.out.2.2.2.2 (by decide) L i lc (IdsU (Cids tm i)) rfl HOn.out #[d0, d1, d2, d3, d4, d5, d6, d7, d8, d9, d10, d11, d12, d13, d14, d15, d16, d17, d18, d19, d20, d21, d22, d23, d24, d25, d26, d27, d28, d29, d30, d31] 1 _ rfl HONE.out rfl ?_ ?_ HBn.out.size ?_
                 · omega
                 · unfold maxLen; omega
                 intro L2 lc2 wo hown hgo hno)
              | fail)
             have HOo : Hid (wo.ownsRow w1.heap.size 30 32 (.slice L2 (i + 1) lc2) (i + 1) (IdsU (Cids tm (i + 1)))) := by
              rw [← HAPP.out]
              exact hown
             have HBo : Hid (Below w1.heap.size w1 wo) := HBn.out.trans ⟨hgo.os, hgo.tape, hgo.output, hgo.size, fun q hq => hgo.block q (Nat.lt_of_lt_of_le hq HBn.out.size) (fun e => by
              cases L with
              | none => simp [Value.ownBlock] at e
              | some p =>
                have h1 := (HOn.out.lt p.block rfl).1
                have h2 : q = p.block := Option.some.inj e
                omega)⟩
             have HSo : Hid (StA wo w1.heap.size a m SC) := HSn.out.push HOn.out (Nat.le_refl _) hgo
             clear hown hgo hno HOn HSn HBn HRL HZL HONE HAPP HIE
             go_roundw
             case rel =>
              exact ⟨i + 1, c + 3, SC, L2, lc2, HLT.out, by go_num, by go_num, rfl, (by have := HC3.out; show c + 3 = 3 * (i + 1); omega), HOo, HNEW.out.1, HSo, HBo⟩
             case measure => have := HLT.out; simp [intOf]; omega
           · subst h45
             subst h46
             subst h47
             have HBN := HBn
             clear HSn HOn HBn HNUM hu30 hu22 hu43 HLI HCB HCT HCC HBT HBC2
             go_wp2_with fail
             refine (HNU0.out _).mono ?_
             rintro e wz ⟨rfl, rfl⟩
             go_wp2_with fail
             refine (HNU0.out _).mono ?_
             rintro e wz ⟨rfl, rfl⟩
             go_wp2_with fail
             refine (HNU45.out _).mono ?_
             rintro e wz ⟨rfl, rfl⟩
             go_wp2_with fail
             refine (HBEG.out).mono ?_
             rintro e wq ⟨rfl, hbq⟩
             have HF : Hid (WdPost W (.returned (.bool true)) wq) := ⟨rfl, HB1.out.trans ((HBN.out.trans (hbq.mono HBN.out.size)).mono HB1.out.size)⟩
             clear hbq HBEG HBN
             go_wp2_with fail
             go_ret
             exact HF.out
         · subst h45
           subst h46
           have HBN := HBn
           clear HSn HOn HBn HNUM hu30 hu22 hu43 HLI HCB HCT HCC HBT HBC2
           go_wp2_with fail
           refine (HNU0.out _).mono ?_
           rintro e wz ⟨rfl, rfl⟩
           go_wp2_with fail
           refine (HNU45.out _).mono ?_
           rintro e wz ⟨rfl, rfl⟩
           go_wp2_with fail
           refine (HBEG.out).mono ?_
           rintro e wq ⟨rfl, hbq⟩
           have HF : Hid (WdPost W (.returned (.bool true)) wq) := ⟨rfl, HB1.out.trans ((HBN.out.trans (hbq.mono HBN.out.size)).mono HB1.out.size)⟩
           clear hbq HBEG HBN
           go_wp2_with fail
           go_ret
           exact HF.out
       · subst h45
         have HBN := HBn
         clear HSn HOn HBn HNUM hu30 hu22 hu43 HLI HCB HCT HCC HBT HBC2
         go_wp2_with fail
         refine (HNU45.out _).mono ?_
         rintro e wz ⟨rfl, rfl⟩
         go_wp2_with fail
         refine (HBEG.out).mono ?_
         rintro e wq ⟨rfl, hbq⟩
         have HF : Hid (WdPost W (.returned (.bool true)) wq) := ⟨rfl, HB1.out.trans ((HBN.out.trans (hbq.mono HBN.out.size)).mono HB1.out.size)⟩
         clear hbq HBEG HBN
         go_wp2_with fail
         go_ret
         exact HF.out
   · have hd1 : decide ((i : Int) < (n : Int)) = false := decide_eq_false (by omega)
     have hd2 : decide (i < n) = false := decide_eq_false hlt
     have hin : i = n := by omega
     subst hin
     obtain ⟨i1, hi1⟩ : ∃ i1, i1 = i - 1 := ⟨_, rfl⟩
     have ei1 : (i : Int) - 1 = (i1 : Int) := by omega
     have ewi1 : IntKind.i64.wrap (i1 : Int) = (i1 : Int) := wraps_i64 _ (by omega) (by omega)
     have b1 : (0 : Int) ≤ (i1 : Int) := by omega
     have b2 : (i1 : Int) < (i : Int) := by omega
     have b3 : i1 < i := by omega
     obtain ⟨q, rfl, hq, hrq, hlc⟩ := own_ids HO.out (by omega)
     obtain ⟨p, hp⟩ : ∃ p, p = (tgtQ tm i 0).1 := ⟨_, rfl⟩
     have hrp : wr.rangeAt q (i1 * 32) (U p.1) := by
      have := own_at HO.out (j := i1) (by rw [Cids_len]; omega)
      rw [Cids_at tm b3] at this
      have e : (tgtQ tm i 0).1 = shaI (Cq tm i1) := by rw [hi1]; rfl
      rw [hp, e]
      exact this
     have HRP := Lib.hid hrp
     have HZP := Lib.hid (id_size _ p.2)
     have HFP := Lib.hid (id_fit _ p.2)
     have HNP := id_new wr
     have HQQ : Hid (q < wr.heap.size) := hq
     have HI1 := Lib.hid hi1
     have HPP := Lib.hid hp
     clear hrp hq hrq hlc hi1 hp hlt hi
     go_upto_region 27 with (first
      | (with_reducible refine wpList_load_mid rfl 30 (.tmp 166) rfl q (i1 * 32) rfl (U p.1) _ HRP.out hu30 rfl HZP.out ?_)
      | (with_reducible refine wpList_storeG rfl 30 (.tmp 22) (.tmp 167) rfl wr.heap.size 0 (U p.1) rfl rfl (U (List.replicate 32 0)) 30 HNP.out HFP.out (U_one _) HZP.out ?_; intro ws HBs HGs))
     have Gs : wr.grownBy ws none := gb_fresh HGs.out
     obtain ⟨tb, htb⟩ : ∃ tb, tb = wr.heap.size := ⟨_, rfl⟩
     rw [← htb]
     have HTB : Hid (Blk ws tb 30 (U (tgtQ tm i 0).1.1).toArray) := by
      have h1 := HBs.out
      rw [splice_id _ p.2, ← htb, HPP.out] at h1
      exact h1
     have HTQ : Hid (q < tb ∧ w1.heap.size ≤ tb) := by rw [htb]; exact ⟨HQQ.out, HB.out.size⟩
     have HBs' : Hid (Below w1.heap.size w1 ws) := HB.out.trans ((below_of_gb Gs).mono HB.out.size)
     have HOs : Hid (ws.ownsRow w1.heap.size 30 32 (.slice (some ⟨q, 0, none⟩) i lc) i (IdsU (Cids tm i))) := own_below HO.out (below_of_gb Gs)
     have HSs := Lib.hid (HST.out.below (below_of_gb Gs))
     have HTG : Hid (Tagd S tm i 0) := Tagd.start HLI.out
     obtain ⟨mT, hmT⟩ : ∃ mT, mT = wi Tg 200 := ⟨_, rfl⟩
     have hmT2 : mT ≤ 200 := by have := wi_lt Tg (m := 200) (by omega); omega
     have eTg : (wi Tg 200 : Int) = (mT : Int) := by rw [hmT]
     have HKD0 : Hid (3 = (tgtQ tm i 0).2) := rfl
     have HC0 : Hid (c = 3 * i + 0) := by have := HC3.out; show c = 3 * i + 0; omega
     clear HBs HGs HNP HRP HZP HFP Gs htb HB HO HST HLI hmT HPP HQQ HC3
     go_wp2_with fail
     go_loopw [6, 23, 24] (fun v6 v23 v24 wr => Wd2 w1 tm a m i mT tb (some ⟨q, 0, none⟩) lc v6 v23 v24 wr) (fun _ _ v24 _ => mT - (intOf v24).toNat)
     case atStart => exact ⟨0, c, 3, S, Nat.zero_le _, rfl, rfl, rfl, HC0, HKD0, HOs, HTG, HSs, HTB, HBs'⟩
     case round =>
      clear HOs HTG HSs HTB HBs' HKD0 HC0 hcb
      obtain ⟨j, c, kd, S, hj, rfl, rfl, rfl, HCJ, HKD, HO, HTG, HST, HTB, HB⟩ := hrel
      have hcb : c ≤ 5000 := by have := HCJ.out; omega
      have hcTg : wr.cell? ⟨W.heap.size, 1, none⟩ = some (.int .i64 Tg) := (HBX.out.below HB.out HBX.out.lt).cell 1
      have HWT : Hid (∀ w : World, Calls Tryz.prog 5 #[.int .i64 Tg, .int .i64 200] w fun e w' => e = .returned (.int .i64 (mT : Int)) ∧ w = w') := fun w => by
       have h := within_any Tg 200 (by omega) (by omega) w
       rw [eTg] at h
       exact h
      by_cases hjm : j < mT
      · have hd5 : decide ((j : Int) < (mT : Int)) = true := decide_eq_true (by omega)
        have hd6 : decide (j < mT) = true := decide_eq_true hjm
        have HJM := Lib.hid hjm
        obtain ⟨tp, htp⟩ : ∃ tp, tp = (tgtQ tm i j).1 := ⟨_, rfl⟩
        have hk := tgtQ_kind tm i j
        rw [← HKD.out] at hk
        have HGQ : Hid (layOb (obG tp kd) = Gq tm i j) := by rw [htp, HKD.out]; exact (Gq_eq tm i j).symm
        unfold Hid at HTB
        rw [← htp] at HTB
        obtain ⟨d0, d1, d2, d3, d4, d5, d6, d7, d8, d9, d10, d11, d12, d13, d14, d15, d16, d17, d18, d19, d20, d21, d22, d23, d24, d25, d26, d27, d28, d29, d30, d31, hU⟩ := id32 tp
        have hrl : wr.heap[tb]? = some (.cells #[d0, d1, d2, d3, d4, d5, d6, d7, d8, d9, d10, d11, d12, d13, d14, d15, d16, d17, d18, d19, d20, d21, d22, d23, d24, d25, d26, d27, d28, d29, d30, d31] 30 (0, 0)) := by
         have h := HTB
         rw [hU] at h
         exact h
        replace HTB := Lib.hid HTB
        have hzl := id_size' _ tp.2
        rw [hU] at hzl
        have HRL := Lib.hid hrl
        have HZL := Lib.hid hzl
        have HENG : Hid (∀ w', Calls Tryz.prog 7 #[.agg #[Value.int IntKind.i64 4, .slice none 0 0, .slice none 0 0, Value.int IntKind.u8 0, Value.int IntKind.u8 0, Value.int IntKind.u8 0, Value.int IntKind.u8 0, Value.int IntKind.u8 0, Value.int IntKind.u8 0, Value.int IntKind.u8 0, Value.int IntKind.u8 0, Value.int IntKind.u8 0, Value.int IntKind.u8 0, Value.int IntKind.u8 0, Value.int IntKind.u8 0, Value.int IntKind.u8 0, Value.int IntKind.u8 0, Value.int IntKind.u8 0, Value.int IntKind.u8 0, Value.int IntKind.u8 0, Value.int IntKind.u8 0, Value.int IntKind.u8 0, Value.int IntKind.u8 0, Value.int IntKind.u8 0, Value.int IntKind.u8 0, Value.int IntKind.u8 0, Value.int IntKind.u8 0, Value.int IntKind.u8 0, Value.int IntKind.u8 0, Value.int IntKind.u8 0, Value.int IntKind.u8 0, Value.int IntKind.u8 0, Value.int IntKind.u8 0, Value.int IntKind.u8 0, Value.int IntKind.u8 0, .slice none 0 0, .string ⟨#[]⟩, .int .u64 0, .string ⟨#[]⟩, d0, d1, d2, d3, d4, d5, d6, d7, d8, d9, d10, d11, d12, d13, d14, d15, d16, d17, d18, d19, d20, d21, d22, d23, d24, d25, d26, d27, d28, d29, d30, d31, .int .i64 (kd : Int), .string ⟨#[116]⟩, .string ⟨#[]⟩, .int .u64 0, .string ⟨#[]⟩]] w' (EncPost w' (Gq tm i j))) := fun w' => by
         have h := enc_tag w' tp kd (.slice none 0 0) (.slice none 0 0) hk.1 hk.2
         rw [ob_tag_litK tp kd d0 d1 d2 d3 d4 d5 d6 d7 d8 d9 d10 d11 d12 d13 d14 d15 d16 d17 d18 d19 d20 d21 d22 d23 d24 d25 d26 d27 d28 d29 d30 d31 hU, HGQ.out] at h
         exact h
        have HKG : Hid (Kn (Gq tm i j) (obG tp kd)) := by
         have h := kn_obG tp kd hk.1 hk.2
         rw [HGQ.out] at h
         exact h
        clear hrl hzl hU htp hk hjm HGQ
        go_wp2_with fail
        refine (HWT.out _).mono ?_
        rintro e wz ⟨rfl, rfl⟩
        clear HWT hcTg
        go_wp2_with (with_reducible refine wpList_load_row rfl 30 (.tmp 22) rfl tb rfl 30 #[d0, d1, d2, d3, d4, d5, d6, d7, d8, d9, d10, d11, d12, d13, d14, d15, d16, d17, d18, d19, d20, d21, d22, d23, d24, d25, d26, d27, d28, d29, d30, d31] (0, 0) _ HRL.out hu30 rfl HZL.out ?_)
        rw [show ((((((((((((((((((((((((((((((((((((((Tryz.zeroCells47.setIfInBounds 0 (Value.int IntKind.i64 4)).setIfInBounds 39 d0).setIfInBounds 40 d1).setIfInBounds 41 d2).setIfInBounds 42 d3).setIfInBounds 43 d4).setIfInBounds 44 d5).setIfInBounds 45 d6).setIfInBounds 46 d7).setIfInBounds 47 d8).setIfInBounds 48 d9).setIfInBounds 49 d10).setIfInBounds 50 d11).setIfInBounds 51 d12).setIfInBounds 52 d13).setIfInBounds 53 d14).setIfInBounds 54 d15).setIfInBounds 55 d16).setIfInBounds 56 d17).setIfInBounds 57 d18).setIfInBounds 58 d19).setIfInBounds 59 d20).setIfInBounds 60 d21).setIfInBounds 61 d22).setIfInBounds 62 d23).setIfInBounds 63 d24).setIfInBounds 64 d25).setIfInBounds 65 d26).setIfInBounds 66 d27).setIfInBounds 67 d28).setIfInBounds 68 d29).setIfInBounds 69 d30).setIfInBounds 70 d31).setIfInBounds 71 (.int .i64 (kd : Int))).setIfInBounds 72 (.string ⟨#[116]⟩)).setIfInBounds 73 (.string ⟨#[]⟩)).setIfInBounds 74 (.int .u64 0)).setIfInBounds 75 (.string ⟨#[]⟩)) = #[Value.int IntKind.i64 4, .slice none 0 0, .slice none 0 0, Value.int IntKind.u8 0, Value.int IntKind.u8 0, Value.int IntKind.u8 0, Value.int IntKind.u8 0, Value.int IntKind.u8 0, Value.int IntKind.u8 0, Value.int IntKind.u8 0, Value.int IntKind.u8 0, Value.int IntKind.u8 0, Value.int IntKind.u8 0, Value.int IntKind.u8 0, Value.int IntKind.u8 0, Value.int IntKind.u8 0, Value.int IntKind.u8 0, Value.int IntKind.u8 0, Value.int IntKind.u8 0, Value.int IntKind.u8 0, Value.int IntKind.u8 0, Value.int IntKind.u8 0, Value.int IntKind.u8 0, Value.int IntKind.u8 0, Value.int IntKind.u8 0, Value.int IntKind.u8 0, Value.int IntKind.u8 0, Value.int IntKind.u8 0, Value.int IntKind.u8 0, Value.int IntKind.u8 0, Value.int IntKind.u8 0, Value.int IntKind.u8 0, Value.int IntKind.u8 0, Value.int IntKind.u8 0, Value.int IntKind.u8 0, .slice none 0 0, .string ⟨#[]⟩, .int .u64 0, .string ⟨#[]⟩, d0, d1, d2, d3, d4, d5, d6, d7, d8, d9, d10, d11, d12, d13, d14, d15, d16, d17, d18, d19, d20, d21, d22, d23, d24, d25, d26, d27, d28, d29, d30, d31, .int .i64 (kd : Int), .string ⟨#[116]⟩, .string ⟨#[]⟩, .int .u64 0, .string ⟨#[]⟩] from by kernel_rfl]
        refine (HENG.out _).mono ?_
        rintro e wa ⟨qg, rfl, hog, hba⟩
        have HSa := Lib.hid (HST.out.below hba)
        have HBa : Hid (Below w1.heap.size w1 wa) := HB.out.trans (hba.mono HB.out.size)
        have HOa : Hid (wa.ownsRow w1.heap.size 30 32 (.slice (some ⟨q, 0, none⟩) i lc) i (IdsU (Cids tm i))) := own_below HO.out hba
        have HTa := Lib.hid (HTB.out.below hba HTB.out.lt)
        obtain ⟨bg, hbg⟩ : ∃ bg, bg = Gq tm i j := ⟨_, rfl⟩
        unfold Hid at HKG
        rw [← hbg] at hog HKG
        rw [← hbg]
        replace HKG := Lib.hid HKG
        obtain ⟨lg, hlg⟩ : ∃ lg, lg = bg.length := ⟨_, rfl⟩
        rw [← hlg]
        have HSLn : Hid (S.length < 8192) := by have := HTG.out.len; show S.length < 8192; omega
        have HPU := Lib.hid (put_all w1.heap.size a m lg lg ⟨qg, 0, none⟩ S bg _ wa HSa.out HKG.out (Sl.of_own hog) hlg.symm (Nat.le_refl _) HSLn.out)
        have HBG := Lib.hid hbg
        clear hog hba hbg hlg HENG HKG HRL HZL HST HB HO HTB HSLn
        go_wp2_with fail
        refine HPU.out.mono ?_
        rintro e wb ⟨jG, xG, eG, SG, rfl, hsG, hgG, hcG⟩
        have HCG : Hid (PutC S bg jG eG SG) := hcG
        have HSb := Lib.hid hsG
        have HBb : Hid (Below w1.heap.size w1 wb) := HBa.out.trans (below_of_gb_some hgG HSa.out.hm_ HBa.out.size)
        have HOb : Hid (wb.ownsRow w1.heap.size 30 32 (.slice (some ⟨q, 0, none⟩) i lc) i (IdsU (Cids tm i))) := HSa.out.rowk HOa.out hgG
        have HTb := Lib.hid (HSa.out.blkk HTa.out hgG)
        have HNb := id_new wb
        have HZG := Lib.hid (id_size _ jG.2)
        have HZG2 := Lib.hid (id_size' _ jG.2)
        have HFG := Lib.hid (id_fit _ jG.2)
        clear hsG hgG hcG HPU HSa HBa HOa HTa
        go_upto_region 32 with (with_reducible refine wpList_storeG rfl 30 (.tmp 27) (.tmp 187) rfl wb.heap.size 0 (U jG.1) rfl rfl (U (List.replicate 32 0)) 30 HNb.out HFG.out (U_one _) HZG.out ?_; intro wc HBc HGc)
        have Gc : wb.grownBy wc none := gb_fresh HGc.out
        have HRc : Hid (wc.heap[wb.heap.size]? = some (.cells (U jG.1).toArray 30 (0, 0))) := by
         have h1 := HBc.out
         rw [splice_id _ jG.2] at h1
         exact h1
        have HSc := Lib.hid (HSb.out.below (below_of_gb Gc))
        have HBC : Hid (Below w1.heap.size w1 wc) := HBb.out.trans ((below_of_gb Gc).mono HBb.out.size)
        have HOc : Hid (wc.ownsRow w1.heap.size 30 32 (.slice (some ⟨q, 0, none⟩) i lc) i (IdsU (Cids tm i))) := own_below HOb.out (below_of_gb Gc)
        have HTc := Lib.hid (HTb.out.below (below_of_gb Gc) HTb.out.lt)
        have HNU0 := Lib.hid num0
        have HNU45 : Hid (∀ w : World, Calls Tryz.prog 8 #[.int .i64 45] w fun e w' => e = .returned (.int .i64 45) ∧ w = w') := fun w => num_any 45 w
        clear HBc HGc HNb Gc HSb HBb HOb HTb
        rcases HCG.out.n with h45 | h45
        · subst h45
          have HNEW : Hid (Tagd SG tm i (j + 1) ∧ jG = (tgtQ tm i (j + 1)).1) := by
           have hT := HTG.out
           obtain ⟨e1, g1, s1⟩ := HCG.out.new rfl (fun old hg => by
            rw [HBG.out]
            rw [HBG.out] at hg
            exact hT.newG HTM.out.2 hg)
           rw [HBG.out] at e1 g1 s1
           refine ⟨?_, ?_⟩
           · rw [s1]
             exact hT.round HTM.out.2 (by have := HJM.out; omega) g1
           · rw [e1]
             unfold tgtQ
             rw [if_neg (by omega)]
             rfl
          obtain ⟨tp2, htp2⟩ : ∃ tp2, tp2 = U tp.1 := ⟨_, rfl⟩
          have hTc : wc.heap[tb]? = some (.cells tp2.toArray 30 (0, 0)) := by rw [htp2]; exact HTc.out
          have HTD := Lib.hid hTc
          have HFT2 : Hid (0 + (U jG.1).length ≤ tp2.length) := by
           rw [htp2, U_length, U_length, tp.2, jG.2]
           exact Nat.le_refl _
          have HTL : Hid (tp2.length = 32) := by rw [htp2, U_length, tp.2]; rfl
          clear htp2 hTc HNU45 HCG HBG
          go_wp2_with fail
          refine (HNU0.out _).mono ?_
          rintro e wz ⟨rfl, rfl⟩
          go_wp2_with fail
          refine (HNU0.out _).mono ?_
          rintro e wz ⟨rfl, rfl⟩
          go_wp2_with (first
           | (with_reducible refine wpList_load_row rfl 30 (.tmp 27) rfl wb.heap.size rfl 30 (U jG.1).toArray (0, 0) _ HRc.out hu30 rfl HZG2.out ?_)
           | (with_reducible refine wpList_storeG rfl 30 (.tmp 22) (.tmp 197) rfl tb 0 (U jG.1) rfl rfl tp2 30 HTD.out HFT2.out (U_one _) HZG.out ?_; intro wd HBd HGd))
          have HTd : Hid (Blk wd tb 30 (U (tgtQ tm i (j + 1)).1.1).toArray) := by
           have h1 := HBd.out
           rw [splice_all _ _ (by rw [HTL.out, U_length, jG.2]), HNEW.out.2] at h1
           exact h1
          have hcTd : Blk wc tb 30 tp2.toArray := HTD.out
          have HSd : Hid (StA wd w1.heap.size a m SG) := HSc.out.blkw hcTd (by decide) (by decide) HTQ.out.2 HGd.out
          have HBd' : Hid (Below w1.heap.size w1 wd) := HBC.out.trans (below_of_gb_some HGd.out HTQ.out.2 HBC.out.size)
          have HOd : Hid (wd.ownsRow w1.heap.size 30 32 (.slice (some ⟨q, 0, none⟩) i lc) i (IdsU (Cids tm i))) := HOc.out.kept HGd.out (.inr (fun e => by
           have e2 : q = tb := Option.some.inj e
           have := HTQ.out.1
           omega))
          have HKD4 : Hid (4 = (tgtQ tm i (j + 1)).2) := by unfold Hid tgtQ; rw [if_neg (by omega)]
          have HCJ2 : Hid (c + 1 = 3 * i + (j + 1)) := by have := HCJ.out; show c + 1 = 3 * i + (j + 1); omega
          clear HBd HGd hcTd HTD HFT2 HTL HSc HBC HOc HRc HZG HZG2 HFG HTc HTG HCJ HKD
          try go_wp2_with fail
          go_roundw
          case rel => exact ⟨j + 1, c + 1, 4, SG, HJM.out, by go_num, by go_num, rfl, HCJ2, HKD4, HOd, HNEW.out.1, HSd, HTd, HBd'⟩
          case measure => have := HJM.out; simp [intOf]; omega
        · subst h45
          have HBEG := Lib.hid (begun_any wc HSc.out.er HSc.out.dg HSO.out)
          clear HSc HOc HTc HRc HTG HCG HBG
          go_wp2_with fail
          refine (HNU45.out _).mono ?_
          rintro e wz ⟨rfl, rfl⟩
          go_wp2_with fail
          refine (HBEG.out).mono ?_
          rintro e wq ⟨rfl, hbq⟩
          have HF : Hid (WdPost W (.returned (.bool true)) wq) := ⟨rfl, HB1.out.trans ((HBC.out.trans (hbq.mono HBC.out.size)).mono HB1.out.size)⟩
          clear hbq HBEG HBC
          go_wp2_with fail
          go_ret
          exact HF.out
      · have hd5 : decide ((j : Int) < (mT : Int)) = false := decide_eq_false (by omega)
        have hd6 : decide (j < mT) = false := decide_eq_false hjm
        have hjj : j = mT := by omega
        subst hjj
        go_wp2_with fail
        refine (HWT.out _).mono ?_
        rintro e wz ⟨rfl, rfl⟩
        clear HWT hcTg
        obtain ⟨wr0, hwr0⟩ : ∃ wr0 : World, wr0 = wr := ⟨_, rfl⟩
        subst hwr0
        rename_i K5 u2o co So Q1 K4 a4 K3 a3 Q0 K2 a2 K1 a1 K0 a0
        revert w1 HBX HB1 HE HD HT HL HSO tm HTM w2 a m D HM K5 wr u2o u8 u9 u10 u11 u12 u13 u14 u15 u16 u17 u18 u19 u20 u21 u48 u49 u50 u51 u52 u53 u54 u55 u56 u57 u58 u59 u60 u61 u62 u63 u64 u65 u66 u67 u68 u69 u70 u71 u72 u73 u74 u75 u76 u77 u78 u79 u80 u81 u82 u83 u84 u85 u86 u87 u88 u89 u90 u91 u92 u93 u94 u95 u96 u97 u98 u99 u100 u101 u102 u103 u104 u105 u106 u107 u108 u109 u110 u111 u112 u113 u114 u115 u116 u117 u118 u119 u120 u121 u122 u123 u124 u125 u126 u127 u128 u129 u130 u131 u132 u133 u134 u135 u136 u137 u138 u139 u140 u141 u142 u143 u144 u145 u146 u147 u148 u149 u150 u151 u152 u153 u154 u155 u156 u157 u158 u159 u160 u161 u162 i co So lc hu30 hnb hn1 en ewn HNN hd1 hd2 i1 ei1 ewi1 b1 b2 b3 q p HI1 Q1 K4 a4 ws K3 a3 tb HTQ u2 u25 u26 u27 u28 u29 u168 u169 u170 u171 u172 u173 u174 u175 u176 u177 u178 u179 u180 u181 u182 u183 u184 u185 u186 u187 u188 u189 u190 u191 u192 u193 u194 u195 u196 u197 u198 u199 j c kd S HCJ HKD HTG hcb hmT2 eTg hj hjm hd5 hd6 Q0 K2 a2 K1 a1 K0 a0 wr0 HO HST HTB HB
        exact hP.out
end Go.Proofs.YtnjhjbmngoeobaaGreatDoor
