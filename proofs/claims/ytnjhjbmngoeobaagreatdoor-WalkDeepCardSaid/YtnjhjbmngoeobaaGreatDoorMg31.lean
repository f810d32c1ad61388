/- Laws towards WalkDeep: PopA, RdyA, OrdQ. -/
import Derived.Test.YtnjhjbmngoeobaaGreatDoorMg30
import Derived.Test.YtnjhjbmngoeobaaGreatDoorMg28
namespace Go.Proofs.YtnjhjbmngoeobaaGreatDoor
open Go.RowKit Go.Maps
set_option maxRecDepth 100000
def zeroDat : Dat := (zeroId, 0)
theorem zdat_lit : (#[Value.int IntKind.u8 0, Value.int IntKind.u8 0, Value.int IntKind.u8 0, Value.int IntKind.u8 0, Value.int IntKind.u8 0, Value.int IntKind.u8 0, Value.int IntKind.u8 0, Value.int IntKind.u8 0, Value.int IntKind.u8 0, Value.int IntKind.u8 0, Value.int IntKind.u8 0, Value.int IntKind.u8 0, Value.int IntKind.u8 0, Value.int IntKind.u8 0, Value.int IntKind.u8 0, Value.int IntKind.u8 0, Value.int IntKind.u8 0, Value.int IntKind.u8 0, Value.int IntKind.u8 0, Value.int IntKind.u8 0, Value.int IntKind.u8 0, Value.int IntKind.u8 0, Value.int IntKind.u8 0, Value.int IntKind.u8 0, Value.int IntKind.u8 0, Value.int IntKind.u8 0, Value.int IntKind.u8 0, Value.int IntKind.u8 0, Value.int IntKind.u8 0, Value.int IntKind.u8 0, Value.int IntKind.u8 0, Value.int IntKind.u8 0, Value.int IntKind.u64 0] : Array Value) = (datV zeroDat).toArray := by rfl
theorem dat_new (w : World) : Hid ((w.alloc (.cells #[Value.int IntKind.u8 0, Value.int IntKind.u8 0, Value.int IntKind.u8 0, Value.int IntKind.u8 0, Value.int IntKind.u8 0, Value.int IntKind.u8 0, Value.int IntKind.u8 0, Value.int IntKind.u8 0, Value.int IntKind.u8 0, Value.int IntKind.u8 0, Value.int IntKind.u8 0, Value.int IntKind.u8 0, Value.int IntKind.u8 0, Value.int IntKind.u8 0, Value.int IntKind.u8 0, Value.int IntKind.u8 0, Value.int IntKind.u8 0, Value.int IntKind.u8 0, Value.int IntKind.u8 0, Value.int IntKind.u8 0, Value.int IntKind.u8 0, Value.int IntKind.u8 0, Value.int IntKind.u8 0, Value.int IntKind.u8 0, Value.int IntKind.u8 0, Value.int IntKind.u8 0, Value.int IntKind.u8 0, Value.int IntKind.u8 0, Value.int IntKind.u8 0, Value.int IntKind.u8 0, Value.int IntKind.u8 0, Value.int IntKind.u8 0, Value.int IntKind.u64 0] 95)).heap[w.heap.size]? = some (.cells (datV zeroDat).toArray 95 (0, 0))) := by
 show _ = _
 rw [zdat_lit]
 exact heap_alloc_new w _
theorem DV.range0 {w : World} {g n c qa : Nat} {x : Dat} {q : List Dat} (h : DV w g (some ⟨qa, 0, none⟩) n c (x :: q)) : w.rangeAt qa 0 (datV x) := fun k v hv => by
 have e : DatU (x :: q) = datV x ++ DatU q := by simp [DatU]
 have h1 := h.own.cells (g := qa) rfl k v (by rw [e, List.getElem?_append_left (List.getElem?_eq_some_iff.1 hv).1]; exact hv)
 rw [addr_add] at h1
 exact h1
theorem splice_dat (x : Dat) : splice (datV zeroDat) 0 (datV x) = datV x := splice_all _ _ (by rw [datV_length, datV_length])
theorem dat_fit (x : Dat) : 0 + (datV x).length ≤ (datV zeroDat).length := by rw [datV_length, datV_length]; decide
theorem DatU_set0 (x y : Dat) (r : List Dat) : splice (DatU (x :: r)) 0 (datV y) = DatU (y :: r) := by
 have e1 : DatU (x :: r) = datV x ++ DatU r := by simp [DatU]
 have e2 : DatU (y :: r) = datV y ++ DatU r := by simp [DatU]
 unfold splice
 rw [e1, e2, Nat.zero_add, datV_length, List.take_zero, List.nil_append, List.drop_left' (datV_length x)]
theorem own_rowD {w : World} {qa n c : Nat} {x : Dat} {r : List Dat} (h : w.ownsRow 0 95 33 (.slice (some ⟨qa, 0, none⟩) n c) n (DatU (x :: r))) : ∃ cur : List Value, w.heap[qa]? = some (.cells cur.toArray 95 (0, 0)) ∧ 33 ≤ cur.length ∧
 ∀ (y : Dat) (w' : World), w'.heap[qa]? = some (.cells (splice cur 0 (datV y)).toArray 95 (0, 0)) → w'.ownsRow 0 95 33 (.slice (some ⟨qa, 0, none⟩) n c) n (DatU (y :: r)) := by
 have hl := h.1
 rw [DatU_length, List.length_cons] at hl
 rcases h.2 with ⟨hv, _⟩ | ⟨g, cap, cur, hv, hb, hh, hc, hm, hz, ht⟩
 · cases hv
 · injection hv with h1 h2 h3
   injection h1 with h1
   injection h1 with h1
   subst h1 h3
   have hcl : n * 33 ≤ cur.toList.length := by rw [Array.length_toList, hz]; exact Nat.mul_le_mul_right _ hc
   refine ⟨cur.toList, by simpa using hh, by omega, fun y w' hw' => ⟨by rw [DatU_length, List.length_cons, hl], .inr ⟨qa, c, _, rfl, hb, hw', hc, hm, ?_, ?_⟩⟩⟩
   · rw [List.size_toArray]
     unfold splice
     simp only [List.take_zero, List.nil_append, Nat.zero_add, List.length_append, List.length_drop, Array.length_toList, hz]
     rw [datV_length]
     rw [Array.length_toList, hz] at hcl
     omega
   · rw [List.toList_toArray, splice_take _ _ _ (by rw [datV_length]; omega), ht, DatU_set0]
def PopRelD (w6 : World) (v6 v51 : Value) (wr : World) : Prop := ∃ j : Nat, j ≤ 2 ∧ v6 = .int .i64 0 ∧ v51 = .int .i64 (j : Int) ∧ Hid (Below w6.heap.size w6 wr)
set_option maxHeartbeats 4000000 in
theorem pop_d (g n c : Nat) (A : Option Addr) (x : Dat) (w : World) (h : DV w g A n c (x :: ([] : List Dat))) :
 Calls Tryz.prog 36 #[.pointer (some ⟨g, 0, none⟩)] w fun e w' => e = .returned (.agg (datV x).toArray) ∧ DPost w g A ([]) w' := by
 have hlen := h.len
 rw [List.length_cons] at hlen
 obtain ⟨qa, hqa⟩ : ∃ qa, A = some ⟨qa, 0, none⟩ := by
  obtain ⟨qa, cap, hv, _, _⟩ := h.own.form (by omega)
  injection hv with hv1
  exact ⟨qa, hv1⟩
 subst hqa
 obtain ⟨wA, hwA⟩ : ∃ wA, wA = w.alloc (.cells (datV zeroDat).toArray 95) := ⟨_, rfl⟩
 have HZ := Lib.hid zdat_lit
 have hgb : w.grownBy wA none := by rw [hwA]; exact gb_alloc (gb_refl w none) _
 have HQA : Hid (DV wA g (some ⟨qa, 0, none⟩) n c (x :: ([] : List Dat))) := ⟨h.blk.gb hgb (by simp), own_below h.own (below_of_gb hgb)⟩
 have HGA := Lib.hid hgb
 have HT : Hid (wA.heap[w.heap.size]? = some (.cells (datV zeroDat).toArray 95 (0, 0)) ∧ w.heap.size < wA.heap.size) := ⟨by rw [hwA]; exact heap_alloc_new w _, by rw [hwA]; simp⟩
 have HWA := Lib.hid hwA
 have HR0 : Hid (wA.rangeAt qa 0 (datV x)) := HQA.out.range0
 have HS := Lib.hid (dat_size x)
 have HSx := Lib.hid (dat_size' x)
 have HFT := Lib.hid (dat_fit x)
 have HNW := dat_new wA
 have hc0 := HQA.out.blk.cell 0
 simp at hc0
 have hu30 := Tryz.underlying95
 obtain ⟨ln, hln⟩ : ∃ ln, ln = 0 := ⟨_, rfl⟩
 rw [List.length_nil] at hlen
 have eln : (n : Int) - 1 = (ln : Int) := by omega
 have ewl : IntKind.i64.wrap (ln : Int) = (ln : Int) := wraps_i64 _ (by omega) (by omega)
 have b1 : (0 : Int) ≤ (ln : Int) := by omega
 have b2 : (ln : Int) < (n : Int) := by omega
 have b3 : (0 : Int) < (n : Int) := by omega
 have b4 : (0 : Nat) < n := by omega
 have b5 : ln < n := by omega
 have b6 : (ln : Int) ≤ (c : Int) := by have := own_cap h.own; omega
 have hlb : ln ≤ 1000001 := by omega
 have HLN := Lib.hid hln
 have HN := Lib.hid hlen
 have HHA := Lib.hid (And.intro h.blk (And.intro h.own h.blk.lt))
 clear h hgb hwA hln hlen
 go_enter Tryz.func36, Tryz.ntmps36
 go_upto_region 1 with fail
 rw [HZ.out, ← HWA.out]
 clear HWA HZ
 go_step3
 go_upto_region 2 with (first
  | (with_reducible refine wpList_load_mid rfl 95 (.tmp 13) rfl qa 0 rfl (datV x) _ HR0.out hu30 rfl HS.out ?_)
  | (with_reducible refine wpList_storeG rfl 95 (.tmp 3) (.tmp 14) rfl wA.heap.size 0 (datV x) rfl rfl (datV zeroDat) 95 HNW.out HFT.out (datV_one _) HS.out ?_; intro w1 HB1 HG1))
 have G1 : wA.grownBy w1 none := gb_fresh HG1.out
 have HX1 : Hid (Blk w1 wA.heap.size 95 (datV x).toArray) := by
  have h1 := HB1.out
  rw [splice_dat x] at h1
  exact h1
 have HT1 : Hid (w1.heap[w.heap.size]? = some (.cells (datV zeroDat).toArray 95 (0, 0)) ∧ w.heap.size < wA.heap.size) := ⟨(G1.block _ HT.out.2 (by simp)).trans HT.out.1, HT.out.2⟩
 have HQ1 : Hid (DV w1 g (some ⟨qa, 0, none⟩) n c (x :: ([] : List Dat))) := ⟨HQA.out.blk.gb G1 (by simp), own_below HQA.out.own (below_of_gb G1)⟩
 have HG1w : Hid (w.grownBy w1 none) := gb_trans HGA.out G1
 have hc1 := HQ1.out.blk.cell 0
 simp at hc1
 clear HB1 HG1 HNW HR0 hc0 HT HQA HGA G1
 go_upto_region 3 with fail
 obtain ⟨xl, hxl⟩ : ∃ xl, xl = x := ⟨_, rfl⟩
 have hrl : w1.drew.rangeAt qa (ln * 33) (datV xl) := by rw [hxl, HLN.out, Nat.zero_mul]; exact HQ1.out.range0
 have HSl := Lib.hid (dat_size xl)
 have HXL := Lib.hid hxl
 obtain ⟨cur, hcur, hcl, hown⟩ := own_rowD HQ1.out.own
 have HCU : Hid (w1.drew.heap[qa]? = some (.cells cur.toArray 95 (0, 0))) := hcur
 have HFT2 : Hid (0 + (datV xl).length ≤ cur.length) := by unfold Hid; rw [datV_length]; omega
 have HOW := Lib.hid (hown xl)
 clear hxl hcur hcl hown
 refine wp_region_still_tail 12 (by kernel_rfl) (by kernel_rfl) ?_
 change wpStill _ _ w1.drew (fun a' => wpList _ _ _ _ a' w1.drew) _ _
 simp only [List.take_succ_cons, List.take_zero, List.drop_succ_cons, List.drop_zero]
 iterate 10 still_step
 refine wpStill_step (fun K hK => ?_)
 rw [if_pos (by rfl)]
 refine still_load_mid 95 (.tmp 30) rfl qa (ln * 33) rfl (datV xl) _ hrl hu30 rfl HSl.out ?_
 refine hK _ ?_
 clear hK K
 still_step
 refine wpStill_nil ?_
 go_upto_region 4 with (with_reducible refine wpList_storeG rfl 95 (.tmp 32) (.tmp 31) rfl qa 0 (datV xl) rfl rfl cur 95 HCU.out HFT2.out (datV_one _) HSl.out ?_; intro w2 HB2 HG2)
 have hgl := HHA.out.2.2
 have hqa := (HHA.out.2.1.lt qa rfl).2
 have hgq : g ≠ qa := fun e => own_blk_ne HHA.out.2.1 HHA.out.1 (by decide) (by rw [e]; rfl)
 have HQ2 : Hid (DV w2 g (some ⟨qa, 0, none⟩) n c (xl :: ([] : List Dat))) := ⟨HQ1.out.blk.drew.gb HG2.out (by simpa using hgq), HOW.out w2 HB2.out⟩
 have HX2 : Hid (Blk w2 wA.heap.size 95 (datV x).toArray ∧ w2.heap[w.heap.size]? = some (.cells (datV zeroDat).toArray 95 (0, 0)) ∧ w.heap.size < wA.heap.size) :=
  ⟨HX1.out.drew.gb HG2.out (by have := HT1.out.2; simp; omega), (HG2.out.block _ (show w.heap.size < w1.heap.size from Nat.lt_trans HT1.out.2 HX1.out.lt) (by simp; omega)).trans HT1.out.1, HT1.out.2⟩
 have HK2 : Hid (Kpt w w2 g (some ⟨qa, 0, none⟩)) := by
  have h1 : Kpt w w1.drew g (some ⟨qa, 0, none⟩) := ⟨HG1w.out.os, HG1w.out.tape, HG1w.out.output, HG1w.out.size, fun k hk _ _ => HG1w.out.block k hk (by simp)⟩
  exact h1.trans (Nw.refl _ _) (Kpt.of_gb (n := 0) (c := 0) HG2.out)
 have hc2 := HQ2.out.blk.cell 0
 have hf2 := HQ2.out.blk.frozen 0
 simp at hc2
 have HQ3 : Hid (DV (w2.setCell ⟨g, 0, none⟩ (.slice (some ⟨qa, 0, none⟩) ln c)) g (some ⟨qa, 0, none⟩) ln c ([])) := by
  refine ⟨by have := HQ2.out.blk.set_ 0 (.slice (some ⟨qa, 0, none⟩) ln c); simpa using this, ?_⟩
  have h1 := own_short HQ2.out.own (k := ln) (by omega) b4
  have e0 : (DatU (xl :: ([] : List Dat))).take (ln * 33) = DatU [] := by rw [HLN.out, Nat.zero_mul, List.take_zero]; rfl
  rw [e0] at h1
  exact own_set_other h1 (a := ⟨g, 0, none⟩) (own_blk_ne h1 HQ2.out.blk (by decide)) (.slice (some ⟨qa, 0, none⟩) ln c)
 have HX3 : Hid (Blk (w2.setCell ⟨g, 0, none⟩ (.slice (some ⟨qa, 0, none⟩) ln c)) wA.heap.size 95 (datV x).toArray ∧ Blk (w2.setCell ⟨g, 0, none⟩ (.slice (some ⟨qa, 0, none⟩) ln c)) w.heap.size 95 (datV zeroDat).toArray ∧ w.heap.size < wA.heap.size) :=
  ⟨HX2.out.1.far (p := ⟨g, 0, none⟩) (by have := HX2.out.2.2; show wA.heap.size ≠ g; omega) _, (show Blk w2 w.heap.size _ _ from HX2.out.2.1).far (p := ⟨g, 0, none⟩) (by show w.heap.size ≠ g; omega) _, HX2.out.2.2⟩
 have HK3 : Hid (Kpt w (w2.setCell ⟨g, 0, none⟩ (.slice (some ⟨qa, 0, none⟩) ln c)) g (some ⟨qa, 0, none⟩)) := HK2.out.set_ _
 clear HB2 HG2 HQ1 HX1 HT1 HG1w HCU HFT2 HOW HQ2 HX2 HK2 hc1 hrl
 go_upto_region 5 with fail
 generalize w2.setCell ⟨g, 0, none⟩ (.slice (some ⟨qa, 0, none⟩) ln c) = w3 at *
 clear hc2 hf2
 go_wp2_with fail
 go_step3
 go_wp2_with fail
 refine wp_loop_rounds 1 ?_
 rw [rounds_succ]
 go_wp2_with fail
 obtain ⟨w4, hw4⟩ : ∃ w4, w4 = w3.alloc (.cells #[.int .i64 1, .int .i64 2] 3) := ⟨_, rfl⟩
 have hb4 : Below w3.heap.size w3 w4 := by rw [hw4]; exact (Below.refl _ _).alloc (Nat.le_refl _) _
 have HB4 := Lib.hid hb4
 have HV4 : Hid (Blk w4 w3.heap.size 3 #[.int .i64 1, .int .i64 2]) := by rw [hw4]; exact Blk.new _ _ _
 rw [← hw4]
 clear hw4 hb4
 go_loopw [6, 51] (fun v6 v51 wr => PopRelD w4 v6 v51 wr) (fun _ v51 _ => 2 - (intOf v51).toNat)
 case atStart => exact ⟨0, by omega, rfl, rfl, Below.refl _ _⟩
 case round =>
  obtain ⟨j, hj, rfl, rfl, HBR⟩ := hrel
  by_cases hj2 : j < 2
  · have hd2 : decide ((j : Int) < 2) = true := decide_eq_true (by omega)
    have hd2' : decide (j < 2) = true := decide_eq_true (by omega)
    obtain ⟨k1, hk1⟩ : ∃ k1, k1 = j + 1 := ⟨_, rfl⟩
    have ek1 : (j : Int) + 1 = (k1 : Int) := by omega
    have hv : wr.cell? ⟨w3.heap.size, j, none⟩ = some (.int .i64 (k1 : Int)) := by
     have hV := HV4.out.below HBR.out HV4.out.lt
     rw [hV.cell, hk1]
     rcases (by omega : j = 0 ∨ j = 1) with rfl | rfl <;> rfl
    have d1 : (0 : Int) ≤ (j : Int) := by omega
    have d2 : (j : Int) < 2 := by omega
    have hk1b : k1 ≤ 2 := by omega
    have ewk : IntKind.i64.wrap (k1 : Int) = (k1 : Int) := wraps_i64 _ (by omega) (by omega)
    have HMS : Hid (2 - k1 < 2 - j) := by unfold Hid; omega
    clear hk1
    by_cases hkl : k1 < ln
    · exact absurd HLN.out (by omega)
    · have he1 : decide ((k1 : Int) < (ln : Int)) = false := decide_eq_false (by omega)
      have he2 : decide (k1 < ln) = false := decide_eq_false hkl
      go_wp2_with fail
      go_quiet (fail)
      have HB5 : Hid (Below w4.heap.size w4 (wr.drewN nq)) := below_drewN HBR.out nq
      go_wp2_with fail
      go_roundw
      case rel => exact ⟨k1, hk1b, rfl, rfl, HB5⟩
      case measure => have := HMS.out; simp [intOf]; omega
  · have hd2 : decide ((j : Int) < 2) = false := decide_eq_false (by omega)
    have hd2' : decide (j < 2) = false := decide_eq_false (by omega)
    have hbw : Below w3.heap.size w3 wr := HB4.out.trans (HBR.out.mono HB4.out.size)
    have HXR : Hid (wr.heap[wA.heap.size]? = some (.cells (datV x).toArray 95 (0, 0))) := (hbw.block _ HX3.out.1.lt).trans HX3.out.1
    have HTR : Hid (wr.heap[w.heap.size]? = some (.cells (datV zeroDat).toArray 95 (0, 0))) := (hbw.block _ HX3.out.2.1.lt).trans HX3.out.2.1
    have HQR : Hid (DV wr g (some ⟨qa, 0, none⟩) ln c ([])) := ⟨HQ3.out.blk.below hbw HQ3.out.blk.lt, own_below HQ3.out.own hbw⟩
    have HKR : Hid (Kpt w wr g (some ⟨qa, 0, none⟩)) := ⟨hbw.os.trans HK3.out.os, hbw.tape.trans HK3.out.tape, hbw.output.trans HK3.out.output, Nat.le_trans HK3.out.size hbw.size, fun k hk hg hA => (hbw.block k (Nat.lt_of_lt_of_le hk HK3.out.size)).trans (HK3.out.block k hk hg hA)⟩
    have hgq : g ≠ w.heap.size := by have := HHA.out.2.2; omega
    have hqq : qa ≠ w.heap.size := by have := (HHA.out.2.1.lt qa rfl).2; omega
    clear hbw
    go_wp2_with (first
     | (with_reducible refine wpList_load_row rfl 95 (.tmp 3) rfl wA.heap.size rfl 95 (datV x).toArray (0, 0) _ HXR.out hu30 rfl HSx.out ?_)
     | (with_reducible refine wpList_storeG rfl 95 (.tmp 2) (.tmp 111) rfl w.heap.size 0 (datV x) rfl rfl (datV zeroDat) 95 HTR.out HFT.out (datV_one _) HS.out ?_; intro w8 HB8 HG8))
    have HRW : Hid (w8.heap[w.heap.size]? = some (.cells (datV x).toArray 95 (0, 0))) := by
     have h1 := HB8.out
     rw [splice_dat x] at h1
     exact h1
    have HF : Hid (DPost w g (some ⟨qa, 0, none⟩) ([]) w8) := by
     refine ⟨_, ln, c, ⟨HQR.out.blk.gb HG8.out (by simpa using hgq), HQR.out.own.kept HG8.out (.inr (by simpa [Value.ownBlock] using hqq))⟩, Nw.refl _ _, ?_⟩
     exact ⟨HG8.out.os.trans HKR.out.os, HG8.out.tape.trans HKR.out.tape, HG8.out.output.trans HKR.out.output, Nat.le_trans HKR.out.size HG8.out.size, fun k hk hg hA => (HG8.out.block k (Nat.lt_of_lt_of_le hk HKR.out.size) (by simp; omega)).trans (HKR.out.block k hk hg hA)⟩
    try rw [Exit.noGoto_ret]
    exact bodyPost_ret (v := .agg (datV x).toArray) (results_cell_row Tryz.results36 _ w8 w.heap.size 95 (datV x).toArray (0, 0) _ rfl HRW.out hu30 rfl HSx.out) rfl ⟨rfl, HF.out⟩
theorem DPost.after {w w1 w' : World} {g : Nat} {A : Option Addr} {q : List Dat} (hb : Below w.heap.size w w1) (h : DPost w1 g A q w') : DPost w g A q w' := by
 obtain ⟨A', n', c', h1, h2, h3⟩ := h
 refine ⟨A', n', c', h1, fun p hp => ?_, ⟨h3.os.trans hb.os, h3.tape.trans hb.tape, h3.output.trans hb.output, Nat.le_trans hb.size h3.size, fun k hk hg hA => (h3.block k (Nat.lt_of_lt_of_le hk hb.size) hg hA).trans (hb.block k hk)⟩⟩
 rcases h2 p hp with h4 | h4
 · exact .inl h4
 · exact .inr (Nat.le_trans hb.size h4)
def ReadyP (w : World) (g : Nat) (A : Option Addr) (i : Id) (e : Ending) (w' : World) : Prop := e = .returned (.tuple #[]) ∧ ∃ t, DPost w g A [(i, t)] w'
set_option maxHeartbeats 4000000 in
theorem ready_any (w0 w : World) (B0 m a : Nat) (S : Sto) (Ds : DataW Value) (sb nb nq n c : Nat) (A : Option Addr) (i : Id) (he : Env w0 B0 a m S Ds) (hb : Below w0.heap.size w0 w) (hsb : Blk w sb 25 #[.pointer (some ⟨a, 0, none⟩)]) (hnb : Blk w nb 93 #[.pointer (some ⟨nq, 0, none⟩)])
 (hq : DV w nq A n c []) (hi : i ∈ idsS S) (h3 : kindS S i = 3) :
 Calls Tryz.prog 33 #[.agg (U i.1).toArray, .pointer (some ⟨sb, 0, none⟩), .pointer (some ⟨nb, 0, none⟩)] w (ReadyP w nq A i) := by
 obtain ⟨wb, hwb⟩ : ∃ wb, wb = w.alloc (.cells (U i.1).toArray 30) := ⟨_, rfl⟩
 have hbb : Below w.heap.size w wb := by rw [hwb]; exact (Below.refl _ _).alloc (Nat.le_refl _) _
 have HR : Hid (Blk wb w.heap.size 30 (U i.1).toArray) := by rw [hwb]; exact Blk.new _ _ _
 have hbw : Below w0.heap.size w0 wb := hb.trans (hbb.mono hb.size)
 obtain ⟨b, o, hgb, hkn, ek, _⟩ := he.kn.get hi
 obtain ⟨cm, rfl⟩ : ∃ cm, o = .commit cm := by
  rw [h3] at ek
  cases o with
  | blob _ => simp [kindOb] at ek
  | tree _ => simp [kindOb] at ek
  | commit c => exact ⟨c, rfl⟩
  | tag _ => simp [kindOb] at ek
 have HG := Lib.hid (get_store B0 a m S Ds i wb (he.at_ hbw).1 b hgb hkn.2.2.1 hkn.2.2.2.1)
 have hcs : wb.cell? ⟨sb, 0, none⟩ = some (.pointer (some ⟨a, 0, none⟩)) := (hsb.below hbb hsb.lt).cell 0
 have HKN := Lib.hid hkn
 have HE : Hid (ErrTab wb) := (he.at_ hbw).2
 have HB := Lib.hid hbb
 have HWB := Lib.hid hwb
 have HNB : Hid (Blk wb nb 93 #[.pointer (some ⟨nq, 0, none⟩)]) := hnb.below hbb hnb.lt
 have HQ : Hid (DV wb nq A n c []) := hq.below hbb
 have HSZ2 := Lib.hid (id_size' _ i.2)
 have HR0 : Hid (wb.heap[w.heap.size]? = some (.cells (U i.1).toArray 30 (0, 0))) := HR.out
 have hu30 := Tryz.underlying30
 obtain ⟨bn, hbn⟩ : ∃ bn, bn = b.length := ⟨_, rfl⟩
 unfold Hid at HG
 rw [← hbn] at HG
 replace HG := Lib.hid HG
 have HBN := Lib.hid hbn
 clear hwb hbb hbw he hb hsb hnb hq hi h3 hgb hkn ek hbn
 go_enter Tryz.func33, Tryz.ntmps33
 go_upto_region 1 with fail
 rw [← HWB.out]
 clear HWB
 go_wp2_with (with_reducible refine wpList_load_row rfl 30 (.tmp 3) rfl w.heap.size rfl 30 (U i.1).toArray (0, 0) _ HR0.out hu30 rfl HSZ2.out ?_)
 refine HG.out.mono ?_
 rintro e w1 ⟨A1, c1, rfl, ho1, hb1⟩
 have HB1 : Hid (Below wb.heap.size wb w1) := hb1
 have HP := Lib.hid (parseW_any (.commit cm) bn c1 A1 w1 (fun wA hg => by
  rw [HBN.out]
  exact HKN.out.2.2.2.2 A1 c1 wA ((Sl.of_own ho1).below (below_of_gb hg)) ((HE.out.below hb1 HE.out.lt).gbn hg)))
 clear ho1 hb1 HG
 go_wp2_with fail
 refine HP.out.mono ?_
 rintro e w2 ⟨l, rfl, hl, hb2⟩
 have HN2 : Hid ((w2.alloc (.cells Tryz.zeroCells47 47)).heap[w2.heap.size]? = some (.cells zOb.toArray 47 (0, 0))) := ob_new w2
 have HB2 : Hid (Below wb.heap.size wb w2) := HB1.out.trans (hb2.mono HB1.out.size)
 have HL := Lib.hid hl
 have HSI : Hid ((Tryz.prog.info? 47).map (·.size) = some l.length) := by rw [hl.1]; exact info_ob
 have HFT : Hid (0 + l.length ≤ zOb.length) := by rw [hl.1]; exact Nat.le_refl _
 have HON : Hid (∀ v ∈ l, v.oneCell' = true) := hl.2.1
 clear hl hb2 HP HB1
 go_upto_region 3 with (with_reducible refine wpList_storeG rfl 47 (.tmp 6) (.tmp 17) rfl w2.heap.size 0 l rfl rfl zOb 47 HN2.out HFT.out HON.out HSI.out ?_; intro w3 HB3 HG3)
 have HRW : Hid (Blk w3 w2.heap.size 47 l.toArray) := by
  have h1 := HB3.out
  rw [splice_all _ _ (by rw [HL.out.1]; rfl)] at h1
  exact h1
 have HBW3 : Hid (Below wb.heap.size wb w3) := HB2.out.trans ((below_of_gb (gb_fresh HG3.out)).mono HB2.out.size)
 have HR3 : Hid (Blk w3 w.heap.size 30 (U i.1).toArray) := HR.out.below HBW3.out HR.out.lt
 have hcn : w3.cell? ⟨nb, 0, none⟩ = some (.pointer (some ⟨nq, 0, none⟩)) := (HNB.out.below HBW3.out HNB.out.lt).cell 0
 have hct : w3.cell? ⟨w2.heap.size, 37, none⟩ = some (.int .u64 (cm.time : Int)) := by rw [HRW.out.cell, List.getElem?_toArray, HL.out.2.2.2 cm rfl]
 have HPU := Lib.hid (push_d nq n c A [] (i, cm.time) w3 (HQ.out.below HBW3.out) rfl)
 obtain ⟨d0, d1, d2, d3, d4, d5, d6, d7, d8, d9, d10, d11, d12, d13, d14, d15, d16, d17, d18, d19, d20, d21, d22, d23, d24, d25, d26, d27, d28, d29, d30, d31, hU⟩ := id32 i
 have ed : datV (i, cm.time) = [d0, d1, d2, d3, d4, d5, d6, d7, d8, d9, d10, d11, d12, d13, d14, d15, d16, d17, d18, d19, d20, d21, d22, d23, d24, d25, d26, d27, d28, d29, d30, d31, .int .u64 (cm.time : Int)] := by
  show U i.1 ++ _ = _
  rw [hU]
  rfl
 have hr3 : w3.heap[w.heap.size]? = some (.cells #[d0, d1, d2, d3, d4, d5, d6, d7, d8, d9, d10, d11, d12, d13, d14, d15, d16, d17, d18, d19, d20, d21, d22, d23, d24, d25, d26, d27, d28, d29, d30, d31] 30 (0, 0)) := by have h := HR3.out; rw [hU] at h; exact h
 have hs3 : (Tryz.prog.info? 30).map (·.size) = some (#[d0, d1, d2, d3, d4, d5, d6, d7, d8, d9, d10, d11, d12, d13, d14, d15, d16, d17, d18, d19, d20, d21, d22, d23, d24, d25, d26, d27, d28, d29, d30, d31] : Array Value).size := by have h := HSZ2.out; rw [hU] at h; exact h
 have HR4 := Lib.hid hr3
 have HS4 := Lib.hid hs3
 unfold Hid at HPU
 rw [ed] at HPU
 replace HPU := Lib.hid HPU
 have HBB : Hid (Below w.heap.size w w3) := HB.out.trans (HBW3.out.mono HB.out.size)
 clear HB3 HG3 HN2 HSI HFT HON HL HRW HBW3 HR3 HB2 HQ HNB HR HR0 HSZ2 hU ed hr3 hs3 HKN HE HB
 go_wp2_with (with_reducible refine wpList_load_row rfl 30 (.tmp 3) rfl w.heap.size rfl 30 #[d0, d1, d2, d3, d4, d5, d6, d7, d8, d9, d10, d11, d12, d13, d14, d15, d16, d17, d18, d19, d20, d21, d22, d23, d24, d25, d26, d27, d28, d29, d30, d31] (0, 0) _ HR4.out hu30 rfl HS4.out ?_)
 refine HPU.out.mono ?_
 rintro e w4 ⟨rfl, hq4⟩
 have HF : Hid (ReadyP w nq A i (.returned (.tuple #[])) w4) := ⟨rfl, cm.time, hq4.after HBB.out⟩
 clear hq4 HPU
 go_wp2_with fail
 go_end0
 exact HF.out
theorem row_cells {w : World} {base e size n c : Nat} {A : Option Addr} {xs : List Value} (h : w.ownsRow base e size (.slice A n c) n xs) : ∀ p, A = some p → ∃ cur : Array Value, Blk w p.block e cur := fun p hp => by
 rcases h.2 with ⟨hv, _⟩ | ⟨g, cap, cur, hv, _, hh, _⟩
 · injection hv with h1
   rw [hp] at h1
   cases h1
 · injection hv with h1
   rw [hp] at h1
   have h2 := Option.some.inj h1
   rw [h2]
   exact ⟨cur, hh⟩
theorem iter_apart {w : World} {k mk r n : Nat} {R : Value → Option (DataW Value × List MemPlace)} {D : DataW Value} {left : Lit → Bool} {cnt g : Nat} {t : TypeId} {cs : Array Value} (h : w.ranges Tryz.prog k R mk r n D left cnt) (hb : Blk w g t cs) : r ≠ g := by
 obtain ⟨es, clock, since, seen, c0, _, _, _, _, hr, _⟩ := h
 rintro rfl
 rw [show w.heap[r]? = _ from hb] at hr
 cases hr
theorem OM.tight {w : World} {mk n : Nat} {D : DataW Value} (h : OM w mk n D) : OM w mk (Maps.size D) D := by
 obtain ⟨es, clock, hb, F, _, rfl⟩ := h
 refine ⟨es, clock, hb, F, ?_, rfl⟩
 simp [Maps.size, length_sorted]
theorem OM.len_ {w : World} {mk n : Nat} {D : DataW Value} {f : Id → Nat} {ks : List Id} (h : OM w mk n D) (k : FunM f ks D) : OM w mk ks.length D := by
 have := h.tight
 rw [k.size] at this
 exact this
structure DQ (w : World) (W0 nbx nq : Nat) (A : Option Addr) (n c : Nat) (q : List Dat) : Prop where
 box : Blk w nbx 93 #[.pointer (some ⟨nq, 0, none⟩)]
 dv : DV w nq A n c q
 bs : W0 ≤ nq ∧ W0 ≤ nbx
 bA : ∀ p, A = some p → W0 ≤ p.block
section
variable {w w' : World} {W0 nbx nq : Nat} {A : Option Addr} {n c : Nat} {q : List Dat}
theorem DQ.below (h : DQ w W0 nbx nq A n c q) (hb : Below w.heap.size w w') : DQ w' W0 nbx nq A n c q := ⟨h.box.below hb h.box.lt, h.dv.below hb, h.bs, h.bA⟩
theorem DQ.turned {mb m : Nat} {E : DataW Value} (h : DQ w W0 nbx nq A n c q) (hm : OM w mb m E) (ht : w.mapTurned w' mb) : DQ w' W0 nbx nq A n c q :=
 ⟨mapTurned_blk h.box ht (ownsMap_apart hm h.box), ⟨mapTurned_blk h.dv.blk ht (ownsMap_apart hm h.dv.blk), mapTurned_own h.dv.own hm ht⟩, h.bs, h.bA⟩
theorem DQ.gb {base n' c' : Nat} {O : Option Addr} {xs : List Value} (h : DQ w W0 nbx nq A n c q) (ho : w.ownsRow base 30 32 (.slice O n' c') n' xs) (hg : w.grownBy w' (Value.slice O n' c').ownBlock) : DQ w' W0 nbx nq A n c q :=
 ⟨h.box.gb hg (fun e => own_blk_ne ho h.box (by decide) e.symm), ⟨h.dv.blk.gb hg (fun e => own_blk_ne ho h.dv.blk (by decide) e.symm), h.dv.own.kept hg (own_apart h.dv.own ho (by decide))⟩, h.bs, h.bA⟩
theorem DQ.post {q' : List Dat} (h : DQ w W0 nbx nq A n c q) (hW : W0 ≤ w.heap.size) (hp : DPost w nq A q' w') :
 (∃ A' n' c', DQ w' W0 nbx nq A' n' c' q') ∧ Below W0 w w' ∧ (∀ g t cs, Blk w g t cs → t ≠ 100 → t ≠ 95 → Blk w' g t cs) ∧ (∀ mb m E, OM w mb m E → OM w' mb m E) ∧ (∀ mk r m D left cnt, RM w mk r m D left cnt → RM w' mk r m D left cnt) ∧
   ∀ base O n' c' xs, w.ownsRow base 30 32 (.slice O n' c') n' xs → w'.ownsRow base 30 32 (.slice O n' c') n' xs := by
 obtain ⟨A', n', c', h1, h2, h3⟩ := hp
 have hrow := row_cells h.dv.own
 have keep : ∀ g t cs, Blk w g t cs → t ≠ 100 → t ≠ 95 → Blk w' g t cs := fun g t cs hb ht ht2 =>
  h3.blk hb (Blk.ne_ hb h.dv.blk ht) (fun p hp e => by
   obtain ⟨cur, hc⟩ := hrow p hp
   exact Blk.ne_ hc hb (Ne.symm ht2) e)
 refine ⟨⟨A', n', c', keep _ _ _ h.box (by decide) (by decide), h1, h.bs, fun p hp => ?_⟩, h3.below hW h.bs.1 h.bA, keep, fun mb m E hm => ?_, fun mk r m D left cnt hr => ?_, fun base O n' c' xs ho => ?_⟩
 · rcases h2 p hp with ⟨p0, h4, e⟩ | h4
   · rw [e]; exact h.bA p0 h4
   · exact Nat.le_trans hW h4
 · have hlt := hm.lt
   have h5 : w'.heap[mb]? = w.heap[mb]? := h3.block mb hlt (fun e => ownsMap_apart hm h.dv.blk e) (fun p hp e => by
    obtain ⟨cur, hc⟩ := hrow p hp
    exact ownsMap_apart hm hc e.symm)
   obtain ⟨es, clock, hb, F, hn, hD⟩ := hm
   exact ⟨es, clock, h5.trans hb, F, hn, hD⟩
 · have hm : OM w mk m D := hr.owns
   have h5 : w'.heap[mk]? = w.heap[mk]? := h3.block mk hm.lt (fun e => ownsMap_apart hm h.dv.blk e) (fun p hp e => by
    obtain ⟨cur, hc⟩ := hrow p hp
    exact ownsMap_apart hm hc e.symm)
   have h6 : w'.heap[r]? = w.heap[r]? := h3.block r hr.lt (fun e => iter_apart hr h.dv.blk e) (fun p hp e => by
    obtain ⟨cur, hc⟩ := hrow p hp
    exact iter_apart hr hc e.symm)
   obtain ⟨es, clock, since, seen, c0, hb, F, hs, hD, hi, rest⟩ := hr
   exact ⟨es, clock, since, seen, c0, h5.trans hb, F, hs, hD, h6.trans hi, rest⟩
 · refine ⟨ho.1, ?_⟩
   rcases ho.2 with h4 | ⟨g, cap, cur, hv, hb, hh, r⟩
   · exact .inl h4
   · exact .inr ⟨g, cap, cur, hv, hb, keep g 30 cur hh (by decide) (by decide), r⟩
end
theorem Chn.kids {S : Sto} {ch : List Id} (C : Chn S ch) (p : Id) : (∃ c ∈ ch, p ∈ prs S c) ↔ ∃ j, 0 < j ∧ j < ch.length ∧ p = ch.getD j zeroId := by
 constructor
 · rintro ⟨c, hc, hp⟩
   obtain ⟨k, hk, rfl⟩ := at_D hc
   rw [C.par k hk] at hp
   by_cases h : k + 1 < ch.length
   · rw [if_pos h, List.mem_singleton] at hp
     exact ⟨k + 1, by omega, h, hp⟩
   · rw [if_neg h] at hp
     cases hp
 · rintro ⟨j, h0, hj, rfl⟩
   refine ⟨ch.getD (j - 1) zeroId, getD_mem (by omega), ?_⟩
   rw [C.par (j - 1) (by omega), if_pos (by omega), show j - 1 + 1 = j by omega]
   simp
theorem dat_id {w : World} {q : Nat} {x : Dat} (h : w.rangeAt q 0 (datV x)) : w.rangeAt q 0 (U x.1.1) := fun k v hv => h k v (by
 unfold datV
 rw [List.getElem?_append_left (List.getElem?_eq_some_iff.1 hv).1]
 exact hv)
def sliceLen (v : Value) : Nat := match v with | .slice _ n _ => n | _ => 0
def Ord2 (wb : World) (mk r n : Nat) (D : DataW Value) (S : Sto) (ch : List Id) (mb : Nat) (wr : World) : Prop :=
 ∃ (left : Lit → Bool) (cnt : Nat) (ws : List Id) (E : DataW Value), Hid (RM wr mk r n D left cnt) ∧ Hid (∀ kl, left kl = true → has D kl = true) ∧ Hid (OM wr mb ws.length E ∧ FunM (fun _ => 1) ws E) ∧ Hid (∀ p, p ∈ ws ↔ ∃ c ∈ ch, left (ik c) = false ∧ p ∈ prs S c) ∧ Hid (Below wb.heap.size wb wr)
def Ord4 (wb : World) (mk r n : Nat) (D : DataW Value) (p0 : Id) (mb m : Nat) (E : DataW Value) (nbx nq : Nat) (wr : World) : Prop :=
 ∃ (left : Lit → Bool) (cnt : Nat) (A : Option Addr) (qn qc : Nat) (q : List Dat), Hid (RM wr mk r n D left cnt) ∧ Hid (∀ kl, left kl = true → has D kl = true) ∧ Hid (OM wr mb m E) ∧ Hid (DQ wr wb.heap.size nbx nq A qn qc q) ∧ Hid ((left (ik p0) = true → q = []) ∧ (left (ik p0) = false → ∃ t, q = [(p0, t)])) ∧ Hid (Below wb.heap.size wb wr)
def Ord5 (wb : World) (ch : List Id) (mb nbx nq : Nat) (v : Value) (wr : World) : Prop :=
 ∃ (k : Nat) (O : Option Addr) (oc : Nat) (A : Option Addr) (qn qc : Nat) (q : List Dat) (ws : List Id) (E : DataW Value), k ≤ ch.length ∧ v = .slice O k oc ∧ Hid (wr.ownsRow wb.heap.size 30 32 (.slice O k oc) k (IdsU (ch.take k))) ∧
  Hid (OM wr mb ws.length E ∧ FunM (fun _ => 1) ws E) ∧ Hid (DQ wr wb.heap.size nbx nq A qn qc q) ∧ Hid ((k < ch.length → ∃ t, q = [(ch.getD k zeroId, t)]) ∧ (k = ch.length → q = [])) ∧ Hid (∀ p, p ∈ ws ↔ ∃ j, k < j ∧ j < ch.length ∧ p = ch.getD j zeroId) ∧ Hid (Below wb.heap.size wb wr)
end Go.Proofs.YtnjhjbmngoeobaaGreatDoor
