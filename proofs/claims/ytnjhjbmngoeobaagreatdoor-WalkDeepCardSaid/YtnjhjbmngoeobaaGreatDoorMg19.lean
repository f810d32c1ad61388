/- Laws towards WalkDeep: QueB, QueC, QueD. -/
import Derived.Test.YtnjhjbmngoeobaaGreatDoorMg18
import Derived.Test.YtnjhjbmngoeobaaGreatDoorMg15
import Derived.WalkMore
import Derived.Maps.RangeWalk
namespace Go.Proofs.YtnjhjbmngoeobaaGreatDoor
open Go.RowKit Go.Maps
set_option maxRecDepth 100000
theorem IdsU_set0 (x y : Id) (r : List Id) : splice (IdsU (x :: r)) 0 (U y.1) = IdsU (y :: r) := by
 have e1 : IdsU (x :: r) = U x.1 ++ IdsU r := by simp [IdsU]
 have e2 : IdsU (y :: r) = U y.1 ++ IdsU r := by simp [IdsU]
 have l1 : (U x.1).length = 32 := by rw [U_length]; exact x.2
 have l2 : (U y.1).length = 32 := by rw [U_length]; exact y.2
 unfold splice
 rw [e1, e2, Nat.zero_add, l2, List.take_zero, List.nil_append, List.drop_left' l1]
theorem IdsU_take (q : List Id) (n : Nat) : (IdsU q).take (n * 32) = IdsU (q.take n) := by
 induction q generalizing n with
 | nil => simp [IdsU]
 | cons x q ih =>
   have e : IdsU (x :: q) = U x.1 ++ IdsU q := by simp [IdsU]
   have l1 : (U x.1).length = 32 := by rw [U_length]; exact x.2
   cases n with
   | zero => simp [IdsU]
   | succ n =>
     have e2 : IdsU ((x :: q).take (n + 1)) = U x.1 ++ IdsU (q.take n) := by simp [IdsU]
     rw [e, e2, List.take_append, l1, show (n + 1) * 32 - 32 = n * 32 by omega, ih n, List.take_of_length_le (by rw [l1]; omega)]
theorem popL_eq (x : Id) (r : List Id) : popL (x :: r) = (((x :: r).getD r.length zeroId) :: r).take r.length := by
 rw [popL_cons]
 by_cases h : r = []
 · rw [dif_pos h, h]; rfl
 · rw [dif_neg h]
   have hl := List.length_pos_iff.2 h
   obtain ⟨k, hk⟩ : ∃ k, r.length = k + 1 := ⟨r.length - 1, by omega⟩
   have e1 : (x :: r).getD r.length zeroId = r.getLast h := by
    rw [hk, List.getD_cons_succ, List.getLast_eq_getElem, List.getD_eq_getElem?_getD, List.getElem?_eq_getElem (by omega), Option.getD_some]
    congr 1
    omega
   rw [e1, hk, List.take_succ_cons, List.dropLast_eq_take, hk]
   rfl
theorem own_short {w : World} {e : TypeId} {size n c : Nat} {A : Option Addr} {xs : List Value} (h : w.ownsRow 0 e size (.slice A n c) n xs) {k : Nat} (hk : k ≤ n) (hs : 0 < n) : w.ownsRow 0 e size (.slice A k c) k (xs.take (k * size)) := by
 have hl := h.1
 refine ⟨by rw [List.length_take, hl, Nat.min_eq_left (Nat.mul_le_mul_right _ hk)], ?_⟩
 rcases h.2 with ⟨hv, _⟩ | ⟨g, cap, cur, hv, hb, hh, hc, hm, hz, ht⟩
 · injection hv with _ h2 _
   omega
 · injection hv with h1 h2 h3
   subst h1 h3
   refine .inr ⟨g, c, cur, rfl, hb, hh, by omega, hm, hz, ?_⟩
   rw [← ht, List.take_take, Nat.min_eq_left (Nat.mul_le_mul_right _ hk)]
theorem splice_take {α : Type} (cur cs : List α) (m : Nat) (h1 : cs.length ≤ m) : (splice cur 0 cs).take m = splice (cur.take m) 0 cs := by
 unfold splice
 rw [List.take_zero, List.take_zero, List.nil_append, List.nil_append, Nat.zero_add, List.take_append, List.take_of_length_le h1, List.drop_take]
theorem own_row0 {w : World} {qa n c : Nat} {x : Id} {r : List Id} (h : w.ownsRow 0 30 32 (.slice (some ⟨qa, 0, none⟩) n c) n (IdsU (x :: r))) : ∃ cur : List Value, w.heap[qa]? = some (.cells cur.toArray 30 (0, 0)) ∧ 32 ≤ cur.length ∧
 ∀ (y : Id) (w' : World), w'.heap[qa]? = some (.cells (splice cur 0 (U y.1)).toArray 30 (0, 0)) → w'.ownsRow 0 30 32 (.slice (some ⟨qa, 0, none⟩) n c) n (IdsU (y :: r)) := by
 have hl := h.1
 rw [IdsU_length, List.length_cons] at hl
 rcases h.2 with ⟨hv, _⟩ | ⟨g, cap, cur, hv, hb, hh, hc, hm, hz, ht⟩
 · cases hv
 · injection hv with h1 h2 h3
   injection h1 with h1
   injection h1 with h1
   subst h1 h3
   have hcl : n * 32 ≤ cur.toList.length := by rw [Array.length_toList, hz]; exact Nat.mul_le_mul_right _ hc
   refine ⟨cur.toList, by simpa using hh, by omega, fun y w' hw' => ⟨by rw [IdsU_length, List.length_cons, hl], .inr ⟨qa, c, _, rfl, hb, hw', hc, hm, ?_, ?_⟩⟩⟩
   · rw [List.size_toArray]
     unfold splice
     simp only [List.take_zero, List.nil_append, Nat.zero_add, List.length_append, List.length_drop, Array.length_toList, hz]
     rw [U_length, y.2]
     rw [Array.length_toList, hz] at hcl
     omega
   · rw [List.toList_toArray, splice_take _ _ _ (by rw [U_length, y.2]; omega), ht, IdsU_set0]
def PopRel (w6 : World) (v6 v51 : Value) (wr : World) : Prop := ∃ j : Nat, j ≤ 2 ∧ v6 = .int .i64 0 ∧ v51 = .int .i64 (j : Int) ∧ Hid (Below w6.heap.size w6 wr)
set_option maxHeartbeats 4000000 in
theorem pop_any (g n c : Nat) (A : Option Addr) (x : Id) (r : List Id) (w : World) (h : QV w g A n c (x :: r)) (hn : n ≤ 1000001) :
 Calls Tryz.prog 48 #[.pointer (some ⟨g, 0, none⟩)] w fun e w' => e = .returned (.agg (U x.1).toArray) ∧ QPost w g A (popL (x :: r)) w' := by
 have hlen := h.len
 rw [List.length_cons] at hlen
 obtain ⟨qa, hqa⟩ : ∃ qa, A = some ⟨qa, 0, none⟩ := by
  obtain ⟨qa, cap, hv, _, _⟩ := h.own.form (by omega)
  injection hv with hv1
  exact ⟨qa, hv1⟩
 subst hqa
 obtain ⟨wA, hwA⟩ : ∃ wA, wA = w.alloc (.cells (idC []) 30) := ⟨_, rfl⟩
 have HZ := Lib.hid z32_id
 have hgb : w.grownBy wA none := by rw [hwA]; exact gb_alloc (gb_refl w none) _
 have HQA : Hid (QV wA g (some ⟨qa, 0, none⟩) n c (x :: r)) := ⟨h.blk.gb hgb (by simp), own_below h.own (below_of_gb hgb)⟩
 have HGA := Lib.hid hgb
 have HT : Hid (wA.heap[w.heap.size]? = some (.cells (U (List.replicate 32 0)).toArray 30 (0, 0)) ∧ w.heap.size < wA.heap.size) := ⟨by rw [hwA, idT_eq]; exact heap_alloc_new w _, by rw [hwA]; simp⟩
 have HWA := Lib.hid hwA
 have HR0 : Hid (wA.rangeAt qa 0 (U x.1)) := by
  have := HQA.out.range (j := 0) (by omega)
  rw [Nat.zero_mul] at this
  exact this
 have HS := Lib.hid (id_size _ x.2)
 have HSx := Lib.hid (id_size' _ x.2)
 have HFT := Lib.hid (id_fit _ x.2)
 have HNW := id_new wA
 have hc0 := HQA.out.blk.cell 0
 simp at hc0
 have hu30 := Tryz.underlying30
 obtain ⟨ln, hln⟩ : ∃ ln, ln = r.length := ⟨_, rfl⟩
 have eln : (n : Int) - 1 = (ln : Int) := by omega
 have ewl : IntKind.i64.wrap (ln : Int) = (ln : Int) := wraps_i64 _ (by omega) (by omega)
 have b1 : (0 : Int) ≤ (ln : Int) := by omega
 have b2 : (ln : Int) < (n : Int) := by omega
 have b3 : (0 : Int) < (n : Int) := by omega
 have b4 : (0 : Nat) < n := by omega
 have b5 : ln < n := by omega
 have b6 : (ln : Int) ≤ (c : Int) := by have := own_cap h.own; omega
 have hlb : ln ≤ 1000001 := by omega
 have HLN := Lib.hid hln
 have HN := Lib.hid hlen
 have HHA := Lib.hid (And.intro h.blk (And.intro h.own h.blk.lt))
 clear h hgb hwA hln hlen
 go_enter Tryz.func48, Tryz.ntmps48
 go_upto_region 1 with fail
 rw [HZ.out, ← HWA.out]
 clear HWA HZ
 go_step3
 go_upto_region 2 with (first
  | (with_reducible refine wpList_load_mid rfl 30 (.tmp 13) rfl qa 0 rfl (U x.1) _ HR0.out hu30 rfl HS.out ?_)
  | (with_reducible refine wpList_storeG rfl 30 (.tmp 3) (.tmp 14) rfl wA.heap.size 0 (U x.1) rfl rfl (U (List.replicate 32 0)) 30 HNW.out HFT.out (U_one _) HS.out ?_; intro w1 HB1 HG1))
 have G1 : wA.grownBy w1 none := gb_fresh HG1.out
 have HX1 : Hid (Blk w1 wA.heap.size 30 (U x.1).toArray) := by
  have h1 := HB1.out
  rw [splice_id _ x.2] at h1
  exact h1
 have HT1 : Hid (w1.heap[w.heap.size]? = some (.cells (U (List.replicate 32 0)).toArray 30 (0, 0)) ∧ w.heap.size < wA.heap.size) := ⟨(G1.block _ HT.out.2 (by simp)).trans HT.out.1, HT.out.2⟩
 have HQ1 : Hid (QV w1 g (some ⟨qa, 0, none⟩) n c (x :: r)) := ⟨HQA.out.blk.gb G1 (by simp), own_below HQA.out.own (below_of_gb G1)⟩
 have HG1w : Hid (w.grownBy w1 none) := gb_trans HGA.out G1
 have hc1 := HQ1.out.blk.cell 0
 simp at hc1
 clear HB1 HG1 HNW HR0 hc0 HT HQA HGA G1
 go_upto_region 3 with fail
 obtain ⟨xl, hxl⟩ : ∃ xl, xl = (x :: r).getD ln zeroId := ⟨_, rfl⟩
 have hrl : w1.drew.rangeAt qa (ln * 32) (U xl.1) := by rw [hxl]; exact HQ1.out.range b5
 have HSl := Lib.hid (id_size _ xl.2)
 have HXL := Lib.hid hxl
 obtain ⟨cur, hcur, hcl, hown⟩ := own_row0 HQ1.out.own
 have HCU : Hid (w1.drew.heap[qa]? = some (.cells cur.toArray 30 (0, 0))) := hcur
 have HFT2 : Hid (0 + (U xl.1).length ≤ cur.length) := by unfold Hid; rw [U_length, xl.2]; omega
 have HOW := Lib.hid (hown xl)
 clear hxl hcur hcl hown
 refine wp_region_still_tail 12 (by kernel_rfl) (by kernel_rfl) ?_
 change wpStill _ _ w1.drew (fun a' => wpList _ _ _ _ a' w1.drew) _ _
 simp only [List.take_succ_cons, List.take_zero, List.drop_succ_cons, List.drop_zero]
 iterate 10 still_step
 refine wpStill_step (fun K hK => ?_)
 rw [if_pos (by rfl)]
 refine still_load_mid 30 (.tmp 30) rfl qa (ln * 32) rfl (U xl.1) _ hrl hu30 rfl HSl.out ?_
 refine hK _ ?_
 clear hK K
 still_step
 refine wpStill_nil ?_
 go_upto_region 4 with (with_reducible refine wpList_storeG rfl 30 (.tmp 32) (.tmp 31) rfl qa 0 (U xl.1) rfl rfl cur 30 HCU.out HFT2.out (U_one _) HSl.out ?_; intro w2 HB2 HG2)
 have hgl := HHA.out.2.2
 have hqa := (HHA.out.2.1.lt qa rfl).2
 have hgq : g ≠ qa := fun e => own_blk_ne HHA.out.2.1 HHA.out.1 (by decide) (by rw [e]; rfl)
 have HQ2 : Hid (QV w2 g (some ⟨qa, 0, none⟩) n c (xl :: r)) := ⟨HQ1.out.blk.drew.gb HG2.out (by simpa using hgq), HOW.out w2 HB2.out⟩
 have HX2 : Hid (Blk w2 wA.heap.size 30 (U x.1).toArray ∧ w2.heap[w.heap.size]? = some (.cells (U (List.replicate 32 0)).toArray 30 (0, 0)) ∧ w.heap.size < wA.heap.size) :=
  ⟨HX1.out.drew.gb HG2.out (by have := HT1.out.2; simp; omega), (HG2.out.block _ (show w.heap.size < w1.heap.size from Nat.lt_trans HT1.out.2 HX1.out.lt) (by simp; omega)).trans HT1.out.1, HT1.out.2⟩
 have HK2 : Hid (Kpt w w2 g (some ⟨qa, 0, none⟩)) := by
  have h1 : Kpt w w1.drew g (some ⟨qa, 0, none⟩) := ⟨HG1w.out.os, HG1w.out.tape, HG1w.out.output, HG1w.out.size, fun k hk _ _ => HG1w.out.block k hk (by simp)⟩
  exact h1.trans (Nw.refl _ _) (Kpt.of_gb (n := 0) (c := 0) HG2.out)
 have hc2 := HQ2.out.blk.cell 0
 have hf2 := HQ2.out.blk.frozen 0
 simp at hc2
 have HQ3 : Hid (QV (w2.setCell ⟨g, 0, none⟩ (.slice (some ⟨qa, 0, none⟩) ln c)) g (some ⟨qa, 0, none⟩) ln c (popL (x :: r))) := by
  refine ⟨by have := HQ2.out.blk.set_ 0 (.slice (some ⟨qa, 0, none⟩) ln c); simpa using this, ?_⟩
  have h1 := own_short HQ2.out.own (k := ln) (by omega) b4
  rw [IdsU_take] at h1
  have h2 := own_set_other h1 (a := ⟨g, 0, none⟩) (own_blk_ne h1 HQ2.out.blk (by decide)) (.slice (some ⟨qa, 0, none⟩) ln c)
  rw [popL_eq, ← HLN.out, ← HXL.out]
  exact h2
 have HX3 : Hid (Blk (w2.setCell ⟨g, 0, none⟩ (.slice (some ⟨qa, 0, none⟩) ln c)) wA.heap.size 30 (U x.1).toArray ∧ Blk (w2.setCell ⟨g, 0, none⟩ (.slice (some ⟨qa, 0, none⟩) ln c)) w.heap.size 30 (U (List.replicate 32 0)).toArray ∧ w.heap.size < wA.heap.size) :=
  ⟨HX2.out.1.far (p := ⟨g, 0, none⟩) (by have := HX2.out.2.2; show wA.heap.size ≠ g; omega) _, (show Blk w2 w.heap.size _ _ from HX2.out.2.1).far (p := ⟨g, 0, none⟩) (by show w.heap.size ≠ g; omega) _, HX2.out.2.2⟩
 have HK3 : Hid (Kpt w (w2.setCell ⟨g, 0, none⟩ (.slice (some ⟨qa, 0, none⟩) ln c)) g (some ⟨qa, 0, none⟩)) := HK2.out.set_ _
 clear HB2 HG2 HQ1 HX1 HT1 HG1w HCU HFT2 HOW HQ2 HX2 HK2 hc1 hrl
 go_upto_region 5 with fail
 generalize w2.setCell ⟨g, 0, none⟩ (.slice (some ⟨qa, 0, none⟩) ln c) = w3 at *
 clear hc2 hf2
 go_wp2_with fail
 go_step3
 go_wp2_with fail
 refine wp_loop_rounds 1 ?_
 rw [rounds_succ]
 go_wp2_with fail
 obtain ⟨w4, hw4⟩ : ∃ w4, w4 = w3.alloc (.cells #[.int .i64 1, .int .i64 2] 3) := ⟨_, rfl⟩
 have hb4 : Below w3.heap.size w3 w4 := by rw [hw4]; exact (Below.refl _ _).alloc (Nat.le_refl _) _
 have HB4 := Lib.hid hb4
 have HV4 : Hid (Blk w4 w3.heap.size 3 #[.int .i64 1, .int .i64 2]) := by rw [hw4]; exact Blk.new _ _ _
 rw [← hw4]
 clear hw4 hb4
 go_loopw [6, 51] (fun v6 v51 wr => PopRel w4 v6 v51 wr) (fun _ v51 _ => 2 - (intOf v51).toNat)
 case atStart => exact ⟨0, by omega, rfl, rfl, Below.refl _ _⟩
 case round =>
  obtain ⟨j, hj, rfl, rfl, HBR⟩ := hrel
  by_cases hj2 : j < 2
  · have hd2 : decide ((j : Int) < 2) = true := decide_eq_true (by omega)
    have hd2' : decide (j < 2) = true := decide_eq_true (by omega)
    obtain ⟨k1, hk1⟩ : ∃ k1, k1 = j + 1 := ⟨_, rfl⟩
    have ek1 : (j : Int) + 1 = (k1 : Int) := by omega
    have hv : wr.cell? ⟨w3.heap.size, j, none⟩ = some (.int .i64 (k1 : Int)) := by
     have hV := HV4.out.below HBR.out HV4.out.lt
     rw [hV.cell, hk1]
     rcases (by omega : j = 0 ∨ j = 1) with rfl | rfl <;> rfl
    have d1 : (0 : Int) ≤ (j : Int) := by omega
    have d2 : (j : Int) < 2 := by omega
    have hk1b : k1 ≤ 2 := by omega
    have ewk : IntKind.i64.wrap (k1 : Int) = (k1 : Int) := wraps_i64 _ (by omega) (by omega)
    have HMS : Hid (2 - k1 < 2 - j) := by unfold Hid; omega
    clear hk1
    by_cases hkl : k1 < ln
    · have he1 : decide ((k1 : Int) < (ln : Int)) = true := decide_eq_true (by omega)
      have he2 : decide (k1 < ln) = true := decide_eq_true hkl
      have hbw : Below w3.heap.size w3 wr := HB4.out.trans (HBR.out.mono HB4.out.size)
      have hqr : QV wr g (some ⟨qa, 0, none⟩) ln c (popL (x :: r)) := ⟨HQ3.out.blk.below hbw HQ3.out.blk.lt, own_below HQ3.out.own hbw⟩
      have hcg0 := hqr.blk.cell 0
      have hcg1 := hqr.blk.cell 1
      simp at hcg0 hcg1
      have hr1 := hqr.range hkl
      have hr2 := hqr.range (j := 0) (by omega)
      rw [Nat.zero_mul] at hr2
      obtain ⟨x1, hx1⟩ : ∃ x1, x1 = (popL (x :: r)).getD k1 zeroId := ⟨_, rfl⟩
      obtain ⟨x2, hx2⟩ : ∃ x2, x2 = (popL (x :: r)).getD 0 zeroId := ⟨_, rfl⟩
      rw [← hx1] at hr1
      rw [← hx2] at hr2
      have hs1 := id_size _ x1.2
      have hs2 := id_size _ x2.2
      have f1 : (0 : Int) ≤ (k1 : Int) := by omega
      have f2 : (k1 : Int) < (ln : Int) := by omega
      have f3 : (0 : Int) < (ln : Int) := by omega
      have f4 : 0 < ln := by omega
      have HLS := Lib.hid (fun w => less0 (U x1.1).toArray (U x2.1).toArray w)
      clear hx1 hx2 hqr hbw
      go_wp2_with fail
      refine wp_region_still_tail 22 (by kernel_rfl) (by kernel_rfl) ?_
      change wpStill _ _ wr.drew (fun a' => wpList _ _ _ _ a' wr.drew) _ _
      simp only [List.take_succ_cons, List.take_zero, List.drop_succ_cons, List.drop_zero]
      iterate 14 still_step
      refine wpStill_step (fun K hK => ?_)
      rw [if_pos (by rfl)]
      refine still_load_mid 30 (.tmp 68) rfl qa (k1 * 32) rfl (U x1.1) _ (show wr.drew.rangeAt _ _ _ from hr1) hu30 rfl hs1 ?_
      refine hK _ ?_
      clear hK K
      iterate 6 still_step
      refine wpStill_step (fun K hK => ?_)
      rw [if_pos (by rfl)]
      refine still_load_mid 30 (.tmp 75) rfl qa 0 rfl (U x2.1) _ (show wr.drew.rangeAt _ _ _ from hr2) hu30 rfl hs2 ?_
      refine hK _ ?_
      clear hK K
      refine wpStill_nil ?_
      go_wp2_with fail
      refine (HLS.out _).mono ?_
      rintro e w5 ⟨rfl, hb5⟩
      have HB5 : Hid (Below w4.heap.size w4 w5) := HBR.out.drew.trans (hb5.mono HBR.out.size)
      clear hb5 hr1 hr2 HLS hcg0 hcg1 hv
      go_wp2_with fail
      go_roundw
      case rel => exact ⟨k1, hk1b, rfl, rfl, HB5⟩
      case measure => have := HMS.out; simp [intOf]; omega
    · have he1 : decide ((k1 : Int) < (ln : Int)) = false := decide_eq_false (by omega)
      have he2 : decide (k1 < ln) = false := decide_eq_false hkl
      go_wp2_with fail
      go_quiet (fail)
      have HB5 : Hid (Below w4.heap.size w4 (wr.drewN nq)) := below_drewN HBR.out nq
      go_wp2_with fail
      go_roundw
      case rel => exact ⟨k1, hk1b, rfl, rfl, HB5⟩
      case measure => have := HMS.out; simp [intOf]; omega
  · have hd2 : decide ((j : Int) < 2) = false := decide_eq_false (by omega)
    have hd2' : decide (j < 2) = false := decide_eq_false (by omega)
    have hbw : Below w3.heap.size w3 wr := HB4.out.trans (HBR.out.mono HB4.out.size)
    have HXR : Hid (wr.heap[wA.heap.size]? = some (.cells (U x.1).toArray 30 (0, 0))) := (hbw.block _ HX3.out.1.lt).trans HX3.out.1
    have HTR : Hid (wr.heap[w.heap.size]? = some (.cells (U (List.replicate 32 0)).toArray 30 (0, 0))) := (hbw.block _ HX3.out.2.1.lt).trans HX3.out.2.1
    have HQR : Hid (QV wr g (some ⟨qa, 0, none⟩) ln c (popL (x :: r))) := ⟨HQ3.out.blk.below hbw HQ3.out.blk.lt, own_below HQ3.out.own hbw⟩
    have HKR : Hid (Kpt w wr g (some ⟨qa, 0, none⟩)) := ⟨hbw.os.trans HK3.out.os, hbw.tape.trans HK3.out.tape, hbw.output.trans HK3.out.output, Nat.le_trans HK3.out.size hbw.size, fun k hk hg hA => (hbw.block k (Nat.lt_of_lt_of_le hk HK3.out.size)).trans (HK3.out.block k hk hg hA)⟩
    have hgq : g ≠ w.heap.size := by have := HHA.out.2.2; omega
    have hqq : qa ≠ w.heap.size := by have := (HHA.out.2.1.lt qa rfl).2; omega
    clear hbw
    go_wp2_with (first
     | (with_reducible refine wpList_load_row rfl 30 (.tmp 3) rfl wA.heap.size rfl 30 (U x.1).toArray (0, 0) _ HXR.out hu30 rfl HSx.out ?_)
     | (with_reducible refine wpList_storeG rfl 30 (.tmp 2) (.tmp 111) rfl w.heap.size 0 (U x.1) rfl rfl (U (List.replicate 32 0)) 30 HTR.out HFT.out (U_one _) HS.out ?_; intro w8 HB8 HG8))
    have HRW : Hid (w8.heap[w.heap.size]? = some (.cells (U x.1).toArray 30 (0, 0))) := by
     have h1 := HB8.out
     rw [splice_id _ x.2] at h1
     exact h1
    have HF : Hid (QPost w g (some ⟨qa, 0, none⟩) (popL (x :: r)) w8) := by
     refine ⟨_, ln, c, ⟨HQR.out.blk.gb HG8.out (by simpa using hgq), HQR.out.own.kept HG8.out (.inr (by simpa [Value.ownBlock] using hqq))⟩, Nw.refl _ _, ?_⟩
     exact ⟨HG8.out.os.trans HKR.out.os, HG8.out.tape.trans HKR.out.tape, HG8.out.output.trans HKR.out.output, Nat.le_trans HKR.out.size HG8.out.size, fun k hk hg hA => (HG8.out.block k (Nat.lt_of_lt_of_le hk HKR.out.size) (by simp; omega)).trans (HKR.out.block k hk hg hA)⟩
    try rw [Exit.noGoto_ret]
    exact bodyPost_ret (v := .agg (U x.1).toArray) (results_cell_row Tryz.results48 _ w8 w.heap.size 30 (U x.1).toArray (0, 0) _ rfl HRW.out hu30 rfl HSx.out) rfl ⟨rfl, HF.out⟩
theorem und3 : Tryz.prog.underlying 3 = some (.int .i64) := by kernel_rfl
structure KindM (S : Sto) (ks : List Id) (D : DataW Value) : Prop where
 hs : ∀ i, has D (ik i) = decide (i ∈ ks)
 at_ : ∀ i ∈ ks, ∀ z, D.atKey (ik i) z = .lit (.int .i64 (kindS S i : Int))
 size : Maps.size D = ks.length
 only : ∀ kl, has D kl = true → ∃ i ∈ ks, kl = ik i
theorem KindM.start (S : Sto) : KindM S [] (.map []) := ⟨fun i => by simp [has], by simp, rfl, fun kl h => by simp [has] at h⟩
theorem KindM.put {S : Sto} {ks : List Id} {D : DataW Value} (h : KindM S ks D) (hD : Tidy D) (i : Id) (hi : i ∉ ks) : KindM S (ks ++ [i]) (D.put (ik i) (.lit (.int .i64 (kindS S i : Int)))) := by
 have hh : has D (ik i) = false := by rw [h.hs]; simpa using hi
 refine ⟨fun j => ?_, fun j hj z => ?_, ?_, fun kl hkl => ?_⟩
 · by_cases e : j = i
   · subst e
     rw [has_put_same hD.isMap (ik_isKey j)]
     simp
   · rw [has_put_other (fun e2 => e (ik_inj e2)), h.hs]
     simp [e]
 · by_cases e : j = i
   · subst e
     exact atKey_put_same hD.isMap (ik_isKey j) _ _
   · rw [atKey_put_other (fun e2 => e (ik_inj e2))]
     refine h.at_ j ?_ z
     rcases List.mem_append.1 hj with h1 | h1
     · exact h1
     · exact absurd (List.mem_singleton.1 h1) e
 · rw [Maps.size_put hD, hh, List.length_append]
   simp [h.size]
 · by_cases e : kl = ik i
   · exact ⟨i, by simp, e⟩
   · rw [has_put_other e] at hkl
     obtain ⟨j, hj, e2⟩ := h.only kl hkl
     exact ⟨j, List.mem_append.2 (.inl hj), e2⟩
def LnkU (ls : List Lnk) : List Value := ls.flatMap lnkV
structure CV (w : World) (B sb xb nb xs nq mk a : Nat) (QA : Option Addr) (qn qc : Nat) (LA : Option Addr) (lc : Nat) (S : Sto) (c : Cst) (D : DataW Value) : Prop where
 sB : Blk w sb 25 #[.pointer (some ⟨a, 0, none⟩)]
 xB : Blk w xb 79 #[.pointer (some ⟨xs, 0, none⟩)]
 nB : Blk w nb 117 #[.pointer (some ⟨nq, 0, none⟩)]
 seen : Blk w xs 87 #[.map (some mk), .slice LA c.ls.length lc]
 que : QV w nq QA qn qc c.q
 lks : w.ownsRow B 106 33 (.slice LA c.ls.length lc) c.ls.length (LnkU c.ls)
 mp : w.ownsMap Tryz.prog 30 (plainElem Tryz.prog 3) mk c.ks.length D
 km : KindM S c.ks D
 qB : ∀ p, QA = some p → B ≤ p.block
 base : B ≤ sb ∧ B ≤ xb ∧ B ≤ nb ∧ B ≤ xs ∧ B ≤ nq ∧ B ≤ mk
section
variable {w w' : World} {B sb xb nb xs nq mk a : Nat} {QA : Option Addr} {qn qc : Nat} {LA : Option Addr} {lc : Nat} {S : Sto} {c : Cst} {D : DataW Value}
theorem CV.le (h : CV w B sb xb nb xs nq mk a QA qn qc LA lc S c D) : B ≤ w.heap.size := Nat.le_trans h.base.1 (Nat.le_of_lt h.sB.lt)
theorem CV.below (h : CV w B sb xb nb xs nq mk a QA qn qc LA lc S c D) (hb : Below w.heap.size w w') : CV w' B sb xb nb xs nq mk a QA qn qc LA lc S c D :=
 ⟨h.sB.below hb h.sB.lt, h.xB.below hb h.xB.lt, h.nB.below hb h.nB.lt, h.seen.below hb h.seen.lt, ⟨h.que.blk.below hb h.que.blk.lt, own_below h.que.own hb⟩, own_below h.lks hb,
  h.mp.kept (gb_of_below hb none) (by simp), h.km, h.qB, h.base⟩
theorem mapTurned_own {e : TypeId} {size n : Nat} {v : Value} {xs : List Value} {base : Nat} {k : TypeId} {R : Value → Option (DataW Value × List MemPlace)} {m : Nat} (h : w.ownsRow base e size v n xs) (hm : w.ownsMap Tryz.prog k R mk m D) (ht : w.mapTurned w' mk) : w'.ownsRow base e size v n xs := by
 refine h.kept ht.grown ?_
 rcases h.2 with ⟨rfl, _⟩ | ⟨g, cap, cur, rfl, _, hh, _⟩
 · exact .inl rfl
 · refine .inr (fun e2 => ?_)
   exact ownsMap_apart hm (show Blk w g _ _ from hh) (Option.some.inj e2).symm
theorem CV.put (h : CV w B sb xb nb xs nq mk a QA qn qc LA lc S c D) (i : Id) (hi : i ∉ c.ks) (hl : c.ks.length < maxLen) :
 ∃ w', (Instr.mapUpdate 84 (.map (some mk)) (.agg (U i.1).toArray) (.int .i64 (kindS S i : Int))).run Tryz.prog w = .ok () w' ∧
  CV w' B sb xb nb xs nq mk a QA qn qc LA lc S ⟨c.ks ++ [i], c.q, c.ls⟩ (D.put (ik i) (.lit (.int .i64 (kindS S i : Int)))) ∧ w.mapTurned w' mk := by
 have hk := kindS_le S i
 obtain ⟨w', h1, h2, h4⟩ := h.mp.store key_law (t := 84) Tryz.underlying84 hl (ik_key i) (plainElem_int und3 (a := (kindS S i : Int)) (WalkArith.wf_i64 (by omega)))
 refine ⟨w', h1, ⟨mapTurned_blk h.sB h4 (ownsMap_apart h.mp h.sB), mapTurned_blk h.xB h4 (ownsMap_apart h.mp h.xB), mapTurned_blk h.nB h4 (ownsMap_apart h.mp h.nB), mapTurned_blk h.seen h4 (ownsMap_apart h.mp h.seen),
  ⟨mapTurned_blk h.que.blk h4 (ownsMap_apart h.mp h.que.blk), mapTurned_own h.que.own h.mp h4⟩, mapTurned_own h.lks h.mp h4, ?_, h.km.put (h.mp.tidy key_law) i hi, h.qB, h.base⟩, h4⟩
 rw [List.length_append]
 exact h2
theorem own_apart {e e' : TypeId} {size size' n n' : Nat} {v v' : Value} {xs xs' : List Value} {base base' : Nat} (h : w.ownsRow base e size v n xs) (h' : w.ownsRow base' e' size' v' n' xs') (hne : e ≠ e') : v.ownBlock = none ∨ v.ownBlock ≠ v'.ownBlock := by
 rcases h.2 with ⟨rfl, _⟩ | ⟨g, cap, cur, rfl, _, hh, _⟩
 · exact .inl rfl
 · refine .inr (fun e2 => ?_)
   exact own_blk_ne h' (show Blk w g e cur from hh) (Ne.symm hne) e2.symm
theorem CV.queue (h : CV w B sb xb nb xs nq mk a QA qn qc LA lc S c D) {q : List Id} (hq : QPost w nq QA q w') : ∃ QA' qn' qc', CV w' B sb xb nb xs nq mk a QA' qn' qc' LA lc S ⟨c.ks, q, c.ls⟩ D ∧ Below B w w' := by
 obtain ⟨QA', qn', qc', h1, h2, h3⟩ := hq
 have hqa : ∀ {g : Nat} {t : TypeId} {cs : Array Value}, Blk w g t cs → t ≠ 30 → ∀ p, QA = some p → p.block ≠ g := fun hb ht p hp e => by
  have := own_blk_ne h.que.own hb (Ne.symm ht)
  subst hp
  exact this (by rw [← e]; rfl)
 have keep : ∀ {g : Nat} {t : TypeId} {cs : Array Value}, Blk w g t cs → t ≠ 30 → t ≠ 119 → Blk w' g t cs := fun hb ht ht2 =>
  h3.blk hb (Blk.ne_ hb h.que.blk ht2) (hqa hb ht)
 have hle := h.le
 refine ⟨QA', qn', qc', ⟨keep h.sB (by decide) (by decide), keep h.xB (by decide) (by decide), keep h.nB (by decide) (by decide), keep h.seen (by decide) (by decide), h1, ?_, ?_, h.km, fun p hp => ?_, h.base⟩, h3.below hle h.base.2.2.2.2.1 h.qB⟩
 · -- the row of links
   refine ⟨h.lks.1, ?_⟩
   rcases h.lks.2 with h4 | ⟨g, cap, cur, hv, hb, hh, r⟩
   · exact .inl h4
   · exact .inr ⟨g, cap, cur, hv, hb, keep (show Blk w g 106 cur from hh) (by decide) (by decide), r⟩
 · obtain ⟨es, clock, hm, F, hn, hD⟩ := h.mp
   refine ⟨es, clock, (h3.block mk h.mp.lt (fun e => ownsMap_apart h.mp h.que.blk e) (fun p hp e => ?_)).trans hm, F, hn, hD⟩
   subst hp
   rcases h.que.own.2 with ⟨hv, _⟩ | ⟨g, cap, cur, hv, _, hh, _⟩
   · cases hv
   · injection hv with hv1
     injection hv1 with hv1
     subst hv1
     exact ownsMap_apart h.mp (show Blk w g 30 cur from hh) e.symm
 · rcases h2 p hp with ⟨p0, hp0, e⟩ | hge
   · rw [e]; exact h.qB p0 hp0
   · omega
end
structure Env (w0 : World) (B0 a m : Nat) (S : Sto) (Ds : DataW Value) : Prop where
 st : StV w0 B0 a m S Ds
 ok : StoOk S
 kn : KnS S
 err : ErrTab w0
theorem Env.at_ {w0 w : World} {B0 a m : Nat} {S : Sto} {Ds : DataW Value} (h : Env w0 B0 a m S Ds) (hb : Below w0.heap.size w0 w) : StV w B0 a m S Ds ∧ ErrTab w := ⟨h.st.below hb, h.err.below hb h.err.lt⟩
def CVE (w : World) (B sb xb nb xs nq mk a : Nat) (S : Sto) (c : Cst) : Prop := ∃ QA qn qc LA lc D, CV w B sb xb nb xs nq mk a QA qn qc LA lc S c D
def CVL (w : World) (B sb xb nb xs nq mk a : Nat) (S : Sto) (c : Cst) (LA : Option Addr) (lc : Nat) : Prop := ∃ QA qn qc D, CV w B sb xb nb xs nq mk a QA qn qc LA lc S c D
def LKeep (w w' : World) : Prop := ∀ k cs, Blk w k 106 cs → Blk w' k 106 cs
theorem LKeep.trans {w w1 w2 : World} (h : LKeep w w1) (h2 : LKeep w1 w2) : LKeep w w2 := fun k cs hb => h2 k cs (h k cs hb)
theorem LKeep.of_below {w w' : World} (h : Below w.heap.size w w') : LKeep w w' := fun _ _ hb => hb.below h hb.lt
theorem LKeep.turned {w w' : World} {k : TypeId} {R : Value → Option (DataW Value × List MemPlace)} {m mk : Nat} {D : DataW Value} (hm : w.ownsMap Tryz.prog k R mk m D) (ht : w.mapTurned w' mk) : LKeep w w' := fun _ _ hb => mapTurned_blk hb ht (ownsMap_apart hm hb)
theorem LKeep.queue {w w' : World} {g n c : Nat} {A : Option Addr} {q : List Id} (h : QV w g A n c q) (hk : Kpt w w' g A) : LKeep w w' := fun k cs hb =>
 hk.blk hb (Blk.ne_ hb h.blk (by decide)) (fun p hp e => by
  have := own_blk_ne h.own hb (by decide)
  subst hp
  exact this (by rw [← e]; rfl))
theorem KindM.look {w : World} {S : Sto} {ks : List Id} {D : DataW Value} {mk n : Nat} (h : w.ownsMap Tryz.prog 30 (plainElem Tryz.prog 3) mk n D) (k : KindM S ks D) (i : Id) :
 ∃ x : Int, (Instr.lookup 84 (.map (some mk)) (.agg (U i.1).toArray) true).run Tryz.prog w = .ok (.tuple #[.int .i64 x, .bool (decide (i ∈ ks))]) w := by
 have hz : (zeroValue 3).run Tryz.prog w = .ok (.int .i64 0) w := by kernel_rfl
 obtain ⟨v, ps, h1, h2⟩ := h.look_ok key_law (t := 84) Tryz.underlying84 hz (plainElem_int und3 (by decide)) (ik_key i)
 obtain ⟨x, rfl, _, _⟩ := plainElem_int_inv und3 h2
 rw [k.hs] at h1
 exact ⟨x, h1⟩
set_option maxHeartbeats 8000000 in
theorem add_anyL (w0 w : World) (B0 m : Nat) (Ds : DataW Value) (sb xb nb xs nq mk a : Nat) (S : Sto) (c : Cst) (LA : Option Addr) (lc : Nat) (i : Id) (he : Env w0 B0 a m S Ds) (hb : Below w0.heap.size w0 w) (h : CVL w w0.heap.size sb xb nb xs nq mk a S c LA lc) (hi : i ∈ idsS S) (hks : c.ks.length ≤ 1000000) (hql : c.q.length ≤ 1000000) :
 Calls Tryz.prog 45 #[.agg (U i.1).toArray, .pointer (some ⟨xb, 0, none⟩), .pointer (some ⟨sb, 0, none⟩), .pointer (some ⟨nb, 0, none⟩)] w fun e w' => e = .returned (.tuple #[]) ∧ CVL w' w0.heap.size sb xb nb xs nq mk a S (addC S i c) LA lc ∧ Below w0.heap.size w0 w' ∧ LKeep w w' := by
 obtain ⟨QA, qn, qc, D, h⟩ := h
 obtain ⟨wb, hwb⟩ : ∃ wb, wb = w.alloc (.cells (U i.1).toArray 30) := ⟨_, rfl⟩
 have hbb : Below w.heap.size w wb := by rw [hwb]; exact (Below.refl _ _).alloc (Nat.le_refl _) _
 have HR : Hid (Blk wb.drew w.heap.size 30 (U i.1).toArray) := by rw [hwb]; exact Blk.new _ _ _
 have HC : Hid (CV wb.drew w0.heap.size sb xb nb xs nq mk a QA qn qc LA lc S c D) := h.below hbb.drew
 have HB : Hid (Below w0.heap.size w0 wb.drew) := hb.trans (hbb.drew.mono hb.size)
 have HLK : Hid (LKeep w wb.drew) := LKeep.of_below hbb.drew
 have HWB := Lib.hid hwb
 have HSZ2 := Lib.hid (id_size' _ i.2)
 obtain ⟨xx, hlk⟩ := HC.out.km.look HC.out.mp i
 have hcx : wb.drew.cell? ⟨xb, 0, none⟩ = some (.pointer (some ⟨xs, 0, none⟩)) := HC.out.xB.cell 0
 have hcs : wb.drew.cell? ⟨xs, 0, none⟩ = some (.map (some mk)) := HC.out.seen.cell 0
 have HR5 : Hid (wb.drew.heap[w.heap.size]? = some (.cells (U i.1).toArray 30 (0, 0))) := HR.out
 have HKS := Lib.hid hks
 have HQL := Lib.hid hql
 have HI := Lib.hid hi
 have HE := Lib.hid he
 have hu30 := Tryz.underlying30
 clear h hwb hbb hb hks hql hi he
 by_cases hin : i ∈ c.ks
 · have hlk2 : (Instr.lookup 84 (.map (some mk)) (.agg (U i.1).toArray) true).run Tryz.prog wb.drew = .ok (.tuple #[.int .i64 xx, .bool true]) wb.drew := by rw [hlk]; simp [hin]
   have e1 : addC S i c = c := by unfold addC; rw [if_pos hin]
   have HF : Hid (CVL wb.drew w0.heap.size sb xb nb xs nq mk a S (addC S i c) LA lc ∧ Below w0.heap.size w0 wb.drew ∧ LKeep w wb.drew) := ⟨⟨QA, qn, qc, D, by rw [e1]; exact HC.out⟩, HB.out, HLK.out⟩
   clear hlk HC HLK
   go_enter Tryz.func45, Tryz.ntmps45
   go_upto_region 1 with fail
   rw [← HWB.out]
   clear HWB
   refine wp_region_still_lit (by kernel_rfl) (by kernel_rfl) ?_
   change wpStill _ _ wb.drew (fun a' => Exit.then _ _ Exit.normal a' wb.drew) _ _
   generalize wb.drew = w2 at *
   still_step
   still_step
   still_step
   still_step
   refine wpStill_step (fun K hK => ?_)
   rw [if_pos (by rfl)]
   refine still_load_row 30 (.tmp 4) rfl w.heap.size rfl 30 (U i.1).toArray (0, 0) _ HR5.out hu30 rfl HSZ2.out ?_
   refine hK _ ?_
   clear hK K
   repeat still_step
   refine wpStill_nil ?_
   go_wp2_with fail
   go_end0
   exact ⟨rfl, HF.out⟩
 · have hlk2 : (Instr.lookup 84 (.map (some mk)) (.agg (U i.1).toArray) true).run Tryz.prog wb.drew = .ok (.tuple #[.int .i64 xx, .bool false]) wb.drew := by rw [hlk]; simp [hin]
   have hcsb : wb.drew.cell? ⟨sb, 0, none⟩ = some (.pointer (some ⟨a, 0, none⟩)) := HC.out.sB.cell 0
   have HKI := Lib.hid (kindK B0 a m S Ds i wb.drew (HE.out.at_ HB.out).1 HE.out.kn HI.out (HE.out.at_ HB.out).2)
   have HIN := Lib.hid hin
   clear hlk hin
   go_enter Tryz.func45, Tryz.ntmps45
   go_upto_region 1 with fail
   rw [← HWB.out]
   clear HWB
   refine wp_region_still_lit (by kernel_rfl) (by kernel_rfl) ?_
   change wpStill _ _ wb.drew (fun a' => Exit.then _ _ Exit.normal a' wb.drew) _ _
   generalize wb.drew = w2 at *
   still_step
   still_step
   still_step
   still_step
   refine wpStill_step (fun K hK => ?_)
   rw [if_pos (by rfl)]
   refine still_load_row 30 (.tmp 4) rfl w.heap.size rfl 30 (U i.1).toArray (0, 0) _ HR5.out hu30 rfl HSZ2.out ?_
   refine hK _ ?_
   clear hK K
   repeat still_step
   refine wpStill_nil ?_
   go_wp2_with (with_reducible refine wpList_load_row rfl 30 (.tmp 4) rfl w.heap.size rfl 30 (U i.1).toArray (0, 0) _ HR5.out hu30 rfl HSZ2.out ?_)
   refine HKI.out.mono ?_
   rintro e w3 ⟨rfl, hb3⟩
   have HC3 := Lib.hid (HC.out.below hb3)
   have HLK3 : Hid (LKeep w w3) := HLK.out.trans (LKeep.of_below hb3)
   have HR3 := Lib.hid (HR.out.below hb3 HR.out.lt)
   have HB3 : Hid (Below w0.heap.size w0 w3) := HB.out.trans (hb3.mono HB.out.size)
   have hcx3 : w3.cell? ⟨xb, 0, none⟩ = some (.pointer (some ⟨xs, 0, none⟩)) := HC3.out.xB.cell 0
   have hcs3 : w3.cell? ⟨xs, 0, none⟩ = some (.map (some mk)) := HC3.out.seen.cell 0
   have HR6 : Hid (w3.drew.heap[w.heap.size]? = some (.cells (U i.1).toArray 30 (0, 0))) := HR3.out
   have hkz : kindS S i ≠ 0 := fun e => by
    have := (HE.out.ok.kind i).1 e
    rw [(has_ids S i).2 HI.out] at this
    cases this
   obtain ⟨kz, hkz2⟩ : ∃ kz, kz = kindS S i := ⟨_, rfl⟩
   have hk4 := kindS_le S i
   obtain ⟨w4, hrun, hC4, ht4⟩ := (show CV w3.drew w0.heap.size sb xb nb xs nq mk a QA qn qc LA lc S c D from ⟨HC3.out.sB, HC3.out.xB, HC3.out.nB, HC3.out.seen, ⟨HC3.out.que.blk, HC3.out.que.own⟩, HC3.out.lks, HC3.out.mp, HC3.out.km, HC3.out.qB, HC3.out.base⟩).put i HIN.out (by have := HKS.out; unfold maxLen; omega)
   rw [← hkz2] at hrun hk4 hkz
   rw [← hkz2]
   have HC4 := Lib.hid hC4
   have HLK4 : Hid (LKeep w w4) := HLK3.out.trans (LKeep.turned (w := w3.drew) HC3.out.mp ht4)
   have HB4 : Hid (Below w0.heap.size w0 w4) := HB3.out.drew.trans ⟨ht4.grown.os, ht4.grown.tape, ht4.grown.output, ht4.grown.size, fun k hk => ht4.grown.block k (Nat.lt_of_lt_of_le hk HB3.out.size) (fun e => by have := HC3.out.base.2.2.2.2.2; have := Option.some.inj e; omega)⟩
   have HR4 := Lib.hid (mapTurned_blk (show Blk w3.drew w.heap.size _ _ from HR3.out) ht4 (ownsMap_apart (show w3.drew.ownsMap _ _ _ _ _ _ from HC3.out.mp) (show Blk w3.drew w.heap.size _ _ from HR3.out)))
   have hd1 : ((kz : Int) == 0) = false := by simp; omega
   have hd2 : ((kz : Int) != 0) = true := by simp; omega
   have hd3 : (kz == 0) = false := by simp; omega
   have hd4 : (kz != 0) = true := by simp; omega
   have hd5 : decide ((kz : Int) = 0) = false := by simp; omega
   have hd6 : decide (kz = 0) = false := by simp; omega
   have HKZ := Lib.hid hkz2
   clear hb3 HKI HLK HLK3 HC HR HB hcx hcs hcsb hC4 ht4 hlk2 HR5 hkz2
   go_wp2_with fail
   refine wp_region_still_tail 6 (by kernel_rfl) (by kernel_rfl) ?_
   change wpStill _ _ w3.drew (fun a' => wpList _ _ _ _ a' w3.drew) _ _
   simp only [List.take_succ_cons, List.take_zero, List.drop_succ_cons, List.drop_zero]
   still_step
   still_step
   still_step
   still_step
   refine wpStill_step (fun K hK => ?_)
   rw [if_pos (by rfl)]
   refine still_load_row 30 (.tmp 4) rfl w.heap.size rfl 30 (U i.1).toArray (0, 0) _ HR6.out hu30 rfl HSZ2.out ?_
   refine hK _ ?_
   clear hK K
   repeat still_step
   refine wpStill_nil ?_
   have hcn4 : w4.cell? ⟨nb, 0, none⟩ = some (.pointer (some ⟨nq, 0, none⟩)) := HC4.out.nB.cell 0
   have HR7 : Hid (w4.heap[w.heap.size]? = some (.cells (U i.1).toArray 30 (0, 0))) := HR4.out
   have hq4 : QV w4 nq QA qn qc c.q := HC4.out.que
   have HPU := Lib.hid (push_any nq qn qc QA c.q i w4 hq4 (by have h9 := hq4.len; have := HQL.out; omega))
   clear hq4
   go_wp2_with (with_reducible refine wpList_load_row rfl 30 (.tmp 4) rfl w.heap.size rfl 30 (U i.1).toArray (0, 0) _ HR7.out hu30 rfl HSZ2.out ?_)
   refine HPU.out.mono ?_
   rintro e w5 ⟨rfl, hq5⟩
   have hlk5 : LKeep w w5 := HLK4.out.trans (by
    obtain ⟨_, _, _, _, _, hk⟩ := hq5
    exact LKeep.queue HC4.out.que hk)
   obtain ⟨QA', qn', qc', hC5, hb5⟩ := CV.queue (w := w4) (w' := w5) HC4.out hq5
   have HF : Hid (CVL w5 w0.heap.size sb xb nb xs nq mk a S (addC S i c) LA lc ∧ Below w0.heap.size w0 w5 ∧ LKeep w w5) := by
    refine ⟨⟨QA', qn', qc', D.put (ik i) (.lit (.int .i64 (kindS S i : Int))), ?_⟩, HB4.out.trans hb5, hlk5⟩
    have e1 : addC S i c = ⟨c.ks ++ [i], c.q ++ [i], c.ls⟩ := by
     unfold addC
     rw [if_neg HIN.out, if_neg (by rw [← HKZ.out]; exact hkz)]
    rw [e1]
    exact hC5
   clear hq5 hC5 hb5 hlk5 HLK4 HPU HC4 HB4 HR7 HR4 hcn4 hrun
   go_wp2_with fail
   go_end0
   exact ⟨rfl, HF.out⟩
theorem add_any (w0 w : World) (B0 m : Nat) (Ds : DataW Value) (sb xb nb xs nq mk a : Nat) (S : Sto) (c : Cst) (i : Id) (he : Env w0 B0 a m S Ds) (hb : Below w0.heap.size w0 w) (h : CVE w w0.heap.size sb xb nb xs nq mk a S c) (hi : i ∈ idsS S) (hks : c.ks.length ≤ 1000000) (hql : c.q.length ≤ 1000000) :
 Calls Tryz.prog 45 #[.agg (U i.1).toArray, .pointer (some ⟨xb, 0, none⟩), .pointer (some ⟨sb, 0, none⟩), .pointer (some ⟨nb, 0, none⟩)] w fun e w' => e = .returned (.tuple #[]) ∧ CVE w' w0.heap.size sb xb nb xs nq mk a S (addC S i c) ∧ Below w0.heap.size w0 w' := by
 obtain ⟨QA, qn, qc, LA, lc, D, h⟩ := h
 refine (add_anyL w0 w B0 m Ds sb xb nb xs nq mk a S c LA lc i he hb ⟨QA, qn, qc, D, h⟩ hi hks hql).mono ?_
 rintro e w' ⟨h1, ⟨QA, qn, qc, D, h2⟩, h3, _⟩
 exact ⟨h1, ⟨QA, qn, qc, LA, lc, D, h2⟩, h3⟩
end Go.Proofs.YtnjhjbmngoeobaaGreatDoor
