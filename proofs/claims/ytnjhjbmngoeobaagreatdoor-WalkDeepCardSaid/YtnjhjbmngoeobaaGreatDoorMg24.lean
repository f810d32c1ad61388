/- Laws towards WalkDeep: TgtA, PelA, EndA, RchA. -/
import Derived.Test.YtnjhjbmngoeobaaGreatDoorMg20
import Derived.Test.YtnjhjbmngoeobaaGreatDoorMg21
import Derived.Test.YtnjhjbmngoeobaaGreatDoorMg22
import Derived.Test.YtnjhjbmngoeobaaGreatDoorMg23
namespace Go.Proofs.YtnjhjbmngoeobaaGreatDoor
open Go.RowKit Go.Maps
set_option maxRecDepth 100000
theorem lnk_zero : (#[Value.int IntKind.u8 0, Value.int IntKind.u8 0, Value.int IntKind.u8 0, Value.int IntKind.u8 0, Value.int IntKind.u8 0, Value.int IntKind.u8 0, Value.int IntKind.u8 0, Value.int IntKind.u8 0, Value.int IntKind.u8 0, Value.int IntKind.u8 0, Value.int IntKind.u8 0, Value.int IntKind.u8 0, Value.int IntKind.u8 0, Value.int IntKind.u8 0, Value.int IntKind.u8 0, Value.int IntKind.u8 0, Value.int IntKind.u8 0, Value.int IntKind.u8 0, Value.int IntKind.u8 0, Value.int IntKind.u8 0, Value.int IntKind.u8 0, Value.int IntKind.u8 0, Value.int IntKind.u8 0, Value.int IntKind.u8 0, Value.int IntKind.u8 0, Value.int IntKind.u8 0, Value.int IntKind.u8 0, Value.int IntKind.u8 0, Value.int IntKind.u8 0, Value.int IntKind.u8 0, Value.int IntKind.u8 0, Value.int IntKind.u8 0, Value.int IntKind.i64 0] : Array Value) = (lnkV (zeroId, 0)).toArray := rfl
theorem lnk_size' (l : Lnk) : (Tryz.prog.info? 106).map (·.size) = some (lnkV l).toArray.size := by
 rw [List.size_toArray]
 exact lnkV_size l
def TgtP (w : World) (l : Lnk) (ok : Bool) (e : Ending) (w' : World) : Prop := e = .returned (.tuple #[.agg (lnkV l).toArray, .bool ok]) ∧ Below w.heap.size w w'
set_option maxHeartbeats 2000000 in
theorem target_no (w0 w : World) (B0 m a : Nat) (S : Sto) (Ds : DataW Value) (i : Id) (he : Env w0 B0 a m S Ds) (hb : Below w0.heap.size w0 w) (hi : i ∈ idsS S) (hk : kindS S i ≠ 4) :
 Calls Tryz.prog 38 #[.pointer (some ⟨a, 0, none⟩), .agg (U i.1).toArray] w (TgtP w (zeroId, 0) false) := by
 obtain ⟨wa, hwa⟩ : ∃ wa, wa = w.alloc (.cells (U i.1).toArray 30) := ⟨_, rfl⟩
 obtain ⟨wb, hwb⟩ : ∃ wb, wb = wa.alloc (.cells (lnkV (zeroId, 0)).toArray 106) := ⟨_, rfl⟩
 have hsa : wa.heap.size = w.heap.size + 1 := by rw [hwa]; simp
 have hba : Below w.heap.size w wa := by rw [hwa]; exact (Below.refl _ _).alloc (Nat.le_refl _) _
 have hbb : Below w.heap.size w wb := by rw [hwb]; exact hba.alloc hba.size _
 have HR : Hid (Blk wb w.heap.size 30 (U i.1).toArray) := by
  have h1 : Blk wa w.heap.size 30 (U i.1).toArray := by rw [hwa]; exact Blk.new _ _ _
  rw [hwb]
  exact h1.alloc _
 have HT : Hid (Blk wb (w.heap.size + 1) 106 (lnkV (zeroId, 0)).toArray) := by
  have h1 := Blk.new wa 106 (lnkV (zeroId, 0)).toArray
  rw [hsa, ← hwb] at h1
  exact h1
 have hbw : Below w0.heap.size w0 wb := hb.trans (hbb.mono hb.size)
 have HKI := Lib.hid (kindK B0 a m S Ds i wb (he.at_ hbw).1 he.kn hi (he.at_ hbw).2)
 have HB := Lib.hid hbb
 have HWA := Lib.hid hwa
 have HWB := Lib.hid hwb
 have HSZ2 := Lib.hid (id_size' _ i.2)
 have HLS := Lib.hid (lnk_size' (zeroId, 0))
 have HLS2 : Hid ((Tryz.prog.info? 106).map (·.size) = some ([Value.int IntKind.u8 0, Value.int IntKind.u8 0, Value.int IntKind.u8 0, Value.int IntKind.u8 0, Value.int IntKind.u8 0, Value.int IntKind.u8 0, Value.int IntKind.u8 0, Value.int IntKind.u8 0, Value.int IntKind.u8 0, Value.int IntKind.u8 0, Value.int IntKind.u8 0, Value.int IntKind.u8 0, Value.int IntKind.u8 0, Value.int IntKind.u8 0, Value.int IntKind.u8 0, Value.int IntKind.u8 0, Value.int IntKind.u8 0, Value.int IntKind.u8 0, Value.int IntKind.u8 0, Value.int IntKind.u8 0, Value.int IntKind.u8 0, Value.int IntKind.u8 0, Value.int IntKind.u8 0, Value.int IntKind.u8 0, Value.int IntKind.u8 0, Value.int IntKind.u8 0, Value.int IntKind.u8 0, Value.int IntKind.u8 0, Value.int IntKind.u8 0, Value.int IntKind.u8 0, Value.int IntKind.u8 0, Value.int IntKind.u8 0, Value.int IntKind.i64 0] : List Value).length) := lnkV_size (zeroId, 0)
 have HFL : Hid (0 + ([Value.int IntKind.u8 0, Value.int IntKind.u8 0, Value.int IntKind.u8 0, Value.int IntKind.u8 0, Value.int IntKind.u8 0, Value.int IntKind.u8 0, Value.int IntKind.u8 0, Value.int IntKind.u8 0, Value.int IntKind.u8 0, Value.int IntKind.u8 0, Value.int IntKind.u8 0, Value.int IntKind.u8 0, Value.int IntKind.u8 0, Value.int IntKind.u8 0, Value.int IntKind.u8 0, Value.int IntKind.u8 0, Value.int IntKind.u8 0, Value.int IntKind.u8 0, Value.int IntKind.u8 0, Value.int IntKind.u8 0, Value.int IntKind.u8 0, Value.int IntKind.u8 0, Value.int IntKind.u8 0, Value.int IntKind.u8 0, Value.int IntKind.u8 0, Value.int IntKind.u8 0, Value.int IntKind.u8 0, Value.int IntKind.u8 0, Value.int IntKind.u8 0, Value.int IntKind.u8 0, Value.int IntKind.u8 0, Value.int IntKind.u8 0, Value.int IntKind.i64 0] : List Value).length ≤ (lnkV (zeroId, 0)).length) := lnk_fit (zeroId, 0)
 have HONE : Hid (∀ v ∈ ([Value.int IntKind.u8 0, Value.int IntKind.u8 0, Value.int IntKind.u8 0, Value.int IntKind.u8 0, Value.int IntKind.u8 0, Value.int IntKind.u8 0, Value.int IntKind.u8 0, Value.int IntKind.u8 0, Value.int IntKind.u8 0, Value.int IntKind.u8 0, Value.int IntKind.u8 0, Value.int IntKind.u8 0, Value.int IntKind.u8 0, Value.int IntKind.u8 0, Value.int IntKind.u8 0, Value.int IntKind.u8 0, Value.int IntKind.u8 0, Value.int IntKind.u8 0, Value.int IntKind.u8 0, Value.int IntKind.u8 0, Value.int IntKind.u8 0, Value.int IntKind.u8 0, Value.int IntKind.u8 0, Value.int IntKind.u8 0, Value.int IntKind.u8 0, Value.int IntKind.u8 0, Value.int IntKind.u8 0, Value.int IntKind.u8 0, Value.int IntKind.u8 0, Value.int IntKind.u8 0, Value.int IntKind.u8 0, Value.int IntKind.u8 0, Value.int IntKind.i64 0] : List Value), v.oneCell' = true) := lnkV_one (zeroId, 0)
 have HLZ := Lib.hid lnk_zero
 have hu30 := Tryz.underlying30
 obtain ⟨k, hkk⟩ : ∃ k, k = kindS S i := ⟨_, rfl⟩
 rw [← hkk] at hk HKI
 have hk4 := kindS_le S i
 rw [← hkk] at hk4
 have hd1 : ((k : Int) == 4) = false := by simp; omega
 have hd2 : ((k : Int) != 4) = true := by simp; omega
 have hd3 : decide ((k : Int) = 4) = false := by simp; omega
 have hd4 : decide (k = 4) = false := by simp; omega
 have hr3 : Blk wb w.heap.size 30 (U i.1).toArray → wb.heap[w.heap.size]? = some (.cells (U i.1).toArray 30 (0, 0)) := fun h => h
 have HR3 := Lib.hid (hr3 HR.out)
 clear hwa hwb hba hbb hbw he hb hi hkk hsa hr3
 go_enter Tryz.func38, Tryz.ntmps38
 go_upto_region 1 with fail
 rw [HLZ.out, ← HWA.out, ← HWB.out]
 clear HWA HWB
 go_wp2_with (with_reducible refine wpList_load_row rfl 30 (.tmp 3) rfl w.heap.size rfl 30 (U i.1).toArray (0, 0) _ HR3.out hu30 rfl HSZ2.out ?_)
 refine HKI.out.mono ?_
 rintro e w1 ⟨rfl, hb1⟩
 have HT1 : Hid (w1.heap[w.heap.size + 1]? = some (.cells (lnkV (zeroId, 0)).toArray 106 (0, 0))) := HT.out.below hb1 HT.out.lt
 have HB1 := Lib.hid (HB.out.trans (hb1.mono HB.out.size))
 clear hb1 HT HB HKI HR HR3
 go_wp2_with (first
  | (with_reducible refine wpList_storeG rfl 106 (.tmp 4) (.tmp 18) rfl (w.heap.size + 1) 0 [Value.int IntKind.u8 0, Value.int IntKind.u8 0, Value.int IntKind.u8 0, Value.int IntKind.u8 0, Value.int IntKind.u8 0, Value.int IntKind.u8 0, Value.int IntKind.u8 0, Value.int IntKind.u8 0, Value.int IntKind.u8 0, Value.int IntKind.u8 0, Value.int IntKind.u8 0, Value.int IntKind.u8 0, Value.int IntKind.u8 0, Value.int IntKind.u8 0, Value.int IntKind.u8 0, Value.int IntKind.u8 0, Value.int IntKind.u8 0, Value.int IntKind.u8 0, Value.int IntKind.u8 0, Value.int IntKind.u8 0, Value.int IntKind.u8 0, Value.int IntKind.u8 0, Value.int IntKind.u8 0, Value.int IntKind.u8 0, Value.int IntKind.u8 0, Value.int IntKind.u8 0, Value.int IntKind.u8 0, Value.int IntKind.u8 0, Value.int IntKind.u8 0, Value.int IntKind.u8 0, Value.int IntKind.u8 0, Value.int IntKind.u8 0, Value.int IntKind.i64 0] rfl rfl (lnkV (zeroId, 0)) 106 HT1.out HFL.out HONE.out HLS2.out ?_; intro w2 HB2 HG2)
  | fail)
 have HRW : Hid (w2.heap[w.heap.size + 1]? = some (.cells (lnkV (zeroId, 0)).toArray 106 (0, 0))) := by
  have h1 := HB2.out
  rw [show ([Value.int IntKind.u8 0, Value.int IntKind.u8 0, Value.int IntKind.u8 0, Value.int IntKind.u8 0, Value.int IntKind.u8 0, Value.int IntKind.u8 0, Value.int IntKind.u8 0, Value.int IntKind.u8 0, Value.int IntKind.u8 0, Value.int IntKind.u8 0, Value.int IntKind.u8 0, Value.int IntKind.u8 0, Value.int IntKind.u8 0, Value.int IntKind.u8 0, Value.int IntKind.u8 0, Value.int IntKind.u8 0, Value.int IntKind.u8 0, Value.int IntKind.u8 0, Value.int IntKind.u8 0, Value.int IntKind.u8 0, Value.int IntKind.u8 0, Value.int IntKind.u8 0, Value.int IntKind.u8 0, Value.int IntKind.u8 0, Value.int IntKind.u8 0, Value.int IntKind.u8 0, Value.int IntKind.u8 0, Value.int IntKind.u8 0, Value.int IntKind.u8 0, Value.int IntKind.u8 0, Value.int IntKind.u8 0, Value.int IntKind.u8 0, Value.int IntKind.i64 0] : List Value) = lnkV (zeroId, 0) from rfl, splice_lnk] at h1
  exact h1
 have HF : Hid (TgtP w (zeroId, 0) false (.returned (.tuple #[.agg (lnkV (zeroId, 0)).toArray, .bool false])) w2) := ⟨rfl, HB1.out.trans (below_of_gb_some HG2.out (by omega) HB1.out.size)⟩
 exact bodyPost_ret (v := .tuple #[.agg (lnkV (zeroId, 0)).toArray, .bool false]) (results_cell_row_tmp Tryz.results38 _ w2 (w.heap.size + 1) 106 (lnkV (zeroId, 0)).toArray (0, 0) _ rfl HRW.out Tryz.underlying106 rfl HLS.out) rfl HF.out
set_option maxHeartbeats 2000000 in
theorem target_yes (w0 w : World) (B0 m a : Nat) (S : Sto) (Ds : DataW Value) (i : Id) (he : Env w0 B0 a m S Ds) (hb : Below w0.heap.size w0 w) (hi : i ∈ idsS S) (hk : kindS S i = 4) (l : Lnk) (hcl : childS S i = [l]) :
 Calls Tryz.prog 38 #[.pointer (some ⟨a, 0, none⟩), .agg (U i.1).toArray] w (TgtP w l true) := by
 obtain ⟨wa, hwa⟩ : ∃ wa, wa = w.alloc (.cells (U i.1).toArray 30) := ⟨_, rfl⟩
 obtain ⟨wb, hwb⟩ : ∃ wb, wb = wa.alloc (.cells (lnkV (zeroId, 0)).toArray 106) := ⟨_, rfl⟩
 have hsa : wa.heap.size = w.heap.size + 1 := by rw [hwa]; simp
 have hba : Below w.heap.size w wa := by rw [hwa]; exact (Below.refl _ _).alloc (Nat.le_refl _) _
 have hbb : Below w.heap.size w wb := by rw [hwb]; exact hba.alloc hba.size _
 have HR : Hid (Blk wb w.heap.size 30 (U i.1).toArray) := by
  have h1 : Blk wa w.heap.size 30 (U i.1).toArray := by rw [hwa]; exact Blk.new _ _ _
  rw [hwb]
  exact h1.alloc _
 have HT : Hid (Blk wb (w.heap.size + 1) 106 (lnkV (zeroId, 0)).toArray) := by
  have h1 := Blk.new wa 106 (lnkV (zeroId, 0)).toArray
  rw [hsa, ← hwb] at h1
  exact h1
 have hbw : Below w0.heap.size w0 wb := hb.trans (hbb.mono hb.size)
 have HKI := Lib.hid (kindK B0 a m S Ds i wb (he.at_ hbw).1 he.kn hi (he.at_ hbw).2)
 have HB := Lib.hid hbb
 have HWA := Lib.hid hwa
 have HWB := Lib.hid hwb
 have HSZ2 := Lib.hid (id_size' _ i.2)
 have HLS := Lib.hid (lnk_size' (zeroId, 0))
 have HLS2 : Hid ((Tryz.prog.info? 106).map (·.size) = some ([Value.int IntKind.u8 0, Value.int IntKind.u8 0, Value.int IntKind.u8 0, Value.int IntKind.u8 0, Value.int IntKind.u8 0, Value.int IntKind.u8 0, Value.int IntKind.u8 0, Value.int IntKind.u8 0, Value.int IntKind.u8 0, Value.int IntKind.u8 0, Value.int IntKind.u8 0, Value.int IntKind.u8 0, Value.int IntKind.u8 0, Value.int IntKind.u8 0, Value.int IntKind.u8 0, Value.int IntKind.u8 0, Value.int IntKind.u8 0, Value.int IntKind.u8 0, Value.int IntKind.u8 0, Value.int IntKind.u8 0, Value.int IntKind.u8 0, Value.int IntKind.u8 0, Value.int IntKind.u8 0, Value.int IntKind.u8 0, Value.int IntKind.u8 0, Value.int IntKind.u8 0, Value.int IntKind.u8 0, Value.int IntKind.u8 0, Value.int IntKind.u8 0, Value.int IntKind.u8 0, Value.int IntKind.u8 0, Value.int IntKind.u8 0, Value.int IntKind.i64 0] : List Value).length) := lnkV_size (zeroId, 0)
 have HFL : Hid (0 + ([Value.int IntKind.u8 0, Value.int IntKind.u8 0, Value.int IntKind.u8 0, Value.int IntKind.u8 0, Value.int IntKind.u8 0, Value.int IntKind.u8 0, Value.int IntKind.u8 0, Value.int IntKind.u8 0, Value.int IntKind.u8 0, Value.int IntKind.u8 0, Value.int IntKind.u8 0, Value.int IntKind.u8 0, Value.int IntKind.u8 0, Value.int IntKind.u8 0, Value.int IntKind.u8 0, Value.int IntKind.u8 0, Value.int IntKind.u8 0, Value.int IntKind.u8 0, Value.int IntKind.u8 0, Value.int IntKind.u8 0, Value.int IntKind.u8 0, Value.int IntKind.u8 0, Value.int IntKind.u8 0, Value.int IntKind.u8 0, Value.int IntKind.u8 0, Value.int IntKind.u8 0, Value.int IntKind.u8 0, Value.int IntKind.u8 0, Value.int IntKind.u8 0, Value.int IntKind.u8 0, Value.int IntKind.u8 0, Value.int IntKind.u8 0, Value.int IntKind.i64 0] : List Value).length ≤ (lnkV (zeroId, 0)).length) := lnk_fit (zeroId, 0)
 have HONE : Hid (∀ v ∈ ([Value.int IntKind.u8 0, Value.int IntKind.u8 0, Value.int IntKind.u8 0, Value.int IntKind.u8 0, Value.int IntKind.u8 0, Value.int IntKind.u8 0, Value.int IntKind.u8 0, Value.int IntKind.u8 0, Value.int IntKind.u8 0, Value.int IntKind.u8 0, Value.int IntKind.u8 0, Value.int IntKind.u8 0, Value.int IntKind.u8 0, Value.int IntKind.u8 0, Value.int IntKind.u8 0, Value.int IntKind.u8 0, Value.int IntKind.u8 0, Value.int IntKind.u8 0, Value.int IntKind.u8 0, Value.int IntKind.u8 0, Value.int IntKind.u8 0, Value.int IntKind.u8 0, Value.int IntKind.u8 0, Value.int IntKind.u8 0, Value.int IntKind.u8 0, Value.int IntKind.u8 0, Value.int IntKind.u8 0, Value.int IntKind.u8 0, Value.int IntKind.u8 0, Value.int IntKind.u8 0, Value.int IntKind.u8 0, Value.int IntKind.u8 0, Value.int IntKind.i64 0] : List Value), v.oneCell' = true) := lnkV_one (zeroId, 0)
 have HLZ := Lib.hid lnk_zero
 have hu30 := Tryz.underlying30
 unfold Hid at HKI
 rw [hk] at HKI
 replace HKI := Lib.hid HKI
 have HCH : Hid (∀ wc, Below w0.heap.size w0 wc → Calls Tryz.prog 50 #[.pointer (some ⟨a, 0, none⟩), .agg (U i.1).toArray] wc (KidsPost wc [l])) := fun wc hc => by
  have := childrenK B0 a m S Ds i wb (he.at_ hbw).1 he.kn hi (he.at_ hbw).2
  rw [← hcl]
  exact childrenK B0 a m S Ds i wc (he.at_ hc).1 he.kn hi (he.at_ hc).2
 have HBB := Lib.hid hb
 have HLL := Lib.hid (lnkV_size l)
 have HLL2 := Lib.hid (lnk_size' l)
 have HFF := Lib.hid (lnk_fit l)
 have hr3 : Blk wb w.heap.size 30 (U i.1).toArray → wb.heap[w.heap.size]? = some (.cells (U i.1).toArray 30 (0, 0)) := fun h => h
 have HR3 := Lib.hid (hr3 HR.out)
 clear hwa hwb hba hbb hbw he hb hi hk hcl hsa hr3
 go_enter Tryz.func38, Tryz.ntmps38
 go_upto_region 1 with fail
 rw [HLZ.out, ← HWA.out, ← HWB.out]
 clear HWA HWB
 go_wp2_with (with_reducible refine wpList_load_row rfl 30 (.tmp 3) rfl w.heap.size rfl 30 (U i.1).toArray (0, 0) _ HR3.out hu30 rfl HSZ2.out ?_)
 refine HKI.out.mono ?_
 rintro e w1 ⟨rfl, hb1⟩
 have HR1 : Hid (Blk w1 w.heap.size 30 (U i.1).toArray) := HR.out.below hb1 HR.out.lt
 have HT1 : Hid (Blk w1 (w.heap.size + 1) 106 (lnkV (zeroId, 0)).toArray) := HT.out.below hb1 HT.out.lt
 have HB1 := Lib.hid (HB.out.trans (hb1.mono HB.out.size))
 have HCH1 := Lib.hid (HCH.out w1 (HBB.out.trans (HB1.out.mono HBB.out.size)))
 have hr31 : w1.heap[w.heap.size]? = some (.cells (U i.1).toArray 30 (0, 0)) := HR1.out
 have HR31 := Lib.hid hr31
 clear hb1 HT HB HKI HR HR3 HCH HBB hr31
 go_wp2_with (with_reducible refine wpList_load_row rfl 30 (.tmp 3) rfl w.heap.size rfl 30 (U i.1).toArray (0, 0) _ HR31.out hu30 rfl HSZ2.out ?_)
 refine HCH1.out.mono ?_
 rintro e w2 ⟨v, rfl, hv, hb2⟩
 obtain ⟨A, k, rfl, hv2⟩ := hv.read (Nat.le_refl _)
 obtain ⟨q, o, cs, rfl, _, _, hrq⟩ : ∃ q o cs, A = some ⟨q, o, none⟩ ∧ w1.heap.size ≤ q ∧ Blk w2 q 106 cs ∧ w2.rangeAt q o (LnkU [l]) := by
  rcases hv2 with h | h
  · cases h
  · exact h
 have e1 : LnkU [l] = lnkV l := by simp [LnkU]
 rw [e1] at hrq
 have HRQ := Lib.hid hrq
 have HT2 : Hid (w2.heap[w.heap.size + 1]? = some (.cells (lnkV (zeroId, 0)).toArray 106 (0, 0))) := HT1.out.below hb2 HT1.out.lt
 have HB2 := Lib.hid (HB1.out.trans (hb2.mono HB1.out.size))
 clear hv hv2 hrq e1 hb2 HCH1 HR1 HT1 HR31 HB1
 go_wp2_with (first
  | (with_reducible refine wpList_load_mid rfl 106 (.tmp 26) rfl q o rfl (lnkV l) _ HRQ.out Tryz.underlying106 rfl HLL.out ?_)
  | (with_reducible refine wpList_storeG rfl 106 (.tmp 4) (.tmp 27) rfl (w.heap.size + 1) 0 (lnkV l) rfl rfl (lnkV (zeroId, 0)) 106 HT2.out HFF.out (lnkV_one _) HLL.out ?_; intro w3 HB3 HG3))
 have HRW : Hid (w3.heap[w.heap.size + 1]? = some (.cells (lnkV l).toArray 106 (0, 0))) := by
  have h1 := HB3.out
  rw [splice_lnk] at h1
  exact h1
 have HF : Hid (TgtP w l true (.returned (.tuple #[.agg (lnkV l).toArray, .bool true])) w3) := ⟨rfl, HB2.out.trans (below_of_gb_some HG3.out (by omega) HB2.out.size)⟩
 exact bodyPost_ret (v := .tuple #[.agg (lnkV l).toArray, .bool true]) (results_cell_row_tmp Tryz.results38 _ w3 (w.heap.size + 1) 106 (lnkV l).toArray (0, 0) _ rfl HRW.out Tryz.underlying106 rfl HLL2.out) rfl HF.out
def TagOne (S : Sto) : Prop := ∀ i ∈ idsS S, kindS S i = 4 → ∃ l, childS S i = [l]
set_option maxHeartbeats 2000000 in
theorem peelT (w0 w : World) (B0 m a sb : Nat) (S : Sto) (Ds : DataW Value) (i : Id) (kv : Value) (he : Env w0 B0 a m S Ds) (hb : Below w0.heap.size w0 w) (hs : Blk w sb 25 #[.pointer (some ⟨a, 0, none⟩)]) (hi : i ∈ idsS S) (ht : TagOne S) :
 Calls Tryz.prog 37 #[.agg (U i.1).toArray, kv, .pointer (some ⟨sb, 0, none⟩)] w (OfP w (lnkT S i)) := by
 obtain ⟨wb, hwb⟩ : ∃ wb, wb = w.alloc (.cells (U i.1).toArray 30) := ⟨_, rfl⟩
 have hbb : Below w.heap.size w wb := by rw [hwb]; exact (Below.refl _ _).alloc (Nat.le_refl _) _
 have HR : Hid (wb.heap[w.heap.size]? = some (.cells (U i.1).toArray 30 (0, 0))) := by rw [hwb]; exact heap_alloc_new w _
 have hcs : wb.cell? ⟨sb, 0, none⟩ = some (.pointer (some ⟨a, 0, none⟩)) := (hs.below hbb hs.lt).cell 0
 have hbw : Below w0.heap.size w0 wb := hb.trans (hbb.mono hb.size)
 have HB := Lib.hid hbb
 have HWB := Lib.hid hwb
 have HSZ2 := Lib.hid (id_size' _ i.2)
 have hu30 := Tryz.underlying30
 have HLL : Hid (∀ l, (Tryz.prog.info? 106).map (·.size) = some (lnkV l).length) := lnkV_size
 have HLL2 : Hid (∀ l, (Tryz.prog.info? 106).map (·.size) = some (lnkV l).toArray.size) := lnk_size'
 have HFF : Hid (∀ l, 0 + (lnkV l).length ≤ (lnkV (zeroId, 0)).length) := lnk_fit
 have HLN : Hid (∀ w : World, Hid ((w.alloc (.cells #[Value.int IntKind.u8 0, Value.int IntKind.u8 0, Value.int IntKind.u8 0, Value.int IntKind.u8 0, Value.int IntKind.u8 0, Value.int IntKind.u8 0, Value.int IntKind.u8 0, Value.int IntKind.u8 0, Value.int IntKind.u8 0, Value.int IntKind.u8 0, Value.int IntKind.u8 0, Value.int IntKind.u8 0, Value.int IntKind.u8 0, Value.int IntKind.u8 0, Value.int IntKind.u8 0, Value.int IntKind.u8 0, Value.int IntKind.u8 0, Value.int IntKind.u8 0, Value.int IntKind.u8 0, Value.int IntKind.u8 0, Value.int IntKind.u8 0, Value.int IntKind.u8 0, Value.int IntKind.u8 0, Value.int IntKind.u8 0, Value.int IntKind.u8 0, Value.int IntKind.u8 0, Value.int IntKind.u8 0, Value.int IntKind.u8 0, Value.int IntKind.u8 0, Value.int IntKind.u8 0, Value.int IntKind.u8 0, Value.int IntKind.u8 0, Value.int IntKind.i64 0] 106)).heap[w.heap.size]? = some (.cells (lnkV (zeroId, 0)).toArray 106 (0, 0)))) := lnk_new
 by_cases hk : kindS S i = 4
 · obtain ⟨l, hcl⟩ := ht i hi hk
   have HT := Lib.hid (target_yes w0 wb B0 m a S Ds i he hbw hi hk l hcl)
   have e1 : lnkT S i = [l] := by unfold lnkT; rw [if_pos hk, hcl]
   rw [e1]
   clear hwb hbb hbw he hb hs hi hk hcl e1 ht
   go_enter Tryz.func37, Tryz.ntmps37
   go_upto_region 1 with fail
   rw [← HWB.out]
   clear HWB
   go_wp2_with (with_reducible refine wpList_load_row rfl 30 (.tmp 3) rfl w.heap.size rfl 30 (U i.1).toArray (0, 0) _ HR.out hu30 rfl HSZ2.out ?_)
   refine HT.out.mono ?_
   rintro e w1 ⟨rfl, hb1⟩
   have HN := HLN.out w1
   have HB1 := Lib.hid (HB.out.trans (hb1.mono HB.out.size))
   have HL1 := Lib.hid (HLL.out l)
   have HF1 := Lib.hid (HFF.out l)
   clear hb1 HB HT HR hcs
   go_upto_region 2 with (with_reducible refine wpList_storeG rfl 106 (.tmp 6) (.tmp 12) rfl w1.heap.size 0 (lnkV l) rfl rfl (lnkV (zeroId, 0)) 106 HN.out HF1.out (lnkV_one _) HL1.out ?_; intro w2 HB2 HG2)
   have G2 : w1.grownBy w2 none := gb_fresh HG2.out
   have HR2 : Hid (w2.heap[w1.heap.size]? = some (.cells (lnkV l).toArray 106 (0, 0))) := by
    have h1 := HB2.out
    rw [splice_lnk] at h1
    exact h1
   have HBW2 : Hid (Below w.heap.size w w2) := HB1.out.trans ((below_of_gb G2).mono HB1.out.size)
   have HF : Hid (OfP w [l] (.returned (.slice (some ⟨w2.heap.size, 0, none⟩) 1 1)) (w2.alloc (.cells (lnkV l).toArray 106))) := by
    have h1 : Blk (w2.alloc (.cells (lnkV l).toArray 106)) w2.heap.size 106 (lnkV l).toArray := Blk.new _ _ _
    refine ⟨_, rfl, ⟨some ⟨w2.heap.size, 0, none⟩, 1, rfl, .inr ⟨w2.heap.size, 0, _, rfl, HBW2.out.size, h1, ?_⟩⟩, HBW2.out.alloc HBW2.out.size _⟩
    have e2 : LnkU [l] = lnkV l := by simp [LnkU]
    rw [e2]
    exact lnk_range h1
   have HL2 := Lib.hid (HLL2.out l)
   obtain ⟨d0, d1, d2, d3, d4, d5, d6, d7, d8, d9, d10, d11, d12, d13, d14, d15, d16, d17, d18, d19, d20, d21, d22, d23, d24, d25, d26, d27, d28, d29, d30, d31, d32, hdv⟩ := lnk33 l
   unfold Hid at HF HR2 HL2
   rw [hdv] at HF HR2 HL2
   replace HF := Lib.hid HF
   replace HR2 := Lib.hid HR2
   replace HL2 := Lib.hid HL2
   clear HB2 HG2 G2 hdv HBW2 HN HB1 HLL HLL2 HLN HFF HL1 HF1
   go_wp2_with (with_reducible refine wpList_load_row rfl 106 (.tmp 6) rfl w1.heap.size rfl 106 #[d0, d1, d2, d3, d4, d5, d6, d7, d8, d9, d10, d11, d12, d13, d14, d15, d16, d17, d18, d19, d20, d21, d22, d23, d24, d25, d26, d27, d28, d29, d30, d31, d32] (0, 0) _ HR2.out Tryz.underlying106 rfl HL2.out ?_)
   go_ret
   exact HF.out
 · have HT := Lib.hid (target_no w0 wb B0 m a S Ds i he hbw hi hk)
   have e1 : lnkT S i = [] := by unfold lnkT; rw [if_neg hk]
   rw [e1]
   clear hwb hbb hbw he hb hs hi hk e1 ht
   go_enter Tryz.func37, Tryz.ntmps37
   go_upto_region 1 with fail
   rw [← HWB.out]
   clear HWB
   go_wp2_with (with_reducible refine wpList_load_row rfl 30 (.tmp 3) rfl w.heap.size rfl 30 (U i.1).toArray (0, 0) _ HR.out hu30 rfl HSZ2.out ?_)
   refine HT.out.mono ?_
   rintro e w1 ⟨rfl, hb1⟩
   have HN := HLN.out w1
   have HB1 := Lib.hid (HB.out.trans (hb1.mono HB.out.size))
   have HL1 := Lib.hid (HLL.out (zeroId, 0))
   have HF1 := Lib.hid (HFF.out (zeroId, 0))
   clear hb1 HB HT HR hcs
   go_upto_region 2 with (with_reducible refine wpList_storeG rfl 106 (.tmp 6) (.tmp 12) rfl w1.heap.size 0 (lnkV (zeroId, 0)) rfl rfl (lnkV (zeroId, 0)) 106 HN.out HF1.out (lnkV_one _) HL1.out ?_; intro w2 HB2 HG2)
   have G2 : w1.grownBy w2 none := gb_fresh HG2.out
   have HF : Hid (OfP w [] (.returned (.slice none 0 0)) w2) := ⟨_, rfl, ⟨none, 0, rfl, .inl rfl⟩, HB1.out.trans ((below_of_gb G2).mono HB1.out.size)⟩
   clear HB2 HG2 G2 HN HB1 HLL HLL2 HLN HFF HL1 HF1
   go_wp2_with fail
   go_ret
   exact HF.out
def TagIn (S : Sto) : Prop := ∀ i ∈ idsS S, ∀ l ∈ lnkT S i, l.1 ∈ idsS S
def EndRel (w : World) (S : Sto) (p : Id) (v : Value) (wr : World) : Prop :=
 ∃ (j : Nat) (x : Id), j ≤ S.length + 1 ∧ v = .int .i64 (j : Int) ∧ x ∈ idsS S ∧ Hid (endGo S (S.length + 1 - j) x = some p) ∧ Hid (Blk wr w.heap.size 30 (U x.1).toArray) ∧ Hid (Blk wr (w.heap.size + 1) 30 (U (List.replicate 32 0)).toArray) ∧ Hid (Below w.heap.size w wr)
set_option maxHeartbeats 2000000 in
theorem end_any (w0 w : World) (B0 m a : Nat) (S : Sto) (Ds : DataW Value) (i p : Id) (he : Env w0 B0 a m S Ds) (hb : Below w0.heap.size w0 w) (hi : i ∈ idsS S) (ht : TagOne S) (hti : TagIn S) (hp : endP S i = some p) (hsl : S.length ≤ 8192) :
 Calls Tryz.prog 39 #[.pointer (some ⟨a, 0, none⟩), .agg (U i.1).toArray] w fun e w' => e = .returned (.tuple #[.agg (U p.1).toArray, .int .i64 0]) ∧ Below w.heap.size w w' := by
 obtain ⟨wa, hwa⟩ : ∃ wa, wa = w.alloc (.cells (U i.1).toArray 30) := ⟨_, rfl⟩
 obtain ⟨wb, hwb⟩ : ∃ wb, wb = wa.alloc (.cells (idC []) 30) := ⟨_, rfl⟩
 have hsa : wa.heap.size = w.heap.size + 1 := by rw [hwa]; simp
 have hba : Below w.heap.size w wa := by rw [hwa]; exact (Below.refl _ _).alloc (Nat.le_refl _) _
 have hbb : Below w.heap.size w wb := by rw [hwb]; exact hba.alloc hba.size _
 have HR : Hid (Blk wb w.heap.size 30 (U i.1).toArray) := by
  have h1 : Blk wa w.heap.size 30 (U i.1).toArray := by rw [hwa]; exact Blk.new _ _ _
  rw [hwb]
  exact h1.alloc _
 have HT : Hid (Blk wb (w.heap.size + 1) 30 (U (List.replicate 32 0)).toArray) := by
  have h1 := Blk.new wa 30 (idC [])
  rw [hsa, ← hwb, idT_eq] at h1
  exact h1
 have hbw : Below w0.heap.size w0 wb := hb.trans (hbb.mono hb.size)
 have HLE := Lib.hid (len_store B0 a m S Ds wb (he.at_ hbw).1)
 have HTG : Hid (∀ wc, Below w0.heap.size w0 wc → ∀ x ∈ idsS S, (kindS S x ≠ 4 → Calls Tryz.prog 38 #[.pointer (some ⟨a, 0, none⟩), .agg (U x.1).toArray] wc (TgtP wc (zeroId, 0) false)) ∧
  ∀ l, kindS S x = 4 → childS S x = [l] → Calls Tryz.prog 38 #[.pointer (some ⟨a, 0, none⟩), .agg (U x.1).toArray] wc (TgtP wc l true)) := fun wc hc x hx =>
  ⟨fun hk => target_no w0 wc B0 m a S Ds x he hc hx hk, fun l hk hcl => target_yes w0 wc B0 m a S Ds x he hc hx hk l hcl⟩
 have HB := Lib.hid hbb
 have HBB := Lib.hid hb
 have HWA := Lib.hid hwa
 have HWB := Lib.hid hwb
 have HZ := Lib.hid z32_id
 have hu30 := Tryz.underlying30
 have hu157 := Tryz.underlying106
 have HTO := Lib.hid ht
 have HTI := Lib.hid hti
 have HP := Lib.hid hp
 have HI := Lib.hid hi
 have HLL : Hid (∀ l, (Tryz.prog.info? 106).map (·.size) = some (lnkV l).length) := lnkV_size
 have HFF : Hid (∀ l, 0 + (lnkV l).length ≤ (lnkV (zeroId, 0)).length) := lnk_fit
 have HLN : Hid (∀ w : World, Hid ((w.alloc (.cells #[Value.int IntKind.u8 0, Value.int IntKind.u8 0, Value.int IntKind.u8 0, Value.int IntKind.u8 0, Value.int IntKind.u8 0, Value.int IntKind.u8 0, Value.int IntKind.u8 0, Value.int IntKind.u8 0, Value.int IntKind.u8 0, Value.int IntKind.u8 0, Value.int IntKind.u8 0, Value.int IntKind.u8 0, Value.int IntKind.u8 0, Value.int IntKind.u8 0, Value.int IntKind.u8 0, Value.int IntKind.u8 0, Value.int IntKind.u8 0, Value.int IntKind.u8 0, Value.int IntKind.u8 0, Value.int IntKind.u8 0, Value.int IntKind.u8 0, Value.int IntKind.u8 0, Value.int IntKind.u8 0, Value.int IntKind.u8 0, Value.int IntKind.u8 0, Value.int IntKind.u8 0, Value.int IntKind.u8 0, Value.int IntKind.u8 0, Value.int IntKind.u8 0, Value.int IntKind.u8 0, Value.int IntKind.u8 0, Value.int IntKind.u8 0, Value.int IntKind.i64 0] 106)).heap[w.heap.size]? = some (.cells (lnkV (zeroId, 0)).toArray 106 (0, 0)))) := lnk_new
 obtain ⟨sn, hsn⟩ : ∃ sn, sn = S.length + 1 := ⟨_, rfl⟩
 have e1 : (S.length : Int) + 1 = (sn : Int) := by omega
 have ewl : IntKind.i64.wrap (sn : Int) = (sn : Int) := wraps_i64 _ (by omega) (by omega)
 have hsnb : sn ≤ 8193 := by omega
 have HSN := Lib.hid hsn
 clear hwa hwb hba hbb hbw he hb hi hsa ht hti hp hsl hsn
 go_enter Tryz.func39, Tryz.ntmps39
 go_upto_region 1 with fail
 rw [HZ.out, ← HWA.out, ← HWB.out]
 clear HWA HWB HZ
 go_wp2_with (first
  | exact HLE.out
  | fail)
 refine HLE.out.mono ?_
 rintro e w1 ⟨rfl, rfl⟩
 clear HLE
 go_wp2_with fail
 go_loopw [11] (fun v wr => EndRel w S p v wr) (fun v _ => sn - (intOf v).toNat)
 case atStart => exact ⟨0, i, by omega, rfl, HI.out, HP.out, HR, HT, HB⟩
 case round =>
  clear HR HT HB HI HP
  obtain ⟨j, x, hj, rfl, hx, HE, HR, HT, HB⟩ := hrel
  have hjl : j ≤ S.length := by
   rcases Nat.lt_or_ge j (S.length + 1) with h | h
   · omega
   · have := HE.out
     rw [show S.length + 1 - j = 0 by omega] at this
     cases this
  have hjs : j < sn := by rw [HSN.out]; omega
  have hd : decide ((j : Int) < (sn : Int)) = true := decide_eq_true (by omega)
  have hd' : decide (j < sn) = true := decide_eq_true hjs
  have hjb : j ≤ 8193 := by omega
  have HJ := Lib.hid hjl
  have HX := Lib.hid hx
  have HSZ2 := Lib.hid (id_size' _ x.2)
  have HSZ := Lib.hid (id_size _ x.2)
  have HFT := Lib.hid (id_fit _ x.2)
  have HR3 : Hid (wr.heap[w.heap.size]? = some (.cells (U x.1).toArray 30 (0, 0))) := HR.out
  have HGO : Hid (endGo S (S.length + 1 - j) x = match lnkT S x with | [] => some x | l :: _ => endGo S (S.length + 1 - (j + 1)) l.1) := by
   unfold Hid
   rw [show S.length + 1 - j = (S.length + 1 - (j + 1)) + 1 by omega, endGo]
   cases lnkT S x <;> rfl
  have HTX := Lib.hid (HTG.out wr (HBB.out.trans (HB.out.mono HBB.out.size)) x hx)
  clear hj hx hjl
  by_cases hk : kindS S x = 4
  · obtain ⟨l, hcl⟩ := HTO.out x HX.out hk
    have elt : lnkT S x = [l] := by unfold lnkT; rw [if_pos hk, hcl]
    have HEL : Hid (endGo S (S.length + 1 - (j + 1)) l.1 = some p) := by
     have h1 := HE.out
     rw [HGO.out, elt] at h1
     exact h1
    have HLI : Hid (l.1 ∈ idsS S) := HTI.out x HX.out l (by rw [elt]; simp)
    have HT1 := Lib.hid (HTX.out.2 l hk hcl)
    clear hk hcl elt HTX HGO HE
    go_wp2_with (with_reducible refine wpList_load_row rfl 30 (.tmp 3) rfl w.heap.size rfl 30 (U x.1).toArray (0, 0) _ HR3.out hu30 rfl HSZ2.out ?_)
    refine HT1.out.mono ?_
    rintro e w2 ⟨rfl, hb2⟩
    have HN := HLN.out w2
    have HB2 := Lib.hid (HB.out.trans (hb2.mono HB.out.size))
    have HR2 := Lib.hid (HR.out.below hb2 HR.out.lt)
    have HTT := Lib.hid (HT.out.below hb2 HT.out.lt)
    have HL1 := Lib.hid (HLL.out l)
    have HF1 := Lib.hid (HFF.out l)
    clear hb2 HB HT1 HR HT HR3
    go_upto_region 4 with (with_reducible refine wpList_storeG rfl 106 (.tmp 6) (.tmp 17) rfl w2.heap.size 0 (lnkV l) rfl rfl (lnkV (zeroId, 0)) 106 HN.out HF1.out (lnkV_one _) HL1.out ?_; intro w3 HB3 HG3)
    have G3 : w2.grownBy w3 none := gb_fresh HG3.out
    have hl3 : Blk w3 w2.heap.size 106 (lnkV l).toArray := by
     have h1 := HB3.out
     rw [splice_lnk] at h1
     exact h1
    have HRI := Lib.hid (lnk_range_id (lnk_range hl3))
    have HBW3 : Hid (Below w.heap.size w w3) := HB2.out.trans ((below_of_gb G3).mono HB2.out.size)
    have HR4 : Hid (w3.heap[w.heap.size]? = some (.cells (U x.1).toArray 30 (0, 0))) := HR2.out.gb G3 (by simp)
    have HT4 := Lib.hid (HTT.out.gb G3 (by simp))
    have HSl := Lib.hid (id_size _ l.1.2)
    have HFx : Hid (0 + (U l.1.1).length ≤ (U x.1).length) := by unfold Hid; rw [U_length, U_length, l.1.2, x.2]; decide
    clear G3 HB3 HG3 hl3 HN HB2 HR2 HTT HL1 HF1
    go_wp2_with (first
     | (with_reducible refine wpList_load_mid rfl 30 (.tmp 22) rfl w2.heap.size 0 rfl (U l.1.1) _ HRI.out hu30 rfl HSl.out ?_)
     | (with_reducible refine wpList_storeG rfl 30 (.tmp 3) (.tmp 23) rfl w.heap.size 0 (U l.1.1) rfl rfl (U x.1) 30 HR4.out HFx.out (U_one _) HSl.out ?_; intro w4 HB4 HG4))
    have HR5 : Hid (Blk w4 w.heap.size 30 (U l.1.1).toArray) := by
     have h1 := HB4.out
     rw [splice_all _ _ (by rw [U_length, U_length, l.1.2, x.2])] at h1
     exact h1
    have HT5 := Lib.hid (HT4.out.gb HG4.out (fun e => by have := Option.some.inj e; omega))
    have HB5 := Lib.hid (HBW3.out.trans (below_of_gb_some HG4.out (Nat.le_refl _) HBW3.out.size))
    clear HB4 HG4 HBW3 HR4 HT4
    try go_wp2_with fail
    go_roundw
    case rel => exact ⟨j + 1, l.1, by have := HJ.out; omega, by go_num, HLI.out, HEL, HR5, HT5, HB5⟩
    case measure => simp [intOf]; omega
  · have elt : lnkT S x = [] := by unfold lnkT; rw [if_neg hk]
    have hxp : x = p := by
     have h1 := HE.out
     rw [HGO.out, elt] at h1
     exact Option.some.inj h1
    subst hxp
    have HT1 := Lib.hid (HTX.out.1 hk)
    clear hk elt HTX HGO HE
    go_wp2_with (with_reducible refine wpList_load_row rfl 30 (.tmp 3) rfl w.heap.size rfl 30 (U x.1).toArray (0, 0) _ HR3.out hu30 rfl HSZ2.out ?_)
    refine HT1.out.mono ?_
    rintro e w2 ⟨rfl, hb2⟩
    have HN := HLN.out w2
    have HB2 := Lib.hid (HB.out.trans (hb2.mono HB.out.size))
    have HR2 := Lib.hid (HR.out.below hb2 HR.out.lt)
    have HTT := Lib.hid (HT.out.below hb2 HT.out.lt)
    have HL1 := Lib.hid (HLL.out (zeroId, 0))
    have HF1 := Lib.hid (HFF.out (zeroId, 0))
    clear hb2 HB HT1 HR HT HR3
    go_upto_region 4 with (with_reducible refine wpList_storeG rfl 106 (.tmp 6) (.tmp 17) rfl w2.heap.size 0 (lnkV (zeroId, 0)) rfl rfl (lnkV (zeroId, 0)) 106 HN.out HF1.out (lnkV_one _) HL1.out ?_; intro w3 HB3 HG3)
    have G3 : w2.grownBy w3 none := gb_fresh HG3.out
    have HBW3 : Hid (Below w.heap.size w w3) := HB2.out.trans ((below_of_gb G3).mono HB2.out.size)
    have HR4 : Hid (w3.heap[w.heap.size]? = some (.cells (U x.1).toArray 30 (0, 0))) := HR2.out.gb G3 (by simp)
    have HT4 : Hid (w3.heap[w.heap.size + 1]? = some (.cells (U (List.replicate 32 0)).toArray 30 (0, 0))) := HTT.out.gb G3 (by simp)
    clear G3 HB3 HG3 HN HB2 HR2 HTT HL1 HF1
    go_wp2_with (first
     | (with_reducible refine wpList_load_row rfl 30 (.tmp 3) rfl w.heap.size rfl 30 (U x.1).toArray (0, 0) _ HR4.out hu30 rfl HSZ2.out ?_)
     | (with_reducible refine wpList_storeG rfl 30 (.tmp 4) (.tmp 21) rfl (w.heap.size + 1) 0 (U x.1) rfl rfl (U (List.replicate 32 0)) 30 HT4.out HFT.out (U_one _) HSZ.out ?_; intro w4 HB4 HG4))
    have HRW : Hid (w4.heap[w.heap.size + 1]? = some (.cells (U x.1).toArray 30 (0, 0))) := by
     have h1 := HB4.out
     rw [splice_id _ x.2] at h1
     exact h1
    have HF : Hid (Below w.heap.size w w4) := HBW3.out.trans (below_of_gb_some HG4.out (by omega) HBW3.out.size)
    exact bodyPost_ret (v := .tuple #[.agg (U x.1).toArray, .int .i64 0]) (results_cell_row_tmp Tryz.results39 _ w4 (w.heap.size + 1) 30 (U x.1).toArray (0, 0) _ rfl HRW.out hu30 rfl HSZ2.out) rfl ⟨rfl, HF.out⟩
structure Good (S : Sto) : Prop where
 ok : StoOk S
 kn : KnS S
 tag : TagOne S
 kids : ∀ i ∈ idsS S, ∀ l ∈ childS S i, l.1 ∈ idsS S ∧ kindS S l.1 = l.2
 wide : ∀ i, (childS S i).length ≤ 2
 len : S.length ≤ 8000
 com : ∀ i ∈ idsS S, kindS S i = 3 → ∃ l0 ls, childS S i = l0 :: ls
 par : ∀ i ∈ idsS S, kindS S i = 3 → ∀ l ∈ (childS S i).drop 1, l.2 = 3
 tgt : ∀ i ∈ idsS S, kindS S i = 4 → ∀ l ∈ childS S i, l.2 = 3 ∨ l.2 = 4
theorem Good.rch {S : Sto} (g : Good S) {f : Id → List Lnk} (hf : ∀ i l, l ∈ f i → l ∈ childS S i) {rs : List Id} (hr : ∀ i ∈ rs, i ∈ idsS S) {i : Id} (h : Rch (nxt_ f) rs i) : i ∈ idsS S :=
 h.sub (S := fun x => x ∈ idsS S) hr (fun i hi j hj => by
  obtain ⟨l, hl, rfl⟩ := List.mem_map.1 hj
  exact (g.kids i hi l (hf i l hl)).1)
theorem nodup_len : ∀ {l m : List Id}, l.Nodup → (∀ i ∈ l, i ∈ m) → l.length ≤ m.length
 | [], m, _, _ => Nat.zero_le _
 | a :: t, m, hn, h => by
   obtain ⟨h1, h2⟩ := List.nodup_cons.1 hn
   have ha := h a (by simp)
   have h3 := nodup_len (m := m.erase a) h2 (fun i hi => (List.mem_erase_of_ne (fun e => h1 (by rw [← e]; exact hi))).2 (h i (List.mem_cons_of_mem _ hi)))
   rw [List.length_erase_of_mem ha] at h3
   have := List.length_pos_of_mem ha
   simp
   omega
theorem within_sub {S : Sto} {f : Id → List Lnk} (hf : ∀ i l, l ∈ f i → l ∈ childS S i) : Within S f := fun i hi => by
 cases h : f i with
 | nil => rfl
 | cons l r =>
   have := hf i l (by rw [h]; simp)
   rw [childS_absent hi] at this
   cases this
theorem Good.kind {S : Sto} (g : Good S) {i : Id} (h : i ∈ idsS S) : kindS S i ≠ 0 := (kind_has g.ok i).2 ((has_ids S i).2 h)
theorem Good.met {S : Sto} (g : Good S) {f : Id → List Lnk} (hf : ∀ i l, l ∈ f i → l ∈ childS S i) {rs : List Id} (hr : ∀ i ∈ rs, i ∈ idsS S) {c : Cst} (h : CEnd S f rs c) :
 (∀ i ∈ c.ks, kindS S i ≠ 0) ∧ ∀ l ∈ c.ls, l.1 ∈ c.ks ∧ kindS S l.1 = l.2 := by
 have hw := within_sub hf
 have hin : ∀ i ∈ setP f rs, i ∈ idsS S := fun i hi => g.rch hf hr ((mem_setP hw rs i).1 hi)
 refine ⟨fun i hi => g.kind (hin i ((h.ks i).1 hi)), fun l hl => ?_⟩
 obtain ⟨i, hi, hli⟩ := (h.ls l).1 hl
 refine ⟨(h.ks l.1).2 ?_, (g.kids i (hin i hi) l (hf i l hli)).2⟩
 rw [mem_setP hw] at hi ⊢
 exact .step hi (List.mem_map.2 ⟨l, hli, rfl⟩)
theorem Env.to {w0 w : World} {B0 a m : Nat} {S : Sto} {Ds : DataW Value} (h : Env w0 B0 a m S Ds) (hb : Below w0.heap.size w0 w) : Env w B0 a m S Ds := ⟨(h.at_ hb).1, h.ok, h.kn, (h.at_ hb).2⟩
theorem ComeP.seen {w0 : World} {S : Sto} {f : Id → List Lnk} {rs : List Id} {e : Ending} {w' : World} (h : ComeP w0 S f rs e w') :
 ∃ xs mk LA lc c D, e = .returned (.pointer (some ⟨xs, 0, none⟩)) ∧ SeenV w' w0.heap.size xs mk LA lc S c D ∧ CEnd S f rs c ∧ Below w0.heap.size w0 w' ∧ w0.heap.size ≤ xs ∧ w0.heap.size ≤ mk ∧ c.ls.length ≤ 900000 ∧ c.ks.length ≤ 900000 := by
 obtain ⟨xs, mk, LA, lc, c, D, h1, h2, h3, h4, h5, h6, h7, h8, h9, h10, h11⟩ := h
 exact ⟨xs, mk, LA, lc, c, D, h1, ⟨h2, h3, h4, h5⟩, h6, h7, h8, h9, h10, h11⟩
theorem childrenF (w : World) (a : Nat) : Calls Tryz.prog 25 #[.pointer (some ⟨a, 0, none⟩)] w fun e w' => e = .returned (.func (.func 49) #[] #[.pointer (some ⟨w.heap.size, 0, none⟩)]) ∧ w' = w.alloc (.cells #[.pointer (some ⟨a, 0, none⟩)] 25) := by
 go_enter Tryz.func25, Tryz.ntmps25
 go_wp2_with fail
 go_ret
 exact ⟨rfl, rfl⟩
theorem box_below (w : World) (v : Value) (t : TypeId) : Below w.heap.size w (w.alloc (.cells #[v] t)) := (Below.refl _ _).alloc (Nat.le_refl _) _
def ReachP (w : World) (l : List Id) (e : Ending) (w' : World) : Prop := ∃ A k, e = .returned (.tuple #[.slice A l.length k, .int .i64 0]) ∧ IdsR w' l A ∧ Below w.heap.size w w'
set_option maxHeartbeats 2000000 in
theorem reach_any (w : World) (B0 m a : Nat) (S : Sto) (Ds : DataW Value) (rs : List Id) (RA : Option Addr) (rk : Nat) (he : Env w B0 a m S Ds) (g : Good S) (hrs : IdsR w rs RA) (hrk : rs.length ≤ rk) (hr : ∀ i ∈ rs, i ∈ idsS S) (hn : rs.length ≤ 20000) (hsort : ∀ B, SortP B) :
 Calls Tryz.prog 10 #[.pointer (some ⟨a, 0, none⟩), .slice RA rs.length rk] w (ReachP w (setP (lnkA S) rs)) := by
 obtain ⟨w1, hw1⟩ : ∃ w1, w1 = w.alloc (.cells #[.pointer (some ⟨a, 0, none⟩)] 25) := ⟨_, rfl⟩
 have hb1 : Below w.heap.size w w1 := by rw [hw1]; exact box_below _ _ _
 have hs1 : Blk w1 w.heap.size 25 #[.pointer (some ⟨a, 0, none⟩)] := by rw [hw1]; exact Blk.new _ _ _
 have he1 := he.to hb1
 have hf : ∀ i l, l ∈ lnkA S i → l ∈ childS S i := fun _ _ h => h
 have hlen : S.length ≤ 8192 := by have := g.len; omega
 have HC := Lib.hid (come_A w1 B0 m a S Ds (lnkA S) rs RA rs.length rk 2 w.heap.size he1 (hrs.below hb1) rfl hrk (fun i h => g.rch hf hr h) (quiet_of g.ok (within_sub hf)) (fun i => g.wide i) (by omega) hlen
  (fun w' hb' i hi => kidsA w1 w' B0 m a w.heap.size S Ds i _ he1 hb' (hs1.below hb' hs1.lt) (g.rch hf hr hi)))
 have HF1 := Lib.hid (childrenF w a)
 have HG := Lib.hid g
 have HR := Lib.hid hr
 have HB1 := Lib.hid hb1
 have HS := Lib.hid hsort
 unfold Hid at HF1
 rw [← hw1] at HF1
 replace HF1 := Lib.hid HF1
 clear hw1 hb1 hs1 he1 he g hrs hr hsort hlen hf
 go_enter Tryz.func10, Tryz.ntmps10
 go_wp2_with fail
 refine HF1.out.mono ?_
 rintro e wx ⟨rfl, rfl⟩
 go_wp2_with fail
 refine HC.out.mono ?_
 intro e w2 hc
 obtain ⟨xs, mk, LA, lc, c, D, rfl, hsv, hce, hb2, _, _, hls, hks⟩ := hc.seen
 have hm := HG.out.met (fun _ _ h => h) HR.out hce
 have HB2 : Hid (Below w.heap.size w w2) := HB1.out.trans (hb2.mono HB1.out.size)
 have HW := Lib.hid (whole_any w2 _ xs mk LA lc S c D hsv hm.1 hm.2 (by omega))
 have HSV := Lib.hid hsv
 have HCE := Lib.hid hce
 have hkn : c.ks.length ≤ 100000 := by
  have h1 : ∀ i ∈ c.ks, i ∈ idsS S := fun i hi => HG.out.rch (fun _ _ h => h) HR.out ((mem_setP (within_A S) rs i).1 ((hce.ks i).1 hi))
  have h2 : c.ks.length ≤ (idsS S).length := nodup_len hce.nd h1
  have h3 : (idsS S).length = S.length := by simp [idsS]
  have := HG.out.len
  omega
 have HKN := Lib.hid hkn
 clear hc hsv hce hb2 hls hks hm HC HF1 hkn
 go_wp2_with fail
 refine HW.out.mono ?_
 rintro e w3 ⟨rfl, hb3⟩
 have hsv3 := HSV.out.below hb3
 have hc0 : w3.cell? ⟨xs, 0, none⟩ = some (.map (some mk)) := hsv3.seen.cell 0
 have HB3 : Hid (Below w.heap.size w w3) := HB2.out.trans (hb3.mono HB2.out.size)
 have HSO := Lib.hid (sorted_of w3 mk _ D c.ks hsv3.mp hsv3.km.keys HCE.out.nd HKN.out (HS.out _))
 clear hsv3 hb3 HW HSV
 go_wp2_with fail
 refine HSO.out.mono ?_
 rintro e w4 ⟨A, k, rfl, hr4, hb4⟩
 have HF : Hid (ReachP w (setP (lnkA S) rs) (.returned (.tuple #[.slice A c.ks.length k, .int .i64 0])) w4) := by
  have h1 := HCE.out.size
  refine ⟨A, k, by rw [h1.2], by rw [h1.1]; exact hr4, HB3.out.trans (hb4.mono HB3.out.size)⟩
 clear hr4 hb4 HSO
 go_wp2_with fail
 go_ret2
 exact HF.out
end Go.Proofs.YtnjhjbmngoeobaaGreatDoor
