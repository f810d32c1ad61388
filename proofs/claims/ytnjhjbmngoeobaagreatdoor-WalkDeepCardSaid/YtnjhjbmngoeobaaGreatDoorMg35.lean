/- Laws towards WalkDeep: PeeA, PutS, AncA, WrI, WriA. -/
import Derived.Test.YtnjhjbmngoeobaaGreatDoorMg25
import Derived.Test.YtnjhjbmngoeobaaGreatDoorMg34
import Derived.Test.YtnjhjbmngoeobaaGreatDoorMg16
import Derived.Test.YtnjhjbmngoeobaaGreatDoorMg19
import Derived.Test.YtnjhjbmngoeobaaGreatDoorMg32
import Derived.Test.YtnjhjbmngoeobaaGreatDoorMg33
import Derived.Test.YtnjhjbmngoeobaaGreatDoorMg17
import Derived.Test.YtnjhjbmngoeobaaGreatDoorMg11
import Derived.Test.YtnjhjbmngoeobaaGreatDoorMg15
namespace Go.Proofs.YtnjhjbmngoeobaaGreatDoor
open Go.RowKit Go.Maps
set_option maxRecDepth 100000
theorem lnkT_child {S : Sto} : ∀ i l, l ∈ lnkT S i → l ∈ childS S i := fun i l h => by
 unfold lnkT at h
 split at h
 · exact h
 · cases h
theorem Good.tagIn {S : Sto} (g : Good S) : TagIn S := fun i hi l hl => (g.kids i hi l (lnkT_child i l hl)).1
set_option maxHeartbeats 2000000 in
theorem peel_any (w : World) (B0 m a : Nat) (S : Sto) (Ds : DataW Value) (i p : Id) (he : Env w B0 a m S Ds) (g : Good S) (hi : i ∈ idsS S) (hp : endP S i = some p) :
 Calls Tryz.prog 14 #[.pointer (some ⟨a, 0, none⟩), .agg (U i.1).toArray] w fun e w' => e = .returned (.tuple #[.agg (U p.1).toArray, .int .i64 0]) ∧ Below w.heap.size w w' := by
 obtain ⟨w1, hw1⟩ : ∃ w1, w1 = w.alloc (.cells #[.pointer (some ⟨a, 0, none⟩)] 25) := ⟨_, rfl⟩
 obtain ⟨w2, hw2⟩ : ∃ w2, w2 = w1.alloc (.cells (U i.1).toArray 30) := ⟨_, rfl⟩
 obtain ⟨w3, hw3⟩ : ∃ w3, w3 = w2.alloc (.cells (idC []) 30) := ⟨_, rfl⟩
 obtain ⟨w4, hw4⟩ : ∃ w4, w4 = w3.alloc (.cells (U i.1).toArray 30) := ⟨_, rfl⟩
 have s1 : w1.heap.size = w.heap.size + 1 := by rw [hw1]; simp
 have s2 : w2.heap.size = w.heap.size + 1 + 1 := by rw [hw2]; simp [s1]
 have g1 : w.grownBy w1 none := by rw [hw1]; exact gb_alloc (gb_refl _ _) _
 have g2 : w1.grownBy w2 none := by rw [hw2]; exact gb_alloc (gb_refl _ _) _
 have g3 : w2.grownBy w3 none := by rw [hw3]; exact gb_alloc (gb_refl _ _) _
 have g4 : w3.grownBy w4 none := by rw [hw4]; exact gb_alloc (gb_refl _ _) _
 have b1 : Blk w1 w.heap.size 25 #[.pointer (some ⟨a, 0, none⟩)] := by rw [hw1]; exact Blk.new _ _ _
 have b2 : Blk w2 (w.heap.size + 1) 30 (U i.1).toArray := by have := Blk.new w1 30 (U i.1).toArray; rw [s1, ← hw2] at this; exact this
 have b3 : Blk w3 (w.heap.size + 1 + 1) 30 (U (List.replicate 32 0)).toArray := by have := Blk.new w2 30 (idC []); rw [s2, ← hw3, idT_eq] at this; exact this
 have b4 : Blk w4 w3.heap.size 30 (U i.1).toArray := by rw [hw4]; exact Blk.new _ _ _
 have h13 := gb_trans g2 g3
 have h14 := gb_trans h13 g4
 have c1 := b1.gb h14 (by simp)
 have c13 := b1.gb h13 (by simp)
 have c2 := b2.gb (gb_trans g3 g4) (by simp)
 have c23 := b2.gb g3 (by simp)
 have c3 := b3.gb g4 (by simp)
 have hb4 : Below w.heap.size w w4 := below_of_gb (gb_trans g1 h14)
 have he4 := he.to hb4
 have hlen : S.length ≤ 8192 := by have := g.len; omega
 have hr : ∀ x ∈ [i], x ∈ idsS S := fun x hx => by rw [List.mem_singleton] at hx; subst hx; exact hi
 have hwide : ∀ i, (lnkT S i).length ≤ 2 := fun i => by
  have := g.wide i
  unfold lnkT
  split
  · exact this
  · simp
 have hrs : IdsR w4 [i] (some ⟨w3.heap.size, 0, none⟩) := .inr ⟨_, 0, rfl, b4.lt, by
  have e : IdsU [i] = U i.1 := by simp [IdsU]
  rw [e]
  exact id_rangeB b4⟩
 have HC := Lib.hid (come_T w4 B0 m a S Ds (lnkT S) [i] (some ⟨w3.heap.size, 0, none⟩) 1 1 2 w.heap.size he4 hrs rfl (Nat.le_refl _) (fun i h => g.rch lnkT_child hr h) (quiet_of g.ok (within_sub lnkT_child)) hwide (by omega) hlen
  (fun w' hb' x hx => peelT w4 w' B0 m a w.heap.size S Ds x _ he4 hb' (c1.below hb' c1.lt) (g.rch lnkT_child hr hx) g.tag))
 have hcs : w3.cell? ⟨w.heap.size, 0, none⟩ = some (.pointer (some ⟨a, 0, none⟩)) := c13.cell 0
 have HB4 := Lib.hid hb4
 have HC1 := Lib.hid c1
 have HC2 := Lib.hid c2
 have HC3 := Lib.hid c3
 have HR3 : Hid (w3.heap[w.heap.size + 1]? = some (.cells (U i.1).toArray 30 (0, 0))) := c23
 have HSZ := Lib.hid (id_size' _ i.2)
 have HSZp := Lib.hid (id_size _ p.2)
 have HSZp2 := Lib.hid (id_size' _ p.2)
 have HFT := Lib.hid (id_fit _ p.2)
 have HG := Lib.hid g
 have HR := Lib.hid hr
 have HEND : Hid (∀ w', Below w.heap.size w w' → Calls Tryz.prog 39 #[.pointer (some ⟨a, 0, none⟩), .agg (U i.1).toArray] w' fun e w'' => e = .returned (.tuple #[.agg (U p.1).toArray, .int .i64 0]) ∧ Below w'.heap.size w' w'') := fun w' h => end_any w w' B0 m a S Ds i p he h hi g.tag g.tagIn hp hlen
 have HZ := Lib.hid z32_id
 have HW1 := Lib.hid hw1
 have HW2 := Lib.hid hw2
 have HW3 := Lib.hid hw3
 have hu30 := Tryz.underlying30
 obtain ⟨d0, d1, d2, d3, d4, d5, d6, d7, d8, d9, d10, d11, d12, d13, d14, d15, d16, d17, d18, d19, d20, d21, d22, d23, d24, d25, d26, d27, d28, d29, d30, d31, hU⟩ := id32 i
 have HU := Lib.hid hU
 have hsz' : (Tryz.prog.info? 30).map (·.size) = some (#[d0, d1, d2, d3, d4, d5, d6, d7, d8, d9, d10, d11, d12, d13, d14, d15, d16, d17, d18, d19, d20, d21, d22, d23, d24, d25, d26, d27, d28, d29, d30, d31] : Array Value).size := by have := HSZ.out; rw [hU] at this; exact this
 have hr3' : w3.heap[w.heap.size + 1]? = some (.cells #[d0, d1, d2, d3, d4, d5, d6, d7, d8, d9, d10, d11, d12, d13, d14, d15, d16, d17, d18, d19, d20, d21, d22, d23, d24, d25, d26, d27, d28, d29, d30, d31] 30 (0, 0)) := by have := HR3.out; rw [hU] at this; exact this
 rw [hU] at hw4
 have HW4 := Lib.hid hw4
 have HSZ' := Lib.hid hsz'
 have HR3' := Lib.hid hr3'
 clear hw1 hw2 hw3 hw4 hU hsz' hr3' s1 s2 g1 g2 g3 g4 b1 b2 b3 b4 h13 h14 c1 c13 c2 c23 c3 hb4 he4 he hlen hr hwide hrs g hp HSZ HR3
 go_enter Tryz.func14, Tryz.ntmps14
 go_upto_region 1 with fail
 rw [HZ.out, ← HW1.out, ← HW2.out, ← HW3.out]
 clear HZ HW1 HW2 HW3
 go_wp2_with (with_reducible refine wpList_load_row rfl 30 (.tmp 3) rfl (w.heap.size + 1) rfl 30 #[d0, d1, d2, d3, d4, d5, d6, d7, d8, d9, d10, d11, d12, d13, d14, d15, d16, d17, d18, d19, d20, d21, d22, d23, d24, d25, d26, d27, d28, d29, d30, d31] (0, 0) _ HR3'.out hu30 rfl HSZ'.out ?_)
 rw [← HW4.out]
 refine HC.out.mono ?_
 intro e w5 hc
 obtain ⟨xs, mk, LA, lc, c, D, rfl, hsv, hce, hb5, _, _, hls, hks⟩ := hc.seen
 have hm := HG.out.met lnkT_child HR.out hce
 have HB5 : Hid (Below w.heap.size w w5) := HB4.out.trans (hb5.mono HB4.out.size)
 have HW := Lib.hid (whole_any w5 _ xs mk LA lc S c D hsv hm.1 hm.2 (by omega))
 have D1 := Lib.hid (HC1.out.below hb5 HC1.out.lt)
 have D2 := Lib.hid (HC2.out.below hb5 HC2.out.lt)
 have D3 := Lib.hid (HC3.out.below hb5 HC3.out.lt)
 clear hc hsv hce hb5 hls hks hm HC HC1 HC2 HC3 HW4 HR3' HSZ'
 go_wp2_with fail
 refine HW.out.mono ?_
 rintro e w6 ⟨rfl, hb6⟩
 have HB6 : Hid (Below w.heap.size w w6) := HB5.out.trans (hb6.mono HB5.out.size)
 have E1 := Lib.hid (D1.out.below hb6 D1.out.lt)
 have E2 : Hid (w6.heap[w.heap.size + 1]? = some (.cells (U i.1).toArray 30 (0, 0))) := D2.out.below hb6 D2.out.lt
 have E3 := Lib.hid (D3.out.below hb6 D3.out.lt)
 have hc6 : w6.cell? ⟨w.heap.size, 0, none⟩ = some (.pointer (some ⟨a, 0, none⟩)) := E1.out.cell 0
 have HE := Lib.hid (HEND.out w6 HB6.out)
 have HSZ := Lib.hid (id_size' _ i.2)
 clear hb6 HW D1 D2 D3 HEND HB5
 go_wp2_with (with_reducible refine wpList_load_row rfl 30 (.tmp 3) rfl (w.heap.size + 1) rfl 30 (U i.1).toArray (0, 0) _ E2.out hu30 rfl HSZ.out ?_)
 refine HE.out.mono ?_
 rintro e w7 ⟨rfl, hb7⟩
 have F3 : Hid (w7.heap[w.heap.size + 1 + 1]? = some (.cells (U (List.replicate 32 0)).toArray 30 (0, 0))) := E3.out.below hb7 E3.out.lt
 have HB7 : Hid (Below w.heap.size w w7) := HB6.out.trans (hb7.mono HB6.out.size)
 clear hb7 HE E1 E2 E3 HB6
 go_wp2_with (with_reducible refine wpList_storeG rfl 30 (.tmp 4) (.tmp 22) rfl (w.heap.size + 1 + 1) 0 (U p.1) rfl rfl (U (List.replicate 32 0)) 30 F3.out HFT.out (U_one _) HSZp.out ?_; intro w8 HB8 HG8)
 have HRW : Hid (w8.heap[w.heap.size + 1 + 1]? = some (.cells (U p.1).toArray 30 (0, 0))) := by
  have h1 := HB8.out
  rw [splice_id _ p.2] at h1
  exact h1
 have HF : Hid (Below w.heap.size w w8) := HB7.out.trans (below_of_gb_some HG8.out (by omega) HB7.out.size)
 exact bodyPost_ret (v := .tuple #[.agg (U p.1).toArray, .int .i64 0]) (results_cell_row_tmp Tryz.results14 _ w8 (w.heap.size + 1 + 1) 30 (U p.1).toArray (0, 0) _ rfl HRW.out hu30 rfl HSZp2.out) rfl ⟨rfl, HF.out⟩
def SamePost (w : World) (b : Bs) (e : Ending) (w' : World) : Prop := e = .returned (.tuple #[.agg (U (shaI b).1).toArray, .bool false, .int .i64 0]) ∧ Below w.heap.size w w'
set_option maxHeartbeats 8000000 in
theorem put_same (B a m n c : Nat) (p : Addr) (S : Sto) (D : DataW Value) (b : Bs) (o : Ob) (w : World) (h : StV w B a m S D) (hS : StoOk S) (ho : Kn b o) (hs : Sl w (some p) b) (hn : b.length = n) (hnc : n ≤ c) (he : ErrTab w) (ht : DigTab w)
 (hg : getS S (shaI b) = some b) :
 Calls Tryz.prog 6 #[.pointer (some ⟨a, 0, none⟩), .slice (some p) n c] w (SamePost w b) := by
 have ho0 := ho.2.2.1
 obtain ⟨wA, hwA⟩ : ∃ wA, wA = w.alloc (.cells (idC []) 30) := ⟨_, rfl⟩
 have hbA : Below w.heap.size w wA := by rw [hwA]; exact (Below.refl _ _).alloc (Nat.le_refl _) _
 have HTA : Hid (wA.heap[w.heap.size]? = some (.cells (U (List.replicate 32 0)).toArray 30 (0, 0))) := by rw [hwA, idT_eq]; exact heap_alloc_new w _
 have hlt : w.heap.size < wA.heap.size := by rw [hwA]; simp
 have HKN := Lib.hid ho
 have hnl : n = b.length := hn.symm
 have hPar : ∀ wA', wA.grownBy wA' none → Calls Tryz.prog 40 #[.slice (some p) n c] wA' (ParsePost wA' o) := fun wA' hgb => by
  rw [hnl]
  exact ho.2.2.2.2 _ c wA' ((hs.below hbA).below (below_of_gb hgb)) ((he.below hbA he.lt).gbn hgb)
 have HP := Lib.hid (parseW_any o n c (some p) wA hPar)
 have H := Lib.hid h
 have HSO := Lib.hid hS
 have HS := Lib.hid hs
 have HE := Lib.hid he
 have HD := Lib.hid ht
 have HN := Lib.hid hn
 have HNC := Lib.hid hnc
 have HG := Lib.hid hg
 have HBA := Lib.hid hbA
 have HWA := Lib.hid hwA
 have HLT := Lib.hid hlt
 have HOB : Hid ((b == b) = true) := by unfold Hid; simp
 have HO0 := Lib.hid ho0
 have HZ := Lib.hid z32_id
 have HBL : Hid (b.length ≤ 65536) := ho.2.2.2.1
 clear h hS ho hs hn hnc he ht hg ho0 hbA hwA hlt hPar hnl
 go_enter Tryz.func6, Tryz.ntmps6
 go_upto_region 1 with fail
 rw [HZ.out, ← HWA.out]
 clear HWA HZ
 go_wp2_with fail
 refine HP.out.mono ?_
 rintro e w1 ⟨l, rfl, hol, hb1⟩
 have HN1 : Hid ((w1.alloc (.cells Tryz.zeroCells47 47)).heap[w1.heap.size]? = some (.cells zOb.toArray 47 (0, 0))) := ob_new w1
 have HSI : Hid ((Tryz.prog.info? 47).map (·.size) = some l.length) := by rw [hol.1]; exact info_ob
 have HFT : Hid (0 + l.length ≤ zOb.length) := by rw [hol.1]; exact Nat.le_refl _
 have HON : Hid (∀ v ∈ l, v.oneCell' = true) := hol.2.1
 have HB1 : Hid (Below w.heap.size w w1) := HBA.out.trans (hb1.mono HBA.out.size)
 have HT1 : Hid (w1.heap[w.heap.size]? = some (.cells (U (List.replicate 32 0)).toArray 30 (0, 0)) ∧ w.heap.size < w1.heap.size) := ⟨(hb1.block _ HLT.out).trans HTA.out, Nat.lt_of_lt_of_le HLT.out hb1.size⟩
 clear hol hb1 HP HTA HBA HLT
 go_upto_region 2 with (with_reducible refine wpList_storeG rfl 47 (.tmp 7) (.tmp 15) rfl w1.heap.size 0 l rfl rfl zOb 47 HN1.out HFT.out HON.out HSI.out ?_; intro w2 HB2 HG2)
 have G2 : w1.grownBy w2 none := gb_fresh HG2.out
 have HBB2 : Hid (Below w.heap.size w w2) := HB1.out.trans ((below_of_gb G2).mono HB1.out.size)
 have HT2 : Hid (w2.heap[w.heap.size]? = some (.cells (U (List.replicate 32 0)).toArray 30 (0, 0)) ∧ w.heap.size < w2.heap.size) := ⟨(G2.block _ HT1.out.2 (by simp)).trans HT1.out.1, Nat.lt_of_lt_of_le HT1.out.2 G2.size⟩
 have HID := Lib.hid (oid_any n c (some p) b w2 (HS.out.below HBB2.out) (HD.out.below HBB2.out) HN.out HNC.out (by have := HBL.out; omega))
 clear HB2 HG2 HN1 HSI HFT HON G2 HB1 HT1
 go_wp2_with fail
 refine HID.out.mono ?_
 rintro e w3 ⟨rfl, hb3⟩
 have HB3 : Hid (Below w.heap.size w w3) := HBB2.out.trans (hb3.mono HBB2.out.size)
 have HT3 : Hid (w3.heap[w.heap.size]? = some (.cells (U (List.replicate 32 0)).toArray 30 (0, 0)) ∧ w.heap.size < w3.heap.size) := ⟨(hb3.block _ HT2.out.2).trans HT2.out.1, Nat.lt_of_lt_of_le HT2.out.2 hb3.size⟩
 have HNW := id_new w3
 obtain ⟨i, hi⟩ : ∃ i, i = shaI b := ⟨_, rfl⟩
 have hy : Dg.sha b = i.1 := by rw [hi]; rfl
 rw [hy]
 have HI := Lib.hid hi
 have HSZ := Lib.hid (id_size _ i.2)
 have HSZ2 := Lib.hid (id_size' _ i.2)
 have HFT := Lib.hid (id_fit _ i.2)
 clear hb3 HID HBB2 HT2 hi hy
 go_upto_region 5 with (with_reducible refine wpList_storeG rfl 30 (.tmp 9) (.tmp 21) rfl w3.heap.size 0 (U i.1) rfl rfl (U (List.replicate 32 0)) 30 HNW.out HFT.out (U_one _) HSZ.out ?_; intro w4 HB4 HG4)
 have G4 : w3.grownBy w4 none := gb_fresh HG4.out
 have HR4 : Hid (Blk w4.drew w3.heap.size 30 (U i.1).toArray) := by
  have h1 := HB4.out
  rw [splice_id _ i.2] at h1
  exact h1
 have HB5 : Hid (Below w.heap.size w w4.drew) := (HB3.out.trans ((below_of_gb G4).mono HB3.out.size)).drew
 have HT5 : Hid (w4.drew.heap[w.heap.size]? = some (.cells (U (List.replicate 32 0)).toArray 30 (0, 0)) ∧ w.heap.size < w3.heap.size) := ⟨(G4.block _ HT3.out.2 (by simp)).trans HT3.out.1, HT3.out.2⟩
 have h5 : StV w4.drew B a m S D := H.out.below HB5.out
 obtain ⟨v, hlk, hv⟩ := look_store h5 i
 have hgi : getS S i = some b := by rw [HI.out]; exact HG.out
 obtain ⟨Ao, co, rfl, hso, hco, _⟩ := hv b hgi
 rw [hgi] at hlk
 simp only [Option.isSome_some] at hlk
 obtain ⟨po, rfl⟩ : ∃ po, Ao = some po := by
  rcases hso with e | ⟨q, o2, e, _⟩
  · exact absurd e HO0.out
  · exact ⟨_, e⟩
 have HEQ : Hid (Calls Tryz.prog 17 #[.slice (some po) b.length co, .slice (some p) n c] w4.drew fun e w' => e = .returned (.bool true) ∧ w4.drew = w') := by
  have h6 := equal_any po p b.length co n c b b w4.drew hso (HS.out.below HB5.out) rfl HN.out.symm HO0.out HKN.out.2.2.1
  rw [HOB.out] at h6
  exact h6
 have hc5 := h5.cell
 have H5 := Lib.hid h5
 have HR5 : Hid (w4.drew.heap[w3.heap.size]? = some (.cells (U i.1).toArray 30 (0, 0))) := HR4.out
 clear HG4 HB4 HNW G4 HT3 HB3 h5 hso hv hgi hco HO0 HOB
 refine wp_region_still_lit (by kernel_rfl) (by kernel_rfl) ?_
 change wpStill _ _ w4.drew (fun a' => Exit.then _ _ Exit.normal a' w4.drew) _ _
 generalize w4.drew = w5 at *
 still_step
 still_step
 still_step
 still_step
 refine wpStill_step (fun K hK => ?_)
 rw [if_pos (by rfl)]
 refine still_load_row 30 (.tmp 9) rfl w3.heap.size rfl 30 (U i.1).toArray (0, 0) _ HR5.out Tryz.underlying30 rfl HSZ2.out ?_
 refine hK _ ?_
 clear hK K
 repeat still_step
 refine wpStill_nil ?_
 go_wp2_with fail
 refine HEQ.out.mono ?_
 rintro e w6 ⟨rfl, rfl⟩
 clear HEQ hlk
 go_wp2_with (first
  | (with_reducible refine wpList_load_row rfl 30 (.tmp 9) rfl w3.heap.size rfl 30 (U i.1).toArray (0, 0) _ HR5.out Tryz.underlying30 rfl HSZ2.out ?_)
  | (with_reducible refine wpList_storeG rfl 30 (.tmp 4) (.tmp 38) rfl w.heap.size 0 (U i.1) rfl rfl (U (List.replicate 32 0)) 30 HT5.out.1 HFT.out (U_one _) HSZ.out ?_; intro w8 HB8 HG8))
 have HRW : Hid (w8.heap[w.heap.size]? = some (.cells (U i.1).toArray 30 (0, 0))) := by
  have h1 := HB8.out
  rw [splice_id _ i.2] at h1
  exact h1
 have HF : Hid (SamePost w b (.returned (.tuple #[.agg (U i.1).toArray, .bool false, .int .i64 0])) w8) := by
  have e1 := HI.out
  subst e1
  exact ⟨rfl, HB5.out.trans (below_of_gb_some HG8.out (Nat.le_refl _) HB5.out.size)⟩
 exact bodyPost_ret (v := .tuple #[.agg (U i.1).toArray, .bool false, .int .i64 0]) (results_cell_row_tmp2 Tryz.results6 _ w8 w.heap.size 30 (U i.1).toArray (0, 0) _ rfl HRW.out Tryz.underlying30 rfl HSZ2.out) rfl HF.out
theorem BegTab.gb {w w' : World} {g : Nat} (h : BegTab w) (hb : w.grownBy w' (some g)) (hg : 0 < g) : BegTab w' := by
 obtain ⟨h1, h2⟩ := h
 exact ⟨Nat.lt_of_lt_of_le h1 hb.size, fun i hi => (World.cell?_of_block (a := ⟨0, i, none⟩) (hb.block _ h1 (by simp; omega))).trans (h2 i hi)⟩
structure StA (w : World) (B a m : Nat) (S : Sto) : Prop where
 st : ∃ D, StV w B a m S D
 ok : StoOk S
 kn : KnS S
 er : ErrTab w
 dg : DigTab w
 lo : 2 < B ∧ 0 < B ∧ 3 < B
def PutAll (w : World) (B a m : Nat) (S : Sto) (b : Bs) (e : Ending) (w' : World) : Prop :=
 ∃ (i : Id) (x : Bool) (n : Nat) (S' : Sto), e = .returned (.tuple #[.agg (U i.1).toArray, .bool x, .int .i64 (n : Int)]) ∧ StA w' B a m S' ∧ w.grownBy w' (some m) ∧
  ((n = 0 ∧ i = shaI b ∧ getS S (shaI b) = none ∧ S' = insS (shaI b) b S) ∨ (n = 0 ∧ i = shaI b ∧ getS S (shaI b) = some b ∧ S' = S) ∨ (n = 45 ∧ S' = S))
theorem StA.below {w w' : World} {B a m : Nat} {S : Sto} (h : StA w B a m S) (hb : Below w.heap.size w w') : StA w' B a m S := by
 obtain ⟨D, hD⟩ := h.st
 exact ⟨⟨D, hD.below hb⟩, h.ok, h.kn, h.er.below hb h.er.lt, h.dg.below hb, h.lo⟩
theorem put_all (B a m n c : Nat) (p : Addr) (S : Sto) (b : Bs) (o : Ob) (w : World) (h : StA w B a m S) (ho : Kn b o) (hs : Sl w (some p) b) (hn : b.length = n) (hnc : n ≤ c) (hl : S.length < 8192) :
 Calls Tryz.prog 6 #[.pointer (some ⟨a, 0, none⟩), .slice (some p) n c] w (PutAll w B a m S b) := by
 obtain ⟨D, hD⟩ := h.st
 cases hg : getS S (shaI b) with
 | none =>
   refine (put_new B a m n c p S D b o w hD h.ok ho hs hn hnc h.er h.dg hg hl).mono ?_
   rintro e w' ⟨rfl, hD', hgb⟩
   have hm : B ≤ m := hD.hm
   have hb : Below B w w' := below_of_gb_some hgb hm (stv_load hD)
   refine ⟨shaI b, true, 0, _, rfl, ⟨hD', ins_ok h.ok ho.1 hg hl, h.kn.ins _ ho, h.er.gb hgb h.er.lt (by have := h.lo.1; omega), ?_, h.lo⟩, hgb, .inl ⟨rfl, rfl, hg, rfl⟩⟩
   exact ⟨RndTab.gb h.dg.rnd hgb (by have := h.lo.2.2; omega), BegTab.gb h.dg.beg hgb (by have := h.lo.2.1; omega)⟩
 | some old =>
   by_cases e : old = b
   · subst e
     refine (put_same B a m n c p S D old o w hD h.ok ho hs hn hnc h.er h.dg hg).mono ?_
     rintro e w' ⟨rfl, hb⟩
     exact ⟨shaI old, false, 0, S, rfl, h.below hb, gb_of_below hb _, .inr (.inl ⟨rfl, rfl, hg, rfl⟩)⟩
   · have h0 : old ≠ [] := by
      obtain ⟨o2, h2⟩ := h.kn _ (getS_mem hg)
      exact h2.2.2.1
     refine (put_clash B a m n c p S D b o w hD h.ok ho hs hn hnc h.er h.dg old hg e h0).mono ?_
     rintro e w' ⟨rfl, hb⟩
     exact ⟨zeroId, false, 45, S, rfl, h.below hb, gb_of_below hb _, .inr (.inr ⟨rfl, rfl⟩)⟩
theorem eq_id2 (i j : Id) (w : World) : (Op.equalIn 10000 30 (.agg (U i.1).toArray) (.agg (U j.1).toArray)).run Tryz.prog w = .ok (decide (i = j)) w := by
 obtain ⟨r, hr, hiff⟩ := run_equal_deep (P := Tryz.prog) w (m := 2) (by omega) (k := 30) (by kernel_rfl) (by kernel_rfl) (ik_key i) (ik_key j)
 have e : r = decide (i = j) := by
  by_cases h : i = j
  · rw [decide_eq_true h]; exact hiff.2 (by rw [h])
  · rw [decide_eq_false h]
    cases r with
    | false => rfl
    | true => exact absurd (ik_inj (hiff.1 rfl)) h
 rw [← e]
 exact hr
theorem eq_id (i : Id) (w : World) : (Op.equalIn 10000 30 (.agg (U i.1).toArray) (.agg (U i.1).toArray)).run Tryz.prog w = .ok true w := by
 have h := eq_id2 i i w
 rw [decide_eq_true rfl] at h
 exact h
theorem Rise.nd {l : List Id} (h : Rise l) : l.Nodup := List.Pairwise.imp (fun {a b} hab e => by subst e; rw [Id.lt_irrefl] at hab; cases hab) h
theorem num_any (n : Nat) (w : World) : Calls Tryz.prog 8 #[.int .i64 (n : Int)] w fun e w' => e = .returned (.int .i64 (n : Int)) ∧ w = w' := by
 go_enter Tryz.func8, Tryz.ntmps8
 go_wp2_with fail
 go_ret
 exact ⟨rfl, rfl⟩
set_option maxHeartbeats 1000000 in
theorem anc_any (w : World) (B0 m a : Nat) (S : Sto) (Ds : DataW Value) (x p0 : Id) (he : Env w B0 a m S Ds) (g : Good S) (hx : x ∈ idsS S ∧ (kindS S x = 3 ∨ kindS S x = 4)) (hps : endsP S [x] = some [p0]) (h0 : p0 ∈ idsS S ∧ kindS S p0 = 3) (hsort : ∀ B, SortP B) :
 Calls Tryz.prog 23 #[.pointer (some ⟨a, 0, none⟩), .agg (U x.1).toArray] w (ReachP w (setP (lnkH S) [p0])) := by
 obtain ⟨wa, hwa⟩ : ∃ wa, wa = w.alloc (.cells (U x.1).toArray 30) := ⟨_, rfl⟩
 obtain ⟨wc, hwc⟩ : ∃ wc, wc = wa.alloc (.cells (U x.1).toArray 30) := ⟨_, rfl⟩
 have ga : w.grownBy wa none := by rw [hwa]; exact gb_alloc (gb_refl _ _) _
 have gc : wa.grownBy wc none := by rw [hwc]; exact gb_alloc (gb_refl _ _) _
 have bx : Blk wa w.heap.size 30 (U x.1).toArray := by rw [hwa]; exact Blk.new _ _ _
 have bc : Blk wc wa.heap.size 30 (U x.1).toArray := by rw [hwc]; exact Blk.new _ _ _
 have hbc : Below w.heap.size w wc := below_of_gb (gb_trans ga gc)
 have e1 : IdsU [x] = U x.1 := by simp [IdsU]
 have hrs : IdsR wc [x] (some ⟨wa.heap.size, 0, none⟩) := .inr ⟨_, 0, rfl, bc.lt, by
  rw [e1]
  exact range_of_blk bc (fun j v hj => by rw [Nat.zero_add, List.getElem?_toArray]; exact hj)⟩
 have HH := Lib.hid (hist_any wc B0 m a S Ds [x] [p0] (some ⟨wa.heap.size, 0, none⟩) 1 (he.to hbc) g hrs (by simp) (fun i hi => by
  rw [List.mem_singleton] at hi
  subst hi
  exact hx) (by simp) hps (fun p hp => by
  rw [List.mem_singleton] at hp
  subst hp
  exact h0.2))
 unfold Hid at HH
 rw [show [x].length = 1 from rfl] at HH
 replace HH := Lib.hid HH
 obtain ⟨d0, d1, d2, d3, d4, d5, d6, d7, d8, d9, d10, d11, d12, d13, d14, d15, d16, d17, d18, d19, d20, d21, d22, d23, d24, d25, d26, d27, d28, d29, d30, d31, hU⟩ := id32 x
 have hcx : wa.heap[w.heap.size]? = some (.cells #[d0, d1, d2, d3, d4, d5, d6, d7, d8, d9, d10, d11, d12, d13, d14, d15, d16, d17, d18, d19, d20, d21, d22, d23, d24, d25, d26, d27, d28, d29, d30, d31] 30 (0, 0)) := by have h := bx; rw [hU] at h; exact h
 have hsx : (Tryz.prog.info? 30).map (·.size) = some (#[d0, d1, d2, d3, d4, d5, d6, d7, d8, d9, d10, d11, d12, d13, d14, d15, d16, d17, d18, d19, d20, d21, d22, d23, d24, d25, d26, d27, d28, d29, d30, d31] : Array Value).size := by have h := id_size' _ x.2; rw [hU] at h; exact h
 have HWA := Lib.hid hwa
 rw [hU] at hwc
 have HWC := Lib.hid hwc
 have HX := Lib.hid hcx
 have HSX := Lib.hid hsx
 have HBC := Lib.hid hbc
 have HE := Lib.hid he
 have HG := Lib.hid g
 have HP := Lib.hid h0
 have HSO := Lib.hid hsort
 have hu30 := Tryz.underlying30
 clear hwa hwc ga gc bx bc hbc e1 hrs hcx hsx hU he g hx hps h0 hsort
 go_enter Tryz.func23, Tryz.ntmps23
 go_upto_region 1 with fail
 rw [← HWA.out]
 clear HWA
 go_wp2_with (with_reducible refine wpList_load_row rfl 30 (.tmp 3) rfl w.heap.size rfl 30 #[d0, d1, d2, d3, d4, d5, d6, d7, d8, d9, d10, d11, d12, d13, d14, d15, d16, d17, d18, d19, d20, d21, d22, d23, d24, d25, d26, d27, d28, d29, d30, d31] (0, 0) _ HX.out hu30 rfl HSX.out ?_)
 rw [← HWC.out]
 refine HH.out.mono ?_
 rintro e wd ⟨xs, A, k, rfl, hown, hbd⟩
 obtain ⟨q, rfl, hq, hrq, hk1⟩ := own_ids hown (by simp)
 have HBD : Hid (Below w.heap.size w wd) := HBC.out.trans (hbd.mono HBC.out.size)
 have HL0 := Lib.hid (line_any wd B0 m a S Ds [p0] (some ⟨q, 0, none⟩) k (HE.out.to HBD.out) HG.out (.inr ⟨q, 0, rfl, hq, hrq⟩) (by simpa using hk1) (fun i hi => by
  rw [List.mem_singleton] at hi
  subst hi
  exact HP.out) (by simp))
 unfold Hid at HL0
 rw [show [p0].length = 1 from rfl] at HL0
 replace HL0 := Lib.hid HL0
 clear hown hbd hq hrq hk1 HH HWC HX HSX HBC
 rw [show [p0].length = 1 from rfl]
 go_wp2_with fail
 refine HL0.out.mono ?_
 rintro e we ⟨mk, D, ks, rfl, hm, hkm, hnd, hks, hbe, hmk⟩
 have HBE : Hid (Below w.heap.size w we) := HBD.out.trans (hbe.mono HBD.out.size)
 have hlen : ks.length ≤ 100000 := by
  have h2 : ∀ i ∈ ks, i ∈ idsS S := fun i hi => (HG.out.rchC (rs := [p0]) (fun j hj => by rw [List.mem_singleton] at hj; subst hj; exact HP.out) ((mem_setP (within_sub lnkH_child) [p0] i).1 ((hks i).1 hi))).1
  have h3 : ks.length ≤ (idsS S).length := nodup_len hnd h2
  have h4 : (idsS S).length = S.length := by simp [idsS]
  have := HG.out.len
  omega
 have HS := Lib.hid (sorted_of we mk _ D ks hm hkm.keys hnd hlen (HSO.out _))
 have HEQ : Hid (sortI ks = setP (lnkH S) [p0] ∧ ks.length = (setP (lnkH S) [p0]).length) := by
  have h1 : sortI ks = setP (lnkH S) [p0] := sortI_eq (setP_rise _ _) (fun i => (hks i).symm)
  have h2 : ks.Perm (setP (lnkH S) [p0]) := (List.perm_ext_iff_of_nodup hnd (Rise.nd (setP_rise _ _))).2 hks
  exact ⟨h1, h2.length_eq⟩
 clear hm hkm hnd hks hbe hmk hlen HL0
 go_wp2_with fail
 refine HS.out.mono ?_
 rintro e w4 ⟨A, kr, rfl, hr4, hb4⟩
 have HF : Hid (ReachP w (setP (lnkH S) [p0]) (.returned (.tuple #[.slice A ks.length kr, .int .i64 0])) w4) := by
  refine ⟨A, kr, by rw [HEQ.out.2], by rw [← HEQ.out.1]; exact hr4, HBE.out.trans (hb4.mono HBE.out.size)⟩
 clear HS hr4 hb4
 go_wp2_with fail
 go_ret2
 exact HF.out
end Go.Proofs.YtnjhjbmngoeobaaGreatDoor
namespace Go.Proofs.YtnjhjbmngoeobaaGreatDoor
open Go.RowKit
set_option maxRecDepth 100000
theorem WrQ.wr {w w' : World} {g : Nat} {l : List UInt8} {A : Option Addr} (h : WrQ w g l A w') : ∃ A' n' c', Wr w' 0 g l A' n' c' ∧ n' = l.length ∧ Nw w A A' ∧ Kpt w w' g A := by
 obtain ⟨A', n', c', h1, h2, h3⟩ := h
 exact ⟨A', n', c', h1, h1.len, h2, h3⟩
theorem bytesk (g n c m c2 : Nat) (A B : Option Addr) (l r : List UInt8) (w : World) (h : Wr w 0 g l A n c) (hm : r.length = m) (hm2 : m < 128) (hr : Sl w B r) (hg : ∀ p, B = some p → p.block ≠ g) (hA : ∀ p q, A = some p → B = some q → p.block ≠ q.block) (hl : n ≤ 900000) :
 Calls Tryz.prog 127 #[.pointer (some ⟨g, 0, none⟩), .slice B m c2] w fun e w' => e = .returned (.tuple #[]) ∧ WrQ w g (l ++ layB r) A w' := by
 have HV := Lib.hid (vark g n c m A l w h hm2 (by omega))
 have HS := Lib.hid hr
 have HN := Lib.hid h.len
 have HL : Hid (l ++ layB r = (l ++ [UInt8.ofNat m]) ++ r) := by
  unfold Hid layB
  rw [hm, varP_small m hm2, List.append_assoc]
 have HM := Lib.hid hm
 have hwm : IntKind.u64.wrap (m : Int) = (m : Int) := wraps_u64 _ (by omega) (by omega)
 clear h hr hm
 go_enter Tryz.func127, Tryz.ntmps127
 go_wp2_with fail
 refine HV.out.mono ?_
 rintro e w1 ⟨rfl, hq⟩
 obtain ⟨A1, n1, c1, h1, e1, hn1, hk1⟩ := hq.wr
 have HR := Lib.hid (rawk g n1 c1 m c2 A1 B _ r w1 h1 HM.out (hk1.sl HS.out hg hA) (by rw [e1, List.length_append, ← HN.out]; simp; omega))
 have HC := Lib.hid (And.intro hn1 hk1)
 clear hq h1 hn1 hk1 HV HS hg hA e1
 go_wp2_with fail
 refine HR.out.mono ?_
 rintro e w2 ⟨rfl, hq2⟩
 have HF : Hid (WrQ w g (l ++ layB r) A w2) := by
  unfold Hid
  rw [HL.out]
  exact WrQ.comp HC.out.1 HC.out.2 hq2
 clear hq2 HR HC HL
 go_wp2_with fail
 go_end0
 exact ⟨rfl, HF.out⟩
theorem lenk (g n c : Nat) (A : Option Addr) (l : List UInt8) (w : World) (h : Wr w 0 g l A n c) :
 Calls Tryz.prog 21 #[.pointer (some ⟨g, 0, none⟩)] w fun e w' => e = .returned (.int .i64 (n : Int)) ∧ w = w' := by
 have hc := h.blk.cell 0
 simp at hc
 clear h
 go_enter Tryz.func21, Tryz.ntmps21
 go_wp2_with fail
 go_ret
 exact ⟨rfl, rfl⟩
theorem sl_of_blk {w : World} {q o : Nat} {t : TypeId} {cs : Array Value} {l : Bs} (h : Blk w q t cs) (hc : ∀ j, j < l.length → cs[o + j]? = some (.int .u8 ((l.getD j 0).toNat : Int))) : Sl w (some ⟨q, o, none⟩) l :=
 .inr ⟨q, o, rfl, h.lt, fun j hj => by rw [h.cell]; exact hc j hj⟩
theorem U_getD (l : Bs) (j : Nat) (hj : j < l.length) : (U l)[j]? = some (.int .u8 ((l.getD j 0).toNat : Int)) := by
 rw [U_get, List.getElem?_eq_getElem hj, List.getD_eq_getElem?_getD, List.getElem?_eq_getElem hj]
 rfl
theorem tagL_id (i : Id) (a b c d e : Value) : ∀ j, j < i.1.length → (tagL i a b c d e).toArray[0 + j]? = some (.int .u8 ((i.1.getD j 0).toNat : Int)) := fun j hj => by
 rw [Nat.zero_add, List.getElem?_toArray, tagL, List.getElem?_append_left (by rw [U_length]; exact hj), U_getD _ _ hj]
theorem comL_id (i : Id) (a b c d : Value) : ∀ j, j < i.1.length → (comL i a b c d).toArray[0 + j]? = some (.int .u8 ((i.1.getD j 0).toNat : Int)) := fun j hj => by
 rw [Nat.zero_add, List.getElem?_toArray, comL, List.getElem?_append_left (by rw [U_length]; exact hj), U_getD _ _ hj]
theorem entV_id (en : Ent) : ∀ j, j < en.id.1.length → (entV en).toArray[2 + j]? = some (.int .u8 ((en.id.1.getD j 0).toNat : Int)) := fun j hj => by
 rw [List.getElem?_toArray, entV, List.getElem?_append_right (by simp)]
 simp only [List.length_cons, List.length_nil]
 rw [show 2 + j - (0 + 1 + 1) = j by omega, U_getD _ _ hj]
theorem idCells (i : Id) : ∀ j, j < i.1.length → (U i.1).toArray[0 + j]? = some (.int .u8 ((i.1.getD j 0).toNat : Int)) := fun j hj => by
 rw [Nat.zero_add, List.getElem?_toArray, U_getD _ _ hj]
structure WrS (w0 w : World) (g : Nat) (A0 : Option Addr) (l : List UInt8) (q : Nat) (t : TypeId) (cs : Array Value) : Prop where
 wr : WrQ w0 g l A0 w
 blk : Blk w q t cs
 qg : q ≠ g
 qA : ∀ p, A0 = some p → p.block ≠ q
 q0 : q < w0.heap.size
 gl : g < w0.heap.size
 Al : ∀ p, A0 = some p → p.block < w0.heap.size
theorem WrS.next {w0 w w' : World} {g q : Nat} {A0 A : Option Addr} {l l' : List UInt8} {t : TypeId} {cs : Array Value} (h : WrS w0 w g A0 l q t cs) (hn : Nw w0 A0 A) (hk : Kpt w0 w g A0) (hq : WrQ w g l' A w') : WrS w0 w' g A0 l' q t cs := by
 have h1 := WrQ.comp hn hk hq
 obtain ⟨A', n', c', _, h2, h3⟩ := hq
 refine ⟨h1, h3.blk h.blk h.qg (fun p hp e => ?_), h.qg, h.qA, h.q0, h.gl, h.Al⟩
 rcases hn p hp with ⟨p0, hp0, e0⟩ | hge
 · exact h.qA p0 hp0 (e0.symm.trans e)
 · have := h.q0; omega
theorem WrS.drew {w0 w : World} {g q : Nat} {A0 : Option Addr} {l : List UInt8} {t : TypeId} {cs : Array Value} (h : WrS w0 w g A0 l q t cs) : WrS w0 w.drew g A0 l q t cs := by
 obtain ⟨A', n', c', h1, h2, h3⟩ := h.wr
 exact ⟨⟨A', n', c', h1.drew, h2, h3.drew⟩, h.blk, h.qg, h.qA, h.q0, h.gl, h.Al⟩
theorem WrS.below {w0 w w' : World} {g q : Nat} {A0 : Option Addr} {l : List UInt8} {t : TypeId} {cs : Array Value} (h : WrS w0 w g A0 l q t cs) (hb : Below w.heap.size w w') : WrS w0 w' g A0 l q t cs := by
 obtain ⟨A', n', c', h1, h2, h3⟩ := h.wr
 have hs := h3.size
 refine ⟨⟨A', n', c', ⟨h1.blk.below hb h1.blk.lt, own_below h1.own hb, h1.hg⟩, h2, ⟨hb.os.trans h3.os, hb.tape.trans h3.tape, hb.output.trans h3.output, Nat.le_trans h3.size hb.size, fun k hk hg hA => (hb.block k (by omega)).trans (h3.block k hk hg hA)⟩⟩,
  h.blk.below hb h.blk.lt, h.qg, h.qA, h.q0, h.gl, h.Al⟩
theorem WrS.u8 {w0 w : World} {g q : Nat} {A0 : Option Addr} {l : List UInt8} {t : TypeId} {cs : Array Value} (h : WrS w0 w g A0 l q t cs) (x : Nat) (hx : x < 256) (hl : l.length ≤ 1000000) :
 Calls Tryz.prog 119 #[.pointer (some ⟨g, 0, none⟩), .int .u8 x] w fun e w' => e = .returned (.tuple #[]) ∧ WrS w0 w' g A0 (l ++ [UInt8.ofNat x]) q t cs := by
 obtain ⟨A, n, c, h1, h2, h3, h4⟩ := h.wr.wr
 exact (u8k g n c x A l w h1 hx (by omega)).mono fun e w' ⟨he, hq⟩ => ⟨he, h.next h3 h4 hq⟩
theorem WrS.var {w0 w : World} {g q : Nat} {A0 : Option Addr} {l : List UInt8} {t : TypeId} {cs : Array Value} (h : WrS w0 w g A0 l q t cs) (x : Nat) (hx : x < 128) (hl : l.length ≤ 1000000) :
 Calls Tryz.prog 126 #[.pointer (some ⟨g, 0, none⟩), .int .u64 x] w fun e w' => e = .returned (.tuple #[]) ∧ WrS w0 w' g A0 (l ++ [UInt8.ofNat x]) q t cs := by
 obtain ⟨A, n, c, h1, h2, h3, h4⟩ := h.wr.wr
 exact (vark g n c x A l w h1 hx (by omega)).mono fun e w' ⟨he, hq⟩ => ⟨he, h.next h3 h4 hq⟩
theorem WrS.u64 {w0 w : World} {g q : Nat} {A0 : Option Addr} {l : List UInt8} {t : TypeId} {cs : Array Value} (h : WrS w0 w g A0 l q t cs) (x : Nat) (hx : x < 18446744073709551616) (hl : l.length ≤ 1000000) :
 Calls Tryz.prog 138 #[.pointer (some ⟨g, 0, none⟩), .int .u64 x] w fun e w' => e = .returned (.tuple #[]) ∧ WrS w0 w' g A0 (l ++ be8 x) q t cs := by
 obtain ⟨A, n, c, h1, h2, h3, h4⟩ := h.wr.wr
 exact (u64k g n c x A l w h1 hx (by omega)).mono fun e w' ⟨he, hq⟩ => ⟨he, h.next h3 h4 hq⟩
theorem WrS.raw {w0 w : World} {g q : Nat} {A0 : Option Addr} {l : List UInt8} {t : TypeId} {cs : Array Value} (h : WrS w0 w g A0 l q t cs) (r : List UInt8) (B : Option Addr) (m c2 : Nat) (hm : r.length = m) (hr : Sl w B r) (hl : l.length + m ≤ 1000000) :
 Calls Tryz.prog 120 #[.pointer (some ⟨g, 0, none⟩), .slice B m c2] w fun e w' => e = .returned (.tuple #[]) ∧ WrS w0 w' g A0 (l ++ r) q t cs := by
 obtain ⟨A, n, c, h1, h2, h3, h4⟩ := h.wr.wr
 exact (rawk g n c m c2 A B l r w h1 hm hr (by omega)).mono fun e w' ⟨he, hq⟩ => ⟨he, h.next h3 h4 hq⟩
theorem WrS.text {w0 w w1 : World} {g q : Nat} {A0 : Option Addr} {l : List UInt8} {t : TypeId} {cs : Array Value} (h : WrS w0 w g A0 l q t cs) (r : List UInt8) (m c2 : Nat) (hm : r.length = m) (hm2 : m < 128) (hr : Sl w1 (some ⟨w.heap.size, 0, none⟩) r) (hb : Below w.heap.size w w1) (hl : l.length ≤ 900000) :
 Calls Tryz.prog 127 #[.pointer (some ⟨g, 0, none⟩), .slice (some ⟨w.heap.size, 0, none⟩) m c2] w1 fun e w' => e = .returned (.tuple #[]) ∧ WrS w0 w' g A0 (l ++ layB r) q t cs := by
 have h1 := h.below hb
 have hs := h.wr.wr
 obtain ⟨A, n, c, h2, e2, h3, h4⟩ := hs
 have h5 : Wr w1 0 g l A n c := ⟨h2.blk.below hb h2.blk.lt, own_below h2.own hb, h2.hg⟩
 have h6 : Kpt w0 w1 g A0 := ⟨hb.os.trans h4.os, hb.tape.trans h4.tape, hb.output.trans h4.output, Nat.le_trans h4.size hb.size, fun k hk hg hA => (hb.block k (by have := h4.size; omega)).trans (h4.block k hk hg hA)⟩
 refine (bytesk g n c m c2 A _ l r w1 h5 hm hm2 hr (fun p hp e => ?_) (fun p p2 hp hp2 e => ?_) (by omega)).mono fun e w' ⟨he, hq⟩ => ⟨he, h1.next h3 h6 hq⟩
 · have := Option.some.inj hp
   subst this
   have := h2.blk.lt
   simp at e
   omega
 · have := Option.some.inj hp2
   subst this
   subst hp
   have h7 := (h2.own.lt p.block rfl).2
   simp at e
   omega
theorem conv_txt (l : List UInt8) (w : World) : ∃ cap w', (convert 9 35 (.string ⟨l.toArray⟩)).run Tryz.prog w = .ok (.slice (some ⟨w.heap.size, 0, none⟩) l.length cap) w' ∧ Sl w' (some ⟨w.heap.size, 0, none⟩) l ∧ Below w.heap.size w w' := by
 obtain ⟨cap, w', h1, h2, h3, _⟩ := conv_bytes l w
 exact ⟨cap, w', h1, h2, h3⟩
set_option maxHeartbeats 4000000 in
theorem tagWrite (g n c : Nat) (A : Option Addr) (i : Id) (kd : Nat) (w : World) (h : Wr w 0 g [] A n c) (hk : kd < 256) :
 Calls Tryz.prog 142 #[.agg (tagL i (.int .i64 (kd : Int)) (.string ⟨#[116]⟩) (.string ⟨#[]⟩) (.int .u64 0) (.string ⟨#[]⟩)).toArray, .pointer (some ⟨g, 0, none⟩)] w fun e w' => e = .returned (.tuple #[]) ∧ WrQ w g (layOb (obG i kd)) A w' := by
 obtain ⟨cs, hcs⟩ : ∃ cs, cs = (tagL i (.int .i64 (kd : Int)) (.string ⟨#[116]⟩) (.string ⟨#[]⟩) (.int .u64 0) (.string ⟨#[]⟩)).toArray := ⟨_, rfl⟩
 obtain ⟨wb, hwb⟩ : ∃ wb, wb = w.alloc (.cells cs 114) := ⟨_, rfl⟩
 have hat := tagL_at i (.int .i64 (kd : Int)) (.string ⟨#[116]⟩) (.string ⟨#[]⟩) (.int .u64 0) (.string ⟨#[]⟩)
 have HA : Hid (∀ w', Blk w' w.heap.size 114 cs → w'.cell? ⟨w.heap.size, 32, none⟩ = some (.int .i64 (kd : Int)) ∧ w'.cell? ⟨w.heap.size, 33, none⟩ = some (.string ⟨#[116]⟩) ∧ w'.cell? ⟨w.heap.size, 34, none⟩ = some (.string ⟨#[]⟩) ∧ w'.cell? ⟨w.heap.size, 35, none⟩ = some (.int .u64 0) ∧ w'.cell? ⟨w.heap.size, 36, none⟩ = some (.string ⟨#[]⟩) ∧ Sl w' (some ⟨w.heap.size, 0, none⟩) i.1) := by
  intro w' hb
  refine ⟨?_, ?_, ?_, ?_, ?_, sl_of_blk hb (by rw [hcs]; exact tagL_id _ _ _ _ _ _)⟩ <;> rw [hb.cell, hcs, List.getElem?_toArray]
  · exact hat.1
  · exact hat.2.1
  · exact hat.2.2.1
  · exact hat.2.2.2.1
  · exact hat.2.2.2.2
 have hgl := h.blk.lt
 have HS : Hid (WrS wb wb g A [] w.heap.size 114 cs) := by
  refine ⟨⟨A, n, c, ⟨by rw [hwb]; exact h.blk.alloc _, by rw [hwb]; exact h.own.alloc _, h.hg⟩, Nw.refl _ _, Kpt.refl _ _ _⟩, by rw [hwb]; exact Blk.new _ _ _, by omega, fun p hp e => ?_, by rw [hwb]; simp, by rw [hwb]; simp; omega, fun p hp => ?_⟩
  · subst hp
    have := (h.own.lt p.block rfl).2
    omega
  · subst hp
    have := (h.own.lt p.block rfl).2
    rw [hwb]
    simp
    omega
 have HK : Hid (Kpt w wb g A) := by unfold Hid; rw [hwb]; exact (Kpt.refl w g A).alloc _
 have hwk : IntKind.u8.wrap (kd : Int) = (kd : Int) := wraps_u8 _ (by omega) (by omega)
 have HI : Hid (i.1.length = 32) := i.2
 have HKD : Hid (kd < 256) := hk
 have hs32 : ∀ (q : Nat) (w : World), True := fun _ _ => trivial
 have HWB := Lib.hid hwb
 clear h hat hs32
 rw [← hcs]
 clear hcs hwb
 go_enter Tryz.func142, Tryz.ntmps142
 go_upto_region 1 with fail
 rw [← HWB.out]
 clear HWB hk
 go_wp2_with fail
 refine (HS.out.u8 4 (by omega) (by simp)).mono ?_
 rintro e w1 ⟨rfl, hs1⟩
 have HS1 := Lib.hid hs1
 obtain ⟨c1, c2, c3, c4, c5, sl1⟩ := HA.out w1 hs1.blk
 have HC := Lib.hid (hs1.raw i.1 _ 32 32 HI.out sl1 (by simp))
 clear hs1 sl1 HS c1 c2 c3 c4 c5 HS1
 go_wp2_with fail
 refine HC.out.mono ?_
 rintro e w2 ⟨rfl, hs2⟩
 obtain ⟨c1, c2, c3, c4, c5, _⟩ := HA.out w2 hs2.blk
 have HS2 := Lib.hid hs2
 have HC2 := Lib.hid (hs2.u8 kd HKD.out (by simp [HI.out]))
 clear hs2 HC c2 c3 c4 c5 HS2
 go_wp2_with fail
 refine HC2.out.mono ?_
 rintro e w3 ⟨rfl, hs3⟩
 obtain ⟨c1, c2, c3, c4, c5, _⟩ := HA.out w3 hs3.blk
 obtain ⟨cap3, v3, hconv, hsl, hb⟩ := conv_txt [116] w3
 have hconv : (convert 9 35 (.string ⟨#[116]⟩)).run Tryz.prog w3 = .ok (.slice (some ⟨w3.heap.size, 0, none⟩) 1 cap3) v3 := hconv
 have HC3 := Lib.hid (hs3.text [116] 1 cap3 rfl (by omega) hsl hb (by simp [HI.out]))
 clear hs3 hsl hb HC2 c1 c3 c4 c5
 go_wp2_with fail
 refine HC3.out.mono ?_
 rintro e w4 ⟨rfl, hs4⟩
 obtain ⟨c1, c2, c3, c4, c5, _⟩ := HA.out w4 hs4.blk
 obtain ⟨cap4, v4, hconv, hsl, hb⟩ := conv_txt [] w4
 have hconv : (convert 9 35 (.string ⟨#[]⟩)).run Tryz.prog w4 = .ok (.slice (some ⟨w4.heap.size, 0, none⟩) 0 cap4) v4 := hconv
 have HC4 := Lib.hid (hs4.text [] 0 cap4 rfl (by omega) hsl hb (by simp [HI.out, layB_one]))
 clear hs4 hsl hb HC3 c1 c2 c4 c5
 go_wp2_with fail
 refine HC4.out.mono ?_
 rintro e w5 ⟨rfl, hs5⟩
 obtain ⟨c1, c2, c3, c4, c5, _⟩ := HA.out w5 hs5.blk
 have HC5 := Lib.hid (hs5.u64 0 (by omega) (by simp [HI.out, layB_nil, layB_one]))
 clear hs5 HC4 c1 c2 c3 c5
 go_wp2_with fail
 refine HC5.out.mono ?_
 rintro e w6 ⟨rfl, hs6⟩
 obtain ⟨c1, c2, c3, c4, c5, _⟩ := HA.out w6 hs6.blk
 obtain ⟨cap6, v6, hconv, hsl, hb⟩ := conv_txt [] w6
 have hconv : (convert 9 35 (.string ⟨#[]⟩)).run Tryz.prog w6 = .ok (.slice (some ⟨w6.heap.size, 0, none⟩) 0 cap6) v6 := hconv
 have HC6 := Lib.hid (hs6.text [] 0 cap6 rfl (by omega) hsl hb (by simp [HI.out, layB_nil, layB_one, be8]))
 clear hs6 hsl hb HC5 c1 c2 c3 c4
 go_wp2_with fail
 refine HC6.out.mono ?_
 rintro e w7 ⟨rfl, hs7⟩
 have HF : Hid (WrQ w g (layOb (obG i kd)) A w7) := by
  have h1 := WrQ.comp (Nw.refl w A) HK.out hs7.wr
  have e1 : layOb (obG i kd) = [] ++ [UInt8.ofNat 4] ++ i.1 ++ [UInt8.ofNat kd] ++ layB [116] ++ layB [] ++ be8 0 ++ layB [] := by
   rw [lay_G, layB_one, layB_nil]
   simp
  unfold Hid
  rw [e1]
  exact h1
 clear hs7 HC6 HA HK
 go_wp2_with fail
 go_end0
 exact ⟨rfl, HF.out⟩
end Go.Proofs.YtnjhjbmngoeobaaGreatDoor
