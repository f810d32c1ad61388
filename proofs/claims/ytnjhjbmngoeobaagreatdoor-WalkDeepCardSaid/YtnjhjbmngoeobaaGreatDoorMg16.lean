/- Laws towards WalkDeep: StrI, StrJ, WrA, WrB, WrC, WrD, WrE, WrF, WrG. -/
import Derived.Test.YtnjhjbmngoeobaaGreatDoorMg15
import Derived.Test.YtnjhjbmngoeobaaGreatDoorMg01
import Derived.Test.YtnjhjbmngoeobaaGreatDoorMg02
import Derived.Lib.Tables
import Derived.Lib.BitFns
namespace Go.Proofs.YtnjhjbmngoeobaaGreatDoor
open Go.RowKit Go.Maps
set_option maxRecDepth 100000
theorem DigTab.gbn {w w' : World} (h : DigTab w) (hb : w.grownBy w' none) : DigTab w' := h.below (below_of_gb hb)
def PutPost (w : World) (B a m : Nat) (S : Sto) (b : Bs) (e : Ending) (w' : World) : Prop :=
 e = .returned (.tuple #[.agg (U (shaI b).1).toArray, .bool true, .int .i64 0]) ∧ (∃ D, StV w' B a m (insS (shaI b) b S) D) ∧ w.grownBy w' (some m)
theorem stv_load {w : World} {B a m : Nat} {S : Sto} {D : DataW Value} (h : StV w B a m S D) : B ≤ w.heap.size := Nat.le_trans h.ha (Nat.le_of_lt h.blk.lt)
set_option maxHeartbeats 8000000 in
theorem put_new (B a m n c : Nat) (p : Addr) (S : Sto) (D : DataW Value) (b : Bs) (o : Ob) (w : World) (h : StV w B a m S D) (hS : StoOk S) (ho : Kn b o) (hs : Sl w (some p) b) (hn : b.length = n) (hnc : n ≤ c) (he : ErrTab w) (ht : DigTab w)
 (hg : getS S (shaI b) = none) (hl : S.length < 8192) :
 Calls Tryz.prog 6 #[.pointer (some ⟨a, 0, none⟩), .slice (some p) n c] w (PutPost w B a m S b) := by
 obtain ⟨wA, hwA⟩ : ∃ wA, wA = w.alloc (.cells (idC []) 30) := ⟨_, rfl⟩
 have hbA : Below w.heap.size w wA := by rw [hwA]; exact (Below.refl _ _).alloc (Nat.le_refl _) _
 have HTA : Hid (wA.heap[w.heap.size]? = some (.cells (U (List.replicate 32 0)).toArray 30 (0, 0))) := by rw [hwA, idT_eq]; exact heap_alloc_new w _
 have hlt : w.heap.size < wA.heap.size := by rw [hwA]; simp
 have HKN := Lib.hid ho
 have hnl : n = b.length := hn.symm
 have hPar : ∀ wA', wA.grownBy wA' none → Calls Tryz.prog 40 #[.slice (some p) n c] wA' (ParsePost wA' o) := fun wA' hgb => by
  rw [hnl]
  exact ho.2.2.2.2 _ c wA' ((hs.below hbA).below (below_of_gb hgb)) ((he.below hbA he.lt).gbn hgb)
 have HP := Lib.hid (parseW_any o n c (some p) wA hPar)
 have H := Lib.hid h
 have HSO := Lib.hid hS
 have HS := Lib.hid hs
 have HE := Lib.hid he
 have HD := Lib.hid ht
 have HN := Lib.hid hn
 have HNC := Lib.hid hnc
 have HG := Lib.hid hg
 have HBA := Lib.hid hbA
 have HWA := Lib.hid hwA
 have HLT := Lib.hid hlt
 have hld : decide ((8192 : Int) ≤ (S.length : Int)) = false := decide_eq_false (by omega)
 have hld' : decide (8192 ≤ S.length) = false := decide_eq_false (by omega)
 have HLS := Lib.hid hl
 have HZ := Lib.hid z32_id
 have HBL : Hid (b.length ≤ 65536) := ho.2.2.2.1
 clear h hS ho hs hn hnc he ht hg hl hbA hwA hlt hPar hnl
 go_enter Tryz.func6, Tryz.ntmps6
 go_upto_region 1 with fail
 rw [HZ.out, ← HWA.out]
 clear HWA HZ
 go_wp2_with fail
 refine HP.out.mono ?_
 rintro e w1 ⟨l, rfl, hol, hb1⟩
 have HN1 : Hid ((w1.alloc (.cells Tryz.zeroCells47 47)).heap[w1.heap.size]? = some (.cells zOb.toArray 47 (0, 0))) := ob_new w1
 have HSI : Hid ((Tryz.prog.info? 47).map (·.size) = some l.length) := by rw [hol.1]; exact info_ob
 have HFT : Hid (0 + l.length ≤ zOb.length) := by rw [hol.1]; exact Nat.le_refl _
 have HON : Hid (∀ v ∈ l, v.oneCell' = true) := hol.2.1
 have HB1 : Hid (Below w.heap.size w w1) := HBA.out.trans (hb1.mono HBA.out.size)
 have HT1 : Hid (w1.heap[w.heap.size]? = some (.cells (U (List.replicate 32 0)).toArray 30 (0, 0)) ∧ w.heap.size < w1.heap.size) := ⟨(hb1.block _ HLT.out).trans HTA.out, Nat.lt_of_lt_of_le HLT.out hb1.size⟩
 clear hol hb1 HP HTA HBA HLT
 go_upto_region 2 with (with_reducible refine wpList_storeG rfl 47 (.tmp 7) (.tmp 15) rfl w1.heap.size 0 l rfl rfl zOb 47 HN1.out HFT.out HON.out HSI.out ?_; intro w2 HB2 HG2)
 have G2 : w1.grownBy w2 none := gb_fresh HG2.out
 have HBB2 : Hid (Below w.heap.size w w2) := HB1.out.trans ((below_of_gb G2).mono HB1.out.size)
 have HT2 : Hid (w2.heap[w.heap.size]? = some (.cells (U (List.replicate 32 0)).toArray 30 (0, 0)) ∧ w.heap.size < w2.heap.size) := ⟨(G2.block _ HT1.out.2 (by simp)).trans HT1.out.1, Nat.lt_of_lt_of_le HT1.out.2 G2.size⟩
 have HID := Lib.hid (oid_any n c (some p) b w2 (HS.out.below HBB2.out) (HD.out.below HBB2.out) HN.out HNC.out (by have := HBL.out; omega))
 clear HB2 HG2 HN1 HSI HFT HON G2 HB1 HT1
 go_wp2_with fail
 refine HID.out.mono ?_
 rintro e w3 ⟨rfl, hb3⟩
 have HB3 : Hid (Below w.heap.size w w3) := HBB2.out.trans (hb3.mono HBB2.out.size)
 have HT3 : Hid (w3.heap[w.heap.size]? = some (.cells (U (List.replicate 32 0)).toArray 30 (0, 0)) ∧ w.heap.size < w3.heap.size) := ⟨(hb3.block _ HT2.out.2).trans HT2.out.1, Nat.lt_of_lt_of_le HT2.out.2 hb3.size⟩
 have HNW := id_new w3
 obtain ⟨i, hi⟩ : ∃ i, i = shaI b := ⟨_, rfl⟩
 have hy : Dg.sha b = i.1 := by rw [hi]; rfl
 rw [hy]
 have HI := Lib.hid hi
 have HSZ := Lib.hid (id_size _ i.2)
 have HSZ2 := Lib.hid (id_size' _ i.2)
 have HFT := Lib.hid (id_fit _ i.2)
 clear hb3 HID HBB2 HT2 hi hy
 go_upto_region 5 with (with_reducible refine wpList_storeG rfl 30 (.tmp 9) (.tmp 21) rfl w3.heap.size 0 (U i.1) rfl rfl (U (List.replicate 32 0)) 30 HNW.out HFT.out (U_one _) HSZ.out ?_; intro w4 HB4 HG4)
 have G4 : w3.grownBy w4 none := gb_fresh HG4.out
 have HR4 : Hid (Blk w4.drew w3.heap.size 30 (U i.1).toArray) := by
  have h1 := HB4.out
  rw [splice_id _ i.2] at h1
  exact h1
 have HB5 : Hid (Below w.heap.size w w4.drew) := (HB3.out.trans ((below_of_gb G4).mono HB3.out.size)).drew
 have HT5 : Hid (w4.drew.heap[w.heap.size]? = some (.cells (U (List.replicate 32 0)).toArray 30 (0, 0)) ∧ w.heap.size < w3.heap.size) := ⟨(G4.block _ HT3.out.2 (by simp)).trans HT3.out.1, HT3.out.2⟩
 have h5 : StV w4.drew B a m S D := H.out.below HB5.out
 obtain ⟨v, hlk, _⟩ := look_store h5 i
 rw [show getS S i = none by rw [HI.out]; exact HG.out] at hlk
 simp only [Option.isSome_none] at hlk
 have hc5 := h5.cell
 have hlen := fun ty => h5.mp.len (t := 59) Tryz.underlying59 ty
 rw [h5.size] at hlen
 have H5 := Lib.hid h5
 have HR5 : Hid (w4.drew.heap[w3.heap.size]? = some (.cells (U i.1).toArray 30 (0, 0))) := HR4.out
 clear HG4 HB4 HNW G4 HT3 HB3 h5
 refine wp_region_still_lit (by kernel_rfl) (by kernel_rfl) ?_
 change wpStill _ _ w4.drew (fun a' => Exit.then _ _ Exit.normal a' w4.drew) _ _
 generalize w4.drew = w5 at *
 still_step
 still_step
 still_step
 still_step
 refine wpStill_step (fun K hK => ?_)
 rw [if_pos (by rfl)]
 refine still_load_row 30 (.tmp 9) rfl w3.heap.size rfl 30 (U i.1).toArray (0, 0) _ HR5.out Tryz.underlying30 rfl HSZ2.out ?_
 refine hK _ ?_
 clear hK K
 repeat still_step
 refine wpStill_nil ?_
 go_wp2_with fail
 have hm5 := stv_load H5.out
 have HCL := Lib.hid (clone_any p n c b w5.drew (HS.out.below HB5.out.drew) HN.out.symm (by have := HBL.out; have := HN.out; omega))
 have hrg : w5.drew.rangeAt w3.heap.size 0 (U i.1) := id_rangeB HR4.out.drew
 have FIN : Hid (∀ A' c' w6, w6.ownsRow w5.drew.heap.size 5 1 (.slice A' n c') n (U b) → Below w5.drew.heap.size w5.drew w6 →
  ∃ w7, (Instr.mapUpdate 59 (.map (some m)) (.agg (U i.1).toArray) (.slice A' n c')).run Tryz.prog w6 = .ok () w7 ∧
   (w7.cell? ⟨a, 0, none⟩ = some (.map (some m)) ∧ w7.rangeAt w3.heap.size 0 (U i.1)) ∧ (w6.cell? ⟨a, 0, none⟩ = some (.map (some m)) ∧ w6.rangeAt w3.heap.size 0 (U i.1)) ∧
   (∀ w8, w7.grownBy w8 (some w.heap.size) → (∃ D, StV w8 B a m (insS i b S) D) ∧ w.grownBy w8 (some m)) ∧ True ∧ w7.heap[w.heap.size]? = some (.cells (U (List.replicate 32 0)).toArray 30 (0, 0)) ∧ Blk w7 w3.heap.size 30 (U i.1).toArray ∧ w.heap.size < w3.heap.size) := by
  intro A' c' w6 ho6 hb6
  have h6 : StV w6 B a m S D := H5.out.below ((Below.refl _ _).drew.trans hb6)
  have hw5 : w5.heap.size = w5.drew.heap.size := rfl
  obtain ⟨w7, hrun, hmp, htn⟩ := h6.mp.store key_law (t := 59) Tryz.underlying59 (by have := HLS.out; unfold maxLen; omega) (ik_key i) (d := .held (.slice A' n c')) (ps := []) rfl
  have hg6 : getS S i = none := by rw [HI.out]; exact HG.out
  have hslA : Sl w6 A' b := Sl.of_own ho6
  have hAB : ∀ p, A' = some p → B ≤ p.block := fun p hp => by
   subst hp
   have := (ho6.lt p.block rfl).1
   have h8 : w5.drew.heap.size = w5.heap.size := rfl
   omega
  have hb06 : Below w.heap.size w w6 := HB5.out.drew.trans (hb6.mono HB5.out.size)
  have hne : w.heap.size ≠ m := by
   intro e
   have hm := H.out.mp.lt
   omega
  have hB6 : Blk w6 w3.heap.size 30 (U i.1).toArray := HR4.out.drew.below hb6 HR4.out.lt
  have hB7 := mapTurned_blk hB6 htn (ownsMap_apart h6.mp hB6)
  have hR0 : Blk w6 w.heap.size 30 (U (List.replicate 32 0)).toArray := (hb6.block _ (Nat.lt_trans HT5.out.2 HR4.out.lt)).trans HT5.out.1
  refine ⟨w7, hrun, ⟨by have := (mapTurned_blk h6.blk htn (ownsMap_apart h6.mp h6.blk)).cell 0; simpa using this, id_rangeB hB7⟩, ⟨h6.cell, id_rangeB hB6⟩, ?_, trivial, mapTurned_blk hR0 htn (Ne.symm hne), hB7, HT5.out.2⟩
  intro w8 hg8
  have hg7 : w.grownBy w7 (some m) := gb_trans (gb_none (gb_of_below hb06 none)) htn.grown
  have hgw : w.grownBy w8 (some m) := ⟨hg8.os.trans hg7.os, hg8.tape.trans hg7.tape, hg8.output.trans hg7.output, Nat.le_trans hg7.size hg8.size, fun k hk hkm => (hg8.block k (Nat.lt_of_lt_of_le hk hg7.size) (by
   intro e
   have := Option.some.inj e
   omega)).trans (hg7.block k hk hkm)⟩
  refine ⟨⟨_, H.out.put2 (A := A') (c := c') hgw i b HSO.out.rise hg6 ?_ (by rw [HN.out]; exact own_cap ho6) (fun p hp => ⟨hAB p hp, by
   subst hp
   rcases ho6.2 with ⟨hv, _⟩ | ⟨g, cap, cur, hv, _, hh, _⟩
   · cases hv
   · injection hv with hv1
     injection hv1 with hv1
     have hbg : Blk w6 g 5 cur := hh
     have hgg := (ho6.lt p.block rfl).1
     have h8 : w5.drew.heap.size = w5.heap.size := rfl
     have hgw5 := HR4.out.lt
     have ht5 := HT5.out.2
     rw [hv1]
     have hb8 : Blk w7 g 5 cur := mapTurned_blk hbg htn (ownsMap_apart h6.mp hbg)
     refine ⟨cur, hb8.gb hg8 (fun e => ?_)⟩
     have e2 := Option.some.inj e
     rw [hv1] at hgg
     have e3 : (⟨g, 0, none⟩ : Addr).block = g := rfl
     omega⟩) ?_⟩, hgw⟩
  · have h9 := hslA.turned htn
    rcases h9 with h9 | ⟨g, o2, rfl, hlt9, hc9⟩
    · exact .inl h9
    · have hge := (ho6.lt g rfl).1
      have h8 : w5.drew.heap.size = w5.heap.size := rfl
      have hgw5 := HR4.out.lt
      refine .inr ⟨g, o2, rfl, Nat.lt_of_lt_of_le hlt9 hg8.size, fun j hj => (World.cell?_of_block (a := ⟨g, o2 + j, none⟩) (hg8.block g hlt9 (fun e => by have := Option.some.inj e; have := HT5.out.2; omega))).trans (hc9 j hj)⟩
  · rw [HN.out]
    exact hmp.kept hg8 (by simpa using Ne.symm hne)
 have hu30 := Tryz.underlying30
 have hsz30 := HSZ.out
 clear hlk hlen HG HLS hld hld' HSO HS HN HNC HD HE HKN H5 H HR4 HR5 HT5
 go_region_held3 (fun w' => w'.cell? ⟨a, 0, none⟩ = some (.map (some m)) ∧ w'.rangeAt w3.heap.size 0 (U i.1)) (first | exact k7 | exact k6 | exact ⟨hc5, hrg⟩)
  (first
    | (go_at_call 18; refine HCL.out.mono ?_; rintro e w6 ⟨A6, c6, rfl, ho6, hb6⟩; obtain ⟨w7, hrun, k7, k6, hpost⟩ := FIN.out A6 c6 w6 ho6 hb6))
 all_goals
  obtain ⟨q1, q2, q3, q4, q5⟩ := hpost
  have HP := Lib.hid q1
  have HR7 : Hid (w7.heap[w3.heap.size]? = some (.cells (U i.1).toArray 30 (0, 0))) := q4
  have HT7 : Hid (w7.heap[w.heap.size]? = some (.cells (U (List.replicate 32 0)).toArray 30 (0, 0))) := q3
  clear q1 q2 q3 q4 q5 k7 k6 hrun ho6 hb6 FIN HCL hrg hc5
  go_wp2_with (first
   | (with_reducible refine wpList_load_row rfl 30 (.tmp 9) rfl w3.heap.size rfl 30 (U i.1).toArray (0, 0) _ HR7.out Tryz.underlying30 rfl HSZ2.out ?_)
   | (with_reducible refine wpList_storeG rfl 30 (.tmp 4) (.tmp 57) rfl w.heap.size 0 (U i.1) rfl rfl (U (List.replicate 32 0)) 30 HT7.out HFT.out (U_one _) HSZ.out ?_; intro w8 HB8 HG8))
  have HRW : Hid (w8.heap[w.heap.size]? = some (.cells (U i.1).toArray 30 (0, 0))) := by
   have h1 := HB8.out
   rw [splice_id _ i.2] at h1
   exact h1
  have HF : Hid (PutPost w B a m S b (.returned (.tuple #[.agg (U i.1).toArray, .bool true, .int .i64 0])) w8) := by
   obtain ⟨r1, r2⟩ := HP.out w8 HG8.out
   have e1 := HI.out
   subst e1
   exact ⟨rfl, r1, r2⟩
  exact bodyPost_ret (v := .tuple #[.agg (U i.1).toArray, .bool true, .int .i64 0]) (results_cell_row_tmp2 Tryz.results6 _ w8 w.heap.size 30 (U i.1).toArray (0, 0) _ rfl HRW.out Tryz.underlying30 rfl HSZ2.out) rfl HF.out
def ClashPost (w : World) (e : Ending) (w' : World) : Prop := e = .returned (.tuple #[.agg (U (List.replicate 32 0)).toArray, .bool false, .int .i64 45]) ∧ Below w.heap.size w w'
theorem build_id0 (w : World) : (Instr.build 30 #[]).run Tryz.prog w = .ok (.agg (U (List.replicate 32 0)).toArray) w := by kernel_rfl
set_option maxHeartbeats 8000000 in
theorem put_clash (B a m n c : Nat) (p : Addr) (S : Sto) (D : DataW Value) (b : Bs) (o : Ob) (w : World) (h : StV w B a m S D) (hS : StoOk S) (ho : Kn b o) (hs : Sl w (some p) b) (hn : b.length = n) (hnc : n ≤ c) (he : ErrTab w) (ht : DigTab w)
 (old : Bs) (hg : getS S (shaI b) = some old) (hob : old ≠ b) (ho0 : old ≠ []) :
 Calls Tryz.prog 6 #[.pointer (some ⟨a, 0, none⟩), .slice (some p) n c] w (ClashPost w) := by
 obtain ⟨wA, hwA⟩ : ∃ wA, wA = w.alloc (.cells (idC []) 30) := ⟨_, rfl⟩
 have hbA : Below w.heap.size w wA := by rw [hwA]; exact (Below.refl _ _).alloc (Nat.le_refl _) _
 have HTA : Hid (wA.heap[w.heap.size]? = some (.cells (U (List.replicate 32 0)).toArray 30 (0, 0))) := by rw [hwA, idT_eq]; exact heap_alloc_new w _
 have hlt : w.heap.size < wA.heap.size := by rw [hwA]; simp
 have HKN := Lib.hid ho
 have hnl : n = b.length := hn.symm
 have hPar : ∀ wA', wA.grownBy wA' none → Calls Tryz.prog 40 #[.slice (some p) n c] wA' (ParsePost wA' o) := fun wA' hgb => by
  rw [hnl]
  exact ho.2.2.2.2 _ c wA' ((hs.below hbA).below (below_of_gb hgb)) ((he.below hbA he.lt).gbn hgb)
 have HP := Lib.hid (parseW_any o n c (some p) wA hPar)
 have H := Lib.hid h
 have HSO := Lib.hid hS
 have HS := Lib.hid hs
 have HE := Lib.hid he
 have HD := Lib.hid ht
 have HN := Lib.hid hn
 have HNC := Lib.hid hnc
 have HG := Lib.hid hg
 have HBA := Lib.hid hbA
 have HWA := Lib.hid hwA
 have HLT := Lib.hid hlt
 have HOB : Hid ((old == b) = false) := by unfold Hid; simpa using hob
 have HO0 := Lib.hid ho0
 have HZ := Lib.hid z32_id
 have HBL : Hid (b.length ≤ 65536) := ho.2.2.2.1
 clear h hS ho hs hn hnc he ht hg hob ho0 hbA hwA hlt hPar hnl
 go_enter Tryz.func6, Tryz.ntmps6
 go_upto_region 1 with fail
 rw [HZ.out, ← HWA.out]
 clear HWA HZ
 go_wp2_with fail
 refine HP.out.mono ?_
 rintro e w1 ⟨l, rfl, hol, hb1⟩
 have HN1 : Hid ((w1.alloc (.cells Tryz.zeroCells47 47)).heap[w1.heap.size]? = some (.cells zOb.toArray 47 (0, 0))) := ob_new w1
 have HSI : Hid ((Tryz.prog.info? 47).map (·.size) = some l.length) := by rw [hol.1]; exact info_ob
 have HFT : Hid (0 + l.length ≤ zOb.length) := by rw [hol.1]; exact Nat.le_refl _
 have HON : Hid (∀ v ∈ l, v.oneCell' = true) := hol.2.1
 have HB1 : Hid (Below w.heap.size w w1) := HBA.out.trans (hb1.mono HBA.out.size)
 have HT1 : Hid (w1.heap[w.heap.size]? = some (.cells (U (List.replicate 32 0)).toArray 30 (0, 0)) ∧ w.heap.size < w1.heap.size) := ⟨(hb1.block _ HLT.out).trans HTA.out, Nat.lt_of_lt_of_le HLT.out hb1.size⟩
 clear hol hb1 HP HTA HBA HLT
 go_upto_region 2 with (with_reducible refine wpList_storeG rfl 47 (.tmp 7) (.tmp 15) rfl w1.heap.size 0 l rfl rfl zOb 47 HN1.out HFT.out HON.out HSI.out ?_; intro w2 HB2 HG2)
 have G2 : w1.grownBy w2 none := gb_fresh HG2.out
 have HBB2 : Hid (Below w.heap.size w w2) := HB1.out.trans ((below_of_gb G2).mono HB1.out.size)
 have HT2 : Hid (w2.heap[w.heap.size]? = some (.cells (U (List.replicate 32 0)).toArray 30 (0, 0)) ∧ w.heap.size < w2.heap.size) := ⟨(G2.block _ HT1.out.2 (by simp)).trans HT1.out.1, Nat.lt_of_lt_of_le HT1.out.2 G2.size⟩
 have HID := Lib.hid (oid_any n c (some p) b w2 (HS.out.below HBB2.out) (HD.out.below HBB2.out) HN.out HNC.out (by have := HBL.out; omega))
 clear HB2 HG2 HN1 HSI HFT HON G2 HB1 HT1
 go_wp2_with fail
 refine HID.out.mono ?_
 rintro e w3 ⟨rfl, hb3⟩
 have HB3 : Hid (Below w.heap.size w w3) := HBB2.out.trans (hb3.mono HBB2.out.size)
 have HT3 : Hid (w3.heap[w.heap.size]? = some (.cells (U (List.replicate 32 0)).toArray 30 (0, 0)) ∧ w.heap.size < w3.heap.size) := ⟨(hb3.block _ HT2.out.2).trans HT2.out.1, Nat.lt_of_lt_of_le HT2.out.2 hb3.size⟩
 have HNW := id_new w3
 obtain ⟨i, hi⟩ : ∃ i, i = shaI b := ⟨_, rfl⟩
 have hy : Dg.sha b = i.1 := by rw [hi]; rfl
 rw [hy]
 have HI := Lib.hid hi
 have HSZ := Lib.hid (id_size _ i.2)
 have HSZ2 := Lib.hid (id_size' _ i.2)
 have HFT := Lib.hid (id_fit _ i.2)
 clear hb3 HID HBB2 HT2 hi hy
 go_upto_region 5 with (with_reducible refine wpList_storeG rfl 30 (.tmp 9) (.tmp 21) rfl w3.heap.size 0 (U i.1) rfl rfl (U (List.replicate 32 0)) 30 HNW.out HFT.out (U_one _) HSZ.out ?_; intro w4 HB4 HG4)
 have G4 : w3.grownBy w4 none := gb_fresh HG4.out
 have HR4 : Hid (Blk w4.drew w3.heap.size 30 (U i.1).toArray) := by
  have h1 := HB4.out
  rw [splice_id _ i.2] at h1
  exact h1
 have HB5 : Hid (Below w.heap.size w w4.drew) := (HB3.out.trans ((below_of_gb G4).mono HB3.out.size)).drew
 have HT5 : Hid (w4.drew.heap[w.heap.size]? = some (.cells (U (List.replicate 32 0)).toArray 30 (0, 0)) ∧ w.heap.size < w3.heap.size) := ⟨(G4.block _ HT3.out.2 (by simp)).trans HT3.out.1, HT3.out.2⟩
 have h5 : StV w4.drew B a m S D := H.out.below HB5.out
 obtain ⟨v, hlk, hv⟩ := look_store h5 i
 have hgi : getS S i = some old := by rw [HI.out]; exact HG.out
 obtain ⟨Ao, co, rfl, hso, hco, _⟩ := hv old hgi
 rw [hgi] at hlk
 simp only [Option.isSome_some] at hlk
 obtain ⟨po, rfl⟩ : ∃ po, Ao = some po := by
  rcases hso with e | ⟨q, o2, e, _⟩
  · exact absurd e HO0.out
  · exact ⟨_, e⟩
 have HEQ : Hid (Calls Tryz.prog 17 #[.slice (some po) old.length co, .slice (some p) n c] w4.drew fun e w' => e = .returned (.bool false) ∧ w4.drew = w') := by
  have h6 := equal_any po p old.length co n c old b w4.drew hso (HS.out.below HB5.out) rfl HN.out.symm HO0.out HKN.out.2.2.1
  rw [HOB.out] at h6
  exact h6
 have hc5 := h5.cell
 have H5 := Lib.hid h5
 have HR5 : Hid (w4.drew.heap[w3.heap.size]? = some (.cells (U i.1).toArray 30 (0, 0))) := HR4.out
 clear HG4 HB4 HNW G4 HT3 HB3 h5 hso hv hgi hco HO0 HOB
 refine wp_region_still_lit (by kernel_rfl) (by kernel_rfl) ?_
 change wpStill _ _ w4.drew (fun a' => Exit.then _ _ Exit.normal a' w4.drew) _ _
 generalize w4.drew = w5 at *
 still_step
 still_step
 still_step
 still_step
 refine wpStill_step (fun K hK => ?_)
 rw [if_pos (by rfl)]
 refine still_load_row 30 (.tmp 9) rfl w3.heap.size rfl 30 (U i.1).toArray (0, 0) _ HR5.out Tryz.underlying30 rfl HSZ2.out ?_
 refine hK _ ?_
 clear hK K
 repeat still_step
 refine wpStill_nil ?_
 go_wp2_with fail
 refine HEQ.out.mono ?_
 rintro e w6 ⟨rfl, rfl⟩
 have HBD := build_id0 w5
 clear HEQ hlk
 go_upto_region 9 with fail
 refine wp_region_lit ?_
 refine wpList_buildL rfl 30 [] rfl [] rfl _ HBD ?_
 refine wpList_storeG rfl 30 (.tmp 4) (.tmp 41) rfl w.heap.size 0 (U (List.replicate 32 0)) rfl rfl (U (List.replicate 32 0)) 30 HT5.out.1 (by decide) (U_one _) (by rw [U_length]; exact infoID) ?_
 intro w8 HB8 HG8
 go_wp2_with fail
 have HRW : Hid (w8.heap[w.heap.size]? = some (.cells (U (List.replicate 32 0)).toArray 30 (0, 0))) := by
  have h1 := HB8.out
  rw [splice_id _ (by simp)] at h1
  exact h1
 have HF : Hid (ClashPost w (.returned (.tuple #[.agg (U (List.replicate 32 0)).toArray, .bool false, .int .i64 45])) w8) := ⟨rfl, HB5.out.trans (below_of_gb_some HG8.out (Nat.le_refl _) HB5.out.size)⟩
 exact bodyPost_ret (v := .tuple #[.agg (U (List.replicate 32 0)).toArray, .bool false, .int .i64 45]) (results_cell_row_tmp2 Tryz.results6 _ w8 w.heap.size 30 (U (List.replicate 32 0)).toArray (0, 0) _ rfl HRW.out Tryz.underlying30 rfl (id_size' _ (by simp))) rfl HF.out
end Go.Proofs.YtnjhjbmngoeobaaGreatDoor
namespace Go.Proofs.YtnjhjbmngoeobaaGreatDoor
open Go.RowKit
set_option maxRecDepth 100000
structure Wr (w : World) (T g : Nat) (l : List UInt8) (A : Option Addr) (n c : Nat) : Prop where
 blk : Blk w g 116 #[.slice A n c]
 own : w.ownsRow T 5 1 (.slice A n c) n (U l)
 hg : T ≤ g
theorem build_code_Writer (w : World) : (Instr.build 116 #[]).run Tryz.prog w = .ok (.agg #[.slice none 0 0]) w := run_build w 116 _ _ (by kernel_rfl)
theorem wp_build114 {o : Oper} {a : Act} {w : World} {K : Act → World → Prop} {Q : Exit → Act → World → Prop} (ho : o.op = Op.build 116 #[]) (h : K (a.put o.dst (.agg #[.slice none 0 0])) w) : Oper.wp Tryz.prog o a w K Q := by
 unfold Oper.wp
 simp [execOp, ho, build_code_Writer]
 exact h
theorem new_any (w : World) : Calls Tryz.prog 20 #[] w fun e w' => e = .returned (.pointer (some ⟨w.heap.size, 0, none⟩)) ∧ w' = w.alloc (.cells #[.slice none 0 0] 116) := by
 go_enter Tryz.func20, Tryz.ntmps20
 go_wp2_with fail
 first
  | (refine wp_build114 rfl ?_
     go_wp2_with fail)
  | skip
 go_ret
 exact ⟨rfl, rfl⟩
theorem out_any (T g n c : Nat) (A : Option Addr) (l : List UInt8) (w : World) (h : Wr w T g l A n c) (hl : n ≤ Lim) :
 Calls Tryz.prog 22 #[.pointer (some ⟨g, 0, none⟩)] w fun e w' => e = .returned (.slice (some ⟨w.heap.size, 0, none⟩) n n) ∧ w'.ownsRow w.heap.size 5 1 (.slice (some ⟨w.heap.size, 0, none⟩) n n) n (U l) ∧ Below w.heap.size w w' := by
 have hr := Reads.of_own h.own
 have hc := h.blk.cell 0
 simp at hc
 clear h
 go_enter Tryz.func22, Tryz.ntmps22
 go_wp2_with fail
 refine (taken_any A n c l w hr hl).mono ?_
 rintro e w1 ⟨rfl, ho, hb⟩
 go_wp2_with fail
 go_ret
 exact ⟨rfl, ho, hb⟩
theorem len8_bits (n : Nat) (hn : n < 256) : Lib.len8 (n : Int) = (Lib.bitLen n : Int) := (by decide +kernel : ∀ m : Nat, m < 256 → Lib.len8 (m : Int) = (Lib.bitLen m : Int)) n hn
theorem len64_lt256 (n : Nat) (w : World) (hn : n < 256) : Calls Tryz.prog 91 #[.int .u64 n] w fun e w' => e = .returned (.int .i64 (Lib.bitLen n : Int)) ∧ w' = w := by
 have h1 : decide ((4294967296 : Int) ≤ (n : Int)) = false := decide_eq_false (by omega)
 have h2 : decide ((65536 : Int) ≤ (n : Int)) = false := decide_eq_false (by omega)
 have h3 : decide ((256 : Int) ≤ (n : Int)) = false := decide_eq_false (by omega)
 have h8 := len8_bits n hn
 have h9 : Lib.bitLen n ≤ 8 := (by decide +kernel : ∀ n, n < 256 → Lib.bitLen n ≤ 8) n hn
 have hw : IntKind.u8.wrap (n : Int) = (n : Int) := wraps_u8 _ (by omega) (by omega)
 go_enter Tryz.func91, Tryz.ntmps91
 go_wp2_with fail
 go_ret
 have hh : n < Lib.len8tab.size := by rw [Lib.len8tab_size]; exact hn
 have e : (Lib.len8tab[n]'hh).toNat = Lib.bitLen n := by
  have h10 := h8
  simp only [Lib.len8, Int.toNat_natCast, ByteArray.getElem?_lt' _ _ hh, Option.getD_some] at h10
  omega
 have e2 : wrap64 (wrap64 ((Lib.bitLen n : Nat) : Int)) = ((Lib.bitLen n : Nat) : Int) := by
  simp only [wrap64]
  omega
 refine ⟨?_, rfl⟩
 show Ending.returned (.int .i64 (wrap64 (wrap64 ((Lib.len8tab[n]'hh).toNat : Int)))) = _
 rw [e, e2]
theorem len64_mid (n : Nat) (w : World) (h256 : 256 ≤ n) (hn : n < 65536) : Calls Tryz.prog 91 #[.int .u64 n] w fun e w' => e = .returned (.int .i64 ((8 + Lib.bitLen (n / 256) : Nat) : Int)) ∧ w' = w := by
 have h1 : decide ((4294967296 : Int) ≤ (n : Int)) = false := decide_eq_false (by omega)
 have h2 : decide ((65536 : Int) ≤ (n : Int)) = false := decide_eq_false (by omega)
 have h3 : decide ((256 : Int) ≤ (n : Int)) = true := decide_eq_true (by omega)
 obtain ⟨m, hm⟩ : ∃ m, m = n / 256 := ⟨_, rfl⟩
 have hm256 : m < 256 := by omega
 have em : (n : Int) / 256 = (m : Int) := by omega
 have h8 := len8_bits m hm256
 have h9 : Lib.bitLen m ≤ 8 := (by decide +kernel : ∀ m, m < 256 → Lib.bitLen m ≤ 8) m hm256
 have hw : IntKind.u8.wrap (m : Int) = (m : Int) := wraps_u8 _ (by omega) (by omega)
 rw [← hm]
 clear hm
 go_enter Tryz.func91, Tryz.ntmps91
 go_wp2_with fail
 go_ret
 have hh : m < Lib.len8tab.size := by rw [Lib.len8tab_size]; exact hm256
 have e : (Lib.len8tab[m]'hh).toNat = Lib.bitLen m := by
  have h10 := h8
  simp only [Lib.len8, Int.toNat_natCast, ByteArray.getElem?_lt' _ _ hh, Option.getD_some] at h10
  omega
 have e2 : wrap64 (8 + wrap64 ((Lib.bitLen m : Nat) : Int)) = ((8 + Lib.bitLen m : Nat) : Int) := by
  simp only [wrap64]
  omega
 refine ⟨?_, rfl⟩
 show Ending.returned (.int .i64 (wrap64 (8 + wrap64 ((Lib.len8tab[m]'hh).toNat : Int)))) = _
 rw [e, e2]
def bitsN (n : Nat) : Nat := if n = 0 then 0 else Nat.log2 n + 1
theorem bitsN_eq {n L : Nat} (h1 : 1 ≤ n) (h2 : 2 ^ (L - 1) ≤ n) (h3 : n < 2 ^ L) (hL : 1 ≤ L) : bitsN n = L := by
 have e : Nat.log2 n = L - 1 := (Nat.log2_eq_iff (by omega)).2 ⟨h2, by rw [Nat.sub_add_cancel hL]; exact h3⟩
 unfold bitsN
 rw [if_neg (by omega), e]
 omega
theorem bitLen_256 (n : Nat) (h : n < 256) : (n = 0 → Lib.bitLen n = 0) ∧ (1 ≤ n → 2 ^ (Lib.bitLen n - 1) ≤ n ∧ n < 2 ^ Lib.bitLen n ∧ 1 ≤ Lib.bitLen n ∧ Lib.bitLen n ≤ 8) :=
 (by decide +kernel : ∀ n, n < 256 → (n = 0 → Lib.bitLen n = 0) ∧ (1 ≤ n → 2 ^ (Lib.bitLen n - 1) ≤ n ∧ n < 2 ^ Lib.bitLen n ∧ 1 ≤ Lib.bitLen n ∧ Lib.bitLen n ≤ 8)) n h
theorem bitsN_small (n : Nat) (h : n < 256) : Lib.bitLen n = bitsN n := by
 obtain ⟨a, b⟩ := bitLen_256 n h
 rcases Nat.eq_zero_or_pos n with rfl | hp
 · exact a rfl
 · obtain ⟨b1, b2, b3, _⟩ := b hp
   exact (bitsN_eq hp b1 b2 b3).symm
theorem bitsN_mid (n : Nat) (h1 : 256 ≤ n) (h2 : n < 65536) : 8 + Lib.bitLen (n / 256) = bitsN n := by
 obtain ⟨_, b⟩ := bitLen_256 (n / 256) (by omega)
 obtain ⟨b1, b2, b3, b4⟩ := b (by omega)
 generalize Lib.bitLen (n / 256) = L at *
 refine (bitsN_eq (by omega) ?_ ?_ (by omega)).symm
 · obtain ⟨k, rfl⟩ : ∃ k, L = k + 1 := ⟨L - 1, by omega⟩
   rw [show 8 + (k + 1) - 1 = k + 8 by omega, Nat.pow_add]
   have b5 : 2 ^ k ≤ n / 256 := by simpa using b1
   have : (2 : Nat) ^ 8 = 256 := rfl
   rw [this]
   omega
 · rw [Nat.pow_add]
   have : (2 : Nat) ^ 8 = 256 := rfl
   rw [this]
   omega
theorem len64_top (w : World) : Calls Tryz.prog 91 #[.int .u64 65536] w fun e w' => e = .returned (.int .i64 17) ∧ w' = w := by
 have h8 : Lib.len8 1 = 1 := len8_bits 1 (by decide)
 go_enter Tryz.func91, Tryz.ntmps91
 go_wp2_with fail
 go_ret
 exact ⟨rfl, rfl⟩
theorem len64_any (n : Nat) (w : World) (h : n ≤ 65536) : Calls Tryz.prog 91 #[.int .u64 n] w fun e w' => e = .returned (.int .i64 (bitsN n : Int)) ∧ w' = w := by
 by_cases h1 : n < 256
 · rw [← bitsN_small n h1]
   exact len64_lt256 n w h1
 · by_cases h2 : n < 65536
   · rw [← bitsN_mid n (by omega) h2]
     exact len64_mid n w (by omega) h2
   · obtain rfl : n = 65536 := by omega
     have e : bitsN 65536 = 17 := bitsN_eq (by decide) (by decide) (by decide) (by decide)
     rw [e]
     exact len64_top w
theorem bitsN_le {n k : Nat} (h : n < 2 ^ k) : bitsN n ≤ k := by
 unfold bitsN
 split
 · omega
 · have := (Nat.log2_lt (n := n) (k := k) (by omega)).2 h
   omega
structure Kpt (w w' : World) (g : Nat) (A : Option Addr) : Prop where
 os : w'.os = w.os
 tape : w'.tape = w.tape
 output : w'.output = w.output
 size : w.heap.size ≤ w'.heap.size
 block : ∀ q, q < w.heap.size → q ≠ g → (∀ p, A = some p → p.block ≠ q) → w'.heap[q]? = w.heap[q]?
def Nw (w : World) (A A' : Option Addr) : Prop := ∀ p', A' = some p' → (∃ p, A = some p ∧ p'.block = p.block) ∨ w.heap.size ≤ p'.block
theorem Nw.refl (w : World) (A : Option Addr) : Nw w A A := fun p' h => .inl ⟨p', h, rfl⟩
theorem Nw.trans {w w1 : World} {A A1 A2 : Option Addr} (h : Nw w A A1) (hs : w.heap.size ≤ w1.heap.size) (k : Nw w1 A1 A2) : Nw w A A2 := fun p' hp => by
 rcases k p' hp with ⟨p1, h1, e1⟩ | h1
 · rcases h p1 h1 with ⟨p, h2, e2⟩ | h2
   · exact .inl ⟨p, h2, e1.trans e2⟩
   · exact .inr (by omega)
 · exact .inr (by omega)
theorem Kpt.refl (w : World) (g : Nat) (A : Option Addr) : Kpt w w g A := ⟨rfl, rfl, rfl, Nat.le_refl _, fun _ _ _ _ => rfl⟩
theorem Kpt.trans {w w1 w2 : World} {g : Nat} {A A1 : Option Addr} (h : Kpt w w1 g A) (hn : Nw w A A1) (k : Kpt w1 w2 g A1) : Kpt w w2 g A :=
 ⟨k.os.trans h.os, k.tape.trans h.tape, k.output.trans h.output, Nat.le_trans h.size k.size, fun q hq hg hA => by
  refine (k.block q (Nat.lt_of_lt_of_le hq h.size) hg (fun p1 hp1 e => ?_)).trans (h.block q hq hg hA)
  rcases hn p1 hp1 with ⟨p, hp, e2⟩ | h2
  · exact hA p hp (e2.symm.trans e)
  · omega⟩
theorem Kpt.drew {w w' : World} {g : Nat} {A : Option Addr} (h : Kpt w w' g A) : Kpt w w'.drew g A := ⟨h.os, h.tape, h.output, h.size, h.block⟩
theorem Kpt.drewN {w w' : World} {g : Nat} {A : Option Addr} (h : Kpt w w' g A) (n : Nat) : Kpt w (w'.drewN n) g A := ⟨h.os, h.tape, h.output, h.size, h.block⟩
theorem Kpt.of_gb {w w' : World} {g : Nat} {A : Option Addr} {n c : Nat} (h : w.grownBy w' (Value.slice A n c).ownBlock) : Kpt w w' g A :=
 ⟨h.os, h.tape, h.output, h.size, fun q hq _ hA => h.block q hq (fun e => by
  cases A with
  | none => simp [Value.ownBlock] at e
  | some p =>
    have e2 : some q = some p.block := e
    exact hA p rfl (Option.some.inj e2).symm)⟩
theorem Kpt.set_ {w w' : World} {g i : Nat} {A : Option Addr} (h : Kpt w w' g A) (v : Value) : Kpt w (w'.setCell ⟨g, i, none⟩ v) g A :=
 ⟨h.os, h.tape, h.output, by simpa [World.setCell] using h.size, fun q hq hg hA => (Below.heap_setCell _ ⟨g, i, none⟩ v q (by simpa using hg)).trans (h.block q hq hg hA)⟩
theorem Kpt.alloc {w w' : World} {g : Nat} {A : Option Addr} (h : Kpt w w' g A) (o : Obj) : Kpt w (w'.alloc o) g A :=
 ⟨h.os, h.tape, h.output, Nat.le_trans h.size (by simp), fun q hq hg hA => (Below.heap_alloc w' o q (Nat.lt_of_lt_of_le hq h.size)).trans (h.block q hq hg hA)⟩
theorem Kpt.below {w w' : World} {g : Nat} {A : Option Addr} (h : Kpt w w' g A) {B : Nat} (hB : B ≤ w.heap.size) (hg : B ≤ g) (hA : ∀ p, A = some p → B ≤ p.block) : Below B w w' :=
 ⟨h.os, h.tape, h.output, h.size, fun q hq => h.block q (by omega) (by omega) (fun p hp e => by have := hA p hp; omega)⟩
theorem Kpt.blk {w w' : World} {g q : Nat} {A : Option Addr} {t : TypeId} {cs : Array Value} (h : Kpt w w' g A) (hb : Blk w q t cs) (hg : q ≠ g) (hA : ∀ p, A = some p → p.block ≠ q) : Blk w' q t cs := (h.block q hb.lt hg hA).trans hb
theorem Kpt.sl {w w' : World} {g : Nat} {A B : Option Addr} {l : Bs} (h : Kpt w w' g A) (hs : Sl w B l) (hg : ∀ p, B = some p → p.block ≠ g) (hA : ∀ p q, A = some p → B = some q → p.block ≠ q.block) : Sl w' B l := by
 rcases hs with rfl | ⟨q, o, rfl, hlt, hc⟩
 · exact .inl rfl
 · exact .inr ⟨q, o, rfl, Nat.lt_of_lt_of_le hlt h.size, fun j hj => (World.cell?_of_block (a := ⟨q, o + j, none⟩) (h.block q hlt (hg _ rfl) (fun p hp => hA p _ hp rfl))).trans (hc j hj)⟩
def WrQ (w : World) (g : Nat) (l : List UInt8) (A : Option Addr) (w' : World) : Prop :=
 ∃ A' n' c', Wr w' 0 g l A' n' c' ∧ Nw w A A' ∧ Kpt w w' g A
theorem Wr.drew {w : World} {T g n c : Nat} {l : List UInt8} {A : Option Addr} (h : Wr w T g l A n c) : Wr w.drew T g l A n c := ⟨h.blk, h.own, h.hg⟩
theorem Wr.drewN {w : World} {T g n c : Nat} {l : List UInt8} {A : Option Addr} (h : Wr w T g l A n c) (k : Nat) : Wr (w.drewN k) T g l A n c := ⟨h.blk, h.own, h.hg⟩
theorem Wr.len {w : World} {T g n c : Nat} {l : List UInt8} {A : Option Addr} (h : Wr w T g l A n c) : n = l.length := by
 have := h.own.1
 simp [U_length] at this
 omega
theorem WrQ.comp {w w1 w2 : World} {g : Nat} {l : List UInt8} {A A1 : Option Addr} (hn : Nw w A A1) (hk : Kpt w w1 g A) (h : WrQ w1 g l A1 w2) : WrQ w g l A w2 := by
 obtain ⟨A', n', c', h1, h2, h3⟩ := h
 exact ⟨A', n', c', h1, hn.trans hk.size h2, hk.trans hn h3⟩
theorem nw_of {w : World} {A A' : Option Addr} {n c n' c' : Nat} (h : (Value.slice A' n' c').ownBlock = (Value.slice A n c).ownBlock ∨ (Value.slice A' n' c').ownBlock = some w.heap.size) : Nw w A A' := fun p' hp => by
 subst hp
 rcases h with h | h
 · cases A with
   | none => simp [Value.ownBlock] at h
   | some p => exact .inl ⟨p, rfl, Option.some.inj h⟩
 · exact .inr (by
    have e2 : some p'.block = some w.heap.size := h
    have := Option.some.inj e2
    omega)
theorem wrq_set {w w2 : World} {g n c n2 c2 : Nat} {A A2 : Option Addr} {l l2 : List UInt8} (h : Wr w 0 g l A n c)
 (hown : w2.ownsRow 0 5 1 (.slice A2 n2 c2) n2 (U l2)) (hg : w.grownBy w2 (Value.slice A n c).ownBlock) (hb : (Value.slice A2 n2 c2).ownBlock = (Value.slice A n c).ownBlock ∨ (Value.slice A2 n2 c2).ownBlock = some w.heap.size) :
 w2.cell? ⟨g, 0, none⟩ = some (.slice A n c) ∧ w2.frozen? ⟨g, 0, none⟩ = false ∧ WrQ w g l2 A (w2.setCell ⟨g, 0, none⟩ (.slice A2 n2 c2)) := by
 have blk2 : Blk w2 g 116 #[.slice A n c] := h.blk.gb hg (fun e => own_blk_ne h.own h.blk (by decide) e.symm)
 have hc2 := blk2.cell 0
 simp at hc2
 refine ⟨hc2, blk2.frozen 0, A2, n2, c2, ⟨blk2.set_ 0 _, ?_, Nat.zero_le _⟩, nw_of hb, (Kpt.of_gb hg).set_ _⟩
 exact own_set_other hown (a := ⟨g, 0, none⟩) (own_blk_ne hown blk2 (by decide)) _
theorem step_pushN {P : Program} (W : World) {ops : Array Oper} {o : Oper} {a : Act} {K : Act → World → Prop} {Q : Exit → Act → World → Prop} {E : Prop} (hgd : o.guard = none) (s x : Operand) (t : TypeId)
 (ho : o.op = .call { callee := .builtin .append, args := #[s, x], argTypes := #[t, t] })
 (base : Nat) (e : TypeId) (i : TypeInfo) (z : Value) (size bytes : Nat) (ht : P.underlying t = some (.slice e)) (hi : P.info? e = some i) (hz : i.zero = some z)
 (hsize : i.size = size) (hby : i.bytes = bytes) (hzs : z.cells.size = size) (hsz : 0 < size)
 (A : Option Addr) (n c : Nat) (xs : List Value) (hs : a.eval s = .slice A n c) (hown : W.ownsRow base e size (.slice A n c) n xs)
 (us : Array Value) (m : Nat) (te : TypeId) (hus : us.size = m * size) (h1 : ∀ u ∈ us.toList, u.oneCell' = true) (hx : a.eval x = .slice (some ⟨W.heap.size, 0, none⟩) m m)
 (hbytes : (n + m) * bytes ≤ 140737488355328) (h63 : n + m ≤ maxLen) (hbase : base ≤ W.heap.size)
 (h : ∀ A' c' w', w'.ownsRow base e size (.slice A' (n + m) c') (n + m) (xs ++ us.toList) → W.grownBy w' (Value.slice A n c).ownBlock → Nw W A A' → K (a.put o.dst (.slice A' (n + m) c')) w') :
 if Region.wanted o (yielded ops a.tmps) = true then Oper.wp P o a (W.alloc (.cells us te)) K Q else E := by
 have hw : Region.wanted o (yielded ops a.tmps) = true := by simp [Region.wanted, hgd]
 rw [if_pos hw]
 obtain ⟨v', w', hr, h2, h3, _, h5⟩ := run_append_own_at (P := P) (W.alloc (.cells us te)) base t o.type e i z size bytes ht hi hz hsize hby hzs hsz (.slice A n c) n xs (hown.alloc _) ⟨W.heap.size, 0, none⟩ m m us.toList (by simpa using hus) (by
  intro j v hj
  have := (Blk.new W te us).cell j
  rw [addr_add, Nat.zero_add, this]
  simpa using hj) h1 h63 hbytes (by simp; omega)
 unfold Oper.wp execOp
 simp only [ho, resolve, invoke, builtin, Sem.run_bind, Sem.run_pure, Result.andThen_ok, List.map_toArray, List.map_cons, List.map_nil, hs, hx, hr]
 obtain ⟨A', c', rfl⟩ := own_shape h2
 refine h A' c' w' h2 (gb_trans (gb_alloc (gb_refl _ _) _) h3) ?_
 rcases h5 with h5 | h5
 · exact nw_of (.inl h5)
 · intro p' hp
   subst hp
   have e2 : some p'.block = some (W.alloc (.cells us te)).heap.size := h5
   have e3 := Option.some.inj e2
   simp at e3
   exact .inr (by omega)
theorem wrq_set2 {w0 w w2 : World} {g n c n2 c2 : Nat} {A0 A A2 : Option Addr} {l l2 : List UInt8} (h : Wr w 0 g l A n c)
 (hown : w2.ownsRow 0 5 1 (.slice A2 n2 c2) n2 (U l2)) (hg : w.grownBy w2 (Value.slice A n c).ownBlock) (hn : Nw w A A2) (hk : Kpt w0 w g A0) (hn0 : Nw w0 A0 A) :
 (w2.cell? ⟨g, 0, none⟩ = some (.slice A n c) ∧ w2.frozen? ⟨g, 0, none⟩ = false) ∧ WrQ w0 g l2 A0 (w2.setCell ⟨g, 0, none⟩ (.slice A2 n2 c2)) := by
 have blk2 : Blk w2 g 116 #[.slice A n c] := h.blk.gb hg (fun e => own_blk_ne h.own h.blk (by decide) e.symm)
 have hc2 := blk2.cell 0
 simp at hc2
 refine ⟨⟨hc2, blk2.frozen 0⟩, A2, n2, c2, ⟨blk2.set_ 0 _, ?_, Nat.zero_le _⟩, hn0.trans hk.size hn, hk.trans hn0 ((Kpt.of_gb hg).set_ _)⟩
 exact own_set_other hown (a := ⟨g, 0, none⟩) (own_blk_ne hown blk2 (by decide)) _
theorem rawk (g n c m c2 : Nat) (A B : Option Addr) (l r : List UInt8) (w : World) (h : Wr w 0 g l A n c) (hm : r.length = m) (hr : Sl w B r) (hl : n + m ≤ 1000000) :
 Calls Tryz.prog 120 #[.pointer (some ⟨g, 0, none⟩), .slice B m c2] w fun e w' => e = .returned (.tuple #[]) ∧ WrQ w g (l ++ r) A w' := by
 subst hm
 have H := Lib.hid h
 have HR := Lib.hid hr.reads
 have hc := h.blk.cell 0
 simp at hc
 obtain ⟨i5, hi5, hz50, hz51, hz52⟩ := info_parts info5
 clear h hr
 go_enter Tryz.func120, Tryz.ntmps120
 go_wp2_with (first
  | (at_builtin
     refine wpList_append_any w rfl (.tmp 8) (.tmp 9) 35 rfl 0 5 i5 (.int .u8 0) 1 1 Tryz.underlying35 hi5 hz50 hz51 hz52 rfl (by decide) (.slice A n c) n (U l) rfl H.out.own _ B r.length c2 (U r) rfl HR.out (U_one r) (by unfold maxLen; omega) (by omega) (Nat.zero_le _) ?_
     intro v2 w2 hown2 hg2 hb2
     obtain ⟨A2, c2', hv2⟩ := own_shape hown2
     subst hv2
     rw [← U_append] at hown2
     obtain ⟨hc2, hf2, hq2⟩ := wrq_set H.out hown2 hg2 hb2
     have HF := Lib.hid hq2
     clear hown2 hg2 hb2 hq2)
  | fail)
 go_end0
 exact ⟨rfl, HF.out⟩
set_option maxHeartbeats 1000000 in
theorem fixed1k (g n c x : Nat) (A : Option Addr) (l : List UInt8) (w : World) (h : Wr w 0 g l A n c) (hx : x < 256) (hl : n ≤ 1000000) :
 Calls Tryz.prog 121 #[.pointer (some ⟨g, 0, none⟩), .int .u64 x, .int .i64 1] w fun e w' => e = .returned (.tuple #[]) ∧ WrQ w g (l ++ [UInt8.ofNat x]) A w' := by
 have H := Lib.hid h
 have hc := h.blk.cell 0
 simp at hc
 have hf := h.blk.frozen 0
 obtain ⟨i5, hi5, hz50, hz51, hz52⟩ := info_parts info5
 have hwx : IntKind.u8.wrap (x : Int) = (x : Int) := wraps_u8 _ (by omega) (by omega)
 have ew : IntKind.i64.wrap 0 = 0 := by decide
 have hca : (w.alloc (.cells #[.int .u8 (x : Int)] 5)).cell? ⟨g, 0, none⟩ = some (.slice A n c) := by rw [(h.blk.alloc _).cell]; rfl
 have hfa : (w.alloc (.cells #[.int .u8 (x : Int)] 5)).frozen? ⟨g, 0, none⟩ = false := (h.blk.alloc _).frozen 0
 have HX : Hid (U l ++ [Value.int .u8 (x : Int)] = U (l ++ [UInt8.ofNat x])) := by
  have e1 : ((UInt8.ofNat x).toNat : Int) = (x : Int) := by simp; omega
  have e2 : (x : Int) % 256 = (x : Int) := by omega
  unfold Hid
  rw [U_append]
  simp [U, e2]
 clear h
 go_enter Tryz.func121, Tryz.ntmps121
 go_wp2_with fail
 refine wp_loop_rounds 2 ?_
 rw [rounds_succ]
 go_wp2_with fail
 go_region_law (first
  | (refine step_pushN w.drew rfl (.tmp 15) (.tmp 24) 35 rfl 0 5 i5 (.int .u8 0) 1 1 Tryz.underlying35 hi5 hz50 hz51 hz52 rfl (by decide) A n c (U l) (by simp [Act.eval]) H.out.own #[.int .u8 (x : Int)] 1 _ rfl ?_ (by simp [Act.eval]) (by omega) (by unfold maxLen; omega) (Nat.zero_le _) ?_
     · intro u hu
       simp at hu
       subst hu
       rfl
     intro A2 c2 w2 hown2 hg2 hn2
     have hown3 : w2.ownsRow 0 5 1 (.slice A2 (n + 1) c2) (n + 1) (U (l ++ [UInt8.ofNat x])) := by rw [← HX.out]; exact hown2
     obtain ⟨⟨hc2, hf2⟩, hq2⟩ := wrq_set2 (w0 := w) (w := w.drew) (g := g) (A0 := A) H.out.drew hown3 hg2 hn2 ((Kpt.refl w g A).drew) (Nw.refl w A)
     have HF := Lib.hid hq2
     clear hown2 hown3 hg2 hn2 hq2))
 all_goals
  go_wp2_with fail
  rw [rounds_succ]
  go_wp2_with fail
  go_end0
  exact ⟨rfl, HF.out⟩
theorem u8k (g n c x : Nat) (A : Option Addr) (l : List UInt8) (w : World) (h : Wr w 0 g l A n c) (hx : x < 256) (hl : n ≤ 1000000) :
 Calls Tryz.prog 119 #[.pointer (some ⟨g, 0, none⟩), .int .u8 x] w fun e w' => e = .returned (.tuple #[]) ∧ WrQ w g (l ++ [UInt8.ofNat x]) A w' := by
 go_enter Tryz.func119, Tryz.ntmps119
 go_wp2_with fail
 refine (fixed1k g n c x A l w h hx hl).mono ?_
 rintro e w1 ⟨rfl, hp⟩
 go_wp2_with fail
 go_end0
 exact ⟨rfl, hp⟩
end Go.Proofs.YtnjhjbmngoeobaaGreatDoor
