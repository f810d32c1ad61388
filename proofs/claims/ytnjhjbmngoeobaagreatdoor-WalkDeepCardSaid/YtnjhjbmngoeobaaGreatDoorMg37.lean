/- Laws towards WalkDeep: BegA. -/
import Derived.Test.YtnjhjbmngoeobaaGreatDoorMg35
import Derived.Test.YtnjhjbmngoeobaaGreatDoorMg36
namespace Go.Proofs.YtnjhjbmngoeobaaGreatDoor
open Go.RowKit Go.Maps
set_option maxRecDepth 100000
def PutNewA (w : World) (B a m : Nat) (S : Sto) (b : Bs) (e : Ending) (w' : World) : Prop := e = .returned (.tuple #[.agg (U (shaI b).1).toArray, .bool true, .int .i64 0]) ∧ StA w' B a m (insS (shaI b) b S) ∧ w.grownBy w' (some m)
theorem put_newA (B a m n c : Nat) (p : Addr) (S : Sto) (b : Bs) (o : Ob) (w : World) (h : StA w B a m S) (ho : Kn b o) (hs : Sl w (some p) b) (hn : b.length = n) (hnc : n ≤ c) (hg : getS S (shaI b) = none) (hl : S.length < 8192) :
 Calls Tryz.prog 6 #[.pointer (some ⟨a, 0, none⟩), .slice (some p) n c] w (PutNewA w B a m S b) := by
 obtain ⟨D, hD⟩ := h.st
 refine (put_new B a m n c p S D b o w hD h.ok ho hs hn hnc h.er h.dg hg hl).mono ?_
 rintro e w' ⟨rfl, hD', hgb⟩
 have hm : B ≤ m := hD.hm
 exact ⟨rfl, ⟨hD', ins_ok h.ok ho.1 hg hl, h.kn.ins _ ho, h.er.gb hgb h.er.lt (by have := h.lo.1; omega), ⟨RndTab.gb h.dg.rnd hgb (by have := h.lo.2.2; omega), BegTab.gb h.dg.beg hgb (by have := h.lo.2.1; omega)⟩, h.lo⟩, hgb⟩
theorem build_com_t (i : Id) (w : World) : (Instr.build 43 #[(0, .agg (U i.1).toArray)]).run Tryz.prog w = .ok (.agg (comL i (.slice none 0 0) (.string ⟨#[]⟩) (.int .u64 0) (.string ⟨#[]⟩)).toArray) w := by
 obtain ⟨d0, d1, d2, d3, d4, d5, d6, d7, d8, d9, d10, d11, d12, d13, d14, d15, d16, d17, d18, d19, d20, d21, d22, d23, d24, d25, d26, d27, d28, d29, d30, d31, hU⟩ := id32 i
 unfold comL
 rw [hU]
 kernel_rfl
theorem sl_two (w : World) (t : TypeId) (x y : UInt8) : Sl (w.alloc (.cells #[.int .u8 (x.toNat : Int), .int .u8 (y.toNat : Int)] t)) (some ⟨w.heap.size, 0, none⟩) [x, y] :=
 sl_of_blk (Blk.new w t _) (fun j hj => by
  have : j = 0 ∨ j = 1 := by simp at hj; omega
  rcases this with rfl | rfl <;> rfl)
theorem oid_I (n c : Nat) (p : Addr) (bs : Bs) (i : Id) (w : World) (h : Sl w (some p) bs) (htab : DigTab w) (hn : bs.length = n) (hnc : n ≤ c) (hb : bs.length ≤ 65536) (hi : shaI bs = i) :
 Calls Tryz.prog 16 #[.slice (some p) n c] w fun e w' => e = .returned (.agg (U i.1).toArray) ∧ Below w.heap.size w w' := by
 subst hi
 exact oid_any n c (some p) bs w h htab hn hnc (by omega)
theorem ob_tag_lit (i : Id) (d0 d1 d2 d3 d4 d5 d6 d7 d8 d9 d10 d11 d12 d13 d14 d15 d16 d17 d18 d19 d20 d21 d22 d23 d24 d25 d26 d27 d28 d29 d30 d31 : Value) (hU : U i.1 = [d0, d1, d2, d3, d4, d5, d6, d7, d8, d9, d10, d11, d12, d13, d14, d15, d16, d17, d18, d19, d20, d21, d22, d23, d24, d25, d26, d27, d28, d29, d30, d31]) : (obL (.int .i64 4) (.slice none 0 0) (.slice none 0 0) zCom (tagL i (.int .i64 3) (.string ⟨#[116]⟩) (.string ⟨#[]⟩) (.int .u64 0) (.string ⟨#[]⟩))).toArray = #[Value.int IntKind.i64 4, .slice none 0 0, .slice none 0 0, Value.int IntKind.u8 0, Value.int IntKind.u8 0, Value.int IntKind.u8 0, Value.int IntKind.u8 0, Value.int IntKind.u8 0, Value.int IntKind.u8 0, Value.int IntKind.u8 0, Value.int IntKind.u8 0, Value.int IntKind.u8 0, Value.int IntKind.u8 0, Value.int IntKind.u8 0, Value.int IntKind.u8 0, Value.int IntKind.u8 0, Value.int IntKind.u8 0, Value.int IntKind.u8 0, Value.int IntKind.u8 0, Value.int IntKind.u8 0, Value.int IntKind.u8 0, Value.int IntKind.u8 0, Value.int IntKind.u8 0, Value.int IntKind.u8 0, Value.int IntKind.u8 0, Value.int IntKind.u8 0, Value.int IntKind.u8 0, Value.int IntKind.u8 0, Value.int IntKind.u8 0, Value.int IntKind.u8 0, Value.int IntKind.u8 0, Value.int IntKind.u8 0, Value.int IntKind.u8 0, Value.int IntKind.u8 0, Value.int IntKind.u8 0, .slice none 0 0, .string ⟨#[]⟩, .int .u64 0, .string ⟨#[]⟩, d0, d1, d2, d3, d4, d5, d6, d7, d8, d9, d10, d11, d12, d13, d14, d15, d16, d17, d18, d19, d20, d21, d22, d23, d24, d25, d26, d27, d28, d29, d30, d31, .int .i64 3, .string ⟨#[116]⟩, .string ⟨#[]⟩, .int .u64 0, .string ⟨#[]⟩] := by
 unfold obL tagL
 rw [hU]
 rfl
theorem enc0C (w : World) : Calls Tryz.prog 7 #[.agg (obL (.int .i64 3) (.slice none 0 0) (.slice none 0 0) (comL iT (.slice none 0 0) (.string ⟨#[]⟩) (.int .u64 0) (.string ⟨#[]⟩)) zTag).toArray] w (EncPost w b0C) := by
 have h := enc_com0 w iT 0 (.slice none 0 0) (.slice none 0 0) (by omega)
 have e : layOb (obC iT [] 0) = b0C := by decide +kernel
 rw [e] at h
 exact h
theorem enc0G (w : World) : Calls Tryz.prog 7 #[.agg (obL (.int .i64 4) (.slice none 0 0) (.slice none 0 0) zCom (tagL iC (.int .i64 3) (.string ⟨#[116]⟩) (.string ⟨#[]⟩) (.int .u64 0) (.string ⟨#[]⟩))).toArray] w (EncPost w b0G) := by
 have h := enc_tag w iC 3 (.slice none 0 0) (.slice none 0 0) (by omega) (by omega)
 have e : layOb (obG iC 3) = b0G := by decide +kernel
 rw [e] at h
 exact h
theorem kn0C : Kn b0C (obC iT [] 0) := by
 have h := kn_obC iT [] 0 (.inl rfl) (by omega)
 have e : layOb (obC iT [] 0) = b0C := by decide +kernel
 rw [e] at h
 exact h
theorem kn0G : Kn b0G (obG iC 3) := by
 have h := kn_obG iC 3 (by omega) (by omega)
 have e : layOb (obG iC 3) = b0G := by decide +kernel
 rw [e] at h
 exact h
theorem ins0C : insS iC b0C [(iT, b0T)] = [(iT, b0T), (iC, b0C)] := by decide +kernel
theorem ins0G : insS iG b0G [(iT, b0T), (iC, b0C)] = s0 := by decide +kernel
theorem get0C : getS [(iT, b0T)] iC = none := by decide +kernel
theorem get0G : getS [(iT, b0T), (iC, b0C)] iG = none := by decide +kernel
theorem tags0 : TagOne s0 := fun i hi h4 => by
 simp only [idsS, s0, List.map_cons, List.map_nil, List.mem_cons, List.not_mem_nil, or_false] at hi
 rcases hi with rfl | rfl | rfl
 · rw [k_T] at h4; cases h4
 · rw [k_C] at h4; cases h4
 · exact ⟨_, lA_G⟩
theorem s0_good (hk : KnS s0) (ho : StoOk s0) : Good s0 := by
 have hin : ∀ i ∈ idsS s0, i = iT ∨ i = iC ∨ i = iG := fun i hi => by
  simp only [idsS, s0, List.map_cons, List.map_nil, List.mem_cons, List.not_mem_nil, or_false] at hi
  exact hi
 have eT : childS s0 iT = [] := lA_T
 have eC : childS s0 iC = [(iT, 2)] := lA_C
 have eG : childS s0 iG = [(iC, 3)] := lA_G
 refine ⟨ho, hk, tags0, fun i hi l hl => ?_, fun i => ?_, by decide, fun i hi h3 => ?_, fun i hi h3 l hl => ?_, fun i hi h4 l hl => ?_⟩
 · rcases hin i hi with rfl | rfl | rfl
   · rw [eT] at hl; cases hl
   · rw [eC, List.mem_singleton] at hl
     subst hl
     exact ⟨by decide +kernel, k_T⟩
   · rw [eG, List.mem_singleton] at hl
     subst hl
     exact ⟨by decide +kernel, k_C⟩
 · by_cases hi : i ∈ idsS s0
   · rcases hin i hi with rfl | rfl | rfl
     · rw [eT]; simp
     · rw [eC]; simp
     · rw [eG]; simp
   · rw [childS_absent hi]; simp
 · rcases hin i hi with rfl | rfl | rfl
   · rw [k_T] at h3; cases h3
   · exact ⟨_, _, eC⟩
   · rw [k_G] at h3; cases h3
 · rcases hin i hi with rfl | rfl | rfl
   · rw [k_T] at h3; cases h3
   · rw [eC] at hl; cases hl
   · rw [k_G] at h3; cases h3
 · rcases hin i hi with rfl | rfl | rfl
   · rw [k_T] at h4; cases h4
   · rw [k_C] at h4; cases h4
   · rw [eG, List.mem_singleton] at hl
     subst hl
     exact .inl rfl
theorem sha0T : shaI b0T = iT := Subtype.ext sha_T
theorem sha0C : shaI b0C = iC := Subtype.ext sha_C
theorem sha0G : shaI b0G = iG := Subtype.ext sha_G
structure Beg0 (iT iC iG : Id) (bT bC bG : Bs) (S2 S3 : Sto) : Prop where
 eT : bT = [2, 0]
 sT : shaI bT = iT
 sC : shaI bC = iC
 sG : shaI bG = iG
 kT : Kn bT (.tree [])
 kC : Kn bC (obC iT [] 0)
 kG : Kn bG (obG iC 3)
 enC : ∀ w, Calls Tryz.prog 7 #[.agg (obL (.int .i64 3) (.slice none 0 0) (.slice none 0 0) (comL iT (.slice none 0 0) (.string ⟨#[]⟩) (.int .u64 0) (.string ⟨#[]⟩)) zTag).toArray] w (EncPost w bC)
 enG : ∀ w, Calls Tryz.prog 7 #[.agg (obL (.int .i64 4) (.slice none 0 0) (.slice none 0 0) zCom (tagL iC (.int .i64 3) (.string ⟨#[116]⟩) (.string ⟨#[]⟩) (.int .u64 0) (.string ⟨#[]⟩))).toArray] w (EncPost w bG)
 gC : getS [(iT, bT)] iC = none
 gG : getS S2 iG = none
 iC_ : insS iC bC [(iT, bT)] = S2
 iG_ : insS iG bG S2 = S3
 l2 : S2.length < 8192
 good : KnS S3 → StoOk S3 → Good S3
 hG : iG ∈ idsS S3 ∧ (kindS S3 iG = 3 ∨ kindS S3 iG = 4)
 hC : iC ∈ idsS S3 ∧ kindS S3 iC = 3
 eG : endsP S3 [iG] = some [iC]
 eGC : endsP S3 [iG, iC] = some [iC, iC]
 eP : endP S3 iG = some iC
 aA : (setP (lnkA S3) [iG]).length = 3
 aH : setP (lnkH S3) [iC] = [iC]
 ch : Chn S3 [iC]
def BegP (w : World) (e : Ending) (w' : World) : Prop := e = .returned (.bool true) ∧ Below w.heap.size w w'
theorem num0 (w : World) : Calls Tryz.prog 8 #[.int .i64 0] w fun e w' => e = .returned (.int .i64 0) ∧ w = w' := num_any 0 w
set_option maxHeartbeats 1000000 in
theorem begun_core (w : World) (iT iC iG : Id) (bT bC bG : Bs) (S2 S3 : Sto) (F0 : Beg0 iT iC iG bT bC bG S2 S3) (he : ErrTab w) (hd : DigTab w) (hsort : ∀ B, SortP B) : Calls Tryz.prog 9 #[] w (BegP w) := by
 have F : Hid (Beg0 iT iC iG bT bC bG S2 S3) := F0
 have HSO := Lib.hid hsort
 clear F0 hsort
 have HN := Lib.hid (new_store w)
 have HE := Lib.hid he
 have HD := Lib.hid hd
 clear he hd
 go_enter Tryz.func9, Tryz.ntmps9
 go_wp2_with fail
 refine HN.out.mono ?_
 rintro e w1 ⟨a, m, D, rfl, hst, hb1⟩
 have HS1 : Hid (StA w1 w.heap.size a m []) := ⟨⟨D, hst⟩, .nil, KnS.nil, HE.out.below hb1 HE.out.lt, HD.out.below hb1, HE.out.lt, HD.out.beg.lt, HD.out.rnd.lt⟩
 have HB1 := Lib.hid hb1
 obtain ⟨w2, hw2⟩ : ∃ w2, w2 = w1.alloc (.cells #[.int .u8 2, .int .u8 0] 5) := ⟨_, rfl⟩
 have hsl : Sl w2 (some ⟨w1.heap.size, 0, none⟩) bT := by rw [hw2]; rw [F.out.eT]; exact sl_two w1 5 2 0
 have hg2 : w1.grownBy w2 none := by rw [hw2]; exact gb_alloc (gb_refl _ _) _
 have HP2 := Lib.hid (put_newA w.heap.size a m 2 2 ⟨w1.heap.size, 0, none⟩ [] bT _ w2 (HS1.out.below (below_of_gb hg2)) F.out.kT hsl (by rw [F.out.eT]; rfl) (Nat.le_refl _) rfl (by simp))
 have HB2 : Hid (Below w.heap.size w w2) := HB1.out.trans ((below_of_gb hg2).mono HB1.out.size)
 have HW2 := Lib.hid hw2
 clear hst hb1 hw2 hsl hg2 HN
 go_wp2_with fail
 rw [← HW2.out]
 refine HP2.out.mono ?_
 rintro e w3 ⟨rfl, hs3, hg3⟩
 have hs3 : StA w3 w.heap.size a m [(iT, bT)] := by
  have h := hs3
  rw [F.out.sT] at h
  exact h
 rw [F.out.sT]
 have HS3 := Lib.hid hs3
 have HM : Hid (w.heap.size ≤ m) := by
  obtain ⟨D, hD⟩ := hs3.st
  exact hD.hm
 have HB3 : Hid (Below w.heap.size w w3) := HB2.out.trans (below_of_gb_some hg3 HM.out HB2.out.size)
 obtain ⟨w4, hw4⟩ : ∃ w4, w4 = w3.alloc (.cells #[.int .u8 2, .int .u8 0] 5) := ⟨_, rfl⟩
 have hsl : Sl w4 (some ⟨w3.heap.size, 0, none⟩) bT := by rw [hw4]; rw [F.out.eT]; exact sl_two w3 5 2 0
 have hg4 : w3.grownBy w4 none := by rw [hw4]; exact gb_alloc (gb_refl _ _) _
 have HS4 := Lib.hid (HS3.out.below (below_of_gb hg4))
 have HB4 : Hid (Below w.heap.size w w4) := HB3.out.trans ((below_of_gb hg4).mono HB3.out.size)
 have HI4 := Lib.hid (oid_I 2 2 ⟨w3.heap.size, 0, none⟩ bT iT w4 hsl HS4.out.dg (by rw [F.out.eT]; rfl) (Nat.le_refl _) (by rw [F.out.eT]; simp) F.out.sT)
 have HW4 := Lib.hid hw4
 clear hs3 hg3 hw4 hsl hg4 HP2 HW2 HS3 HS1 HB1 HB2
 go_wp2_with fail
 rw [← HW4.out]
 refine HI4.out.mono ?_
 rintro e w5 ⟨rfl, hb5⟩
 have HN5 := id_new w5
 have HS5 := Lib.hid (HS4.out.below hb5)
 have HB5 : Hid (Below w.heap.size w w5) := HB4.out.trans (hb5.mono HB4.out.size)
 have HZT := Lib.hid (id_size _ iT.2)
 have HZT2 := Lib.hid (id_size' _ iT.2)
 have HFT := Lib.hid (id_fit _ iT.2)
 have hu30 := Tryz.underlying30
 clear hb5 HI4 HW4 HB3 HB4 HS4
 go_upto_region 6 with (with_reducible refine wpList_storeG rfl 30 (.tmp 2) (.tmp 27) rfl w5.heap.size 0 (U iT.1) rfl rfl (U (List.replicate 32 0)) 30 HN5.out HFT.out (U_one _) HZT.out ?_; intro w6 HB6 HG6)
 have G6 : w5.grownBy w6 none := gb_fresh HG6.out
 have HR6 : Hid (w6.heap[w5.heap.size]? = some (.cells (U iT.1).toArray 30 (0, 0))) := by
  have h1 := HB6.out
  rw [splice_id _ iT.2] at h1
  exact h1
 have HS6 := Lib.hid (HS5.out.below (below_of_gb G6))
 have HB6' : Hid (Below w.heap.size w w6) := HB5.out.trans ((below_of_gb G6).mono HB5.out.size)
 have HBC := Lib.hid (build_com_t iT w6)
 have HBO := Lib.hid (build_ob_com iT (.slice none 0 0) (.string ⟨#[]⟩) (.int .u64 0) (.string ⟨#[]⟩) w6)
 have HEN := Lib.hid (F.out.enC w6)
 clear HB6 HG6 HN5 G6 HS5 HB5
 refine wp_region_lit ?_
 refine wpList_load_row rfl 30 (.tmp 2) rfl w5.heap.size rfl 30 (U iT.1).toArray (0, 0) _ HR6.out hu30 rfl HZT2.out ?_
 refine wpList_buildL rfl 43 [(0, .tmp 29)] rfl [(0, .agg (U iT.1).toArray)] rfl _ HBC.out ?_
 refine wpList_buildL rfl 47 [(0, .const (.int .i64 3)), (3, .tmp 30)] rfl [(0, .int .i64 3), (3, .agg (comL iT (.slice none 0 0) (.string ⟨#[]⟩) (.int .u64 0) (.string ⟨#[]⟩)).toArray)] rfl _ HBO.out ?_
 go_wp2_with fail
 refine HEN.out.mono ?_
 rintro e w7 ⟨qc, rfl, hoc, hb7⟩
 have HS7 := Lib.hid (HS6.out.below hb7)
 have HB7 : Hid (Below w.heap.size w w7) := HB6'.out.trans (hb7.mono HB6'.out.size)
 have HSC := Lib.hid (Sl.of_own hoc)
 obtain ⟨lc, hlc⟩ : ∃ lc, lc = bC.length := ⟨_, rfl⟩
 rw [← hlc]
 have HLC := Lib.hid hlc
 have HI7 := Lib.hid (oid_I lc lc ⟨qc, 0, none⟩ bC iC w7 HSC.out HS7.out.dg hlc.symm (Nat.le_refl _) F.out.kC.2.2.2.1 F.out.sC)
 have hge := fun w' => F.out.enG w'
 obtain ⟨d0, d1, d2, d3, d4, d5, d6, d7, d8, d9, d10, d11, d12, d13, d14, d15, d16, d17, d18, d19, d20, d21, d22, d23, d24, d25, d26, d27, d28, d29, d30, d31, hU⟩ := id32 iC
 have elit := ob_tag_lit iC d0 d1 d2 d3 d4 d5 d6 d7 d8 d9 d10 d11 d12 d13 d14 d15 d16 d17 d18 d19 d20 d21 d22 d23 d24 d25 d26 d27 d28 d29 d30 d31 hU
 have HENG : Hid (∀ w', Calls Tryz.prog 7 #[.agg #[Value.int IntKind.i64 4, .slice none 0 0, .slice none 0 0, Value.int IntKind.u8 0, Value.int IntKind.u8 0, Value.int IntKind.u8 0, Value.int IntKind.u8 0, Value.int IntKind.u8 0, Value.int IntKind.u8 0, Value.int IntKind.u8 0, Value.int IntKind.u8 0, Value.int IntKind.u8 0, Value.int IntKind.u8 0, Value.int IntKind.u8 0, Value.int IntKind.u8 0, Value.int IntKind.u8 0, Value.int IntKind.u8 0, Value.int IntKind.u8 0, Value.int IntKind.u8 0, Value.int IntKind.u8 0, Value.int IntKind.u8 0, Value.int IntKind.u8 0, Value.int IntKind.u8 0, Value.int IntKind.u8 0, Value.int IntKind.u8 0, Value.int IntKind.u8 0, Value.int IntKind.u8 0, Value.int IntKind.u8 0, Value.int IntKind.u8 0, Value.int IntKind.u8 0, Value.int IntKind.u8 0, Value.int IntKind.u8 0, Value.int IntKind.u8 0, Value.int IntKind.u8 0, Value.int IntKind.u8 0, .slice none 0 0, .string ⟨#[]⟩, .int .u64 0, .string ⟨#[]⟩, d0, d1, d2, d3, d4, d5, d6, d7, d8, d9, d10, d11, d12, d13, d14, d15, d16, d17, d18, d19, d20, d21, d22, d23, d24, d25, d26, d27, d28, d29, d30, d31, .int .i64 3, .string ⟨#[116]⟩, .string ⟨#[]⟩, .int .u64 0, .string ⟨#[]⟩]] w' (EncPost w' bG)) := fun w' => by
  have h := hge w'
  rw [elit] at h
  exact h
 unfold Hid at HI7
 rw [hU] at HI7
 replace HI7 := Lib.hid HI7
 clear hoc hb7 hge elit hlc HBC HBO HEN HR6 HS6 HB6'
 go_wp2_with fail
 refine HI7.out.mono ?_
 rintro e w8 ⟨rfl, hb8⟩
 have HS8 := Lib.hid (HS7.out.below hb8)
 have HB8 : Hid (Below w.heap.size w w8) := HB7.out.trans (hb8.mono HB7.out.size)
 have HSC8 := Lib.hid (HSC.out.below hb8)
 clear hb8 HI7 HS7 HB7 HSC hU
 go_wp2_with fail
 rw [show ((((((((((((((((((((((((((((((((((((((Tryz.zeroCells47.setIfInBounds 0 (Value.int IntKind.i64 4)).setIfInBounds 39 d0).setIfInBounds 40 d1).setIfInBounds 41 d2).setIfInBounds 42 d3).setIfInBounds 43 d4).setIfInBounds 44 d5).setIfInBounds 45 d6).setIfInBounds 46 d7).setIfInBounds 47 d8).setIfInBounds 48 d9).setIfInBounds 49 d10).setIfInBounds 50 d11).setIfInBounds 51 d12).setIfInBounds 52 d13).setIfInBounds 53 d14).setIfInBounds 54 d15).setIfInBounds 55 d16).setIfInBounds 56 d17).setIfInBounds 57 d18).setIfInBounds 58 d19).setIfInBounds 59 d20).setIfInBounds 60 d21).setIfInBounds 61 d22).setIfInBounds 62 d23).setIfInBounds 63 d24).setIfInBounds 64 d25).setIfInBounds 65 d26).setIfInBounds 66 d27).setIfInBounds 67 d28).setIfInBounds 68 d29).setIfInBounds 69 d30).setIfInBounds 70 d31).setIfInBounds 71 (.int .i64 3)).setIfInBounds 72 (.string ⟨#[116]⟩)).setIfInBounds 73 (.string ⟨#[]⟩)).setIfInBounds 74 (.int .u64 0)).setIfInBounds 75 (.string ⟨#[]⟩)) = #[Value.int IntKind.i64 4, .slice none 0 0, .slice none 0 0, Value.int IntKind.u8 0, Value.int IntKind.u8 0, Value.int IntKind.u8 0, Value.int IntKind.u8 0, Value.int IntKind.u8 0, Value.int IntKind.u8 0, Value.int IntKind.u8 0, Value.int IntKind.u8 0, Value.int IntKind.u8 0, Value.int IntKind.u8 0, Value.int IntKind.u8 0, Value.int IntKind.u8 0, Value.int IntKind.u8 0, Value.int IntKind.u8 0, Value.int IntKind.u8 0, Value.int IntKind.u8 0, Value.int IntKind.u8 0, Value.int IntKind.u8 0, Value.int IntKind.u8 0, Value.int IntKind.u8 0, Value.int IntKind.u8 0, Value.int IntKind.u8 0, Value.int IntKind.u8 0, Value.int IntKind.u8 0, Value.int IntKind.u8 0, Value.int IntKind.u8 0, Value.int IntKind.u8 0, Value.int IntKind.u8 0, Value.int IntKind.u8 0, Value.int IntKind.u8 0, Value.int IntKind.u8 0, Value.int IntKind.u8 0, .slice none 0 0, .string ⟨#[]⟩, .int .u64 0, .string ⟨#[]⟩, d0, d1, d2, d3, d4, d5, d6, d7, d8, d9, d10, d11, d12, d13, d14, d15, d16, d17, d18, d19, d20, d21, d22, d23, d24, d25, d26, d27, d28, d29, d30, d31, .int .i64 3, .string ⟨#[116]⟩, .string ⟨#[]⟩, .int .u64 0, .string ⟨#[]⟩] from by kernel_rfl]
 refine (HENG.out _).mono ?_
 rintro e w9 ⟨qg, rfl, hog, hb9⟩
 have HS9 := Lib.hid (HS8.out.below hb9)
 have HB9 : Hid (Below w.heap.size w w9) := HB8.out.trans (hb9.mono HB8.out.size)
 have HSC9 := Lib.hid (HSC8.out.below hb9)
 have HSG9 := Lib.hid (Sl.of_own hog)
 obtain ⟨lg, hlg⟩ : ∃ lg, lg = bG.length := ⟨_, rfl⟩
 rw [← hlg]
 have HLG := Lib.hid hlg
 have HP9 := Lib.hid (put_newA w.heap.size a m lc lc ⟨qc, 0, none⟩ [(iT, bT)] bC _ w9 HS9.out F.out.kC HSC9.out HLC.out.symm (Nat.le_refl _) (by rw [F.out.sC]; exact F.out.gC) (by simp))
 clear hog hb9 hlg HENG HS8 HB8 HSC8
 go_wp2_with fail
 refine HP9.out.mono ?_
 rintro e wa ⟨rfl, hsa, hga⟩
 rw [F.out.sC]
 have HSA : Hid (StA wa w.heap.size a m S2) := by
  have h := hsa
  rw [F.out.sC, F.out.iC_] at h
  exact h
 have HBA : Hid (Below w.heap.size w wa) := HB9.out.trans (below_of_gb_some hga HM.out HB9.out.size)
 have hnm : ∀ {p : Addr} {l : Bs}, Sl w9 (some p) l → Sl wa (some p) l := fun {p l} h => by
  obtain ⟨D9, hD9⟩ := HS9.out.st
  obtain ⟨es, clock, hbm, _⟩ := hD9.mp
  exact Sl.besideMap h hbm hga
 have HSGA := Lib.hid (hnm HSG9.out)
 have HSCA := Lib.hid (hnm HSC9.out)
 have HPA := Lib.hid (put_newA w.heap.size a m lg lg ⟨qg, 0, none⟩ S2 bG _ wa HSA.out F.out.kG HSGA.out HLG.out.symm (Nat.le_refl _) (by rw [F.out.sG]; exact F.out.gG) F.out.l2)
 clear hsa hga hnm HP9 HS9 HB9 HSC9 HSG9
 go_wp2_with fail
 refine HPA.out.mono ?_
 rintro e wx ⟨rfl, hsx, hgx⟩
 rw [F.out.sG]
 have HSX : Hid (StA wx w.heap.size a m S3) := by
  have h := hsx
  rw [F.out.sG, F.out.iG_] at h
  exact h
 have HBX : Hid (Below w.heap.size w wx) := HBA.out.trans (below_of_gb_some hgx HM.out HBA.out.size)
 have hnm : ∀ {p : Addr} {l : Bs}, Sl wa (some p) l → Sl wx (some p) l := fun {p l} h => by
  obtain ⟨D9, hD9⟩ := HSA.out.st
  obtain ⟨es, clock, hbm, _⟩ := hD9.mp
  exact Sl.besideMap h hbm hgx
 have HSGX := Lib.hid (hnm HSGA.out)
 have HSCX := Lib.hid (hnm HSCA.out)
 have HGD : Hid (Good S3) := F.out.good HSX.out.kn HSX.out.ok
 clear hsx hgx hnm HPA HSA HBA HSGA HSCA
 obtain ⟨Dx, hDx⟩ := HSX.out.st
 have HEX : Hid (Env wx w.heap.size a m S3 Dx) := ⟨hDx, HSX.out.ok, HSX.out.kn, HSX.out.er⟩
 have HDG : Hid (DigTab wx) := HSX.out.dg
 have HID : Hid (∀ w', Below wx.heap.size wx w' → Calls Tryz.prog 16 #[.slice (some ⟨qg, 0, none⟩) lg lg] w' fun e w'' => e = .returned (.agg (U iG.1).toArray) ∧ Below w'.heap.size w' w'') := fun w' h =>
  oid_I lg lg ⟨qg, 0, none⟩ bG iG w' (HSGX.out.below h) (HDG.out.below h) HLG.out.symm (Nat.le_refl _) F.out.kG.2.2.2.1 F.out.sG
 have HIC : Hid (∀ w', Below wx.heap.size wx w' → Calls Tryz.prog 16 #[.slice (some ⟨qc, 0, none⟩) lc lc] w' fun e w'' => e = .returned (.agg (U iC.1).toArray) ∧ Below w'.heap.size w' w'') := fun w' h =>
  oid_I lc lc ⟨qc, 0, none⟩ bC iC w' (HSCX.out.below h) (HDG.out.below h) HLC.out.symm (Nat.le_refl _) F.out.kC.2.2.2.1 F.out.sC
 obtain ⟨e0, e1, e2, e3, e4, e5, e6, e7, e8, e9, e10, e11, e12, e13, e14, e15, e16, e17, e18, e19, e20, e21, e22, e23, e24, e25, e26, e27, e28, e29, e30, e31, hV⟩ := id32 iG
 have HV := Lib.hid hV
 have HIL : Hid (∀ w', Below wx.heap.size wx w' → Calls Tryz.prog 16 #[.slice (some ⟨qg, 0, none⟩) lg lg] w' fun e w'' => e = .returned (.agg #[e0, e1, e2, e3, e4, e5, e6, e7, e8, e9, e10, e11, e12, e13, e14, e15, e16, e17, e18, e19, e20, e21, e22, e23, e24, e25, e26, e27, e28, e29, e30, e31]) ∧ Below w'.heap.size w' w'') := fun w' h => by
  have := HID.out w' h
  rw [HV.out] at this
  exact this
 have eIG : IdsU [iG] = [e0, e1, e2, e3, e4, e5, e6, e7, e8, e9, e10, e11, e12, e13, e14, e15, e16, e17, e18, e19, e20, e21, e22, e23, e24, e25, e26, e27, e28, e29, e30, e31] := by rw [← HV.out]; simp [IdsU]
 have HRG : Hid (∀ w' : World, IdsR (w'.alloc (.cells #[e0, e1, e2, e3, e4, e5, e6, e7, e8, e9, e10, e11, e12, e13, e14, e15, e16, e17, e18, e19, e20, e21, e22, e23, e24, e25, e26, e27, e28, e29, e30, e31] 30)) [iG] (some ⟨w'.heap.size, 0, none⟩)) := fun w' => .inr ⟨_, 0, rfl, by simp, by
  rw [eIG]
  exact range_of_blk (Blk.new w' 30 #[e0, e1, e2, e3, e4, e5, e6, e7, e8, e9, e10, e11, e12, e13, e14, e15, e16, e17, e18, e19, e20, e21, e22, e23, e24, e25, e26, e27, e28, e29, e30, e31]) (fun j v hj => by rw [Nat.zero_add, List.getElem?_toArray]; exact hj)⟩
 clear hDx hV eIG HSX HSGX HSCX
 have HI10 := Lib.hid (HIL.out wx (Below.refl _ _))
 go_wp2_with fail
 refine HI10.out.mono ?_
 rintro e w10 ⟨rfl, hb10⟩
 obtain ⟨w11, hw11⟩ : ∃ w11, w11 = w10.alloc (.cells #[e0, e1, e2, e3, e4, e5, e6, e7, e8, e9, e10, e11, e12, e13, e14, e15, e16, e17, e18, e19, e20, e21, e22, e23, e24, e25, e26, e27, e28, e29, e30, e31] 30) := ⟨_, rfl⟩
 have HB11 : Hid (Below wx.heap.size wx w11) := by
  have : Below w10.heap.size w10 w11 := by rw [hw11]; exact (Below.refl _ _).alloc (Nat.le_refl _) _
  exact hb10.trans (this.mono hb10.size)
 have hrg := HRG.out w10
 rw [← hw11] at hrg
 have HRE := Lib.hid (reach_any w11 w.heap.size m a S3 Dx [iG] (some ⟨w10.heap.size, 0, none⟩) 1 (HEX.out.to HB11.out) HGD.out hrg (by simp) (fun i hi => by
  rw [List.mem_singleton] at hi
  subst hi
  exact F.out.hG.1) (by simp) HSO.out)
 unfold Hid at HRE
 rw [show [iG].length = 1 from rfl] at HRE
 replace HRE := Lib.hid HRE
 have HW11 := Lib.hid hw11
 clear hb10 hrg hw11 HI10
 go_wp2_with fail
 rw [← HW11.out]
 refine HRE.out.mono ?_
 rintro e w12 ⟨A1, k1, rfl, _, hb12⟩
 rw [F.out.aA]
 have HB12 : Hid (Below wx.heap.size wx w12) := HB11.out.trans (hb12.mono HB11.out.size)
 have HI12 := Lib.hid (HID.out w12 HB12.out)
 clear hb12 HRE HW11 HB11
 go_wp2_with fail
 refine HI12.out.mono ?_
 rintro e w13 ⟨rfl, hb13⟩
 have HB13 : Hid (Below wx.heap.size wx w13) := HB12.out.trans (hb13.mono HB12.out.size)
 have HPE := Lib.hid (peel_any w13 w.heap.size m a S3 Dx iG iC (HEX.out.to HB13.out) HGD.out F.out.hG.1 F.out.eP)
 clear hb13 HI12 HB12
 go_wp2_with fail
 refine HPE.out.mono ?_
 rintro e w14 ⟨rfl, hb14⟩
 have HB14 : Hid (Below wx.heap.size wx w14) := HB13.out.trans (hb14.mono HB13.out.size)
 have HN14 := id_new w14
 have HZC := Lib.hid (id_size _ iC.2)
 have HZC2 := Lib.hid (id_size' _ iC.2)
 have HFC := Lib.hid (id_fit _ iC.2)
 clear hb14 HPE HB13
 go_upto_region 12 with (with_reducible refine wpList_storeG rfl 30 (.tmp 9) (.tmp 62) rfl w14.heap.size 0 (U iC.1) rfl rfl (U (List.replicate 32 0)) 30 HN14.out HFC.out (U_one _) HZC.out ?_; intro w15 HB15 HG15)
 have G15 : w14.grownBy w15 none := gb_fresh HG15.out
 have HR15 : Hid (Blk w15 w14.heap.size 30 (U iC.1).toArray) := by
  have h1 := HB15.out
  rw [splice_id _ iC.2] at h1
  exact h1
 have HB15' : Hid (Below wx.heap.size wx w15) := HB14.out.trans ((below_of_gb G15).mono HB14.out.size)
 have HI15 := Lib.hid (HID.out w15 HB15'.out)
 clear HB15 HG15 G15 HN14 HB14
 go_wp2_with fail
 refine HI15.out.mono ?_
 rintro e w16 ⟨rfl, hb16⟩
 have HB16 : Hid (Below wx.heap.size wx w16) := HB15'.out.trans (hb16.mono HB15'.out.size)
 have HR16 := Lib.hid (HR15.out.below hb16 HR15.out.lt)
 have HAN := Lib.hid (anc_any w16 w.heap.size m a S3 Dx iG iC (HEX.out.to HB16.out) HGD.out F.out.hG F.out.eG F.out.hC HSO.out)
 unfold Hid at HAN
 rw [F.out.aH] at HAN
 replace HAN := Lib.hid HAN
 clear hb16 HI15 HB15' HR15
 go_wp2_with fail
 refine HAN.out.mono ?_
 rintro e w17 ⟨A2, k2, rfl, hr17, hb17⟩
 have HB17 : Hid (Below wx.heap.size wx w17) := HB16.out.trans (hb17.mono HB16.out.size)
 have HR17 := Lib.hid (HR16.out.below hb17 HR16.out.lt)
 have HA17 := Lib.hid hr17
 have HI17 := Lib.hid (HIL.out w17 HB17.out)
 clear hr17 hb17 HAN HB16 HR16
 go_wp2_with fail
 refine HI17.out.mono ?_
 rintro e w18 ⟨rfl, hb18⟩
 obtain ⟨w19, hw19⟩ : ∃ w19, w19 = w18.alloc (.cells #[e0, e1, e2, e3, e4, e5, e6, e7, e8, e9, e10, e11, e12, e13, e14, e15, e16, e17, e18, e19, e20, e21, e22, e23, e24, e25, e26, e27, e28, e29, e30, e31] 30) := ⟨_, rfl⟩
 have hb19 : Below w17.heap.size w17 w19 := by
  have : Below w18.heap.size w18 w19 := by rw [hw19]; exact (Below.refl _ _).alloc (Nat.le_refl _) _
  exact hb18.trans (this.mono hb18.size)
 have HB19 : Hid (Below wx.heap.size wx w19) := HB17.out.trans (hb19.mono HB17.out.size)
 have HR19 := Lib.hid (HR17.out.below hb19 HR17.out.lt)
 have HA19 := Lib.hid (HA17.out.below hb19)
 have hrg := HRG.out w18
 rw [← hw19] at hrg
 have HOR := Lib.hid (order_any w19 w.heap.size m a S3 Dx iG iC [] (some ⟨w18.heap.size, 0, none⟩) 1 (HEX.out.to HB19.out) HGD.out hrg F.out.hG F.out.eG F.out.ch)
 have HW19 := Lib.hid hw19
 clear hb18 hb19 hrg hw19 HI17 HB17 HR17 HA17
 go_wp2_with fail
 rw [← HW19.out]
 refine HOR.out.mono ?_
 rintro e w20 ⟨A3, k3, rfl, hr20, hb20⟩
 have HB20 : Hid (Below wx.heap.size wx w20.drew) := (HB19.out.trans (hb20.mono HB19.out.size)).drew
 have HR20 : Hid (Blk w20.drew w14.heap.size 30 (U iC.1).toArray) := (HR19.out.below hb20 HR19.out.lt).drew
 have HA20 : Hid (IdsR w20.drew [iC] A2) := HA19.out.below hb20.drew
 have HO20 : Hid (IdsR w20.drew [iC] A3) := IdsR.below (w := w20) hr20 (Below.refl _ _).drew
 have HI20 := Lib.hid (HID.out w20.drew HB20.out)
 have hr9 : w20.drew.rangeAt w14.heap.size 0 (U iC.1) := id_rangeB HR20.out
 clear hr20 hb20 HOR HW19 HB19 HR19 HA19
 go_upto_region 14 with fail
 refine wp_region_noPanic ?_
 refine wp_region_held_drew (S := fun w' => w'.rangeAt w14.heap.size 0 (U iC.1)) (by kernel_rfl) hr9 (fun hHeld => ?_)
 refine wpAnyH_take (i := 0) (oi := { dst := some 80, op := Go.Op.move (Go.Operand.tmp 1), type := 25, pos := "law.go:87", after := #[], guard := none }) (v := .pointer (some ⟨a, 0, none⟩)) rfl (by kernel_rfl) ?_ ?_ ?_ ?_ hHeld ?_
 · kernel_rfl
 · kernel_rfl
 · exact fun _ _ _ h => h
 · exact Or.inl ⟨by rfl, fun w' _ => by go_simp⟩
 (try simp only [Act.put, List.setIfInBounds_toArray, List.set_cons_zero, List.set_cons_succ])
 refine wpAnyH_take (i := 1) (oi := { dst := some 81, op := Go.Op.move (Go.Operand.tmp 5), type := 35, pos := "law.go:87", after := #[], guard := none }) (v := .slice (some ⟨qg, 0, none⟩) lg lg) rfl (by kernel_rfl) ?_ ?_ ?_ ?_ hHeld ?_
 · kernel_rfl
 · kernel_rfl
 · exact fun _ _ _ h => h
 · exact Or.inl ⟨by rfl, fun w' _ => by go_simp⟩
 (try simp only [Act.put, List.setIfInBounds_toArray, List.set_cons_zero, List.set_cons_succ])
 refine wpAnyH_take (i := 3) (oi := { dst := some 83, op := Go.Op.load 30 (Go.Operand.tmp 9), type := 30, pos := "law.go:87", after := #[], guard := none }) (v := .agg ((U iC.1)).toArray) rfl (by kernel_rfl) ?_ ?_ ?_ ?_ hHeld ?_
 · kernel_rfl
 · kernel_rfl
 · exact fun _ _ _ h => h
 · exact yieldsIf_load_mid (by rfl) 30 (.tmp 9) rfl w14.heap.size 0 rfl (U iC.1) _ (fun w' h => h) hu30 rfl HZC.out
 (try simp only [Act.put, List.setIfInBounds_toArray, List.set_cons_zero, List.set_cons_succ])
 refine wpAnyH_ready (rs := [2]) (by kernel_rfl) (by simp) ?_
 refine AllReadyH.cons (o := { dst := some 82, op := Go.Op.call { callee := Go.Callee.value (Go.Operand.func 16), args := #[Go.Operand.tmp 81], argTypes := #[35] }, type := 30, pos := "law.go:87", after := #[{ on := 1, ground := Go.Ground.data }], guard := none }) rfl (fun K hK => ?_) AllReadyH.nil
 go_simp
 refine HI20.out.mono ?_
 rintro e w21 ⟨rfl, hb21⟩
 have HB21 : Hid (Below wx.heap.size wx w21) := HB20.out.trans (hb21.mono HB20.out.size)
 have HR21 := Lib.hid (HR20.out.below hb21 HR20.out.lt)
 have HA21 := Lib.hid (HA20.out.below hb21)
 have HO21 := Lib.hid (HO20.out.below hb21)
 have hr9b : w21.rangeAt w14.heap.size 0 (U iC.1) := id_rangeB HR21.out
 have HBS := Lib.hid (bases_any w21 w.heap.size m a S3 Dx iG iC iC iC [] (HEX.out.to HB21.out) HGD.out F.out.hG ⟨F.out.hC.1, .inl F.out.hC.2⟩ F.out.eGC F.out.hC F.out.hC F.out.ch (fun i hi => by
  rw [F.out.aH]
  exact hi) HSO.out)
 clear hb21
 refine hK.out _ _ hr9b (fun hHeld => ?_)
 clear hK K
 (try simp only [Act.put, List.setIfInBounds_toArray, List.set_cons_zero, List.set_cons_succ])
 refine wpAnyH_ready (rs := [4]) (by kernel_rfl) (by simp) ?_
 refine AllReadyH.cons (o := { dst := some 84, op := Go.Op.call { callee := Go.Callee.value (Go.Operand.func 13), args := #[Go.Operand.tmp 80, Go.Operand.tmp 82, Go.Operand.tmp 83], argTypes := #[25, 30, 30] }, type := 50, pos := "law.go:87", after := #[{ on := 0, ground := Go.Ground.data }, { on := 2, ground := Go.Ground.data }, { on := 3, ground := Go.Ground.data }, { on := 2, ground := Go.Ground.chain }], guard := none }) rfl (fun K hK => ?_) AllReadyH.nil
 go_simp
 refine HBS.out.mono ?_
 rintro e w22 ⟨A4, k4, rfl, hr22, hb22⟩
 rw [show [iC].length = 1 from rfl]
 have HB22 : Hid (Below wx.heap.size wx w22) := HB21.out.trans (hb22.mono HB21.out.size)
 have HR22 := Lib.hid (HR21.out.below hb22 HR21.out.lt)
 have HA22 := Lib.hid (HA21.out.below hb22)
 have HO22 := Lib.hid (HO21.out.below hb22)
 have HS22 := Lib.hid hr22
 have hr9c : w22.rangeAt w14.heap.size 0 (U iC.1) := id_rangeB HR22.out
 clear hr22 hb22
 refine hK.out _ _ hr9c (fun hHeld => ?_)
 clear hK K
 (try simp only [Act.put, List.setIfInBounds_toArray, List.set_cons_zero, List.set_cons_succ])
 refine wpAnyH_take (i := 5) (oi := { dst := some 79, op := Go.Op.move (Go.Operand.tmp 84), type := 50, pos := "law.go:87", after := #[{ on := 4, ground := Go.Ground.data }], guard := none }) (v := .tuple #[.slice A4 1 k4, .int .i64 0]) rfl (by kernel_rfl) ?_ ?_ ?_ ?_ hHeld ?_
 · kernel_rfl
 · kernel_rfl
 · exact fun _ _ _ h => h
 · exact Or.inl ⟨by rfl, fun w' _ => by go_simp⟩
 (try simp only [Act.put, List.setIfInBounds_toArray, List.set_cons_zero, List.set_cons_succ])
 refine wpAnyH_take (i := 6) (oi := { dst := some 85, op := Go.Op.extract (Go.Operand.tmp 79) 0, type := 28, pos := "law.go:87", after := #[{ on := 5, ground := Go.Ground.data }], guard := none }) (v := .slice A4 1 k4) rfl (by kernel_rfl) ?_ ?_ ?_ ?_ hHeld ?_
 · kernel_rfl
 · kernel_rfl
 · exact fun _ _ _ h => h
 · exact Or.inl ⟨by rfl, fun w' _ => by go_simp⟩
 (try simp only [Act.put, List.setIfInBounds_toArray, List.set_cons_zero, List.set_cons_succ])
 refine wpAnyH_take (i := 7) (oi := { dst := some 86, op := Go.Op.extract (Go.Operand.tmp 79) 1, type := 31, pos := "law.go:87", after := #[{ on := 5, ground := Go.Ground.data }, { on := 8, ground := Go.Ground.gcOnly Go.Departure.lateStores }], guard := none }) (v := .int .i64 0) rfl (by kernel_rfl) ?_ ?_ ?_ ?_ hHeld ?_
 · kernel_rfl
 · kernel_rfl
 · exact fun _ _ _ h => h
 · exact Or.inl ⟨by rfl, fun w' _ => by go_simp⟩
 (try simp only [Act.put, List.setIfInBounds_toArray, List.set_cons_zero, List.set_cons_succ])
 refine wpAnyH_take (i := 8) (oi := { dst := some 15, op := Go.Op.assign (Go.Operand.tmp 85), type := 28, pos := "law.go:87", after := #[{ on := 6, ground := Go.Ground.data }, { on := 4, ground := Go.Ground.chain }, { on := 0, ground := Go.Ground.phase }, { on := 1, ground := Go.Ground.phase }, { on := 2, ground := Go.Ground.phase }, { on := 3, ground := Go.Ground.phase }, { on := 4, ground := Go.Ground.phase }, { on := 5, ground := Go.Ground.phase }, { on := 6, ground := Go.Ground.phase }, { on := 7, ground := Go.Ground.textOnly Go.Departure.lateStores }], guard := none }) (v := .slice A4 1 k4) rfl (by kernel_rfl) ?_ ?_ ?_ ?_ hHeld ?_
 · kernel_rfl
 · kernel_rfl
 · exact fun _ _ _ h => h
 · exact Or.inl ⟨by rfl, fun w' _ => by go_simp⟩
 (try simp only [Act.put, List.setIfInBounds_toArray, List.set_cons_zero, List.set_cons_succ])
 refine wpAnyH_take (i := 9) (oi := { dst := some 16, op := Go.Op.assign (Go.Operand.tmp 86), type := 31, pos := "law.go:87", after := #[{ on := 7, ground := Go.Ground.data }, { on := 8, ground := Go.Ground.chain }, { on := 0, ground := Go.Ground.phase }, { on := 1, ground := Go.Ground.phase }, { on := 2, ground := Go.Ground.phase }, { on := 3, ground := Go.Ground.phase }, { on := 4, ground := Go.Ground.phase }, { on := 5, ground := Go.Ground.phase }, { on := 6, ground := Go.Ground.phase }, { on := 7, ground := Go.Ground.phase }, { on := 8, ground := Go.Ground.phase }], guard := none }) (v := .int .i64 0) rfl (by kernel_rfl) ?_ ?_ ?_ ?_ hHeld ?_
 · kernel_rfl
 · kernel_rfl
 · exact fun _ _ _ h => h
 · exact Or.inl ⟨by rfl, fun w' _ => by go_simp⟩
 (try simp only [Act.put, List.setIfInBounds_toArray, List.set_cons_zero, List.set_cons_succ])
 refine wpAnyH_done (by kernel_rfl) ?_ _
 refine NoPanic.normal ?_
 have HB23 : Hid (Below wx.heap.size wx w22.drew) := HB22.out.drew
 have HR23 : Hid (Blk w22.drew w14.heap.size 30 (U iC.1).toArray) := HR22.out.drew
 have HA23 : Hid (IdsR w22.drew [iC] A2) := IdsR.below (w := w22) HA22.out (Below.refl _ _).drew
 have HO23 : Hid (IdsR w22.drew [iC] A3) := IdsR.below (w := w22) HO22.out (Below.refl _ _).drew
 have HS23 : Hid (IdsR w22.drew [iC] A4) := IdsR.below (w := w22) HS22.out (Below.refl _ _).drew
 have HI23 := Lib.hid (HID.out w22.drew HB23.out)
 have hr9d : w22.drew.rangeAt w14.heap.size 0 (U iC.1) := id_rangeB HR23.out
 clear hr9 hr9b hr9c HI20 HBS HB20 HB21 HB22 HR20 HR21 HR22 HA20 HA21 HA22 HO20 HO21 HO22 HS22
 go_upto_region 15 with fail
 refine wp_region_noPanic ?_
 refine wp_region_held_drew (S := fun w' => w'.rangeAt w14.heap.size 0 (U iC.1)) (by kernel_rfl) hr9d (fun hHeld => ?_)
 refine wpAnyH_take (i := 0) (oi := { dst := some 88, op := Go.Op.move (Go.Operand.tmp 1), type := 25, pos := "law.go:88", after := #[], guard := none }) (v := .pointer (some ⟨a, 0, none⟩)) rfl (by kernel_rfl) ?_ ?_ ?_ ?_ hHeld ?_
 · kernel_rfl
 · kernel_rfl
 · exact fun _ _ _ h => h
 · exact Or.inl ⟨by rfl, fun w' _ => by go_simp⟩
 (try simp only [Act.put, List.setIfInBounds_toArray, List.set_cons_zero, List.set_cons_succ])
 refine wpAnyH_take (i := 1) (oi := { dst := some 89, op := Go.Op.move (Go.Operand.tmp 5), type := 35, pos := "law.go:88", after := #[], guard := none }) (v := .slice (some ⟨qg, 0, none⟩) lg lg) rfl (by kernel_rfl) ?_ ?_ ?_ ?_ hHeld ?_
 · kernel_rfl
 · kernel_rfl
 · exact fun _ _ _ h => h
 · exact Or.inl ⟨by rfl, fun w' _ => by go_simp⟩
 (try simp only [Act.put, List.setIfInBounds_toArray, List.set_cons_zero, List.set_cons_succ])
 refine wpAnyH_take (i := 3) (oi := { dst := some 91, op := Go.Op.load 30 (Go.Operand.tmp 9), type := 30, pos := "law.go:88", after := #[], guard := none }) (v := .agg ((U iC.1)).toArray) rfl (by kernel_rfl) ?_ ?_ ?_ ?_ hHeld ?_
 · kernel_rfl
 · kernel_rfl
 · exact fun _ _ _ h => h
 · exact yieldsIf_load_mid (by rfl) 30 (.tmp 9) rfl w14.heap.size 0 rfl (U iC.1) _ (fun w' h => h) hu30 rfl HZC.out
 (try simp only [Act.put, List.setIfInBounds_toArray, List.set_cons_zero, List.set_cons_succ])
 refine wpAnyH_ready (rs := [2]) (by kernel_rfl) (by simp) ?_
 refine AllReadyH.cons (o := { dst := some 90, op := Go.Op.call { callee := Go.Callee.value (Go.Operand.func 16), args := #[Go.Operand.tmp 89], argTypes := #[35] }, type := 30, pos := "law.go:88", after := #[{ on := 1, ground := Go.Ground.data }], guard := none }) rfl (fun K hK => ?_) AllReadyH.nil
 go_simp
 refine HI23.out.mono ?_
 rintro e w24 ⟨rfl, hb24⟩
 have HB24 : Hid (Below wx.heap.size wx w24) := HB23.out.trans (hb24.mono HB23.out.size)
 have HR24 := Lib.hid (HR23.out.below hb24 HR23.out.lt)
 have HA24 := Lib.hid (HA23.out.below hb24)
 have HO24 := Lib.hid (HO23.out.below hb24)
 have HS24 := Lib.hid (HS23.out.below hb24)
 have hr9e : w24.rangeAt w14.heap.size 0 (U iC.1) := id_rangeB HR24.out
 have HBF := Lib.hid (before_any w24 w.heap.size m a S3 Dx iG iC iC iC (HEX.out.to HB24.out) HGD.out F.out.hG ⟨F.out.hC.1, .inl F.out.hC.2⟩ F.out.eGC F.out.hC F.out.hC)
 unfold Hid at HBF
 rw [F.out.aH, decide_eq_true (show iC ∈ [iC] by simp)] at HBF
 replace HBF := Lib.hid HBF
 clear hb24
 refine hK.out _ _ hr9e (fun hHeld => ?_)
 clear hK K
 (try simp only [Act.put, List.setIfInBounds_toArray, List.set_cons_zero, List.set_cons_succ])
 refine wpAnyH_ready (rs := [4]) (by kernel_rfl) (by simp) ?_
 refine AllReadyH.cons (o := { dst := some 92, op := Go.Op.call { callee := Go.Callee.value (Go.Operand.func 12), args := #[Go.Operand.tmp 88, Go.Operand.tmp 90, Go.Operand.tmp 91], argTypes := #[25, 30, 30] }, type := 53, pos := "law.go:88", after := #[{ on := 0, ground := Go.Ground.data }, { on := 2, ground := Go.Ground.data }, { on := 3, ground := Go.Ground.data }, { on := 2, ground := Go.Ground.chain }], guard := none }) rfl (fun K hK => ?_) AllReadyH.nil
 go_simp
 refine HBF.out.mono ?_
 rintro e w25 ⟨rfl, hb25⟩
 have HB25 : Hid (Below wx.heap.size wx w25) := HB24.out.trans (hb25.mono HB24.out.size)
 have HR25 := Lib.hid (HR24.out.below hb25 HR24.out.lt)
 have HA25 := Lib.hid (HA24.out.below hb25)
 have HO25 := Lib.hid (HO24.out.below hb25)
 have HS25 := Lib.hid (HS24.out.below hb25)
 have hr9f : w25.rangeAt w14.heap.size 0 (U iC.1) := id_rangeB HR25.out
 clear hb25
 refine hK.out _ _ hr9f (fun hHeld => ?_)
 clear hK K
 (try simp only [Act.put, List.setIfInBounds_toArray, List.set_cons_zero, List.set_cons_succ])
 refine wpAnyH_take (i := 5) (oi := { dst := some 87, op := Go.Op.move (Go.Operand.tmp 92), type := 53, pos := "law.go:88", after := #[{ on := 4, ground := Go.Ground.data }], guard := none }) (v := .tuple #[.bool true, .int .i64 0]) rfl (by kernel_rfl) ?_ ?_ ?_ ?_ hHeld ?_
 · kernel_rfl
 · kernel_rfl
 · exact fun _ _ _ h => h
 · exact Or.inl ⟨by rfl, fun w' _ => by go_simp⟩
 (try simp only [Act.put, List.setIfInBounds_toArray, List.set_cons_zero, List.set_cons_succ])
 refine wpAnyH_take (i := 6) (oi := { dst := some 93, op := Go.Op.extract (Go.Operand.tmp 87) 0, type := 4, pos := "law.go:88", after := #[{ on := 5, ground := Go.Ground.data }], guard := none }) (v := .bool true) rfl (by kernel_rfl) ?_ ?_ ?_ ?_ hHeld ?_
 · kernel_rfl
 · kernel_rfl
 · exact fun _ _ _ h => h
 · exact Or.inl ⟨by rfl, fun w' _ => by go_simp⟩
 (try simp only [Act.put, List.setIfInBounds_toArray, List.set_cons_zero, List.set_cons_succ])
 refine wpAnyH_take (i := 7) (oi := { dst := some 94, op := Go.Op.extract (Go.Operand.tmp 87) 1, type := 31, pos := "law.go:88", after := #[{ on := 5, ground := Go.Ground.data }, { on := 8, ground := Go.Ground.gcOnly Go.Departure.lateStores }], guard := none }) (v := .int .i64 0) rfl (by kernel_rfl) ?_ ?_ ?_ ?_ hHeld ?_
 · kernel_rfl
 · kernel_rfl
 · exact fun _ _ _ h => h
 · exact Or.inl ⟨by rfl, fun w' _ => by go_simp⟩
 (try simp only [Act.put, List.setIfInBounds_toArray, List.set_cons_zero, List.set_cons_succ])
 refine wpAnyH_take (i := 8) (oi := { dst := some 17, op := Go.Op.assign (Go.Operand.tmp 93), type := 4, pos := "law.go:88", after := #[{ on := 6, ground := Go.Ground.data }, { on := 4, ground := Go.Ground.chain }, { on := 0, ground := Go.Ground.phase }, { on := 1, ground := Go.Ground.phase }, { on := 2, ground := Go.Ground.phase }, { on := 3, ground := Go.Ground.phase }, { on := 4, ground := Go.Ground.phase }, { on := 5, ground := Go.Ground.phase }, { on := 6, ground := Go.Ground.phase }, { on := 7, ground := Go.Ground.textOnly Go.Departure.lateStores }], guard := none }) (v := .bool true) rfl (by kernel_rfl) ?_ ?_ ?_ ?_ hHeld ?_
 · kernel_rfl
 · kernel_rfl
 · exact fun _ _ _ h => h
 · exact Or.inl ⟨by rfl, fun w' _ => by go_simp⟩
 (try simp only [Act.put, List.setIfInBounds_toArray, List.set_cons_zero, List.set_cons_succ])
 refine wpAnyH_take (i := 9) (oi := { dst := some 18, op := Go.Op.assign (Go.Operand.tmp 94), type := 31, pos := "law.go:88", after := #[{ on := 7, ground := Go.Ground.data }, { on := 8, ground := Go.Ground.chain }, { on := 0, ground := Go.Ground.phase }, { on := 1, ground := Go.Ground.phase }, { on := 2, ground := Go.Ground.phase }, { on := 3, ground := Go.Ground.phase }, { on := 4, ground := Go.Ground.phase }, { on := 5, ground := Go.Ground.phase }, { on := 6, ground := Go.Ground.phase }, { on := 7, ground := Go.Ground.phase }, { on := 8, ground := Go.Ground.phase }], guard := none }) (v := .int .i64 0) rfl (by kernel_rfl) ?_ ?_ ?_ ?_ hHeld ?_
 · kernel_rfl
 · kernel_rfl
 · exact fun _ _ _ h => h
 · exact Or.inl ⟨by rfl, fun w' _ => by go_simp⟩
 (try simp only [Act.put, List.setIfInBounds_toArray, List.set_cons_zero, List.set_cons_succ])
 refine wpAnyH_done (by kernel_rfl) ?_ _
 refine NoPanic.normal ?_
 clear hr9d hr9e hr9f HI23 HBF HB23 HB24 HR23 HR24 HA23 HA24 HO23 HO24 HS23 HS24 HRG HIL HID HEX HGD
 have HNU := Lib.hid num0
 go_wp2_with fail
 refine (HNU.out _).mono ?_
 rintro e wn ⟨rfl, rfl⟩
 go_wp2_with fail
 refine (HNU.out _).mono ?_
 rintro e wn ⟨rfl, rfl⟩
 go_wp2_with fail
 refine (HNU.out _).mono ?_
 rintro e wn ⟨rfl, rfl⟩
 go_wp2_with fail
 refine (HNU.out _).mono ?_
 rintro e wn ⟨rfl, rfl⟩
 go_wp2_with fail
 refine (HNU.out _).mono ?_
 rintro e wn ⟨rfl, rfl⟩
 go_wp2_with fail
 refine (HNU.out _).mono ?_
 rintro e wn ⟨rfl, rfl⟩
 obtain ⟨q2, o2, rfl, hq2, ha2⟩ : ∃ q o, A2 = some ⟨q, o, none⟩ ∧ q < w25.heap.size ∧ w25.rangeAt q o (IdsU [iC]) := by
  rcases HA25.out with h | h
  · cases h
  · exact h
 obtain ⟨q3, o3, rfl, hq3, ha3⟩ : ∃ q o, A3 = some ⟨q, o, none⟩ ∧ q < w25.heap.size ∧ w25.rangeAt q o (IdsU [iC]) := by
  rcases HO25.out with h | h
  · cases h
  · exact h
 obtain ⟨q4, o4, rfl, hq4, ha4⟩ : ∃ q o, A4 = some ⟨q, o, none⟩ ∧ q < w25.heap.size ∧ w25.rangeAt q o (IdsU [iC]) := by
  rcases HS25.out with h | h
  · cases h
  · exact h
 have eC : IdsU [iC] = U iC.1 := by simp [IdsU]
 rw [eC] at ha2 ha3 ha4
 have HRS : Hid (w25.drew.rangeAt w14.heap.size 0 (U iC.1) ∧ w25.drew.rangeAt q2 o2 (U iC.1) ∧ w25.drew.rangeAt q3 o3 (U iC.1) ∧ w25.drew.rangeAt q4 o4 (U iC.1)) := ⟨id_rangeB HR25.out.drew, ha2, ha3, ha4⟩
 have HQ := Lib.hid (And.intro hq2 (And.intro hq3 hq4))
 have HB26 : Hid (Below wx.heap.size wx w25.drew) := HB25.out.drew
 have HI26 := Lib.hid (HIC.out w25.drew HB26.out)
 have HR26 : Hid (Blk w25.drew w14.heap.size 30 (U iC.1).toArray) := HR25.out.drew
 clear ha2 ha3 ha4 eC hq2 hq3 hq4 HA25 HO25 HS25 HR25 HB25 HNU
 go_upto_region 17 with fail
 refine wp_region_noPanic ?_
 refine wp_region_held_drew (S := fun w' => w'.rangeAt w14.heap.size 0 (U iC.1) ∧ w'.rangeAt q2 o2 (U iC.1) ∧ w'.rangeAt q3 o3 (U iC.1) ∧ w'.rangeAt q4 o4 (U iC.1)) (by kernel_rfl) HRS.out (fun hHeld => ?_)
 refine wpAnyH_take (i := 0) (oi := { dst := some 123, op := Go.Op.move (Go.Operand.tmp 19), type := 4, pos := "law.go:90", after := #[], guard := none }) (v := .bool true) rfl (by kernel_rfl) ?_ ?_ ?_ ?_ hHeld ?_
 · kernel_rfl
 · kernel_rfl
 · exact fun _ _ _ h => h
 · exact Or.inl ⟨by rfl, fun w' _ => by go_simp⟩
 (try simp only [Act.put, List.setIfInBounds_toArray, List.set_cons_zero, List.set_cons_succ])
 refine wpAnyH_take (i := 1) (oi := { dst := some 124, op := Go.Op.move (Go.Operand.tmp 123), type := 4, pos := "law.go:90", after := #[{ on := 0, ground := Go.Ground.data }], guard := none }) (v := .bool true) rfl (by kernel_rfl) ?_ ?_ ?_ ?_ hHeld ?_
 · kernel_rfl
 · kernel_rfl
 · exact fun _ _ _ h => h
 · exact Or.inl ⟨by rfl, fun w' _ => by go_simp⟩
 (try simp only [Act.put, List.setIfInBounds_toArray, List.set_cons_zero, List.set_cons_succ])
 refine wpAnyH_take (i := 2) (oi := { dst := some 125, op := Go.Op.move (Go.Operand.tmp 17), type := 4, pos := "law.go:90", after := #[{ on := 1, ground := Go.Ground.guard }], guard := some (1, true) }) (v := .bool true) rfl (by kernel_rfl) ?_ ?_ ?_ ?_ hHeld ?_
 · kernel_rfl
 · kernel_rfl
 · exact fun _ _ _ h => h
 · exact Or.inl ⟨by rfl, fun w' _ => by go_simp⟩
 (try simp only [Act.put, List.setIfInBounds_toArray, List.set_cons_zero, List.set_cons_succ])
 refine wpAnyH_take (i := 3) (oi := { dst := some 126, op := Go.Op.pick (Go.Operand.tmp 124) (Go.Operand.tmp 125) (Go.Operand.const (Go.Value.bool false)), type := 4, pos := "law.go:90", after := #[{ on := 1, ground := Go.Ground.data }, { on := 2, ground := Go.Ground.data }], guard := none }) (v := .bool true) rfl (by kernel_rfl) ?_ ?_ ?_ ?_ hHeld ?_
 · kernel_rfl
 · kernel_rfl
 · exact fun _ _ _ h => h
 · exact Or.inl ⟨by rfl, fun w' _ => by go_simp⟩
 (try simp only [Act.put, List.setIfInBounds_toArray, List.set_cons_zero, List.set_cons_succ])
 refine wpAnyH_take (i := 4) (oi := { dst := some 127, op := Go.Op.move (Go.Operand.tmp 126), type := 4, pos := "law.go:90", after := #[{ on := 3, ground := Go.Ground.data }, { on := 1, ground := Go.Ground.chain }], guard := none }) (v := .bool true) rfl (by kernel_rfl) ?_ ?_ ?_ ?_ hHeld ?_
 · kernel_rfl
 · kernel_rfl
 · exact fun _ _ _ h => h
 · exact Or.inl ⟨by rfl, fun w' _ => by go_simp⟩
 (try simp only [Act.put, List.setIfInBounds_toArray, List.set_cons_zero, List.set_cons_succ])
 refine wpAnyH_take (i := 5) (oi := { dst := some 128, op := Go.Op.move (Go.Operand.tmp 7), type := 28, pos := "law.go:90", after := #[{ on := 4, ground := Go.Ground.guard }], guard := some (4, true) }) (v := .slice A1 3 k1) rfl (by kernel_rfl) ?_ ?_ ?_ ?_ hHeld ?_
 · kernel_rfl
 · kernel_rfl
 · exact fun _ _ _ h => h
 · exact Or.inl ⟨by rfl, fun w' _ => by go_simp⟩
 (try simp only [Act.put, List.setIfInBounds_toArray, List.set_cons_zero, List.set_cons_succ])
 refine wpAnyH_take (i := 6) (oi := { dst := some 129, op := Go.Op.call { callee := Go.Callee.builtin Go.Builtin.len, args := #[Go.Operand.tmp 128], argTypes := #[28] }, type := 3, pos := "law.go:90", after := #[{ on := 5, ground := Go.Ground.data }, { on := 4, ground := Go.Ground.guard }], guard := some (4, true) }) (v := .int .i64 3) rfl (by kernel_rfl) ?_ ?_ ?_ ?_ hHeld ?_
 · kernel_rfl
 · kernel_rfl
 · exact fun _ _ _ h => h
 · exact Or.inl ⟨by rfl, fun w' _ => by go_simp⟩
 (try simp only [Act.put, List.setIfInBounds_toArray, List.set_cons_zero, List.set_cons_succ])
 refine wpAnyH_take (i := 7) (oi := { dst := some 130, op := Go.Op.binOp Go.BinOp.eql 3 (Go.Operand.tmp 129) (Go.Operand.const (Go.Value.int Go.IntKind.i64 3)) 3, type := 4, pos := "law.go:90", after := #[{ on := 6, ground := Go.Ground.data }, { on := 4, ground := Go.Ground.guard }], guard := some (4, true) }) (v := .bool true) rfl (by kernel_rfl) ?_ ?_ ?_ ?_ hHeld ?_
 · kernel_rfl
 · kernel_rfl
 · exact fun _ _ _ h => h
 · exact Or.inl ⟨by rfl, fun w' _ => by go_simp⟩
 (try simp only [Act.put, List.setIfInBounds_toArray, List.set_cons_zero, List.set_cons_succ])
 refine wpAnyH_take (i := 8) (oi := { dst := some 131, op := Go.Op.pick (Go.Operand.tmp 127) (Go.Operand.tmp 130) (Go.Operand.const (Go.Value.bool false)), type := 4, pos := "law.go:90", after := #[{ on := 4, ground := Go.Ground.data }, { on := 7, ground := Go.Ground.data }], guard := none }) (v := .bool true) rfl (by kernel_rfl) ?_ ?_ ?_ ?_ hHeld ?_
 · kernel_rfl
 · kernel_rfl
 · exact fun _ _ _ h => h
 · exact Or.inl ⟨by rfl, fun w' _ => by go_simp⟩
 (try simp only [Act.put, List.setIfInBounds_toArray, List.set_cons_zero, List.set_cons_succ])
 refine wpAnyH_take (i := 9) (oi := { dst := some 132, op := Go.Op.move (Go.Operand.tmp 131), type := 4, pos := "law.go:90", after := #[{ on := 8, ground := Go.Ground.data }, { on := 4, ground := Go.Ground.chain }], guard := none }) (v := .bool true) rfl (by kernel_rfl) ?_ ?_ ?_ ?_ hHeld ?_
 · kernel_rfl
 · kernel_rfl
 · exact fun _ _ _ h => h
 · exact Or.inl ⟨by rfl, fun w' _ => by go_simp⟩
 (try simp only [Act.put, List.setIfInBounds_toArray, List.set_cons_zero, List.set_cons_succ])
 refine wpAnyH_take (i := 10) (oi := { dst := some 133, op := Go.Op.load 30 (Go.Operand.tmp 9), type := 30, pos := "law.go:90", after := #[{ on := 9, ground := Go.Ground.guard }], guard := some (9, true) }) (v := .agg ((U iC.1)).toArray) rfl (by kernel_rfl) ?_ ?_ ?_ ?_ hHeld ?_
 · kernel_rfl
 · kernel_rfl
 · exact fun _ _ _ h => h
 · exact yieldsIf_load_mid (by rfl) 30 (.tmp 9) rfl w14.heap.size 0 rfl (U iC.1) _ (fun w' h => h.1) hu30 rfl HZC.out
 (try simp only [Act.put, List.setIfInBounds_toArray, List.set_cons_zero, List.set_cons_succ])
 refine wpAnyH_take (i := 11) (oi := { dst := some 134, op := Go.Op.move (Go.Operand.tmp 3), type := 35, pos := "law.go:90", after := #[{ on := 9, ground := Go.Ground.guard }], guard := some (9, true) }) (v := .slice (some ⟨qc, 0, none⟩) lc lc) rfl (by kernel_rfl) ?_ ?_ ?_ ?_ hHeld ?_
 · kernel_rfl
 · kernel_rfl
 · exact fun _ _ _ h => h
 · exact Or.inl ⟨by rfl, fun w' _ => by go_simp⟩
 (try simp only [Act.put, List.setIfInBounds_toArray, List.set_cons_zero, List.set_cons_succ])
 refine wpAnyH_ready (rs := [12]) (by kernel_rfl) (by simp) ?_
 refine AllReadyH.cons (o := { dst := some 135, op := Go.Op.call { callee := Go.Callee.value (Go.Operand.func 16), args := #[Go.Operand.tmp 134], argTypes := #[35] }, type := 30, pos := "law.go:90", after := #[{ on := 11, ground := Go.Ground.data }, { on := 9, ground := Go.Ground.chain }, { on := 9, ground := Go.Ground.guard }], guard := some (9, true) }) rfl (fun K hK => ?_) AllReadyH.nil
 go_simp
 refine HI26.out.mono ?_
 rintro e w27 ⟨rfl, hb27⟩
 have hS27 : w27.rangeAt w14.heap.size 0 (U iC.1) ∧ w27.rangeAt q2 o2 (U iC.1) ∧ w27.rangeAt q3 o3 (U iC.1) ∧ w27.rangeAt q4 o4 (U iC.1) := ⟨rangeAt_below HRS.out.1 hb27 HR26.out.lt, rangeAt_below HRS.out.2.1 hb27 HQ.out.1, rangeAt_below HRS.out.2.2.1 hb27 HQ.out.2.1, rangeAt_below HRS.out.2.2.2 hb27 HQ.out.2.2⟩
 have HF : Hid (Below w.heap.size w w27) := (HBX.out.trans (HB26.out.mono HBX.out.size)).trans (hb27.mono (HBX.out.trans (HB26.out.mono HBX.out.size)).size)
 clear hb27
 refine hK.out _ _ hS27 (fun hHeld => ?_)
 clear hK K
 (try simp only [Act.put, List.setIfInBounds_toArray, List.set_cons_zero, List.set_cons_succ])
 refine wpAnyH_take (i := 13) (oi := { dst := some 136, op := Go.Op.binOp Go.BinOp.eql 30 (Go.Operand.tmp 133) (Go.Operand.tmp 135) 30, type := 4, pos := "law.go:90", after := #[{ on := 10, ground := Go.Ground.data }, { on := 12, ground := Go.Ground.data }, { on := 9, ground := Go.Ground.guard }], guard := some (9, true) }) (v := .bool true) rfl (by kernel_rfl) ?_ ?_ ?_ ?_ hHeld ?_
 · kernel_rfl
 · kernel_rfl
 · exact fun _ _ _ h => h
 · exact Or.inl ⟨by rfl, fun w' _ => by have h := eq_id iC w'; go_simp⟩
 (try simp only [Act.put, List.setIfInBounds_toArray, List.set_cons_zero, List.set_cons_succ])
 refine wpAnyH_take (i := 14) (oi := { dst := some 137, op := Go.Op.pick (Go.Operand.tmp 132) (Go.Operand.tmp 136) (Go.Operand.const (Go.Value.bool false)), type := 4, pos := "law.go:90", after := #[{ on := 9, ground := Go.Ground.data }, { on := 13, ground := Go.Ground.data }], guard := none }) (v := .bool true) rfl (by kernel_rfl) ?_ ?_ ?_ ?_ hHeld ?_
 · kernel_rfl
 · kernel_rfl
 · exact fun _ _ _ h => h
 · exact Or.inl ⟨by rfl, fun w' _ => by go_simp⟩
 (try simp only [Act.put, List.setIfInBounds_toArray, List.set_cons_zero, List.set_cons_succ])
 refine wpAnyH_take (i := 15) (oi := { dst := some 138, op := Go.Op.move (Go.Operand.tmp 137), type := 4, pos := "law.go:90", after := #[{ on := 14, ground := Go.Ground.data }, { on := 12, ground := Go.Ground.chain }], guard := none }) (v := .bool true) rfl (by kernel_rfl) ?_ ?_ ?_ ?_ hHeld ?_
 · kernel_rfl
 · kernel_rfl
 · exact fun _ _ _ h => h
 · exact Or.inl ⟨by rfl, fun w' _ => by go_simp⟩
 (try simp only [Act.put, List.setIfInBounds_toArray, List.set_cons_zero, List.set_cons_succ])
 refine wpAnyH_take (i := 16) (oi := { dst := some 139, op := Go.Op.move (Go.Operand.tmp 11), type := 28, pos := "law.go:90", after := #[{ on := 15, ground := Go.Ground.guard }], guard := some (15, true) }) (v := .slice (some ⟨q2, o2, none⟩) 1 k2) rfl (by kernel_rfl) ?_ ?_ ?_ ?_ hHeld ?_
 · kernel_rfl
 · kernel_rfl
 · exact fun _ _ _ h => h
 · exact Or.inl ⟨by rfl, fun w' _ => by go_simp⟩
 (try simp only [Act.put, List.setIfInBounds_toArray, List.set_cons_zero, List.set_cons_succ])
 refine wpAnyH_take (i := 17) (oi := { dst := some 140, op := Go.Op.call { callee := Go.Callee.builtin Go.Builtin.len, args := #[Go.Operand.tmp 139], argTypes := #[28] }, type := 3, pos := "law.go:90", after := #[{ on := 16, ground := Go.Ground.data }, { on := 15, ground := Go.Ground.guard }], guard := some (15, true) }) (v := .int .i64 1) rfl (by kernel_rfl) ?_ ?_ ?_ ?_ hHeld ?_
 · kernel_rfl
 · kernel_rfl
 · exact fun _ _ _ h => h
 · exact Or.inl ⟨by rfl, fun w' _ => by go_simp⟩
 (try simp only [Act.put, List.setIfInBounds_toArray, List.set_cons_zero, List.set_cons_succ])
 refine wpAnyH_take (i := 18) (oi := { dst := some 141, op := Go.Op.binOp Go.BinOp.eql 3 (Go.Operand.tmp 140) (Go.Operand.const (Go.Value.int Go.IntKind.i64 1)) 3, type := 4, pos := "law.go:90", after := #[{ on := 17, ground := Go.Ground.data }, { on := 15, ground := Go.Ground.guard }], guard := some (15, true) }) (v := .bool true) rfl (by kernel_rfl) ?_ ?_ ?_ ?_ hHeld ?_
 · kernel_rfl
 · kernel_rfl
 · exact fun _ _ _ h => h
 · exact Or.inl ⟨by rfl, fun w' _ => by go_simp⟩
 (try simp only [Act.put, List.setIfInBounds_toArray, List.set_cons_zero, List.set_cons_succ])
 refine wpAnyH_take (i := 19) (oi := { dst := some 142, op := Go.Op.pick (Go.Operand.tmp 138) (Go.Operand.tmp 141) (Go.Operand.const (Go.Value.bool false)), type := 4, pos := "law.go:90", after := #[{ on := 15, ground := Go.Ground.data }, { on := 18, ground := Go.Ground.data }], guard := none }) (v := .bool true) rfl (by kernel_rfl) ?_ ?_ ?_ ?_ hHeld ?_
 · kernel_rfl
 · kernel_rfl
 · exact fun _ _ _ h => h
 · exact Or.inl ⟨by rfl, fun w' _ => by go_simp⟩
 (try simp only [Act.put, List.setIfInBounds_toArray, List.set_cons_zero, List.set_cons_succ])
 refine wpAnyH_take (i := 20) (oi := { dst := some 143, op := Go.Op.move (Go.Operand.tmp 142), type := 4, pos := "law.go:90", after := #[{ on := 19, ground := Go.Ground.data }, { on := 15, ground := Go.Ground.chain }], guard := none }) (v := .bool true) rfl (by kernel_rfl) ?_ ?_ ?_ ?_ hHeld ?_
 · kernel_rfl
 · kernel_rfl
 · exact fun _ _ _ h => h
 · exact Or.inl ⟨by rfl, fun w' _ => by go_simp⟩
 (try simp only [Act.put, List.setIfInBounds_toArray, List.set_cons_zero, List.set_cons_succ])
 refine wpAnyH_take (i := 21) (oi := { dst := some 144, op := Go.Op.move (Go.Operand.tmp 11), type := 28, pos := "law.go:90", after := #[{ on := 20, ground := Go.Ground.guard }], guard := some (20, true) }) (v := .slice (some ⟨q2, o2, none⟩) 1 k2) rfl (by kernel_rfl) ?_ ?_ ?_ ?_ hHeld ?_
 · kernel_rfl
 · kernel_rfl
 · exact fun _ _ _ h => h
 · exact Or.inl ⟨by rfl, fun w' _ => by go_simp⟩
 (try simp only [Act.put, List.setIfInBounds_toArray, List.set_cons_zero, List.set_cons_succ])
 refine wpAnyH_take (i := 22) (oi := { dst := some 145, op := Go.Op.indexAddr 28 (Go.Operand.tmp 144) (Go.Operand.const (Go.Value.int Go.IntKind.i64 0)), type := 0, pos := "law.go:90", after := #[{ on := 21, ground := Go.Ground.data }, { on := 20, ground := Go.Ground.guard }], guard := some (20, true) }) (v := .pointer (some ⟨q2, o2, none⟩)) rfl (by kernel_rfl) ?_ ?_ ?_ ?_ hHeld ?_
 · kernel_rfl
 · kernel_rfl
 · exact fun _ _ _ h => h
 · exact Or.inl ⟨by rfl, fun w' _ => by go_simp⟩
 (try simp only [Act.put, List.setIfInBounds_toArray, List.set_cons_zero, List.set_cons_succ])
 refine wpAnyH_take (i := 23) (oi := { dst := some 146, op := Go.Op.load 30 (Go.Operand.tmp 145), type := 30, pos := "law.go:90", after := #[{ on := 22, ground := Go.Ground.data }, { on := 20, ground := Go.Ground.guard }], guard := some (20, true) }) (v := .agg ((U iC.1)).toArray) rfl (by kernel_rfl) ?_ ?_ ?_ ?_ hHeld ?_
 · kernel_rfl
 · kernel_rfl
 · exact fun _ _ _ h => h
 · exact yieldsIf_load_mid (by rfl) 30 (.tmp 145) rfl q2 o2 rfl (U iC.1) _ (fun w' h => h.2.1) hu30 rfl HZC.out
 (try simp only [Act.put, List.setIfInBounds_toArray, List.set_cons_zero, List.set_cons_succ])
 refine wpAnyH_take (i := 24) (oi := { dst := some 147, op := Go.Op.load 30 (Go.Operand.tmp 9), type := 30, pos := "law.go:90", after := #[{ on := 20, ground := Go.Ground.guard }], guard := some (20, true) }) (v := .agg ((U iC.1)).toArray) rfl (by kernel_rfl) ?_ ?_ ?_ ?_ hHeld ?_
 · kernel_rfl
 · kernel_rfl
 · exact fun _ _ _ h => h
 · exact yieldsIf_load_mid (by rfl) 30 (.tmp 9) rfl w14.heap.size 0 rfl (U iC.1) _ (fun w' h => h.1) hu30 rfl HZC.out
 (try simp only [Act.put, List.setIfInBounds_toArray, List.set_cons_zero, List.set_cons_succ])
 refine wpAnyH_take (i := 25) (oi := { dst := some 148, op := Go.Op.binOp Go.BinOp.eql 30 (Go.Operand.tmp 146) (Go.Operand.tmp 147) 30, type := 4, pos := "law.go:90", after := #[{ on := 23, ground := Go.Ground.data }, { on := 24, ground := Go.Ground.data }, { on := 20, ground := Go.Ground.guard }], guard := some (20, true) }) (v := .bool true) rfl (by kernel_rfl) ?_ ?_ ?_ ?_ hHeld ?_
 · kernel_rfl
 · kernel_rfl
 · exact fun _ _ _ h => h
 · exact Or.inl ⟨by rfl, fun w' _ => by have h := eq_id iC w'; go_simp⟩
 (try simp only [Act.put, List.setIfInBounds_toArray, List.set_cons_zero, List.set_cons_succ])
 refine wpAnyH_take (i := 26) (oi := { dst := some 149, op := Go.Op.pick (Go.Operand.tmp 143) (Go.Operand.tmp 148) (Go.Operand.const (Go.Value.bool false)), type := 4, pos := "law.go:90", after := #[{ on := 20, ground := Go.Ground.data }, { on := 25, ground := Go.Ground.data }], guard := none }) (v := .bool true) rfl (by kernel_rfl) ?_ ?_ ?_ ?_ hHeld ?_
 · kernel_rfl
 · kernel_rfl
 · exact fun _ _ _ h => h
 · exact Or.inl ⟨by rfl, fun w' _ => by go_simp⟩
 (try simp only [Act.put, List.setIfInBounds_toArray, List.set_cons_zero, List.set_cons_succ])
 refine wpAnyH_take (i := 27) (oi := { dst := some 150, op := Go.Op.move (Go.Operand.tmp 149), type := 4, pos := "law.go:90", after := #[{ on := 26, ground := Go.Ground.data }, { on := 20, ground := Go.Ground.chain }], guard := none }) (v := .bool true) rfl (by kernel_rfl) ?_ ?_ ?_ ?_ hHeld ?_
 · kernel_rfl
 · kernel_rfl
 · exact fun _ _ _ h => h
 · exact Or.inl ⟨by rfl, fun w' _ => by go_simp⟩
 (try simp only [Act.put, List.setIfInBounds_toArray, List.set_cons_zero, List.set_cons_succ])
 refine wpAnyH_take (i := 28) (oi := { dst := some 151, op := Go.Op.move (Go.Operand.tmp 13), type := 28, pos := "law.go:90", after := #[{ on := 27, ground := Go.Ground.guard }], guard := some (27, true) }) (v := .slice (some ⟨q3, o3, none⟩) 1 k3) rfl (by kernel_rfl) ?_ ?_ ?_ ?_ hHeld ?_
 · kernel_rfl
 · kernel_rfl
 · exact fun _ _ _ h => h
 · exact Or.inl ⟨by rfl, fun w' _ => by go_simp⟩
 (try simp only [Act.put, List.setIfInBounds_toArray, List.set_cons_zero, List.set_cons_succ])
 refine wpAnyH_take (i := 29) (oi := { dst := some 152, op := Go.Op.call { callee := Go.Callee.builtin Go.Builtin.len, args := #[Go.Operand.tmp 151], argTypes := #[28] }, type := 3, pos := "law.go:90", after := #[{ on := 28, ground := Go.Ground.data }, { on := 27, ground := Go.Ground.guard }], guard := some (27, true) }) (v := .int .i64 1) rfl (by kernel_rfl) ?_ ?_ ?_ ?_ hHeld ?_
 · kernel_rfl
 · kernel_rfl
 · exact fun _ _ _ h => h
 · exact Or.inl ⟨by rfl, fun w' _ => by go_simp⟩
 (try simp only [Act.put, List.setIfInBounds_toArray, List.set_cons_zero, List.set_cons_succ])
 refine wpAnyH_take (i := 30) (oi := { dst := some 153, op := Go.Op.binOp Go.BinOp.eql 3 (Go.Operand.tmp 152) (Go.Operand.const (Go.Value.int Go.IntKind.i64 1)) 3, type := 4, pos := "law.go:90", after := #[{ on := 29, ground := Go.Ground.data }, { on := 27, ground := Go.Ground.guard }], guard := some (27, true) }) (v := .bool true) rfl (by kernel_rfl) ?_ ?_ ?_ ?_ hHeld ?_
 · kernel_rfl
 · kernel_rfl
 · exact fun _ _ _ h => h
 · exact Or.inl ⟨by rfl, fun w' _ => by go_simp⟩
 (try simp only [Act.put, List.setIfInBounds_toArray, List.set_cons_zero, List.set_cons_succ])
 refine wpAnyH_take (i := 31) (oi := { dst := some 154, op := Go.Op.pick (Go.Operand.tmp 150) (Go.Operand.tmp 153) (Go.Operand.const (Go.Value.bool false)), type := 4, pos := "law.go:90", after := #[{ on := 27, ground := Go.Ground.data }, { on := 30, ground := Go.Ground.data }], guard := none }) (v := .bool true) rfl (by kernel_rfl) ?_ ?_ ?_ ?_ hHeld ?_
 · kernel_rfl
 · kernel_rfl
 · exact fun _ _ _ h => h
 · exact Or.inl ⟨by rfl, fun w' _ => by go_simp⟩
 (try simp only [Act.put, List.setIfInBounds_toArray, List.set_cons_zero, List.set_cons_succ])
 refine wpAnyH_take (i := 32) (oi := { dst := some 155, op := Go.Op.move (Go.Operand.tmp 154), type := 4, pos := "law.go:90", after := #[{ on := 31, ground := Go.Ground.data }, { on := 27, ground := Go.Ground.chain }], guard := none }) (v := .bool true) rfl (by kernel_rfl) ?_ ?_ ?_ ?_ hHeld ?_
 · kernel_rfl
 · kernel_rfl
 · exact fun _ _ _ h => h
 · exact Or.inl ⟨by rfl, fun w' _ => by go_simp⟩
 (try simp only [Act.put, List.setIfInBounds_toArray, List.set_cons_zero, List.set_cons_succ])
 refine wpAnyH_take (i := 33) (oi := { dst := some 156, op := Go.Op.move (Go.Operand.tmp 13), type := 28, pos := "law.go:90", after := #[{ on := 32, ground := Go.Ground.guard }], guard := some (32, true) }) (v := .slice (some ⟨q3, o3, none⟩) 1 k3) rfl (by kernel_rfl) ?_ ?_ ?_ ?_ hHeld ?_
 · kernel_rfl
 · kernel_rfl
 · exact fun _ _ _ h => h
 · exact Or.inl ⟨by rfl, fun w' _ => by go_simp⟩
 (try simp only [Act.put, List.setIfInBounds_toArray, List.set_cons_zero, List.set_cons_succ])
 refine wpAnyH_take (i := 34) (oi := { dst := some 157, op := Go.Op.indexAddr 28 (Go.Operand.tmp 156) (Go.Operand.const (Go.Value.int Go.IntKind.i64 0)), type := 0, pos := "law.go:90", after := #[{ on := 33, ground := Go.Ground.data }, { on := 32, ground := Go.Ground.guard }], guard := some (32, true) }) (v := .pointer (some ⟨q3, o3, none⟩)) rfl (by kernel_rfl) ?_ ?_ ?_ ?_ hHeld ?_
 · kernel_rfl
 · kernel_rfl
 · exact fun _ _ _ h => h
 · exact Or.inl ⟨by rfl, fun w' _ => by go_simp⟩
 (try simp only [Act.put, List.setIfInBounds_toArray, List.set_cons_zero, List.set_cons_succ])
 refine wpAnyH_take (i := 35) (oi := { dst := some 158, op := Go.Op.load 30 (Go.Operand.tmp 157), type := 30, pos := "law.go:90", after := #[{ on := 34, ground := Go.Ground.data }, { on := 32, ground := Go.Ground.guard }], guard := some (32, true) }) (v := .agg ((U iC.1)).toArray) rfl (by kernel_rfl) ?_ ?_ ?_ ?_ hHeld ?_
 · kernel_rfl
 · kernel_rfl
 · exact fun _ _ _ h => h
 · exact yieldsIf_load_mid (by rfl) 30 (.tmp 157) rfl q3 o3 rfl (U iC.1) _ (fun w' h => h.2.2.1) hu30 rfl HZC.out
 (try simp only [Act.put, List.setIfInBounds_toArray, List.set_cons_zero, List.set_cons_succ])
 refine wpAnyH_take (i := 36) (oi := { dst := some 159, op := Go.Op.load 30 (Go.Operand.tmp 9), type := 30, pos := "law.go:90", after := #[{ on := 32, ground := Go.Ground.guard }], guard := some (32, true) }) (v := .agg ((U iC.1)).toArray) rfl (by kernel_rfl) ?_ ?_ ?_ ?_ hHeld ?_
 · kernel_rfl
 · kernel_rfl
 · exact fun _ _ _ h => h
 · exact yieldsIf_load_mid (by rfl) 30 (.tmp 9) rfl w14.heap.size 0 rfl (U iC.1) _ (fun w' h => h.1) hu30 rfl HZC.out
 (try simp only [Act.put, List.setIfInBounds_toArray, List.set_cons_zero, List.set_cons_succ])
 refine wpAnyH_take (i := 37) (oi := { dst := some 160, op := Go.Op.binOp Go.BinOp.eql 30 (Go.Operand.tmp 158) (Go.Operand.tmp 159) 30, type := 4, pos := "law.go:90", after := #[{ on := 35, ground := Go.Ground.data }, { on := 36, ground := Go.Ground.data }, { on := 32, ground := Go.Ground.guard }], guard := some (32, true) }) (v := .bool true) rfl (by kernel_rfl) ?_ ?_ ?_ ?_ hHeld ?_
 · kernel_rfl
 · kernel_rfl
 · exact fun _ _ _ h => h
 · exact Or.inl ⟨by rfl, fun w' _ => by have h := eq_id iC w'; go_simp⟩
 (try simp only [Act.put, List.setIfInBounds_toArray, List.set_cons_zero, List.set_cons_succ])
 refine wpAnyH_take (i := 38) (oi := { dst := some 161, op := Go.Op.pick (Go.Operand.tmp 155) (Go.Operand.tmp 160) (Go.Operand.const (Go.Value.bool false)), type := 4, pos := "law.go:90", after := #[{ on := 32, ground := Go.Ground.data }, { on := 37, ground := Go.Ground.data }], guard := none }) (v := .bool true) rfl (by kernel_rfl) ?_ ?_ ?_ ?_ hHeld ?_
 · kernel_rfl
 · kernel_rfl
 · exact fun _ _ _ h => h
 · exact Or.inl ⟨by rfl, fun w' _ => by go_simp⟩
 (try simp only [Act.put, List.setIfInBounds_toArray, List.set_cons_zero, List.set_cons_succ])
 refine wpAnyH_take (i := 39) (oi := { dst := some 162, op := Go.Op.move (Go.Operand.tmp 161), type := 4, pos := "law.go:90", after := #[{ on := 38, ground := Go.Ground.data }, { on := 32, ground := Go.Ground.chain }], guard := none }) (v := .bool true) rfl (by kernel_rfl) ?_ ?_ ?_ ?_ hHeld ?_
 · kernel_rfl
 · kernel_rfl
 · exact fun _ _ _ h => h
 · exact Or.inl ⟨by rfl, fun w' _ => by go_simp⟩
 (try simp only [Act.put, List.setIfInBounds_toArray, List.set_cons_zero, List.set_cons_succ])
 refine wpAnyH_take (i := 40) (oi := { dst := some 163, op := Go.Op.move (Go.Operand.tmp 15), type := 28, pos := "law.go:90", after := #[{ on := 39, ground := Go.Ground.guard }], guard := some (39, true) }) (v := .slice (some ⟨q4, o4, none⟩) 1 k4) rfl (by kernel_rfl) ?_ ?_ ?_ ?_ hHeld ?_
 · kernel_rfl
 · kernel_rfl
 · exact fun _ _ _ h => h
 · exact Or.inl ⟨by rfl, fun w' _ => by go_simp⟩
 (try simp only [Act.put, List.setIfInBounds_toArray, List.set_cons_zero, List.set_cons_succ])
 refine wpAnyH_take (i := 41) (oi := { dst := some 164, op := Go.Op.call { callee := Go.Callee.builtin Go.Builtin.len, args := #[Go.Operand.tmp 163], argTypes := #[28] }, type := 3, pos := "law.go:90", after := #[{ on := 40, ground := Go.Ground.data }, { on := 39, ground := Go.Ground.guard }], guard := some (39, true) }) (v := .int .i64 1) rfl (by kernel_rfl) ?_ ?_ ?_ ?_ hHeld ?_
 · kernel_rfl
 · kernel_rfl
 · exact fun _ _ _ h => h
 · exact Or.inl ⟨by rfl, fun w' _ => by go_simp⟩
 (try simp only [Act.put, List.setIfInBounds_toArray, List.set_cons_zero, List.set_cons_succ])
 refine wpAnyH_take (i := 42) (oi := { dst := some 165, op := Go.Op.binOp Go.BinOp.eql 3 (Go.Operand.tmp 164) (Go.Operand.const (Go.Value.int Go.IntKind.i64 1)) 3, type := 4, pos := "law.go:90", after := #[{ on := 41, ground := Go.Ground.data }, { on := 39, ground := Go.Ground.guard }], guard := some (39, true) }) (v := .bool true) rfl (by kernel_rfl) ?_ ?_ ?_ ?_ hHeld ?_
 · kernel_rfl
 · kernel_rfl
 · exact fun _ _ _ h => h
 · exact Or.inl ⟨by rfl, fun w' _ => by go_simp⟩
 (try simp only [Act.put, List.setIfInBounds_toArray, List.set_cons_zero, List.set_cons_succ])
 refine wpAnyH_take (i := 43) (oi := { dst := some 166, op := Go.Op.pick (Go.Operand.tmp 162) (Go.Operand.tmp 165) (Go.Operand.const (Go.Value.bool false)), type := 4, pos := "law.go:90", after := #[{ on := 39, ground := Go.Ground.data }, { on := 42, ground := Go.Ground.data }], guard := none }) (v := .bool true) rfl (by kernel_rfl) ?_ ?_ ?_ ?_ hHeld ?_
 · kernel_rfl
 · kernel_rfl
 · exact fun _ _ _ h => h
 · exact Or.inl ⟨by rfl, fun w' _ => by go_simp⟩
 (try simp only [Act.put, List.setIfInBounds_toArray, List.set_cons_zero, List.set_cons_succ])
 refine wpAnyH_take (i := 44) (oi := { dst := some 167, op := Go.Op.move (Go.Operand.tmp 166), type := 4, pos := "law.go:90", after := #[{ on := 43, ground := Go.Ground.data }, { on := 39, ground := Go.Ground.chain }], guard := none }) (v := .bool true) rfl (by kernel_rfl) ?_ ?_ ?_ ?_ hHeld ?_
 · kernel_rfl
 · kernel_rfl
 · exact fun _ _ _ h => h
 · exact Or.inl ⟨by rfl, fun w' _ => by go_simp⟩
 (try simp only [Act.put, List.setIfInBounds_toArray, List.set_cons_zero, List.set_cons_succ])
 refine wpAnyH_take (i := 45) (oi := { dst := some 168, op := Go.Op.move (Go.Operand.tmp 15), type := 28, pos := "law.go:90", after := #[{ on := 44, ground := Go.Ground.guard }], guard := some (44, true) }) (v := .slice (some ⟨q4, o4, none⟩) 1 k4) rfl (by kernel_rfl) ?_ ?_ ?_ ?_ hHeld ?_
 · kernel_rfl
 · kernel_rfl
 · exact fun _ _ _ h => h
 · exact Or.inl ⟨by rfl, fun w' _ => by go_simp⟩
 (try simp only [Act.put, List.setIfInBounds_toArray, List.set_cons_zero, List.set_cons_succ])
 refine wpAnyH_take (i := 46) (oi := { dst := some 169, op := Go.Op.indexAddr 28 (Go.Operand.tmp 168) (Go.Operand.const (Go.Value.int Go.IntKind.i64 0)), type := 0, pos := "law.go:90", after := #[{ on := 45, ground := Go.Ground.data }, { on := 44, ground := Go.Ground.guard }], guard := some (44, true) }) (v := .pointer (some ⟨q4, o4, none⟩)) rfl (by kernel_rfl) ?_ ?_ ?_ ?_ hHeld ?_
 · kernel_rfl
 · kernel_rfl
 · exact fun _ _ _ h => h
 · exact Or.inl ⟨by rfl, fun w' _ => by go_simp⟩
 (try simp only [Act.put, List.setIfInBounds_toArray, List.set_cons_zero, List.set_cons_succ])
 refine wpAnyH_take (i := 47) (oi := { dst := some 170, op := Go.Op.load 30 (Go.Operand.tmp 169), type := 30, pos := "law.go:90", after := #[{ on := 46, ground := Go.Ground.data }, { on := 44, ground := Go.Ground.guard }], guard := some (44, true) }) (v := .agg ((U iC.1)).toArray) rfl (by kernel_rfl) ?_ ?_ ?_ ?_ hHeld ?_
 · kernel_rfl
 · kernel_rfl
 · exact fun _ _ _ h => h
 · exact yieldsIf_load_mid (by rfl) 30 (.tmp 169) rfl q4 o4 rfl (U iC.1) _ (fun w' h => h.2.2.2) hu30 rfl HZC.out
 (try simp only [Act.put, List.setIfInBounds_toArray, List.set_cons_zero, List.set_cons_succ])
 refine wpAnyH_take (i := 48) (oi := { dst := some 171, op := Go.Op.load 30 (Go.Operand.tmp 9), type := 30, pos := "law.go:90", after := #[{ on := 44, ground := Go.Ground.guard }], guard := some (44, true) }) (v := .agg ((U iC.1)).toArray) rfl (by kernel_rfl) ?_ ?_ ?_ ?_ hHeld ?_
 · kernel_rfl
 · kernel_rfl
 · exact fun _ _ _ h => h
 · exact yieldsIf_load_mid (by rfl) 30 (.tmp 9) rfl w14.heap.size 0 rfl (U iC.1) _ (fun w' h => h.1) hu30 rfl HZC.out
 (try simp only [Act.put, List.setIfInBounds_toArray, List.set_cons_zero, List.set_cons_succ])
 refine wpAnyH_take (i := 49) (oi := { dst := some 172, op := Go.Op.binOp Go.BinOp.eql 30 (Go.Operand.tmp 170) (Go.Operand.tmp 171) 30, type := 4, pos := "law.go:90", after := #[{ on := 47, ground := Go.Ground.data }, { on := 48, ground := Go.Ground.data }, { on := 44, ground := Go.Ground.guard }], guard := some (44, true) }) (v := .bool true) rfl (by kernel_rfl) ?_ ?_ ?_ ?_ hHeld ?_
 · kernel_rfl
 · kernel_rfl
 · exact fun _ _ _ h => h
 · exact Or.inl ⟨by rfl, fun w' _ => by have h := eq_id iC w'; go_simp⟩
 (try simp only [Act.put, List.setIfInBounds_toArray, List.set_cons_zero, List.set_cons_succ])
 refine wpAnyH_take (i := 50) (oi := { dst := some 173, op := Go.Op.pick (Go.Operand.tmp 167) (Go.Operand.tmp 172) (Go.Operand.const (Go.Value.bool false)), type := 4, pos := "law.go:90", after := #[{ on := 44, ground := Go.Ground.data }, { on := 49, ground := Go.Ground.data }], guard := none }) (v := .bool true) rfl (by kernel_rfl) ?_ ?_ ?_ ?_ hHeld ?_
 · kernel_rfl
 · kernel_rfl
 · exact fun _ _ _ h => h
 · exact Or.inl ⟨by rfl, fun w' _ => by go_simp⟩
 (try simp only [Act.put, List.setIfInBounds_toArray, List.set_cons_zero, List.set_cons_succ])
 refine wpAnyH_take (i := 51) (oi := { dst := some 0, op := Go.Op.assign (Go.Operand.tmp 173), type := 4, pos := "law.go:90", after := #[{ on := 50, ground := Go.Ground.data }, { on := 44, ground := Go.Ground.chain }, { on := 0, ground := Go.Ground.phase }, { on := 1, ground := Go.Ground.phase }, { on := 2, ground := Go.Ground.phase }, { on := 3, ground := Go.Ground.phase }, { on := 4, ground := Go.Ground.phase }, { on := 5, ground := Go.Ground.phase }, { on := 6, ground := Go.Ground.phase }, { on := 7, ground := Go.Ground.phase }, { on := 8, ground := Go.Ground.phase }, { on := 9, ground := Go.Ground.phase }, { on := 10, ground := Go.Ground.phase }, { on := 11, ground := Go.Ground.phase }, { on := 12, ground := Go.Ground.phase }, { on := 13, ground := Go.Ground.phase }, { on := 14, ground := Go.Ground.phase }, { on := 15, ground := Go.Ground.phase }, { on := 16, ground := Go.Ground.phase }, { on := 17, ground := Go.Ground.phase }, { on := 18, ground := Go.Ground.phase }, { on := 19, ground := Go.Ground.phase }, { on := 20, ground := Go.Ground.phase }, { on := 21, ground := Go.Ground.phase }, { on := 22, ground := Go.Ground.phase }, { on := 23, ground := Go.Ground.phase }, { on := 24, ground := Go.Ground.phase }, { on := 25, ground := Go.Ground.phase }, { on := 26, ground := Go.Ground.phase }, { on := 27, ground := Go.Ground.phase }, { on := 28, ground := Go.Ground.phase }, { on := 29, ground := Go.Ground.phase }, { on := 30, ground := Go.Ground.phase }, { on := 31, ground := Go.Ground.phase }, { on := 32, ground := Go.Ground.phase }, { on := 33, ground := Go.Ground.phase }, { on := 34, ground := Go.Ground.phase }, { on := 35, ground := Go.Ground.phase }, { on := 36, ground := Go.Ground.phase }, { on := 37, ground := Go.Ground.phase }, { on := 38, ground := Go.Ground.phase }, { on := 39, ground := Go.Ground.phase }, { on := 40, ground := Go.Ground.phase }, { on := 41, ground := Go.Ground.phase }, { on := 42, ground := Go.Ground.phase }, { on := 43, ground := Go.Ground.phase }, { on := 44, ground := Go.Ground.phase }, { on := 45, ground := Go.Ground.phase }, { on := 46, ground := Go.Ground.phase }, { on := 47, ground := Go.Ground.phase }, { on := 48, ground := Go.Ground.phase }, { on := 49, ground := Go.Ground.phase }, { on := 50, ground := Go.Ground.phase }], guard := none }) (v := .bool true) rfl (by kernel_rfl) ?_ ?_ ?_ ?_ hHeld ?_
 · kernel_rfl
 · kernel_rfl
 · exact fun _ _ _ h => h
 · exact Or.inl ⟨by rfl, fun w' _ => by go_simp⟩
 (try simp only [Act.put, List.setIfInBounds_toArray, List.set_cons_zero])
 refine wpAnyH_done (by kernel_rfl) ?_ _
 refine NoPanic.normal ?_
 have HF2 : Hid (BegP w (.returned (.bool true)) w27) := ⟨rfl, HF.out⟩
 clear hS27 HRS HQ HF
 go_wp2_with fail
 go_ret
 exact HF2.out
end Go.Proofs.YtnjhjbmngoeobaaGreatDoor
