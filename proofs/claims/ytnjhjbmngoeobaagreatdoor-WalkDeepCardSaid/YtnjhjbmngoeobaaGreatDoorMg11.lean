/- Laws towards WalkDeep: TagA, ObjB. -/
import Derived.Test.YtnjhjbmngoeobaaGreatDoorMg10
namespace Go.Proofs.YtnjhjbmngoeobaaGreatDoor
open Go.RowKit
set_option maxRecDepth 100000
theorem info_tag : (Tryz.prog.info? 114).map (·.size) = some 37 := by kernel_rfl
def tagL (i : Id) (a b c d e : Value) : List Value := U i.1 ++ [a, b, c, d, e]
theorem tagL_length (i : Id) (a b c d e : Value) : (tagL i a b c d e).length = 37 := by simp [tagL, U_length, i.2]
theorem tagL_at (i : Id) (a b c d e : Value) : (tagL i a b c d e)[32]? = some a ∧ (tagL i a b c d e)[33]? = some b ∧ (tagL i a b c d e)[34]? = some c ∧ (tagL i a b c d e)[35]? = some d ∧ (tagL i a b c d e)[36]? = some e := by
 have h : (U i.1).length = 32 := by rw [U_length]; exact i.2
 unfold tagL
 refine ⟨?_, ?_, ?_, ?_, ?_⟩ <;> (rw [List.getElem?_append_right (by omega), h]; rfl)
theorem tagL_set1 (i : Id) (a b c d e x : Value) : (tagL i a b c d e).toArray.setIfInBounds 33 x = (tagL i a x c d e).toArray := by
 have h : (U i.1).length = 32 := by rw [U_length]; exact i.2
 apply Array.ext'
 simp only [tagL, List.setIfInBounds_toArray, List.toList_toArray]
 rw [List.set_append_right _ _ (by omega), h]
 rfl
theorem tagL_set2 (i : Id) (a b c d e x : Value) : (tagL i a b c d e).toArray.setIfInBounds 34 x = (tagL i a b x d e).toArray := by
 have h : (U i.1).length = 32 := by rw [U_length]; exact i.2
 apply Array.ext'
 simp only [tagL, List.setIfInBounds_toArray, List.toList_toArray]
 rw [List.set_append_right _ _ (by omega), h]
 rfl
theorem tagL_set3 (i : Id) (a b c d e x : Value) : (tagL i a b c d e).toArray.setIfInBounds 35 x = (tagL i a b c x e).toArray := by
 have h : (U i.1).length = 32 := by rw [U_length]; exact i.2
 apply Array.ext'
 simp only [tagL, List.setIfInBounds_toArray, List.toList_toArray]
 rw [List.set_append_right _ _ (by omega), h]
 rfl
theorem tagL_set4 (i : Id) (a b c d e x : Value) : (tagL i a b c d e).toArray.setIfInBounds 36 x = (tagL i a b c d x).toArray := by
 have h : (U i.1).length = 32 := by rw [U_length]; exact i.2
 apply Array.ext'
 simp only [tagL, List.setIfInBounds_toArray, List.toList_toArray]
 rw [List.set_append_right _ _ (by omega), h]
 rfl
theorem tagL_one (i : Id) (a b c d e : Value) (ha : a.oneCell' = true) (hb : b.oneCell' = true) (hc : c.oneCell' = true) (hd : d.oneCell' = true) (he : e.oneCell' = true) : ∀ v ∈ tagL i a b c d e, v.oneCell' = true := by
 intro v hv
 simp only [tagL, List.mem_append, List.mem_cons, List.not_mem_nil, or_false] at hv
 rcases hv with hv | rfl | rfl | rfl | rfl | rfl
 · exact U_one _ v hv
 all_goals assumption
def zTag : List Value := tagL zeroId (.int .i64 0) (.string ⟨#[]⟩) (.string ⟨#[]⟩) (.int .u64 0) (.string ⟨#[]⟩)
theorem zTag_lit : (#[Value.int IntKind.u8 0, Value.int IntKind.u8 0, Value.int IntKind.u8 0, Value.int IntKind.u8 0, Value.int IntKind.u8 0, Value.int IntKind.u8 0, Value.int IntKind.u8 0, Value.int IntKind.u8 0, Value.int IntKind.u8 0, Value.int IntKind.u8 0, Value.int IntKind.u8 0, Value.int IntKind.u8 0, Value.int IntKind.u8 0, Value.int IntKind.u8 0, Value.int IntKind.u8 0, Value.int IntKind.u8 0, Value.int IntKind.u8 0, Value.int IntKind.u8 0, Value.int IntKind.u8 0, Value.int IntKind.u8 0, Value.int IntKind.u8 0, Value.int IntKind.u8 0, Value.int IntKind.u8 0, Value.int IntKind.u8 0, Value.int IntKind.u8 0, Value.int IntKind.u8 0, Value.int IntKind.u8 0, Value.int IntKind.u8 0, Value.int IntKind.u8 0, Value.int IntKind.u8 0, Value.int IntKind.u8 0, Value.int IntKind.u8 0, Value.int IntKind.i64 0, Value.string { data := #[] }, Value.string { data := #[] }, Value.int IntKind.u64 0, Value.string { data := #[] }] : Array Value) = zTag.toArray := rfl
theorem tag_new (w : World) : Hid ((w.alloc (.cells #[Value.int IntKind.u8 0, Value.int IntKind.u8 0, Value.int IntKind.u8 0, Value.int IntKind.u8 0, Value.int IntKind.u8 0, Value.int IntKind.u8 0, Value.int IntKind.u8 0, Value.int IntKind.u8 0, Value.int IntKind.u8 0, Value.int IntKind.u8 0, Value.int IntKind.u8 0, Value.int IntKind.u8 0, Value.int IntKind.u8 0, Value.int IntKind.u8 0, Value.int IntKind.u8 0, Value.int IntKind.u8 0, Value.int IntKind.u8 0, Value.int IntKind.u8 0, Value.int IntKind.u8 0, Value.int IntKind.u8 0, Value.int IntKind.u8 0, Value.int IntKind.u8 0, Value.int IntKind.u8 0, Value.int IntKind.u8 0, Value.int IntKind.u8 0, Value.int IntKind.u8 0, Value.int IntKind.u8 0, Value.int IntKind.u8 0, Value.int IntKind.u8 0, Value.int IntKind.u8 0, Value.int IntKind.u8 0, Value.int IntKind.u8 0, Value.int IntKind.i64 0, Value.string { data := #[] }, Value.string { data := #[] }, Value.int IntKind.u64 0, Value.string { data := #[] }] 114)).heap[w.heap.size]? = some (.cells zTag.toArray 114 (0, 0))) := by
 show _ = _
 rw [zTag_lit]
 exact heap_alloc_new w _
theorem splice_tag (i : Id) (a b c d e : Value) : splice zTag 0 (tagL i a b c d e) = tagL i a b c d e := splice_all _ _ (by rw [tagL_length]; rfl)
theorem tag_fit (i : Id) (a b c d e : Value) : 0 + (tagL i a b c d e).length ≤ zTag.length := by rw [tagL_length]; decide
def TagEnd (w : World) (g : Nat) (i : Id) (kd : Nat) (nm who : Bs) (tm : Nat) (text t : Bs) (v : Value) (w' : World) : Prop :=
 v = .agg (tagL i (.int .i64 (kd : Int)) (.string ⟨nm.toArray⟩) (.string ⟨who.toArray⟩) (.int .u64 (tm : Int)) (.string ⟨text.toArray⟩)).toArray ∧ Rdx w' g (some t) ∧ w.grownBy w' (some g)
set_option maxHeartbeats 4000000 in
theorem readTag_any (g : Nat) (i : Id) (kd : Nat) (nm who text t : Bs) (tm : Nat) (w : World) (h : Rdx w g (some (i.1 ++ (UInt8.ofNat kd :: (layB nm ++ (layB who ++ (be8 tm ++ (layB text ++ t)))))))) (hk : kd < 256) (hn : nm.length ≤ 255) (hw : who.length ≤ 255) (htx : text.length ≤ 4096) (htm : tm < 18446744073709551616) :
 Calls Tryz.prog 63 #[.pointer (some ⟨g, 0, none⟩)] w fun e w' => ∃ v, e = .returned (.iface 114 v) ∧ TagEnd w g i kd nm who tm text t v w' := by
 have HID := Lib.hid (rid_any g _ w h)
 unfold Hid RidPost at HID
 rw [rId_lay] at HID
 have HID := Lib.hid HID
 have hgl := h.lt
 obtain ⟨c0, c1, c2, c3, c4, c5, c6, c7, c8, c9, c10, c11, c12, c13, c14, c15, c16, c17, c18, c19, c20, c21, c22, c23, c24, c25, c26, c27, c28, c29, c30, c31, hU⟩ := id32 i
 have HL : Hid ([c0, c1, c2, c3, c4, c5, c6, c7, c8, c9, c10, c11, c12, c13, c14, c15, c16, c17, c18, c19, c20, c21, c22, c23, c24, c25, c26, c27, c28, c29, c30, c31, Value.int .i64 (kd : Int), Value.string ⟨#[]⟩, Value.string ⟨#[]⟩, Value.int .u64 0, Value.string ⟨#[]⟩] = tagL i (.int .i64 (kd : Int)) (.string ⟨#[]⟩) (.string ⟨#[]⟩) (.int .u64 0) (.string ⟨#[]⟩)) := by show _ = _; unfold tagL; rw [hU]; rfl
 have HSI : Hid ((Tryz.prog.info? 114).map (·.size) = some [c0, c1, c2, c3, c4, c5, c6, c7, c8, c9, c10, c11, c12, c13, c14, c15, c16, c17, c18, c19, c20, c21, c22, c23, c24, c25, c26, c27, c28, c29, c30, c31, Value.int .i64 (kd : Int), Value.string ⟨#[]⟩, Value.string ⟨#[]⟩, Value.int .u64 0, Value.string ⟨#[]⟩].length) := info_tag
 have HFT : Hid (0 + [c0, c1, c2, c3, c4, c5, c6, c7, c8, c9, c10, c11, c12, c13, c14, c15, c16, c17, c18, c19, c20, c21, c22, c23, c24, c25, c26, c27, c28, c29, c30, c31, Value.int .i64 (kd : Int), Value.string ⟨#[]⟩, Value.string ⟨#[]⟩, Value.int .u64 0, Value.string ⟨#[]⟩].length ≤ zTag.length) := by show _ ≤ _; rw [HL.out]; exact tag_fit i _ _ _ _ _
 have HON : Hid (∀ v ∈ [c0, c1, c2, c3, c4, c5, c6, c7, c8, c9, c10, c11, c12, c13, c14, c15, c16, c17, c18, c19, c20, c21, c22, c23, c24, c25, c26, c27, c28, c29, c30, c31, Value.int .i64 (kd : Int), Value.string ⟨#[]⟩, Value.string ⟨#[]⟩, Value.int .u64 0, Value.string ⟨#[]⟩], v.oneCell' = true) := by rw [HL.out]; exact tagL_one i _ _ _ _ _ rfl rfl rfl rfl rfl
 unfold Hid at HID
 rw [hU] at HID
 have HID := Lib.hid HID
 have HU8 := Lib.hid (fun w' (h : Rdx w' g (some (UInt8.ofNat kd :: (layB nm ++ (layB who ++ (be8 tm ++ (layB text ++ t))))))) => ru8_any g _ w' h)
 have eU : rU8 (some (UInt8.ofNat kd :: (layB nm ++ (layB who ++ (be8 tm ++ (layB text ++ t)))))) = (UInt8.ofNat kd, some (layB nm ++ (layB who ++ (be8 tm ++ (layB text ++ t))))) := rfl
 unfold Hid RdPost at HU8
 have em : (((UInt8.ofNat kd).toNat : Nat) : Int) = (kd : Int) := by rw [byteNat _ hk]
 rw [eU] at HU8
 simp only [em] at HU8
 have HU8 := Lib.hid HU8
 have em2 : IntKind.i64.wrap (kd : Int) = (kd : Int) := wraps_i64 _ (by omega) (by omega)
 clear h hU eU em hk
 go_enter Tryz.func63, Tryz.ntmps63
 go_wp2_with fail
 refine HID.out.mono ?_
 rintro e w0 ⟨rfl, h1, g1⟩
 have HR0 := Lib.hid h1
 have HG0 := Lib.hid g1
 clear h1 g1 HID
 go_wp2_with fail
 refine (HU8.out _ HR0.out).mono ?_
 rintro e w1 ⟨rfl, h1, g1⟩
 have HR1 := Lib.hid h1
 have HG1 : Hid (w.grownBy w1 (some g)) := gb_trans HG0.out g1
 have HN := tag_new w1
 clear h1 g1 HU8 HR0 HG0
 go_upto_region 2 with (first
  | (with_reducible refine wpList_storeG rfl 114 (.tmp 3) (.tmp 9) rfl w1.heap.size 0 [c0, c1, c2, c3, c4, c5, c6, c7, c8, c9, c10, c11, c12, c13, c14, c15, c16, c17, c18, c19, c20, c21, c22, c23, c24, c25, c26, c27, c28, c29, c30, c31, Value.int .i64 (kd : Int), Value.string ⟨#[]⟩, Value.string ⟨#[]⟩, Value.int .u64 0, Value.string ⟨#[]⟩] rfl rfl zTag 114 HN.out HFT.out HON.out HSI.out ?_; intro w2 HB2 HG2))
 have HC : Hid (Blk w2 w1.heap.size 114 (tagL i (.int .i64 (kd : Int)) (.string ⟨#[]⟩) (.string ⟨#[]⟩) (.int .u64 0) (.string ⟨#[]⟩)).toArray) := by
  have h1 := HB2.out
  rw [HL.out, splice_tag] at h1
  exact h1
 have G2 : w1.grownBy w2 none := gb_fresh HG2.out
 have HGt : Hid (w.grownBy w2 (some g)) := gb_trans HG1.out (gb_none G2)
 have HRt : Hid (Rdx w2 g (some (layB nm ++ (layB who ++ (be8 tm ++ (layB text ++ t)))))) := HR1.out.keep G2
 have HQ : Hid (w.heap.size ≤ w1.heap.size) := HG1.out.size
 have HCt := HC
 clear G2 HB2 HG2 HG1 HR1 HN HON HFT HSI HL em2 HC
 generalize w1.heap.size = q at *
 have hgq : g ≠ q := by have := HQ.out; omega
 have HSC : Hid ((Tryz.prog.info? 114).map (·.size) = some (tagL i (.int .i64 (kd : Int)) (.string ⟨nm.toArray⟩) (.string ⟨who.toArray⟩) (.int .u64 (tm : Int)) (.string ⟨text.toArray⟩)).toArray.size) := by show _ = some _; rw [List.size_toArray, tagL_length]; exact info_tag
 go_wp2_with fail
 have HBY := Lib.hid (rbytes_any g 255 _ w2 HRt.out (by omega) (by omega))
 unfold Hid RawPost at HBY
 rw [rBytes_lay nm 255 hn (by omega)] at HBY
 have HBY := Lib.hid HBY
 refine HBY.out.mono ?_
 rintro e wa1 ⟨q6, n6, rfl, rfl, hq6, hB6, hR6, hG6⟩
 have K6 := str_back hB6 wa1 g (gb_refl _ _) (by have := HGt.out.size; omega)
 have HC6 := Lib.hid (HCt.out.gb hG6 (by simp; omega))
 have HG6 : Hid (w.grownBy wa1 (some g)) := gb_trans HGt.out hG6
 have HR6 := Lib.hid hR6
 have cc : wa1.cell? ⟨q, 33, none⟩ = some (Value.string ⟨#[]⟩) := by rw [HC6.out.cell, List.getElem?_toArray, (tagL_at _ _ _ _ _ _).2.1]
 have ff := HC6.out.frozen 33
 clear hB6 hq6 hR6 hG6 HCt HGt HRt HBY
 go_wp2_with fail
 have HC7 := Lib.hid (HC6.out.set_ 33 (.string ⟨nm.toArray⟩))
 unfold Hid at HC7
 rw [tagL_set1] at HC7
 have HC7 := Lib.hid HC7
 have HS7 := Lib.hid (gb_set (p := ⟨q, 33, none⟩) (gb_refl wa1 (some q)) (.inl rfl) (.string ⟨nm.toArray⟩))
 have HR7 := Lib.hid (HR6.out.far HC6.out (by decide) (by decide) HS7.out)
 have HG7 := Lib.hid (gb_join HG6.out HS7.out HQ.out)
 clear cc ff K6 HC6 HG6 HR6 HS7
 generalize wa1.setCell ⟨q, 33, none⟩ (.string ⟨nm.toArray⟩) = wb1 at *
 have HCt := HC7
 have HGt := HG7
 have HRt := HR7
 clear HC7 HG7 HR7
 have HBY := Lib.hid (rbytes_any g 255 _ wb1 HRt.out (by omega) (by omega))
 unfold Hid RawPost at HBY
 rw [rBytes_lay who 255 hw (by omega)] at HBY
 have HBY := Lib.hid HBY
 refine HBY.out.mono ?_
 rintro e wa2 ⟨q6, n6, rfl, rfl, hq6, hB6, hR6, hG6⟩
 have K6 := str_back hB6 wa2 g (gb_refl _ _) (by have := HGt.out.size; omega)
 have HC6 := Lib.hid (HCt.out.gb hG6 (by simp; omega))
 have HG6 : Hid (w.grownBy wa2 (some g)) := gb_trans HGt.out hG6
 have HR6 := Lib.hid hR6
 have cc : wa2.cell? ⟨q, 34, none⟩ = some (Value.string ⟨#[]⟩) := by rw [HC6.out.cell, List.getElem?_toArray, (tagL_at _ _ _ _ _ _).2.2.1]
 have ff := HC6.out.frozen 34
 clear hB6 hq6 hR6 hG6 HCt HGt HRt HBY
 go_wp2_with fail
 have HC7 := Lib.hid (HC6.out.set_ 34 (.string ⟨who.toArray⟩))
 unfold Hid at HC7
 rw [tagL_set2] at HC7
 have HC7 := Lib.hid HC7
 have HS7 := Lib.hid (gb_set (p := ⟨q, 34, none⟩) (gb_refl wa2 (some q)) (.inl rfl) (.string ⟨who.toArray⟩))
 have HR7 := Lib.hid (HR6.out.far HC6.out (by decide) (by decide) HS7.out)
 have HG7 := Lib.hid (gb_join HG6.out HS7.out HQ.out)
 clear cc ff K6 HC6 HG6 HR6 HS7
 generalize wa2.setCell ⟨q, 34, none⟩ (.string ⟨who.toArray⟩) = wb2 at *
 have HCt := HC7
 have HGt := HG7
 have HRt := HR7
 clear HC7 HG7 HR7
 have HBY := Lib.hid (ru64_any g _ wb2 HRt.out)
 unfold Hid RdPost at HBY
 rw [rU64_lay tm htm] at HBY
 have HBY := Lib.hid HBY
 refine HBY.out.mono ?_
 rintro e wa3 ⟨rfl, hR6, hG6⟩
 have HC6 := Lib.hid (HCt.out.gb hG6 (by simp; omega))
 have HG6 : Hid (w.grownBy wa3 (some g)) := gb_trans HGt.out hG6
 have HR6 := Lib.hid hR6
 have cc : wa3.cell? ⟨q, 35, none⟩ = some (Value.int .u64 0) := by rw [HC6.out.cell, List.getElem?_toArray, (tagL_at _ _ _ _ _ _).2.2.2.1]
 have ff := HC6.out.frozen 35
 clear hR6 hG6 HCt HGt HRt HBY
 go_wp2_with fail
 have HC7 := Lib.hid (HC6.out.set_ 35 (.int .u64 (tm : Int)))
 unfold Hid at HC7
 rw [tagL_set3] at HC7
 have HC7 := Lib.hid HC7
 have HS7 := Lib.hid (gb_set (p := ⟨q, 35, none⟩) (gb_refl wa3 (some q)) (.inl rfl) (.int .u64 (tm : Int)))
 have HR7 := Lib.hid (HR6.out.far HC6.out (by decide) (by decide) HS7.out)
 have HG7 := Lib.hid (gb_join HG6.out HS7.out HQ.out)
 clear cc ff HC6 HG6 HR6 HS7
 generalize wa3.setCell ⟨q, 35, none⟩ (.int .u64 (tm : Int)) = wb3 at *
 have HCt := HC7
 have HGt := HG7
 have HRt := HR7
 clear HC7 HG7 HR7
 have HBY := Lib.hid (rbytes_any g 4096 _ wb3 HRt.out (by omega) (by omega))
 unfold Hid RawPost at HBY
 rw [rBytes_lay text 4096 htx (by omega)] at HBY
 have HBY := Lib.hid HBY
 refine HBY.out.mono ?_
 rintro e wa4 ⟨q6, n6, rfl, rfl, hq6, hB6, hR6, hG6⟩
 have K6 := str_back hB6 wa4 g (gb_refl _ _) (by have := HGt.out.size; omega)
 have HC6 := Lib.hid (HCt.out.gb hG6 (by simp; omega))
 have HG6 : Hid (w.grownBy wa4 (some g)) := gb_trans HGt.out hG6
 have HR6 := Lib.hid hR6
 have cc : wa4.cell? ⟨q, 36, none⟩ = some (Value.string ⟨#[]⟩) := by rw [HC6.out.cell, List.getElem?_toArray, (tagL_at _ _ _ _ _ _).2.2.2.2]
 have ff := HC6.out.frozen 36
 clear hB6 hq6 hR6 hG6 HCt HGt HRt HBY
 have HC7 := Lib.hid (HC6.out.set_ 36 (.string ⟨text.toArray⟩))
 unfold Hid at HC7
 rw [tagL_set4] at HC7
 have HC7 := Lib.hid HC7
 have HS7 := Lib.hid (gb_set (p := ⟨q, 36, none⟩) (gb_refl wa4 (some q)) (.inl rfl) (.string ⟨text.toArray⟩))
 have HR7 := Lib.hid (HR6.out.far HC6.out (by decide) (by decide) HS7.out)
 have HG7 := Lib.hid (gb_join HG6.out HS7.out HQ.out)
 have HLO : Hid ((wa4.setCell ⟨q, 36, none⟩ (.string ⟨text.toArray⟩)).heap[q]? = some (.cells (tagL i (.int .i64 (kd : Int)) (.string ⟨nm.toArray⟩) (.string ⟨who.toArray⟩) (.int .u64 (tm : Int)) (.string ⟨text.toArray⟩)).toArray 114 (0, 0))) := HC7.out
 have HEND : Hid (TagEnd w g i kd nm who tm text t (.agg (tagL i (.int .i64 (kd : Int)) (.string ⟨nm.toArray⟩) (.string ⟨who.toArray⟩) (.int .u64 (tm : Int)) (.string ⟨text.toArray⟩)).toArray) (wa4.setCell ⟨q, 36, none⟩ (.string ⟨text.toArray⟩))) := ⟨rfl, HR7.out, HG7.out⟩
 clear HC7 HR7 HG7 HS7 HC6 HG6 HR6
 go_wp2_with (with_reducible refine wpList_load_row rfl 114 (.tmp 3) rfl q rfl 114 (tagL i (.int .i64 (kd : Int)) (.string ⟨nm.toArray⟩) (.string ⟨who.toArray⟩) (.int .u64 (tm : Int)) (.string ⟨text.toArray⟩)).toArray (0, 0) _ HLO.out Tryz.underlying114 rfl HSC.out ?_)
 go_ret
 exact ⟨_, rfl, HEND.out⟩
set_option maxHeartbeats 2000000 in
theorem tagCheck_one (i : Id) (kd : Nat) (c : UInt8) (who text : Bs) (tm : Nat) (w : World) (hk1 : 1 ≤ kd) (hk4 : kd ≤ 4) (hc : c.toNat < 127) (h32 : 32 ≤ c.toNat) (h46 : c.toNat ≠ 46) (h47 : c.toNat ≠ 47) (hw : who = [] ∨ ∃ c : UInt8, who = [c] ∧ c.toNat < 127 ∧ 32 ≤ c.toNat) (ht : tm ≤ 1099511627776) (hx : text.length ≤ 4096) :
 Calls Tryz.prog 140 #[.agg (tagL i (.int .i64 (kd : Int)) (.string ⟨[c].toArray⟩) (.string ⟨who.toArray⟩) (.int .u64 (tm : Int)) (.string ⟨text.toArray⟩)).toArray] w fun e w' => e = .returned (.int .i64 0) ∧ Below w.heap.size w w' := by
 have HW := Lib.hid (fun w => written_any who text tm w hw ht hx)
 have HNA := Lib.hid (fun w => name_one c hc h32 h46 h47 w)
 have hd1 : decide ((kd : Int) < 1) = false := decide_eq_false (by omega)
 have hd2 : decide (4 < (kd : Int)) = false := decide_eq_false (by omega)
 obtain ⟨wb, hwb⟩ : ∃ wb, wb = w.alloc (.cells (tagL i (.int .i64 (kd : Int)) (.string ⟨[c].toArray⟩) (.string ⟨who.toArray⟩) (.int .u64 (tm : Int)) (.string ⟨text.toArray⟩)).toArray 114) := ⟨_, rfl⟩
 have HB : Hid (Blk wb w.heap.size 114 (tagL i (.int .i64 (kd : Int)) (.string ⟨[c].toArray⟩) (.string ⟨who.toArray⟩) (.int .u64 (tm : Int)) (.string ⟨text.toArray⟩)).toArray) := by rw [hwb]; exact Blk.new _ _ _
 have hb : Hid (Below w.heap.size w wb) := by rw [hwb]; exact (Below.refl _ _).alloc (Nat.le_refl _) _
 have HC := Lib.hid (tagL_at i (.int .i64 (kd : Int)) (.string ⟨[c].toArray⟩) (.string ⟨who.toArray⟩) (.int .u64 (tm : Int)) (.string ⟨text.toArray⟩))
 have c32 := HB.out.cell 32
 have c33 : wb.cell? ⟨w.heap.size, 33, none⟩ = some (.string ⟨#[c]⟩) := by rw [HB.out.cell, List.getElem?_toArray, HC.out.2.1]
 rw [List.getElem?_toArray, HC.out.1] at c32
 clear hw ht hx hk1 hk4 hc h32 h46 h47
 go_enter Tryz.func140, Tryz.ntmps140
 go_upto_region 1 with fail
 rw [← hwb]
 clear hwb
 go_wp2_with fail
 refine (HNA.out _).mono ?_
 rintro e w1 ⟨rfl, h1⟩
 have HB1 := Lib.hid (HB.out.below h1 HB.out.lt)
 have hb1 : Hid (Below w.heap.size w w1) := hb.out.trans (h1.mono hb.out.size)
 have d34 := HB1.out.cell 34
 have d35 := HB1.out.cell 35
 have d36 := HB1.out.cell 36
 rw [List.getElem?_toArray, HC.out.2.2.1] at d34
 rw [List.getElem?_toArray, HC.out.2.2.2.1] at d35
 rw [List.getElem?_toArray, HC.out.2.2.2.2] at d36
 clear h1 c32 c33 HB hb HNA HB1
 go_wp2_with fail
 refine (HW.out _).mono ?_
 rintro e w2 ⟨rfl, h2⟩
 have HB2 : Hid (Below w.heap.size w w2) := hb1.out.trans (h2.mono hb1.out.size)
 clear h2
 go_wp2_with fail
 go_ret
 exact ⟨rfl, HB2.out⟩
theorem meth_tag1_check (v : Value) (w : World) : (method 305 114 v "satchel/object.check").run Tryz.prog w = .ok (140, v) w := by kernel_rfl
set_option maxHeartbeats 4000000 in
theorem parse_tag1 (n c : Nat) (A : Option Addr) (i : Id) (kd : Nat) (nc : UInt8) (who text : Bs) (tm : Nat) (hk1 : 1 ≤ kd) (hk4 : kd ≤ 4) (hc : nc.toNat < 127) (h32 : 32 ≤ nc.toNat) (h46 : nc.toNat ≠ 46) (h47 : nc.toNat ≠ 47) (hw : who = [] ∨ ∃ c : UInt8, who = [c] ∧ c.toNat < 127 ∧ 32 ≤ c.toNat) (ht : tm ≤ 1099511627776) (hx : text.length ≤ 4096) (w : World) (h : Sl w A (4 :: (i.1 ++ (UInt8.ofNat kd :: (layB [nc] ++ (layB who ++ (be8 tm ++ (layB text ++ [])))))))) (hn : n = (4 :: (i.1 ++ (UInt8.ofNat kd :: (layB [nc] ++ (layB who ++ (be8 tm ++ (layB text ++ []))))))).length) (hl : n ≤ 65536) (he : ErrTab w) :
 Calls Tryz.prog 40 #[.slice A n c] w (ParsePost w (.tag ⟨i, kd, [nc], who, tm, text⟩)) := by
 have HR := Lib.hid (read_any n c A (4 :: (i.1 ++ (UInt8.ofNat kd :: (layB [nc] ++ (layB who ++ (be8 tm ++ (layB text ++ []))))))) w h hn (by unfold Lim; omega))
 have HE := Lib.hid he
 have hlt := he.lt
 have hd : decide (65536 < n) = false := decide_eq_false (by omega)
 have HPR := Lib.hid (fun w => tagCheck_one i kd nc who text tm w hk1 hk4 hc h32 h46 h47 hw ht hx)
 have hwl : who.length ≤ 255 := by
  rcases hw with rfl | ⟨c, rfl, _, _⟩ <;> simp
 have htm : tm < 18446744073709551616 := by omega
 clear hw ht hc h32 h46 h47
 clear h hn he
 go_enter Tryz.func40, Tryz.ntmps40
 go_wp2_with fail
 refine HR.out.mono ?_
 rintro e w1 ⟨g, rfl, hg, h1, hb1⟩
 have HE1 := Lib.hid (HE.out.below hb1 hlt)
 have HB1 := Lib.hid hb1
 have HGW : Hid (w.heap.size ≤ g) := hg
 have hlt1 : 2 < w1.heap.size := Nat.lt_of_lt_of_le hlt hb1.size
 have hge : 2 ≠ g := by omega
 have HU := Lib.hid (ru8_any g _ w1 h1)
 unfold Hid RdPost at HU
 rw [show rU8 (some (4 :: (i.1 ++ (UInt8.ofNat kd :: (layB [nc] ++ (layB who ++ (be8 tm ++ (layB text ++ [])))))))) = (4, some (i.1 ++ (UInt8.ofNat kd :: (layB [nc] ++ (layB who ++ (be8 tm ++ (layB text ++ []))))))) from rfl] at HU
 have HU := Lib.hid HU
 clear h1 hb1 HR
 have ek : ((((4 : UInt8)).toNat : Nat) : Int) = 4 := rfl
 go_wp2_with fail
 refine HU.out.mono ?_
 rintro e w2 ⟨rfl, h2, g2⟩
 have HE2 := Lib.hid (HE1.out.gb g2 hlt1 hge)
 have HG2 := Lib.hid g2
 have HC := Lib.hid (readTag_any g i kd [nc] who text [] tm w2 h2 (by omega) (by simp) hwl hx htm)
 clear h2 HU HE1
 go_wp2_with fail
 refine HC.out.mono ?_
 rintro e w3 ⟨v, rfl, rfl, h3, g3⟩
 have HG3 := Lib.hid (gb_trans HG2.out g3)
 have HE3 := Lib.hid (HE2.out.gb g3 (Nat.lt_of_lt_of_le hlt1 HG2.out.size) hge)
 have HEN := Lib.hid (rend_any g (some []) w3 h3 HE3.out)
 have HGS : Hid (w.heap.size ≤ w3.heap.size) := Nat.le_trans HB1.out.size HG3.out.size
 clear h3 g3 g2 HC HE2 HG2 ek HE3
 go_wp2_with fail
 refine HEN.out.mono ?_
 rintro e w4 ⟨v0, rfl, hv, kz, rfl⟩
 obtain rfl : v0 = 0 := hv.2 rfl
 clear hv HEN
 have hmb := meth_tag1_check
 have HCK := Lib.hid (HPR.out (w3.drewN kz))
 have HBB : Hid (Below w.heap.size w (w3.drewN kz)) := HB1.out.trans (below_drewN (below_of_gb_some HG3.out HGW.out HB1.out.size) kz)
 have HF : Hid (∀ w', Below (w3.drewN kz).heap.size (w3.drewN kz) w' → ParsePost w (.tag ⟨i, kd, [nc], who, tm, text⟩) (.returned (.tuple #[.iface 114 (.agg (tagL i (.int .i64 (kd : Int)) (.string ⟨[nc].toArray⟩) (.string ⟨who.toArray⟩) (.int .u64 (tm : Int)) (.string ⟨text.toArray⟩)).toArray), .int .i64 0])) w') := fun w' hb =>
  ⟨_, rfl, rfl, HBB.out.trans (hb.mono HBB.out.size)⟩
 clear HE HG3 HPR
 go_wp2_with fail
 refine HCK.out.mono ?_
 rintro e w6 ⟨rfl, hb6⟩
 have HP := Lib.hid (HF.out w6 hb6)
 clear hb6 HF
 go_wp2_with fail
 go_ret2
 exact HP.out
theorem wpList_buildR {P : Program} {ops : Array Oper} {rest : List Oper} {o : Oper} {a : Act} {w : World} {Q : Exit → Act → World → Prop} (hgd : o.guard = none) (t : TypeId) (parts : Array (Nat × Operand)) (ho : o.op = .build t parts)
 (vals : Array (Nat × Value)) (hv : parts.map (fun p => (p.1, a.eval p.2)) = vals) (v : Value) (hrun : (Instr.build t vals).run P w = .ok v w) (h : wpList P ops Q rest (a.put o.dst v) w) : wpList P ops Q (o :: rest) a w := by
 refine wpList_plain hgd fun _ hK => ?_
 unfold Oper.wp execOp
 simp only [ho]
 subst hv
 simp only [Sem.run_bind, hrun, Result.andThen_ok]
 exact hK _ _ h
theorem info_ob : (Tryz.prog.info? 47).map (·.size) = some 76 := by kernel_rfl
def obL (k : Value) (b e : Value) (c t : List Value) : List Value := [k, b, e] ++ (c ++ t)
def zOb : List Value := obL (.int .i64 0) (.slice none 0 0) (.slice none 0 0) zCom zTag
theorem ob_new (w : World) : Hid ((w.alloc (.cells Tryz.zeroCells47 47)).heap[w.heap.size]? = some (.cells zOb.toArray 47 (0, 0))) := by
 show _ = _
 rw [show Tryz.zeroCells47 = zOb.toArray from by kernel_rfl]
 exact heap_alloc_new w _
theorem obL_length (k b e : Value) (c t : List Value) (hc : c.length = 36) (ht : t.length = 37) : (obL k b e c t).length = 76 := by simp [obL, hc, ht]
theorem zCom_length : zCom.length = 36 := by rfl
theorem zTag_length : zTag.length = 37 := by rfl
theorem zCom_one : ∀ v ∈ zCom, v.oneCell' = true := comL_one _ _ _ _ _ rfl rfl rfl rfl
theorem zTag_one : ∀ v ∈ zTag, v.oneCell' = true := tagL_one _ _ _ _ _ _ rfl rfl rfl rfl rfl
theorem obL_one (k b e : Value) (c t : List Value) (hk : k.oneCell' = true) (hb : b.oneCell' = true) (he : e.oneCell' = true) (hc : ∀ v ∈ c, v.oneCell' = true) (ht : ∀ v ∈ t, v.oneCell' = true) : ∀ v ∈ obL k b e c t, v.oneCell' = true := by
 intro v hv
 simp only [obL, List.mem_append, List.mem_cons, List.not_mem_nil, or_false] at hv
 rcases hv with (rfl | rfl | rfl) | hv | hv
 · exact hk
 · exact hb
 · exact he
 · exact hc v hv
 · exact ht v hv
theorem build_ob_blob (x : Value) (hx : ∃ A n k, x = .slice A n k) (w : World) : (Instr.build 47 #[(0, .int .i64 1), (1, x)]).run Tryz.prog w = .ok (.agg (obL (.int .i64 1) x (.slice none 0 0) zCom zTag).toArray) w := by
 obtain ⟨A, n, k, rfl⟩ := hx
 kernel_rfl
theorem build_ob_tree (x : Value) (hx : ∃ A n k, x = .slice A n k) (w : World) : (Instr.build 47 #[(0, .int .i64 2), (2, x)]).run Tryz.prog w = .ok (.agg (obL (.int .i64 2) (.slice none 0 0) x zCom zTag).toArray) w := by
 obtain ⟨A, n, k, rfl⟩ := hx
 kernel_rfl
theorem build_ob_com (i : Id) (a b c d : Value) (w : World) : (Instr.build 47 #[(0, .int .i64 3), (3, .agg (comL i a b c d).toArray)]).run Tryz.prog w = .ok (.agg (obL (.int .i64 3) (.slice none 0 0) (.slice none 0 0) (comL i a b c d) zTag).toArray) w := by
 obtain ⟨c0, c1, c2, c3, c4, c5, c6, c7, c8, c9, c10, c11, c12, c13, c14, c15, c16, c17, c18, c19, c20, c21, c22, c23, c24, c25, c26, c27, c28, c29, c30, c31, hU⟩ := id32 i
 unfold comL
 rw [hU]
 kernel_rfl
theorem build_ob_tag (i : Id) (a b c d e : Value) (w : World) : (Instr.build 47 #[(0, .int .i64 4), (4, .agg (tagL i a b c d e).toArray)]).run Tryz.prog w = .ok (.agg (obL (.int .i64 4) (.slice none 0 0) (.slice none 0 0) zCom (tagL i a b c d e)).toArray) w := by
 obtain ⟨c0, c1, c2, c3, c4, c5, c6, c7, c8, c9, c10, c11, c12, c13, c14, c15, c16, c17, c18, c19, c20, c21, c22, c23, c24, c25, c26, c27, c28, c29, c30, c31, hU⟩ := id32 i
 unfold tagL
 rw [hU]
 kernel_rfl
theorem assert_blob_blob (A : Option Addr) (n k : Nat) (w : World) : (Instr.typeAssert (.iface 111 (.slice A n k)) 69 111 true).run Tryz.prog w = .ok (.tuple #[(.slice A n k), .bool true]) w := by kernel_rfl
theorem assert_tree_blob (A : Option Addr) (n k : Nat) (w : World) : (Instr.typeAssert (.iface 112 (.slice A n k)) 69 111 true).run Tryz.prog w = .ok (.tuple #[(.slice none 0 0), .bool false]) w := by kernel_rfl
theorem assert_tree_tree (A : Option Addr) (n k : Nat) (w : World) : (Instr.typeAssert (.iface 112 (.slice A n k)) 69 112 true).run Tryz.prog w = .ok (.tuple #[(.slice A n k), .bool true]) w := by kernel_rfl
theorem assert_commit_blob (v : Value) (w : World) : (Instr.typeAssert (.iface 113 v) 69 111 true).run Tryz.prog w = .ok (.tuple #[(.slice none 0 0), .bool false]) w := by kernel_rfl
theorem assert_commit_tree (v : Value) (w : World) : (Instr.typeAssert (.iface 113 v) 69 112 true).run Tryz.prog w = .ok (.tuple #[(.slice none 0 0), .bool false]) w := by kernel_rfl
theorem assert_commit_commit (v : Value) (w : World) : (Instr.typeAssert (.iface 113 v) 69 113 true).run Tryz.prog w = .ok (.tuple #[v, .bool true]) w := by kernel_rfl
theorem assert_tag_blob (v : Value) (w : World) : (Instr.typeAssert (.iface 114 v) 69 111 true).run Tryz.prog w = .ok (.tuple #[(.slice none 0 0), .bool false]) w := by kernel_rfl
theorem assert_tag_tree (v : Value) (w : World) : (Instr.typeAssert (.iface 114 v) 69 112 true).run Tryz.prog w = .ok (.tuple #[(.slice none 0 0), .bool false]) w := by kernel_rfl
theorem assert_tag_commit (v : Value) (w : World) : (Instr.typeAssert (.iface 114 v) 69 113 true).run Tryz.prog w = .ok (.tuple #[(.agg zCom.toArray), .bool false]) w := by kernel_rfl
theorem assert_tag_tag (v : Value) (w : World) : (Instr.typeAssert (.iface 114 v) 69 114 true).run Tryz.prog w = .ok (.tuple #[v, .bool true]) w := by kernel_rfl
def ObPost (w : World) (l : List Value) (e : Ending) (w' : World) : Prop := e = .returned (.agg l.toArray) ∧ Below w.heap.size w w'
set_option maxHeartbeats 4000000 in
theorem object_blob (A : Option Addr) (n k : Nat) (w : World) : Calls Tryz.prog 41 #[.iface 111 (.slice A n k)] w (ObPost w (obL (.int .i64 1) (.slice A n k) (.slice none 0 0) zCom zTag)) := by
 have HB := Lib.hid (fun w => build_ob_blob (.slice A n k) ⟨_, _, _, rfl⟩ w)
 have HL : Hid ((obL (.int .i64 1) (.slice A n k) (.slice none 0 0) zCom zTag).length = 76) := obL_length _ _ _ _ _ zCom_length zTag_length
 have HO : Hid (∀ v ∈ (obL (.int .i64 1) (.slice A n k) (.slice none 0 0) zCom zTag), v.oneCell' = true) := obL_one _ _ _ _ _ rfl rfl rfl zCom_one zTag_one
 have HSI : Hid ((Tryz.prog.info? 47).map (·.size) = some (obL (.int .i64 1) (.slice A n k) (.slice none 0 0) zCom zTag).length) := by rw [HL.out]; exact info_ob
 have HSA : Hid ((Tryz.prog.info? 47).map (·.size) = some (obL (.int .i64 1) (.slice A n k) (.slice none 0 0) zCom zTag).toArray.size) := by rw [List.size_toArray, HL.out]; exact info_ob
 have HFT : Hid (0 + (obL (.int .i64 1) (.slice A n k) (.slice none 0 0) zCom zTag).length ≤ zOb.length) := by rw [HL.out]; exact Nat.le_refl _
 have HN := ob_new w
 have HT0 := assert_blob_blob A n k
 go_enter Tryz.func41, Tryz.ntmps41
 go_wp2_with (first
  | (with_reducible refine wpList_buildR rfl 47 _ rfl _ rfl _ (HB.out _) ?_)
  | (with_reducible refine wpList_storeG rfl 47 (.tmp 2) (.tmp 12) rfl w.heap.size 0 (obL (.int .i64 1) (.slice A n k) (.slice none 0 0) zCom zTag) rfl rfl zOb 47 HN.out HFT.out HO.out HSI.out ?_; intro w1 HB1 HG1))
 have HRW : Hid (w1.heap[w.heap.size]? = some (.cells (obL (.int .i64 1) (.slice A n k) (.slice none 0 0) zCom zTag).toArray 47 (0, 0))) := by
  have h1 := HB1.out
  rw [splice_all _ _ (by rw [HL.out]; rfl)] at h1
  exact h1
 have HV : Hid (ObPost w (obL (.int .i64 1) (.slice A n k) (.slice none 0 0) zCom zTag) (.returned (.agg (obL (.int .i64 1) (.slice A n k) (.slice none 0 0) zCom zTag).toArray)) w1) := ⟨rfl, below_of_gb (gb_fresh HG1.out)⟩
 exact bodyPost_ret (v := .agg (obL (.int .i64 1) (.slice A n k) (.slice none 0 0) zCom zTag).toArray) (results_cell_row Tryz.results41 _ w1 w.heap.size 47 (obL (.int .i64 1) (.slice A n k) (.slice none 0 0) zCom zTag).toArray (0, 0) _ rfl HRW.out Tryz.underlying47 rfl HSA.out) rfl HV.out
set_option maxHeartbeats 4000000 in
theorem object_tree (A : Option Addr) (n k : Nat) (w : World) : Calls Tryz.prog 41 #[.iface 112 (.slice A n k)] w (ObPost w (obL (.int .i64 2) (.slice none 0 0) (.slice A n k) zCom zTag)) := by
 have HB := Lib.hid (fun w => build_ob_tree (.slice A n k) ⟨_, _, _, rfl⟩ w)
 have HL : Hid ((obL (.int .i64 2) (.slice none 0 0) (.slice A n k) zCom zTag).length = 76) := obL_length _ _ _ _ _ zCom_length zTag_length
 have HO : Hid (∀ v ∈ (obL (.int .i64 2) (.slice none 0 0) (.slice A n k) zCom zTag), v.oneCell' = true) := obL_one _ _ _ _ _ rfl rfl rfl zCom_one zTag_one
 have HSI : Hid ((Tryz.prog.info? 47).map (·.size) = some (obL (.int .i64 2) (.slice none 0 0) (.slice A n k) zCom zTag).length) := by rw [HL.out]; exact info_ob
 have HSA : Hid ((Tryz.prog.info? 47).map (·.size) = some (obL (.int .i64 2) (.slice none 0 0) (.slice A n k) zCom zTag).toArray.size) := by rw [List.size_toArray, HL.out]; exact info_ob
 have HFT : Hid (0 + (obL (.int .i64 2) (.slice none 0 0) (.slice A n k) zCom zTag).length ≤ zOb.length) := by rw [HL.out]; exact Nat.le_refl _
 have HN := ob_new w
 have HT0 := assert_tree_blob A n k
 have HT1 := assert_tree_tree A n k
 go_enter Tryz.func41, Tryz.ntmps41
 go_wp2_with (first
  | (with_reducible refine wpList_buildR rfl 47 _ rfl _ rfl _ (HB.out _) ?_)
  | (with_reducible refine wpList_storeG rfl 47 (.tmp 2) (.tmp 17) rfl w.heap.size 0 (obL (.int .i64 2) (.slice none 0 0) (.slice A n k) zCom zTag) rfl rfl zOb 47 HN.out HFT.out HO.out HSI.out ?_; intro w1 HB1 HG1))
 have HRW : Hid (w1.heap[w.heap.size]? = some (.cells (obL (.int .i64 2) (.slice none 0 0) (.slice A n k) zCom zTag).toArray 47 (0, 0))) := by
  have h1 := HB1.out
  rw [splice_all _ _ (by rw [HL.out]; rfl)] at h1
  exact h1
 have HV : Hid (ObPost w (obL (.int .i64 2) (.slice none 0 0) (.slice A n k) zCom zTag) (.returned (.agg (obL (.int .i64 2) (.slice none 0 0) (.slice A n k) zCom zTag).toArray)) w1) := ⟨rfl, below_of_gb (gb_fresh HG1.out)⟩
 exact bodyPost_ret (v := .agg (obL (.int .i64 2) (.slice none 0 0) (.slice A n k) zCom zTag).toArray) (results_cell_row Tryz.results41 _ w1 w.heap.size 47 (obL (.int .i64 2) (.slice none 0 0) (.slice A n k) zCom zTag).toArray (0, 0) _ rfl HRW.out Tryz.underlying47 rfl HSA.out) rfl HV.out
end Go.Proofs.YtnjhjbmngoeobaaGreatDoor
