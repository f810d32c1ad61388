/- Laws towards WalkDeep: ComA. -/
import Derived.Test.YtnjhjbmngoeobaaGreatDoorMg08
namespace Go.Proofs.YtnjhjbmngoeobaaGreatDoor
open Go.RowKit
set_option maxRecDepth 100000
theorem gb_fresh {w w2 : World} {o : Obj} (h : (w.alloc o).grownBy w2 (some w.heap.size)) : w.grownBy w2 none :=
 ⟨h.os, h.tape, h.output, Nat.le_trans (gb_alloc (gb_refl w none) o).size h.size, fun j hj _ => (h.block j (Nat.lt_of_lt_of_le hj (gb_alloc (gb_refl w none) o).size) (fun e => by injection e with e; omega)).trans (Below.heap_alloc w o j hj)⟩
theorem own_far {w w' : World} {base : Nat} {e : TypeId} {size n g : Nat} {v : Value} {xs : List Value} (h : w.ownsRow base e size v n xs) (hg : w.grownBy w' (some g)) (hb : g < base) : w'.ownsRow base e size v n xs :=
 h.kept hg (.inr fun e => by have := (own_lt h g e).1; omega)
theorem info_id : ∃ i : TypeInfo, Tryz.prog.info? 30 = some i ∧ i.size = 32 ∧ i.bytes = 32 ∧ ∃ z, i.zero = some z ∧ z.cells.size = 32 := by
 have h : (Tryz.prog.info? 30).map (fun i => (i.size, i.bytes, i.zero.map (fun z => z.cells.size))) = some (32, 32, some 32) := by kernel_rfl
 cases hi : Tryz.prog.info? 30 with
 | none => rw [hi] at h; cases h
 | some i =>
   rw [hi] at h
   simp only [Option.map_some, Option.some.injEq, Prod.mk.injEq] at h
   obtain ⟨h1, h2, h3⟩ := h
   cases hz : i.zero with
   | none => rw [hz] at h3; cases h3
   | some z =>
     rw [hz] at h3
     exact ⟨i, rfl, h1, h2, z, hz, Option.some.inj h3⟩
theorem info_com : (Tryz.prog.info? 113).map (·.size) = some 36 := by kernel_rfl
def comL (i : Id) (s who : Value) (tm : Value) (text : Value) : List Value := U i.1 ++ [s, who, tm, text]
theorem comL_length (i : Id) (a b c d : Value) : (comL i a b c d).length = 36 := by simp [comL, U_length, i.2]
theorem comL_at (i : Id) (a b c d : Value) : (comL i a b c d)[32]? = some a ∧ (comL i a b c d)[33]? = some b ∧ (comL i a b c d)[34]? = some c ∧ (comL i a b c d)[35]? = some d := by
 have h : (U i.1).length = 32 := by rw [U_length]; exact i.2
 unfold comL
 refine ⟨?_, ?_, ?_, ?_⟩ <;> (rw [List.getElem?_append_right (by omega), h]; rfl)
theorem comL_set0 (i : Id) (a b c d x : Value) : (comL i a b c d).toArray.setIfInBounds 32 x = (comL i x b c d).toArray := by
 have h : (U i.1).length = 32 := by rw [U_length]; exact i.2
 apply Array.ext'
 simp only [comL, List.setIfInBounds_toArray, List.toList_toArray]
 rw [List.set_append_right _ _ (by omega), h]
 rfl
theorem comL_set1 (i : Id) (a b c d x : Value) : (comL i a b c d).toArray.setIfInBounds 33 x = (comL i a x c d).toArray := by
 have h : (U i.1).length = 32 := by rw [U_length]; exact i.2
 apply Array.ext'
 simp only [comL, List.setIfInBounds_toArray, List.toList_toArray]
 rw [List.set_append_right _ _ (by omega), h]
 rfl
theorem comL_set2 (i : Id) (a b c d x : Value) : (comL i a b c d).toArray.setIfInBounds 34 x = (comL i a b x d).toArray := by
 have h : (U i.1).length = 32 := by rw [U_length]; exact i.2
 apply Array.ext'
 simp only [comL, List.setIfInBounds_toArray, List.toList_toArray]
 rw [List.set_append_right _ _ (by omega), h]
 rfl
theorem comL_set3 (i : Id) (a b c d x : Value) : (comL i a b c d).toArray.setIfInBounds 35 x = (comL i a b c x).toArray := by
 have h : (U i.1).length = 32 := by rw [U_length]; exact i.2
 apply Array.ext'
 simp only [comL, List.setIfInBounds_toArray, List.toList_toArray]
 rw [List.set_append_right _ _ (by omega), h]
 rfl
theorem comL_one (i : Id) (a b c d : Value) (ha : a.oneCell' = true) (hb : b.oneCell' = true) (hc : c.oneCell' = true) (hd : d.oneCell' = true) : ∀ v ∈ comL i a b c d, v.oneCell' = true := by
 intro v hv
 simp only [comL, List.mem_append, List.mem_cons, List.not_mem_nil, or_false] at hv
 rcases hv with hv | rfl | rfl | rfl | rfl
 · exact U_one _ v hv
 all_goals assumption
def zCom : List Value := comL zeroId (.slice none 0 0) (.string ⟨#[]⟩) (.int .u64 0) (.string ⟨#[]⟩)
theorem zCom_lit : (#[Value.int IntKind.u8 0, Value.int IntKind.u8 0, Value.int IntKind.u8 0, Value.int IntKind.u8 0, Value.int IntKind.u8 0, Value.int IntKind.u8 0, Value.int IntKind.u8 0, Value.int IntKind.u8 0, Value.int IntKind.u8 0, Value.int IntKind.u8 0, Value.int IntKind.u8 0, Value.int IntKind.u8 0, Value.int IntKind.u8 0, Value.int IntKind.u8 0, Value.int IntKind.u8 0, Value.int IntKind.u8 0, Value.int IntKind.u8 0, Value.int IntKind.u8 0, Value.int IntKind.u8 0, Value.int IntKind.u8 0, Value.int IntKind.u8 0, Value.int IntKind.u8 0, Value.int IntKind.u8 0, Value.int IntKind.u8 0, Value.int IntKind.u8 0, Value.int IntKind.u8 0, Value.int IntKind.u8 0, Value.int IntKind.u8 0, Value.int IntKind.u8 0, Value.int IntKind.u8 0, Value.int IntKind.u8 0, Value.int IntKind.u8 0, Value.slice none 0 0, Value.string { data := #[] }, Value.int IntKind.u64 0, Value.string { data := #[] }] : Array Value) = zCom.toArray := rfl
theorem com_new (w : World) : Hid ((w.alloc (.cells #[Value.int IntKind.u8 0, Value.int IntKind.u8 0, Value.int IntKind.u8 0, Value.int IntKind.u8 0, Value.int IntKind.u8 0, Value.int IntKind.u8 0, Value.int IntKind.u8 0, Value.int IntKind.u8 0, Value.int IntKind.u8 0, Value.int IntKind.u8 0, Value.int IntKind.u8 0, Value.int IntKind.u8 0, Value.int IntKind.u8 0, Value.int IntKind.u8 0, Value.int IntKind.u8 0, Value.int IntKind.u8 0, Value.int IntKind.u8 0, Value.int IntKind.u8 0, Value.int IntKind.u8 0, Value.int IntKind.u8 0, Value.int IntKind.u8 0, Value.int IntKind.u8 0, Value.int IntKind.u8 0, Value.int IntKind.u8 0, Value.int IntKind.u8 0, Value.int IntKind.u8 0, Value.int IntKind.u8 0, Value.int IntKind.u8 0, Value.int IntKind.u8 0, Value.int IntKind.u8 0, Value.int IntKind.u8 0, Value.int IntKind.u8 0, Value.slice none 0 0, Value.string { data := #[] }, Value.int IntKind.u64 0, Value.string { data := #[] }] 113)).heap[w.heap.size]? = some (.cells zCom.toArray 113 (0, 0))) := by
 show _ = _
 rw [zCom_lit]
 exact heap_alloc_new w _
theorem splice_com (i : Id) (a b c d : Value) : splice zCom 0 (comL i a b c d) = comL i a b c d := splice_all _ _ (by rw [comL_length]; rfl)
theorem com_fit (i : Id) (a b c d : Value) : 0 + (comL i a b c d).length ≤ zCom.length := by rw [comL_length]; decide
def ComEnd (w : World) (g : Nat) (i : Id) (A : Option Addr) (m k : Nat) (ps : List Id) (who : Bs) (tm : Nat) (text : Bs) (t : Bs) (v : Value) (w' : World) : Prop :=
 v = .agg (comL i (.slice A m k) (.string ⟨who.toArray⟩) (.int .u64 (tm : Int)) (.string ⟨text.toArray⟩)).toArray ∧ w'.ownsRow w.heap.size 30 32 (.slice A m k) m (ps.flatMap fun p => U p.1) ∧ Rdx w' g (some t) ∧ w.grownBy w' (some g)
set_option maxHeartbeats 4000000 in
theorem readCommit_nil (g : Nat) (i : Id) (who text t : Bs) (tm : Nat) (w : World) (h : Rdx w g (some (i.1 ++ (0 :: (layB who ++ (be8 tm ++ (layB text ++ t))))))) (hw : who.length ≤ 255) (htx : text.length ≤ 4096) (htm : tm < 18446744073709551616) :
 Calls Tryz.prog 62 #[.pointer (some ⟨g, 0, none⟩)] w fun e w' => ∃ v, e = .returned (.iface 113 v) ∧ ComEnd w g i none 0 0 [] who tm text t v w' := by
 have HID := Lib.hid (rid_any g _ w h)
 unfold Hid RidPost at HID
 rw [rId_lay] at HID
 have HID := Lib.hid HID
 have hgl := h.lt
 obtain ⟨c0, c1, c2, c3, c4, c5, c6, c7, c8, c9, c10, c11, c12, c13, c14, c15, c16, c17, c18, c19, c20, c21, c22, c23, c24, c25, c26, c27, c28, c29, c30, c31, hU⟩ := id32 i
 have HL : Hid ([c0, c1, c2, c3, c4, c5, c6, c7, c8, c9, c10, c11, c12, c13, c14, c15, c16, c17, c18, c19, c20, c21, c22, c23, c24, c25, c26, c27, c28, c29, c30, c31, Value.slice none 0 0, Value.string ⟨#[]⟩, Value.int .u64 0, Value.string ⟨#[]⟩] = comL i (.slice none 0 0) (.string ⟨#[]⟩) (.int .u64 0) (.string ⟨#[]⟩)) := by show _ = _; unfold comL; rw [hU]; rfl
 have HSI : Hid ((Tryz.prog.info? 113).map (·.size) = some [c0, c1, c2, c3, c4, c5, c6, c7, c8, c9, c10, c11, c12, c13, c14, c15, c16, c17, c18, c19, c20, c21, c22, c23, c24, c25, c26, c27, c28, c29, c30, c31, Value.slice none 0 0, Value.string ⟨#[]⟩, Value.int .u64 0, Value.string ⟨#[]⟩].length) := info_com
 have HFT : Hid (0 + [c0, c1, c2, c3, c4, c5, c6, c7, c8, c9, c10, c11, c12, c13, c14, c15, c16, c17, c18, c19, c20, c21, c22, c23, c24, c25, c26, c27, c28, c29, c30, c31, Value.slice none 0 0, Value.string ⟨#[]⟩, Value.int .u64 0, Value.string ⟨#[]⟩].length ≤ zCom.length) := by show _ ≤ _; rw [HL.out]; exact com_fit i _ _ _ _
 have HON : Hid (∀ v ∈ [c0, c1, c2, c3, c4, c5, c6, c7, c8, c9, c10, c11, c12, c13, c14, c15, c16, c17, c18, c19, c20, c21, c22, c23, c24, c25, c26, c27, c28, c29, c30, c31, Value.slice none 0 0, Value.string ⟨#[]⟩, Value.int .u64 0, Value.string ⟨#[]⟩], v.oneCell' = true) := by rw [HL.out]; exact comL_one i (.slice none 0 0) (.string ⟨#[]⟩) (.int .u64 0) (.string ⟨#[]⟩) rfl rfl rfl rfl
 unfold Hid at HID
 rw [hU] at HID
 have HID := Lib.hid HID
 clear hU
 clear h
 go_enter Tryz.func62, Tryz.ntmps62
 go_wp2_with fail
 refine HID.out.mono ?_
 rintro e w1 ⟨rfl, h1, g1⟩
 have HR1 := Lib.hid h1
 have HG1 := Lib.hid g1
 have HN := com_new w1
 clear h1 g1 HID
 go_upto_region 2 with (first
  | (with_reducible refine wpList_storeG rfl 113 (.tmp 3) (.tmp 7) rfl w1.heap.size 0 [c0, c1, c2, c3, c4, c5, c6, c7, c8, c9, c10, c11, c12, c13, c14, c15, c16, c17, c18, c19, c20, c21, c22, c23, c24, c25, c26, c27, c28, c29, c30, c31, Value.slice none 0 0, Value.string ⟨#[]⟩, Value.int .u64 0, Value.string ⟨#[]⟩] rfl rfl zCom 113 HN.out HFT.out HON.out HSI.out ?_; intro w2 HB2 HG2))
 have HC : Hid (Blk w2 w1.heap.size 113 (comL i (.slice none 0 0) (.string ⟨#[]⟩) (.int .u64 0) (.string ⟨#[]⟩)).toArray) := by
  have h1 := HB2.out
  rw [HL.out, splice_com] at h1
  exact h1
 have G2 : w1.grownBy w2 none := gb_fresh HG2.out
 have HG : Hid (w.grownBy w2 (some g)) := gb_trans HG1.out (gb_none G2)
 have HR : Hid (Rdx w2 g (some (0 :: (layB who ++ (be8 tm ++ (layB text ++ t)))))) := HR1.out.keep G2
 have HQ : Hid (w.heap.size ≤ w1.heap.size) := HG1.out.size
 clear G2 HB2 HG2 HG1 HR1 HN HON HFT HSI HL
 generalize w1.heap.size = q at *
 have HV := Lib.hid (rnum_any g 8 _ w2 HR.out)
 unfold Hid RdPost at HV
 have e0 : rNum 8 (some (0 :: (layB who ++ (be8 tm ++ (layB text ++ t))))) = (0, some (layB who ++ (be8 tm ++ (layB text ++ t)))) := rfl
 rw [e0] at HV
 have HV := Lib.hid HV
 clear e0 HR
 go_wp2_with fail
 refine HV.out.mono ?_
 rintro e w5 ⟨rfl, h5, g5⟩
 have HCt := Lib.hid (HC.out.gb g5 (by have := HQ.out; simp; omega))
 have HGt : Hid (w.grownBy w5 (some g)) := gb_trans HG.out g5
 have HRt := Lib.hid h5
 clear h5 g5 HV HC HG
 go_wp2_with fail
 refine wp_loop_rounds 1 ?_
 rw [rounds_succ]
 have HOW : Hid (w5.ownsRow w.heap.size 30 32 (.slice none 0 0) 0 (([] : List Id).flatMap fun p => U p.1)) := own_nil _ _ _ _
 have HNQ : Hid ((Value.slice none 0 0).ownBlock ≠ some q) := fun e => by cases e
 have HBY := Lib.hid (fun w' (h : Rdx w' g (some (layB who ++ (be8 tm ++ (layB text ++ t))))) => rbytes_any g 255 _ w' h (by omega) (by omega))
 unfold Hid RawPost at HBY
 rw [rBytes_lay who 255 hw (by omega)] at HBY
 have HBY := Lib.hid HBY
 have HU6 := Lib.hid (fun w' (h : Rdx w' g (some (be8 tm ++ (layB text ++ t)))) => ru64_any g _ w' h)
 unfold Hid RdPost at HU6
 rw [rU64_lay tm htm] at HU6
 have HU6 := Lib.hid HU6
 have HBZ := Lib.hid (fun w' (h : Rdx w' g (some (layB text ++ t))) => rbytes_any g 4096 _ w' h (by omega) (by omega))
 unfold Hid RawPost at HBZ
 rw [rBytes_lay text 4096 htx (by omega)] at HBZ
 have HBZ := Lib.hid HBZ
 have hgq : g ≠ q := by have := HQ.out; omega
 have HSC : Hid ((Tryz.prog.info? 113).map (·.size) = some (comL i (.slice none 0 0) (.string ⟨who.toArray⟩) (.int .u64 (tm : Int)) (.string ⟨text.toArray⟩)).toArray.size) := by show _ = some _; rw [List.size_toArray, comL_length]; exact info_com
 go_wp2_with fail
 refine (HBY.out _ HRt.out).mono ?_
 rintro e w6 ⟨q6, n6, rfl, rfl, hq6, hB6, hR6, hG6⟩
 have K6 := str_back hB6 w6 g (gb_refl _ _) (by have := HGt.out.size; omega)
 have HC6 := Lib.hid (HCt.out.gb hG6 (by simp; omega))
 have HG6 : Hid (w.grownBy w6 (some g)) := gb_trans HGt.out hG6
 have HR6 := Lib.hid hR6
 have HOW6 := Lib.hid (own_far HOW.out hG6 hgl)
 clear HOW
 have c33 : w6.cell? ⟨q, 33, none⟩ = some (.string ⟨#[]⟩) := by rw [HC6.out.cell, List.getElem?_toArray, (comL_at _ _ _ _ _).2.1]
 have f33 := HC6.out.frozen 33
 clear hB6 hq6 hR6 HCt HGt HRt HBY
 go_wp2_with fail
 have HC7 := Lib.hid (HC6.out.set_ 33 (.string ⟨who.toArray⟩))
 unfold Hid at HC7
 rw [comL_set1] at HC7
 have HC7 := Lib.hid HC7
 have HS7 := Lib.hid (gb_set (p := ⟨q, 33, none⟩) (gb_refl w6 (some q)) (.inl rfl) (.string ⟨who.toArray⟩))
 have HR7 := Lib.hid (HR6.out.far HC6.out (by decide) (by decide) HS7.out)
 have HG7 := Lib.hid (gb_join HG6.out HS7.out HQ.out)
 have HOW7 := Lib.hid (HOW6.out.kept HS7.out (.inr HNQ.out))
 clear HOW6
 clear c33 f33 K6 HC6 HG6 HR6 HS7
 generalize w6.setCell ⟨q, 33, none⟩ (.string ⟨who.toArray⟩) = w7 at *
 refine (HU6.out _ HR7.out).mono ?_
 rintro e w8 ⟨rfl, hR8, hG8⟩
 have HC8 := Lib.hid (HC7.out.gb hG8 (by simp; omega))
 have HG8 : Hid (w.grownBy w8 (some g)) := gb_trans HG7.out hG8
 have HR8 := Lib.hid hR8
 have HOW8 := Lib.hid (own_far HOW7.out hG8 hgl)
 clear HOW7
 have c34 : w8.cell? ⟨q, 34, none⟩ = some (.int .u64 0) := by rw [HC8.out.cell, List.getElem?_toArray, (comL_at _ _ _ _ _).2.2.1]
 have f34 := HC8.out.frozen 34
 clear hR8 hG8 HR7 HC7 HG7 HU6
 go_wp2_with fail
 have HC9 := Lib.hid (HC8.out.set_ 34 (.int .u64 (tm : Int)))
 unfold Hid at HC9
 rw [comL_set2] at HC9
 have HC9 := Lib.hid HC9
 have HS9 := Lib.hid (gb_set (p := ⟨q, 34, none⟩) (gb_refl w8 (some q)) (.inl rfl) (.int .u64 (tm : Int)))
 have HR9 := Lib.hid (HR8.out.far HC8.out (by decide) (by decide) HS9.out)
 have HG9 := Lib.hid (gb_join HG8.out HS9.out HQ.out)
 have HOW9 := Lib.hid (HOW8.out.kept HS9.out (.inr HNQ.out))
 clear HOW8
 clear c34 f34 HC8 HG8 HR8 HS9
 generalize w8.setCell ⟨q, 34, none⟩ (.int .u64 (tm : Int)) = w9 at *
 refine (HBZ.out _ HR9.out).mono ?_
 rintro e wa ⟨qa, na, rfl, rfl, hqa, hBa, hRa, hGa⟩
 have Ka := str_back hBa wa g (gb_refl _ _) (by have := HG9.out.size; omega)
 have HCa := Lib.hid (HC9.out.gb hGa (by simp; omega))
 have HGa : Hid (w.grownBy wa (some g)) := gb_trans HG9.out hGa
 have HRa := Lib.hid hRa
 have HOWa := Lib.hid (own_far HOW9.out hGa hgl)
 clear HOW9
 have c35 : wa.cell? ⟨q, 35, none⟩ = some (.string ⟨#[]⟩) := by rw [HCa.out.cell, List.getElem?_toArray, (comL_at _ _ _ _ _).2.2.2]
 have f35 := HCa.out.frozen 35
 clear hBa hqa hRa hGa HC9 HG9 HR9 HBZ
 have HCb := Lib.hid (HCa.out.set_ 35 (.string ⟨text.toArray⟩))
 unfold Hid at HCb
 rw [comL_set3] at HCb
 have HCb := Lib.hid HCb
 have HSb := Lib.hid (gb_set (p := ⟨q, 35, none⟩) (gb_refl wa (some q)) (.inl rfl) (.string ⟨text.toArray⟩))
 have HRb := Lib.hid (HRa.out.far HCa.out (by decide) (by decide) HSb.out)
 have HGb := Lib.hid (gb_join HGa.out HSb.out HQ.out)
 clear HCa HGa HRa
 have HLO : Hid ((wa.setCell ⟨q, 35, none⟩ (.string ⟨text.toArray⟩)).heap[q]? = some (.cells (comL i (.slice none 0 0) (.string ⟨who.toArray⟩) (.int .u64 (tm : Int)) (.string ⟨text.toArray⟩)).toArray 113 (0, 0))) := HCb.out
 have HEND : Hid (ComEnd w g i none 0 0 [] who tm text t (.agg (comL i (.slice none 0 0) (.string ⟨who.toArray⟩) (.int .u64 (tm : Int)) (.string ⟨text.toArray⟩)).toArray) (wa.setCell ⟨q, 35, none⟩ (.string ⟨text.toArray⟩))) := ⟨rfl, HOWa.out.kept HSb.out (.inr HNQ.out), HRb.out, HGb.out⟩
 clear HCb HRb HGb HSb HOWa
 go_wp2_with (with_reducible refine wpList_load_row rfl 113 (.tmp 3) rfl q rfl 113 (comL i (.slice none 0 0) (.string ⟨who.toArray⟩) (.int .u64 (tm : Int)) (.string ⟨text.toArray⟩)).toArray (0, 0) _ HLO.out Tryz.underlying113 rfl HSC.out ?_)
 go_ret
 exact ⟨_, rfl, HEND.out⟩
set_option maxHeartbeats 4000000 in
theorem readCommit_one (g : Nat) (i p : Id) (who text t : Bs) (tm : Nat) (w : World) (h : Rdx w g (some (i.1 ++ (1 :: (p.1 ++ (layB who ++ (be8 tm ++ (layB text ++ t)))))))) (hw : who.length ≤ 255) (htx : text.length ≤ 4096) (htm : tm < 18446744073709551616) (he : ErrTab w) (hge : 2 ≠ g) :
 Calls Tryz.prog 62 #[.pointer (some ⟨g, 0, none⟩)] w fun e w' => ∃ v, e = .returned (.iface 113 v) ∧ ∃ A k, ComEnd w g i A 1 k [p] who tm text t v w' := by
 have HID := Lib.hid (rid_any g _ w h)
 unfold Hid RidPost at HID
 rw [rId_lay] at HID
 have HID := Lib.hid HID
 have hgl := h.lt
 have HE := Lib.hid he
 have hlt := he.lt
 clear he
 obtain ⟨c0, c1, c2, c3, c4, c5, c6, c7, c8, c9, c10, c11, c12, c13, c14, c15, c16, c17, c18, c19, c20, c21, c22, c23, c24, c25, c26, c27, c28, c29, c30, c31, hU⟩ := id32 i
 have HL : Hid ([c0, c1, c2, c3, c4, c5, c6, c7, c8, c9, c10, c11, c12, c13, c14, c15, c16, c17, c18, c19, c20, c21, c22, c23, c24, c25, c26, c27, c28, c29, c30, c31, Value.slice none 0 0, Value.string ⟨#[]⟩, Value.int .u64 0, Value.string ⟨#[]⟩] = comL i (.slice none 0 0) (.string ⟨#[]⟩) (.int .u64 0) (.string ⟨#[]⟩)) := by show _ = _; unfold comL; rw [hU]; rfl
 have HSI : Hid ((Tryz.prog.info? 113).map (·.size) = some [c0, c1, c2, c3, c4, c5, c6, c7, c8, c9, c10, c11, c12, c13, c14, c15, c16, c17, c18, c19, c20, c21, c22, c23, c24, c25, c26, c27, c28, c29, c30, c31, Value.slice none 0 0, Value.string ⟨#[]⟩, Value.int .u64 0, Value.string ⟨#[]⟩].length) := info_com
 have HFT : Hid (0 + [c0, c1, c2, c3, c4, c5, c6, c7, c8, c9, c10, c11, c12, c13, c14, c15, c16, c17, c18, c19, c20, c21, c22, c23, c24, c25, c26, c27, c28, c29, c30, c31, Value.slice none 0 0, Value.string ⟨#[]⟩, Value.int .u64 0, Value.string ⟨#[]⟩].length ≤ zCom.length) := by show _ ≤ _; rw [HL.out]; exact com_fit i _ _ _ _
 have HON : Hid (∀ v ∈ [c0, c1, c2, c3, c4, c5, c6, c7, c8, c9, c10, c11, c12, c13, c14, c15, c16, c17, c18, c19, c20, c21, c22, c23, c24, c25, c26, c27, c28, c29, c30, c31, Value.slice none 0 0, Value.string ⟨#[]⟩, Value.int .u64 0, Value.string ⟨#[]⟩], v.oneCell' = true) := by rw [HL.out]; exact comL_one i (.slice none 0 0) (.string ⟨#[]⟩) (.int .u64 0) (.string ⟨#[]⟩) rfl rfl rfl rfl
 unfold Hid at HID
 rw [hU] at HID
 have HID := Lib.hid HID
 clear hU
 clear h
 go_enter Tryz.func62, Tryz.ntmps62
 go_wp2_with fail
 refine HID.out.mono ?_
 rintro e w1 ⟨rfl, h1, g1⟩
 have HR1 := Lib.hid h1
 have HG1 := Lib.hid g1
 have HN := com_new w1
 clear h1 g1 HID
 go_upto_region 2 with (first
  | (with_reducible refine wpList_storeG rfl 113 (.tmp 3) (.tmp 7) rfl w1.heap.size 0 [c0, c1, c2, c3, c4, c5, c6, c7, c8, c9, c10, c11, c12, c13, c14, c15, c16, c17, c18, c19, c20, c21, c22, c23, c24, c25, c26, c27, c28, c29, c30, c31, Value.slice none 0 0, Value.string ⟨#[]⟩, Value.int .u64 0, Value.string ⟨#[]⟩] rfl rfl zCom 113 HN.out HFT.out HON.out HSI.out ?_; intro w2 HB2 HG2))
 have HC : Hid (Blk w2 w1.heap.size 113 (comL i (.slice none 0 0) (.string ⟨#[]⟩) (.int .u64 0) (.string ⟨#[]⟩)).toArray) := by
  have h1 := HB2.out
  rw [HL.out, splice_com] at h1
  exact h1
 have G2 : w1.grownBy w2 none := gb_fresh HG2.out
 have HG : Hid (w.grownBy w2 (some g)) := gb_trans HG1.out (gb_none G2)
 have HR : Hid (Rdx w2 g (some (1 :: (p.1 ++ (layB who ++ (be8 tm ++ (layB text ++ t))))))) := HR1.out.keep G2
 have HQ : Hid (w.heap.size ≤ w1.heap.size) := HG1.out.size
 clear G2 HB2 HG2 HG1 HR1 HN HON HFT HSI HL
 generalize w1.heap.size = q at *
 have HV := Lib.hid (rnum_any g 8 _ w2 HR.out)
 unfold Hid RdPost at HV
 have e0 : rNum 8 (some (1 :: (p.1 ++ (layB who ++ (be8 tm ++ (layB text ++ t)))))) = (1, some (p.1 ++ (layB who ++ (be8 tm ++ (layB text ++ t))))) := rfl
 rw [e0] at HV
 have HV := Lib.hid HV
 clear e0 HR
 go_wp2_with fail
 refine HV.out.mono ?_
 rintro e w5 ⟨rfl, h5, g5⟩
 have HCt := Lib.hid (HC.out.gb g5 (by have := HQ.out; simp; omega))
 have HGt : Hid (w.grownBy w5 (some g)) := gb_trans HG.out g5
 have HRt := Lib.hid h5
 have HE5 := Lib.hid (HE.out.gb HGt.out hlt hge)
 have HFA := Lib.hid (rfault_ok g _ w5 h5 HE5.out)
 clear h5 g5 HV HC HG HE5
 go_wp2_with fail
 refine wp_loop_rounds 2 ?_
 rw [rounds_succ]
 go_wp2_with fail
 refine HFA.out.mono ?_
 rintro e w4 ⟨rfl, rfl⟩
 go_wp2_with fail
 have HID := Lib.hid (fun w' (h : Rdx w' g (some (p.1 ++ (layB who ++ (be8 tm ++ (layB text ++ t)))))) => rid_any g _ w' h)
 unfold Hid RidPost at HID
 rw [rId_lay] at HID
 have HID := Lib.hid HID
 have HOP : Hid (∀ u ∈ U p.1, u.oneCell' = true) := U_one _
 obtain ⟨d0, d1, d2, d3, d4, d5, d6, d7, d8, d9, d10, d11, d12, d13, d14, d15, d16, d17, d18, d19, d20, d21, d22, d23, d24, d25, d26, d27, d28, d29, d30, d31, hP⟩ := id32 p
 unfold Hid at HID HOP
 rw [hP] at HID HOP
 have HID := Lib.hid HID
 have HUP := Lib.hid hP
 have HOL : Hid (∀ u ∈ (#[d0, d1, d2, d3, d4, d5, d6, d7, d8, d9, d10, d11, d12, d13, d14, d15, d16, d17, d18, d19, d20, d21, d22, d23, d24, d25, d26, d27, d28, d29, d30, d31] : Array Value).toList, u.oneCell' = true) := HOP
 clear hP HOP
 obtain ⟨ie, hie, his, hib, ze, hiz, hzs⟩ := info_id
 have c32 : w5.cell? ⟨q, 32, none⟩ = some (.slice none 0 0) := by rw [HCt.out.cell, List.getElem?_toArray, (comL_at _ _ _ _ _).1]
 have f32 := HCt.out.frozen 32
 have KQ := Lib.hid (And.intro c32 f32)
 clear HFA
 go_region_law (first
  | (refine step_pushK w6 rfl (.tmp 20) (.tmp 23) 28 rfl w6.heap.size 30 ie ze 32 32 Tryz.underlying28 hie hiz his hib hzs (by decide) none 0 0 [] rfl (own_nil _ _ _ _) #[d0, d1, d2, d3, d4, d5, d6, d7, d8, d9, d10, d11, d12, d13, d14, d15, d16, d17, d18, d19, d20, d21, d22, d23, d24, d25, d26, d27, d28, d29, d30, d31] 1 _ rfl HOL.out rfl (by decide) (by decide) (Nat.le_refl _) ?_; intro A7 k7 w7 hown7 hg7; have HC7 := Lib.hid (HC6.out.gb (gb_none (row := none) hg7) (by simp)); have KQ7 : w7.cell? ⟨q, 32, none⟩ = some (.slice none 0 0) ∧ w7.frozen? ⟨q, 32, none⟩ = false := ⟨by rw [HC7.out.cell, List.getElem?_toArray, (comL_at _ _ _ _ _).1], HC7.out.frozen 32⟩; have c32c := KQ7.1; have f32c := KQ7.2)
  | (go_simp
     refine (HID.out w5.drew (HRt.out.drewN 1)).mono ?_
     rintro e w6 ⟨rfl, hR6, hG6⟩
     have HC6 := Lib.hid (HCt.out.gb (gb_trans (gb_drew (gb_refl _ _)) hG6) (by have := HQ.out; simp; omega))
     have KQ4 : w6.cell? ⟨q, 32, none⟩ = some (.slice none 0 0) ∧ w6.frozen? ⟨q, 32, none⟩ = false := ⟨by rw [HC6.out.cell, List.getElem?_toArray, (comL_at _ _ _ _ _).1], HC6.out.frozen 32⟩
     have c32b := KQ4.1
     have f32b := KQ4.2
     have c32d : ∀ o, (w6.alloc o).cell? ⟨q, 32, none⟩ = some (.slice none 0 0) := fun o => by rw [(HC6.out.alloc o).cell, List.getElem?_toArray, (comL_at _ _ _ _ _).1]
     have f32d : ∀ o, (w6.alloc o).frozen? ⟨q, 32, none⟩ = false := fun o => (HC6.out.alloc o).frozen 32))
 all_goals
  have HCn := Lib.hid (HC7.out.set_ 32 (.slice A7 1 k7))
  unfold Hid at HCn
  rw [comL_set0] at HCn
  have HCn := Lib.hid HCn
  have HSn := Lib.hid (gb_set (p := ⟨q, 32, none⟩) (gb_refl w7 (some q)) (.inl rfl) (.slice A7 1 k7))
  have HRn := Lib.hid ((hR6.keep hg7).far HC7.out (by decide) (by decide) HSn.out)
  have HGn := Lib.hid (gb_join (gb_trans (gb_trans (gb_drew HGt.out) hG6) (gb_none hg7)) HSn.out HQ.out)
  have hq6 : q < w6.heap.size := HC6.out.lt
  have hbs : w.heap.size ≤ w6.heap.size := Nat.le_trans HGt.out.size hG6.size
  have HNQ : Hid ((Value.slice A7 1 k7).ownBlock ≠ some q) := fun e => by have := (own_lt hown7 q e).1; omega
  have HOW : Hid ((w7.setCell ⟨q, 32, none⟩ (.slice A7 1 k7)).ownsRow w.heap.size 30 32 (.slice A7 1 k7) 1 ([p].flatMap fun p => U p.1)) := by
   have h1 := (own_base hown7 hbs).kept HSn.out (.inr HNQ.out)
   have e1 : ([p].flatMap fun p => U p.1) = [d0, d1, d2, d3, d4, d5, d6, d7, d8, d9, d10, d11, d12, d13, d14, d15, d16, d17, d18, d19, d20, d21, d22, d23, d24, d25, d26, d27, d28, d29, d30, d31] := by rw [← HUP.out]; simp
   show World.ownsRow _ _ _ _ _ _ _
   rw [e1]
   exact h1
  clear HCt HRt HGt c32 f32 KQ HC6 KQ4 c32b f32b c32d f32d HC7 KQ7 c32c f32c hown7 hg7 hR6 hG6 HSn HID HOL HUP hq6 hbs
  generalize w7.setCell ⟨q, 32, none⟩ (.slice A7 1 k7) = w5 at *
  have HRt := HRn
  have HCt := HCn
  have HGt := HGn
  clear HRn HCn HGn
  go_wp2_with fail
  rw [rounds_succ]
  have HBY := Lib.hid (fun w' (h : Rdx w' g (some (layB who ++ (be8 tm ++ (layB text ++ t))))) => rbytes_any g 255 _ w' h (by omega) (by omega))
  unfold Hid RawPost at HBY
  rw [rBytes_lay who 255 hw (by omega)] at HBY
  have HBY := Lib.hid HBY
  have HU6 := Lib.hid (fun w' (h : Rdx w' g (some (be8 tm ++ (layB text ++ t)))) => ru64_any g _ w' h)
  unfold Hid RdPost at HU6
  rw [rU64_lay tm htm] at HU6
  have HU6 := Lib.hid HU6
  have HBZ := Lib.hid (fun w' (h : Rdx w' g (some (layB text ++ t))) => rbytes_any g 4096 _ w' h (by omega) (by omega))
  unfold Hid RawPost at HBZ
  rw [rBytes_lay text 4096 htx (by omega)] at HBZ
  have HBZ := Lib.hid HBZ
  have hgq : g ≠ q := by have := HQ.out; omega
  have HSC : Hid ((Tryz.prog.info? 113).map (·.size) = some (comL i (.slice A7 1 k7) (.string ⟨who.toArray⟩) (.int .u64 (tm : Int)) (.string ⟨text.toArray⟩)).toArray.size) := by show _ = some _; rw [List.size_toArray, comL_length]; exact info_com
  go_wp2_with fail
  refine (HBY.out _ HRt.out).mono ?_
  rintro e w6 ⟨q6, n6, rfl, rfl, hq6, hB6, hR6, hG6⟩
  have K6 := str_back hB6 w6 g (gb_refl _ _) (by have := HGt.out.size; omega)
  have HC6 := Lib.hid (HCt.out.gb hG6 (by simp; omega))
  have HG6 : Hid (w.grownBy w6 (some g)) := gb_trans HGt.out hG6
  have HR6 := Lib.hid hR6
  have HOW6 := Lib.hid (own_far HOW.out hG6 hgl)
  clear HOW
  have c33 : w6.cell? ⟨q, 33, none⟩ = some (.string ⟨#[]⟩) := by rw [HC6.out.cell, List.getElem?_toArray, (comL_at _ _ _ _ _).2.1]
  have f33 := HC6.out.frozen 33
  clear hB6 hq6 hR6 HCt HGt HRt HBY
  go_wp2_with fail
  have HC7 := Lib.hid (HC6.out.set_ 33 (.string ⟨who.toArray⟩))
  unfold Hid at HC7
  rw [comL_set1] at HC7
  have HC7 := Lib.hid HC7
  have HS7 := Lib.hid (gb_set (p := ⟨q, 33, none⟩) (gb_refl w6 (some q)) (.inl rfl) (.string ⟨who.toArray⟩))
  have HR7 := Lib.hid (HR6.out.far HC6.out (by decide) (by decide) HS7.out)
  have HG7 := Lib.hid (gb_join HG6.out HS7.out HQ.out)
  have HOW7 := Lib.hid (HOW6.out.kept HS7.out (.inr HNQ.out))
  clear HOW6
  clear c33 f33 K6 HC6 HG6 HR6 HS7
  generalize w6.setCell ⟨q, 33, none⟩ (.string ⟨who.toArray⟩) = w7 at *
  refine (HU6.out _ HR7.out).mono ?_
  rintro e w8 ⟨rfl, hR8, hG8⟩
  have HC8 := Lib.hid (HC7.out.gb hG8 (by simp; omega))
  have HG8 : Hid (w.grownBy w8 (some g)) := gb_trans HG7.out hG8
  have HR8 := Lib.hid hR8
  have HOW8 := Lib.hid (own_far HOW7.out hG8 hgl)
  clear HOW7
  have c34 : w8.cell? ⟨q, 34, none⟩ = some (.int .u64 0) := by rw [HC8.out.cell, List.getElem?_toArray, (comL_at _ _ _ _ _).2.2.1]
  have f34 := HC8.out.frozen 34
  clear hR8 hG8 HR7 HC7 HG7 HU6
  go_wp2_with fail
  have HC9 := Lib.hid (HC8.out.set_ 34 (.int .u64 (tm : Int)))
  unfold Hid at HC9
  rw [comL_set2] at HC9
  have HC9 := Lib.hid HC9
  have HS9 := Lib.hid (gb_set (p := ⟨q, 34, none⟩) (gb_refl w8 (some q)) (.inl rfl) (.int .u64 (tm : Int)))
  have HR9 := Lib.hid (HR8.out.far HC8.out (by decide) (by decide) HS9.out)
  have HG9 := Lib.hid (gb_join HG8.out HS9.out HQ.out)
  have HOW9 := Lib.hid (HOW8.out.kept HS9.out (.inr HNQ.out))
  clear HOW8
  clear c34 f34 HC8 HG8 HR8 HS9
  generalize w8.setCell ⟨q, 34, none⟩ (.int .u64 (tm : Int)) = w9 at *
  refine (HBZ.out _ HR9.out).mono ?_
  rintro e wa ⟨qa, na, rfl, rfl, hqa, hBa, hRa, hGa⟩
  have Ka := str_back hBa wa g (gb_refl _ _) (by have := HG9.out.size; omega)
  have HCa := Lib.hid (HC9.out.gb hGa (by simp; omega))
  have HGa : Hid (w.grownBy wa (some g)) := gb_trans HG9.out hGa
  have HRa := Lib.hid hRa
  have HOWa := Lib.hid (own_far HOW9.out hGa hgl)
  clear HOW9
  have c35 : wa.cell? ⟨q, 35, none⟩ = some (.string ⟨#[]⟩) := by rw [HCa.out.cell, List.getElem?_toArray, (comL_at _ _ _ _ _).2.2.2]
  have f35 := HCa.out.frozen 35
  clear hBa hqa hRa hGa HC9 HG9 HR9 HBZ
  have HCb := Lib.hid (HCa.out.set_ 35 (.string ⟨text.toArray⟩))
  unfold Hid at HCb
  rw [comL_set3] at HCb
  have HCb := Lib.hid HCb
  have HSb := Lib.hid (gb_set (p := ⟨q, 35, none⟩) (gb_refl wa (some q)) (.inl rfl) (.string ⟨text.toArray⟩))
  have HRb := Lib.hid (HRa.out.far HCa.out (by decide) (by decide) HSb.out)
  have HGb := Lib.hid (gb_join HGa.out HSb.out HQ.out)
  clear HCa HGa HRa
  have HLO : Hid ((wa.setCell ⟨q, 35, none⟩ (.string ⟨text.toArray⟩)).heap[q]? = some (.cells (comL i (.slice A7 1 k7) (.string ⟨who.toArray⟩) (.int .u64 (tm : Int)) (.string ⟨text.toArray⟩)).toArray 113 (0, 0))) := HCb.out
  have HEND : Hid (ComEnd w g i A7 1 k7 [p] who tm text t (.agg (comL i (.slice A7 1 k7) (.string ⟨who.toArray⟩) (.int .u64 (tm : Int)) (.string ⟨text.toArray⟩)).toArray) (wa.setCell ⟨q, 35, none⟩ (.string ⟨text.toArray⟩))) := ⟨rfl, HOWa.out.kept HSb.out (.inr HNQ.out), HRb.out, HGb.out⟩
  clear HCb HRb HGb HSb HOWa
  go_wp2_with (with_reducible refine wpList_load_row rfl 113 (.tmp 3) rfl q rfl 113 (comL i (.slice A7 1 k7) (.string ⟨who.toArray⟩) (.int .u64 (tm : Int)) (.string ⟨text.toArray⟩)).toArray (0, 0) _ HLO.out Tryz.underlying113 rfl HSC.out ?_)
  go_ret
  exact ⟨_, rfl, _, _, HEND.out⟩
end Go.Proofs.YtnjhjbmngoeobaaGreatDoor
