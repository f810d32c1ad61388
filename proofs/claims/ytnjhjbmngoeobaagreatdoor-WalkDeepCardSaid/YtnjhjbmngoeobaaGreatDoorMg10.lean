/- Laws towards WalkDeep: ComB, ParC. -/
import Derived.Test.YtnjhjbmngoeobaaGreatDoorMg09
import Derived.Test.YtnjhjbmngoeobaaGreatDoorMg08
namespace Go.Proofs.YtnjhjbmngoeobaaGreatDoor
open Go.RowKit
set_option maxRecDepth 100000
theorem box_id (i : Id) : (Tryz.prog.info? 30).map (·.size) = some (U i.1).toArray.size := by rw [List.size_toArray, U_length, i.2]; kernel_rfl
set_option maxHeartbeats 1000000 in
theorem indexId_nil (A : Option Addr) (c : Nat) (i : Id) (w : World) :
 Calls Tryz.prog 139 #[.slice A 0 c, .agg (U i.1).toArray] w fun e w' => e = .returned (.int .i64 (-1)) ∧ Below w.heap.size w w' := by
 have h3 : decide ((0 : Int) < 0) = false := rfl
 go_enter Tryz.func139, Tryz.ntmps139
 go_wp2_with fail
 refine wp_loop_rounds 1 ?_
 rw [rounds_succ]
 go_wp2_with fail
 go_ret
 exact ⟨rfl, (Below.refl _ _).alloc (Nat.le_refl _) _⟩
set_option maxHeartbeats 1000000 in
theorem containsId_nil (A : Option Addr) (c : Nat) (i : Id) (w : World) :
 Calls Tryz.prog 136 #[.slice A 0 c, .agg (U i.1).toArray] w fun e w' => e = .returned (.bool false) ∧ Below w.heap.size w w' := by
 have HB : Hid (((w.alloc (.cells (U i.1).toArray 30))).heap[w.heap.size]? = some (.cells (U i.1).toArray 30 (0, 0))) := heap_alloc_new w _
 have HS := Lib.hid (box_id i)
 have HI := Lib.hid (fun w => indexId_nil A c i w)
 go_enter Tryz.func136, Tryz.ntmps136
 go_wp2_with (with_reducible refine wpList_load_row rfl 30 (.tmp 3) rfl w.heap.size rfl 30 (U i.1).toArray (0, 0) _ HB.out Tryz.underlying30 rfl HS.out ?_)
 refine (HI.out _).mono ?_
 rintro e w1 ⟨rfl, h1⟩
 have hb : Hid (Below w.heap.size w w1) := ((Below.refl _ _).alloc (Nat.le_refl _) _).trans (h1.mono (gb_alloc (gb_refl w none) _).size)
 clear h1
 go_wp2_with fail
 go_ret
 exact ⟨rfl, hb.out⟩
set_option maxHeartbeats 1000000 in
theorem written_any (who text : Bs) (tm : Nat) (w : World) (hw : who = [] ∨ ∃ c : UInt8, who = [c] ∧ c.toNat < 127 ∧ 32 ≤ c.toNat) (ht : tm ≤ 1099511627776) (hx : text.length ≤ 4096) :
 Calls Tryz.prog 137 #[.string ⟨who.toArray⟩, .int .u64 (tm : Int), .string ⟨text.toArray⟩] w fun e w' => e = .returned (.bool true) ∧ Below w.heap.size w w' := by
 have HP : Hid (∀ w, Calls Tryz.prog 128 #[.string ⟨who.toArray⟩] w fun e w' => e = .returned (.bool true) ∧ Below w.heap.size w w') := by
  rcases hw with rfl | ⟨c, rfl, h1, h2⟩
  · exact plain_nil
  · exact plain_one c h1 h2
 have hl : who.length ≤ 255 := by
  rcases hw with rfl | ⟨c, rfl, _, _⟩ <;> simp
 have h1 : decide ((who.length : Int) ≤ 255) = true := decide_eq_true (by omega)
 have h2 : decide ((tm : Int) ≤ 1099511627776) = true := decide_eq_true (by omega)
 have h3 : decide ((text.length : Int) ≤ 4096) = true := decide_eq_true (by omega)
 clear hw ht hx hl
 go_enter Tryz.func137, Tryz.ntmps137
 go_wp2_with fail
 refine (HP.out _).mono ?_
 rintro e w1 ⟨rfl, hb⟩
 have HB := Lib.hid hb
 clear hb
 go_wp2_with fail
 go_ret
 exact ⟨rfl, HB.out⟩
theorem still_load_row {P : Program} {o : Oper} {a : Act} {w : World} {K : Act → Prop} (ty : TypeId) (x : Operand) (ho : o.op = .load ty x)
 (g : Nat) (hx : a.eval x = .pointer (some ⟨g, 0, none⟩)) (t : TypeId) (cs : Array Value) (fr : Nat × Nat) (d : TypeDesc) (hg : w.heap[g]? = some (.cells cs t fr))
 (hu : P.underlying ty = some d) (hd : (match d with | .struct _ | .array _ _ => true | _ => false) = true) (hi : (P.info? ty).map (·.size) = some cs.size)
 (h : K (a.put o.dst (.agg cs))) : o.still P a w K := by
 unfold Oper.still execOp
 simp only [ho, hx, Instr.loadAt, Instr.sureAddr, Sem.run_bind, Sem.run_pure, Result.andThen_ok, run_loadVar_row w g t ty cs fr d hg hu hd hi]
 exact (Oper.stillUpon_value _ _ _ _ _).mpr h
set_option maxHeartbeats 2000000 in
theorem comCheck_nil (i : Id) (who text : Bs) (tm : Nat) (w : World) (hw : who = [] ∨ ∃ c : UInt8, who = [c] ∧ c.toNat < 127 ∧ 32 ≤ c.toNat) (ht : tm ≤ 1099511627776) (hx : text.length ≤ 4096) :
 Calls Tryz.prog 133 #[.agg (comL i (.slice none 0 0) (.string ⟨who.toArray⟩) (.int .u64 (tm : Int)) (.string ⟨text.toArray⟩)).toArray] w fun e w' => e = .returned (.int .i64 0) ∧ Below w.heap.size w w' := by
 have HW := Lib.hid (fun w => written_any who text tm w hw ht hx)
 have HB : Hid (Blk (w.alloc (.cells (comL i (.slice none 0 0) (.string ⟨who.toArray⟩) (.int .u64 (tm : Int)) (.string ⟨text.toArray⟩)).toArray 113)) w.heap.size 113 (comL i (.slice none 0 0) (.string ⟨who.toArray⟩) (.int .u64 (tm : Int)) (.string ⟨text.toArray⟩)).toArray) := Blk.new _ _ _
 have HC := comL_at i (.slice none 0 0) (.string ⟨who.toArray⟩) (.int .u64 (tm : Int)) (.string ⟨text.toArray⟩)
 have c32 := HB.out.cell 32
 have c33 := HB.out.cell 33
 have c34 := HB.out.cell 34
 have c35 := HB.out.cell 35
 rw [List.getElem?_toArray, HC.1] at c32
 rw [List.getElem?_toArray, HC.2.1] at c33
 rw [List.getElem?_toArray, HC.2.2.1] at c34
 rw [List.getElem?_toArray, HC.2.2.2] at c35
 have hb : Hid (Below w.heap.size w (w.alloc (.cells (comL i (.slice none 0 0) (.string ⟨who.toArray⟩) (.int .u64 (tm : Int)) (.string ⟨text.toArray⟩)).toArray 113))) := (Below.refl _ _).alloc (Nat.le_refl _) _
 clear HC HB hw ht hx
 go_enter Tryz.func133, Tryz.ntmps133
 go_wp2_with fail
 refine wp_loop_rounds 1 ?_
 rw [rounds_succ]
 go_wp2_with fail
 refine (HW.out _).mono ?_
 rintro e w1 ⟨rfl, h1⟩
 have HB1 := Lib.hid (hb.out.trans (h1.mono hb.out.size))
 clear h1
 go_wp2_with fail
 go_ret
 exact ⟨rfl, HB1.out⟩
theorem id_new (w : World) : Hid ((w.alloc (.cells #[Value.int IntKind.u8 0, Value.int IntKind.u8 0, Value.int IntKind.u8 0, Value.int IntKind.u8 0, Value.int IntKind.u8 0, Value.int IntKind.u8 0, Value.int IntKind.u8 0, Value.int IntKind.u8 0, Value.int IntKind.u8 0, Value.int IntKind.u8 0, Value.int IntKind.u8 0, Value.int IntKind.u8 0, Value.int IntKind.u8 0, Value.int IntKind.u8 0, Value.int IntKind.u8 0, Value.int IntKind.u8 0, Value.int IntKind.u8 0, Value.int IntKind.u8 0, Value.int IntKind.u8 0, Value.int IntKind.u8 0, Value.int IntKind.u8 0, Value.int IntKind.u8 0, Value.int IntKind.u8 0, Value.int IntKind.u8 0, Value.int IntKind.u8 0, Value.int IntKind.u8 0, Value.int IntKind.u8 0, Value.int IntKind.u8 0, Value.int IntKind.u8 0, Value.int IntKind.u8 0, Value.int IntKind.u8 0, Value.int IntKind.u8 0] 30)).heap[w.heap.size]? = some (.cells (U (List.replicate 32 0)).toArray 30 (0, 0))) := by
 show _ = _
 rw [z32_id]
 exact heap_alloc_new w _
theorem id_range {w : World} {base : Nat} {A : Option Addr} {k : Nat} {p : Id} (h : w.ownsRow base 30 32 (.slice A 1 k) 1 (U p.1)) : ∃ q, A = some ⟨q, 0, none⟩ ∧ base ≤ q ∧ q < w.heap.size ∧ w.rangeAt q 0 (U p.1) := by
 obtain ⟨q, cap, hv, hb, hlt⟩ := h.form (by omega)
 injection hv with hv1 hv2 hv3
 subst hv1
 refine ⟨q, rfl, (own_lt h q rfl).1, hlt, fun j v hj => ?_⟩
 have := h.cells (g := q) rfl j v hj
 rw [addr_add] at this
 exact this
set_option maxHeartbeats 4000000 in
theorem comCheck_one (i p : Id) (q k : Nat) (who text : Bs) (tm : Nat) (w : World) (h : w.rangeAt q 0 (U p.1)) (hq : q < w.heap.size) (hw : who = [] ∨ ∃ c : UInt8, who = [c] ∧ c.toNat < 127 ∧ 32 ≤ c.toNat) (ht : tm ≤ 1099511627776) (hx : text.length ≤ 4096) :
 Calls Tryz.prog 133 #[.agg (comL i (.slice (some ⟨q, 0, none⟩) 1 k) (.string ⟨who.toArray⟩) (.int .u64 (tm : Int)) (.string ⟨text.toArray⟩)).toArray] w fun e w' => e = .returned (.int .i64 0) ∧ Below w.heap.size w w' := by
 have HW := Lib.hid (fun w => written_any who text tm w hw ht hx)
 obtain ⟨wb, hwb⟩ : ∃ wb, wb = w.alloc (.cells (comL i (.slice (some ⟨q, 0, none⟩) 1 k) (.string ⟨who.toArray⟩) (.int .u64 (tm : Int)) (.string ⟨text.toArray⟩)).toArray 113) := ⟨_, rfl⟩
 have HB : Hid (Blk wb w.heap.size 113 (comL i (.slice (some ⟨q, 0, none⟩) 1 k) (.string ⟨who.toArray⟩) (.int .u64 (tm : Int)) (.string ⟨text.toArray⟩)).toArray) := by rw [hwb]; exact Blk.new _ _ _
 have hb : Hid (Below w.heap.size w wb) := by rw [hwb]; exact (Below.refl _ _).alloc (Nat.le_refl _) _
 have H1 : Hid (wb.rangeAt q 0 (U p.1)) := rangeAt_below h hb.out hq
 have hq1 : q < wb.heap.size := Nat.lt_of_lt_of_le hq hb.out.size
 have HC := Lib.hid (comL_at i (.slice (some ⟨q, 0, none⟩) 1 k) (.string ⟨who.toArray⟩) (.int .u64 (tm : Int)) (.string ⟨text.toArray⟩))
 have c32 := HB.out.cell 32
 rw [List.getElem?_toArray, HC.out.1] at c32
 have HCO := Lib.hid (fun (w : World) => containsId_nil (some ⟨q, 0, none⟩) k p w)
 have HSZ := Lib.hid (id_size _ p.2)
 have HSZ2 := Lib.hid (id_size' _ p.2)
 have HFT := Lib.hid (id_fit _ p.2)
 have HT := id_new wb
 clear h hw ht hx
 go_enter Tryz.func133, Tryz.ntmps133
 go_upto_region 1 with fail
 rw [← hwb]
 clear hwb
 go_wp2_with fail
 refine wp_loop_rounds 2 ?_
 rw [rounds_succ]
 go_upto_region 6 with (first
  | (with_reducible refine wpList_load_mid rfl 30 (.tmp 15) rfl q 0 rfl (U p.1) _ H1.out Tryz.underlying30 rfl HSZ.out ?_)
  | (with_reducible refine wpList_storeG rfl 30 (.tmp 4) (.tmp 16) rfl wb.heap.size 0 (U p.1) rfl rfl (U (List.replicate 32 0)) 30 HT.out HFT.out (U_one _) HSZ.out ?_; intro w1 HB1 HG1))
 have HR : Hid (w1.drew.heap[wb.heap.size]? = some (.cells (U p.1).toArray 30 (0, 0))) := by
  have h1 := HB1.out
  rw [splice_id _ p.2] at h1
  exact h1
 have G1 : wb.grownBy w1 none := gb_fresh HG1.out
 have HBx := Lib.hid ((HB.out.gb G1 (by simp)).drew)
 have hbx : Hid (Below w.heap.size w w1.drew) := (hb.out.trans ((below_of_gb G1).mono hb.out.size)).drew
 have d32 := HBx.out.cell 32
 have d33 := HBx.out.cell 33
 have d34 := HBx.out.cell 34
 have d35 := HBx.out.cell 35
 rw [List.getElem?_toArray, HC.out.1] at d32
 rw [List.getElem?_toArray, HC.out.2.1] at d33
 rw [List.getElem?_toArray, HC.out.2.2.1] at d34
 rw [List.getElem?_toArray, HC.out.2.2.2] at d35
 clear HB1 HG1 G1 HT HFT HB hb H1 hq1 c32
 refine wp_region_still_tail 5 (by kernel_rfl) (by kernel_rfl) ?_
 change wpStill _ _ w1.drew (fun a' => wpList _ _ _ _ a' w1.drew) _ _
 generalize w1.drew = w2 at *
 simp only [List.take_succ_cons, List.take_zero, List.drop_succ_cons, List.drop_zero]
 still_step
 still_step
 still_step
 still_step
 refine wpStill_step (fun K hK => ?_)
 rw [if_pos (by rfl)]
 refine still_load_row 30 (.tmp 4) rfl wb.heap.size rfl 30 (U p.1).toArray (0, 0) _ HR.out Tryz.underlying30 rfl HSZ2.out ?_
 refine hK _ ?_
 clear hK K
 refine wpStill_nil ?_
 go_wp2_with fail
 refine (HCO.out _).mono ?_
 rintro e w3 ⟨rfl, h3⟩
 have hb3 : Hid (Below w.heap.size w w3) := hbx.out.trans (h3.mono hbx.out.size)
 have HBy := Lib.hid (HBx.out.below h3 HBx.out.lt)
 have d33 := HBy.out.cell 33
 have d34 := HBy.out.cell 34
 have d35 := HBy.out.cell 35
 rw [List.getElem?_toArray, HC.out.2.1] at d33
 rw [List.getElem?_toArray, HC.out.2.2.1] at d34
 rw [List.getElem?_toArray, HC.out.2.2.2] at d35
 clear h3 HBx hbx HR HCO
 go_wp2_with fail
 rw [rounds_succ]
 go_wp2_with fail
 refine (HW.out _).mono ?_
 rintro e w4 ⟨rfl, h4⟩
 have HB4 : Hid (Below w.heap.size w w4) := hb3.out.trans (h4.mono hb3.out.size)
 clear h4
 go_wp2_with fail
 go_ret
 exact ⟨rfl, HB4.out⟩
theorem meth_com0_check (v : Value) (w : World) : (method 305 113 v "satchel/object.check").run Tryz.prog w = .ok (133, v) w := by kernel_rfl
set_option maxHeartbeats 4000000 in
theorem parse_com0 (n c : Nat) (A : Option Addr) (i : Id) (who text : Bs) (tm : Nat) (hw : who = [] ∨ ∃ c : UInt8, who = [c] ∧ c.toNat < 127 ∧ 32 ≤ c.toNat) (ht : tm ≤ 1099511627776) (hx : text.length ≤ 4096) (w : World) (h : Sl w A (3 :: (i.1 ++ (0 :: (layB who ++ (be8 tm ++ (layB text ++ []))))))) (hn : n = (3 :: (i.1 ++ (0 :: (layB who ++ (be8 tm ++ (layB text ++ [])))))).length) (hl : n ≤ 65536) (he : ErrTab w) :
 Calls Tryz.prog 40 #[.slice A n c] w (ParsePost w (.commit ⟨i, [], who, tm, text⟩)) := by
 have HR := Lib.hid (read_any n c A (3 :: (i.1 ++ (0 :: (layB who ++ (be8 tm ++ (layB text ++ [])))))) w h hn (by unfold Lim; omega))
 have HE := Lib.hid he
 have hlt := he.lt
 have hd : decide (65536 < n) = false := decide_eq_false (by omega)
 have HPR : Hid ((who = [] ∨ ∃ c : UInt8, who = [c] ∧ c.toNat < 127 ∧ 32 ≤ c.toNat) ∧ tm ≤ 1099511627776 ∧ text.length ≤ 4096) := ⟨hw, ht, hx⟩
 have hwl : who.length ≤ 255 := by
  rcases hw with rfl | ⟨c, rfl, _, _⟩ <;> simp
 have htm : tm < 18446744073709551616 := by omega
 clear hw ht
 clear h hn he
 go_enter Tryz.func40, Tryz.ntmps40
 go_wp2_with fail
 refine HR.out.mono ?_
 rintro e w1 ⟨g, rfl, hg, h1, hb1⟩
 have HE1 := Lib.hid (HE.out.below hb1 hlt)
 have HB1 := Lib.hid hb1
 have HGW : Hid (w.heap.size ≤ g) := hg
 have hlt1 : 2 < w1.heap.size := Nat.lt_of_lt_of_le hlt hb1.size
 have hge : 2 ≠ g := by omega
 have HU := Lib.hid (ru8_any g _ w1 h1)
 unfold Hid RdPost at HU
 rw [show rU8 (some (3 :: (i.1 ++ (0 :: (layB who ++ (be8 tm ++ (layB text ++ []))))))) = (3, some (i.1 ++ (0 :: (layB who ++ (be8 tm ++ (layB text ++ [])))))) from rfl] at HU
 have HU := Lib.hid HU
 clear h1 hb1 HR
 have ek : ((((3 : UInt8)).toNat : Nat) : Int) = 3 := rfl
 go_wp2_with fail
 refine HU.out.mono ?_
 rintro e w2 ⟨rfl, h2, g2⟩
 have HE2 := Lib.hid (HE1.out.gb g2 hlt1 hge)
 have HG2 := Lib.hid g2
 have HC := Lib.hid (readCommit_nil g i who text [] tm w2 h2 hwl hx htm)
 clear h2 HU HE1
 go_wp2_with fail
 refine HC.out.mono ?_
 rintro e w3 ⟨v, rfl, rfl, ho3, h3, g3⟩
 have HG3 := Lib.hid (gb_trans HG2.out g3)
 have HE3 := Lib.hid (HE2.out.gb g3 (Nat.lt_of_lt_of_le hlt1 HG2.out.size) hge)
 have HEN := Lib.hid (rend_any g (some []) w3 h3 HE3.out)
 have HGS : Hid (w.heap.size ≤ w3.heap.size) := Nat.le_trans HB1.out.size HG3.out.size
 clear h3 g3 g2 HC HE2 HG2 ek HE3
 go_wp2_with fail
 refine HEN.out.mono ?_
 rintro e w4 ⟨v0, rfl, hv, kz, rfl⟩
 obtain rfl : v0 = 0 := hv.2 rfl
 clear hv HEN
 have hmb := meth_com0_check
 have HCK := Lib.hid (comCheck_nil i who text tm (w3.drewN kz) HPR.out.1 HPR.out.2.1 HPR.out.2.2)
 have HBB : Hid (Below w.heap.size w (w3.drewN kz)) := HB1.out.trans (below_drewN (below_of_gb_some HG3.out HGW.out HB1.out.size) kz)
 have HF : Hid (∀ w', Below (w3.drewN kz).heap.size (w3.drewN kz) w' → ParsePost w (.commit ⟨i, [], who, tm, text⟩) (.returned (.tuple #[.iface 113 (.agg (comL i (.slice none 0 0) (.string ⟨who.toArray⟩) (.int .u64 (tm : Int)) (.string ⟨text.toArray⟩)).toArray), .int .i64 0])) w') := fun w' hb =>
  ⟨_, rfl, ⟨_, 0, rfl, own_nil _ _ _ _⟩, HBB.out.trans (hb.mono HBB.out.size)⟩
 clear HE HG3
 go_wp2_with fail
 refine HCK.out.mono ?_
 rintro e w6 ⟨rfl, hb6⟩
 have HP := Lib.hid (HF.out w6 hb6)
 clear hb6 HF
 go_wp2_with fail
 go_ret2
 exact HP.out
set_option maxHeartbeats 4000000 in
theorem parse_com1 (n c : Nat) (A : Option Addr) (p : Id) (i : Id) (who text : Bs) (tm : Nat) (hw : who = [] ∨ ∃ c : UInt8, who = [c] ∧ c.toNat < 127 ∧ 32 ≤ c.toNat) (ht : tm ≤ 1099511627776) (hx : text.length ≤ 4096) (w : World) (h : Sl w A (3 :: (i.1 ++ (1 :: (p.1 ++ (layB who ++ (be8 tm ++ (layB text ++ [])))))))) (hn : n = (3 :: (i.1 ++ (1 :: (p.1 ++ (layB who ++ (be8 tm ++ (layB text ++ []))))))).length) (hl : n ≤ 65536) (he : ErrTab w) :
 Calls Tryz.prog 40 #[.slice A n c] w (ParsePost w (.commit ⟨i, [p], who, tm, text⟩)) := by
 have HR := Lib.hid (read_any n c A (3 :: (i.1 ++ (1 :: (p.1 ++ (layB who ++ (be8 tm ++ (layB text ++ []))))))) w h hn (by unfold Lim; omega))
 have HE := Lib.hid he
 have hlt := he.lt
 have hd : decide (65536 < n) = false := decide_eq_false (by omega)
 have HPR : Hid ((who = [] ∨ ∃ c : UInt8, who = [c] ∧ c.toNat < 127 ∧ 32 ≤ c.toNat) ∧ tm ≤ 1099511627776 ∧ text.length ≤ 4096) := ⟨hw, ht, hx⟩
 have hwl : who.length ≤ 255 := by
  rcases hw with rfl | ⟨c, rfl, _, _⟩ <;> simp
 have htm : tm < 18446744073709551616 := by omega
 clear hw ht
 clear h hn he
 go_enter Tryz.func40, Tryz.ntmps40
 go_wp2_with fail
 refine HR.out.mono ?_
 rintro e w1 ⟨g, rfl, hg, h1, hb1⟩
 have HE1 := Lib.hid (HE.out.below hb1 hlt)
 have HB1 := Lib.hid hb1
 have HGW : Hid (w.heap.size ≤ g) := hg
 have hlt1 : 2 < w1.heap.size := Nat.lt_of_lt_of_le hlt hb1.size
 have hge : 2 ≠ g := by omega
 have HU := Lib.hid (ru8_any g _ w1 h1)
 unfold Hid RdPost at HU
 rw [show rU8 (some (3 :: (i.1 ++ (1 :: (p.1 ++ (layB who ++ (be8 tm ++ (layB text ++ [])))))))) = (3, some (i.1 ++ (1 :: (p.1 ++ (layB who ++ (be8 tm ++ (layB text ++ []))))))) from rfl] at HU
 have HU := Lib.hid HU
 clear h1 hb1 HR
 have ek : ((((3 : UInt8)).toNat : Nat) : Int) = 3 := rfl
 go_wp2_with fail
 refine HU.out.mono ?_
 rintro e w2 ⟨rfl, h2, g2⟩
 have HE2 := Lib.hid (HE1.out.gb g2 hlt1 hge)
 have HG2 := Lib.hid g2
 have HC := Lib.hid (readCommit_one g i p who text [] tm w2 h2 hwl hx htm HE2.out hge)
 clear h2 HU HE1
 go_wp2_with fail
 refine HC.out.mono ?_
 rintro e w3 ⟨v, rfl, A3, k3, rfl, ho3, h3, g3⟩
 have ho3 : w3.ownsRow w2.heap.size 30 32 (.slice A3 1 k3) 1 (U p.1) := by
  rw [show ([p].flatMap fun p => U p.1) = U p.1 from by simp] at ho3
  exact ho3
 obtain ⟨q, rfl, _, hq3, hr3⟩ := id_range ho3
 have HO3 : Hid (w3.ownsRow w.heap.size 30 32 (.slice (some ⟨q, 0, none⟩) 1 k3) 1 (U p.1)) := own_base ho3 (Nat.le_trans HB1.out.size HG2.out.size)
 have HRG : Hid (w3.rangeAt q 0 (U p.1)) := hr3
 clear ho3 hr3
 have HG3 := Lib.hid (gb_trans HG2.out g3)
 have HE3 := Lib.hid (HE2.out.gb g3 (Nat.lt_of_lt_of_le hlt1 HG2.out.size) hge)
 have HEN := Lib.hid (rend_any g (some []) w3 h3 HE3.out)
 have HGS : Hid (w.heap.size ≤ w3.heap.size) := Nat.le_trans HB1.out.size HG3.out.size
 clear h3 g3 g2 HC HE2 HG2 ek HE3
 go_wp2_with fail
 refine HEN.out.mono ?_
 rintro e w4 ⟨v0, rfl, hv, kz, rfl⟩
 obtain rfl : v0 = 0 := hv.2 rfl
 clear hv HEN
 have hmb := meth_com0_check
 have HCK := Lib.hid (comCheck_one i p q k3 who text tm (w3.drewN kz) HRG.out hq3 HPR.out.1 HPR.out.2.1 HPR.out.2.2)
 have HBB : Hid (Below w.heap.size w (w3.drewN kz)) := HB1.out.trans (below_drewN (below_of_gb_some HG3.out HGW.out HB1.out.size) kz)
 have HF : Hid (∀ w', Below (w3.drewN kz).heap.size (w3.drewN kz) w' → ParsePost w (.commit ⟨i, [p], who, tm, text⟩) (.returned (.tuple #[.iface 113 (.agg (comL i (.slice (some ⟨q, 0, none⟩) 1 k3) (.string ⟨who.toArray⟩) (.int .u64 (tm : Int)) (.string ⟨text.toArray⟩)).toArray), .int .i64 0])) w') := fun w' hb =>
  ⟨_, rfl, ⟨_, k3, rfl, by simpa using own_below (own_drewN HO3.out kz) hb⟩, HBB.out.trans (hb.mono HBB.out.size)⟩
 clear HE HG3 HRG HO3
 go_wp2_with fail
 refine HCK.out.mono ?_
 rintro e w6 ⟨rfl, hb6⟩
 have HP := Lib.hid (HF.out w6 hb6)
 clear hb6 HF
 go_wp2_with fail
 go_ret2
 exact HP.out
end Go.Proofs.YtnjhjbmngoeobaaGreatDoor
