/- Laws towards WalkDeep: ChiA, ChiB, ChiC, ChiD, KeyA, StrA, StrB, StrC, StrD. -/
import Derived.Test.YtnjhjbmngoeobaaGreatDoorMg12
import Derived.Maps.OwnSet
import Derived.DeepKeys4
import Derived.Maps.OwnOps
import Derived.Carry
namespace Go.Proofs.YtnjhjbmngoeobaaGreatDoor
open Go.RowKit
set_option maxRecDepth 100000
theorem own_built {w : World} {base e size n : Nat} {cs : Array Value} (hb : base ≤ w.heap.size) (hn : cs.size = n * size) (hm : n ≤ maxLen) : (w.alloc (.cells cs e)).ownsRow base e size (.slice (some ⟨w.heap.size, 0, none⟩) n n) n cs.toList :=
 ⟨by rw [Array.length_toList]; exact hn, .inr ⟨w.heap.size, n, cs, rfl, hb, heap_alloc_new w _, Nat.le_refl _, hm, hn, by rw [List.take_of_length_le (by rw [Array.length_toList, hn]; exact Nat.le_refl _)]⟩⟩
def lnkV (l : Lnk) : List Value := U l.1.1 ++ [Value.int .i64 (l.2 : Int)]
def LinksV (w : World) (B : Nat) (ls : List Lnk) (v : Value) : Prop := ∃ A k, v = .slice A ls.length k ∧ w.ownsRow B 106 33 (.slice A ls.length k) ls.length (ls.flatMap lnkV)
def LinksPost (w : World) (ls : List Lnk) (e : Ending) (w' : World) : Prop := ∃ v, e = .returned v ∧ LinksV w' w.heap.size ls v ∧ Below w.heap.size w w'
theorem blobChildren (v : Value) (w : World) : Calls Tryz.prog 117 #[v] w (LinksPost w []) := by
 go_enter Tryz.func117, Tryz.ntmps117
 go_wp2_with fail
 go_ret
 exact ⟨_, rfl, ⟨none, 0, rfl, own_nil _ _ _ _⟩, Below.refl _ _⟩
set_option maxHeartbeats 4000000 in
theorem tagChildren (i : Id) (kd : Nat) (b c d e : Value) (w : World) : Calls Tryz.prog 141 #[.agg (tagL i (.int .i64 (kd : Int)) b c d e).toArray] w (LinksPost w [(i, kd)]) := by
 obtain ⟨wb, hwb⟩ : ∃ wb, wb = w.alloc (.cells (tagL i (.int .i64 (kd : Int)) b c d e).toArray 114) := ⟨_, rfl⟩
 have HB : Hid (Blk wb w.heap.size 114 (tagL i (.int .i64 (kd : Int)) b c d e).toArray) := by rw [hwb]; exact Blk.new _ _ _
 have HBW : Hid (Below w.heap.size w wb) := by rw [hwb]; exact (Below.refl _ _).alloc (Nat.le_refl _) _
 have c32 : wb.cell? ⟨w.heap.size, 32, none⟩ = some (.int .i64 (kd : Int)) := by rw [HB.out.cell, List.getElem?_toArray, (tagL_at _ _ _ _ _ _).1]
 have HR : Hid (wb.rangeAt w.heap.size 0 (U i.1)) := fun j v hj => by
  rw [HB.out.cell, List.getElem?_toArray, Nat.zero_add]
  unfold tagL
  rw [List.getElem?_append_left (by exact (List.getElem?_eq_some_iff.1 hj).1)]
  exact hj
 have HSZ := Lib.hid (id_size _ i.2)
 obtain ⟨c0, c1, c2, c3, c4, c5, c6, c7, c8, c9, c10, c11, c12, c13, c14, c15, c16, c17, c18, c19, c20, c21, c22, c23, c24, c25, c26, c27, c28, c29, c30, c31, hU⟩ := id32 i
 have HU := Lib.hid hU
 unfold Hid at HR HSZ
 rw [hU] at HR HSZ
 have HR := Lib.hid HR
 have HSZ := Lib.hid HSZ
 clear hU
 go_enter Tryz.func141, Tryz.ntmps141
 go_upto_region 1 with fail
 rw [← hwb]
 clear hwb HB
 go_wp2_with (with_reducible refine wpList_load_mid rfl 30 (.tmp 3) rfl w.heap.size 0 rfl [c0, c1, c2, c3, c4, c5, c6, c7, c8, c9, c10, c11, c12, c13, c14, c15, c16, c17, c18, c19, c20, c21, c22, c23, c24, c25, c26, c27, c28, c29, c30, c31] _ HR.out Tryz.underlying30 rfl HSZ.out ?_)
 go_ret
 have h1 := own_built (w := wb) (base := w.heap.size) (e := 106) (size := 33) (n := 1) (cs := #[c0, c1, c2, c3, c4, c5, c6, c7, c8, c9, c10, c11, c12, c13, c14, c15, c16, c17, c18, c19, c20, c21, c22, c23, c24, c25, c26, c27, c28, c29, c30, c31, .int .i64 (kd : Int)]) HBW.out.size rfl (by decide)
 refine ⟨_, rfl, ⟨_, 1, rfl, ?_⟩, HBW.out.alloc HBW.out.size _⟩
 have e1 : ([(i, kd)] : List Lnk).flatMap lnkV = [c0, c1, c2, c3, c4, c5, c6, c7, c8, c9, c10, c11, c12, c13, c14, c15, c16, c17, c18, c19, c20, c21, c22, c23, c24, c25, c26, c27, c28, c29, c30, c31, .int .i64 (kd : Int)] := by
  simp only [List.flatMap_cons, List.flatMap_nil, lnkV, HU.out]
  rfl
 rw [e1]
 exact h1
theorem info_lnk : ∃ i : TypeInfo, Tryz.prog.info? 106 = some i ∧ i.size = 33 ∧ i.bytes = 40 ∧ ∃ z, i.zero = some z ∧ z.cells.size = 33 := by
 have h : (Tryz.prog.info? 106).map (fun i => (i.size, i.bytes, i.zero.map (fun z => z.cells.size))) = some (33, 40, some 33) := by kernel_rfl
 cases hi : Tryz.prog.info? 106 with
 | none => rw [hi] at h; cases h
 | some i =>
   rw [hi] at h
   simp only [Option.map_some, Option.some.injEq, Prod.mk.injEq] at h
   obtain ⟨h1, h2, h3⟩ := h
   cases hz : i.zero with
   | none => rw [hz] at h3; cases h3
   | some z =>
     rw [hz] at h3
     exact ⟨i, rfl, h1, h2, z, hz, Option.some.inj h3⟩
theorem wpList_pushK {P : Program} (W : World) {ops : Array Oper} {rest : List Oper} {o : Oper} {a : Act} {Q : Exit → Act → World → Prop} (hgd : o.guard = none) (s x : Operand) (t : TypeId)
 (ho : o.op = .call { callee := .builtin .append, args := #[s, x], argTypes := #[t, t] })
 (base : Nat) (e : TypeId) (i : TypeInfo) (z : Value) (size bytes : Nat) (ht : P.underlying t = some (.slice e)) (hi : P.info? e = some i) (hz : i.zero = some z)
 (hsize : i.size = size) (hby : i.bytes = bytes) (hzs : z.cells.size = size) (hsz : 0 < size)
 (A : Option Addr) (n c : Nat) (xs : List Value) (hs : a.eval s = .slice A n c) (hown : W.ownsRow base e size (.slice A n c) n xs)
 (us : Array Value) (m : Nat) (te : TypeId) (hus : us.size = m * size) (h1 : ∀ u ∈ us.toList, u.oneCell' = true) (hx : a.eval x = .slice (some ⟨W.heap.size, 0, none⟩) m m)
 (hbytes : (n + m) * bytes ≤ 140737488355328) (h63 : n + m ≤ maxLen) (hbase : base ≤ W.heap.size)
 (h : ∀ A' c' w', w'.ownsRow base e size (.slice A' (n + m) c') (n + m) (xs ++ us.toList) → W.grownBy w' (Value.slice A n c).ownBlock → wpList P ops Q rest (a.put o.dst (.slice A' (n + m) c')) w') :
 wpList P ops Q (o :: rest) a (W.alloc (.cells us te)) := by
 refine wpList_append_own (W.alloc (.cells us te)) hgd s x t ho base e i z size bytes ht hi hz hsize hby hzs hsz (.slice A n c) n xs hs (hown.alloc _) ⟨W.heap.size, 0, none⟩ m m us.toList hx (by simpa using hus) ?_ h1 h63 hbytes (by simp; omega) ?_
 · intro j v hj
   have := (Blk.new W te us).cell j
   rw [addr_add, Nat.zero_add, this]
   simpa using hj
 · intro v' w' ho' hg' _
   obtain ⟨A', c', rfl⟩ := own_shape ho'
   exact h A' c' w' ho' (gb_trans (gb_alloc (gb_refl _ _) _) hg')
theorem com_boxed (i : Id) (a b c d : Value) (w : World) : (w.alloc (.cells (comL i a b c d).toArray 113)).rangeAt w.heap.size 0 (U i.1) := fun j v hj => by
 rw [(Blk.new w 113 (comL i a b c d).toArray).cell, List.getElem?_toArray, Nat.zero_add]
 unfold comL
 rw [List.getElem?_append_left (by exact (List.getElem?_eq_some_iff.1 hj).1)]
 exact hj
set_option maxHeartbeats 4000000 in
theorem comChildren_nil (i : Id) (A : Option Addr) (k : Nat) (b c d : Value) (w : World) : Calls Tryz.prog 134 #[.agg (comL i (.slice A 0 k) b c d).toArray] w (LinksPost w [(i, 2)]) := by
 obtain ⟨wb, hwb⟩ : ∃ wb, wb = w.alloc (.cells (comL i (.slice A 0 k) b c d).toArray 113) := ⟨_, rfl⟩
 have HB : Hid (Blk wb w.heap.size 113 (comL i (.slice A 0 k) b c d).toArray) := by rw [hwb]; exact Blk.new _ _ _
 have HBW : Hid (Below w.heap.size w wb) := by rw [hwb]; exact (Below.refl _ _).alloc (Nat.le_refl _) _
 have e32 := (comL_at i (.slice A 0 k) b c d).1
 have c32 : wb.cell? ⟨w.heap.size, 32, none⟩ = some (.slice A 0 k) := by rw [HB.out.cell, List.getElem?_toArray, e32]
 have HR : Hid (wb.rangeAt w.heap.size 0 (U i.1)) := by rw [hwb]; exact com_boxed _ _ _ _ _ _
 have HSZ := Lib.hid (id_size _ i.2)
 obtain ⟨c0, c1, c2, c3, c4, c5, c6, c7, c8, c9, c10, c11, c12, c13, c14, c15, c16, c17, c18, c19, c20, c21, c22, c23, c24, c25, c26, c27, c28, c29, c30, c31, hU⟩ := id32 i
 have HU := Lib.hid hU
 unfold Hid at HR HSZ
 rw [hU] at HR HSZ
 have HR := Lib.hid HR
 have HSZ := Lib.hid HSZ
 clear hU
 go_enter Tryz.func134, Tryz.ntmps134
 go_upto_region 1 with fail
 rw [← hwb]
 clear hwb HB
 have HLC : Hid ((wb.alloc (.cells #[c0, c1, c2, c3, c4, c5, c6, c7, c8, c9, c10, c11, c12, c13, c14, c15, c16, c17, c18, c19, c20, c21, c22, c23, c24, c25, c26, c27, c28, c29, c30, c31, .int .i64 2] 106)).cell? ⟨w.heap.size, 32, none⟩ = some (.slice A 0 k)) := by
  show _ = _
  rw [World.cell?_alloc_lt _ _ _ (World.block_lt_of_cell? wb _ c32)]
  exact c32
 go_upto_region 2 with (with_reducible refine wpList_load_mid rfl 30 (.tmp 6) rfl w.heap.size 0 rfl [c0, c1, c2, c3, c4, c5, c6, c7, c8, c9, c10, c11, c12, c13, c14, c15, c16, c17, c18, c19, c20, c21, c22, c23, c24, c25, c26, c27, c28, c29, c30, c31] _ HR.out Tryz.underlying30 rfl HSZ.out ?_)
 have h1 := own_built (w := wb) (base := w.heap.size) (e := 106) (size := 33) (n := 1) (cs := #[c0, c1, c2, c3, c4, c5, c6, c7, c8, c9, c10, c11, c12, c13, c14, c15, c16, c17, c18, c19, c20, c21, c22, c23, c24, c25, c26, c27, c28, c29, c30, c31, .int .i64 2]) HBW.out.size rfl (by decide)
 have e1 : ([(i, 2)] : List Lnk).flatMap lnkV = [c0, c1, c2, c3, c4, c5, c6, c7, c8, c9, c10, c11, c12, c13, c14, c15, c16, c17, c18, c19, c20, c21, c22, c23, c24, c25, c26, c27, c28, c29, c30, c31, .int .i64 2] := by
  simp only [List.flatMap_cons, List.flatMap_nil, lnkV, HU.out]
  rfl
 have hb : Hid (Below w.heap.size w (wb.alloc (.cells #[c0, c1, c2, c3, c4, c5, c6, c7, c8, c9, c10, c11, c12, c13, c14, c15, c16, c17, c18, c19, c20, c21, c22, c23, c24, c25, c26, c27, c28, c29, c30, c31, .int .i64 2] 106))) := HBW.out.alloc HBW.out.size _
 have HF : Hid (LinksPost w [(i, 2)] (.returned (.slice (some ⟨wb.heap.size, 0, none⟩) 1 1)) (wb.alloc (.cells #[c0, c1, c2, c3, c4, c5, c6, c7, c8, c9, c10, c11, c12, c13, c14, c15, c16, c17, c18, c19, c20, c21, c22, c23, c24, c25, c26, c27, c28, c29, c30, c31, .int .i64 2] 106))) := ⟨_, rfl, ⟨_, 1, rfl, by rw [e1]; exact h1⟩, hb.out⟩
 have c32b := HLC.out
 clear c32 HLC h1 e1 hb HR HBW HSZ HU e32
 go_wp2_with fail
 refine wp_loop_rounds 1 ?_
 rw [rounds_succ]
 go_wp2_with fail
 go_ret
 exact HF.out
set_option maxHeartbeats 4000000 in
theorem comChildren_one (i : Id) (p : Id) (q k : Nat) (b c d : Value) (w : World) (h : w.rangeAt q 0 (U p.1)) (hq : q < w.heap.size) : Calls Tryz.prog 134 #[.agg (comL i (.slice (some ⟨q, 0, none⟩) 1 k) b c d).toArray] w (LinksPost w [(i, 2), (p, 3)]) := by
 obtain ⟨wb, hwb⟩ : ∃ wb, wb = w.alloc (.cells (comL i (.slice (some ⟨q, 0, none⟩) 1 k) b c d).toArray 113) := ⟨_, rfl⟩
 have HB : Hid (Blk wb w.heap.size 113 (comL i (.slice (some ⟨q, 0, none⟩) 1 k) b c d).toArray) := by rw [hwb]; exact Blk.new _ _ _
 have HBW : Hid (Below w.heap.size w wb) := by rw [hwb]; exact (Below.refl _ _).alloc (Nat.le_refl _) _
 have e32 := (comL_at i (.slice (some ⟨q, 0, none⟩) 1 k) b c d).1
 have c32 : wb.cell? ⟨w.heap.size, 32, none⟩ = some (.slice (some ⟨q, 0, none⟩) 1 k) := by rw [HB.out.cell, List.getElem?_toArray, e32]
 have HR : Hid (wb.rangeAt w.heap.size 0 (U i.1)) := by rw [hwb]; exact com_boxed _ _ _ _ _ _
 have HSZ := Lib.hid (id_size _ i.2)
 obtain ⟨c0, c1, c2, c3, c4, c5, c6, c7, c8, c9, c10, c11, c12, c13, c14, c15, c16, c17, c18, c19, c20, c21, c22, c23, c24, c25, c26, c27, c28, c29, c30, c31, hU⟩ := id32 i
 have HU := Lib.hid hU
 unfold Hid at HR HSZ
 rw [hU] at HR HSZ
 have HR := Lib.hid HR
 have HSZ := Lib.hid HSZ
 clear hU
 go_enter Tryz.func134, Tryz.ntmps134
 go_upto_region 1 with fail
 rw [← hwb]
 clear hwb HB
 have HLC : Hid ((wb.alloc (.cells #[c0, c1, c2, c3, c4, c5, c6, c7, c8, c9, c10, c11, c12, c13, c14, c15, c16, c17, c18, c19, c20, c21, c22, c23, c24, c25, c26, c27, c28, c29, c30, c31, .int .i64 2] 106)).cell? ⟨w.heap.size, 32, none⟩ = some (.slice (some ⟨q, 0, none⟩) 1 k)) := by
  show _ = _
  rw [World.cell?_alloc_lt _ _ _ (World.block_lt_of_cell? wb _ c32)]
  exact c32
 go_upto_region 2 with (with_reducible refine wpList_load_mid rfl 30 (.tmp 6) rfl w.heap.size 0 rfl [c0, c1, c2, c3, c4, c5, c6, c7, c8, c9, c10, c11, c12, c13, c14, c15, c16, c17, c18, c19, c20, c21, c22, c23, c24, c25, c26, c27, c28, c29, c30, c31] _ HR.out Tryz.underlying30 rfl HSZ.out ?_)
 have h1 := own_built (w := wb) (base := w.heap.size) (e := 106) (size := 33) (n := 1) (cs := #[c0, c1, c2, c3, c4, c5, c6, c7, c8, c9, c10, c11, c12, c13, c14, c15, c16, c17, c18, c19, c20, c21, c22, c23, c24, c25, c26, c27, c28, c29, c30, c31, .int .i64 2]) HBW.out.size rfl (by decide)
 have e1 : ([(i, 2)] : List Lnk).flatMap lnkV = [c0, c1, c2, c3, c4, c5, c6, c7, c8, c9, c10, c11, c12, c13, c14, c15, c16, c17, c18, c19, c20, c21, c22, c23, c24, c25, c26, c27, c28, c29, c30, c31, .int .i64 2] := by
  simp only [List.flatMap_cons, List.flatMap_nil, lnkV, HU.out]
  rfl
 have hb : Hid (Below w.heap.size w (wb.alloc (.cells #[c0, c1, c2, c3, c4, c5, c6, c7, c8, c9, c10, c11, c12, c13, c14, c15, c16, c17, c18, c19, c20, c21, c22, c23, c24, c25, c26, c27, c28, c29, c30, c31, .int .i64 2] 106))) := HBW.out.alloc HBW.out.size _
 have HOW := Lib.hid h1
 have HRP := Lib.hid (rangeAt_below h hb.out hq)
 have c32b := HLC.out
 generalize hwx : wb.alloc (.cells #[c0, c1, c2, c3, c4, c5, c6, c7, c8, c9, c10, c11, c12, c13, c14, c15, c16, c17, c18, c19, c20, c21, c22, c23, c24, c25, c26, c27, c28, c29, c30, c31, .int .i64 2] 106) = wx at *
 have HSP := Lib.hid (id_size _ p.2)
 have HSA := Lib.hid (id_size' _ p.2)
 have HFT := Lib.hid (id_fit _ p.2)
 have HPL := Lib.hid p.2
 have HN := id_new wx
 obtain ⟨d0, d1, d2, d3, d4, d5, d6, d7, d8, d9, d10, d11, d12, d13, d14, d15, d16, d17, d18, d19, d20, d21, d22, d23, d24, d25, d26, d27, d28, d29, d30, d31, hP⟩ := id32 p
 have HP := Lib.hid hP
 have HSL := Lib.hid (splice_id _ p.2)
 have HON := U_one p.1
 unfold Hid at HRP HSP HSA HFT HSL
 rw [hP] at HRP HSP HSA HFT HSL HON
 have HRP := Lib.hid HRP
 have HSP := Lib.hid HSP
 have HSA := Lib.hid HSA
 have HFT := Lib.hid HFT
 have HSL := Lib.hid HSL
 have HON := Lib.hid HON
 clear c32 HLC h1 HR HBW HSZ e32 hP hwx h hq HPL
 go_wp2_with fail
 refine wp_loop_rounds 2 ?_
 rw [rounds_succ]
 go_upto_region 5 with (first
  | (with_reducible refine wpList_load_mid rfl 30 (.tmp 15) rfl q 0 rfl [d0, d1, d2, d3, d4, d5, d6, d7, d8, d9, d10, d11, d12, d13, d14, d15, d16, d17, d18, d19, d20, d21, d22, d23, d24, d25, d26, d27, d28, d29, d30, d31] _ HRP.out Tryz.underlying30 rfl HSP.out ?_)
  | (with_reducible refine wpList_storeG rfl 30 (.tmp 5) (.tmp 16) rfl wx.heap.size 0 [d0, d1, d2, d3, d4, d5, d6, d7, d8, d9, d10, d11, d12, d13, d14, d15, d16, d17, d18, d19, d20, d21, d22, d23, d24, d25, d26, d27, d28, d29, d30, d31] rfl rfl (U (List.replicate 32 0)) 30 HN.out HFT.out HON.out HSP.out ?_; intro w1 HB1 HG1))
 have G1 : wx.grownBy w1 none := gb_fresh HG1.out
 have HRW : Hid (w1.heap[wx.heap.size]? = some (.cells [d0, d1, d2, d3, d4, d5, d6, d7, d8, d9, d10, d11, d12, d13, d14, d15, d16, d17, d18, d19, d20, d21, d22, d23, d24, d25, d26, d27, d28, d29, d30, d31].toArray 30 (0, 0))) := by
  have h1 := HB1.out
  rw [HSL.out] at h1
  exact h1
 have HO1 := Lib.hid (HOW.out.kept G1 (.inr (by simp [Value.ownBlock])))
 have hb1 : Hid (Below w.heap.size w w1) := hb.out.trans ((below_of_gb G1).mono hb.out.size)
 have hz1 : w.heap.size ≤ w1.heap.size := hb1.out.size
 have HOL : Hid (∀ u ∈ (#[d0, d1, d2, d3, d4, d5, d6, d7, d8, d9, d10, d11, d12, d13, d14, d15, d16, d17, d18, d19, d20, d21, d22, d23, d24, d25, d26, d27, d28, d29, d30, d31, Value.int .i64 3] : Array Value).toList, u.oneCell' = true) := by
  intro u hu
  have hu : u ∈ [d0, d1, d2, d3, d4, d5, d6, d7, d8, d9, d10, d11, d12, d13, d14, d15, d16, d17, d18, d19, d20, d21, d22, d23, d24, d25, d26, d27, d28, d29, d30, d31] ++ [Value.int .i64 3] := hu
  rcases List.mem_append.1 hu with hu | hu
  · exact HON.out u hu
  · simp at hu; subst hu; rfl
 obtain ⟨ie, hie, his, hib, ze, hiz, hzs⟩ := info_lnk
 clear HB1 HG1 G1 HOW hb HRP HN HFT HSL
 go_upto_region 6 with (first
  | (with_reducible refine wpList_load_row rfl 30 (.tmp 5) rfl wx.heap.size rfl 30 [d0, d1, d2, d3, d4, d5, d6, d7, d8, d9, d10, d11, d12, d13, d14, d15, d16, d17, d18, d19, d20, d21, d22, d23, d24, d25, d26, d27, d28, d29, d30, d31].toArray (0, 0) _ HRW.out Tryz.underlying30 rfl HSA.out ?_)
  | (at_builtin; refine wpList_pushK w1 rfl (.tmp 17) (.tmp 20) 85 rfl w.heap.size 106 ie ze 33 40 Tryz.underlying85 hie hiz his hib hzs (by decide) (some ⟨wb.heap.size, 0, none⟩) 1 1 _ rfl HO1.out #[d0, d1, d2, d3, d4, d5, d6, d7, d8, d9, d10, d11, d12, d13, d14, d15, d16, d17, d18, d19, d20, d21, d22, d23, d24, d25, d26, d27, d28, d29, d30, d31, .int .i64 3] 1 _ rfl HOL.out rfl (by decide) (by decide) hz1 ?_; intro A7 k7 w7 hown7 hg7))
 have HF : Hid (LinksPost w [(i, 2), (p, 3)] (.returned (.slice A7 2 k7)) w7) := by
  refine ⟨_, rfl, ⟨A7, k7, rfl, ?_⟩, hb1.out.grown hg7 hz1 (fun q hq => (own_lt HO1.out q hq).1)⟩
  have h2 := hown7
  have e2 : ([(i, 2), (p, 3)] : List Lnk).flatMap lnkV = [c0, c1, c2, c3, c4, c5, c6, c7, c8, c9, c10, c11, c12, c13, c14, c15, c16, c17, c18, c19, c20, c21, c22, c23, c24, c25, c26, c27, c28, c29, c30, c31, .int .i64 2] ++ [d0, d1, d2, d3, d4, d5, d6, d7, d8, d9, d10, d11, d12, d13, d14, d15, d16, d17, d18, d19, d20, d21, d22, d23, d24, d25, d26, d27, d28, d29, d30, d31, .int .i64 3] := by
   simp only [List.flatMap_cons, List.flatMap_nil, lnkV, HU.out, HP.out]
   rfl
  show World.ownsRow _ _ _ _ _ _ _
  rw [e2]
  exact h2
 clear hown7 hg7 HO1 hb1 HRW HOL HON e1
 go_wp2_with fail
 rw [rounds_succ]
 go_wp2_with fail
 go_ret
 exact HF.out
theorem treeChildren_nil (A : Option Addr) (k : Nat) (w : World) : Calls Tryz.prog 123 #[.slice A 0 k] w (LinksPost w []) := by
 go_enter Tryz.func123, Tryz.ntmps123
 go_wp2_with fail
 refine wp_loop_rounds 1 ?_
 rw [rounds_succ]
 go_wp2_with fail
 go_ret
 exact ⟨_, rfl, ⟨none, 0, rfl, own_nil _ _ _ _⟩, Below.refl _ _⟩
set_option maxHeartbeats 4000000 in
theorem treeChildren_one (q k : Nat) (en : Ent) (w : World) (h : w.rangeAt q 0 (entV en)) (hm : en.mode ≠ 4) :
 Calls Tryz.prog 123 #[.slice (some ⟨q, 0, none⟩) 1 k] w (LinksPost w [(en.id, 1)]) := by
 have H := Lib.hid h
 have HI : Hid ((Tryz.prog.info? 39).map (·.size) = some (entV en).length) := by show _ = some _; rw [entV_length]; exact info_ent34
 have HZ1 := ent_new w
 have HF := Lib.hid (zEnt_fit en)
 have HO := Lib.hid (entV_one en)
 have hm4 : ((en.mode : Int) == 4) = false := by simp; omega
 have HON := U_one en.id.1
 have HSP := id_size _ en.id.2
 obtain ⟨c0, c1, c2, c3, c4, c5, c6, c7, c8, c9, c10, c11, c12, c13, c14, c15, c16, c17, c18, c19, c20, c21, c22, c23, c24, c25, c26, c27, c28, c29, c30, c31, hU⟩ := id32 en.id
 have HU := Lib.hid hU
 rw [hU] at HON HSP
 have HON := Lib.hid HON
 have HSP := Lib.hid HSP
 have HOL : Hid (∀ u ∈ (#[c0, c1, c2, c3, c4, c5, c6, c7, c8, c9, c10, c11, c12, c13, c14, c15, c16, c17, c18, c19, c20, c21, c22, c23, c24, c25, c26, c27, c28, c29, c30, c31, Value.int .i64 1] : Array Value).toList, u.oneCell' = true) := by
  intro u hu
  have hu : u ∈ [c0, c1, c2, c3, c4, c5, c6, c7, c8, c9, c10, c11, c12, c13, c14, c15, c16, c17, c18, c19, c20, c21, c22, c23, c24, c25, c26, c27, c28, c29, c30, c31] ++ [Value.int .i64 1] := hu
  rcases List.mem_append.1 hu with hu | hu
  · exact HON.out u hu
  · simp at hu; subst hu; rfl
 obtain ⟨ie, hie, his, hib, ze, hiz, hzs⟩ := info_lnk
 clear h hm hU HON
 go_enter Tryz.func123, Tryz.ntmps123
 go_wp2_with fail
 refine wp_loop_rounds 2 ?_
 rw [rounds_succ]
 go_upto_region 5 with (first
  | (with_reducible refine wpList_load_mid rfl 39 (.tmp 11) rfl q 0 rfl (entV en) _ H.out Tryz.underlying39 rfl HI.out ?_)
  | (with_reducible refine wpList_storeG rfl 39 (.tmp 5) (.tmp 12) rfl w.heap.size 0 (entV en) rfl rfl zEnt 39 HZ1.out HF.out HO.out HI.out ?_; intro w1 HB1 HG1))
 have HBL : Hid (Blk w1 w.heap.size 39 (entV en).toArray) := by
  have h1 := HB1.out
  rw [splice_ent] at h1
  exact h1
 have G1 : w.grownBy w1 none := gb_fresh HG1.out
 have hb1 : Hid (Below w.heap.size w w1) := below_of_gb G1
 have hz1 : w.heap.size ≤ w1.heap.size := hb1.out.size
 have hc0 : w1.cell? ⟨w.heap.size, 0, none⟩ = some (.int .i64 (en.mode : Int)) := by rw [HBL.out.cell, List.getElem?_toArray]; rfl
 have HR : Hid (w1.rangeAt w.heap.size 2 [c0, c1, c2, c3, c4, c5, c6, c7, c8, c9, c10, c11, c12, c13, c14, c15, c16, c17, c18, c19, c20, c21, c22, c23, c24, c25, c26, c27, c28, c29, c30, c31]) := fun j v hj => by
  rw [HBL.out.cell, List.getElem?_toArray]
  unfold entV
  rw [HU.out, List.getElem?_append_right (by simp)]
  simpa using hj
 clear HB1 HG1 G1 HZ1 HF HO HBL H HI
 go_upto_region 9 with (first
  | (with_reducible refine wpList_load_mid rfl 30 (.tmp 17) rfl w.heap.size 2 rfl [c0, c1, c2, c3, c4, c5, c6, c7, c8, c9, c10, c11, c12, c13, c14, c15, c16, c17, c18, c19, c20, c21, c22, c23, c24, c25, c26, c27, c28, c29, c30, c31] _ HR.out Tryz.underlying30 rfl HSP.out ?_)
  | (at_builtin; refine wpList_pushK w1 rfl (.tmp 16) (.tmp 21) 85 rfl w.heap.size 106 ie ze 33 40 Tryz.underlying85 hie hiz his hib hzs (by decide) none 0 0 [] rfl (own_nil _ _ _ _) #[c0, c1, c2, c3, c4, c5, c6, c7, c8, c9, c10, c11, c12, c13, c14, c15, c16, c17, c18, c19, c20, c21, c22, c23, c24, c25, c26, c27, c28, c29, c30, c31, .int .i64 1] 1 _ rfl HOL.out rfl (by decide) (by decide) hz1 ?_; intro A7 k7 w7 hown7 hg7))
 have HF : Hid (LinksPost w [(en.id, 1)] (.returned (.slice A7 1 k7)) w7) := by
  refine ⟨_, rfl, ⟨A7, k7, rfl, ?_⟩, hb1.out.trans ((below_of_gb hg7).mono hz1)⟩
  have h2 := hown7
  have e2 : ([(en.id, 1)] : List Lnk).flatMap lnkV = [c0, c1, c2, c3, c4, c5, c6, c7, c8, c9, c10, c11, c12, c13, c14, c15, c16, c17, c18, c19, c20, c21, c22, c23, c24, c25, c26, c27, c28, c29, c30, c31, .int .i64 1] := by
   simp only [List.flatMap_cons, List.flatMap_nil, lnkV, HU.out]
   rfl
  show World.ownsRow _ _ _ _ _ _ _
  rw [e2]
  exact h2
 clear hown7 hg7 hb1 HR HOL hc0
 go_wp2_with fail
 rw [rounds_succ]
 go_wp2_with fail
 go_ret
 exact HF.out
def Shape : Ob → Prop
 | .blob _ => True
 | .tree es => es = [] ∨ ∃ en, es = [en] ∧ en.mode ≠ 4
 | .commit c => c.parents = [] ∨ ∃ p, c.parents = [p]
 | .tag _ => True
def KidsPost (w : World) (ls : List Lnk) (e : Ending) (w' : World) : Prop := ∃ v, e = .returned (.tuple #[v, .int .i64 0]) ∧ LinksV w' w.heap.size ls v ∧ Below w.heap.size w w'
theorem meth_blob_children (v : Value) (w : World) : (method 305 111 v "satchel/object.children").run Tryz.prog w = .ok (117, v) w := by kernel_rfl
set_option maxHeartbeats 4000000 in
theorem kids_blob (ls : List Lnk) (n c : Nat) (A : Option Addr) (w : World) (hp : Calls Tryz.prog 40 #[.slice A n c] w fun e w' => ∃ v0, e = .returned (.tuple #[.iface 111 v0, .int .i64 0]) ∧ Calls Tryz.prog 117 #[v0] w' (LinksPost w' ls) ∧ Below w.heap.size w w') :
 Calls Tryz.prog 69 #[.slice A n c] w (KidsPost w ls) := by
 have HP := Lib.hid hp
 clear hp
 go_enter Tryz.func69, Tryz.ntmps69
 go_wp2_with fail
 refine HP.out.mono ?_
 rintro e w1 ⟨v0, rfl, hc, hb1⟩
 have hmb := meth_blob_children
 have HB1 := Lib.hid hb1
 have HC := Lib.hid hc
 clear hb1 hc HP
 go_wp2_with fail
 refine HC.out.mono ?_
 rintro e w2 ⟨v2, rfl, ⟨A2, k2, rfl, ho2⟩, hb2⟩
 have HF : Hid (KidsPost w ls (.returned (.tuple #[.slice A2 ls.length k2, .int .i64 0])) w2) := ⟨_, rfl, ⟨A2, k2, rfl, own_base ho2 HB1.out.size⟩, HB1.out.trans (hb2.mono HB1.out.size)⟩
 clear ho2 hb2 HC HB1 hmb
 go_wp2_with fail
 go_ret2
 exact HF.out
theorem meth_tree_children (v : Value) (w : World) : (method 305 112 v "satchel/object.children").run Tryz.prog w = .ok (123, v) w := by kernel_rfl
set_option maxHeartbeats 4000000 in
theorem kids_tree (ls : List Lnk) (n c : Nat) (A : Option Addr) (w : World) (hp : Calls Tryz.prog 40 #[.slice A n c] w fun e w' => ∃ v0, e = .returned (.tuple #[.iface 112 v0, .int .i64 0]) ∧ Calls Tryz.prog 123 #[v0] w' (LinksPost w' ls) ∧ Below w.heap.size w w') :
 Calls Tryz.prog 69 #[.slice A n c] w (KidsPost w ls) := by
 have HP := Lib.hid hp
 clear hp
 go_enter Tryz.func69, Tryz.ntmps69
 go_wp2_with fail
 refine HP.out.mono ?_
 rintro e w1 ⟨v0, rfl, hc, hb1⟩
 have hmb := meth_tree_children
 have HB1 := Lib.hid hb1
 have HC := Lib.hid hc
 clear hb1 hc HP
 go_wp2_with fail
 refine HC.out.mono ?_
 rintro e w2 ⟨v2, rfl, ⟨A2, k2, rfl, ho2⟩, hb2⟩
 have HF : Hid (KidsPost w ls (.returned (.tuple #[.slice A2 ls.length k2, .int .i64 0])) w2) := ⟨_, rfl, ⟨A2, k2, rfl, own_base ho2 HB1.out.size⟩, HB1.out.trans (hb2.mono HB1.out.size)⟩
 clear ho2 hb2 HC HB1 hmb
 go_wp2_with fail
 go_ret2
 exact HF.out
theorem meth_commit_children (v : Value) (w : World) : (method 305 113 v "satchel/object.children").run Tryz.prog w = .ok (134, v) w := by kernel_rfl
set_option maxHeartbeats 4000000 in
theorem kids_commit (ls : List Lnk) (n c : Nat) (A : Option Addr) (w : World) (hp : Calls Tryz.prog 40 #[.slice A n c] w fun e w' => ∃ v0, e = .returned (.tuple #[.iface 113 v0, .int .i64 0]) ∧ Calls Tryz.prog 134 #[v0] w' (LinksPost w' ls) ∧ Below w.heap.size w w') :
 Calls Tryz.prog 69 #[.slice A n c] w (KidsPost w ls) := by
 have HP := Lib.hid hp
 clear hp
 go_enter Tryz.func69, Tryz.ntmps69
 go_wp2_with fail
 refine HP.out.mono ?_
 rintro e w1 ⟨v0, rfl, hc, hb1⟩
 have hmb := meth_commit_children
 have HB1 := Lib.hid hb1
 have HC := Lib.hid hc
 clear hb1 hc HP
 go_wp2_with fail
 refine HC.out.mono ?_
 rintro e w2 ⟨v2, rfl, ⟨A2, k2, rfl, ho2⟩, hb2⟩
 have HF : Hid (KidsPost w ls (.returned (.tuple #[.slice A2 ls.length k2, .int .i64 0])) w2) := ⟨_, rfl, ⟨A2, k2, rfl, own_base ho2 HB1.out.size⟩, HB1.out.trans (hb2.mono HB1.out.size)⟩
 clear ho2 hb2 HC HB1 hmb
 go_wp2_with fail
 go_ret2
 exact HF.out
theorem meth_tag_children (v : Value) (w : World) : (method 305 114 v "satchel/object.children").run Tryz.prog w = .ok (141, v) w := by kernel_rfl
set_option maxHeartbeats 4000000 in
theorem kids_tag (ls : List Lnk) (n c : Nat) (A : Option Addr) (w : World) (hp : Calls Tryz.prog 40 #[.slice A n c] w fun e w' => ∃ v0, e = .returned (.tuple #[.iface 114 v0, .int .i64 0]) ∧ Calls Tryz.prog 141 #[v0] w' (LinksPost w' ls) ∧ Below w.heap.size w w') :
 Calls Tryz.prog 69 #[.slice A n c] w (KidsPost w ls) := by
 have HP := Lib.hid hp
 clear hp
 go_enter Tryz.func69, Tryz.ntmps69
 go_wp2_with fail
 refine HP.out.mono ?_
 rintro e w1 ⟨v0, rfl, hc, hb1⟩
 have hmb := meth_tag_children
 have HB1 := Lib.hid hb1
 have HC := Lib.hid hc
 clear hb1 hc HP
 go_wp2_with fail
 refine HC.out.mono ?_
 rintro e w2 ⟨v2, rfl, ⟨A2, k2, rfl, ho2⟩, hb2⟩
 have HF : Hid (KidsPost w ls (.returned (.tuple #[.slice A2 ls.length k2, .int .i64 0])) w2) := ⟨_, rfl, ⟨A2, k2, rfl, own_base ho2 HB1.out.size⟩, HB1.out.trans (hb2.mono HB1.out.size)⟩
 clear ho2 hb2 HC HB1 hmb
 go_wp2_with fail
 go_ret2
 exact HF.out
theorem children_any (o : Ob) (n c : Nat) (A : Option Addr) (w : World) (hp : Calls Tryz.prog 40 #[.slice A n c] w (ParsePost w o)) (hs : Shape o) :
 Calls Tryz.prog 69 #[.slice A n c] w (KidsPost w (childOb o)) := by
 cases o with
 | blob b =>
   refine kids_blob _ n c A w (hp.mono ?_)
   rintro e w1 ⟨v, rfl, ⟨q, n, rfl, _⟩, hb1⟩
   exact ⟨_, rfl, blobChildren _ w1, hb1⟩
 | tree es =>
   refine kids_tree _ n c A w (hp.mono ?_)
   rintro e w1 ⟨v, rfl, ⟨A1, k, rfl, ho⟩, hb1⟩
   rcases hs with rfl | ⟨en, rfl, hm⟩
   · exact ⟨_, rfl, treeChildren_nil _ _ w1, hb1⟩
   · have ho : w1.ownsRow w.heap.size 39 34 (.slice A1 1 k) 1 (entV en) := by
      rw [show ([en].flatMap entV) = entV en from by simp] at ho
      exact ho
     obtain ⟨q, rfl, hq, hr⟩ := ent_range ho
     refine ⟨_, rfl, ?_, hb1⟩
     have h1 := treeChildren_one q k en w1 hr hm
     rw [show childOb (.tree [en]) = [(en.id, 1)] from by simp [childOb, hm]]
     exact h1
 | commit c =>
   obtain ⟨ct, cp, cw, ctm, ctx⟩ := c
   refine kids_commit _ n _ A w (hp.mono ?_)
   rintro e w1 ⟨v, rfl, ⟨A1, k, rfl, ho⟩, hb1⟩
   rcases hs with hp | ⟨p, hp⟩
   · simp only at hp
     subst hp
     exact ⟨_, rfl, comChildren_nil ct _ _ _ _ _ w1, hb1⟩
   · simp only at hp
     subst hp
     have ho : w1.ownsRow w.heap.size 30 32 (.slice A1 1 k) 1 (U p.1) := by
      rw [show ([p].flatMap fun p => U p.1) = U p.1 from by simp] at ho
      exact ho
     obtain ⟨q, rfl, _, hq, hr⟩ := id_range ho
     exact ⟨_, rfl, comChildren_one ct p q k _ _ _ w1 hr hq, hb1⟩
 | tag t =>
   refine kids_tag _ n c A w (hp.mono ?_)
   rintro e w1 ⟨v, rfl, rfl, hb1⟩
   exact ⟨_, rfl, tagChildren t.target t.kind _ _ _ _ w1, hb1⟩
end Go.Proofs.YtnjhjbmngoeobaaGreatDoor
namespace Go.Proofs.YtnjhjbmngoeobaaGreatDoor
open Go.RowKit Go.Maps
set_option maxRecDepth 100000
theorem rowKey : (30 : TypeId) < Tryz.prog.types.size := of_decide_eq_true (by kernel_rfl)
theorem key_law : Keyed Tryz.prog 30 := Keyed.of_law (deep_law_laid (by kernel_rfl) (m := 2) (by omega) rowKey (by kernel_rfl) (by kernel_rfl))
theorem key_wf (x : Nat) (h : x < 256) : (Lit.int .u8 (x : Int)).wf = true := (by decide +kernel : ∀ x : Nat, x < 256 → (Lit.int .u8 (x : Int)).wf = true) x h
theorem key_size : ∃ n, Tryz.prog.types.size + 1 = n + 2 := ⟨Tryz.prog.types.size - 1, by
 have h : (30 : Nat) < Tryz.prog.types.size := rowKey
 omega⟩
theorem key_cells : Tryz.prog.cellsOf 30 = 32 := by kernel_rfl
theorem key_cells5 : Tryz.prog.cellsOf 5 = 1 := by kernel_rfl
theorem key_type : Tryz.prog.keyType 30 = true := by kernel_rfl
def idVal (i : Id) : Value := .agg (U i.1).toArray
def keyLs (i : Id) : List Lit := i.1.map fun b => Lit.int .u8 (b.toNat : Int)
theorem key_one (d : Nat) (x : UInt8) : Tryz.prog.keyLits (d + 1) 5 [.int .u8 (x.toNat : Int)] = some [.int .u8 (x.toNat : Int)] := by
 have h5 : Tryz.prog.underlying 5 = some (.int .u8) := by kernel_rfl
 simp [Program.keyLits, h5, key_wf x.toNat (UInt8.toNat_lt x)]
theorem key_mapM (d : Nat) (l : List UInt8) (k : Nat) (n : Nat) (hn : k + n ≤ l.length) :
 ((List.range' k n).mapM fun i => Tryz.prog.keyLits (d + 1) 5 (((U l).drop (i * 1)).take 1)) = some (((l.drop k).take n).map fun b => [Lit.int .u8 (b.toNat : Int)]) := by
 induction n generalizing k with
 | zero => simp
 | succ n ih =>
   have hk : k < l.length := by omega
   have e1 : ((U l).drop (k * 1)).take 1 = [.int .u8 ((l[k]'hk).toNat : Int)] := by
    rw [Nat.mul_one, List.drop_eq_getElem_cons (by rw [U_length]; exact hk)]
    simp only [List.take_succ_cons, List.take_zero, U, List.getElem_map]
   rw [List.range'_succ, List.mapM_cons, e1, key_one, ih (k + 1) (by omega)]
   rw [List.drop_eq_getElem_cons hk]
   simp only [List.take_succ_cons, List.map_cons]
   rfl
theorem flat1 (l : List UInt8) : (l.map fun b => [Lit.int .u8 (b.toNat : Int)]).flatten = l.map fun b => Lit.int .u8 (b.toNat : Int) := by
 induction l with
 | nil => rfl
 | cons x l ih => simp only [List.map_cons, List.flatten_cons, ih]; rfl
theorem U_inj : ∀ {l l' : List UInt8}, U l = U l' → l = l'
 | [], [], _ => rfl
 | [], _ :: _, h => by simp [U] at h
 | _ :: _, [], h => by simp [U] at h
 | x :: l, y :: l', h => by
   simp only [U, List.map_cons, List.cons.injEq] at h
   have h1 : x.toNat = y.toNat := by have := h.1; injection this with _ h2; omega
   rw [UInt8.toNat_inj.1 h1, U_inj h.2]
theorem key_some (i : Id) : keyOf Tryz.prog 30 (idVal i) = some (.string (keyBytes (keyLs i))) := by
 obtain ⟨n, hn⟩ := key_size
 have hl : Tryz.prog.keyLits (n + 2) 30 (idVal i).cells.toList = some (keyLs i) := by
  have h1 := key_mapM n i.1 0 32 (by rw [i.2]; exact Nat.le_refl _)
  rw [List.drop_zero, List.take_of_length_le (by rw [i.2]; exact Nat.le_refl _), ← List.range_eq_range'] at h1
  have hlen : (U i.1).length = 32 := by rw [U_length]; exact i.2
  unfold Program.keyLits
  simp only [Tryz.underlying30, idVal, Value.cells, List.toList_toArray, hlen, key_cells, key_cells5, if_true]
  rw [h1]
  simp only [Option.map_some, keyLs]
  rw [flat1]
 unfold keyOf
 rw [Tryz.underlying30]
 simp only [key_type, Bool.true_and]
 rw [if_pos (by simp [Value.formed, Tryz.underlying30, key_cells, idVal, U_length, i.2]), hn, hl]
 rfl
def ik (i : Id) : Lit := .string (keyBytes (keyLs i))
theorem ik_key (i : Id) : keyOf Tryz.prog 30 (idVal i) = some (ik i) := key_some i
theorem ik_inj {i j : Id} (h : ik i = ik j) : i = j := by
 have h1 := ik_key i
 rw [h] at h1
 have h2 := key_law.inj h1 (ik_key j)
 have h3 : U i.1 = U j.1 := by
  have h4 : (U i.1).toArray = (U j.1).toArray := by injection h2
  simpa using congrArg Array.toList h4
 exact Subtype.ext (U_inj h3)
theorem ik_isKey (i : Id) : WideAt.IsKeyLit (ik i) := key_law.key (ik_key i)
def elemR (v : Value) : Option (DataW Value × List MemPlace) := some (.held v, [])
structure StV (w : World) (B a m : Nat) (S : Sto) (D : DataW Value) : Prop where
 blk : Blk w a 61 #[.map (some m)]
 mp : w.ownsMap Tryz.prog 30 elemR m S.length D
 size : Maps.size D = S.length
 hs : ∀ i, has D (ik i) = (getS S i).isSome
 at_ : ∀ i b, getS S i = some b → ∃ A c, D.atKey (ik i) (.held (.slice none 0 0)) = .held (.slice A b.length c) ∧ Sl w A b ∧ b.length ≤ c ∧ ∀ p, A = some p → B ≤ p.block ∧ ∃ cs, Blk w p.block 5 cs
 ha : B ≤ a
 hm : B ≤ m
def NewPost (w : World) (e : Ending) (w' : World) : Prop := ∃ a m D, e = .returned (.pointer (some ⟨a, 0, none⟩)) ∧ StV w' w.heap.size a m [] D ∧ Below w.heap.size w w'
theorem new_store (w : World) : Calls Tryz.prog 4 #[] w (NewPost w) := by
 have hmm := @run_makeMap Tryz.prog
 have HF : Hid (NewPost w (.returned (.pointer (some ⟨w.heap.size + 1, 0, none⟩))) ((w.alloc (.map #[] 0)).alloc (.cells #[.map (some w.heap.size)] 61))) := by
  have h1 := World.ownsMap_made w Tryz.prog 30 elemR
  have e : (w.alloc (.map #[] 0)).heap.size = w.heap.size + 1 := by simp
  have h2 := Blk.new (w.alloc (.map #[] 0)) 61 #[.map (some w.heap.size)]
  rw [e] at h2
  refine ⟨_, w.heap.size, .map [], rfl, ⟨h2, h1.alloc _, rfl, fun i => by simp [has, getS], fun i b h => by simp [getS] at h, Nat.le_succ _, Nat.le_refl _⟩, ?_⟩
  exact ((Below.refl _ _).alloc (Nat.le_refl _) _).alloc (by simp) _
 go_enter Tryz.func4, Tryz.ntmps4
 go_wp2_with fail
 go_ret
 exact HF.out
theorem StV.cell {w : World} {B a m : Nat} {S : Sto} {D : DataW Value} (h : StV w B a m S D) : w.cell? ⟨a, 0, none⟩ = some (.map (some m)) := by
 have := h.blk.cell 0
 simpa using this
theorem len_store (B a m : Nat) (S : Sto) (D : DataW Value) (w : World) (h : StV w B a m S D) :
 Calls Tryz.prog 56 #[.pointer (some ⟨a, 0, none⟩)] w fun e w' => e = .returned (.int .i64 (S.length : Int)) ∧ w = w' := by
 have hc := h.cell
 have hl := fun ty => h.mp.len (t := 59) Tryz.underlying59 ty
 rw [h.size] at hl
 clear h
 go_enter Tryz.func56, Tryz.ntmps56
 go_wp2_with fail
 go_ret
 exact ⟨rfl, rfl⟩
theorem look_store {w : World} {B a m : Nat} {S : Sto} {D : DataW Value} (h : StV w B a m S D) (i : Id) :
 ∃ v, (Instr.lookup 59 (.map (some m)) (.agg (U i.1).toArray) true).run Tryz.prog w = .ok (.tuple #[v, .bool (getS S i).isSome]) w ∧ ∀ b, getS S i = some b → ∃ A c, v = .slice A b.length c ∧ Sl w A b ∧ b.length ≤ c ∧ ∀ p, A = some p → B ≤ p.block ∧ ∃ cs, Blk w p.block 5 cs := by
 have hz : (zeroValue 35).run Tryz.prog w = .ok (.slice none 0 0) w := by kernel_rfl
 have h1 := h.mp.look_ok key_law (t := 59) Tryz.underlying59 hz (zd := .held (.slice none 0 0)) (zp := []) rfl (ik_key i)
 obtain ⟨v, ps, h2, h3⟩ := h1
 rw [h.hs] at h2
 refine ⟨v, h2, fun b hb => ?_⟩
 obtain ⟨A, c, e1, h4⟩ := h.at_ i b hb
 rw [e1] at h3
 have e2 := Option.some.inj h3
 have e3 := congrArg Prod.fst e2
 injection e3 with e3
 exact ⟨A, c, e3, h4⟩
theorem StV.below {w w' : World} {B a m : Nat} {S : Sto} {D : DataW Value} (h : StV w B a m S D) (hb : Below w.heap.size w w') : StV w' B a m S D := by
 obtain ⟨es, clock, hm, F, hn, hD⟩ := h.mp
 have hlt : m < w.heap.size := (Array.getElem?_eq_some_iff.1 hm).1
 refine ⟨h.blk.below hb h.blk.lt, ⟨es, clock, (hb.block m hlt).trans hm, F, hn, hD⟩, h.size, h.hs, fun i b hi => ?_, h.ha, h.hm⟩
 obtain ⟨A, c, e1, h2, h3, h4⟩ := h.at_ i b hi
 exact ⟨A, c, e1, h2.below hb, h3, fun p hp => ⟨(h4 p hp).1, by
  obtain ⟨cs, hc⟩ := (h4 p hp).2
  exact ⟨cs, hc.below hb hc.lt⟩⟩⟩
set_option maxHeartbeats 2000000 in
theorem kind_store (B a m : Nat) (S : Sto) (D : DataW Value) (i : Id) (w : World) (h : StV w B a m S D) (o : Ob) (b : Bs) (hb : getS S i = some b)
 (hp : ∀ (A : Option Addr) (c : Nat) wA, Sl wA A b → w.grownBy wA none → Calls Tryz.prog 40 #[.slice A b.length c] wA (ParsePost wA o)) :
 Calls Tryz.prog 46 #[.pointer (some ⟨a, 0, none⟩), .agg (U i.1).toArray] w fun e w' => e = .returned (.tuple #[.int .i64 (kindOb o : Int), .int .i64 0]) ∧ Below w.heap.size w w' := by
 obtain ⟨wb, hwb⟩ : ∃ wb, wb = w.alloc (.cells (U i.1).toArray 30) := ⟨_, rfl⟩
 have hbb : Below w.heap.size w wb := by rw [hwb]; exact (Below.refl _ _).alloc (Nat.le_refl _) _
 have hR : wb.heap[w.heap.size]? = some (.cells (U i.1).toArray 30 (0, 0)) := by rw [hwb]; exact heap_alloc_new w _
 have hgb : w.grownBy wb none := by rw [hwb]; exact gb_alloc (gb_refl w none) _
 have h1 : StV wb.drew B a m S D := h.below hbb.drew
 obtain ⟨v, hlk, hv⟩ := look_store h1 i
 obtain ⟨A, c, rfl, hsl, hlc, _⟩ := hv b hb
 rw [hb] at hlk
 simp only [Option.isSome_some] at hlk
 have hc := h1.cell
 have HR : Hid (wb.drew.heap[w.heap.size]? = some (.cells (U i.1).toArray 30 (0, 0))) := hR
 have HSZ2 := Lib.hid (id_size' _ i.2)
 have HB := Lib.hid hbb.drew
 have HK := Lib.hid (kind_any o b.length c A wb.drew (fun wA hg => hp A c wA (hsl.below (below_of_gb hg)) (gb_trans (gb_drew hgb) hg)))
 clear h h1 hv hsl hlc hb hR hbb hgb
 go_enter Tryz.func46, Tryz.ntmps46
 go_upto_region 1 with fail
 rw [← hwb]
 clear hwb hp
 refine wp_region_still_lit (by kernel_rfl) (by kernel_rfl) ?_
 change wpStill _ _ wb.drew (fun a' => Exit.then _ _ Exit.normal a' wb.drew) _ _
 generalize wb.drew = w2 at *
 still_step
 still_step
 still_step
 still_step
 refine wpStill_step (fun K hK => ?_)
 rw [if_pos (by rfl)]
 refine still_load_row 30 (.tmp 3) rfl w.heap.size rfl 30 (U i.1).toArray (0, 0) _ HR.out Tryz.underlying30 rfl HSZ2.out ?_
 refine hK _ ?_
 clear hK K
 repeat still_step
 refine wpStill_nil ?_
 go_wp2_with fail
 refine HK.out.mono ?_
 rintro e w3 ⟨rfl, h3⟩
 have HB3 : Hid (Below w.heap.size w w3) := HB.out.trans (h3.mono HB.out.size)
 clear h3 HK HB HR hlk hc
 go_wp2_with fail
 go_ret2
 exact ⟨rfl, HB3.out⟩
set_option maxHeartbeats 2000000 in
theorem children_store (B a m : Nat) (S : Sto) (D : DataW Value) (i : Id) (w : World) (h : StV w B a m S D) (o : Ob) (b : Bs) (hb : getS S i = some b)
 (hsh : Shape o) (hp : ∀ (A : Option Addr) (c : Nat) wA, Sl wA A b → w.grownBy wA none → Calls Tryz.prog 40 #[.slice A b.length c] wA (ParsePost wA o)) :
 Calls Tryz.prog 50 #[.pointer (some ⟨a, 0, none⟩), .agg (U i.1).toArray] w (KidsPost w (childOb o)) := by
 obtain ⟨wb, hwb⟩ : ∃ wb, wb = w.alloc (.cells (U i.1).toArray 30) := ⟨_, rfl⟩
 have hbb : Below w.heap.size w wb := by rw [hwb]; exact (Below.refl _ _).alloc (Nat.le_refl _) _
 have hR : wb.heap[w.heap.size]? = some (.cells (U i.1).toArray 30 (0, 0)) := by rw [hwb]; exact heap_alloc_new w _
 have hgb : w.grownBy wb none := by rw [hwb]; exact gb_alloc (gb_refl w none) _
 have h1 : StV wb.drew B a m S D := h.below hbb.drew
 obtain ⟨v, hlk, hv⟩ := look_store h1 i
 obtain ⟨A, c, rfl, hsl, hlc, _⟩ := hv b hb
 rw [hb] at hlk
 simp only [Option.isSome_some] at hlk
 have hc := h1.cell
 have HR : Hid (wb.drew.heap[w.heap.size]? = some (.cells (U i.1).toArray 30 (0, 0))) := hR
 have HSZ2 := Lib.hid (id_size' _ i.2)
 have HB := Lib.hid hbb.drew
 have HK := Lib.hid (children_any o b.length c A wb.drew (hp A c wb.drew hsl (gb_drew hgb)) hsh)
 clear h h1 hv hsl hlc hb hR hbb hgb
 go_enter Tryz.func50, Tryz.ntmps50
 go_upto_region 1 with fail
 rw [← hwb]
 clear hwb hp
 refine wp_region_still_lit (by kernel_rfl) (by kernel_rfl) ?_
 change wpStill _ _ wb.drew (fun a' => Exit.then _ _ Exit.normal a' wb.drew) _ _
 generalize wb.drew = w2 at *
 still_step
 still_step
 still_step
 still_step
 refine wpStill_step (fun K hK => ?_)
 rw [if_pos (by rfl)]
 refine still_load_row 30 (.tmp 3) rfl w.heap.size rfl 30 (U i.1).toArray (0, 0) _ HR.out Tryz.underlying30 rfl HSZ2.out ?_
 refine hK _ ?_
 clear hK K
 repeat still_step
 refine wpStill_nil ?_
 go_wp2_with fail
 refine HK.out.mono ?_
 rintro e w3 ⟨v, rfl, ⟨A3, k3, rfl, ho3⟩, h3⟩
 have HF : Hid (KidsPost w (childOb o) (.returned (.tuple #[.slice A3 (childOb o).length k3, .int .i64 0])) w3) := ⟨_, rfl, ⟨A3, k3, rfl, own_base ho3 HB.out.size⟩, HB.out.trans (h3.mono HB.out.size)⟩
 clear h3 ho3 HK HB HR hlk hc
 go_wp2_with fail
 go_ret2
 exact HF.out
end Go.Proofs.YtnjhjbmngoeobaaGreatDoor
