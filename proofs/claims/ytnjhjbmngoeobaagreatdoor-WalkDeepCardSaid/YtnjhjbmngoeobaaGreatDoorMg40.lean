/- Laws towards WalkDeep: WdB. -/
import Derived.Test.YtnjhjbmngoeobaaGreatDoorMg39
import Derived.Deep.CutRange
namespace Go.Proofs.YtnjhjbmngoeobaaGreatDoor
open Go.RowKit Go.Maps
set_option maxRecDepth 100000
set_option maxHeartbeats 2000000 in
theorem deep_last (W : World) (N Tg : Int) (A : Option Addr) (tn tc : Nat) (l : List Int) :
 (deepS W N Tg A tn tc l).P := by
 unfold deepS
 intro w1 HBX HB1 HE HD HT HL HSO tm HTM w2 a m D HM K5 wr u2o u8 u9 u10 u11 u12 u13 u14 u15 u16 u17 u18 u19 u20 u21 u48 u49 u50 u51 u52 u53 u54 u55 u56 u57 u58 u59 u60 u61 u62 u63 u64 u65 u66 u67 u68 u69 u70 u71 u72 u73 u74 u75 u76 u77 u78 u79 u80 u81 u82 u83 u84 u85 u86 u87 u88 u89 u90 u91 u92 u93 u94 u95 u96 u97 u98 u99 u100 u101 u102 u103 u104 u105 u106 u107 u108 u109 u110 u111 u112 u113 u114 u115 u116 u117 u118 u119 u120 u121 u122 u123 u124 u125 u126 u127 u128 u129 u130 u131 u132 u133 u134 u135 u136 u137 u138 u139 u140 u141 u142 u143 u144 u145 u146 u147 u148 u149 u150 u151 u152 u153 u154 u155 u156 u157 u158 u159 u160 u161 u162 i co So lc hu30 hnb hn1 en ewn HNN hd1 hd2 i1 ei1 ewi1 b1 b2 b3 q p HI1 Q1 K4 a4 ws K3 a3 tb HTQ u2 u25 u26 u27 u28 u29 u168 u169 u170 u171 u172 u173 u174 u175 u176 u177 u178 u179 u180 u181 u182 u183 u184 u185 u186 u187 u188 u189 u190 u191 u192 u193 u194 u195 u196 u197 u198 u199 j c kd S HCJ HKD HTG hcb hmT2 eTg hj hjm hd5 hd6 Q0 K2 a2 K1 a1 K0 a0 wr0 HO HST HTB HB
 obtain ⟨rN, rH, hF⟩ := deepF HTG.out HTM.out.2 HST.out.kn hn1 hnb hmT2
 rw [← HCJ.out] at hF
 obtain ⟨top, htop⟩ : ∃ top, top = (tgtQ tm i j).1 := ⟨_, rfl⟩
 obtain ⟨cn, hcn⟩ : ∃ cn, cn = shaI (Cq tm (i - 1)) := ⟨_, rfl⟩
 obtain ⟨cm, hcm⟩ : ∃ cm, cm = shaI (Cq tm (i / 2)) := ⟨_, rfl⟩
 obtain ⟨lin, hlin⟩ : ∃ lin, lin = Cids tm i := ⟨_, rfl⟩
 unfold Hid at HTB HO
 rw [← htop] at hF HTB
 rw [← hcn, ← hcm, ← hlin] at hF
 rw [← hlin] at HO
 have F := Lib.hid hF
 replace HTB := Lib.hid HTB
 replace HO := Lib.hid HO
 obtain ⟨c0, hc0⟩ : ∃ c0, c0 = lin.getD 0 zeroId := ⟨_, rfl⟩
 have HC00 := Lib.hid hc0
 obtain ⟨ih, hih⟩ : ∃ ih, ih = i / 2 := ⟨_, rfl⟩
 have HIH := Lib.hid hih
 have q1 : (i : Int).tdiv 2 = (ih : Int) := by rw [Int.tdiv_eq_ediv_of_nonneg (by omega)]; omega
 have q2 : (i : Int) / 2 = (ih : Int) := by omega
 have q3 : IntKind.i64.wrap (ih : Int) = (ih : Int) := wraps_i64 _ (by omega) (by omega)
 have q4 : (0 : Int) ≤ (ih : Int) := by omega
 have q5 : (ih : Int) < (i : Int) := by omega
 have q6 : ih < i := by omega
 have q7 : (0 : Int) < (i : Int) := by omega
 have q8 : 0 < i := by omega
 have HLR : Hid (∀ w', Below wr0.heap.size wr0 w' → ∀ t, t < i → w'.rangeAt q (t * 32) (U (lin.getD t zeroId).1)) := fun w' hb t ht =>
  rangeAt_below (own_at HO.out (by rw [F.out.len]; exact ht)) hb (HO.out.lt q rfl).2
 obtain ⟨D0, hD0⟩ := HST.out.st
 have HEN : Hid (Env wr0 w1.heap.size a m S D0) := ⟨hD0, HST.out.ok, HST.out.kn, HST.out.er⟩
 obtain ⟨e0, e1, e2, e3, e4, e5, e6, e7, e8, e9, e10, e11, e12, e13, e14, e15, e16, e17, e18, e19, e20, e21, e22, e23, e24, e25, e26, e27, e28, e29, e30, e31, hV⟩ := id32 top
 have HV := Lib.hid hV
 have hz := id_size' _ top.2
 rw [hV] at hz
 have HZL := Lib.hid hz
 have HTL : Hid (∀ w', Below wr0.heap.size wr0 w' → w'.heap[tb]? = some (.cells #[e0, e1, e2, e3, e4, e5, e6, e7, e8, e9, e10, e11, e12, e13, e14, e15, e16, e17, e18, e19, e20, e21, e22, e23, e24, e25, e26, e27, e28, e29, e30, e31] 30 (0, 0))) := fun w' hb => by
  have h := HTB.out.below hb HTB.out.lt
  rw [HV.out] at h
  exact h
 have HTR : Hid (∀ w', Below wr0.heap.size wr0 w' → w'.rangeAt tb 0 (U top.1)) := fun w' hb => id_rangeB (HTB.out.below hb HTB.out.lt)
 have HZT := Lib.hid (id_size _ top.2)
 have HZT2 := Lib.hid (id_size' _ top.2)
 have eIG : IdsU [top] = [e0, e1, e2, e3, e4, e5, e6, e7, e8, e9, e10, e11, e12, e13, e14, e15, e16, e17, e18, e19, e20, e21, e22, e23, e24, e25, e26, e27, e28, e29, e30, e31] := by rw [← HV.out]; simp [IdsU]
 have HRG : Hid (∀ w' : World, IdsR (w'.alloc (.cells #[e0, e1, e2, e3, e4, e5, e6, e7, e8, e9, e10, e11, e12, e13, e14, e15, e16, e17, e18, e19, e20, e21, e22, e23, e24, e25, e26, e27, e28, e29, e30, e31] 30)) [top] (some ⟨w'.heap.size, 0, none⟩)) := fun w' => .inr ⟨_, 0, rfl, by simp, by
  rw [eIG]
  exact range_of_blk (Blk.new w' 30 #[e0, e1, e2, e3, e4, e5, e6, e7, e8, e9, e10, e11, e12, e13, e14, e15, e16, e17, e18, e19, e20, e21, e22, e23, e24, e25, e26, e27, e28, e29, e30, e31]) (fun j v hj => by rw [Nat.zero_add, List.getElem?_toArray]; exact hj)⟩
 have HBR := HB
 clear hF htop hcn hcm hlin hc0 hih hD0 hV hz eIG HTG HST HO HCJ HKD HB hjm hj
 obtain ⟨w11, hw11⟩ : ∃ w11, w11 = wr0.alloc (.cells #[e0, e1, e2, e3, e4, e5, e6, e7, e8, e9, e10, e11, e12, e13, e14, e15, e16, e17, e18, e19, e20, e21, e22, e23, e24, e25, e26, e27, e28, e29, e30, e31] 30) := ⟨_, rfl⟩
 have HB11 : Hid (Below wr0.heap.size wr0 w11) := by rw [hw11]; exact (Below.refl _ _).alloc (Nat.le_refl _) _
 have hrg := HRG.out wr0
 rw [← hw11] at hrg
 have HRE := Lib.hid (reach_any w11 w1.heap.size m a S D0 [top] (some ⟨wr0.heap.size, 0, none⟩) 1 (HEN.out.to HB11.out) F.out.good hrg (by simp) (fun i hi => by
  rw [List.mem_singleton] at hi
  subst hi
  exact F.out.hT.1) (by simp) HSO.out)
 unfold Hid at HRE
 rw [show [top].length = 1 from rfl] at HRE
 replace HRE := Lib.hid HRE
 have HW11 := Lib.hid hw11
 have HT0 := Lib.hid (HTL.out wr0 (Below.refl _ _))
 clear hrg hw11
 go_wp2_with (with_reducible refine wpList_load_row rfl 30 (.tmp 22) rfl tb rfl 30 #[e0, e1, e2, e3, e4, e5, e6, e7, e8, e9, e10, e11, e12, e13, e14, e15, e16, e17, e18, e19, e20, e21, e22, e23, e24, e25, e26, e27, e28, e29, e30, e31] (0, 0) _ HT0.out hu30 rfl HZL.out ?_)
 rw [← HW11.out]
 refine HRE.out.mono ?_
 rintro e w12 ⟨A1, k1, rfl, _, hb12⟩
 rw [F.out.aA]
 have HB12 : Hid (Below wr0.heap.size wr0 w12) := HB11.out.trans (hb12.mono HB11.out.size)
 obtain ⟨w13, hw13⟩ : ∃ w13, w13 = w12.alloc (.cells #[e0, e1, e2, e3, e4, e5, e6, e7, e8, e9, e10, e11, e12, e13, e14, e15, e16, e17, e18, e19, e20, e21, e22, e23, e24, e25, e26, e27, e28, e29, e30, e31] 30) := ⟨_, rfl⟩
 have HB13 : Hid (Below wr0.heap.size wr0 w13) := by
  have : Below w12.heap.size w12 w13 := by rw [hw13]; exact (Below.refl _ _).alloc (Nat.le_refl _) _
  exact HB12.out.trans (this.mono HB12.out.size)
 have hrg := HRG.out w12
 rw [← hw13] at hrg
 have HOR := Lib.hid (order_any w13 w1.heap.size m a S D0 top cn rN (some ⟨w12.heap.size, 0, none⟩) 1 (HEN.out.to HB13.out) F.out.good hrg F.out.hT F.out.eT F.out.cN)
 have HW13 := Lib.hid hw13
 have HT12 := Lib.hid (HTL.out w12 HB12.out)
 clear hb12 hrg hw13 HRE HW11 HT0 HB11
 go_wp2_with (with_reducible refine wpList_load_row rfl 30 (.tmp 22) rfl tb rfl 30 #[e0, e1, e2, e3, e4, e5, e6, e7, e8, e9, e10, e11, e12, e13, e14, e15, e16, e17, e18, e19, e20, e21, e22, e23, e24, e25, e26, e27, e28, e29, e30, e31] (0, 0) _ HT12.out hu30 rfl HZL.out ?_)
 rw [← HW13.out]
 refine HOR.out.mono ?_
 rintro e w14 ⟨A3, k3, rfl, hr14, hb14⟩
 rw [F.out.lN]
 obtain ⟨qo, oo, rfl, hqo, hro⟩ : ∃ q o, A3 = some ⟨q, o, none⟩ ∧ q < w14.heap.size ∧ w14.rangeAt q o (IdsU (cn :: rN)) := by
  rcases hr14 with h | h
  · cases h
  · exact h
 have HB14 : Hid (Below wr0.heap.size wr0 w14.drew) := (HB13.out.trans (hb14.mono HB13.out.size)).drew
 have HQO : Hid (qo < w14.drew.heap.size ∧ w14.drew.rangeAt qo oo (IdsU (cn :: rN))) := ⟨hqo, hro⟩
 have HZ0 := Lib.hid (id_size _ c0.2)
 have hS14 : w14.drew.rangeAt tb 0 (U top.1) ∧ w14.drew.rangeAt q 0 (U c0.1) := ⟨HTR.out _ HB14.out, by
  have := HLR.out _ HB14.out 0 q8
  rw [Nat.zero_mul, ← HC00.out] at this
  exact this⟩
 have h0F : endsP S [c0, top] = some [c0, cn] := by rw [HC00.out]; exact F.out.e0
 have h0M : c0 ∈ setP (lnkH S) [cn] := by rw [HC00.out]; exact F.out.b0
 have h0K : c0 ∈ idsS S ∧ kindS S c0 = 3 := by rw [HC00.out]; exact F.out.h0
 have HBF := Lib.hid (before_any w14.drew w1.heap.size m a S D0 c0 top c0 cn (HEN.out.to HB14.out) F.out.good ⟨h0K.1, .inl h0K.2⟩ F.out.hT h0F h0K F.out.hn)
 unfold Hid at HBF
 rw [decide_eq_true h0M] at HBF
 replace HBF := Lib.hid HBF
 clear hb14 hr14 hqo hro HOR HW13 HT12 HB12 HB13 HRG h0F h0M h0K
 go_upto_region 40 with fail
 refine wp_region_noPanic ?_
 refine wp_region_held_drew (S := fun w' => w'.rangeAt tb 0 (U top.1) ∧ w'.rangeAt q 0 (U c0.1)) (by kernel_rfl) hS14 (fun hHeld => ?_)
 refine wpAnyH_take (i := 0) (oi := { dst := some 215, op := Go.Op.move (Go.Operand.tmp 3), type := 25, pos := "outright.go:351", after := #[], guard := none }) (v := .pointer (some ⟨a, 0, none⟩)) rfl (by kernel_rfl) ?_ ?_ ?_ ?_ hHeld ?_
 · kernel_rfl
 · kernel_rfl
 · exact fun _ _ _ h => h
 · exact Or.inl ⟨by rfl, fun w' _ => by go_simp⟩
 (try simp only [Act.put, List.setIfInBounds_toArray, List.set_cons_zero, List.set_cons_succ])
 refine wpAnyH_take (i := 1) (oi := { dst := some 216, op := Go.Op.move (Go.Operand.tmp 5), type := 28, pos := "outright.go:351", after := #[], guard := none }) (v := .slice (some ⟨q, 0, none⟩) i lc) rfl (by kernel_rfl) ?_ ?_ ?_ ?_ hHeld ?_
 · kernel_rfl
 · kernel_rfl
 · exact fun _ _ _ h => h
 · exact Or.inl ⟨by rfl, fun w' _ => by go_simp⟩
 (try simp only [Act.put, List.setIfInBounds_toArray, List.set_cons_zero, List.set_cons_succ])
 refine wpAnyH_take (i := 2) (oi := { dst := some 217, op := Go.Op.indexAddr 28 (Go.Operand.tmp 216) (Go.Operand.const (Go.Value.int Go.IntKind.i64 0)), type := 0, pos := "outright.go:351", after := #[{ on := 1, ground := Go.Ground.data }], guard := none }) (v := .pointer (some ⟨q, 0, none⟩)) rfl (by kernel_rfl) ?_ ?_ ?_ ?_ hHeld ?_
 · kernel_rfl
 · kernel_rfl
 · exact fun _ _ _ h => h
 · exact Or.inl ⟨by rfl, fun w' _ => by go_simp⟩
 (try simp only [Act.put, List.setIfInBounds_toArray, List.set_cons_zero, List.set_cons_succ])
 refine wpAnyH_take (i := 3) (oi := { dst := some 218, op := Go.Op.load 30 (Go.Operand.tmp 217), type := 30, pos := "outright.go:351", after := #[{ on := 2, ground := Go.Ground.data }], guard := none }) (v := .agg ((U c0.1)).toArray) rfl (by kernel_rfl) ?_ ?_ ?_ ?_ hHeld ?_
 · kernel_rfl
 · kernel_rfl
 · exact fun _ _ _ h => h
 · exact yieldsIf_load_mid (by rfl) 30 (.tmp 217) rfl q 0 rfl (U c0.1) _ (fun w' h => h.2) hu30 rfl HZ0.out
 (try simp only [Act.put, List.setIfInBounds_toArray, List.set_cons_zero, List.set_cons_succ])
 refine wpAnyH_take (i := 4) (oi := { dst := some 219, op := Go.Op.load 30 (Go.Operand.tmp 22), type := 30, pos := "outright.go:351", after := #[], guard := none }) (v := .agg ((U top.1)).toArray) rfl (by kernel_rfl) ?_ ?_ ?_ ?_ hHeld ?_
 · kernel_rfl
 · kernel_rfl
 · exact fun _ _ _ h => h
 · exact yieldsIf_load_mid (by rfl) 30 (.tmp 22) rfl tb 0 rfl (U top.1) _ (fun w' h => h.1) hu30 rfl HZT.out
 (try simp only [Act.put, List.setIfInBounds_toArray, List.set_cons_zero, List.set_cons_succ])
 refine wpAnyH_ready (rs := [5]) (by kernel_rfl) (by simp) ?_
 refine AllReadyH.cons (o := { dst := some 220, op := Go.Op.call { callee := Go.Callee.value (Go.Operand.func 12), args := #[Go.Operand.tmp 215, Go.Operand.tmp 218, Go.Operand.tmp 219], argTypes := #[25, 30, 30] }, type := 53, pos := "outright.go:351", after := #[{ on := 0, ground := Go.Ground.data }, { on := 3, ground := Go.Ground.data }, { on := 4, ground := Go.Ground.data }], guard := none }) rfl (fun K hK => ?_) AllReadyH.nil
 go_simp
 refine HBF.out.mono ?_
 rintro e w15 ⟨rfl, hb15⟩
 have HB15 : Hid (Below wr0.heap.size wr0 w15.drew) := (HB14.out.trans (hb15.mono HB14.out.size)).drew
 have hb15w : Below wr0.heap.size wr0 w15 := HB14.out.trans (hb15.mono HB14.out.size)
 have hS15 : w15.rangeAt tb 0 (U top.1) ∧ w15.rangeAt q 0 (U c0.1) := ⟨HTR.out _ hb15w, by
  have := HLR.out _ hb15w 0 q8
  rw [Nat.zero_mul, ← HC00.out] at this
  exact this⟩
 have HQ15 : Hid (qo < w15.drew.heap.size ∧ w15.drew.rangeAt qo oo (IdsU (cn :: rN))) := ⟨Nat.lt_of_lt_of_le HQO.out.1 hb15.size, rangeAt_below HQO.out.2 hb15.drew HQO.out.1⟩
 clear hb15 hb15w
 refine hK.out _ _ hS15 (fun hHeld => ?_)
 clear hK K
 (try simp only [Act.put, List.setIfInBounds_toArray, List.set_cons_zero, List.set_cons_succ])
 refine wpAnyH_take (i := 6) (oi := { dst := some 214, op := Go.Op.move (Go.Operand.tmp 220), type := 53, pos := "outright.go:351", after := #[{ on := 5, ground := Go.Ground.data }], guard := none }) (v := .tuple #[.bool true, .int .i64 0]) rfl (by kernel_rfl) ?_ ?_ ?_ ?_ hHeld ?_
 · kernel_rfl
 · kernel_rfl
 · exact fun _ _ _ h => h
 · exact Or.inl ⟨by rfl, fun w' _ => by go_simp⟩
 (try simp only [Act.put, List.setIfInBounds_toArray, List.set_cons_zero, List.set_cons_succ])
 refine wpAnyH_take (i := 7) (oi := { dst := some 221, op := Go.Op.extract (Go.Operand.tmp 214) 0, type := 4, pos := "outright.go:351", after := #[{ on := 6, ground := Go.Ground.data }], guard := none }) (v := .bool true) rfl (by kernel_rfl) ?_ ?_ ?_ ?_ hHeld ?_
 · kernel_rfl
 · kernel_rfl
 · exact fun _ _ _ h => h
 · exact Or.inl ⟨by rfl, fun w' _ => by go_simp⟩
 (try simp only [Act.put, List.setIfInBounds_toArray, List.set_cons_zero, List.set_cons_succ])
 refine wpAnyH_take (i := 8) (oi := { dst := some 222, op := Go.Op.extract (Go.Operand.tmp 214) 1, type := 31, pos := "outright.go:351", after := #[{ on := 6, ground := Go.Ground.data }, { on := 9, ground := Go.Ground.gcOnly Go.Departure.lateStores }], guard := none }) (v := .int .i64 0) rfl (by kernel_rfl) ?_ ?_ ?_ ?_ hHeld ?_
 · kernel_rfl
 · kernel_rfl
 · exact fun _ _ _ h => h
 · exact Or.inl ⟨by rfl, fun w' _ => by go_simp⟩
 (try simp only [Act.put, List.setIfInBounds_toArray, List.set_cons_zero, List.set_cons_succ])
 refine wpAnyH_take (i := 9) (oi := { dst := some 34, op := Go.Op.assign (Go.Operand.tmp 221), type := 4, pos := "outright.go:351", after := #[{ on := 7, ground := Go.Ground.data }, { on := 5, ground := Go.Ground.chain }, { on := 0, ground := Go.Ground.phase }, { on := 1, ground := Go.Ground.phase }, { on := 2, ground := Go.Ground.phase }, { on := 3, ground := Go.Ground.phase }, { on := 4, ground := Go.Ground.phase }, { on := 5, ground := Go.Ground.phase }, { on := 6, ground := Go.Ground.phase }, { on := 7, ground := Go.Ground.phase }, { on := 8, ground := Go.Ground.textOnly Go.Departure.lateStores }], guard := none }) (v := .bool true) rfl (by kernel_rfl) ?_ ?_ ?_ ?_ hHeld ?_
 · kernel_rfl
 · kernel_rfl
 · exact fun _ _ _ h => h
 · exact Or.inl ⟨by rfl, fun w' _ => by go_simp⟩
 (try simp only [Act.put, List.setIfInBounds_toArray, List.set_cons_zero, List.set_cons_succ])
 refine wpAnyH_take (i := 10) (oi := { dst := some 35, op := Go.Op.assign (Go.Operand.tmp 222), type := 31, pos := "outright.go:351", after := #[{ on := 8, ground := Go.Ground.data }, { on := 9, ground := Go.Ground.chain }, { on := 0, ground := Go.Ground.phase }, { on := 1, ground := Go.Ground.phase }, { on := 2, ground := Go.Ground.phase }, { on := 3, ground := Go.Ground.phase }, { on := 4, ground := Go.Ground.phase }, { on := 5, ground := Go.Ground.phase }, { on := 6, ground := Go.Ground.phase }, { on := 7, ground := Go.Ground.phase }, { on := 8, ground := Go.Ground.phase }, { on := 9, ground := Go.Ground.phase }], guard := none }) (v := .int .i64 0) rfl (by kernel_rfl) ?_ ?_ ?_ ?_ hHeld ?_
 · kernel_rfl
 · kernel_rfl
 · exact fun _ _ _ h => h
 · exact Or.inl ⟨by rfl, fun w' _ => by go_simp⟩
 (try simp only [Act.put, List.setIfInBounds_toArray, List.set_cons_zero, List.set_cons_succ])
 refine wpAnyH_done (by kernel_rfl) ?_ _
 refine NoPanic.normal ?_
 have HZM := Lib.hid (id_size _ cm.2)
 have hS16 : w15.drew.rangeAt tb 0 (U top.1) ∧ w15.drew.rangeAt q (ih * 32) (U cm.1) := ⟨HTR.out _ HB15.out, by
  have := HLR.out _ HB15.out ih q6
  rw [HIH.out, ← F.out.mid, ← HIH.out] at this
  exact this⟩
 have HBS := Lib.hid (bases_any w15.drew w1.heap.size m a S D0 cm top cm cn rH (HEN.out.to HB15.out) F.out.good ⟨F.out.hh.1, .inl F.out.hh.2⟩ F.out.hT F.out.eh F.out.hh F.out.hn F.out.cH F.out.iH HSO.out)
 clear hS14 hS15 HBF HB14 HQO HZ0
 go_upto_region 41 with fail
 refine wp_region_noPanic ?_
 refine wp_region_held_drew (S := fun w' => w'.rangeAt tb 0 (U top.1) ∧ w'.rangeAt q (ih * 32) (U cm.1)) (by kernel_rfl) hS16 (fun hHeld => ?_)
 refine wpAnyH_take (i := 0) (oi := { dst := some 224, op := Go.Op.move (Go.Operand.tmp 3), type := 25, pos := "outright.go:352", after := #[], guard := none }) (v := .pointer (some ⟨a, 0, none⟩)) rfl (by kernel_rfl) ?_ ?_ ?_ ?_ hHeld ?_
 · kernel_rfl
 · kernel_rfl
 · exact fun _ _ _ h => h
 · exact Or.inl ⟨by rfl, fun w' _ => by go_simp⟩
 (try simp only [Act.put, List.setIfInBounds_toArray, List.set_cons_zero, List.set_cons_succ])
 refine wpAnyH_take (i := 1) (oi := { dst := some 225, op := Go.Op.move (Go.Operand.tmp 5), type := 28, pos := "outright.go:352", after := #[], guard := none }) (v := .slice (some ⟨q, 0, none⟩) i lc) rfl (by kernel_rfl) ?_ ?_ ?_ ?_ hHeld ?_
 · kernel_rfl
 · kernel_rfl
 · exact fun _ _ _ h => h
 · exact Or.inl ⟨by rfl, fun w' _ => by go_simp⟩
 (try simp only [Act.put, List.setIfInBounds_toArray, List.set_cons_zero, List.set_cons_succ])
 refine wpAnyH_take (i := 2) (oi := { dst := some 226, op := Go.Op.move (Go.Operand.tmp 4), type := 3, pos := "outright.go:352", after := #[], guard := none }) (v := .int .i64 (i : Int)) rfl (by kernel_rfl) ?_ ?_ ?_ ?_ hHeld ?_
 · kernel_rfl
 · kernel_rfl
 · exact fun _ _ _ h => h
 · exact Or.inl ⟨by rfl, fun w' _ => by go_simp⟩
 (try simp only [Act.put, List.setIfInBounds_toArray, List.set_cons_zero, List.set_cons_succ])
 refine wpAnyH_take (i := 3) (oi := { dst := some 227, op := Go.Op.binOp Go.BinOp.quo 3 (Go.Operand.tmp 226) (Go.Operand.const (Go.Value.int Go.IntKind.i64 2)) 3, type := 3, pos := "outright.go:352", after := #[{ on := 2, ground := Go.Ground.data }], guard := none }) (v := .int .i64 (ih : Int)) rfl (by kernel_rfl) ?_ ?_ ?_ ?_ hHeld ?_
 · kernel_rfl
 · kernel_rfl
 · exact fun _ _ _ h => h
 · exact Or.inl ⟨by rfl, fun w' _ => by go_simp⟩
 (try simp only [Act.put, List.setIfInBounds_toArray, List.set_cons_zero, List.set_cons_succ])
 refine wpAnyH_take (i := 4) (oi := { dst := some 228, op := Go.Op.indexAddr 28 (Go.Operand.tmp 225) (Go.Operand.tmp 227), type := 0, pos := "outright.go:352", after := #[{ on := 1, ground := Go.Ground.data }, { on := 3, ground := Go.Ground.data }], guard := none }) (v := .pointer (some ⟨q, ih * 32, none⟩)) rfl (by kernel_rfl) ?_ ?_ ?_ ?_ hHeld ?_
 · kernel_rfl
 · kernel_rfl
 · exact fun _ _ _ h => h
 · exact Or.inl ⟨by rfl, fun w' _ => by go_simp⟩
 (try simp only [Act.put, List.setIfInBounds_toArray, List.set_cons_zero, List.set_cons_succ])
 refine wpAnyH_take (i := 5) (oi := { dst := some 229, op := Go.Op.load 30 (Go.Operand.tmp 228), type := 30, pos := "outright.go:352", after := #[{ on := 4, ground := Go.Ground.data }], guard := none }) (v := .agg ((U cm.1)).toArray) rfl (by kernel_rfl) ?_ ?_ ?_ ?_ hHeld ?_
 · kernel_rfl
 · kernel_rfl
 · exact fun _ _ _ h => h
 · exact yieldsIf_load_mid (by rfl) 30 (.tmp 228) rfl q (ih * 32) rfl (U cm.1) _ (fun w' h => h.2) hu30 rfl HZM.out
 (try simp only [Act.put, List.setIfInBounds_toArray, List.set_cons_zero, List.set_cons_succ])
 refine wpAnyH_take (i := 6) (oi := { dst := some 230, op := Go.Op.load 30 (Go.Operand.tmp 22), type := 30, pos := "outright.go:352", after := #[], guard := none }) (v := .agg ((U top.1)).toArray) rfl (by kernel_rfl) ?_ ?_ ?_ ?_ hHeld ?_
 · kernel_rfl
 · kernel_rfl
 · exact fun _ _ _ h => h
 · exact yieldsIf_load_mid (by rfl) 30 (.tmp 22) rfl tb 0 rfl (U top.1) _ (fun w' h => h.1) hu30 rfl HZT.out
 (try simp only [Act.put, List.setIfInBounds_toArray, List.set_cons_zero, List.set_cons_succ])
 refine wpAnyH_ready (rs := [7]) (by kernel_rfl) (by simp) ?_
 refine AllReadyH.cons (o := { dst := some 231, op := Go.Op.call { callee := Go.Callee.value (Go.Operand.func 13), args := #[Go.Operand.tmp 224, Go.Operand.tmp 229, Go.Operand.tmp 230], argTypes := #[25, 30, 30] }, type := 50, pos := "outright.go:352", after := #[{ on := 0, ground := Go.Ground.data }, { on := 5, ground := Go.Ground.data }, { on := 6, ground := Go.Ground.data }], guard := none }) rfl (fun K hK => ?_) AllReadyH.nil
 go_simp
 refine HBS.out.mono ?_
 rintro e w17 ⟨A4, k4, rfl, hr17, hb17⟩
 rw [show [cm].length = 1 from rfl]
 obtain ⟨q4_, o4, rfl, hq4, ha4⟩ : ∃ q o, A4 = some ⟨q, o, none⟩ ∧ q < w17.heap.size ∧ w17.rangeAt q o (IdsU [cm]) := by
  rcases hr17 with h | h
  · cases h
  · exact h
 rw [show IdsU [cm] = U cm.1 from by simp [IdsU]] at ha4
 have HB17 : Hid (Below wr0.heap.size wr0 w17) := HB15.out.trans (hb17.mono HB15.out.size)
 have hS17 : w17.rangeAt tb 0 (U top.1) ∧ w17.rangeAt q (ih * 32) (U cm.1) := ⟨HTR.out _ HB17.out, by
  have := HLR.out _ HB17.out ih q6
  rw [HIH.out, ← F.out.mid, ← HIH.out] at this
  exact this⟩
 have HQ17 : Hid (qo < w17.heap.size ∧ w17.rangeAt qo oo (IdsU (cn :: rN))) := ⟨Nat.lt_of_lt_of_le HQ15.out.1 hb17.size, rangeAt_below HQ15.out.2 hb17 HQ15.out.1⟩
 have HA17 : Hid (q4_ < w17.heap.size ∧ w17.rangeAt q4_ o4 (U cm.1)) := ⟨hq4, ha4⟩
 clear hb17 hr17 hq4 ha4
 refine hK.out _ _ hS17 (fun hHeld => ?_)
 clear hK K
 (try simp only [Act.put, List.setIfInBounds_toArray, List.set_cons_zero, List.set_cons_succ])
 refine wpAnyH_take (i := 8) (oi := { dst := some 223, op := Go.Op.move (Go.Operand.tmp 231), type := 50, pos := "outright.go:352", after := #[{ on := 7, ground := Go.Ground.data }], guard := none }) (v := .tuple #[.slice (some ⟨q4_, o4, none⟩) 1 k4, .int .i64 0]) rfl (by kernel_rfl) ?_ ?_ ?_ ?_ hHeld ?_
 · kernel_rfl
 · kernel_rfl
 · exact fun _ _ _ h => h
 · exact Or.inl ⟨by rfl, fun w' _ => by go_simp⟩
 (try simp only [Act.put, List.setIfInBounds_toArray, List.set_cons_zero, List.set_cons_succ])
 refine wpAnyH_take (i := 9) (oi := { dst := some 232, op := Go.Op.extract (Go.Operand.tmp 223) 0, type := 28, pos := "outright.go:352", after := #[{ on := 8, ground := Go.Ground.data }], guard := none }) (v := .slice (some ⟨q4_, o4, none⟩) 1 k4) rfl (by kernel_rfl) ?_ ?_ ?_ ?_ hHeld ?_
 · kernel_rfl
 · kernel_rfl
 · exact fun _ _ _ h => h
 · exact Or.inl ⟨by rfl, fun w' _ => by go_simp⟩
 (try simp only [Act.put, List.setIfInBounds_toArray, List.set_cons_zero, List.set_cons_succ])
 refine wpAnyH_take (i := 10) (oi := { dst := some 233, op := Go.Op.extract (Go.Operand.tmp 223) 1, type := 31, pos := "outright.go:352", after := #[{ on := 8, ground := Go.Ground.data }, { on := 11, ground := Go.Ground.gcOnly Go.Departure.lateStores }], guard := none }) (v := .int .i64 0) rfl (by kernel_rfl) ?_ ?_ ?_ ?_ hHeld ?_
 · kernel_rfl
 · kernel_rfl
 · exact fun _ _ _ h => h
 · exact Or.inl ⟨by rfl, fun w' _ => by go_simp⟩
 (try simp only [Act.put, List.setIfInBounds_toArray, List.set_cons_zero, List.set_cons_succ])
 refine wpAnyH_take (i := 11) (oi := { dst := some 36, op := Go.Op.assign (Go.Operand.tmp 232), type := 28, pos := "outright.go:352", after := #[{ on := 9, ground := Go.Ground.data }, { on := 7, ground := Go.Ground.chain }, { on := 0, ground := Go.Ground.phase }, { on := 1, ground := Go.Ground.phase }, { on := 2, ground := Go.Ground.phase }, { on := 3, ground := Go.Ground.phase }, { on := 4, ground := Go.Ground.phase }, { on := 5, ground := Go.Ground.phase }, { on := 6, ground := Go.Ground.phase }, { on := 7, ground := Go.Ground.phase }, { on := 8, ground := Go.Ground.phase }, { on := 9, ground := Go.Ground.phase }, { on := 10, ground := Go.Ground.textOnly Go.Departure.lateStores }], guard := none }) (v := .slice (some ⟨q4_, o4, none⟩) 1 k4) rfl (by kernel_rfl) ?_ ?_ ?_ ?_ hHeld ?_
 · kernel_rfl
 · kernel_rfl
 · exact fun _ _ _ h => h
 · exact Or.inl ⟨by rfl, fun w' _ => by go_simp⟩
 (try simp only [Act.put, List.setIfInBounds_toArray, List.set_cons_zero, List.set_cons_succ])
 refine wpAnyH_take (i := 12) (oi := { dst := some 37, op := Go.Op.assign (Go.Operand.tmp 233), type := 31, pos := "outright.go:352", after := #[{ on := 10, ground := Go.Ground.data }, { on := 11, ground := Go.Ground.chain }, { on := 0, ground := Go.Ground.phase }, { on := 1, ground := Go.Ground.phase }, { on := 2, ground := Go.Ground.phase }, { on := 3, ground := Go.Ground.phase }, { on := 4, ground := Go.Ground.phase }, { on := 5, ground := Go.Ground.phase }, { on := 6, ground := Go.Ground.phase }, { on := 7, ground := Go.Ground.phase }, { on := 8, ground := Go.Ground.phase }, { on := 9, ground := Go.Ground.phase }, { on := 10, ground := Go.Ground.phase }, { on := 11, ground := Go.Ground.phase }], guard := none }) (v := .int .i64 0) rfl (by kernel_rfl) ?_ ?_ ?_ ?_ hHeld ?_
 · kernel_rfl
 · kernel_rfl
 · exact fun _ _ _ h => h
 · exact Or.inl ⟨by rfl, fun w' _ => by go_simp⟩
 (try simp only [Act.put, List.setIfInBounds_toArray, List.set_cons_zero, List.set_cons_succ])
 refine wpAnyH_done (by kernel_rfl) ?_ _
 refine NoPanic.normal ?_
 have HPE := Lib.hid (peel_any w17 w1.heap.size m a S D0 top cn (HEN.out.to HB17.out) F.out.good F.out.hT.1 F.out.eP)
 have HT17 : Hid (w17.heap[tb]? = some (.cells (U top.1).toArray 30 (0, 0))) := HTB.out.below HB17.out HTB.out.lt
 clear hS16 hS17 HBS HB15 HQ15
 go_wp2_with (with_reducible refine wpList_load_row rfl 30 (.tmp 22) rfl tb rfl 30 (U top.1).toArray (0, 0) _ HT17.out hu30 rfl HZT2.out ?_)
 refine HPE.out.mono ?_
 rintro e w18 ⟨rfl, hb18⟩
 have HB18 : Hid (Below wr0.heap.size wr0 w18) := HB17.out.trans (hb18.mono HB17.out.size)
 have HQ18 : Hid (qo < w18.heap.size ∧ w18.rangeAt qo oo (IdsU (cn :: rN))) := ⟨Nat.lt_of_lt_of_le HQ17.out.1 hb18.size, rangeAt_below HQ17.out.2 hb18 HQ17.out.1⟩
 have HA18 : Hid (q4_ < w18.heap.size ∧ w18.rangeAt q4_ o4 (U cm.1)) := ⟨Nat.lt_of_lt_of_le HA17.out.1 hb18.size, rangeAt_below HA17.out.2 hb18 HA17.out.1⟩
 have HN18 := id_new w18
 have HZC := Lib.hid (id_size _ cn.2)
 have HFC := Lib.hid (id_fit _ cn.2)
 clear hb18 HPE HT17 HB17 HQ17 HA17
 go_upto_region 43 with (with_reducible refine wpList_storeG rfl 30 (.tmp 38) (.tmp 238) rfl w18.heap.size 0 (U cn.1) rfl rfl (U (List.replicate 32 0)) 30 HN18.out HFC.out (U_one _) HZC.out ?_; intro w19 HB19 HG19)
 have G19 : w18.grownBy w19 none := gb_fresh HG19.out
 have hbl19 : Blk w19 w18.heap.size 30 (U cn.1).toArray := by
  have h1 := HB19.out
  rw [splice_id _ cn.2] at h1
  exact h1
 have hb19 := below_of_gb G19
 have HB20 : Hid (Below wr0.heap.size wr0 w19.drew) := (HB18.out.trans (hb19.mono HB18.out.size)).drew
 have HQ20 : Hid (qo < w19.drew.heap.size ∧ w19.drew.rangeAt qo oo (IdsU (cn :: rN))) := ⟨Nat.lt_of_lt_of_le HQ18.out.1 hb19.size, rangeAt_below HQ18.out.2 hb19.drew HQ18.out.1⟩
 have hS20 : w19.drew.rangeAt q (ih * 32) (U cm.1) ∧ w19.drew.rangeAt q (i1 * 32) (U cn.1) ∧ w19.drew.rangeAt q4_ o4 (U cm.1) ∧ w19.drew.rangeAt w18.heap.size 0 (U cn.1) := ⟨by
  have := HLR.out _ HB20.out ih q6
  rw [HIH.out, ← F.out.mid, ← HIH.out] at this
  exact this, by
  have := HLR.out _ HB20.out i1 b3
  rw [HI1.out, ← F.out.last, ← HI1.out] at this
  exact this, rangeAt_below HA18.out.2 hb19.drew HA18.out.1, id_rangeB hbl19⟩
 have HNU0 := Lib.hid num0
 clear HB19 HG19 HN18 HFC G19 hbl19 hb19 HB18 HQ18 HA18
 refine wp_region_noPanic ?_
 refine wp_region_held_drew (S := fun w' => w'.rangeAt q (ih * 32) (U cm.1) ∧ w'.rangeAt q (i1 * 32) (U cn.1) ∧ w'.rangeAt q4_ o4 (U cm.1) ∧ w'.rangeAt w18.heap.size 0 (U cn.1)) (by kernel_rfl) hS20 (fun hHeld => ?_)
 refine wpAnyH_take (i := 0) (oi := { dst := some 240, op := Go.Op.move (Go.Operand.tmp 31), type := 31, pos := "outright.go:354", after := #[], guard := none }) (v := .int .i64 0) rfl (by kernel_rfl) ?_ ?_ ?_ ?_ hHeld ?_
 · kernel_rfl
 · kernel_rfl
 · exact fun _ _ _ h => h
 · exact Or.inl ⟨by rfl, fun w' _ => by go_simp⟩
 (try simp only [Act.put, List.setIfInBounds_toArray, List.set_cons_zero, List.set_cons_succ])
 refine wpAnyH_ready (rs := [1]) (by kernel_rfl) (by simp) ?_
 refine AllReadyH.cons (o := { dst := some 241, op := Go.Op.call { callee := Go.Callee.value (Go.Operand.func 8), args := #[Go.Operand.tmp 240], argTypes := #[31] }, type := 3, pos := "outright.go:354", after := #[{ on := 0, ground := Go.Ground.data }], guard := none }) rfl (fun K hK => ?_) AllReadyH.nil
 go_simp
 refine (HNU0.out _).mono ?_
 rintro e wz ⟨rfl, rfl⟩
 refine hK.out _ _ hS20 (fun hHeld => ?_)
 clear hK K
 (try simp only [Act.put, List.setIfInBounds_toArray, List.set_cons_zero, List.set_cons_succ])
 refine wpAnyH_take (i := 2) (oi := { dst := some 242, op := Go.Op.binOp Go.BinOp.neq 3 (Go.Operand.tmp 241) (Go.Operand.const (Go.Value.int Go.IntKind.i64 0)) 3, type := 4, pos := "outright.go:354", after := #[{ on := 1, ground := Go.Ground.data }], guard := none }) (v := .bool false) rfl (by kernel_rfl) ?_ ?_ ?_ ?_ hHeld ?_
 · kernel_rfl
 · kernel_rfl
 · exact fun _ _ _ h => h
 · exact Or.inl ⟨by rfl, fun w' _ => by go_simp⟩
 (try simp only [Act.put, List.setIfInBounds_toArray, List.set_cons_zero, List.set_cons_succ])
 refine wpAnyH_take (i := 3) (oi := { dst := some 243, op := Go.Op.move (Go.Operand.tmp 242), type := 4, pos := "outright.go:354", after := #[{ on := 2, ground := Go.Ground.data }, { on := 1, ground := Go.Ground.chain }], guard := none }) (v := .bool false) rfl (by kernel_rfl) ?_ ?_ ?_ ?_ hHeld ?_
 · kernel_rfl
 · kernel_rfl
 · exact fun _ _ _ h => h
 · exact Or.inl ⟨by rfl, fun w' _ => by go_simp⟩
 (try simp only [Act.put, List.setIfInBounds_toArray, List.set_cons_zero, List.set_cons_succ])
 refine wpAnyH_take (i := 4) (oi := { dst := some 244, op := Go.Op.move (Go.Operand.tmp 33), type := 31, pos := "outright.go:354", after := #[{ on := 3, ground := Go.Ground.guard }], guard := some (3, false) }) (v := .int .i64 0) rfl (by kernel_rfl) ?_ ?_ ?_ ?_ hHeld ?_
 · kernel_rfl
 · kernel_rfl
 · exact fun _ _ _ h => h
 · exact Or.inl ⟨by rfl, fun w' _ => by go_simp⟩
 (try simp only [Act.put, List.setIfInBounds_toArray, List.set_cons_zero, List.set_cons_succ])
 refine wpAnyH_ready (rs := [5]) (by kernel_rfl) (by simp) ?_
 refine AllReadyH.cons (o := { dst := some 245, op := Go.Op.call { callee := Go.Callee.value (Go.Operand.func 8), args := #[Go.Operand.tmp 244], argTypes := #[31] }, type := 3, pos := "outright.go:354", after := #[{ on := 4, ground := Go.Ground.data }, { on := 3, ground := Go.Ground.chain }, { on := 3, ground := Go.Ground.guard }], guard := some (3, false) }) rfl (fun K hK => ?_) AllReadyH.nil
 go_simp
 refine (HNU0.out _).mono ?_
 rintro e wz ⟨rfl, rfl⟩
 refine hK.out _ _ hS20 (fun hHeld => ?_)
 clear hK K
 (try simp only [Act.put, List.setIfInBounds_toArray, List.set_cons_zero, List.set_cons_succ])
 refine wpAnyH_take (i := 6) (oi := { dst := some 246, op := Go.Op.binOp Go.BinOp.neq 3 (Go.Operand.tmp 245) (Go.Operand.const (Go.Value.int Go.IntKind.i64 0)) 3, type := 4, pos := "outright.go:354", after := #[{ on := 5, ground := Go.Ground.data }, { on := 3, ground := Go.Ground.guard }], guard := some (3, false) }) (v := .bool false) rfl (by kernel_rfl) ?_ ?_ ?_ ?_ hHeld ?_
 · kernel_rfl
 · kernel_rfl
 · exact fun _ _ _ h => h
 · exact Or.inl ⟨by rfl, fun w' _ => by go_simp⟩
 (try simp only [Act.put, List.setIfInBounds_toArray, List.set_cons_zero, List.set_cons_succ])
 refine wpAnyH_take (i := 7) (oi := { dst := some 247, op := Go.Op.pick (Go.Operand.tmp 243) (Go.Operand.const (Go.Value.bool true)) (Go.Operand.tmp 246), type := 4, pos := "outright.go:354", after := #[{ on := 3, ground := Go.Ground.data }, { on := 6, ground := Go.Ground.data }], guard := none }) (v := .bool false) rfl (by kernel_rfl) ?_ ?_ ?_ ?_ hHeld ?_
 · kernel_rfl
 · kernel_rfl
 · exact fun _ _ _ h => h
 · exact Or.inl ⟨by rfl, fun w' _ => by go_simp⟩
 (try simp only [Act.put, List.setIfInBounds_toArray, List.set_cons_zero, List.set_cons_succ])
 refine wpAnyH_take (i := 8) (oi := { dst := some 248, op := Go.Op.move (Go.Operand.tmp 247), type := 4, pos := "outright.go:354", after := #[{ on := 7, ground := Go.Ground.data }, { on := 5, ground := Go.Ground.chain }], guard := none }) (v := .bool false) rfl (by kernel_rfl) ?_ ?_ ?_ ?_ hHeld ?_
 · kernel_rfl
 · kernel_rfl
 · exact fun _ _ _ h => h
 · exact Or.inl ⟨by rfl, fun w' _ => by go_simp⟩
 (try simp only [Act.put, List.setIfInBounds_toArray, List.set_cons_zero, List.set_cons_succ])
 refine wpAnyH_take (i := 9) (oi := { dst := some 249, op := Go.Op.move (Go.Operand.tmp 35), type := 31, pos := "outright.go:354", after := #[{ on := 8, ground := Go.Ground.guard }], guard := some (8, false) }) (v := .int .i64 0) rfl (by kernel_rfl) ?_ ?_ ?_ ?_ hHeld ?_
 · kernel_rfl
 · kernel_rfl
 · exact fun _ _ _ h => h
 · exact Or.inl ⟨by rfl, fun w' _ => by go_simp⟩
 (try simp only [Act.put, List.setIfInBounds_toArray, List.set_cons_zero, List.set_cons_succ])
 refine wpAnyH_ready (rs := [10]) (by kernel_rfl) (by simp) ?_
 refine AllReadyH.cons (o := { dst := some 250, op := Go.Op.call { callee := Go.Callee.value (Go.Operand.func 8), args := #[Go.Operand.tmp 249], argTypes := #[31] }, type := 3, pos := "outright.go:354", after := #[{ on := 9, ground := Go.Ground.data }, { on := 8, ground := Go.Ground.chain }, { on := 8, ground := Go.Ground.guard }], guard := some (8, false) }) rfl (fun K hK => ?_) AllReadyH.nil
 go_simp
 refine (HNU0.out _).mono ?_
 rintro e wz ⟨rfl, rfl⟩
 refine hK.out _ _ hS20 (fun hHeld => ?_)
 clear hK K
 (try simp only [Act.put, List.setIfInBounds_toArray, List.set_cons_zero, List.set_cons_succ])
 refine wpAnyH_take (i := 11) (oi := { dst := some 251, op := Go.Op.binOp Go.BinOp.neq 3 (Go.Operand.tmp 250) (Go.Operand.const (Go.Value.int Go.IntKind.i64 0)) 3, type := 4, pos := "outright.go:354", after := #[{ on := 10, ground := Go.Ground.data }, { on := 8, ground := Go.Ground.guard }], guard := some (8, false) }) (v := .bool false) rfl (by kernel_rfl) ?_ ?_ ?_ ?_ hHeld ?_
 · kernel_rfl
 · kernel_rfl
 · exact fun _ _ _ h => h
 · exact Or.inl ⟨by rfl, fun w' _ => by go_simp⟩
 (try simp only [Act.put, List.setIfInBounds_toArray, List.set_cons_zero, List.set_cons_succ])
 refine wpAnyH_take (i := 12) (oi := { dst := some 252, op := Go.Op.pick (Go.Operand.tmp 248) (Go.Operand.const (Go.Value.bool true)) (Go.Operand.tmp 251), type := 4, pos := "outright.go:354", after := #[{ on := 8, ground := Go.Ground.data }, { on := 11, ground := Go.Ground.data }], guard := none }) (v := .bool false) rfl (by kernel_rfl) ?_ ?_ ?_ ?_ hHeld ?_
 · kernel_rfl
 · kernel_rfl
 · exact fun _ _ _ h => h
 · exact Or.inl ⟨by rfl, fun w' _ => by go_simp⟩
 (try simp only [Act.put, List.setIfInBounds_toArray, List.set_cons_zero, List.set_cons_succ])
 refine wpAnyH_take (i := 13) (oi := { dst := some 253, op := Go.Op.move (Go.Operand.tmp 252), type := 4, pos := "outright.go:354", after := #[{ on := 12, ground := Go.Ground.data }, { on := 10, ground := Go.Ground.chain }], guard := none }) (v := .bool false) rfl (by kernel_rfl) ?_ ?_ ?_ ?_ hHeld ?_
 · kernel_rfl
 · kernel_rfl
 · exact fun _ _ _ h => h
 · exact Or.inl ⟨by rfl, fun w' _ => by go_simp⟩
 (try simp only [Act.put, List.setIfInBounds_toArray, List.set_cons_zero, List.set_cons_succ])
 refine wpAnyH_take (i := 14) (oi := { dst := some 254, op := Go.Op.move (Go.Operand.tmp 37), type := 31, pos := "outright.go:354", after := #[{ on := 13, ground := Go.Ground.guard }], guard := some (13, false) }) (v := .int .i64 0) rfl (by kernel_rfl) ?_ ?_ ?_ ?_ hHeld ?_
 · kernel_rfl
 · kernel_rfl
 · exact fun _ _ _ h => h
 · exact Or.inl ⟨by rfl, fun w' _ => by go_simp⟩
 (try simp only [Act.put, List.setIfInBounds_toArray, List.set_cons_zero, List.set_cons_succ])
 refine wpAnyH_ready (rs := [15]) (by kernel_rfl) (by simp) ?_
 refine AllReadyH.cons (o := { dst := some 255, op := Go.Op.call { callee := Go.Callee.value (Go.Operand.func 8), args := #[Go.Operand.tmp 254], argTypes := #[31] }, type := 3, pos := "outright.go:354", after := #[{ on := 14, ground := Go.Ground.data }, { on := 13, ground := Go.Ground.chain }, { on := 13, ground := Go.Ground.guard }], guard := some (13, false) }) rfl (fun K hK => ?_) AllReadyH.nil
 go_simp
 refine (HNU0.out _).mono ?_
 rintro e wz ⟨rfl, rfl⟩
 refine hK.out _ _ hS20 (fun hHeld => ?_)
 clear hK K
 (try simp only [Act.put, List.setIfInBounds_toArray, List.set_cons_zero, List.set_cons_succ])
 refine wpAnyH_take (i := 16) (oi := { dst := some 256, op := Go.Op.binOp Go.BinOp.neq 3 (Go.Operand.tmp 255) (Go.Operand.const (Go.Value.int Go.IntKind.i64 0)) 3, type := 4, pos := "outright.go:354", after := #[{ on := 15, ground := Go.Ground.data }, { on := 13, ground := Go.Ground.guard }], guard := some (13, false) }) (v := .bool false) rfl (by kernel_rfl) ?_ ?_ ?_ ?_ hHeld ?_
 · kernel_rfl
 · kernel_rfl
 · exact fun _ _ _ h => h
 · exact Or.inl ⟨by rfl, fun w' _ => by go_simp⟩
 (try simp only [Act.put, List.setIfInBounds_toArray, List.set_cons_zero, List.set_cons_succ])
 refine wpAnyH_take (i := 17) (oi := { dst := some 257, op := Go.Op.pick (Go.Operand.tmp 253) (Go.Operand.const (Go.Value.bool true)) (Go.Operand.tmp 256), type := 4, pos := "outright.go:354", after := #[{ on := 13, ground := Go.Ground.data }, { on := 16, ground := Go.Ground.data }], guard := none }) (v := .bool false) rfl (by kernel_rfl) ?_ ?_ ?_ ?_ hHeld ?_
 · kernel_rfl
 · kernel_rfl
 · exact fun _ _ _ h => h
 · exact Or.inl ⟨by rfl, fun w' _ => by go_simp⟩
 (try simp only [Act.put, List.setIfInBounds_toArray, List.set_cons_zero, List.set_cons_succ])
 refine wpAnyH_take (i := 18) (oi := { dst := some 258, op := Go.Op.move (Go.Operand.tmp 257), type := 4, pos := "outright.go:354", after := #[{ on := 17, ground := Go.Ground.data }, { on := 15, ground := Go.Ground.chain }], guard := none }) (v := .bool false) rfl (by kernel_rfl) ?_ ?_ ?_ ?_ hHeld ?_
 · kernel_rfl
 · kernel_rfl
 · exact fun _ _ _ h => h
 · exact Or.inl ⟨by rfl, fun w' _ => by go_simp⟩
 (try simp only [Act.put, List.setIfInBounds_toArray, List.set_cons_zero, List.set_cons_succ])
 refine wpAnyH_take (i := 19) (oi := { dst := some 259, op := Go.Op.move (Go.Operand.tmp 39), type := 31, pos := "outright.go:354", after := #[{ on := 18, ground := Go.Ground.guard }], guard := some (18, false) }) (v := .int .i64 0) rfl (by kernel_rfl) ?_ ?_ ?_ ?_ hHeld ?_
 · kernel_rfl
 · kernel_rfl
 · exact fun _ _ _ h => h
 · exact Or.inl ⟨by rfl, fun w' _ => by go_simp⟩
 (try simp only [Act.put, List.setIfInBounds_toArray, List.set_cons_zero, List.set_cons_succ])
 refine wpAnyH_ready (rs := [20]) (by kernel_rfl) (by simp) ?_
 refine AllReadyH.cons (o := { dst := some 260, op := Go.Op.call { callee := Go.Callee.value (Go.Operand.func 8), args := #[Go.Operand.tmp 259], argTypes := #[31] }, type := 3, pos := "outright.go:354", after := #[{ on := 19, ground := Go.Ground.data }, { on := 18, ground := Go.Ground.chain }, { on := 18, ground := Go.Ground.guard }], guard := some (18, false) }) rfl (fun K hK => ?_) AllReadyH.nil
 go_simp
 refine (HNU0.out _).mono ?_
 rintro e wz ⟨rfl, rfl⟩
 refine hK.out _ _ hS20 (fun hHeld => ?_)
 clear hK K
 (try simp only [Act.put, List.setIfInBounds_toArray, List.set_cons_zero, List.set_cons_succ])
 refine wpAnyH_take (i := 21) (oi := { dst := some 261, op := Go.Op.binOp Go.BinOp.neq 3 (Go.Operand.tmp 260) (Go.Operand.const (Go.Value.int Go.IntKind.i64 0)) 3, type := 4, pos := "outright.go:354", after := #[{ on := 20, ground := Go.Ground.data }, { on := 18, ground := Go.Ground.guard }], guard := some (18, false) }) (v := .bool false) rfl (by kernel_rfl) ?_ ?_ ?_ ?_ hHeld ?_
 · kernel_rfl
 · kernel_rfl
 · exact fun _ _ _ h => h
 · exact Or.inl ⟨by rfl, fun w' _ => by go_simp⟩
 (try simp only [Act.put, List.setIfInBounds_toArray, List.set_cons_zero, List.set_cons_succ])
 refine wpAnyH_take (i := 22) (oi := { dst := some 262, op := Go.Op.pick (Go.Operand.tmp 258) (Go.Operand.const (Go.Value.bool true)) (Go.Operand.tmp 261), type := 4, pos := "outright.go:354", after := #[{ on := 18, ground := Go.Ground.data }, { on := 21, ground := Go.Ground.data }], guard := none }) (v := .bool false) rfl (by kernel_rfl) ?_ ?_ ?_ ?_ hHeld ?_
 · kernel_rfl
 · kernel_rfl
 · exact fun _ _ _ h => h
 · exact Or.inl ⟨by rfl, fun w' _ => by go_simp⟩
 (try simp only [Act.put, List.setIfInBounds_toArray, List.set_cons_zero, List.set_cons_succ])
 refine wpAnyH_take (i := 23) (oi := { dst := some 263, op := Go.Op.move (Go.Operand.tmp 262), type := 4, pos := "outright.go:354", after := #[{ on := 22, ground := Go.Ground.data }, { on := 20, ground := Go.Ground.chain }], guard := none }) (v := .bool false) rfl (by kernel_rfl) ?_ ?_ ?_ ?_ hHeld ?_
 · kernel_rfl
 · kernel_rfl
 · exact fun _ _ _ h => h
 · exact Or.inl ⟨by rfl, fun w' _ => by go_simp⟩
 (try simp only [Act.put, List.setIfInBounds_toArray, List.set_cons_zero, List.set_cons_succ])
 refine wpAnyH_take (i := 24) (oi := { dst := some 264, op := Go.Op.move (Go.Operand.tmp 30), type := 28, pos := "outright.go:354", after := #[{ on := 23, ground := Go.Ground.guard }], guard := some (23, false) }) (v := .slice A1 c k1) rfl (by kernel_rfl) ?_ ?_ ?_ ?_ hHeld ?_
 · kernel_rfl
 · kernel_rfl
 · exact fun _ _ _ h => h
 · exact Or.inl ⟨by rfl, fun w' _ => by go_simp⟩
 (try simp only [Act.put, List.setIfInBounds_toArray, List.set_cons_zero, List.set_cons_succ])
 refine wpAnyH_take (i := 25) (oi := { dst := some 265, op := Go.Op.call { callee := Go.Callee.builtin Go.Builtin.len, args := #[Go.Operand.tmp 264], argTypes := #[28] }, type := 3, pos := "outright.go:354", after := #[{ on := 24, ground := Go.Ground.data }, { on := 23, ground := Go.Ground.guard }], guard := some (23, false) }) (v := .int .i64 (c : Int)) rfl (by kernel_rfl) ?_ ?_ ?_ ?_ hHeld ?_
 · kernel_rfl
 · kernel_rfl
 · exact fun _ _ _ h => h
 · exact Or.inl ⟨by rfl, fun w' _ => by go_simp⟩
 (try simp only [Act.put, List.setIfInBounds_toArray, List.set_cons_zero, List.set_cons_succ])
 refine wpAnyH_take (i := 26) (oi := { dst := some 266, op := Go.Op.move (Go.Operand.tmp 6), type := 3, pos := "outright.go:354", after := #[{ on := 23, ground := Go.Ground.guard }], guard := some (23, false) }) (v := .int .i64 (c : Int)) rfl (by kernel_rfl) ?_ ?_ ?_ ?_ hHeld ?_
 · kernel_rfl
 · kernel_rfl
 · exact fun _ _ _ h => h
 · exact Or.inl ⟨by rfl, fun w' _ => by go_simp⟩
 (try simp only [Act.put, List.setIfInBounds_toArray, List.set_cons_zero, List.set_cons_succ])
 refine wpAnyH_take (i := 27) (oi := { dst := some 267, op := Go.Op.binOp Go.BinOp.neq 3 (Go.Operand.tmp 265) (Go.Operand.tmp 266) 3, type := 4, pos := "outright.go:354", after := #[{ on := 25, ground := Go.Ground.data }, { on := 26, ground := Go.Ground.data }, { on := 23, ground := Go.Ground.guard }], guard := some (23, false) }) (v := .bool false) rfl (by kernel_rfl) ?_ ?_ ?_ ?_ hHeld ?_
 · kernel_rfl
 · kernel_rfl
 · exact fun _ _ _ h => h
 · exact Or.inl ⟨by rfl, fun w' _ => by go_simp⟩
 (try simp only [Act.put, List.setIfInBounds_toArray, List.set_cons_zero, List.set_cons_succ])
 refine wpAnyH_take (i := 28) (oi := { dst := some 268, op := Go.Op.pick (Go.Operand.tmp 263) (Go.Operand.const (Go.Value.bool true)) (Go.Operand.tmp 267), type := 4, pos := "outright.go:354", after := #[{ on := 23, ground := Go.Ground.data }, { on := 27, ground := Go.Ground.data }], guard := none }) (v := .bool false) rfl (by kernel_rfl) ?_ ?_ ?_ ?_ hHeld ?_
 · kernel_rfl
 · kernel_rfl
 · exact fun _ _ _ h => h
 · exact Or.inl ⟨by rfl, fun w' _ => by go_simp⟩
 (try simp only [Act.put, List.setIfInBounds_toArray, List.set_cons_zero, List.set_cons_succ])
 refine wpAnyH_take (i := 29) (oi := { dst := some 269, op := Go.Op.move (Go.Operand.tmp 268), type := 4, pos := "outright.go:354", after := #[{ on := 28, ground := Go.Ground.data }, { on := 23, ground := Go.Ground.chain }], guard := none }) (v := .bool false) rfl (by kernel_rfl) ?_ ?_ ?_ ?_ hHeld ?_
 · kernel_rfl
 · kernel_rfl
 · exact fun _ _ _ h => h
 · exact Or.inl ⟨by rfl, fun w' _ => by go_simp⟩
 (try simp only [Act.put, List.setIfInBounds_toArray, List.set_cons_zero, List.set_cons_succ])
 refine wpAnyH_take (i := 30) (oi := { dst := some 270, op := Go.Op.move (Go.Operand.tmp 32), type := 28, pos := "outright.go:354", after := #[{ on := 29, ground := Go.Ground.guard }], guard := some (29, false) }) (v := .slice (some ⟨qo, oo, none⟩) i k3) rfl (by kernel_rfl) ?_ ?_ ?_ ?_ hHeld ?_
 · kernel_rfl
 · kernel_rfl
 · exact fun _ _ _ h => h
 · exact Or.inl ⟨by rfl, fun w' _ => by go_simp⟩
 (try simp only [Act.put, List.setIfInBounds_toArray, List.set_cons_zero, List.set_cons_succ])
 refine wpAnyH_take (i := 31) (oi := { dst := some 271, op := Go.Op.call { callee := Go.Callee.builtin Go.Builtin.len, args := #[Go.Operand.tmp 270], argTypes := #[28] }, type := 3, pos := "outright.go:354", after := #[{ on := 30, ground := Go.Ground.data }, { on := 29, ground := Go.Ground.guard }], guard := some (29, false) }) (v := .int .i64 (i : Int)) rfl (by kernel_rfl) ?_ ?_ ?_ ?_ hHeld ?_
 · kernel_rfl
 · kernel_rfl
 · exact fun _ _ _ h => h
 · exact Or.inl ⟨by rfl, fun w' _ => by go_simp⟩
 (try simp only [Act.put, List.setIfInBounds_toArray, List.set_cons_zero, List.set_cons_succ])
 refine wpAnyH_take (i := 32) (oi := { dst := some 272, op := Go.Op.move (Go.Operand.tmp 4), type := 3, pos := "outright.go:354", after := #[{ on := 29, ground := Go.Ground.guard }], guard := some (29, false) }) (v := .int .i64 (i : Int)) rfl (by kernel_rfl) ?_ ?_ ?_ ?_ hHeld ?_
 · kernel_rfl
 · kernel_rfl
 · exact fun _ _ _ h => h
 · exact Or.inl ⟨by rfl, fun w' _ => by go_simp⟩
 (try simp only [Act.put, List.setIfInBounds_toArray, List.set_cons_zero, List.set_cons_succ])
 refine wpAnyH_take (i := 33) (oi := { dst := some 273, op := Go.Op.binOp Go.BinOp.neq 3 (Go.Operand.tmp 271) (Go.Operand.tmp 272) 3, type := 4, pos := "outright.go:354", after := #[{ on := 31, ground := Go.Ground.data }, { on := 32, ground := Go.Ground.data }, { on := 29, ground := Go.Ground.guard }], guard := some (29, false) }) (v := .bool false) rfl (by kernel_rfl) ?_ ?_ ?_ ?_ hHeld ?_
 · kernel_rfl
 · kernel_rfl
 · exact fun _ _ _ h => h
 · exact Or.inl ⟨by rfl, fun w' _ => by go_simp⟩
 (try simp only [Act.put, List.setIfInBounds_toArray, List.set_cons_zero, List.set_cons_succ])
 refine wpAnyH_take (i := 34) (oi := { dst := some 274, op := Go.Op.pick (Go.Operand.tmp 269) (Go.Operand.const (Go.Value.bool true)) (Go.Operand.tmp 273), type := 4, pos := "outright.go:354", after := #[{ on := 29, ground := Go.Ground.data }, { on := 33, ground := Go.Ground.data }], guard := none }) (v := .bool false) rfl (by kernel_rfl) ?_ ?_ ?_ ?_ hHeld ?_
 · kernel_rfl
 · kernel_rfl
 · exact fun _ _ _ h => h
 · exact Or.inl ⟨by rfl, fun w' _ => by go_simp⟩
 (try simp only [Act.put, List.setIfInBounds_toArray, List.set_cons_zero, List.set_cons_succ])
 refine wpAnyH_take (i := 35) (oi := { dst := some 275, op := Go.Op.move (Go.Operand.tmp 274), type := 4, pos := "outright.go:354", after := #[{ on := 34, ground := Go.Ground.data }, { on := 29, ground := Go.Ground.chain }], guard := none }) (v := .bool false) rfl (by kernel_rfl) ?_ ?_ ?_ ?_ hHeld ?_
 · kernel_rfl
 · kernel_rfl
 · exact fun _ _ _ h => h
 · exact Or.inl ⟨by rfl, fun w' _ => by go_simp⟩
 (try simp only [Act.put, List.setIfInBounds_toArray, List.set_cons_zero, List.set_cons_succ])
 refine wpAnyH_take (i := 36) (oi := { dst := some 276, op := Go.Op.move (Go.Operand.tmp 34), type := 4, pos := "outright.go:354", after := #[{ on := 35, ground := Go.Ground.guard }], guard := some (35, false) }) (v := .bool true) rfl (by kernel_rfl) ?_ ?_ ?_ ?_ hHeld ?_
 · kernel_rfl
 · kernel_rfl
 · exact fun _ _ _ h => h
 · exact Or.inl ⟨by rfl, fun w' _ => by go_simp⟩
 (try simp only [Act.put, List.setIfInBounds_toArray, List.set_cons_zero, List.set_cons_succ])
 refine wpAnyH_take (i := 37) (oi := { dst := some 277, op := Go.Op.unOp Go.UnOp.not 4 (Go.Operand.tmp 276), type := 4, pos := "outright.go:354", after := #[{ on := 36, ground := Go.Ground.data }, { on := 35, ground := Go.Ground.guard }], guard := some (35, false) }) (v := .bool false) rfl (by kernel_rfl) ?_ ?_ ?_ ?_ hHeld ?_
 · kernel_rfl
 · kernel_rfl
 · exact fun _ _ _ h => h
 · exact Or.inl ⟨by rfl, fun w' _ => by go_simp⟩
 (try simp only [Act.put, List.setIfInBounds_toArray, List.set_cons_zero, List.set_cons_succ])
 refine wpAnyH_take (i := 38) (oi := { dst := some 278, op := Go.Op.pick (Go.Operand.tmp 275) (Go.Operand.const (Go.Value.bool true)) (Go.Operand.tmp 277), type := 4, pos := "outright.go:354", after := #[{ on := 35, ground := Go.Ground.data }, { on := 37, ground := Go.Ground.data }], guard := none }) (v := .bool false) rfl (by kernel_rfl) ?_ ?_ ?_ ?_ hHeld ?_
 · kernel_rfl
 · kernel_rfl
 · exact fun _ _ _ h => h
 · exact Or.inl ⟨by rfl, fun w' _ => by go_simp⟩
 (try simp only [Act.put, List.setIfInBounds_toArray, List.set_cons_zero, List.set_cons_succ])
 refine wpAnyH_take (i := 39) (oi := { dst := some 279, op := Go.Op.move (Go.Operand.tmp 278), type := 4, pos := "outright.go:354", after := #[{ on := 38, ground := Go.Ground.data }, { on := 35, ground := Go.Ground.chain }], guard := none }) (v := .bool false) rfl (by kernel_rfl) ?_ ?_ ?_ ?_ hHeld ?_
 · kernel_rfl
 · kernel_rfl
 · exact fun _ _ _ h => h
 · exact Or.inl ⟨by rfl, fun w' _ => by go_simp⟩
 (try simp only [Act.put, List.setIfInBounds_toArray, List.set_cons_zero, List.set_cons_succ])
 refine wpAnyH_take (i := 40) (oi := { dst := some 280, op := Go.Op.move (Go.Operand.tmp 36), type := 28, pos := "outright.go:354", after := #[{ on := 39, ground := Go.Ground.guard }], guard := some (39, false) }) (v := .slice (some ⟨q4_, o4, none⟩) 1 k4) rfl (by kernel_rfl) ?_ ?_ ?_ ?_ hHeld ?_
 · kernel_rfl
 · kernel_rfl
 · exact fun _ _ _ h => h
 · exact Or.inl ⟨by rfl, fun w' _ => by go_simp⟩
 (try simp only [Act.put, List.setIfInBounds_toArray, List.set_cons_zero, List.set_cons_succ])
 refine wpAnyH_take (i := 41) (oi := { dst := some 281, op := Go.Op.call { callee := Go.Callee.builtin Go.Builtin.len, args := #[Go.Operand.tmp 280], argTypes := #[28] }, type := 3, pos := "outright.go:354", after := #[{ on := 40, ground := Go.Ground.data }, { on := 39, ground := Go.Ground.guard }], guard := some (39, false) }) (v := .int .i64 1) rfl (by kernel_rfl) ?_ ?_ ?_ ?_ hHeld ?_
 · kernel_rfl
 · kernel_rfl
 · exact fun _ _ _ h => h
 · exact Or.inl ⟨by rfl, fun w' _ => by go_simp⟩
 (try simp only [Act.put, List.setIfInBounds_toArray, List.set_cons_zero, List.set_cons_succ])
 refine wpAnyH_take (i := 42) (oi := { dst := some 282, op := Go.Op.binOp Go.BinOp.neq 3 (Go.Operand.tmp 281) (Go.Operand.const (Go.Value.int Go.IntKind.i64 1)) 3, type := 4, pos := "outright.go:354", after := #[{ on := 41, ground := Go.Ground.data }, { on := 39, ground := Go.Ground.guard }], guard := some (39, false) }) (v := .bool false) rfl (by kernel_rfl) ?_ ?_ ?_ ?_ hHeld ?_
 · kernel_rfl
 · kernel_rfl
 · exact fun _ _ _ h => h
 · exact Or.inl ⟨by rfl, fun w' _ => by go_simp⟩
 (try simp only [Act.put, List.setIfInBounds_toArray, List.set_cons_zero, List.set_cons_succ])
 refine wpAnyH_take (i := 43) (oi := { dst := some 283, op := Go.Op.pick (Go.Operand.tmp 279) (Go.Operand.const (Go.Value.bool true)) (Go.Operand.tmp 282), type := 4, pos := "outright.go:354", after := #[{ on := 39, ground := Go.Ground.data }, { on := 42, ground := Go.Ground.data }], guard := none }) (v := .bool false) rfl (by kernel_rfl) ?_ ?_ ?_ ?_ hHeld ?_
 · kernel_rfl
 · kernel_rfl
 · exact fun _ _ _ h => h
 · exact Or.inl ⟨by rfl, fun w' _ => by go_simp⟩
 (try simp only [Act.put, List.setIfInBounds_toArray, List.set_cons_zero, List.set_cons_succ])
 refine wpAnyH_take (i := 44) (oi := { dst := some 284, op := Go.Op.move (Go.Operand.tmp 283), type := 4, pos := "outright.go:354", after := #[{ on := 43, ground := Go.Ground.data }, { on := 39, ground := Go.Ground.chain }], guard := none }) (v := .bool false) rfl (by kernel_rfl) ?_ ?_ ?_ ?_ hHeld ?_
 · kernel_rfl
 · kernel_rfl
 · exact fun _ _ _ h => h
 · exact Or.inl ⟨by rfl, fun w' _ => by go_simp⟩
 (try simp only [Act.put, List.setIfInBounds_toArray, List.set_cons_zero, List.set_cons_succ])
 refine wpAnyH_take (i := 45) (oi := { dst := some 285, op := Go.Op.move (Go.Operand.tmp 36), type := 28, pos := "outright.go:354", after := #[{ on := 44, ground := Go.Ground.guard }], guard := some (44, false) }) (v := .slice (some ⟨q4_, o4, none⟩) 1 k4) rfl (by kernel_rfl) ?_ ?_ ?_ ?_ hHeld ?_
 · kernel_rfl
 · kernel_rfl
 · exact fun _ _ _ h => h
 · exact Or.inl ⟨by rfl, fun w' _ => by go_simp⟩
 (try simp only [Act.put, List.setIfInBounds_toArray, List.set_cons_zero, List.set_cons_succ])
 refine wpAnyH_take (i := 46) (oi := { dst := some 286, op := Go.Op.indexAddr 28 (Go.Operand.tmp 285) (Go.Operand.const (Go.Value.int Go.IntKind.i64 0)), type := 0, pos := "outright.go:354", after := #[{ on := 45, ground := Go.Ground.data }, { on := 44, ground := Go.Ground.guard }], guard := some (44, false) }) (v := .pointer (some ⟨q4_, o4, none⟩)) rfl (by kernel_rfl) ?_ ?_ ?_ ?_ hHeld ?_
 · kernel_rfl
 · kernel_rfl
 · exact fun _ _ _ h => h
 · exact Or.inl ⟨by rfl, fun w' _ => by go_simp⟩
 (try simp only [Act.put, List.setIfInBounds_toArray, List.set_cons_zero, List.set_cons_succ])
 refine wpAnyH_take (i := 47) (oi := { dst := some 287, op := Go.Op.load 30 (Go.Operand.tmp 286), type := 30, pos := "outright.go:354", after := #[{ on := 46, ground := Go.Ground.data }, { on := 44, ground := Go.Ground.guard }], guard := some (44, false) }) (v := .agg ((U cm.1)).toArray) rfl (by kernel_rfl) ?_ ?_ ?_ ?_ hHeld ?_
 · kernel_rfl
 · kernel_rfl
 · exact fun _ _ _ h => h
 · exact yieldsIf_load_mid (by rfl) 30 (.tmp 286) rfl q4_ o4 rfl (U cm.1) _ (fun w' h => h.2.2.1) hu30 rfl HZM.out
 (try simp only [Act.put, List.setIfInBounds_toArray, List.set_cons_zero, List.set_cons_succ])
 refine wpAnyH_take (i := 48) (oi := { dst := some 288, op := Go.Op.move (Go.Operand.tmp 5), type := 28, pos := "outright.go:354", after := #[{ on := 44, ground := Go.Ground.guard }], guard := some (44, false) }) (v := .slice (some ⟨q, 0, none⟩) i lc) rfl (by kernel_rfl) ?_ ?_ ?_ ?_ hHeld ?_
 · kernel_rfl
 · kernel_rfl
 · exact fun _ _ _ h => h
 · exact Or.inl ⟨by rfl, fun w' _ => by go_simp⟩
 (try simp only [Act.put, List.setIfInBounds_toArray, List.set_cons_zero, List.set_cons_succ])
 refine wpAnyH_take (i := 49) (oi := { dst := some 289, op := Go.Op.move (Go.Operand.tmp 4), type := 3, pos := "outright.go:354", after := #[{ on := 44, ground := Go.Ground.guard }], guard := some (44, false) }) (v := .int .i64 (i : Int)) rfl (by kernel_rfl) ?_ ?_ ?_ ?_ hHeld ?_
 · kernel_rfl
 · kernel_rfl
 · exact fun _ _ _ h => h
 · exact Or.inl ⟨by rfl, fun w' _ => by go_simp⟩
 (try simp only [Act.put, List.setIfInBounds_toArray, List.set_cons_zero, List.set_cons_succ])
 refine wpAnyH_take (i := 50) (oi := { dst := some 290, op := Go.Op.binOp Go.BinOp.quo 3 (Go.Operand.tmp 289) (Go.Operand.const (Go.Value.int Go.IntKind.i64 2)) 3, type := 3, pos := "outright.go:354", after := #[{ on := 49, ground := Go.Ground.data }, { on := 44, ground := Go.Ground.guard }], guard := some (44, false) }) (v := .int .i64 (ih : Int)) rfl (by kernel_rfl) ?_ ?_ ?_ ?_ hHeld ?_
 · kernel_rfl
 · kernel_rfl
 · exact fun _ _ _ h => h
 · exact Or.inl ⟨by rfl, fun w' _ => by go_simp⟩
 (try simp only [Act.put, List.setIfInBounds_toArray, List.set_cons_zero, List.set_cons_succ])
 refine wpAnyH_take (i := 51) (oi := { dst := some 291, op := Go.Op.indexAddr 28 (Go.Operand.tmp 288) (Go.Operand.tmp 290), type := 0, pos := "outright.go:354", after := #[{ on := 48, ground := Go.Ground.data }, { on := 50, ground := Go.Ground.data }, { on := 44, ground := Go.Ground.guard }], guard := some (44, false) }) (v := .pointer (some ⟨q, ih * 32, none⟩)) rfl (by kernel_rfl) ?_ ?_ ?_ ?_ hHeld ?_
 · kernel_rfl
 · kernel_rfl
 · exact fun _ _ _ h => h
 · exact Or.inl ⟨by rfl, fun w' _ => by go_simp⟩
 (try simp only [Act.put, List.setIfInBounds_toArray, List.set_cons_zero, List.set_cons_succ])
 refine wpAnyH_take (i := 52) (oi := { dst := some 292, op := Go.Op.load 30 (Go.Operand.tmp 291), type := 30, pos := "outright.go:354", after := #[{ on := 51, ground := Go.Ground.data }, { on := 44, ground := Go.Ground.guard }], guard := some (44, false) }) (v := .agg ((U cm.1)).toArray) rfl (by kernel_rfl) ?_ ?_ ?_ ?_ hHeld ?_
 · kernel_rfl
 · kernel_rfl
 · exact fun _ _ _ h => h
 · exact yieldsIf_load_mid (by rfl) 30 (.tmp 291) rfl q (ih * 32) rfl (U cm.1) _ (fun w' h => h.1) hu30 rfl HZM.out
 (try simp only [Act.put, List.setIfInBounds_toArray, List.set_cons_zero, List.set_cons_succ])
 refine wpAnyH_take (i := 53) (oi := { dst := some 293, op := Go.Op.binOp Go.BinOp.neq 30 (Go.Operand.tmp 287) (Go.Operand.tmp 292) 30, type := 4, pos := "outright.go:354", after := #[{ on := 47, ground := Go.Ground.data }, { on := 52, ground := Go.Ground.data }, { on := 44, ground := Go.Ground.guard }], guard := some (44, false) }) (v := .bool false) rfl (by kernel_rfl) ?_ ?_ ?_ ?_ hHeld ?_
 · kernel_rfl
 · kernel_rfl
 · exact fun _ _ _ h => h
 · exact Or.inl ⟨by rfl, fun w' _ => by have h := eq_id cm w'; go_simp⟩
 (try simp only [Act.put, List.setIfInBounds_toArray, List.set_cons_zero, List.set_cons_succ])
 refine wpAnyH_take (i := 54) (oi := { dst := some 294, op := Go.Op.pick (Go.Operand.tmp 284) (Go.Operand.const (Go.Value.bool true)) (Go.Operand.tmp 293), type := 4, pos := "outright.go:354", after := #[{ on := 44, ground := Go.Ground.data }, { on := 53, ground := Go.Ground.data }], guard := none }) (v := .bool false) rfl (by kernel_rfl) ?_ ?_ ?_ ?_ hHeld ?_
 · kernel_rfl
 · kernel_rfl
 · exact fun _ _ _ h => h
 · exact Or.inl ⟨by rfl, fun w' _ => by go_simp⟩
 (try simp only [Act.put, List.setIfInBounds_toArray, List.set_cons_zero, List.set_cons_succ])
 refine wpAnyH_take (i := 55) (oi := { dst := some 295, op := Go.Op.move (Go.Operand.tmp 294), type := 4, pos := "outright.go:354", after := #[{ on := 54, ground := Go.Ground.data }, { on := 44, ground := Go.Ground.chain }], guard := none }) (v := .bool false) rfl (by kernel_rfl) ?_ ?_ ?_ ?_ hHeld ?_
 · kernel_rfl
 · kernel_rfl
 · exact fun _ _ _ h => h
 · exact Or.inl ⟨by rfl, fun w' _ => by go_simp⟩
 (try simp only [Act.put, List.setIfInBounds_toArray, List.set_cons_zero, List.set_cons_succ])
 refine wpAnyH_take (i := 56) (oi := { dst := some 296, op := Go.Op.load 30 (Go.Operand.tmp 38), type := 30, pos := "outright.go:354", after := #[{ on := 55, ground := Go.Ground.guard }], guard := some (55, false) }) (v := .agg ((U cn.1)).toArray) rfl (by kernel_rfl) ?_ ?_ ?_ ?_ hHeld ?_
 · kernel_rfl
 · kernel_rfl
 · exact fun _ _ _ h => h
 · exact yieldsIf_load_mid (by rfl) 30 (.tmp 38) rfl w18.heap.size 0 rfl (U cn.1) _ (fun w' h => h.2.2.2) hu30 rfl HZC.out
 (try simp only [Act.put, List.setIfInBounds_toArray, List.set_cons_zero, List.set_cons_succ])
 refine wpAnyH_take (i := 57) (oi := { dst := some 297, op := Go.Op.move (Go.Operand.tmp 5), type := 28, pos := "outright.go:354", after := #[{ on := 55, ground := Go.Ground.guard }], guard := some (55, false) }) (v := .slice (some ⟨q, 0, none⟩) i lc) rfl (by kernel_rfl) ?_ ?_ ?_ ?_ hHeld ?_
 · kernel_rfl
 · kernel_rfl
 · exact fun _ _ _ h => h
 · exact Or.inl ⟨by rfl, fun w' _ => by go_simp⟩
 (try simp only [Act.put, List.setIfInBounds_toArray, List.set_cons_zero, List.set_cons_succ])
 refine wpAnyH_take (i := 58) (oi := { dst := some 298, op := Go.Op.move (Go.Operand.tmp 4), type := 3, pos := "outright.go:354", after := #[{ on := 55, ground := Go.Ground.guard }], guard := some (55, false) }) (v := .int .i64 (i : Int)) rfl (by kernel_rfl) ?_ ?_ ?_ ?_ hHeld ?_
 · kernel_rfl
 · kernel_rfl
 · exact fun _ _ _ h => h
 · exact Or.inl ⟨by rfl, fun w' _ => by go_simp⟩
 (try simp only [Act.put, List.setIfInBounds_toArray, List.set_cons_zero, List.set_cons_succ])
 refine wpAnyH_take (i := 59) (oi := { dst := some 299, op := Go.Op.binOp Go.BinOp.sub 3 (Go.Operand.tmp 298) (Go.Operand.const (Go.Value.int Go.IntKind.i64 1)) 3, type := 3, pos := "outright.go:354", after := #[{ on := 58, ground := Go.Ground.data }, { on := 55, ground := Go.Ground.guard }], guard := some (55, false) }) (v := .int .i64 (i1 : Int)) rfl (by kernel_rfl) ?_ ?_ ?_ ?_ hHeld ?_
 · kernel_rfl
 · kernel_rfl
 · exact fun _ _ _ h => h
 · exact Or.inl ⟨by rfl, fun w' _ => by go_simp⟩
 (try simp only [Act.put, List.setIfInBounds_toArray, List.set_cons_zero, List.set_cons_succ])
 refine wpAnyH_take (i := 60) (oi := { dst := some 300, op := Go.Op.indexAddr 28 (Go.Operand.tmp 297) (Go.Operand.tmp 299), type := 0, pos := "outright.go:354", after := #[{ on := 57, ground := Go.Ground.data }, { on := 59, ground := Go.Ground.data }, { on := 55, ground := Go.Ground.guard }], guard := some (55, false) }) (v := .pointer (some ⟨q, i1 * 32, none⟩)) rfl (by kernel_rfl) ?_ ?_ ?_ ?_ hHeld ?_
 · kernel_rfl
 · kernel_rfl
 · exact fun _ _ _ h => h
 · exact Or.inl ⟨by rfl, fun w' _ => by go_simp⟩
 (try simp only [Act.put, List.setIfInBounds_toArray, List.set_cons_zero, List.set_cons_succ])
 refine wpAnyH_take (i := 61) (oi := { dst := some 301, op := Go.Op.load 30 (Go.Operand.tmp 300), type := 30, pos := "outright.go:354", after := #[{ on := 60, ground := Go.Ground.data }, { on := 55, ground := Go.Ground.guard }], guard := some (55, false) }) (v := .agg ((U cn.1)).toArray) rfl (by kernel_rfl) ?_ ?_ ?_ ?_ hHeld ?_
 · kernel_rfl
 · kernel_rfl
 · exact fun _ _ _ h => h
 · exact yieldsIf_load_mid (by rfl) 30 (.tmp 300) rfl q (i1 * 32) rfl (U cn.1) _ (fun w' h => h.2.1) hu30 rfl HZC.out
 (try simp only [Act.put, List.setIfInBounds_toArray, List.set_cons_zero, List.set_cons_succ])
 refine wpAnyH_take (i := 62) (oi := { dst := some 302, op := Go.Op.binOp Go.BinOp.neq 30 (Go.Operand.tmp 296) (Go.Operand.tmp 301) 30, type := 4, pos := "outright.go:354", after := #[{ on := 56, ground := Go.Ground.data }, { on := 61, ground := Go.Ground.data }, { on := 55, ground := Go.Ground.guard }], guard := some (55, false) }) (v := .bool false) rfl (by kernel_rfl) ?_ ?_ ?_ ?_ hHeld ?_
 · kernel_rfl
 · kernel_rfl
 · exact fun _ _ _ h => h
 · exact Or.inl ⟨by rfl, fun w' _ => by have h := eq_id cn w'; go_simp⟩
 (try simp only [Act.put, List.setIfInBounds_toArray, List.set_cons_zero, List.set_cons_succ])
 refine wpAnyH_take (i := 63) (oi := { dst := some 303, op := Go.Op.pick (Go.Operand.tmp 295) (Go.Operand.const (Go.Value.bool true)) (Go.Operand.tmp 302), type := 4, pos := "outright.go:354", after := #[{ on := 55, ground := Go.Ground.data }, { on := 62, ground := Go.Ground.data }], guard := none }) (v := .bool false) rfl (by kernel_rfl) ?_ ?_ ?_ ?_ hHeld ?_
 · kernel_rfl
 · kernel_rfl
 · exact fun _ _ _ h => h
 · exact Or.inl ⟨by rfl, fun w' _ => by go_simp⟩
 (try simp only [Act.put, List.setIfInBounds_toArray, List.set_cons_zero, List.set_cons_succ])
 refine wpAnyH_done (by kernel_rfl) ?_ _
 refine NoPanic.normal ?_
 clear hS20 HNU0
 obtain ⟨wy, hwy⟩ : ∃ wy, wy = w19.drew := ⟨_, rfl⟩
 unfold Hid at HB20 HQ20
 rw [← hwy] at HB20 HQ20
 rw [← hwy]
 replace HB20 := Lib.hid HB20
 replace HQ20 := Lib.hid HQ20
 have HBY : Hid (Below wy.heap.size wy wy) := Below.refl _ _
 clear hwy
 go_wp2_with fail
 go_loopw [40] (fun v wr => Wd3 wy i v wr) (fun v _ => i - (intOf v).toNat)
 case atStart => exact ⟨0, Nat.zero_le _, rfl, HBY⟩
 case round =>
  clear HBY
  obtain ⟨wz_, hwz⟩ : ∃ wz_ : World, wz_ = wr := ⟨_, rfl⟩
  subst hwz
  obtain ⟨t, ht, rfl, HBT⟩ := hrel
  by_cases hti : t < i
  · have hd7 : decide ((t : Int) < (i : Int)) = true := decide_eq_true (by omega)
    have hd8 : decide (t < i) = true := decide_eq_true hti
    obtain ⟨tr, htr⟩ : ∃ tr, tr = i1 - t := ⟨_, rfl⟩
    have er : (i1 : Int) - (t : Int) = (tr : Int) := by omega
    have ewr : IntKind.i64.wrap (tr : Int) = (tr : Int) := wraps_i64 _ (by omega) (by omega)
    have c1 : (0 : Int) ≤ (tr : Int) := by omega
    have c2 : (tr : Int) < (i : Int) := by omega
    have c3 : (0 : Int) ≤ (t : Int) := by omega
    have c4 : (t : Int) < (i : Int) := by omega
    have c5 : tr < i := by omega
    obtain ⟨x, hx⟩ : ∃ x, x = lin.getD tr zeroId := ⟨_, rfl⟩
    have HBZ : Hid (Below wr0.heap.size wr0 wz_.drew) := (HB20.out.trans (HBT.out.mono HB20.out.size)).drew
    have hS48 : wz_.drew.rangeAt qo (oo + t * 32) (U x.1) ∧ wz_.drew.rangeAt q (tr * 32) (U x.1) := ⟨by
     have h1 : wz_.drew.rangeAt qo oo (IdsU (cn :: rN)) := rangeAt_below HQ20.out.2 HBT.out.drew HQ20.out.1
     have h2 := IdsR.at_ h1 (j := t) (by rw [F.out.lN]; exact hti)
     rw [F.out.rev t hti, show i - 1 - t = tr by omega, ← hx] at h2
     exact h2, by
     have := HLR.out _ HBZ.out tr c5
     rw [← hx] at this
     exact this⟩
    have HZX := Lib.hid (id_size _ x.2)
    have HBT2 : Hid (Below wy.heap.size wy wz_.drew) := HBT.out.drew
    have HTI := Lib.hid hti
    clear htr hx hti ht HBZ HBT
    go_upto_region 48 with fail
    refine wp_region_noPanic ?_
    refine wp_region_held_drew (S := fun w' => w'.rangeAt qo (oo + t * 32) (U x.1) ∧ w'.rangeAt q (tr * 32) (U x.1)) (by kernel_rfl) hS48 (fun hHeld => ?_)
    refine wpAnyH_take (i := 0) (oi := { dst := some 309, op := Go.Op.move (Go.Operand.tmp 32), type := 28, pos := "outright.go:358", after := #[], guard := none }) (v := .slice (some ⟨qo, oo, none⟩) i k3) rfl (by kernel_rfl) ?_ ?_ ?_ ?_ hHeld ?_
    · kernel_rfl
    · kernel_rfl
    · exact fun _ _ _ h => h
    · exact Or.inl ⟨by rfl, fun w' _ => by go_simp⟩
    (try simp only [Act.put, List.setIfInBounds_toArray, List.set_cons_zero, List.set_cons_succ])
    refine wpAnyH_take (i := 1) (oi := { dst := some 310, op := Go.Op.move (Go.Operand.tmp 40), type := 3, pos := "outright.go:358", after := #[], guard := none }) (v := .int .i64 (t : Int)) rfl (by kernel_rfl) ?_ ?_ ?_ ?_ hHeld ?_
    · kernel_rfl
    · kernel_rfl
    · exact fun _ _ _ h => h
    · exact Or.inl ⟨by rfl, fun w' _ => by go_simp⟩
    (try simp only [Act.put, List.setIfInBounds_toArray, List.set_cons_zero, List.set_cons_succ])
    refine wpAnyH_take (i := 2) (oi := { dst := some 311, op := Go.Op.indexAddr 28 (Go.Operand.tmp 309) (Go.Operand.tmp 310), type := 0, pos := "outright.go:358", after := #[{ on := 0, ground := Go.Ground.data }, { on := 1, ground := Go.Ground.data }], guard := none }) (v := .pointer (some ⟨qo, oo + t * 32, none⟩)) rfl (by kernel_rfl) ?_ ?_ ?_ ?_ hHeld ?_
    · kernel_rfl
    · kernel_rfl
    · exact fun _ _ _ h => h
    · exact Or.inl ⟨by rfl, fun w' _ => by go_simp⟩
    (try simp only [Act.put, List.setIfInBounds_toArray, List.set_cons_zero, List.set_cons_succ])
    refine wpAnyH_take (i := 3) (oi := { dst := some 312, op := Go.Op.load 30 (Go.Operand.tmp 311), type := 30, pos := "outright.go:358", after := #[{ on := 2, ground := Go.Ground.data }], guard := none }) (v := .agg ((U x.1)).toArray) rfl (by kernel_rfl) ?_ ?_ ?_ ?_ hHeld ?_
    · kernel_rfl
    · kernel_rfl
    · exact fun _ _ _ h => h
    · exact yieldsIf_load_mid (by rfl) 30 (.tmp 311) rfl qo (oo + t * 32) rfl (U x.1) _ (fun w' h => h.1) hu30 rfl HZX.out
    (try simp only [Act.put, List.setIfInBounds_toArray, List.set_cons_zero, List.set_cons_succ])
    refine wpAnyH_take (i := 4) (oi := { dst := some 313, op := Go.Op.move (Go.Operand.tmp 5), type := 28, pos := "outright.go:358", after := #[], guard := none }) (v := .slice (some ⟨q, 0, none⟩) i lc) rfl (by kernel_rfl) ?_ ?_ ?_ ?_ hHeld ?_
    · kernel_rfl
    · kernel_rfl
    · exact fun _ _ _ h => h
    · exact Or.inl ⟨by rfl, fun w' _ => by go_simp⟩
    (try simp only [Act.put, List.setIfInBounds_toArray, List.set_cons_zero, List.set_cons_succ])
    refine wpAnyH_take (i := 5) (oi := { dst := some 314, op := Go.Op.move (Go.Operand.tmp 4), type := 3, pos := "outright.go:358", after := #[], guard := none }) (v := .int .i64 (i : Int)) rfl (by kernel_rfl) ?_ ?_ ?_ ?_ hHeld ?_
    · kernel_rfl
    · kernel_rfl
    · exact fun _ _ _ h => h
    · exact Or.inl ⟨by rfl, fun w' _ => by go_simp⟩
    (try simp only [Act.put, List.setIfInBounds_toArray, List.set_cons_zero, List.set_cons_succ])
    refine wpAnyH_take (i := 6) (oi := { dst := some 315, op := Go.Op.binOp Go.BinOp.sub 3 (Go.Operand.tmp 314) (Go.Operand.const (Go.Value.int Go.IntKind.i64 1)) 3, type := 3, pos := "outright.go:358", after := #[{ on := 5, ground := Go.Ground.data }], guard := none }) (v := .int .i64 (i1 : Int)) rfl (by kernel_rfl) ?_ ?_ ?_ ?_ hHeld ?_
    · kernel_rfl
    · kernel_rfl
    · exact fun _ _ _ h => h
    · exact Or.inl ⟨by rfl, fun w' _ => by go_simp⟩
    (try simp only [Act.put, List.setIfInBounds_toArray, List.set_cons_zero, List.set_cons_succ])
    refine wpAnyH_take (i := 7) (oi := { dst := some 316, op := Go.Op.move (Go.Operand.tmp 40), type := 3, pos := "outright.go:358", after := #[], guard := none }) (v := .int .i64 (t : Int)) rfl (by kernel_rfl) ?_ ?_ ?_ ?_ hHeld ?_
    · kernel_rfl
    · kernel_rfl
    · exact fun _ _ _ h => h
    · exact Or.inl ⟨by rfl, fun w' _ => by go_simp⟩
    (try simp only [Act.put, List.setIfInBounds_toArray, List.set_cons_zero, List.set_cons_succ])
    refine wpAnyH_take (i := 8) (oi := { dst := some 317, op := Go.Op.binOp Go.BinOp.sub 3 (Go.Operand.tmp 315) (Go.Operand.tmp 316) 3, type := 3, pos := "outright.go:358", after := #[{ on := 6, ground := Go.Ground.data }, { on := 7, ground := Go.Ground.data }], guard := none }) (v := .int .i64 (tr : Int)) rfl (by kernel_rfl) ?_ ?_ ?_ ?_ hHeld ?_
    · kernel_rfl
    · kernel_rfl
    · exact fun _ _ _ h => h
    · exact Or.inl ⟨by rfl, fun w' _ => by go_simp⟩
    (try simp only [Act.put, List.setIfInBounds_toArray, List.set_cons_zero, List.set_cons_succ])
    refine wpAnyH_take (i := 9) (oi := { dst := some 318, op := Go.Op.indexAddr 28 (Go.Operand.tmp 313) (Go.Operand.tmp 317), type := 0, pos := "outright.go:358", after := #[{ on := 4, ground := Go.Ground.data }, { on := 8, ground := Go.Ground.data }], guard := none }) (v := .pointer (some ⟨q, tr * 32, none⟩)) rfl (by kernel_rfl) ?_ ?_ ?_ ?_ hHeld ?_
    · kernel_rfl
    · kernel_rfl
    · exact fun _ _ _ h => h
    · exact Or.inl ⟨by rfl, fun w' _ => by go_simp⟩
    (try simp only [Act.put, List.setIfInBounds_toArray, List.set_cons_zero, List.set_cons_succ])
    refine wpAnyH_take (i := 10) (oi := { dst := some 319, op := Go.Op.load 30 (Go.Operand.tmp 318), type := 30, pos := "outright.go:358", after := #[{ on := 9, ground := Go.Ground.data }], guard := none }) (v := .agg ((U x.1)).toArray) rfl (by kernel_rfl) ?_ ?_ ?_ ?_ hHeld ?_
    · kernel_rfl
    · kernel_rfl
    · exact fun _ _ _ h => h
    · exact yieldsIf_load_mid (by rfl) 30 (.tmp 318) rfl q (tr * 32) rfl (U x.1) _ (fun w' h => h.2) hu30 rfl HZX.out
    (try simp only [Act.put, List.setIfInBounds_toArray, List.set_cons_zero, List.set_cons_succ])
    refine wpAnyH_take (i := 11) (oi := { dst := some 320, op := Go.Op.binOp Go.BinOp.neq 30 (Go.Operand.tmp 312) (Go.Operand.tmp 319) 30, type := 4, pos := "outright.go:358", after := #[{ on := 3, ground := Go.Ground.data }, { on := 10, ground := Go.Ground.data }], guard := none }) (v := .bool false) rfl (by kernel_rfl) ?_ ?_ ?_ ?_ hHeld ?_
    · kernel_rfl
    · kernel_rfl
    · exact fun _ _ _ h => h
    · exact Or.inl ⟨by rfl, fun w' _ => by have h := eq_id x w'; go_simp⟩
    (try simp only [Act.put, List.setIfInBounds_toArray, List.set_cons_zero, List.set_cons_succ])
    refine wpAnyH_done (by kernel_rfl) ?_ _
    refine NoPanic.normal ?_
    clear hS48
    generalize wz_.drew = wx at *
    go_wp2_with fail
    go_roundw
    case rel => exact ⟨t + 1, HTI.out, by go_num, HBT2⟩
    case measure => have := HTI.out; simp [intOf]; omega
  · have hd7 : decide ((t : Int) < (i : Int)) = false := decide_eq_false (by omega)
    have hd8 : decide (t < i) = false := decide_eq_false hti
    have HF : Hid (WdPost W (.returned (.bool true)) wz_) := ⟨rfl, by
     have h1 := HB20.out.trans (HBT.out.mono HB20.out.size)
     have h2 := HBR.out.trans (h1.mono HBR.out.size)
     exact HB1.out.trans (h2.mono HB1.out.size)⟩
    clear HBT
    go_wp2_with fail
    go_ret
    exact HF.out
theorem deep_any (W : World) (N Tg : Int) (A : Option Addr) (tn tc : Nat) (l : List Int) (hl : l.length = tn) (ht : Ti W A l) (he : ErrTab W) (hd : DigTab W) (hsort : ∀ B, SortP B) :
 Calls Tryz.prog 3 #[.agg #[.int .i64 N, .int .i64 Tg, .slice A tn tc]] W (WdPost W) := (deepS W N Tg A tn tc l).h ⟨deep_last W N Tg A tn tc l⟩ hl ht he hd hsort
end Go.Proofs.YtnjhjbmngoeobaaGreatDoor
