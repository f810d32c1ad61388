/- Laws towards WalkDeep: NamB, TreA, TreB, ParA. -/
import Derived.Test.YtnjhjbmngoeobaaGreatDoorMg07
import Derived.Test.YtnjhjbmngoeobaaGreatDoorMg02
import Derived.Lib.ConvBytes
import Derived.Deep.MidRow
namespace Go.Proofs.YtnjhjbmngoeobaaGreatDoor
open Go.RowKit
set_option maxRecDepth 100000
theorem index_one (q n c : Nat) (x y : Nat) (w : World) (hx : w.cell? ⟨q, 0, none⟩ = some (.int .u8 (x : Int))) (hn : n = 1) (hne : x ≠ y) :
 Calls Tryz.prog 131 #[.slice (some ⟨q, 0, none⟩) n c, .int .u8 y] w fun e w' => e = .returned (.int .i64 (-1)) ∧ w = w' := by
 subst hn
 have h1 : ((y : Int) == (x : Int)) = false := by simp; omega
 have h2 : decide ((0 : Int) < 1) = true := rfl
 have h3 : decide ((1 : Int) < 1) = false := rfl
 clear hne
 go_enter Tryz.func131, Tryz.ntmps131
 go_wp2_with fail
 refine wp_loop_rounds 2 ?_
 rw [rounds_succ]
 go_wp2_with fail
 rw [rounds_succ]
 go_wp2_with fail
 go_ret
 exact ⟨rfl, rfl⟩
theorem contains_one (q n c : Nat) (x y : Nat) (w : World) (hx : w.cell? ⟨q, 0, none⟩ = some (.int .u8 (x : Int))) (hn : n = 1) (hne : x ≠ y) :
 Calls Tryz.prog 129 #[.slice (some ⟨q, 0, none⟩) n c, .int .u8 y] w fun e w' => e = .returned (.bool false) ∧ w = w' := by
 have HI := Lib.hid (index_one q n c x y w hx hn hne)
 clear hx hn hne
 go_enter Tryz.func129, Tryz.ntmps129
 go_wp2_with fail
 refine HI.out.mono ?_
 rintro e w1 ⟨rfl, rfl⟩
 go_wp2_with fail
 go_ret
 exact ⟨rfl, rfl⟩
theorem conv_bytes (l : List UInt8) (w : World) : ∃ cap w', (convert 9 35 (.string ⟨l.toArray⟩)).run Tryz.prog w = .ok (.slice (some ⟨w.heap.size, 0, none⟩) l.length cap) w' ∧ Sl w' (some ⟨w.heap.size, 0, none⟩) l ∧ Below w.heap.size w w' ∧ l.length ≤ cap := by
 have hr := Lib.run_convert_string_bytes (P := Tryz.prog) w 9 35 5 ⟨l.toArray⟩ Tryz.underlying9 Tryz.underlying35 Tryz.underlying5
 have hsz : (⟨l.toArray⟩ : ByteArray).size = l.length := by simp [ByteArray.size]
 have hcap : l.length ≤ grownCap w (⟨l.toArray⟩ : ByteArray).size 0 5 := by
  rw [hsz]
  exact grownCap_ge w l.length 0 5
 rw [hsz] at hr hcap
 refine ⟨_, _, hr, ?_, ?_, hcap⟩
 · by_cases h0 : l = []
   · exact .inl h0
   · refine .inr ⟨_, 0, rfl, by rw [Lib.bytesWorld_size]; omega, fun j hj => ?_⟩
     rw [Nat.zero_add, Lib.bytesWorld_cell _ _ _ _ (by rw [hsz]; exact hj)]
 · exact ⟨rfl, rfl, rfl, by rw [Lib.bytesWorld_size]; omega, fun i hi => Lib.bytesWorld_at_old _ _ _ _ hi⟩
set_option maxHeartbeats 1000000 in
theorem name_one (c : UInt8) (hc : c.toNat < 127) (h32 : 32 ≤ c.toNat) (h46 : c.toNat ≠ 46) (h47 : c.toNat ≠ 47) (w : World) :
 Calls Tryz.prog 125 #[.string ⟨#[c]⟩] w fun e w' => e = .returned (.bool true) ∧ Below w.heap.size w w' := by
 have HP := Lib.hid (plain_one c hc h32 w)
 have hs : ({ data := #[c] } : ByteArray).size = 1 := rfl
 have h1 : decide (c = 46) = false := decide_eq_false (by rintro rfl; exact h46 rfl)
 have H47 := Lib.hid h47
 have e2 : (([c] : List UInt8) == [46]) = false := by simp; rintro rfl; exact h46 rfl
 have e3 : (([c] : List UInt8) == [46, 46]) = false := by simp
 clear h46 h47
 go_enter Tryz.func125, Tryz.ntmps125
 go_wp2_with fail
 refine HP.out.mono ?_
 rintro e w1 ⟨rfl, hb1⟩
 have HB := Lib.hid hb1
 clear hb1 HP
 obtain ⟨cap, w2, hconv, hs2, hb2, hcap⟩ := conv_bytes [c] w1
 have hlen : ([c] : List UInt8).length = 1 := rfl
 have hconv2 : (convert 9 35 (.string ⟨#[c]⟩)).run Tryz.prog w1 = .ok (.slice (some ⟨w1.heap.size, 0, none⟩) 1 cap) w2 := hconv
 have hc0 : w2.cell? ⟨w1.heap.size, 0, none⟩ = some (.int .u8 (c.toNat : Int)) := by
  rcases hs2 with h | ⟨q, o, hq, _, hcc⟩
  · cases h
  · injection hq with hq
    injection hq with hq1 hq2
    subst hq1 hq2
    exact hcc 0 (by simp)
 have HC := Lib.hid (contains_one w1.heap.size 1 cap c.toNat 47 w2 hc0 rfl H47.out)
 have HB2 : Hid (Below w.heap.size w w2) := HB.out.trans (hb2.mono HB.out.size)
 clear hconv hs2 hb2 hcap hlen hc0 HB H47
 go_wp2_with fail
 refine HC.out.mono ?_
 rintro e w3 ⟨rfl, rfl⟩
 go_wp2_with fail
 go_ret
 exact ⟨rfl, HB2.out⟩
theorem rfault_ok (g : Nat) (t : Bs) (w : World) (h : Rdx w g (some t)) (he : ErrTab w) :
 Calls Tryz.prog 77 #[.pointer (some ⟨g, 0, none⟩)] w fun e w' => e = .returned (.int .i64 0) ∧ w = w' := by
 obtain ⟨q, l, a, h1, _⟩ := h.ok
 refine (fault_any g q l a 0 w h1 (by omega) he).mono ?_
 rintro e w' ⟨rfl, rfl⟩
 exact ⟨rfl, rfl⟩
theorem readTree_nil (g : Nat) (t : Bs) (w : World) (h : Rdx w g (some (0 :: t))) :
 Calls Tryz.prog 61 #[.pointer (some ⟨g, 0, none⟩)] w fun e w' => e = .returned (.iface 112 (.slice none 0 0)) ∧ Rdx w' g (some t) ∧ w.grownBy w' (some g) := by
 have HV := Lib.hid (rnum_any g 1024 _ w h)
 unfold Hid RdPost at HV
 have e : rNum 1024 (some (0 :: t)) = (0, some t) := rfl
 rw [e] at HV
 have HV := Lib.hid HV
 clear e h
 go_enter Tryz.func61, Tryz.ntmps61
 go_wp2_with fail
 refine HV.out.mono ?_
 rintro e w1 ⟨rfl, h1, h2⟩
 have HE := Lib.hid h1
 have HG := Lib.hid h2
 clear h1 h2 HV
 go_wp2_with fail
 refine wp_loop_rounds 1 ?_
 rw [rounds_succ]
 go_wp2_with fail
 go_ret
 exact ⟨rfl, HE.out, HG.out⟩
theorem str_back {w : World} {q : Nat} {l : List UInt8} (hB : Blk w q 5 (U l).toArray) : ∀ w' g, w.grownBy w' (some g) → q ≠ g → (convert 35 9 (.slice (some ⟨q, 0, none⟩) l.length l.length)).run Tryz.prog w' = .ok (.string ⟨l.toArray⟩) w' := by
 intro w' g hg hne
 refine run_convert_bytes_back (P := Tryz.prog) w' 35 9 5 ⟨q, 0, none⟩ l.length l Tryz.underlying35 Tryz.underlying5 Tryz.underlying9 (fun j hj => ?_)
 have h1 := hB.gb hg (by simp; omega)
 rw [addr_add, Nat.zero_add, h1.cell, List.getElem?_toArray, U_get, List.getElem?_eq_getElem hj]
 rfl
theorem id32 (i : Id) : ∃ c0 c1 c2 c3 c4 c5 c6 c7 c8 c9 c10 c11 c12 c13 c14 c15 c16 c17 c18 c19 c20 c21 c22 c23 c24 c25 c26 c27 c28 c29 c30 c31 : Value, U i.1 = [c0, c1, c2, c3, c4, c5, c6, c7, c8, c9, c10, c11, c12, c13, c14, c15, c16, c17, c18, c19, c20, c21, c22, c23, c24, c25, c26, c27, c28, c29, c30, c31] := by
 obtain ⟨l, h⟩ := i
 match l, h with
 | [c0, c1, c2, c3, c4, c5, c6, c7, c8, c9, c10, c11, c12, c13, c14, c15, c16, c17, c18, c19, c20, c21, c22, c23, c24, c25, c26, c27, c28, c29, c30, c31], _ => exact ⟨_, _, _, _, _, _, _, _, _, _, _, _, _, _, _, _, _, _, _, _, _, _, _, _, _, _, _, _, _, _, _, _, rfl⟩
theorem info_ent : ∃ i : TypeInfo, Tryz.prog.info? 39 = some i ∧ i.size = 34 ∧ i.bytes = 56 ∧ ∃ z, i.zero = some z ∧ z.cells.size = 34 := by
 have h : (Tryz.prog.info? 39).map (fun i => (i.size, i.bytes, i.zero.map (fun z => z.cells.size))) = some (34, 56, some 34) := by kernel_rfl
 cases hi : Tryz.prog.info? 39 with
 | none => rw [hi] at h; cases h
 | some i =>
   rw [hi] at h
   simp only [Option.map_some, Option.some.injEq, Prod.mk.injEq] at h
   obtain ⟨h1, h2, h3⟩ := h
   cases hz : i.zero with
   | none => rw [hz] at h3; cases h3
   | some z =>
     rw [hz] at h3
     exact ⟨i, rfl, h1, h2, z, hz, Option.some.inj h3⟩
theorem own_nil (w : World) (base e size : Nat) : w.ownsRow base e size (.slice none 0 0) 0 [] := ⟨by simp, .inl ⟨rfl, rfl⟩⟩
def TreeOne (w : World) (g : Nat) (en : Ent) (t : Bs) (v : Value) (w' : World) : Prop :=
 ∃ A k, v = .slice A 1 k ∧ w'.ownsRow w.heap.size 39 34 (.slice A 1 k) 1 (entV en) ∧ Rdx w' g (some t) ∧ w.grownBy w' (some g)
set_option maxHeartbeats 4000000 in
theorem readTree_one (g : Nat) (en : Ent) (t : Bs) (w : World) (h : Rdx w g (some (1 :: (layEnt en ++ t)))) (hf : EntFit en) (he : ErrTab w) (hge : 2 ≠ g) :
 Calls Tryz.prog 61 #[.pointer (some ⟨g, 0, none⟩)] w fun e w' => ∃ v, e = .returned (.iface 112 v) ∧ TreeOne w g en t v w' := by
 have HV := Lib.hid (rnum_any g 1024 _ w h)
 unfold Hid RdPost at HV
 have e : rNum 1024 (some (1 :: (layEnt en ++ t))) = (1, some (layEnt en ++ t)) := rfl
 rw [e] at HV
 have HV := Lib.hid HV
 have HE := Lib.hid he
 have hlt := he.lt
 clear e h he
 go_enter Tryz.func61, Tryz.ntmps61
 go_wp2_with fail
 refine HV.out.mono ?_
 rintro e w1 ⟨rfl, h1, h2⟩
 have HR := Lib.hid h1
 have HG := Lib.hid h2
 have HE1 := Lib.hid (HE.out.gb h2 hlt hge)
 have HFA := Lib.hid (rfault_ok g _ w1 h1 HE1.out)
 clear h1 h2 HV
 go_wp2_with fail
 refine wp_loop_rounds 2 ?_
 rw [rounds_succ]
 go_wp2_with fail
 refine HFA.out.mono ?_
 rintro e w2 ⟨rfl, rfl⟩
 go_wp2_with fail
 have HU8 := Lib.hid (fun w' (h : Rdx w' g (some (layEnt en ++ t))) => ru8_any g _ w' h)
 have eU : rU8 (some (layEnt en ++ t)) = (UInt8.ofNat en.mode, some (layB en.name ++ (en.id.1 ++ t))) := by simp [rU8, layEnt]
 unfold Hid RdPost at HU8
 have em : (((UInt8.ofNat en.mode).toNat : Nat) : Int) = (en.mode : Int) := by rw [byteNat _ hf.mode]
 rw [eU] at HU8
 simp only [em] at HU8
 have HU8 := Lib.hid HU8
 have HBY := Lib.hid (fun w' (h : Rdx w' g (some (layB en.name ++ (en.id.1 ++ t)))) => rbytes_any g 255 _ w' h (by omega) (by omega))
 unfold Hid RawPost at HBY
 rw [rBytes_lay en.name 255 hf.name (by have := hf.name; omega)] at HBY
 have HBY := Lib.hid HBY
 have HID := Lib.hid (fun w' (h : Rdx w' g (some (en.id.1 ++ t))) => rid_any g _ w' h)
 unfold Hid RidPost at HID
 rw [rId_lay] at HID
 have HID := Lib.hid HID
 clear em
 have em2 : IntKind.i64.wrap (en.mode : Int) = (en.mode : Int) := wraps_i64 _ (by omega) (by have := hf.mode; omega)
 clear eU HFA
 obtain ⟨c0, c1, c2, c3, c4, c5, c6, c7, c8, c9, c10, c11, c12, c13, c14, c15, c16, c17, c18, c19, c20, c21, c22, c23, c24, c25, c26, c27, c28, c29, c30, c31, hU⟩ := id32 en.id
 have HO1 : Hid (∀ u ∈ entV en, u.oneCell' = true) := by
  intro u hu
  simp only [entV, List.mem_append, List.mem_cons, List.not_mem_nil, or_false] at hu
  rcases hu with (rfl | rfl) | hu
  · rfl
  · rfl
  · exact U_one _ u hu
 unfold Hid at HID
 rw [hU] at HID
 have HID := Lib.hid HID
 have HUU := Lib.hid hU
 clear hU
 have HOL : Hid (∀ u ∈ (#[Value.int .i64 (en.mode : Int), .string ⟨en.name.toArray⟩, c0, c1, c2, c3, c4, c5, c6, c7, c8, c9, c10, c11, c12, c13, c14, c15, c16, c17, c18, c19, c20, c21, c22, c23, c24, c25, c26, c27, c28, c29, c30, c31] : Array Value).toList, u.oneCell' = true) := by
  intro u hu
  apply HO1.out u
  show u ∈ [Value.int .i64 (en.mode : Int), .string ⟨en.name.toArray⟩] ++ U en.id.1
  rw [HUU.out]
  exact hu
 obtain ⟨ie, hie, his, hib, ze, hiz, hzs⟩ := info_ent
 have HZ1 : Hid (w.heap.size ≤ w1.heap.size) := HG.out.size
 refine wp_region_noPanic ?_
 refine wp_region_held_drew (S := fun _ => True) (by kernel_rfl) trivial (fun hHeld => ?_)
 refine wpAnyH_take (i := 0) (oi := { dst := some 16, op := Go.Op.move (Go.Operand.tmp 3), type := 112, pos := "object.go:224", after := #[], guard := none }) (v := .slice none 0 0) rfl (by kernel_rfl) ?_ ?_ ?_ ?_ hHeld ?_
 · kernel_rfl
 · kernel_rfl
 · exact fun _ _ _ h => h
 · exact Or.inl ⟨by rfl, fun w' _ => by go_simp⟩
 (try simp only [Act.put, List.setIfInBounds_toArray, List.set_cons_zero, List.set_cons_succ])
 refine wpAnyH_take (i := 1) (oi := { dst := some 17, op := Go.Op.move (Go.Operand.tmp 0), type := 128, pos := "object.go:224", after := #[], guard := none }) (v := .pointer (some ⟨g, 0, none⟩)) rfl (by kernel_rfl) ?_ ?_ ?_ ?_ hHeld ?_
 · kernel_rfl
 · kernel_rfl
 · exact fun _ _ _ h => h
 · exact Or.inl ⟨by rfl, fun w' _ => by go_simp⟩
 (try simp only [Act.put, List.setIfInBounds_toArray, List.set_cons_zero, List.set_cons_succ])
 refine wpAnyH_take (i := 4) (oi := { dst := some 20, op := Go.Op.move (Go.Operand.tmp 0), type := 128, pos := "object.go:224", after := #[], guard := none }) (v := .pointer (some ⟨g, 0, none⟩)) rfl (by kernel_rfl) ?_ ?_ ?_ ?_ hHeld ?_
 · kernel_rfl
 · kernel_rfl
 · exact fun _ _ _ h => h
 · exact Or.inl ⟨by rfl, fun w' _ => by go_simp⟩
 (try simp only [Act.put, List.setIfInBounds_toArray, List.set_cons_zero, List.set_cons_succ])
 refine wpAnyH_take (i := 7) (oi := { dst := some 23, op := Go.Op.move (Go.Operand.tmp 0), type := 128, pos := "object.go:224", after := #[], guard := none }) (v := .pointer (some ⟨g, 0, none⟩)) rfl (by kernel_rfl) ?_ ?_ ?_ ?_ hHeld ?_
 · kernel_rfl
 · kernel_rfl
 · exact fun _ _ _ h => h
 · exact Or.inl ⟨by rfl, fun w' _ => by go_simp⟩
 (try simp only [Act.put, List.setIfInBounds_toArray, List.set_cons_zero, List.set_cons_succ])
 refine wpAnyH_ready (rs := [2]) (by kernel_rfl) (by simp) ?_
 refine AllReadyH.cons (o := { dst := some 18, op := Go.Op.call { callee := Go.Callee.value (Go.Operand.func 58), args := #[Go.Operand.tmp 17], argTypes := #[128] }, type := 5, pos := "object.go:224", after := #[{ on := 1, ground := Go.Ground.data }], guard := none }) rfl (fun K hK => ?_) AllReadyH.nil
 go_simp
 refine (HU8.out _ (HR.out.drewN 1)).mono ?_
 rintro e w2 ⟨rfl, hR2, hG2⟩
 refine hK.out _ _ trivial (fun hHeld => ?_)
 clear hK K
 (try simp only [Act.put, List.setIfInBounds_toArray, List.set_cons_zero, List.set_cons_succ])
 refine wpAnyH_take (i := 3) (oi := { dst := some 19, op := Go.Op.convert 5 3 (Go.Operand.tmp 18), type := 3, pos := "object.go:224", after := #[{ on := 2, ground := Go.Ground.data }], guard := none }) (v := .int .i64 (en.mode : Int)) rfl (by kernel_rfl) ?_ ?_ ?_ ?_ hHeld ?_
 · kernel_rfl
 · kernel_rfl
 · exact fun _ _ _ h => h
 · exact Or.inl ⟨by rfl, fun w' _ => by go_simp⟩
 (try simp only [Act.put, List.setIfInBounds_toArray, List.set_cons_zero, List.set_cons_succ])
 refine wpAnyH_ready (rs := [5]) (by kernel_rfl) (by simp) ?_
 refine AllReadyH.cons (o := { dst := some 21, op := Go.Op.call { callee := Go.Callee.value (Go.Operand.func 78), args := #[Go.Operand.tmp 20, Go.Operand.const (Go.Value.int Go.IntKind.i64 255)], argTypes := #[128, 3] }, type := 35, pos := "object.go:224", after := #[{ on := 4, ground := Go.Ground.data }, { on := 2, ground := Go.Ground.chain }], guard := none }) rfl (fun K hK => ?_) AllReadyH.nil
 go_simp
 refine (HBY.out _ hR2).mono ?_
 rintro e w3 ⟨q3, n3, rfl, rfl, hq3, hB3, hR3, hG3⟩
 have K3 := Lib.hid (str_back hB3)
 have K3a := K3.out _ g (gb_refl _ _) (Nat.ne_of_gt (Nat.lt_of_lt_of_le hR2.lt hq3))
 refine hK.out _ _ trivial (fun hHeld => ?_)
 clear hK K
 refine wpAnyH_ready (rs := [6, 8]) (by kernel_rfl) (by simp) ?_
 refine AllReadyH.cons (o := { dst := some 22, op := Go.Op.convert 35 9 (Go.Operand.tmp 21), type := 9, pos := "object.go:224", after := #[{ on := 5, ground := Go.Ground.data }], guard := none }) rfl (fun K hK => ?_) (AllReadyH.cons (o := { dst := some 24, op := Go.Op.call { callee := Go.Callee.value (Go.Operand.func 79), args := #[Go.Operand.tmp 23], argTypes := #[128] }, type := 30, pos := "object.go:224", after := #[{ on := 7, ground := Go.Ground.data }, { on := 5, ground := Go.Ground.chain }], guard := none }) rfl (fun K hK => ?_) AllReadyH.nil)
 · go_simp
   refine hK.out _ _ trivial (fun hHeld => ?_)
   clear hK K
   (try simp only [Act.put, List.setIfInBounds_toArray, List.set_cons_zero, List.set_cons_succ])
   refine wpAnyH_ready (rs := [8]) (by kernel_rfl) (by simp) ?_
   refine AllReadyH.cons (o := { dst := some 24, op := Go.Op.call { callee := Go.Callee.value (Go.Operand.func 79), args := #[Go.Operand.tmp 23], argTypes := #[128] }, type := 30, pos := "object.go:224", after := #[{ on := 7, ground := Go.Ground.data }, { on := 5, ground := Go.Ground.chain }], guard := none }) rfl (fun K hK => ?_) AllReadyH.nil
   go_simp
   refine (HID.out _ hR3).mono ?_
   rintro e w4 ⟨rfl, hR4, hG4⟩
   have K4 := K3.out _ g hG4 (Nat.ne_of_gt (Nat.lt_of_lt_of_le hR2.lt hq3))
   have HZ4 : Hid (w.heap.size ≤ w4.heap.size) := Nat.le_trans HZ1.out (Nat.le_trans hG2.size (Nat.le_trans hG3.size hG4.size))
   refine hK.out _ _ trivial (fun hHeld => ?_)
   clear hK K
   (try simp only [Act.put, List.setIfInBounds_toArray, List.set_cons_zero, List.set_cons_succ])
   refine wpAnyH_take (i := 9) (oi := { dst := some 25, op := Go.Op.build 39 #[(0, Go.Operand.tmp 19), (1, Go.Operand.tmp 22), (2, Go.Operand.tmp 24)], type := 39, pos := "object.go:224", after := #[{ on := 3, ground := Go.Ground.data }, { on := 6, ground := Go.Ground.data }, { on := 8, ground := Go.Ground.data }], guard := none }) (v := .agg #[.int .i64 (en.mode : Int), .string ⟨en.name.toArray⟩, c0, c1, c2, c3, c4, c5, c6, c7, c8, c9, c10, c11, c12, c13, c14, c15, c16, c17, c18, c19, c20, c21, c22, c23, c24, c25, c26, c27, c28, c29, c30, c31]) rfl (by kernel_rfl) ?_ ?_ ?_ ?_ hHeld ?_
   · kernel_rfl
   · kernel_rfl
   · exact fun _ _ _ h => h
   · exact Or.inl ⟨by rfl, fun w' _ => by go_simp⟩
   (try simp only [Act.put, List.setIfInBounds_toArray, List.set_cons_zero, List.set_cons_succ])
   refine wpAnyH_ready (rs := [10]) (by kernel_rfl) (by simp) ?_
   refine AllReadyH.cons (o := { dst := some 26, op := Go.Op.buildSlice 112 1 #[(0, Go.Operand.tmp 25)], type := 112, pos := "object.go:224", after := #[{ on := 9, ground := Go.Ground.data }], guard := none }) rfl (fun K hK => ?_) AllReadyH.nil
   go_simp
   refine hK.out _ _ trivial (fun hHeld => ?_)
   clear hK K
   (try simp only [Act.put, List.setIfInBounds_toArray, List.set_cons_zero, List.set_cons_succ])
   refine wpAnyH_ready (rs := [11]) (by kernel_rfl) (by simp) ?_
   refine AllReadyH.cons (o := { dst := some 27, op := Go.Op.call { callee := Go.Callee.builtin Go.Builtin.append, args := #[Go.Operand.tmp 16, Go.Operand.tmp 26], argTypes := #[112, 112] }, type := 112, pos := "object.go:224", after := #[{ on := 0, ground := Go.Ground.data }, { on := 10, ground := Go.Ground.data }, { on := 8, ground := Go.Ground.chain }], guard := none }) rfl (fun K hK => ?_) AllReadyH.nil
   refine step_pushK w4 rfl (.tmp 16) (.tmp 26) 112 rfl w.heap.size 39 ie ze 34 56 Tryz.underlying112 hie hiz his hib hzs (by decide) none 0 0 [] rfl (own_nil _ _ _ _) #[.int .i64 (en.mode : Int), .string ⟨en.name.toArray⟩, c0, c1, c2, c3, c4, c5, c6, c7, c8, c9, c10, c11, c12, c13, c14, c15, c16, c17, c18, c19, c20, c21, c22, c23, c24, c25, c26, c27, c28, c29, c30, c31] 1 _ rfl HOL.out rfl (by decide) (by decide) HZ4.out ?_
   intro A7 k7 w7 hown7 hg7
   refine hK.out _ _ trivial (fun hHeld => ?_)
   clear hK K
   (try simp only [Act.put, List.setIfInBounds_toArray, List.set_cons_zero, List.set_cons_succ])
   refine wpAnyH_ready (rs := [12]) (by kernel_rfl) (by simp) ?_
   refine AllReadyH.cons (o := { dst := some 3, op := Go.Op.assign (Go.Operand.tmp 27), type := 112, pos := "object.go:224", after := #[{ on := 11, ground := Go.Ground.data }, { on := 11, ground := Go.Ground.chain }, { on := 0, ground := Go.Ground.phase }, { on := 1, ground := Go.Ground.phase }, { on := 2, ground := Go.Ground.phase }, { on := 3, ground := Go.Ground.phase }, { on := 4, ground := Go.Ground.phase }, { on := 5, ground := Go.Ground.phase }, { on := 6, ground := Go.Ground.phase }, { on := 7, ground := Go.Ground.phase }, { on := 8, ground := Go.Ground.phase }, { on := 9, ground := Go.Ground.phase }, { on := 10, ground := Go.Ground.phase }, { on := 11, ground := Go.Ground.phase }], guard := none }) rfl (fun K hK => ?_) AllReadyH.nil
   go_simp
   refine hK.out _ _ trivial (fun hHeld => ?_)
   clear hK K
   refine wpAnyH_done (by kernel_rfl) ?_ _
   refine NoPanic.normal ?_
   have HF : Hid (TreeOne w g en t (.slice A7 1 k7) w7) := by
    refine ⟨A7, k7, rfl, ?_, hR4.keep hg7, gb_trans (gb_trans (gb_trans (gb_trans (gb_drew HG.out) hG2) hG3) hG4) (gb_none hg7)⟩
    have h1 := hown7
    unfold entV
    rw [HUU.out]
    exact h1
   clear hR2 hG2 hq3 hB3 hR3 hG3 K3 hR4 hG4 K4 hown7 hg7 HO1 HOL HE HE1 HR HG HID HBY HU8
   go_wp2_with fail
   rw [rounds_succ]
   go_wp2_with fail
   go_ret
   exact ⟨_, rfl, HF.out⟩
 · go_simp
   refine (HID.out _ hR3).mono ?_
   rintro e w4 ⟨rfl, hR4, hG4⟩
   have K4 := K3.out _ g hG4 (Nat.ne_of_gt (Nat.lt_of_lt_of_le hR2.lt hq3))
   have HZ4 : Hid (w.heap.size ≤ w4.heap.size) := Nat.le_trans HZ1.out (Nat.le_trans hG2.size (Nat.le_trans hG3.size hG4.size))
   refine hK.out _ _ trivial (fun hHeld => ?_)
   clear hK K
   (try simp only [Act.put, List.setIfInBounds_toArray, List.set_cons_zero, List.set_cons_succ])
   refine wpAnyH_ready (rs := [6]) (by kernel_rfl) (by simp) ?_
   refine AllReadyH.cons (o := { dst := some 22, op := Go.Op.convert 35 9 (Go.Operand.tmp 21), type := 9, pos := "object.go:224", after := #[{ on := 5, ground := Go.Ground.data }], guard := none }) rfl (fun K hK => ?_) AllReadyH.nil
   go_simp
   refine hK.out _ _ trivial (fun hHeld => ?_)
   clear hK K
   (try simp only [Act.put, List.setIfInBounds_toArray, List.set_cons_zero, List.set_cons_succ])
   refine wpAnyH_take (i := 9) (oi := { dst := some 25, op := Go.Op.build 39 #[(0, Go.Operand.tmp 19), (1, Go.Operand.tmp 22), (2, Go.Operand.tmp 24)], type := 39, pos := "object.go:224", after := #[{ on := 3, ground := Go.Ground.data }, { on := 6, ground := Go.Ground.data }, { on := 8, ground := Go.Ground.data }], guard := none }) (v := .agg #[.int .i64 (en.mode : Int), .string ⟨en.name.toArray⟩, c0, c1, c2, c3, c4, c5, c6, c7, c8, c9, c10, c11, c12, c13, c14, c15, c16, c17, c18, c19, c20, c21, c22, c23, c24, c25, c26, c27, c28, c29, c30, c31]) rfl (by kernel_rfl) ?_ ?_ ?_ ?_ hHeld ?_
   · kernel_rfl
   · kernel_rfl
   · exact fun _ _ _ h => h
   · exact Or.inl ⟨by rfl, fun w' _ => by go_simp⟩
   (try simp only [Act.put, List.setIfInBounds_toArray, List.set_cons_zero, List.set_cons_succ])
   refine wpAnyH_ready (rs := [10]) (by kernel_rfl) (by simp) ?_
   refine AllReadyH.cons (o := { dst := some 26, op := Go.Op.buildSlice 112 1 #[(0, Go.Operand.tmp 25)], type := 112, pos := "object.go:224", after := #[{ on := 9, ground := Go.Ground.data }], guard := none }) rfl (fun K hK => ?_) AllReadyH.nil
   go_simp
   refine hK.out _ _ trivial (fun hHeld => ?_)
   clear hK K
   (try simp only [Act.put, List.setIfInBounds_toArray, List.set_cons_zero, List.set_cons_succ])
   refine wpAnyH_ready (rs := [11]) (by kernel_rfl) (by simp) ?_
   refine AllReadyH.cons (o := { dst := some 27, op := Go.Op.call { callee := Go.Callee.builtin Go.Builtin.append, args := #[Go.Operand.tmp 16, Go.Operand.tmp 26], argTypes := #[112, 112] }, type := 112, pos := "object.go:224", after := #[{ on := 0, ground := Go.Ground.data }, { on := 10, ground := Go.Ground.data }, { on := 8, ground := Go.Ground.chain }], guard := none }) rfl (fun K hK => ?_) AllReadyH.nil
   refine step_pushK w4 rfl (.tmp 16) (.tmp 26) 112 rfl w.heap.size 39 ie ze 34 56 Tryz.underlying112 hie hiz his hib hzs (by decide) none 0 0 [] rfl (own_nil _ _ _ _) #[.int .i64 (en.mode : Int), .string ⟨en.name.toArray⟩, c0, c1, c2, c3, c4, c5, c6, c7, c8, c9, c10, c11, c12, c13, c14, c15, c16, c17, c18, c19, c20, c21, c22, c23, c24, c25, c26, c27, c28, c29, c30, c31] 1 _ rfl HOL.out rfl (by decide) (by decide) HZ4.out ?_
   intro A7 k7 w7 hown7 hg7
   refine hK.out _ _ trivial (fun hHeld => ?_)
   clear hK K
   (try simp only [Act.put, List.setIfInBounds_toArray, List.set_cons_zero, List.set_cons_succ])
   refine wpAnyH_ready (rs := [12]) (by kernel_rfl) (by simp) ?_
   refine AllReadyH.cons (o := { dst := some 3, op := Go.Op.assign (Go.Operand.tmp 27), type := 112, pos := "object.go:224", after := #[{ on := 11, ground := Go.Ground.data }, { on := 11, ground := Go.Ground.chain }, { on := 0, ground := Go.Ground.phase }, { on := 1, ground := Go.Ground.phase }, { on := 2, ground := Go.Ground.phase }, { on := 3, ground := Go.Ground.phase }, { on := 4, ground := Go.Ground.phase }, { on := 5, ground := Go.Ground.phase }, { on := 6, ground := Go.Ground.phase }, { on := 7, ground := Go.Ground.phase }, { on := 8, ground := Go.Ground.phase }, { on := 9, ground := Go.Ground.phase }, { on := 10, ground := Go.Ground.phase }, { on := 11, ground := Go.Ground.phase }], guard := none }) rfl (fun K hK => ?_) AllReadyH.nil
   go_simp
   refine hK.out _ _ trivial (fun hHeld => ?_)
   clear hK K
   refine wpAnyH_done (by kernel_rfl) ?_ _
   refine NoPanic.normal ?_
   have HF : Hid (TreeOne w g en t (.slice A7 1 k7) w7) := by
    refine ⟨A7, k7, rfl, ?_, hR4.keep hg7, gb_trans (gb_trans (gb_trans (gb_trans (gb_drew HG.out) hG2) hG3) hG4) (gb_none hg7)⟩
    have h1 := hown7
    unfold entV
    rw [HUU.out]
    exact h1
   clear hR2 hG2 hq3 hB3 hR3 hG3 K3 hR4 hG4 K4 hown7 hg7 HO1 HOL HE HE1 HR HG HID HBY HU8
   go_wp2_with fail
   rw [rounds_succ]
   go_wp2_with fail
   go_ret
   exact ⟨_, rfl, HF.out⟩
theorem treeCheck_nil (w : World) : Calls Tryz.prog 122 #[.slice none 0 0] w fun e w' => e = .returned (.int .i64 0) ∧ Below w.heap.size w w' := by
 go_enter Tryz.func122, Tryz.ntmps122
 go_wp2_with fail
 refine wp_loop_rounds 1 ?_
 rw [rounds_succ]
 go_wp2_with fail
 refine wp_loop_rounds 1 ?_
 rw [rounds_succ]
 go_wp2_with fail
 refine wp_loop_rounds 1 ?_
 rw [rounds_succ]
 go_wp2_with fail
 go_ret
 exact ⟨rfl, Below.refl _ _⟩
theorem ent_range {w : World} {base : Nat} {A : Option Addr} {k : Nat} {en : Ent} (h : w.ownsRow base 39 34 (.slice A 1 k) 1 (entV en)) : ∃ q, A = some ⟨q, 0, none⟩ ∧ q < w.heap.size ∧ w.rangeAt q 0 (entV en) := by
 obtain ⟨q, cap, hv, _, hlt⟩ := h.form (by omega)
 injection hv with hv1 hv2 hv3
 subst hv1
 refine ⟨q, rfl, hlt, fun j v hj => ?_⟩
 have := h.cells (g := q) rfl j v hj
 rw [addr_add] at this
 exact this
theorem info_ent34 : (Tryz.prog.info? 39).map (·.size) = some 34 := by kernel_rfl
theorem entV_length (en : Ent) : (entV en).length = 34 := by simp [entV, U_length, en.id.2]
theorem entV_one (en : Ent) : ∀ u ∈ entV en, u.oneCell' = true := by
 intro u hu
 simp only [entV, List.mem_append, List.mem_cons, List.not_mem_nil, or_false] at hu
 rcases hu with (rfl | rfl) | hu
 · rfl
 · rfl
 · exact U_one _ u hu
theorem rangeAt_below {w w' : World} {q o : Nat} {cs : List Value} (h : w.rangeAt q o cs) (hb : Below w.heap.size w w') (hq : q < w.heap.size) : w'.rangeAt q o cs :=
 fun j v hj => (hb.cell (p := ⟨q, o + j, none⟩) hq).trans (h j v hj)
def zEnt : List Value := [Value.int .i64 0, .string ⟨#[]⟩] ++ U (List.replicate 32 0)
theorem zEnt_lit : (#[Value.int IntKind.i64 0, Value.string { data := #[] }, Value.int IntKind.u8 0, Value.int IntKind.u8 0, Value.int IntKind.u8 0, Value.int IntKind.u8 0, Value.int IntKind.u8 0, Value.int IntKind.u8 0, Value.int IntKind.u8 0, Value.int IntKind.u8 0, Value.int IntKind.u8 0, Value.int IntKind.u8 0, Value.int IntKind.u8 0, Value.int IntKind.u8 0, Value.int IntKind.u8 0, Value.int IntKind.u8 0, Value.int IntKind.u8 0, Value.int IntKind.u8 0, Value.int IntKind.u8 0, Value.int IntKind.u8 0, Value.int IntKind.u8 0, Value.int IntKind.u8 0, Value.int IntKind.u8 0, Value.int IntKind.u8 0, Value.int IntKind.u8 0, Value.int IntKind.u8 0, Value.int IntKind.u8 0, Value.int IntKind.u8 0, Value.int IntKind.u8 0, Value.int IntKind.u8 0, Value.int IntKind.u8 0, Value.int IntKind.u8 0, Value.int IntKind.u8 0, Value.int IntKind.u8 0] : Array Value) = zEnt.toArray := rfl
theorem ent_new (w : World) : Hid ((w.alloc (.cells #[Value.int IntKind.i64 0, Value.string { data := #[] }, Value.int IntKind.u8 0, Value.int IntKind.u8 0, Value.int IntKind.u8 0, Value.int IntKind.u8 0, Value.int IntKind.u8 0, Value.int IntKind.u8 0, Value.int IntKind.u8 0, Value.int IntKind.u8 0, Value.int IntKind.u8 0, Value.int IntKind.u8 0, Value.int IntKind.u8 0, Value.int IntKind.u8 0, Value.int IntKind.u8 0, Value.int IntKind.u8 0, Value.int IntKind.u8 0, Value.int IntKind.u8 0, Value.int IntKind.u8 0, Value.int IntKind.u8 0, Value.int IntKind.u8 0, Value.int IntKind.u8 0, Value.int IntKind.u8 0, Value.int IntKind.u8 0, Value.int IntKind.u8 0, Value.int IntKind.u8 0, Value.int IntKind.u8 0, Value.int IntKind.u8 0, Value.int IntKind.u8 0, Value.int IntKind.u8 0, Value.int IntKind.u8 0, Value.int IntKind.u8 0, Value.int IntKind.u8 0, Value.int IntKind.u8 0] 39)).heap[w.heap.size]? = some (.cells zEnt.toArray 39 (0, 0))) := by
 show _ = _
 rw [zEnt_lit]
 exact heap_alloc_new w _
theorem splice_ent (en : Ent) : splice zEnt 0 (entV en) = entV en := splice_all _ _ (by rw [entV_length]; rfl)
theorem zEnt_fit (en : Ent) : 0 + (entV en).length ≤ zEnt.length := by rw [entV_length]; decide
set_option maxHeartbeats 4000000 in
theorem treeCheck_one (q k : Nat) (en : Ent) (c : UInt8) (w : World) (h : w.rangeAt q 0 (entV en)) (hq : q < w.heap.size) (hm1 : 1 ≤ en.mode) (hm4 : en.mode ≤ 4) (hn : en.name = [c]) (hc : c.toNat < 127) (h32 : 32 ≤ c.toNat) (h46 : c.toNat ≠ 46) (h47 : c.toNat ≠ 47) :
 Calls Tryz.prog 122 #[.slice (some ⟨q, 0, none⟩) 1 k] w fun e w' => e = .returned (.int .i64 0) ∧ Below w.heap.size w w' := by
 have H := Lib.hid h
 have HL := Lib.hid (entV_length en)
 have HI : Hid ((Tryz.prog.info? 39).map (·.size) = some (entV en).length) := by show _ = some _; rw [entV_length]; exact info_ent34
 have HN := Lib.hid (fun w' => name_one c hc h32 h46 h47 w')
 have HNM := Lib.hid hn
 clear h hn h46 h47
 go_enter Tryz.func122, Tryz.ntmps122
 go_wp2_with fail
 refine wp_loop_rounds 2 ?_
 rw [rounds_succ]
 have HZ1 := ent_new w
 have HF := Lib.hid (zEnt_fit en)
 have HO := Lib.hid (entV_one en)
 go_upto_region 6 with (first
  | (with_reducible refine wpList_load_mid rfl 39 (.tmp 15) rfl q 0 rfl (entV en) _ H.out Tryz.underlying39 rfl HI.out ?_)
  | (with_reducible refine wpList_storeG rfl 39 (.tmp 4) (.tmp 16) rfl w.heap.size 0 (entV en) rfl rfl zEnt 39 HZ1.out HF.out HO.out HI.out ?_; intro w1 HB1 HG1))
 have HBL : Hid (Blk w1 w.heap.size 39 (entV en).toArray) := by
  have h1 := HB1.out
  rw [splice_ent] at h1
  exact h1
 have HB : Hid (Below w.heap.size w w1) := ((Below.refl w.heap.size w).alloc (Nat.le_refl _) _).trans (below_of_gb_some HG1.out (Nat.le_refl _) (by simp))
 have c0 : w1.cell? ⟨w.heap.size, 0, none⟩ = some (.int .i64 (en.mode : Int)) := by rw [HBL.out.cell, List.getElem?_toArray]; rfl
 have hd1 : decide ((en.mode : Int) < 1) = false := decide_eq_false (by omega)
 have hd4 : decide ((4 : Int) < (en.mode : Int)) = false := decide_eq_false (by omega)
 have hd4' : decide (4 < en.mode) = false := decide_eq_false (by omega)
 have hd1' : decide (en.mode < 1) = false := decide_eq_false (by omega)
 have H1 : Hid (w1.rangeAt q 0 (entV en)) := rangeAt_below H.out HB.out hq
 clear HB1 HG1 HBL HZ1 H hm1 hm4
 go_wp2_with fail
 rw [rounds_succ]
 go_wp2_with fail
 refine wp_loop_rounds 2 ?_
 rw [rounds_succ]
 have HZ2 := ent_new w1
 have hs1 := HB.out.size
 have hq1 : q < w1.heap.size := by omega
 go_upto_region 12 with (first
  | (with_reducible refine wpList_load_mid rfl 39 (.tmp 30) rfl q 0 rfl (entV en) _ H1.out Tryz.underlying39 rfl HI.out ?_)
  | (with_reducible refine wpList_storeG rfl 39 (.tmp 6) (.tmp 31) rfl w1.heap.size 0 (entV en) rfl rfl zEnt 39 HZ2.out HF.out HO.out HI.out ?_; intro w2 HB2 HG2))
 have HBL2 : Hid (Blk w2 w1.heap.size 39 (entV en).toArray) := by
  have h1 := HB2.out
  rw [splice_ent] at h1
  exact h1
 have HBB2 : Hid (Below w1.heap.size w1 w2) := ((Below.refl w1.heap.size w1).alloc (Nat.le_refl _) _).trans (below_of_gb_some HG2.out (Nat.le_refl _) (by simp))
 have HBW2 : Hid (Below w.heap.size w w2) := HB.out.trans (HBB2.out.mono hs1)
 have c1 : w2.cell? ⟨w1.heap.size, 1, none⟩ = some (.string ⟨#[c]⟩) := by rw [HBL2.out.cell, List.getElem?_toArray, entV, HNM.out]; rfl
 have HNA := Lib.hid (HN.out w2)
 clear HB2 HG2 HBL2 HZ2 H1 c0 HB HN
 go_wp2_with fail
 refine HNA.out.mono ?_
 rintro e w3 ⟨rfl, hb3⟩
 have HB3 : Hid (Below w.heap.size w w3) := HBW2.out.trans (hb3.mono HBW2.out.size)
 clear hb3 HNA HBW2 HBB2 c1 HF HO HI HL HNM
 go_wp2_with fail
 rw [rounds_succ]
 go_wp2_with fail
 refine wp_loop_rounds 1 ?_
 rw [rounds_succ]
 go_wp2_with fail
 go_ret
 exact ⟨rfl, HB3.out⟩
theorem own_drewN {w : World} {base e size n : Nat} {v : Value} {xs : List Value} (h : w.ownsRow base e size v n xs) (k : Nat) : (w.drewN k).ownsRow base e size v n xs := h
theorem meth_tree0_check (v : Value) (w : World) : (method 305 112 v "satchel/object.check").run Tryz.prog w = .ok (122, v) w := by kernel_rfl
set_option maxHeartbeats 4000000 in
theorem parse_tree0 (n c : Nat) (A : Option Addr) (w : World) (h : Sl w A (2 :: 0 :: [])) (hn : n = (2 :: 0 :: []).length) (hl : n ≤ 65536) (he : ErrTab w) :
 Calls Tryz.prog 40 #[.slice A n c] w (ParsePost w (.tree [])) := by
 have HR := Lib.hid (read_any n c A (2 :: 0 :: []) w h hn (by unfold Lim; omega))
 have HE := Lib.hid he
 have hlt := he.lt
 have hd : decide (65536 < n) = false := decide_eq_false (by omega)
 clear h hn he
 go_enter Tryz.func40, Tryz.ntmps40
 go_wp2_with fail
 refine HR.out.mono ?_
 rintro e w1 ⟨g, rfl, hg, h1, hb1⟩
 have HE1 := Lib.hid (HE.out.below hb1 hlt)
 have HB1 := Lib.hid hb1
 have HGW : Hid (w.heap.size ≤ g) := hg
 have hlt1 : 2 < w1.heap.size := Nat.lt_of_lt_of_le hlt hb1.size
 have hge : 2 ≠ g := by omega
 have HU := Lib.hid (ru8_any g _ w1 h1)
 unfold Hid RdPost at HU
 rw [show rU8 (some (2 :: 0 :: [])) = (2, some (0 :: [])) from rfl] at HU
 have HU := Lib.hid HU
 clear h1 hb1 HR
 have ek : ((((2 : UInt8)).toNat : Nat) : Int) = 2 := rfl
 go_wp2_with fail
 refine HU.out.mono ?_
 rintro e w2 ⟨rfl, h2, g2⟩
 have HE2 := Lib.hid (HE1.out.gb g2 hlt1 hge)
 have HG2 := Lib.hid g2
 have HC := Lib.hid (readTree_nil g [] w2 h2)
 clear h2 HU HE1
 go_wp2_with fail
 refine HC.out.mono ?_
 rintro e w3 ⟨rfl, h3, g3⟩
 have HG3 := Lib.hid (gb_trans HG2.out g3)
 have HE3 := Lib.hid (HE2.out.gb g3 (Nat.lt_of_lt_of_le hlt1 HG2.out.size) hge)
 have HEN := Lib.hid (rend_any g (some []) w3 h3 HE3.out)
 have HGS : Hid (w.heap.size ≤ w3.heap.size) := Nat.le_trans HB1.out.size HG3.out.size
 clear h3 g3 g2 HC HE2 HG2 ek HE3
 go_wp2_with fail
 refine HEN.out.mono ?_
 rintro e w4 ⟨v0, rfl, hv, kz, rfl⟩
 obtain rfl : v0 = 0 := hv.2 rfl
 clear hv HEN
 have hmb := meth_tree0_check
 have HCK := Lib.hid (treeCheck_nil (w3.drewN kz))
 have HBB : Hid (Below w.heap.size w (w3.drewN kz)) := HB1.out.trans (below_drewN (below_of_gb_some HG3.out HGW.out HB1.out.size) kz)
 have HF : Hid (∀ w', Below (w3.drewN kz).heap.size (w3.drewN kz) w' → ParsePost w (.tree []) (.returned (.tuple #[.iface 112 (.slice none 0 0), .int .i64 0])) w') := fun w' hb =>
  ⟨_, rfl, ⟨none, 0, rfl, own_nil _ _ _ _⟩, HBB.out.trans (hb.mono HBB.out.size)⟩
 clear HE HG3
 go_wp2_with fail
 refine HCK.out.mono ?_
 rintro e w6 ⟨rfl, hb6⟩
 have HP := Lib.hid (HF.out w6 hb6)
 clear hb6 HF
 go_wp2_with fail
 go_ret2
 exact HP.out
theorem meth_tree1_check (v : Value) (w : World) : (method 305 112 v "satchel/object.check").run Tryz.prog w = .ok (122, v) w := by kernel_rfl
set_option maxHeartbeats 4000000 in
theorem parse_tree1 (n c : Nat) (A : Option Addr) (en : Ent) (nc : UInt8) (hm1 : 1 ≤ en.mode) (hm4 : en.mode ≤ 4) (hnm : en.name = [nc]) (hc : nc.toNat < 127) (h32 : 32 ≤ nc.toNat) (h46 : nc.toNat ≠ 46) (h47 : nc.toNat ≠ 47) (w : World) (h : Sl w A (2 :: 1 :: layEnt en)) (hn : n = (2 :: 1 :: layEnt en).length) (hl : n ≤ 65536) (he : ErrTab w) :
 Calls Tryz.prog 40 #[.slice A n c] w (ParsePost w (.tree [en])) := by
 have HR := Lib.hid (read_any n c A (2 :: 1 :: layEnt en) w h hn (by unfold Lim; omega))
 have HE := Lib.hid he
 have hlt := he.lt
 have hd : decide (65536 < n) = false := decide_eq_false (by omega)
 have HFIT : Hid (EntFit en) := ⟨by omega, by rw [hnm]; show 1 ≤ 255; omega⟩
 have HPR : Hid (1 ≤ en.mode ∧ en.mode ≤ 4 ∧ en.name = [nc] ∧ nc.toNat < 127 ∧ 32 ≤ nc.toNat ∧ nc.toNat ≠ 46 ∧ nc.toNat ≠ 47) := ⟨hm1, hm4, hnm, hc, h32, h46, h47⟩
 clear hm1 hm4 hnm hc h32 h46 h47
 clear h hn he
 go_enter Tryz.func40, Tryz.ntmps40
 go_wp2_with fail
 refine HR.out.mono ?_
 rintro e w1 ⟨g, rfl, hg, h1, hb1⟩
 have HE1 := Lib.hid (HE.out.below hb1 hlt)
 have HB1 := Lib.hid hb1
 have HGW : Hid (w.heap.size ≤ g) := hg
 have hlt1 : 2 < w1.heap.size := Nat.lt_of_lt_of_le hlt hb1.size
 have hge : 2 ≠ g := by omega
 have HU := Lib.hid (ru8_any g _ w1 h1)
 unfold Hid RdPost at HU
 rw [show rU8 (some (2 :: 1 :: layEnt en)) = (2, some (1 :: layEnt en)) from rfl] at HU
 have HU := Lib.hid HU
 clear h1 hb1 HR
 have ek : ((((2 : UInt8)).toNat : Nat) : Int) = 2 := rfl
 go_wp2_with fail
 refine HU.out.mono ?_
 rintro e w2 ⟨rfl, h2, g2⟩
 have HE2 := Lib.hid (HE1.out.gb g2 hlt1 hge)
 have HG2 := Lib.hid g2
 have HC := Lib.hid (readTree_one g en [] w2 (by rw [List.append_nil]; exact h2) HFIT.out HE2.out hge)
 clear h2 HU HE1
 go_wp2_with fail
 refine HC.out.mono ?_
 rintro e w3 ⟨v, rfl, A3, k3, rfl, ho3, h3, g3⟩
 obtain ⟨q, rfl, hq3, hr3⟩ := ent_range ho3
 have HO3 : Hid (w3.ownsRow w.heap.size 39 34 (.slice (some ⟨q, 0, none⟩) 1 k3) 1 (entV en)) := own_base ho3 (Nat.le_trans HB1.out.size HG2.out.size)
 have HRG : Hid (w3.rangeAt q 0 (entV en)) := hr3
 clear ho3 hr3
 have HG3 := Lib.hid (gb_trans HG2.out g3)
 have HE3 := Lib.hid (HE2.out.gb g3 (Nat.lt_of_lt_of_le hlt1 HG2.out.size) hge)
 have HEN := Lib.hid (rend_any g (some []) w3 h3 HE3.out)
 have HGS : Hid (w.heap.size ≤ w3.heap.size) := Nat.le_trans HB1.out.size HG3.out.size
 clear h3 g3 g2 HC HE2 HG2 ek HE3
 go_wp2_with fail
 refine HEN.out.mono ?_
 rintro e w4 ⟨v0, rfl, hv, kz, rfl⟩
 obtain rfl : v0 = 0 := hv.2 rfl
 clear hv HEN
 have hmb := meth_tree1_check
 have HCK := Lib.hid (treeCheck_one q k3 en nc (w3.drewN kz) HRG.out hq3 HPR.out.1 HPR.out.2.1 HPR.out.2.2.1 HPR.out.2.2.2.1 HPR.out.2.2.2.2.1 HPR.out.2.2.2.2.2.1 HPR.out.2.2.2.2.2.2)
 have HBB : Hid (Below w.heap.size w (w3.drewN kz)) := HB1.out.trans (below_drewN (below_of_gb_some HG3.out HGW.out HB1.out.size) kz)
 have HF : Hid (∀ w', Below (w3.drewN kz).heap.size (w3.drewN kz) w' → ParsePost w (.tree [en]) (.returned (.tuple #[.iface 112 (.slice (some ⟨q, 0, none⟩) 1 k3), .int .i64 0])) w') := fun w' hb =>
  ⟨_, rfl, ⟨_, k3, rfl, by simpa using own_below (own_drewN HO3.out kz) hb⟩, HBB.out.trans (hb.mono HBB.out.size)⟩
 clear HE HG3 HRG HO3
 go_wp2_with fail
 refine HCK.out.mono ?_
 rintro e w6 ⟨rfl, hb6⟩
 have HP := Lib.hid (HF.out w6 hb6)
 clear hb6 HF
 go_wp2_with fail
 go_ret2
 exact HP.out
end Go.Proofs.YtnjhjbmngoeobaaGreatDoor
