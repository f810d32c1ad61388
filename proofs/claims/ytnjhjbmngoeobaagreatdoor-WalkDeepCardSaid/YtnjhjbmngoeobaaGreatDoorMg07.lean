/- Laws towards WalkDeep: DigF, RdxB, RdxC, ObjA, NamA. -/
import Derived.Test.YtnjhjbmngoeobaaGreatDoorMg06
import Derived.Test.YtnjhjbmngoeobaaGreatDoorMg03
import Derived.Deep.Cut
import Derived.Deep.CutRange
import Derived.Test.YtnjhjbmngoeobaaGreatDoorMg02
namespace Go.Proofs.YtnjhjbmngoeobaaGreatDoor
open Go.RowKit
set_option maxRecDepth 100000
structure DigTab (w : World) : Prop where
 rnd : RndTab w
 beg : BegTab w
theorem DigTab.below {w w' : World} (h : DigTab w) (hb : Below w.heap.size w w') : DigTab w' := ⟨h.rnd.below hb, h.beg.below hb⟩
theorem z32_id : (#[Value.int IntKind.u8 0, Value.int IntKind.u8 0, Value.int IntKind.u8 0, Value.int IntKind.u8 0, Value.int IntKind.u8 0, Value.int IntKind.u8 0, Value.int IntKind.u8 0, Value.int IntKind.u8 0, Value.int IntKind.u8 0, Value.int IntKind.u8 0, Value.int IntKind.u8 0, Value.int IntKind.u8 0, Value.int IntKind.u8 0, Value.int IntKind.u8 0, Value.int IntKind.u8 0, Value.int IntKind.u8 0, Value.int IntKind.u8 0, Value.int IntKind.u8 0, Value.int IntKind.u8 0, Value.int IntKind.u8 0, Value.int IntKind.u8 0, Value.int IntKind.u8 0, Value.int IntKind.u8 0, Value.int IntKind.u8 0, Value.int IntKind.u8 0, Value.int IntKind.u8 0, Value.int IntKind.u8 0, Value.int IntKind.u8 0, Value.int IntKind.u8 0, Value.int IntKind.u8 0, Value.int IntKind.u8 0, Value.int IntKind.u8 0] : Array Value) = idC [] := rfl
theorem Sl.alloc {w : World} {A : Option Addr} {l : List UInt8} (h : Sl w A l) (o : Obj) : Sl (w.alloc o) A l := h.below ((Below.refl _ _).alloc (Nat.le_refl _) _)
theorem Sl.sx_new {w : World} {A : Option Addr} {l : List UInt8} (h : Sl w A l) (o : Obj) : Sx (w.alloc o) w.heap.size A l := by
 rcases h with rfl | ⟨q, p, rfl, hlt, hc⟩
 · exact .inl rfl
 · refine .inr ⟨q, p, rfl, by simp; omega, by omega, fun j hj => ?_⟩
   rw [World.cell?_alloc_lt _ _ _ hlt]
   exact hc j hj
theorem splice_id (l : List UInt8) (h : l.length = 32) : splice (U (List.replicate 32 0)) 0 (U l) = U l := splice_all _ _ (by rw [U_length, U_length, h]; rfl)
theorem idT_eq : (idC []) = (U (List.replicate 32 0)).toArray := rfl
theorem id_fit (l : List UInt8) (h : l.length = 32) : 0 + (U l).length ≤ (U (List.replicate 32 (0 : UInt8))).length := by
 rw [U_length, U_length, h]
 decide
theorem id_size (l : List UInt8) (h : l.length = 32) : (Tryz.prog.info? 30).map (·.size) = some (U l).length := by
 rw [U_length, h]
 exact infoID
theorem id_size' (l : List UInt8) (h : l.length = 32) : (Tryz.prog.info? 30).map (·.size) = some (U l).toArray.size := by
 rw [List.size_toArray]
 exact id_size l h
set_option maxHeartbeats 1000000 in
theorem dsum_any (n c : Nat) (A : Option Addr) (bs : List UInt8) (w : World) (h : Sl w A bs) (htab : DigTab w) (hn : bs.length = n) (hnc : n ≤ c) (hb : bs.length ≤ 1152921504606840000) :
 Calls Tryz.prog 42 #[.slice A n c] w fun e w' => e = .returned (.agg (U (Dg.sha bs)).toArray) ∧ Below w.heap.size w w' := by
 have HS := Lib.hid (h.alloc (.cells (idC []) 30))
 have HTAB := Lib.hid (htab.below (((Below.refl w.heap.size w)).alloc (Nat.le_refl _) (.cells (idC []) 30)))
 have HBT := Lib.hid (Blk.new w 30 (idC []))
 have HB0 := Lib.hid ((Below.refl w.heap.size w).alloc (Nat.le_refl _) (.cells (idC []) 30))
 have HN := Lib.hid hn
 have HZ := Lib.hid z32_id
 have HLB := Lib.hid hb
 have HRL := Lib.hid htab.rnd.lt
 have HSZ0 : Hid ((w.alloc (.cells (idC []) 30)).heap.size = w.heap.size + 1) := by show _ = _; simp
 obtain ⟨T, hT⟩ : ∃ T, T = w.heap.size := ⟨_, rfl⟩
 rw [← hT] at HBT HB0 HSZ0 HRL
 have HT := Lib.hid hT
 clear h htab hn hT hb
 go_enter Tryz.func42, Tryz.ntmps42
 go_upto_region 1 with fail
 rw [HZ.out, ← HT.out]
 clear HZ
 generalize w.alloc (.cells (idC []) 30) = w0 at *
 go_wp2_with fail
 refine (dnew_any w0 HTAB.out.beg).mono ?_
 rintro e w1 ⟨rfl, rfl⟩
 rw [HSZ0.out]
 have HN1 : Hid (Hsh (w0.alloc (.cells newCells 151)) (T + 1) [] 0 Dg.st0 (List.replicate 64 0) 0) := by rw [← HSZ0.out]; exact new_hsh w0
 have HX1 : Hid (Sx (w0.alloc (.cells newCells 151)) (T + 1) A bs) := by rw [← HSZ0.out]; exact HS.out.sx_new _
 have HT1 := Lib.hid (HTAB.out.below (((Below.refl w0.heap.size w0)).alloc (Nat.le_refl _) (.cells newCells 151)))
 have HB1 := Lib.hid (HB0.out.alloc (by have := HSZ0.out; omega) (.cells newCells 151))
 have HI1 := Lib.hid (HBT.out.alloc (.cells newCells 151))
 have hz1 : (w0.alloc (.cells newCells 151)).heap.size = T + 2 := by simp [HSZ0.out]
 have HZ1 := Lib.hid hz1
 clear HS HB0 HBT HTAB HSZ0 hz1
 generalize w0.alloc (.cells newCells 151) = w1 at *
 go_wp2_with fail
 refine (write_any (T + 1) [] bs Dg.st0 (List.replicate 64 0) 0 n c A w1 HN1.out HT1.out.rnd (by have := HRL.out; omega) HN.out hnc HX1.out (by have := HLB.out; simp; omega)).mono ?_
 rintro e w2 ⟨rfl, st2, tl2, hv2, hH2, hG2⟩
 have hH2' : Hsh w2 (T + 1) bs bs.length st2 tl2 hv2 := by
  rw [List.nil_append, show ([] : List UInt8).length + bs.length = bs.length from Nat.zero_add _] at hH2
  exact hH2
 have HH2 := Lib.hid hH2'
 have HI2 := Lib.hid (HI1.out.gb hG2 (by simp))
 have HB2 := Lib.hid (HB1.out.trans (below_of_gb_some hG2 (by omega) (by have := HZ1.out; omega)))
 have HT2 := Lib.hid (HT1.out.rnd.gb hG2 (by have := HRL.out; omega))
 have HZ2 : Hid (T + 2 ≤ w2.heap.size) := by have := hG2.size; have := HZ1.out; show _ ≤ _; omega
 clear hH2 hH2' hG2 HN1 HX1 HT1 HB1 HI1 HZ1
 go_wp2_with fail
 refine (sum_any (T + 1) bs st2 tl2 hv2 w2 HH2.out HT2.out HLB.out).mono ?_
 rintro e w3 ⟨rfl, hB3⟩
 have HTF : Hid (w3.heap[T]? = some (.cells (U (List.replicate 32 0)).toArray 30 (0, 0))) := HI2.out.below hB3 (by have := HZ2.out; omega)
 have HB3 := Lib.hid (HB2.out.trans (hB3.mono (by have := HZ2.out; omega)))
 have HZ3 : Hid (T + 2 ≤ w3.heap.size) := by have := hB3.size; have := HZ2.out; show _ ≤ _; omega
 have HF := Lib.hid (id_fit (Dg.sha bs) (Dg.sha_length bs))
 have HSZ := Lib.hid (id_size (Dg.sha bs) (Dg.sha_length bs))
 clear hB3 HH2 HI2 HB2 HT2 HZ2
 go_wp2_with (with_reducible refine wpList_storeG rfl 30 (.tmp 2) (.tmp 9) rfl T 0 (U (Dg.sha bs)) rfl rfl (U (List.replicate 32 0)) 30 HTF.out HF.out (U_one _) HSZ.out ?_; intro w9 HT9 HG9)
 have HRW : Hid (w9.heap[T]? = some (.cells (U (Dg.sha bs)).toArray 30 (0, 0))) := by
  have h1 := HT9.out
  rw [splice_id _ (Dg.sha_length bs)] at h1
  exact h1
 have HBF9 : Hid (Below w.heap.size w w9) := by
  have h1 := HB3.out.trans (below_of_gb_some HG9.out (Nat.le_refl _) (by have := HZ3.out; omega))
  rw [HT.out] at h1
  exact h1
 exact bodyPost_ret (v := .agg (U (Dg.sha bs)).toArray) (results_cell_row Tryz.results42 _ w9 T 30 (U (Dg.sha bs)).toArray (0, 0) _ rfl HRW.out Tryz.underlying30 rfl (id_size' _ (Dg.sha_length bs))) rfl ⟨rfl, HBF9.out⟩
def RawPost (w : World) (g : Nat) (r : Bs × Option Bs) (e : Ending) (w' : World) : Prop :=
 ∃ q n, e = .returned (.slice (some ⟨q, 0, none⟩) n n) ∧ n = r.1.length ∧ w.heap.size ≤ q ∧ Blk w' q 5 (U r.1).toArray ∧ Rdx w' g r.2 ∧ w.grownBy w' (some g)
theorem Sl.reads' {w : World} {A : Option Addr} {l : List UInt8} {n : Nat} (h : Sl w A l) (hn : n = l.length) : Reads w w.heap.size 1 A n (U l) := by
 subst hn
 exact h.reads
theorem own_blk {w : World} {base g n : Nat} {l : List UInt8} (h : w.ownsRow base 5 1 (.slice (some ⟨g, 0, none⟩) n n) n (U l)) : Blk w g 5 (U l).toArray := own_full h
theorem gb_below {a w w' : World} {row : Option Nat} (h : a.grownBy w row) (hb : Below w.heap.size w w') : a.grownBy w' row := gb_trans h (gb_of_below hb row)
theorem rRaw_le (k : Nat) (s : Option Bs) : (rRaw k s).1.length ≤ k := by
 cases s with
 | none => simp [rRaw]
 | some t =>
   by_cases hk2 : k ≤ t.length
   · rw [rRaw_some hk2]
     simp
     omega
   · rw [rRaw_short hk2]
     simp
set_option maxHeartbeats 1000000 in
theorem rraw_any (g k : Nat) (s : Option Bs) (w : World) (h : Rdx w g s) (hk : k ≤ Lim) :
 Calls Tryz.prog 59 #[.pointer (some ⟨g, 0, none⟩), .int .i64 k] w (RawPost w g (rRaw k s)) := by
 have HN := Lib.hid (rnext_any g k s w h)
 have hle := rRaw_le k s
 have hk0 : decide ((k : Int) < 0) = false := decide_eq_false (by omega)
 have HLim : Hid ((rRaw k s).1.length ≤ Lim) := Nat.le_trans hle hk
 clear h hk hle
 unfold Hid NxPost at HN
 generalize rRaw k s = r at *
 have HN := Lib.hid HN
 go_enter Tryz.func59, Tryz.ntmps59
 go_wp2_with fail
 refine HN.out.mono ?_
 rintro e w1 ⟨A, n, c, rfl, hn, hs, h1, h2⟩
 have HT := Lib.hid (taken_any A n c r.1 w1 (hs.reads' hn) (by rw [hn]; exact HLim.out))
 have HE := Lib.hid h1
 have HG := Lib.hid h2
 have HL := Lib.hid hn
 clear h1 h2 hs hn HN
 go_wp2_with fail
 refine HT.out.mono ?_
 rintro e w2 ⟨rfl, h3, h4⟩
 have HF : Hid (RawPost w g r (.returned (.slice (some ⟨w1.heap.size, 0, none⟩) n n)) w2) :=
  ⟨w1.heap.size, n, rfl, HL.out, HG.out.size, own_blk h3, HE.out.keep (gb_of_below h4 none), gb_below HG.out h4⟩
 clear h3 h4 HT HE HG HL HLim
 go_wp2_with fail
 go_ret
 exact HF.out
theorem Rdx.c1 {w : World} {g : Nat} {s : Option Bs} (h : Rdx w g s) : ∃ a : Nat, w.cell? ⟨g, 1, none⟩ = some (.int .i64 (a : Int)) := by
 obtain ⟨q, l, a, m, h1, _⟩ := h
 exact ⟨a, h1.c1⟩
theorem rleft_any (g : Nat) (t : Bs) (w : World) (h : Rdx w g (some t)) :
 Calls Tryz.prog 60 #[.pointer (some ⟨g, 0, none⟩)] w fun e w' => e = .returned (.int .i64 (t.length : Int)) ∧ ∃ k, w' = w.drewN k := by
 obtain ⟨q, l, a, h1, rfl⟩ := h.ok
 refine (left_any g q l a 0 w h1).mono ?_
 rintro e w' ⟨rfl, h2⟩
 refine ⟨ret_int ?_, h2⟩
 have := h1.hat
 rw [List.length_drop]
 omega
theorem Rdx.len {w : World} {g : Nat} {t : Bs} (h : Rdx w g (some t)) : t.length ≤ Lim := by
 obtain ⟨q, l, a, h1, rfl⟩ := h.ok
 have := h1.len
 rw [List.length_drop]
 omega
theorem Rdx.drewN {w : World} {g : Nat} {s : Option Bs} (h : Rdx w g s) (k : Nat) : Rdx (w.drewN k) g s := by
 obtain ⟨q, l, a, m, h1, h2, h3⟩ := h
 exact ⟨q, l, a, m, h1.drewN k, h2, h3⟩
set_option maxHeartbeats 1000000 in
theorem rbytes_ok (g most q a n z : Nat) (l : Bs) (w : World) (h : Rdr w g q l a 0) (h0 : 0 < most) (hm : most ≤ 1099511627776) (hn : num (l.drop a) = some (n, z)) (hnm : n ≤ most) (hl : n ≤ ((l.drop a).drop z).length) :
 Calls Tryz.prog 78 #[.pointer (some ⟨g, 0, none⟩), .int .i64 most] w (RawPost w g (rRaw n (some ((l.drop a).drop z)))) := by
 have HV := Lib.hid (rnum_any g most _ w (Rdx.of h))
 unfold Hid RdPost rNum at HV
 simp only [hn, if_pos hnm] at HV
 have HV := Lib.hid HV
 have ha0 := h.c1
 have em : IntKind.u64.wrap (most : Int) = (most : Int) := wraps_u64 _ (by omega) (by omega)
 have em2 : IntKind.i64.wrap (n : Int) = (n : Int) := wraps_i64 _ (by omega) (by omega)
 have HLim : Hid ((rRaw n (some ((l.drop a).drop z))).1.length ≤ Lim) := Nat.le_trans (rRaw_le _ _) (by unfold Lim; omega)
 generalize (l.drop a).drop z = s at *
 go_enter Tryz.func78, Tryz.ntmps78
 go_wp2_with fail
 refine HV.out.mono ?_
 rintro e w1 ⟨rfl, h1, h2⟩
 obtain ⟨q1, l1, a1, r1, rl⟩ := h1.ok
 have c2 := r1.c2
 have HE1 := Lib.hid h1
 have HG := Lib.hid h2
 have HLF := Lib.hid (rleft_any g s w1 h1)
 have hs1 := h1.len
 have es : IntKind.u64.wrap (s.length : Int) = (s.length : Int) := wraps_u64 _ (by omega) (by unfold Lim at hs1; omega)
 obtain ⟨L, hL⟩ : ∃ L, L = s.length := ⟨_, rfl⟩
 rw [← hL] at es hl
 have HLE := Lib.hid hL
 have hlt : decide (L < n) = false := decide_eq_false (by omega)
 unfold Hid at HLF
 rw [← hL] at HLF
 have HLF := Lib.hid HLF
 clear h1 h2 r1 rl hs1 HV hL ha0 h hn
 go_wp2_with fail
 refine HLF.out.mono ?_
 rintro e w2 ⟨rfl, kq, rfl⟩
 have HE2 := Lib.hid (HE1.out.drewN kq)
 replace HG := Lib.hid (gb_drewN HG.out kq)
 have HN := Lib.hid (rnext_any g n (some s) _ HE2.out)
 unfold Hid NxPost at HN
 clear HE1 HE2 HLF HLE c2
 generalize rRaw n (some s) = r at *
 have HN := Lib.hid HN
 go_wp2_with fail
 refine HN.out.mono ?_
 rintro e w8 ⟨A, k, c, rfl, hk, hs, h1, h2⟩
 have HT := Lib.hid (taken_any A k c r.1 w8 (hs.reads' hk) (by rw [hk]; exact HLim.out))
 have HE := Lib.hid h1
 have HG2 := Lib.hid (gb_trans HG.out h2)
 have HL := Lib.hid hk
 clear h1 h2 hs hk HN HG
 go_wp2_with fail
 refine HT.out.mono ?_
 rintro e w9 ⟨rfl, h3, h4⟩
 have HF : Hid (RawPost w g r (.returned (.slice (some ⟨w8.heap.size, 0, none⟩) k k)) w9) :=
  ⟨w8.heap.size, k, rfl, HL.out, HG2.out.size, own_blk h3, HE.out.keep (gb_of_below h4 none), gb_below HG2.out h4⟩
 clear h3 h4 HT HE HG2 HL HLim
 go_wp2_with fail
 go_ret
 exact HF.out
set_option maxHeartbeats 1000000 in
theorem rbytes_short (g most q a n z : Nat) (l : Bs) (w : World) (h : Rdr w g q l a 0) (h0 : 0 < most) (hm : most ≤ 1099511627776) (hn : num (l.drop a) = some (n, z)) (hnm : n ≤ most) (hl : ¬ n ≤ ((l.drop a).drop z).length) :
 Calls Tryz.prog 78 #[.pointer (some ⟨g, 0, none⟩), .int .i64 most] w (RawPost w g ([], none)) := by
 have HV := Lib.hid (var_any g q l a most w h)
 have ha0 := h.c1
 have em : IntKind.u64.wrap (most : Int) = (most : Int) := wraps_u64 _ (by omega) (by omega)
 have em2 : IntKind.i64.wrap (n : Int) = (n : Int) := wraps_i64 _ (by omega) (by omega)
 obtain ⟨r, hr⟩ : ∃ r : Bs × Option Bs, r = ([], none) := ⟨_, rfl⟩
 rw [← hr]
 have HLim : Hid (r.1.length ≤ Lim) := by rw [hr]; exact Nat.zero_le _
 have HR0 := Lib.hid hr
 clear hr
 have HNUM := Lib.hid hn
 have hal := h.hat
 clear h hn
 go_enter Tryz.func78, Tryz.ntmps78
 go_wp2_with fail
 refine HV.out.mono ?_
 rintro e w1 ⟨h2, ⟨n2, z2, hn2, hm2, rfl, r1⟩ | ⟨hbad, _⟩⟩
 rotate_left
 · exfalso
   rcases hbad with hb | ⟨n3, z3, hb, hc⟩
   · rw [HNUM.out] at hb
     cases hb
   · rw [HNUM.out] at hb
     injection hb with hb
     injection hb with hb1 hb2
     omega
 obtain ⟨rfl, rfl⟩ : n2 = n ∧ z2 = z := by
  rw [HNUM.out] at hn2
  injection hn2 with hn2
  injection hn2 with h3 h4
  exact ⟨h3.symm, h4.symm⟩
 have c2 := r1.c2
 have HG := Lib.hid h2
 have HLF := Lib.hid (rleft_any g _ w1 (Rdx.of r1))
 have HR1 := Lib.hid r1
 have hs1 := r1.len
 have hat1 := r1.hat
 rw [List.length_drop, List.length_drop] at hl
 have es : IntKind.u64.wrap ((l.drop (a + z2)).length : Int) = ((l.drop (a + z2)).length : Int) := wraps_u64 _ (by omega) (by rw [List.length_drop]; unfold Lim at hs1; omega)
 have hlt : decide ((l.drop (a + z2)).length < n2) = true := decide_eq_true (by rw [List.length_drop]; omega)
 generalize (l.drop (a + z2)).length = L at *
 have HAL := Lib.hid hal
 clear h2 r1 hs1 HV ha0 hn2 HNUM hat1 hal hl
 go_wp2_with fail
 refine HLF.out.mono ?_
 rintro e w2 ⟨rfl, kq, rfl⟩
 have HR2 := Lib.hid (HR1.out.drewN kq)
 replace HG := Lib.hid (gb_drewN HG.out kq)
 have HST := Lib.hid (stop_any g q l (a + z2) 0 a 1 _ HR2.out HAL.out)
 clear HR1 HLF HAL c2
 go_wp2_with fail
 refine HST.out.mono ?_
 rintro e w3 ⟨rfl, r3, g3⟩
 have HE3 := Lib.hid (Rdx.of_bad r3 (by omega) (by omega))
 replace HG := Lib.hid (gb_trans HG.out g3)
 have HN := Lib.hid (rnext_any g n2 none _ HE3.out)
 unfold Hid NxPost at HN
 clear r3 g3 HST HR2 HE3
 rw [show rRaw n2 none = r from HR0.out.symm] at HN
 clear HR0
 have HN := Lib.hid HN
 go_wp2_with fail
 refine HN.out.mono ?_
 rintro e w8 ⟨A, k, c, rfl, hk, hs, h1, h2⟩
 have HT := Lib.hid (taken_any A k c r.1 w8 (hs.reads' hk) (by rw [hk]; exact HLim.out))
 have HE := Lib.hid h1
 have HG2 := Lib.hid (gb_trans HG.out h2)
 have HL := Lib.hid hk
 clear h1 h2 hs hk HN HG
 go_wp2_with fail
 refine HT.out.mono ?_
 rintro e w9 ⟨rfl, h3, h4⟩
 have HF : Hid (RawPost w g r (.returned (.slice (some ⟨w8.heap.size, 0, none⟩) k k)) w9) :=
  ⟨w8.heap.size, k, rfl, HL.out, HG2.out.size, own_blk h3, HE.out.keep (gb_of_below h4 none), gb_below HG2.out h4⟩
 clear h3 h4 HT HE HG2 HL HLim
 go_wp2_with fail
 go_ret
 exact HF.out
set_option maxHeartbeats 1000000 in
theorem rbytes_bad (g most : Nat) (s : Option Bs) (w : World) (h : Rdx w g s) (h0 : 0 < most) (hm : most ≤ 1099511627776) (hs : rNum most s = (0, none)) :
 Calls Tryz.prog 78 #[.pointer (some ⟨g, 0, none⟩), .int .i64 most] w (RawPost w g ([], none)) := by
 have HV := Lib.hid (rnum_any g most s w h)
 unfold Hid RdPost at HV
 rw [hs] at HV
 have HV := Lib.hid HV
 obtain ⟨a0, ha0⟩ := h.c1
 have em : IntKind.u64.wrap (most : Int) = (most : Int) := wraps_u64 _ (by omega) (by omega)
 obtain ⟨r, hr⟩ : ∃ r : Bs × Option Bs, r = ([], none) := ⟨_, rfl⟩
 rw [← hr]
 have HLim : Hid (r.1.length ≤ Lim) := by rw [hr]; exact Nat.zero_le _
 have HR0 := Lib.hid hr
 clear hr
 clear h hs
 go_enter Tryz.func78, Tryz.ntmps78
 go_wp2_with fail
 refine HV.out.mono ?_
 rintro e w1 ⟨rfl, h1, h2⟩
 obtain ⟨q1, l1, a1, m1, r1, hm5, hm0⟩ := h1.bad
 have c2 := r1.c2
 have hb : (((m1 : Int) == 0) = false) := by simpa using hm0
 have HE3 := Lib.hid h1
 have HG := Lib.hid h2
 have HN := Lib.hid (rnext_any g 0 none _ HE3.out)
 unfold Hid NxPost at HN
 clear h1 h2 r1 HV ha0 hm0 HE3
 rw [show rRaw 0 none = r from HR0.out.symm] at HN
 clear HR0
 have HN := Lib.hid HN
 go_wp2_with fail
 refine HN.out.mono ?_
 rintro e w8 ⟨A, k, c, rfl, hk, hs, h1, h2⟩
 have HT := Lib.hid (taken_any A k c r.1 w8 (hs.reads' hk) (by rw [hk]; exact HLim.out))
 have HE := Lib.hid h1
 have HG2 := Lib.hid (gb_trans HG.out h2)
 have HL := Lib.hid hk
 clear h1 h2 hs hk HN HG
 go_wp2_with fail
 refine HT.out.mono ?_
 rintro e w9 ⟨rfl, h3, h4⟩
 have HF : Hid (RawPost w g r (.returned (.slice (some ⟨w8.heap.size, 0, none⟩) k k)) w9) :=
  ⟨w8.heap.size, k, rfl, HL.out, HG2.out.size, own_blk h3, HE.out.keep (gb_of_below h4 none), gb_below HG2.out h4⟩
 clear h3 h4 HT HE HG2 HL HLim
 go_wp2_with fail
 go_ret
 exact HF.out
theorem rbytes_any (g most : Nat) (s : Option Bs) (w : World) (h : Rdx w g s) (h0 : 0 < most) (hm : most ≤ 1099511627776) :
 Calls Tryz.prog 78 #[.pointer (some ⟨g, 0, none⟩), .int .i64 most] w (RawPost w g (rBytes most s)) := by
 cases s with
 | none => exact rbytes_bad g most none w h h0 hm rfl
 | some t =>
   obtain ⟨q, l, a, h1, rfl⟩ := h.ok
   unfold rBytes
   cases hn : num (l.drop a) with
   | none =>
     have e : rNum most (some (l.drop a)) = (0, none) := by unfold rNum; simp only [hn]
     rw [e]
     exact rbytes_bad g most _ w h h0 hm e
   | some p =>
     obtain ⟨n, z⟩ := p
     by_cases hnm : n ≤ most
     · have e : rNum most (some (l.drop a)) = (n, some ((l.drop a).drop z)) := by unfold rNum; simp only [hn, if_pos hnm]
       rw [e]
       by_cases hl : n ≤ ((l.drop a).drop z).length
       · exact rbytes_ok g most q a n z l w h1 h0 hm hn hnm hl
       · simp only [rRaw_short hl]
         exact rbytes_short g most q a n z l w h1 h0 hm hn hnm hl
     · have e : rNum most (some (l.drop a)) = (0, none) := by unfold rNum; simp only [hn, if_neg hnm]
       rw [e]
       exact rbytes_bad g most _ w h h0 hm e
def EndPost (w : World) (s : Option Bs) (e : Ending) (w' : World) : Prop := ∃ v : Int, e = .returned (.int .i64 v) ∧ (v = 0 ↔ s = some []) ∧ ∃ k, w' = w.drewN k
theorem rend_any (g : Nat) (s : Option Bs) (w : World) (h : Rdx w g s) (he : ErrTab w) :
 Calls Tryz.prog 64 #[.pointer (some ⟨g, 0, none⟩)] w (EndPost w s) := by
 cases s with
 | none =>
   obtain ⟨q, l, a, m, h1, h2, h3⟩ := h.bad
   have c2 := h1.c2
   have hb : (((m : Int) == 0) = false) := by simpa using h3
   have HF := Lib.hid (fault_any g q l a m w h1 h2 he)
   have HE : Hid (errOf m ≠ 0) := by
    show _ ≠ _
    match m, h2, h3 with
    | 1, _, _ => decide
    | 2, _, _ => decide
    | 3, _, _ => decide
    | 4, _, _ => decide
   clear h h1 h3 he
   go_enter Tryz.func64, Tryz.ntmps64
   go_wp2_with fail
   refine HF.out.mono ?_
   rintro e w1 ⟨rfl, rfl⟩
   go_wp2_with fail
   go_ret
   exact ⟨_, rfl, ⟨fun h => absurd h HE.out, fun h => by cases h⟩, 0, rfl⟩
 | some t =>
   obtain ⟨q, l, a, h1, rfl⟩ := h.ok
   have c2 := h1.c2
   have HL := Lib.hid (rleft_any g _ w h)
   have HR := Lib.hid h1
   have HE := Lib.hid he
   obtain ⟨L, hL⟩ : ∃ L, L = (l.drop a).length := ⟨_, rfl⟩
   unfold Hid at HL
   rw [← hL] at HL
   have HL := Lib.hid HL
   have HLL := Lib.hid hL
   clear h h1 he hL
   go_enter Tryz.func64, Tryz.ntmps64
   go_wp2_with fail
   refine HL.out.mono ?_
   rintro e w1 ⟨rfl, kq, rfl⟩
   by_cases h0 : L = 0
   · have hd : decide (0 < L) = false := decide_eq_false (by omega)
     have HF := Lib.hid (fault_any g q l a 0 (w.drewN kq) (HR.out.drewN kq) (by omega) HE.out)
     have HX : Hid (l.drop a = []) := List.eq_nil_of_length_eq_zero (by rw [← HLL.out]; exact h0)
     clear h0 HR HE HLL HL
     go_wp2_with fail
     refine HF.out.mono ?_
     rintro e w2 ⟨rfl, rfl⟩
     go_wp2_with fail
     go_ret
     exact ⟨_, rfl, ⟨fun _ => by rw [HX.out], fun _ => rfl⟩, kq, rfl⟩
   · have hd : decide (0 < L) = true := decide_eq_true (by omega)
     have HX : Hid (l.drop a ≠ []) := fun h => h0 (by rw [HLL.out, h]; rfl)
     clear h0 HR HE HLL HL
     go_wp2_with fail
     go_ret
     exact ⟨_, rfl, ⟨fun h => absurd h (by decide), fun h => absurd (Option.some.inj h) HX.out⟩, kq, rfl⟩
def ReadPost (w : World) (bs : Bs) (e : Ending) (w' : World) : Prop := ∃ g, e = .returned (.pointer (some ⟨g, 0, none⟩)) ∧ w.heap.size ≤ g ∧ Rdx w' g (some bs) ∧ Below w.heap.size w w'
theorem read_any (n c : Nat) (A : Option Addr) (bs : Bs) (w : World) (h : Sl w A bs) (hn : n = bs.length) (hl : n ≤ Lim) :
 Calls Tryz.prog 57 #[.slice A n c] w (ReadPost w bs) := by
 have HT := Lib.hid (taken_any A n c bs w (h.reads' hn) hl)
 have HN := Lib.hid hn
 have HL := Lib.hid hl
 clear h hn hl
 go_enter Tryz.func57, Tryz.ntmps57
 go_wp2_with fail
 refine HT.out.mono ?_
 rintro e w1 ⟨rfl, h3, h4⟩
 have HB := Lib.hid (own_blk h3)
 have HW := Lib.hid h4
 clear h3 h4 HT
 go_wp2_with fail
 go_ret
 refine ⟨_, rfl, HW.out.size, ?_, HW.out.alloc HW.out.size _⟩
 have h1 := Blk.new w1 141 #[.slice (some ⟨w.heap.size, 0, none⟩) n n, .int .i64 0, .int .i64 0]
 rw [HN.out] at h1 ⊢
 exact ⟨w.heap.size, bs, 0, 0, ⟨h1, HB.out.alloc _, by rw [← HN.out]; exact HL.out, Nat.zero_le _⟩, by omega, rfl, rfl⟩
theorem U_zeros (n : Nat) : U (List.replicate n 0) = List.replicate n (Value.int .u8 0) := by unfold U; rw [List.map_replicate]; rfl
theorem splice_pad (x : Bs) (h : x.length ≤ 32) : splice (U (List.replicate 32 0)) 0 (U x) = U (pad32 x).1 := by
 show splice (U (List.replicate 32 0)) 0 (U x) = U ((x ++ List.replicate 32 0).take 32)
 unfold splice
 rw [List.take_zero, List.nil_append, Nat.zero_add, U_length, List.take_append, List.take_of_length_le h, U_append, U_zeros, List.drop_replicate, List.take_replicate, U_zeros, Nat.min_eq_left (by omega)]
theorem id_copied {w2 : World} {T q n : Nat} {x : Bs} (hn : n = x.length) (h32 : x.length ≤ 32) (hX : Blk w2 (T + 1) 30 (idC [])) (hB : Blk w2 q 5 (U x).toArray) :
 w2.heap[T + 1]? = some (.cells (U (List.replicate 32 0)).toArray 30 (0, 0)) ∧ (U x).length = Nat.min n 32 ∧ (∀ j v, (U x)[j]? = some v → w2.cell? ((⟨q, 0, none⟩ : Addr).add j) = some v) ∧ 0 + (U x).length ≤ (U (List.replicate 32 (0 : UInt8))).length := by
 refine ⟨hX, ?_, fun j v hj => ?_, ?_⟩
 · rw [U_length, ← hn]
   exact (Nat.min_eq_left (by omega)).symm
 · rw [addr_add, Nat.zero_add, hB.cell, List.getElem?_toArray]
   exact hj
 · rw [U_length, U_length, List.length_replicate]
   omega
theorem gb_join {a w w' : World} {g q : Nat} (h1 : a.grownBy w (some g)) (h2 : w.grownBy w' (some q)) (hq : a.heap.size ≤ q) : a.grownBy w' (some g) :=
 ⟨h2.os.trans h1.os, h2.tape.trans h1.tape, h2.output.trans h1.output, Nat.le_trans h1.size h2.size, fun i hi hne => (h2.block i (Nat.lt_of_lt_of_le hi h1.size) (by simp; omega)).trans (h1.block i hi hne)⟩
theorem Rdx.far {w w' : World} {g q : Nat} {s : Option Bs} {t : TypeId} {cs : Array Value} (h : Rdx w g s) (hq : Blk w q t cs) (h5 : t ≠ 5) (hr : t ≠ 141) (hg : w.grownBy w' (some q)) : Rdx w' g s := by
 obtain ⟨p, l, a, m, h1, h2, h3⟩ := h
 have e1 : some g ≠ some q := fun e => by
  injection e with e
  subst e
  exact Blk.ne_ hq h1.blk hr rfl
 have e2 : some p ≠ some q := fun e => by
  injection e with e
  subst e
  exact Blk.ne_ hq h1.row h5 rfl
 exact ⟨p, l, a, m, ⟨h1.blk.gb hg e1, h1.row.gb hg e2, h1.len, h1.hat⟩, h2, h3⟩
def RidPost (w : World) (g : Nat) (r : Id × Option Bs) (e : Ending) (w' : World) : Prop := e = .returned (.agg (U r.1.1).toArray) ∧ Rdx w' g r.2 ∧ w.grownBy w' (some g)
set_option maxHeartbeats 1000000 in
theorem rid_any (g : Nat) (s : Option Bs) (w : World) (h : Rdx w g s) :
 Calls Tryz.prog 79 #[.pointer (some ⟨g, 0, none⟩)] w (RidPost w g (rId s)) := by
 have HZ := Lib.hid z32_id
 have hgl := h.lt
 have H := Lib.hid h
 clear h
 go_enter Tryz.func79, Tryz.ntmps79
 go_upto_region 2 with fail
 rw [HZ.out]
 clear HZ
 have BT := Lib.hid ((Blk.new w 30 (idC [])).alloc (.cells (idC []) 30))
 have BX := Lib.hid (Blk.new (w.alloc (.cells (idC []) 30)) 30 (idC []))
 have hz1 : (w.alloc (.cells (idC []) 30)).heap.size = w.heap.size + 1 := by simp
 have hz2 : ((w.alloc (.cells (idC []) 30)).alloc (.cells (idC []) 30)).heap.size = w.heap.size + 2 := by simp
 have HGB := Lib.hid (gb_alloc (gb_alloc (gb_refl w (some g)) (.cells (idC []) 30)) (.cells (idC []) 30))
 have HR := Lib.hid (H.out.keep (gb_alloc (gb_alloc (gb_refl w none) (.cells (idC []) 30)) (.cells (idC []) 30)))
 rw [hz1] at BX
 try rw [hz1]
 obtain ⟨T, hT⟩ : ∃ T, T = w.heap.size := ⟨_, rfl⟩
 rw [← hT] at BT BX hgl hz2
 try rw [← hT]
 have HT := Lib.hid hT
 have HZ2 := Lib.hid hz2
 clear hT hz1 hz2 H
 generalize (w.alloc (.cells (idC []) 30)).alloc (.cells (idC []) 30) = w1 at *
 have HC := Lib.hid (fun w' (h : Rdx w' g s) => rraw_any g 32 s w' h (by unfold Lim; omega))
 have hr32 := rRaw_le 32 s
 have HID : Hid (rId s = (pad32 (rRaw 32 s).1, (rRaw 32 s).2)) := rfl
 unfold Hid RawPost at HC
 generalize rRaw 32 s = r at *
 have HC := Lib.hid HC
 have hgT : g ≠ T + 1 ∧ g ≠ T := by omega
 obtain ⟨hgT1, hgT0⟩ := hgT
 have HX0 : Hid (w1.drew.heap[T + 1]? = some (.cells (U (List.replicate 32 0)).toArray 30 (0, 0))) := BX.out
 go_cut [] from 4 to 7 (fun wx => Hid (Blk wx (T + 1) 30 (U (pad32 r.1).1).toArray) ∧ Hid (Blk wx T 30 (idC [])) ∧ Hid (Rdx wx g r.2) ∧ Hid (w.grownBy wx (some g)))
 case first =>
  go_region_held3 (fun _ => True) (trivial) (first
   | (go_at_call 59; refine (HC.out _ (HR.out.drewN 1)).mono ?_; rintro e w2 ⟨q, n, rfl, rfl, hq, hB, hR2, hG2⟩; have K1 := Lib.hid (id_copied rfl hr32 (Blk.gb (Blk.drew BX.out) hG2 (by simp; omega)) hB))
   | (refine step_copyG rfl (.tmp 4) (.tmp 6) 35 35 rfl 5 Tryz.underlying35 size5 _ _ _ _ _ _ rfl rfl (T + 1) 0 (U (List.replicate 32 0)) 30 K1.out.1 (U r.1) K1.out.2.1 (fun _ => ⟨rfl, _, rfl, K1.out.2.2.1⟩) K1.out.2.2.2 (U_one _) ?_; intro w3 hB3 hG3))
  have HX3 : Hid (Blk w3 (T + 1) 30 (U (pad32 r.1).1).toArray) := by
   have h1 := hB3.out
   rw [splice_pad _ hr32] at h1
   exact h1
  have HT3 : Hid (Blk w3 T 30 (idC [])) := (((BT.out.drew).gb hG2 (by simp; omega)).gb hG3.out (by simp))
  have hqT : w1.heap.size ≤ w2.heap.size := hG2.size
  have HG3 : Hid (w.grownBy w3 (some g)) := gb_join (gb_trans (gb_drew HGB.out) hG2) hG3.out (by have := HT.out; omega)
  have HR3 : Hid (Rdx w3 g r.2) := hR2.far (Blk.gb (Blk.drew BX.out) hG2 (by simp; omega)) (by decide) (by decide) hG3.out
  clear hq hB hR2 hG2 K1 hB3 hG3
  go_wp2_with fail
  go_meet
  case rel => exact ⟨HX3, HT3, HR3, HG3⟩
 case rest =>
  obtain ⟨HX3, HT3, HR3, HG3⟩ := hcut
  obtain ⟨w3, rfl⟩ : ∃ z : World, z = wc := ⟨_, rfl⟩
  have hX4 : Hid (w3.heap[T + 1]? = some (.cells (U (pad32 r.1).1).toArray 30 (0, 0))) := HX3.out
  have hT4 : Hid (w3.heap[T]? = some (.cells (U (List.replicate 32 0)).toArray 30 (0, 0))) := HT3.out
  have HF := Lib.hid (id_fit _ (pad32 r.1).2)
  have HSZ := Lib.hid (id_size _ (pad32 r.1).2)
  have HSZ2 := Lib.hid (id_size' _ (pad32 r.1).2)
  have HPL := Lib.hid (pad32 r.1).2
  obtain ⟨y, hy⟩ : ∃ y, y = (pad32 r.1).1 := ⟨_, rfl⟩
  rw [← hy] at hX4 HF HSZ HSZ2 HPL
  have HY := Lib.hid hy
  clear hy HX3
  go_wp2_with (first
   | (with_reducible refine wpList_load_row rfl 30 (.tmp 3) rfl (T + 1) rfl 30 (U y).toArray (0, 0) _ hX4.out Tryz.underlying30 rfl HSZ2.out ?_)
   | (with_reducible refine wpList_storeG rfl 30 (.tmp 2) (.tmp 8) rfl T 0 (U y) rfl rfl (U (List.replicate 32 0)) 30 hT4.out HF.out (U_one _) HSZ.out ?_; intro w9 HT9 HG9))
  have HRW : Hid (w9.heap[T]? = some (.cells (U y).toArray 30 (0, 0))) := by
   have h1 := HT9.out
   rw [splice_id _ HPL.out] at h1
   exact h1
  have HR9 : Hid (Rdx w9 g r.2) := HR3.out.far HT3.out (by decide) (by decide) HG9.out
  have HGF : Hid (w.grownBy w9 (some g)) := gb_join HG3.out HG9.out (by have := HT.out; omega)
  have HV : Hid (RidPost w g (rId s) (.returned (.agg (U y).toArray)) w9) := by
   show RidPost _ _ _ _ _
   rw [HID.out]
   exact ⟨by rw [HY.out], HR9.out, HGF.out⟩
  exact bodyPost_ret (v := .agg (U y).toArray) (results_cell_row Tryz.results79 _ w9 T 30 (U y).toArray (0, 0) _ rfl HRW.out Tryz.underlying30 rfl HSZ2.out) rfl HV.out
theorem blobCheck_any (v : Value) (w : World) : Calls Tryz.prog 116 #[v] w fun e w' => e = .returned (.int .i64 0) ∧ w = w' := by
 go_enter Tryz.func116, Tryz.ntmps116
 go_wp2_with fail
 go_ret
 exact ⟨rfl, rfl⟩
theorem ErrTab.below {w w' : World} (h : ErrTab w) (hb : Below w.heap.size w w') (hl : 2 < w.heap.size) : ErrTab w' := by
 obtain ⟨h0, h1, h2, h3, h4⟩ := h
 exact ⟨(hb.cell (p := ⟨2, 0, none⟩) hl).trans h0, (hb.cell (p := ⟨2, 1, none⟩) hl).trans h1, (hb.cell (p := ⟨2, 2, none⟩) hl).trans h2, (hb.cell (p := ⟨2, 3, none⟩) hl).trans h3, (hb.cell (p := ⟨2, 4, none⟩) hl).trans h4⟩
theorem ErrTab.gb {w w' : World} {g : Nat} (h : ErrTab w) (hb : w.grownBy w' (some g)) (hl : 2 < w.heap.size) (hg : 2 ≠ g) : ErrTab w' := by
 have e : ∀ j, w'.cell? ⟨2, j, none⟩ = w.cell? ⟨2, j, none⟩ := fun j => World.cell?_of_block (a := ⟨2, j, none⟩) (hb.block _ hl (by simpa using hg))
 obtain ⟨h0, h1, h2, h3, h4⟩ := h
 exact ⟨(e _).trans h0, (e _).trans h1, (e _).trans h2, (e _).trans h3, (e _).trans h4⟩
theorem ErrTab.lt {w : World} (h : ErrTab w) : 2 < w.heap.size := block_lt_of_cell (a := ⟨2, 0, none⟩) h.1
def BlobV (w : World) (B : Nat) (b : Bs) (v : Value) : Prop := ∃ q n, v = .iface 111 (.slice (some ⟨q, 0, none⟩) n n) ∧ n = b.length ∧ B ≤ q ∧ Blk w q 5 (U b).toArray
def entV (e : Ent) : List Value := [Value.int .i64 (e.mode : Int), .string ⟨e.name.toArray⟩] ++ U e.id.1
def comV (c : Com) (A : Option Addr) (n k : Nat) : List Value := U c.tree.1 ++ [Value.slice A n k, .string ⟨c.who.toArray⟩, .int .u64 (c.time : Int), .string ⟨c.text.toArray⟩]
def tagV (t : Tg) : List Value := U t.target.1 ++ [Value.int .i64 (t.kind : Int), .string ⟨t.name.toArray⟩, .string ⟨t.who.toArray⟩, .int .u64 (t.time : Int), .string ⟨t.text.toArray⟩]
def ThingV (w : World) (B : Nat) (o : Ob) (v : Value) : Prop := match o with
 | .blob b => BlobV w B b v
 | .tree es => ∃ A k, v = .iface 112 (.slice A es.length k) ∧ w.ownsRow B 39 34 (.slice A es.length k) es.length (es.flatMap entV)
 | .commit c => ∃ A k, v = .iface 113 (.agg (comV c A c.parents.length k).toArray) ∧ w.ownsRow B 30 32 (.slice A c.parents.length k) c.parents.length (c.parents.flatMap fun p => U p.1)
 | .tag t => v = .iface 114 (.agg (tagV t).toArray)
def ParsePost (w : World) (o : Ob) (e : Ending) (w' : World) : Prop := ∃ v, e = .returned (.tuple #[v, .int .i64 0]) ∧ ThingV w' w.heap.size o v ∧ Below w.heap.size w w'
theorem meth_blob_check (v : Value) (w : World) : (method 305 111 v "satchel/object.check").run Tryz.prog w = .ok (116, v) w := by kernel_rfl
set_option maxHeartbeats 1000000 in
theorem parse_blob (n c : Nat) (A : Option Addr) (bs : Bs) (w : World) (h : Sl w A (1 :: bs)) (hn : n = (1 :: bs).length) (hl : n ≤ 65536) (he : ErrTab w) :
 Calls Tryz.prog 40 #[.slice A n c] w (ParsePost w (.blob bs)) := by
 have HR := Lib.hid (read_any n c A (1 :: bs) w h hn (by unfold Lim; omega))
 have HE := Lib.hid he
 have hlt := he.lt
 have HLN := Lib.hid hn
 have hd : decide (65536 < n) = false := decide_eq_false (by omega)
 clear h hn he
 go_enter Tryz.func40, Tryz.ntmps40
 go_wp2_with fail
 refine HR.out.mono ?_
 rintro e w1 ⟨g, rfl, hg, h1, hb1⟩
 have HE1 := Lib.hid (HE.out.below hb1 hlt)
 have HB1 := Lib.hid hb1
 have HGW : Hid (w.heap.size ≤ g) := hg
 have hlt1 : 2 < w1.heap.size := Nat.lt_of_lt_of_le hlt hb1.size
 have hge : 2 ≠ g := by omega
 have HU := Lib.hid (ru8_any g _ w1 h1)
 clear h1 hb1 HR
 go_wp2_with fail
 refine HU.out.mono ?_
 rintro e w2 ⟨rfl, h2, g2⟩
 have HR2 : Hid (Rdx w2 g (some bs)) := h2
 have HE2 := Lib.hid (HE1.out.gb g2 hlt1 hge)
 have HG2 := Lib.hid g2
 clear h2 g2 HU HE1
 have ek : (((rU8 (some (1 :: bs))).1.toNat : Int)) = 1 := rfl
 obtain ⟨L, hL⟩ : ∃ L, L = bs.length := ⟨_, rfl⟩
 have HLF := Lib.hid (rleft_any g bs w2 HR2.out)
 unfold Hid at HLF
 rw [← hL] at HLF
 have HLF := Lib.hid HLF
 have hL6 : L ≤ 65536 := by have := HLN.out; simp at this; omega
 have HLL := Lib.hid hL
 clear hL
 go_wp2_with fail
 refine HLF.out.mono ?_
 rintro e w3 ⟨rfl, kq, rfl⟩
 have HE3 : Hid (ErrTab (w2.drewN kq)) := HE2.out
 have HG3 : Hid (w1.grownBy (w2.drewN kq) (some g)) := gb_drewN HG2.out kq
 have HRW := Lib.hid (rraw_any g L (some bs) (w2.drewN kq) (HR2.out.drewN kq) (by unfold Lim; omega))
 unfold Hid at HRW
 rw [rRaw_some (by have := HLL.out; omega), List.take_of_length_le (by have := HLL.out; omega), List.drop_of_length_le (by have := HLL.out; omega)] at HRW
 have HRW := Lib.hid HRW
 have HS3 : Hid (w.heap.size ≤ (w2.drewN kq).heap.size) := Nat.le_trans HB1.out.size HG3.out.size
 clear HR2 HLF HE2 HG2 ek
 generalize w2.drewN kq = w3 at *
 go_wp2_with fail
 refine HRW.out.mono ?_
 rintro e w4 ⟨q, m, rfl, hm, hq, hB, hR4, hG4⟩
 have HE4 := Lib.hid (HE3.out.gb hG4 (Nat.lt_of_lt_of_le hlt1 HG3.out.size) hge)
 have HG4 := Lib.hid (gb_trans HG3.out hG4)
 have HM := Lib.hid hm
 have HQ : Hid (w3.heap.size ≤ q) := hq
 have HB4 := Lib.hid hB
 have HEN := Lib.hid (rend_any g (some []) w4 hR4 HE4.out)
 clear hm hq hB hR4 hG4 HRW HE3 HG3
 go_wp2_with fail
 refine HEN.out.mono ?_
 rintro e w5 ⟨v, rfl, hv, kz, rfl⟩
 obtain rfl : v = 0 := hv.2 rfl
 clear hv HEN
 have hmb := meth_blob_check
 have HF : Hid (ParsePost w (.blob bs) (.returned (.tuple #[.iface 111 (.slice (some ⟨q, 0, none⟩) m m), .int .i64 0])) (w4.drewN kz)) := by
  have h1 : Below w1.heap.size w1 w1 := Below.refl _ _
  have hgs := HB1.out.size
  refine ⟨_, rfl, ⟨q, m, rfl, HM.out, ?_, HB4.out⟩, ?_⟩
  · have h2 := HQ.out
    have h3 := HS3.out
    omega
  · exact HB1.out.trans (below_drewN (below_of_gb_some HG4.out HGW.out hgs) kz)
 clear HE4 HG4 HM HQ HB4
 go_wp2_with fail
 refine (blobCheck_any _ _).mono ?_
 rintro e w6 ⟨rfl, rfl⟩
 go_wp2_with fail
 go_ret2
 exact HF.out
set_option maxHeartbeats 1000000 in
theorem valid_nil (w : World) : Calls Tryz.prog 130 #[.string ⟨#[]⟩] w fun e w' => e = .returned (.bool true) ∧ w = w' := by
 go_enter Tryz.func130, Tryz.ntmps130
 go_wp2_with fail
 refine wp_loop_rounds 2 ?_
 rw [rounds_succ]
 go_wp2_with fail
 go_ret
 exact ⟨rfl, rfl⟩
set_option maxHeartbeats 1000000 in
theorem valid_one (c : UInt8) (hc : c.toNat < 128) (w : World) : Calls Tryz.prog 130 #[.string ⟨#[c]⟩] w fun e w' => e = .returned (.bool true) ∧ w = w' := by
 obtain ⟨k, hk⟩ : ∃ k, k = c.toNat := ⟨_, rfl⟩
 have hx : (({ data := #[c] } : ByteArray)[0]'(Nat.zero_lt_one)).toNat = k := hk.symm
 have hs : ({ data := #[c] } : ByteArray).size = 1 := rfl
 have hd : decide (k < 128) = true := decide_eq_true (by omega)
 have hd2 : decide ((k : Int) < 128) = true := decide_eq_true (by omega)
 have hcut : ({ data := #[c] } : ByteArray).extract 1 1 = ⟨#[]⟩ := by rfl
 clear hk hc
 go_enter Tryz.func130, Tryz.ntmps130
 go_wp2_with fail
 refine wp_loop_rounds 3 ?_
 rw [rounds_succ]
 go_wp2_with fail
 rw [rounds_succ]
 go_wp2_with fail
 go_ret
 exact ⟨rfl, rfl⟩
set_option maxHeartbeats 1000000 in
theorem plain_nil (w : World) : Calls Tryz.prog 128 #[.string ⟨#[]⟩] w fun e w' => e = .returned (.bool true) ∧ Below w.heap.size w w' := by
 go_enter Tryz.func128, Tryz.ntmps128
 go_wp2_with fail
 refine (valid_nil _).mono ?_
 rintro e w1 ⟨rfl, rfl⟩
 have hne : (Instr.next (.pointer (some ⟨w.heap.size, 0, none⟩)) true 0).run Tryz.prog (w.iter ⟨#[]⟩ 0) = .ok (.tuple #[.bool false]) (w.iter ⟨#[]⟩ 0) := run_next_end w ⟨#[]⟩ 0 0 (by decide)
 have hb : Hid (Below w.heap.size w (w.iter ⟨#[]⟩ 0)) := (Below.refl _ _).alloc (Nat.le_refl _) _
 go_wp2_with fail
 refine wp_loop_rounds 1 ?_
 rw [rounds_succ]
 go_wp2_with fail
 go_ret
 exact ⟨rfl, hb.out⟩
set_option maxHeartbeats 1000000 in
theorem plain_one (c : UInt8) (hc : c.toNat < 127) (h32 : 32 ≤ c.toNat) (w : World) : Calls Tryz.prog 128 #[.string ⟨#[c]⟩] w fun e w' => e = .returned (.bool true) ∧ Below w.heap.size w w' := by
 have HV := Lib.hid (valid_one c (by omega) w)
 go_enter Tryz.func128, Tryz.ntmps128
 go_wp2_with fail
 refine HV.out.mono ?_
 rintro e w1 ⟨rfl, rfl⟩
 have hb : Hid (Below w.heap.size w (w.iter ⟨#[c]⟩ 1)) := (Below.refl _ _).alloc (Nat.le_refl _) _
 obtain ⟨k, hk⟩ : ∃ k, k = c.toNat := ⟨_, rfl⟩
 have hx : (({ data := #[c] } : ByteArray)[0]'(Nat.zero_lt_one)).toNat = k := hk.symm
 have hnx : (Instr.next (.pointer (some ⟨w.heap.size, 0, none⟩)) true 0).run Tryz.prog (w.iter ⟨#[c]⟩ 0) = .ok (.tuple #[.bool true, .int .i64 0, .int .i32 (k : Int)]) (w.iter ⟨#[c]⟩ 1) := by
  rw [hk]
  exact run_next_ascii w ⟨#[c]⟩ 0 0 (Nat.zero_lt_one) (by show c.toNat < 128; omega)
 have hne : (Instr.next (.pointer (some ⟨w.heap.size, 0, none⟩)) true 0).run Tryz.prog (w.iter ⟨#[c]⟩ 1) = .ok (.tuple #[.bool false]) (w.iter ⟨#[c]⟩ 1) := run_next_end w ⟨#[c]⟩ 1 0 (by show ¬ 1 < 1; omega)
 have hk1 : ¬ (k : Int) < 32 := by omega
 have hk2 : ((k : Int) == 127) = false := by simp; omega
 clear hk HV
 go_wp2_with fail
 refine wp_loop_rounds 2 ?_
 rw [rounds_succ]
 go_wp2_with fail
 rw [rounds_succ]
 go_wp2_with fail
 go_ret
 exact ⟨rfl, hb.out⟩
end Go.Proofs.YtnjhjbmngoeobaaGreatDoor
