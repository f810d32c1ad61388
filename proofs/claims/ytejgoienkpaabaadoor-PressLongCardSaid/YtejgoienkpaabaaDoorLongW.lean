/- PressLong: the walk. (Printed by gen_long.py.) -/
import Derived.Test.YtejgoienkpaabaaDoorMg33
namespace Go.Proofs.YtejgoienkpaabaaDoor
open Go.RowKit
set_option maxRecDepth 100000
def LgRel (w2 : World) (T gB : Nat) (vi : Value) (wr : World) : Prop :=
  ∃ i : Nat, i ≤ 65537 ∧ vi = .int .i64 i ∧ Hid (∃ l : List UInt8, l.length = 65537 ∧ wr.ownsRow T 5 1 (.slice (some ⟨gB, 0, none⟩) 65537 65537) 65537 (U l)) ∧ Hid (w2.grownBy wr (some gB))
def Z8 (n : Nat) : Array Value := madeCells #[.int .u8 0] n
theorem Z8_eq (n : Nat) : Z8 n = (U (List.replicate n 0)).toArray := by
  refine Array.ext' ?_
  rw [List.toList_toArray]
  refine List.ext_getElem? (fun j => ?_)
  rw [U_get, List.getElem?_replicate]
  unfold Z8 madeCells
  by_cases hj : j < n
  · rw [if_pos hj]; simp [hj, Nat.mod_one]
  · rw [if_neg hj]; simp [hj]
theorem Z8_own (w : World) (n : Nat) (hn : n ≤ maxLen) : ∃ l : List UInt8, l.length = n ∧ (w.alloc (.cells (Z8 n) 5)).ownsRow w.heap.size 5 1 (.slice (some ⟨w.heap.size, 0, none⟩) n n) n (U l) := by
  refine ⟨List.replicate n 0, List.length_replicate, full_own (Nat.le_refl _) (by rw [U_length, List.length_replicate]) hn ?_⟩
  rw [← Z8_eq]
  exact Blk.new w 5 (Z8 n)
def ZL : Array Value := Z8 65537
@[go_sem high] theorem makeZL (w : World) : (Instr.makeSlice 22 (.int .i64 65537) (.int .i64 65537)).run Tryd.prog w = .ok (.slice (some ⟨w.heap.size, 0, none⟩) 65537 65537) (w.alloc (.cells ZL 5)) :=
  run_make_row' (P := Tryd.prog) 22 5 (.int .u8 0) 1 rfl info5 rfl .i64 .i64 65537 (by decide) (by decide) w
theorem make_U (w : World) : ∃ l : List UInt8, l.length = 65537 ∧ (w.alloc (.cells ZL 5)).ownsRow w.heap.size 5 1 (.slice (some ⟨w.heap.size, 0, none⟩) 65537 65537) 65537 (U l) := Z8_own w 65537 (by unfold maxLen; omega)
set_option maxHeartbeats 4000000 in
theorem long_any (A : Option Addr) (c : Nat) (b : List UInt8) (max : Int) (w : World) (hs : Sl w A b) (hl : b.length ≤ maxLen) (he : ErrTab w) :
    Calls Tryd.prog 6 #[.agg #[.slice A b.length c, .int .i64 max]] w fun e w' => e = .returned (.bool true) ∧ Below w.heap.size w w' := by
  have HE := Lib.hid he
  have HS := Lib.hid hs
  unfold maxLen at hl
  obtain ⟨i0, hi, hz0, hz1, hz2⟩ := info_parts info5
  obtain ⟨NN, hNN⟩ : ∃ n, n = b.length := ⟨_, rfl⟩
  rw [← hNN] at hl ⊢
  have HNN := Lib.hid hNN
  clear he hs hNN
  by_cases h0 : NN = 0
  · subst h0
    have hwA : Hid (Blk ((w.alloc (.cells #[.slice A 0 c, .int .i64 max] 24)).alloc (.cells #[.int .u8 7] 5)) (w.alloc (.cells #[.slice A 0 c, .int .i64 max] 24)).heap.size 5 #[.int .u8 7]) := Blk.new _ _ _
    have B1 : Hid (Below w.heap.size w ((w.alloc (.cells #[.slice A 0 c, .int .i64 max] 24)).alloc (.cells #[.int .u8 7] 5))) := ((Below.refl _ _).alloc (Nat.le_refl _) _).alloc (by simp) _
    have hsz : (w.alloc (.cells #[.slice A 0 c, .int .i64 max] 24)).heap.size = w.heap.size + 1 := by simp
    rw [hsz] at hwA
    clear hsz
    go_enter Tryd.func6, Tryd.ntmps6
    go_wp2_with fail
    obtain ⟨h, hh⟩ : ∃ h, h = w.heap.size + 1 := ⟨_, rfl⟩
    have hgB0 : h + 1 = ((w.alloc (.cells #[.slice A 0 c, .int .i64 max] 24)).alloc (.cells #[.int .u8 7] 5)).heap.size := by simp [hh]
    rw [← hh] at hwA
    rw [← hh]
    clear hh
    generalize (w.alloc (.cells #[.slice A 0 c, .int .i64 max] 24)).alloc (.cells #[.int .u8 7] 5) = w1 at *
    have hbl : h < w1.heap.size := hwA.out.lt
    have hcs : ∀ j, j < 1 → w1.cell? ⟨h, 0 + j, none⟩ = some (.int .u8 ((([7] : List UInt8).getD j 0).toNat : Int)) := by
      intro j hj
      obtain rfl : j = 0 := by omega
      rw [hwA.out.cell]
      rfl
    have hn0 : 0 < 1 := by omega
    clear hwA
    have HX := Lib.hid (make_U w1)
    have B2 := Lib.hid (B1.out.alloc B1.out.size (.cells ZL 5))
    have hB12 : Below w1.heap.size w1 (w1.alloc (.cells ZL 5)) := (Below.refl _ _).alloc (Nat.le_refl _) _
    rw [hgB0]
    generalize hw2 : w1.alloc (.cells ZL 5) = w2 at *
    clear hw2
    have hcs2 : ∀ j, j < 1 → w2.cell? ⟨h, 0 + j, none⟩ = some (.int .u8 ((([7] : List UInt8).getD j 0).toNat : Int)) := fun j hj => (hB12.cell (p := ⟨h, 0 + j, none⟩) hbl).trans (hcs j hj)
    have HCS := Lib.hid hcs2
    have gbl : w1.heap.size < w2.heap.size := by obtain ⟨l, _, ho⟩ := HX.out; exact (own_lt ho _ rfl).2
    obtain ⟨gB, hgB⟩ : ∃ g, g = w1.heap.size := ⟨_, rfl⟩
    have hgBh : gB ≠ h := by omega
    have hgw : w.heap.size ≤ gB := by have := B1.out.size; omega
    rw [← hgB] at HX ⊢
    clear hcs2 hcs hB12 hgB hgB0
    go_loopw [5] (fun vi wr => LgRel w2 w.heap.size gB vi wr) (fun vi _ => 65537 - (intOf vi).toNat)
    case atStart => exact ⟨0, by omega, rfl, (by
      obtain ⟨l, hl, ho⟩ := HX.out
      exact ⟨l, hl, own_base ho (by have := B1.out.size; omega)⟩), gb_refl _ _⟩
    case round =>
      clear HX
      obtain ⟨i, hi1, rfl, HL, HG⟩ := hrel
      by_cases hlt : i < 65537
      · have hltd : decide ((i : Int) < 65537) = true := decide_eq_true (by omega)
        obtain ⟨l, hl, ho⟩ := HL.out
        obtain ⟨u, hcu, hfu, _⟩ := own_cell ho hlt
        obtain ⟨r, hr⟩ : ∃ r, r = 0 := ⟨_, rfl⟩
        have hrn : r < 1 := by omega
        have hcr : wr.cell? ⟨h, 0, none⟩ = some (.int .u8 ((([7] : List UInt8).getD r 0).toNat : Int)) := by
          rw [← HCS.out r hrn, hr]
          exact World.cell?_of_block (w := w2) (HG.out.block h (by omega) (fun e => hgBh (Option.some.inj e).symm))
        have HO := Lib.hid (own_set ho (i := i) (.int .u8 ((([7] : List UInt8).getD r 0).toNat : Int)))
        rw [U_set] at HO
        have HGS := Lib.hid (gb_set (p := ⟨gB, i, none⟩) HG.out (.inl rfl) (.int .u8 ((([7] : List UInt8).getD r 0).toNat : Int)))
        have hls : (l.set i (([7] : List UInt8).getD r 0)).length = 65537 := by rw [List.length_set]; exact hl
        have HLS := Lib.hid hls
        generalize ((([7] : List UInt8).getD r 0).toNat : Int) = xx at *
        generalize l.set i (([7] : List UInt8).getD r 0) = l2 at *
        clear hrn hr
        clear ho hls hl
        go_wp2_with fail
        go_roundw
        case rel => exact ⟨i + 1, by omega, by go_num, ⟨l2, HLS.out, HO.out⟩, HGS.out⟩
        case measure => simp [intOf]; omega
      · have hltd : decide ((i : Int) < 65537) = false := decide_eq_false (by omega)
        obtain ⟨w3, rfl⟩ : ∃ z : World, z = wr := ⟨_, rfl⟩
        have hx := HL.out
        obtain ⟨l, hl, ho⟩ := hx
        have hl2 : (l.take 65536).length = 65536 := by rw [List.length_take]; omega
        have HO3 := Lib.hid ho
        have HE3 : Hid (ErrTab w3) := HE.out.below (B2.out.trans (below_of_gb_some HG.out hgw B2.out.size))
        have B3 : Hid (Below w.heap.size w w3) := B2.out.trans (below_of_gb_some HG.out hgw B2.out.size)
        have HP1 := Lib.hid (press_big (some ⟨gB, 0, none⟩) 65537 65537 l w3 hl (Sl.of_own ho) (by unfold Lim; omega) (by omega))
        have HLN := Lib.hid hl
        have HLN2 := Lib.hid hl2
        clear ho hl hl2 HL HG HCS
        go_wp2_with fail
        refine HP1.out.mono ?_
        rintro e w4 ⟨rfl, hb⟩
        have B4 := Lib.hid (B3.out.trans (hb.mono B3.out.size))
        have HO4 := Lib.hid (own_below HO3.out hb)
        have HE4 := Lib.hid (HE.out.below B4.out)
        have HP2 := Lib.hid (press_own (some ⟨gB, 0, none⟩) 65536 65537 (l.take 65536) w4 HLN2.out ((Sl.of_own HO4.out).take 65536) (by rw [HLN2.out]; omega))
        clear hb HP1 HO3 HE3
        go_wp2_with fail
        refine HP2.out.mono ?_
        rintro e w5 ⟨A5, c5, rfl, ho5, hb, hgood⟩
        have B5 := Lib.hid (B4.out.trans (hb.mono B4.out.size))
        have HO5 := Lib.hid (own_below HO4.out hb)
        have HE5 := Lib.hid (HE.out.below B5.out)
        have hback := hgood.back 65536 (by rw [HLN2.out]; omega)
        have hpl := hgood.len
        rw [HLN2.out] at hpl
        have HU := Lib.hid (unp_own A5 (pressP (l.take 65536)).length c5 (pressP (l.take 65536)) 65536 w5 rfl (Sl.of_own ho5) (own_cap ho5) (by unfold Lim; omega) HE5.out (by omega))
        rw [hback] at HU
        simp only at HU
        generalize pressP (l.take 65536) = P at *
        clear hb hgood hback ho5 HP2 HO4
        go_wp2_with fail
        refine HU.out.mono ?_
        rintro e w6 ⟨A6, c6, rfl, ho6, hb⟩
        have hlt6 : (l.take 65536).length = 65536 := HLN2.out
        rw [hlt6] at ho6 ⊢
        have B6 := Lib.hid (B5.out.trans (hb.mono B5.out.size))
        have HO6 := Lib.hid (own_below HO5.out hb)
        have HQ := Lib.hid (eq_same A6 (some ⟨gB, 0, none⟩) 65536 65536 c6 65537 (l.take 65536) w6 hlt6 hlt6 (Sl.of_own ho6) ((Sl.of_own HO6.out).take 65536) (by unfold Lim; omega))
        clear hb ho6 HU HO5 hlt6
        go_wp2_with fail
        refine (num_any .i64 81 w6).mono ?_
        rintro e w6' ⟨rfl, rfl⟩
        go_wp2_with fail
        refine (num_any .i64 0 w6').mono ?_
        rintro e w6'' ⟨rfl, rfl⟩
        go_wp2_with fail
        refine (num_any .i64 0 w6'').mono ?_
        rintro e w7 ⟨rfl, rfl⟩
        go_wp2_with fail
        refine HQ.out.mono ?_
        rintro e w8 ⟨rfl, hb⟩
        have B8 := Lib.hid (B6.out.trans (hb.mono B6.out.size))
        clear hb
        go_wp2_with fail
        go_ret
        exact ⟨rfl, B8.out⟩
  · have hn0 : 0 < NN := by omega
    have h0d : decide ((NN : Int) = 0) = false := decide_eq_false (by omega)
    obtain ⟨h, o, hA, hh, hc⟩ : ∃ h o, A = some ⟨h, o, none⟩ ∧ h < w.heap.size ∧ ∀ j, j < b.length → w.cell? ⟨h, o + j, none⟩ = some (.int .u8 ((b.getD j 0).toNat : Int)) := by
      rcases HS.out with h1 | h1
      · have := HNN.out; rw [h1] at this; simp at this; omega
      · exact h1
    subst hA
    have HC := Lib.hid hc
    have B1 : Hid (Below w.heap.size w (w.alloc (.cells #[.slice (some ⟨h, o, none⟩) NN c, .int .i64 max] 24))) := (Below.refl _ _).alloc (Nat.le_refl _) _
    clear hc
    go_enter Tryd.func6, Tryd.ntmps6
    go_wp2_with fail
    have hgB0 : w.heap.size + 1 = (w.alloc (.cells #[.slice (some ⟨h, o, none⟩) NN c, .int .i64 max] 24)).heap.size := by simp
    generalize w.alloc (.cells #[.slice (some ⟨h, o, none⟩) NN c, .int .i64 max] 24) = w1 at *
    have hbl : h < w1.heap.size := by have := B1.out.size; omega
    have hcs : ∀ j, j < NN → w1.cell? ⟨h, o + j, none⟩ = some (.int .u8 ((b.getD j 0).toNat : Int)) := fun j hj => (B1.out.cell (p := ⟨h, o + j, none⟩) hh).trans (HC.out j (by rw [← HNN.out]; exact hj))
    clear HC
    have HX := Lib.hid (make_U w1)
    have B2 := Lib.hid (B1.out.alloc B1.out.size (.cells ZL 5))
    have hB12 : Below w1.heap.size w1 (w1.alloc (.cells ZL 5)) := (Below.refl _ _).alloc (Nat.le_refl _) _
    rw [hgB0]
    generalize hw2 : w1.alloc (.cells ZL 5) = w2 at *
    clear hw2
    have hcs2 : ∀ j, j < NN → w2.cell? ⟨h, o + j, none⟩ = some (.int .u8 ((b.getD j 0).toNat : Int)) := fun j hj => (hB12.cell (p := ⟨h, o + j, none⟩) hbl).trans (hcs j hj)
    have HCS := Lib.hid hcs2
    have gbl : w1.heap.size < w2.heap.size := by obtain ⟨l, _, ho⟩ := HX.out; exact (own_lt ho _ rfl).2
    obtain ⟨gB, hgB⟩ : ∃ g, g = w1.heap.size := ⟨_, rfl⟩
    have hgBh : gB ≠ h := by omega
    have hgw : w.heap.size ≤ gB := by have := B1.out.size; omega
    rw [← hgB] at HX ⊢
    clear hcs2 hcs hB12 hgB hgB0
    go_loopw [5] (fun vi wr => LgRel w2 w.heap.size gB vi wr) (fun vi _ => 65537 - (intOf vi).toNat)
    case atStart => exact ⟨0, by omega, rfl, (by
      obtain ⟨l, hl, ho⟩ := HX.out
      exact ⟨l, hl, own_base ho (by have := B1.out.size; omega)⟩), gb_refl _ _⟩
    case round =>
      clear HX
      obtain ⟨i, hi1, rfl, HL, HG⟩ := hrel
      by_cases hlt : i < 65537
      · have hltd : decide ((i : Int) < 65537) = true := decide_eq_true (by omega)
        obtain ⟨l, hl, ho⟩ := HL.out
        obtain ⟨u, hcu, hfu, _⟩ := own_cell ho hlt
        obtain ⟨r, hr⟩ : ∃ r, r = i % NN := ⟨_, rfl⟩
        have hrn : r < NN := by rw [hr]; exact Nat.mod_lt _ hn0
        have er : (i : Int).tmod (NN : Int) = (r : Int) := by rw [Int.tmod_eq_emod_of_nonneg (by omega), hr]; rfl
        have hcr : wr.cell? ⟨h, o + r, none⟩ = some (.int .u8 ((b.getD r 0).toNat : Int)) := by
          rw [← HCS.out r hrn]
          exact World.cell?_of_block (w := w2) (HG.out.block h (by omega) (fun e => hgBh (Option.some.inj e).symm))
        have HO := Lib.hid (own_set ho (i := i) (.int .u8 ((b.getD r 0).toNat : Int)))
        rw [U_set] at HO
        have HGS := Lib.hid (gb_set (p := ⟨gB, i, none⟩) HG.out (.inl rfl) (.int .u8 ((b.getD r 0).toNat : Int)))
        have hls : (l.set i (b.getD r 0)).length = 65537 := by rw [List.length_set]; exact hl
        have HLS := Lib.hid hls
        generalize ((b.getD r 0).toNat : Int) = xx at *
        generalize l.set i (b.getD r 0) = l2 at *
        have hNN0 : (NN : Int) ≠ 0 := by omega
        clear hr
        clear ho hls hl
        go_wp2_with fail
        go_roundw
        case rel => exact ⟨i + 1, by omega, by go_num, ⟨l2, HLS.out, HO.out⟩, HGS.out⟩
        case measure => simp [intOf]; omega
      · have hltd : decide ((i : Int) < 65537) = false := decide_eq_false (by omega)
        obtain ⟨w3, rfl⟩ : ∃ z : World, z = wr := ⟨_, rfl⟩
        have hx := HL.out
        obtain ⟨l, hl, ho⟩ := hx
        have hl2 : (l.take 65536).length = 65536 := by rw [List.length_take]; omega
        have HO3 := Lib.hid ho
        have HE3 : Hid (ErrTab w3) := HE.out.below (B2.out.trans (below_of_gb_some HG.out hgw B2.out.size))
        have B3 : Hid (Below w.heap.size w w3) := B2.out.trans (below_of_gb_some HG.out hgw B2.out.size)
        have HP1 := Lib.hid (press_big (some ⟨gB, 0, none⟩) 65537 65537 l w3 hl (Sl.of_own ho) (by unfold Lim; omega) (by omega))
        have HLN := Lib.hid hl
        have HLN2 := Lib.hid hl2
        clear ho hl hl2 HL HG HCS
        go_wp2_with fail
        refine HP1.out.mono ?_
        rintro e w4 ⟨rfl, hb⟩
        have B4 := Lib.hid (B3.out.trans (hb.mono B3.out.size))
        have HO4 := Lib.hid (own_below HO3.out hb)
        have HE4 := Lib.hid (HE.out.below B4.out)
        have HP2 := Lib.hid (press_own (some ⟨gB, 0, none⟩) 65536 65537 (l.take 65536) w4 HLN2.out ((Sl.of_own HO4.out).take 65536) (by rw [HLN2.out]; omega))
        clear hb HP1 HO3 HE3
        go_wp2_with fail
        refine HP2.out.mono ?_
        rintro e w5 ⟨A5, c5, rfl, ho5, hb, hgood⟩
        have B5 := Lib.hid (B4.out.trans (hb.mono B4.out.size))
        have HO5 := Lib.hid (own_below HO4.out hb)
        have HE5 := Lib.hid (HE.out.below B5.out)
        have hback := hgood.back 65536 (by rw [HLN2.out]; omega)
        have hpl := hgood.len
        rw [HLN2.out] at hpl
        have HU := Lib.hid (unp_own A5 (pressP (l.take 65536)).length c5 (pressP (l.take 65536)) 65536 w5 rfl (Sl.of_own ho5) (own_cap ho5) (by unfold Lim; omega) HE5.out (by omega))
        rw [hback] at HU
        simp only at HU
        generalize pressP (l.take 65536) = P at *
        clear hb hgood hback ho5 HP2 HO4
        go_wp2_with fail
        refine HU.out.mono ?_
        rintro e w6 ⟨A6, c6, rfl, ho6, hb⟩
        have hlt6 : (l.take 65536).length = 65536 := HLN2.out
        rw [hlt6] at ho6 ⊢
        have B6 := Lib.hid (B5.out.trans (hb.mono B5.out.size))
        have HO6 := Lib.hid (own_below HO5.out hb)
        have HQ := Lib.hid (eq_same A6 (some ⟨gB, 0, none⟩) 65536 65536 c6 65537 (l.take 65536) w6 hlt6 hlt6 (Sl.of_own ho6) ((Sl.of_own HO6.out).take 65536) (by unfold Lim; omega))
        clear hb ho6 HU HO5 hlt6
        go_wp2_with fail
        refine (num_any .i64 81 w6).mono ?_
        rintro e w6' ⟨rfl, rfl⟩
        go_wp2_with fail
        refine (num_any .i64 0 w6').mono ?_
        rintro e w6'' ⟨rfl, rfl⟩
        go_wp2_with fail
        refine (num_any .i64 0 w6'').mono ?_
        rintro e w7 ⟨rfl, rfl⟩
        go_wp2_with fail
        refine HQ.out.mono ?_
        rintro e w8 ⟨rfl, hb⟩
        have B8 := Lib.hid (B6.out.trans (hb.mono B6.out.size))
        clear hb
        go_wp2_with fail
        go_ret
        exact ⟨rfl, B8.out⟩
end Go.Proofs.YtejgoienkpaabaaDoor
