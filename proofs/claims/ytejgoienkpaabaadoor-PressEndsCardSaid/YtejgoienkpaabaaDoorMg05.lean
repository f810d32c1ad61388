/- Coded1 (merged: one text behind the other). -/
import Derived.Test.YtejgoienkpaabaaDoorMg03
import Derived.StillTailTactics
import Derived.Laws.EntriesVeiled
import Derived.Deep.LoopGhost
import Derived.Test.YtejgoienkpaabaaDoorMg04
/- The contract of lengths.at, and the reading of the code lengths. -/
namespace Go.Proofs.YtejgoienkpaabaaDoor
open Go.RowKit
set_option maxRecDepth 100000
theorem ret_ptr {g a b : Nat} (h : a = b) : Ending.returned (.pointer (some ⟨g, a, none⟩)) = .returned (.pointer (some ⟨g, b, none⟩)) := by rw [h]
theorem at_len (gl i : Nat) (w : World) (hi : i < 295) :
    Calls Tryd.prog 43 #[.pointer (some ⟨gl, 0, none⟩), .int .i64 i] w fun e w' => e = .returned (.pointer (some ⟨gl, i, none⟩)) ∧ w' = w := by
  by_cases h : i < 277
  · go_enter Tryd.func43, Tryd.ntmps43
    go_wp2
    go_ret
    exact ⟨rfl, rfl⟩
  · obtain ⟨j, rfl⟩ : ∃ j, i = 277 + j := ⟨i - 277, by omega⟩
    go_enter Tryd.func43, Tryd.ntmps43
    go_wp2
    go_ret
    exact ⟨ret_ptr (by omega), rfl⟩

/-- the lengths' cells, of the first k numbers -/
def lenCells (f : Nat → Nat) (k : Nat) : Array Value := ((List.range 295).map fun j => Value.int .i64 ((if j < k then f j else 0 : Nat) : Int)).toArray
theorem lenCells_size (f : Nat → Nat) (k : Nat) : (lenCells f k).size = 295 := by simp [lenCells]
theorem lenCells_get (f : Nat → Nat) (k j : Nat) (hj : j < 295) : (lenCells f k)[j]? = some (.int .i64 ((if j < k then f j else 0 : Nat) : Int)) := by
  simp [lenCells, hj]
theorem lenCells_set (f : Nat → Nat) (k : Nat) (hk : k < 295) : (lenCells f k).setIfInBounds k (.int .i64 (f k : Int)) = lenCells f (k + 1) := by
  apply Array.ext_getElem?
  intro i
  rw [Array.getElem?_setIfInBounds]
  by_cases h : k = i
  · subst h
    rw [if_pos rfl, if_pos (by rw [lenCells_size]; exact hk), lenCells_get _ _ _ hk]
    simp
  · rw [if_neg h]
    by_cases hi : i < 295
    · rw [lenCells_get _ _ _ hi, lenCells_get _ _ _ hi]
      have e : (i < k) = (i < k + 1) := by rw [eq_iff_iff]; omega
      simp only [e]
    · rw [Array.getElem?_eq_none (by rw [lenCells_size]; omega), Array.getElem?_eq_none (by rw [lenCells_size]; omega)]
def LenRel (w : World) (h o cap : Nat) (b : List UInt8) (vi : Value) (wr : World) : Prop :=
  ∃ i : Nat, i ≤ 295 ∧ vi = .int .i64 i ∧ Hid (Blk wr w.heap.size 22 #[.slice (some ⟨h, o, none⟩) b.length cap]) ∧ Hid (Blk wr (w.heap.size + 1) 85 (lenCells (lenAt b) i)) ∧ Hid (Below w.heap.size w wr)
theorem and15 (x : Nat) (hx : x < 256) : IntKind.i64.wrap (bits .and .u8 (x : Int) 15) = ((x % 16 : Nat) : Int) := by
  have h := and_u8 x 15 (by omega) (by omega)
  rw [show ((15 : Nat) : Int) = 15 from rfl] at h
  rw [h, Nat.and_two_pow_sub_one_eq_mod x 4, IntKind.wrap_i64]
  omega
theorem bind_n (b off cap n : Nat) (row : List Nat) (nn : Bool) (w : World) (hn : row.length = n) (hr : Row w w.heap.size b off row) (hl : n ≤ 1000) :
    Calls Tryd.prog 44 #[.slice (some ⟨b, off, none⟩) n cap, .bool nn] w fun e w' => BindPost w row nn e w' := by
  subst hn
  exact bind_any b off cap row nn w hr hl
theorem row_sym {w : World} {g : Nat} {b : List UInt8} (h : Blk w g 85 (lenCells (lenAt b) 295)) : Row w w.heap.size g 0 (symRow b) :=
  ⟨h.lt, fun j hj => by
    have hj : j < 277 := by simpa [symRow] using hj
    rw [h.cell, Nat.zero_add, lenCells_get _ _ _ (by omega), if_pos (by omega)]
    simp [symRow, hj]⟩
theorem row_dist {w : World} {g : Nat} {b : List UInt8} (h : Blk w g 85 (lenCells (lenAt b) 295)) : Row w w.heap.size g 277 (distRow b) :=
  ⟨h.lt, fun j hj => by
    have hj : j < 18 := by simpa [distRow] using hj
    rw [h.cell, lenCells_get _ _ _ (by omega), if_pos (by omega)]
    simp [distRow, hj]⟩
/-- a book that bind has made is readable -/
theorem Bst.book {w wr : World} {g : Nat} {row : List Nat} {v : Value} (h : Bst w wr g (bOut row 15) v) (hl : row.length ≤ 1000) (B : Nat) (hB : wr.heap.size ≤ B) : BookR wr B g (bOut row 15).C (bOut row 15).ln := by
  obtain ⟨A, c, hv⟩ := own_shape h.own
  subst hv
  refine ⟨Nat.lt_of_lt_of_le h.blk.lt hB, fun j hj => h.cell j hj, ⟨A, c, h.line, fun hp => ?_⟩, fun k hk => bOut_sum_le row k hk, by have := (bOut_le row 15).2.1; have : 15 * row.length ≤ 15 * 1000 := Nat.mul_le_mul_left _ hl; omega, ⟨_, h.blk⟩⟩
  obtain ⟨lb, cap, hv, _, hlt⟩ := h.own.form hp
  have hown := h.own
  injection hv with hv1 hv2 hv3
  subst hv1 hv3
  refine ⟨lb, rfl, by omega, ?_, fun i hi => ?_⟩
  · rcases hown.2 with ⟨h1, _⟩ | ⟨g', cap', cur, hv', _, hh, _⟩
    · cases h1
    · injection hv' with hv1 _ _
      injection hv1 with hv1
      injection hv1 with hv1
      subst hv1
      exact ⟨cur, hh⟩
  rw [h.own.cellAt i (by omega), I_get, List.getElem?_eq_getElem hi, List.getD_eq_getElem?_getD, List.getElem?_eq_getElem hi]
  rfl
theorem BookR.more {w : World} {B B' g : Nat} {C : Nat → Nat} {ln : List Nat} (h : BookR w B g C ln) (hB : B ≤ B') : BookR w B' g C ln := by
  obtain ⟨A, c, h1, h2⟩ := h.line
  refine ⟨Nat.lt_of_lt_of_le h.hg hB, h.cnt, ⟨A, c, h1, fun hp => ?_⟩, h.sum, h.len, h.bt⟩
  obtain ⟨lb, e, hl, x⟩ := h2 hp
  exact ⟨lb, e, by omega, x⟩
/-- what stands where the telling begins -/
structure Start (w W0 : World) (gs gd ga gb gf h o cap : Nat) (S D : BS) (bs : List UInt8) : Prop where
  bits : Bits W0 ga gb h o cap bs 0
  func : Blk W0 gf 91 #[.func (.func 45) #[] #[.pointer (some ⟨ga, 0, none⟩), .pointer (some ⟨gb, 0, none⟩)]]
  sym : BookR W0 ga gs S.C S.ln
  dist : BookR W0 ga gd D.C D.ln
  below : Below w.heap.size w W0
  size : W0.heap.size = gf + 1
theorem start_of {w w2 : World} {gs gd B1 h o cap : Nat} {S D : BS} {b : List UInt8} (hh : h < w.heap.size) (hc : ∀ j, j < b.length → w.cell? ⟨h, o + j, none⟩ = some (.int .u8 ((b.getD j 0).toNat : Int)))
    (hl2 : b.length ≤ Lim) (hb : Blk w2 w.heap.size 22 #[.slice (some ⟨h, o, none⟩) b.length cap]) (hw : Below w.heap.size w w2) (h1 : BookR w2 B1 gs S.C S.ln) (hB : B1 ≤ w2.heap.size) (h2 : BookR w2 w2.heap.size gd D.C D.ln) (k o' cap' n : Nat)
    (ho : 0 < b.length - k → o' = o + k) (hk : k ≤ b.length) (hn : n = b.length - k) :
    Start w (((w2.setCell ⟨w.heap.size, 0, none⟩ (.slice (some ⟨h, o', none⟩) n cap')).alloc (.cells #[.int .i64 0] 3)).alloc
      (.cells #[.func (.func 45) #[] #[.pointer (some ⟨w2.heap.size, 0, none⟩), .pointer (some ⟨w.heap.size, 0, none⟩)]] 91)) gs gd w2.heap.size w.heap.size (w2.heap.size + 1) h o' cap' S D (b.drop k) := by
  subst hn
  have hlt := hb.lt
  have hs : (w2.setCell ⟨w.heap.size, 0, none⟩ (.slice (some ⟨h, o', none⟩) (b.length - k) cap')).heap.size = w2.heap.size := by simp [World.setCell]
  have hg : w2.grownBy (w2.setCell ⟨w.heap.size, 0, none⟩ (.slice (some ⟨h, o', none⟩) (b.length - k) cap')) (some w.heap.size) := gb_set (p := ⟨w.heap.size, 0, none⟩) (gb_refl _ _) (.inl rfl) _
  have hb1 := hb.set_ 0 (.slice (some ⟨h, o', none⟩) (b.length - k) cap')
  have hw1 : Below w.heap.size w (w2.setCell ⟨w.heap.size, 0, none⟩ (.slice (some ⟨h, o', none⟩) (b.length - k) cap')) := hw.setCell (p := ⟨w.heap.size, 0, none⟩) (Nat.le_refl _) _
  have hk1 := h1.keep2 hb (by decide) (by decide) hg
  have hk2 := h2.keep2 hb (by decide) (by decide) hg
  generalize w2.setCell ⟨w.heap.size, 0, none⟩ (.slice (some ⟨h, o', none⟩) (b.length - k) cap') = W at *
  have ha := Blk.new W 3 #[.int .i64 0]
  have hf := Blk.new (W.alloc (.cells #[.int .i64 0] 3)) 91 #[.func (.func 45) #[] #[.pointer (some ⟨w2.heap.size, 0, none⟩), .pointer (some ⟨w.heap.size, 0, none⟩)]]
  have hbel : Below w2.heap.size W ((W.alloc (.cells #[.int .i64 0] 3)).alloc (.cells #[.func (.func 45) #[] #[.pointer (some ⟨w2.heap.size, 0, none⟩), .pointer (some ⟨w.heap.size, 0, none⟩)]] 91)) :=
    ((Below.refl _ _).alloc (by omega) _).alloc (by simp; omega) _
  have hw3 := hw1.trans (hbel.mono (by omega))
  rw [hs] at ha
  have hsz2 : (W.alloc (.cells #[.int .i64 0] 3)).heap.size = w2.heap.size + 1 := by simp [hs]
  rw [hsz2] at hf
  refine ⟨⟨ha.alloc _, ?_, hlt, by omega, fun j hj => ?_, ?_, Nat.zero_le _⟩, hf, (hk1.keep (hbel.mono hB)).more hB, hk2.keep hbel, hw3, by simp [hs]⟩
  · have h3 := (hb1.alloc (.cells #[.int .i64 0] 3)).alloc (.cells #[.func (.func 45) #[] #[.pointer (some ⟨w2.heap.size, 0, none⟩), .pointer (some ⟨w.heap.size, 0, none⟩)]] 91)
    simpa using h3
  · rw [List.length_drop] at hj
    have e := hc (k + j) (by omega)
    rw [ho (by omega)]
    refine (hw3.cell (p := ⟨h, o + k + j, none⟩) hh).trans ?_
    rw [Nat.add_assoc, e]
    simp [List.getD_eq_getElem?_getD, List.getElem?_drop]
  · rw [List.length_drop]; have := Lim_le hl2; show _ ≤ 1099511627776; omega
theorem Start.grown {w W0 w3 : World} {gs gd ga gb gf h o cap : Nat} {S D : BS} {bs : List UInt8} (s : Start w W0 gs gd ga gb gf h o cap S D bs) (hg : W0.grownBy w3 none) (hga : ga < gf) :
    Bits w3 ga gb h o cap bs 0 ∧ Blk w3 gf 91 #[.func (.func 45) #[] #[.pointer (some ⟨ga, 0, none⟩), .pointer (some ⟨gb, 0, none⟩)]] ∧ BookR w3 ga gs S.C S.ln ∧ BookR w3 ga gd D.C D.ln ∧ Below w.heap.size w w3 ∧ gf + 1 ≤ w3.heap.size := by
  have hb : Below W0.heap.size W0 w3 := below_of_gb hg
  have hs := s.size
  have hsw := s.below.size
  exact ⟨s.bits.gb hg (by intro k hk; cases hk), s.func.gb hg (by simp), s.sym.keep (hb.mono (by omega)), s.dist.keep (hb.mono (by omega)), s.below.trans (hb.mono hsw), by have := hb.size; omega⟩
def ToldRel (w3 : World) (ga gb h o cap base : Nat) (bs : List UInt8) (S D : BS) (n f : Nat) (v : Value) (wr : World) : Prop :=
  ∃ (L c p : Nat) (A : Option Addr) (out : List UInt8), Hid (L = out.length) ∧ n < L + f ∧ L ≤ n ∧ v = .slice A L c ∧ Hid (wr.ownsRow base 5 1 (.slice A L c) L (U out)) ∧ Hid (Bits wr ga gb h o cap bs p) ∧ Hid (Fr ga base w3 wr) ∧
    Hid (decP S D bs n (n + 1) [] 0 = decP S D bs n f out p)
theorem own_base {w : World} {base base' : Nat} {e : TypeId} {size : Nat} {v : Value} {n : Nat} {xs : List Value} (h : w.ownsRow base e size v n xs) (hb : base' ≤ base) : w.ownsRow base' e size v n xs := by
  refine ⟨h.1, ?_⟩
  rcases h.2 with h2 | ⟨g, cap, cur, hv, hg, r⟩
  · exact .inl h2
  · exact .inr ⟨g, cap, cur, hv, by omega, r⟩
theorem below_drewN' {B : Nat} {a w : World} (h : Below B a w) (n : Nat) : Below B a (w.drewN n) := ⟨h.os, h.tape, h.output, h.size, h.block⟩
def PadRel (w3 : World) (ga gb h o cap base : Nat) (bs : List UInt8) (v : Value) (out : List UInt8) (L p f : Nat) (wr : World) : Prop :=
  ∃ p', ((p' % 8 = 0 ∧ 1 ≤ f) ∨ 9 ≤ f + p' % 8) ∧ Hid (wr.ownsRow base 5 1 v L (U out)) ∧ Hid (Bits wr ga gb h o cap bs p') ∧ Hid (Fr ga base w3 wr) ∧ Hid (padP bs 8 p = padP bs f p')
def CodedPost (w : World) (b : List UInt8) (n : Nat) (e : Ending) (w' : World) : Prop :=
  Below w.heap.size w w' ∧
  ((∃ out A c, codedP b n = some out ∧ e = .returned (.tuple #[.slice A out.length c, .bool true]) ∧ w'.ownsRow w.heap.size 5 1 (.slice A out.length c) out.length (U out)) ∨
   (codedP b n = none ∧ ∃ v, e = .returned (.tuple #[v, .bool false])))
theorem and15b (x : Nat) (hx : x < 256) : (bits .and .u8 (x : Int) 15 != 0) = decide (x % 16 ≠ 0) := by
  have h := and_u8 x 15 (by omega) (by omega)
  rw [show ((15 : Nat) : Int) = 15 from rfl] at h
  rw [h, Nat.and_two_pow_sub_one_eq_mod x 4, Bool.eq_iff_iff]
  simp
  omega
set_option maxHeartbeats 1000000 in
theorem coded_any (h o cap n : Nat) (b : List UInt8) (w : World) (hh : h < w.heap.size) (hc : ∀ j, j < b.length → w.cell? ⟨h, o + j, none⟩ = some (.int .u8 ((b.getD j 0).toNat : Int)))
    (hl : 148 ≤ b.length) (hbc : b.length ≤ cap) (hl2 : b.length ≤ Lim) (hn0 : 0 < n) (hn : n ≤ 65536) :
    Calls Tryd.prog 26 #[.slice (some ⟨h, o, none⟩) b.length cap, .int .i64 n] w fun e w' => CodedPost w b n e w' := by
  have HC := Lib.hid hc
  have hl3 := Lim_le hl2
  clear hc
  obtain ⟨i0, hi0, hz0, hz1, hz2⟩ := info_parts info5
  go_enter Tryd.func26, Tryd.ntmps26
  go_wp2_with fail
  go_step3
  go_wp2_with fail
  have hz1 : Blk ((w.alloc (.cells #[.slice (some ⟨h, o, none⟩) b.length cap] 22)).alloc (.cells (lenCells (lenAt b) 0) 85)) w.heap.size 22 #[.slice (some ⟨h, o, none⟩) b.length cap] := (Blk.new w 22 _).alloc _
  have hz2 : Blk ((w.alloc (.cells #[.slice (some ⟨h, o, none⟩) b.length cap] 22)).alloc (.cells (lenCells (lenAt b) 0) 85)) (w.heap.size + 1) 85 (lenCells (lenAt b) 0) := by
    have := Blk.new (w.alloc (.cells #[.slice (some ⟨h, o, none⟩) b.length cap] 22)) 85 (lenCells (lenAt b) 0)
    simpa using this
  have hz3 : Below w.heap.size w ((w.alloc (.cells #[.slice (some ⟨h, o, none⟩) b.length cap] 22)).alloc (.cells (lenCells (lenAt b) 0) 85)) := ((Below.refl _ _).alloc (Nat.le_refl _) _).alloc (by simp) _
  have hz0 : LenRel w h o cap b (.int .i64 0) ((w.alloc (.cells #[.slice (some ⟨h, o, none⟩) b.length cap] 22)).alloc (.cells (lenCells (lenAt b) 0) 85)) := ⟨0, by omega, rfl, hz1, hz2, hz3⟩
  have HZ0 := Lib.hid hz0
  clear hz0 hz1 hz2 hz3
  go_loopw [20] (fun vi wr => LenRel w h o cap b vi wr) (fun vi _ => 295 - (intOf vi).toNat)
  case atStart => exact HZ0
  case round =>
    obtain ⟨i, hi, rfl, hb1, hb2, hb3⟩ := hrel
    by_cases hlt : i < 295
    · have hc1 := hb1.out.cell 0
      have hc2 := hb2.out.cell i
      have hf2 := hb2.out.frozen i
      rw [lenCells_get _ _ _ hlt, if_neg (by omega)] at hc2
      simp at hc1
      obtain ⟨q, hq⟩ : ∃ q, q = i / 2 := ⟨_, rfl⟩
      obtain ⟨r, hr⟩ : ∃ r, r = i % 2 := ⟨_, rfl⟩
      obtain ⟨s, hs⟩ : ∃ s, s = 4 - 4 * r := ⟨_, rfl⟩
      obtain ⟨x, hx⟩ : ∃ x, x = (b.getD q 0).toNat := ⟨_, rfl⟩
      have hx2 : x < 256 := by rw [hx]; exact (b.getD q 0).toNat_lt
      have hc3 : wr.cell? ⟨h, o + q, none⟩ = some (.int .u8 (x : Int)) := by rw [hx]; exact (hb3.out.cell (p := ⟨h, o + q, none⟩) hh).trans (HC.out q (by omega))
      have hv : Hid (lenAt b i = x / 2 ^ s % 16) := by
        show _ = _
        rw [hx, hs, hr, hq, lenAt]
        rcases Nat.mod_two_eq_zero_or_one i with h0 | h0 <;> simp [h0]
      have hr2 : r < 2 := by omega
      have e1 : (i : Int) / 2 = (q : Int) := by omega
      have e2 : (i : Int) % 2 = (r : Int) := by omega
      have e3 : (i : Int).tdiv 2 = (q : Int) := by rw [Int.tdiv_eq_ediv_of_nonneg (by omega)]; exact e1
      have e4 : (i : Int).tmod 2 = (r : Int) := by rw [Int.tmod_eq_emod_of_nonneg (by omega)]; exact e2
      have e10 : IntKind.i64.wrap (q : Int) = (q : Int) := wraps_i64 _ (by omega) (by omega)
      have e11 : IntKind.i64.wrap (r : Int) = (r : Int) := wraps_i64 _ (by omega) (by omega)
      have e5 : IntKind.i64.wrap (4 * (r : Int)) = 4 * (r : Int) := wraps_i64 _ (by omega) (by omega)
      have e6 : IntKind.i64.wrap (4 - 4 * (r : Int)) = (s : Int) := by rw [wraps_i64 _ (by omega) (by omega)]; omega
      have e7 : (4 - 4 * (r : Int)) = (s : Int) := by omega
      have hs8 : s < 8 := by omega
      have e12 : IntKind.i64.wrap (s : Int) = (s : Int) := wraps_i64 _ (by omega) (by omega)
      have hq2 : (q : Int) < b.length := by omega
      have hxs : x / 2 ^ s < 256 := Nat.lt_of_le_of_lt (Nat.div_le_self _ _) hx2
      have e8 : (x : Int) / 2 ^ s = ((x / 2 ^ s : Nat) : Int) := by simp
      have e9 := and15 (x / 2 ^ s) hxs
      rw [← hv.out, ← e8] at e9
      have E9 := Lib.hid e9
      clear hx hq hr hs e8 e9 hxs
      go_wp2_with fail
      refine wp_region_still_tail 15 (by kernel_rfl) (by kernel_rfl) ?_
      simp only [List.take_succ_cons, List.take_zero, List.drop_succ_cons, List.drop_zero]
      change wpStill _ _ wr.drew _ _ _
      still_step
      still_call (at_len _ i _ hlt)
      repeat still_step
      refine wpStill_nil ?_
      change wpList _ _ _ _ _ wr.drew
      rw [E9.out]
      have hb1' : Hid (Blk wr.drew w.heap.size 22 #[.slice (some ⟨h, o, none⟩) b.length cap]) := hb1.out.drew
      have hb2' : Hid (Blk wr.drew (w.heap.size + 1) 85 (lenCells (lenAt b) i)) := hb2.out.drew
      have hb3' : Hid (Below w.heap.size w wr.drew) := hb3.out.drew
      have hc2' : wr.drew.cell? ⟨w.heap.size + 1, i, none⟩ = some (.int .i64 0) := hc2
      have hf2' : wr.drew.frozen? ⟨w.heap.size + 1, i, none⟩ = false := hf2
      generalize wr.drew = wd at *
      clear hb1 hb2 hb3 hc1 hc2 hf2 hc3 E9 hv
      go_wp2_with fail
      go_roundw
      case rel =>
        refine ⟨i + 1, by omega, by go_num, hb1'.out.far (p := ⟨w.heap.size + 1, i, none⟩) (by simp) _, ?_, hb3'.out.setCell (p := ⟨w.heap.size + 1, i, none⟩) (by simp) _⟩
        have := hb2'.out.set_ i (.int .i64 (lenAt b i : Int))
        rwa [lenCells_set _ _ hlt] at this
      case measure => simp [intOf]; omega
    · obtain rfl : i = 295 := by omega
      have hc1 := hb1.out.cell 0
      simp at hc1
      obtain ⟨x, hx⟩ : ∃ x, x = (b.getD 147 0).toNat := ⟨_, rfl⟩
      have hx2 : x < 256 := by rw [hx]; exact (b.getD 147 0).toNat_lt
      have hc3 : wr.cell? ⟨h, o + 147, none⟩ = some (.int .u8 (x : Int)) := by rw [hx]; exact (hb3.out.cell (p := ⟨h, o + 147, none⟩) hh).trans (HC.out 147 (by omega))
      have hq2 : (147 : Int) < b.length := by omega
      have HX := Lib.hid hx
      clear hx
      by_cases hx16 : x % 16 = 0
      · have hxb : ((x : Int) % 16 != 0) = false := by rw [bne_eq_false_iff_eq]; omega
        have HX16 := Lib.hid hx16
        clear hx16
        go_wp2_with fail
        refine (bind_n (w.heap.size + 1) 0 277 277 (symRow b) false _ (by simp [symRow]) (row_sym hb2.out) (by omega)).mono ?_
        rintro e w1 ⟨v1, rfl, hB1⟩
        have hb21 := Lib.hid ((hb2.out.below hB1.below (hb2.out.lt)))
        have hb11 := Lib.hid ((hb1.out.below hB1.below (hb1.out.lt)))
        have hb31 := Lib.hid (hb3.out.trans (hB1.below.mono hb3.out.size))
        have HB1 := Lib.hid hB1
        clear hB1 hc1 hc3
        go_wp2_with fail
        refine (bind_n (w.heap.size + 1) 277 18 18 (distRow b) true _ (by simp [distRow]) (row_dist hb21.out) (by omega)).mono ?_
        rintro e w2 ⟨v2, rfl, hB2⟩
        have hb22 := Lib.hid ((hb21.out.below hB2.below (hb21.out.lt)))
        have hb12 := Lib.hid ((hb11.out.below hB2.below (hb11.out.lt)))
        have hb32 := Lib.hid (hb31.out.trans (hB2.below.mono hb31.out.size))
        have HK1 := Lib.hid ((HB1.out.book (by simp [symRow]) w1.heap.size (Nat.le_refl _)).keep hB2.below)
        have HK2 := Lib.hid (hB2.book (by simp [distRow]) w2.heap.size (Nat.le_refl _))
        have hs12 := hB2.below.size
        have hs01 := HB1.out.below.size
        have hs0 := hb3.out.size
        clear HB1 hB2 hb1 hb2 hb3 hb11 hb21 hb31 hb22
        cases hk1 : bOk (symRow b) false with
        | false =>
          have HC1 := Lib.hid hk1
          clear hk1
          go_wp2_with fail
          rw [Exit.noGoto_ret]
          go_ret2
          exact ⟨hb32.out, .inr ⟨by rw [codedP, if_pos (.inr (.inl HC1.out))], _, rfl⟩⟩
        | true =>
          cases hk2 : bOk (distRow b) true with
          | false =>
            have HC2 := Lib.hid hk2
            clear hk1 hk2
            go_wp2_with fail
            rw [Exit.noGoto_ret]
            go_ret2
            exact ⟨hb32.out, .inr ⟨by rw [codedP, if_pos (.inr (.inr HC2.out))], _, rfl⟩⟩
          | true =>
            have HCC : Hid (codedP b n = (decP (bOut (symRow b) 15) (bOut (distRow b) 15) (b.drop 148) n (n + 1) [] 0).bind fun a => if padP (b.drop 148) 8 a.2 then some a.1 else none) := by
              show _ = _
              have h1 := HX.out
              have h2 := HX16.out
              rw [codedP, if_neg]
              rintro (h3 | h3 | h3)
              · rw [← h1] at h3; exact h3 h2
              · rw [hk1] at h3; cases h3
              · rw [hk2] at h3; cases h3
            clear hk1 hk2 HX HX16 hxb
            have hc1 := hb12.out.cell 0
            simp at hc1
            have hf1 := hb12.out.frozen 0
            have hb48 : i0.bytes * n ≤ 281474976710656 := by rw [hz2]; omega
            have hb63 : n ≤ maxLen := by simp only [maxLen]; omega
            by_cases hcap : cap = 148
            · have hst := start_of hh HC.out hl2 hb12.out hb32.out HK1.out hs12 HK2.out 148 o 0 (b.length - 148) (fun h0 => by omega) hl rfl
              have HS := Lib.hid hst
              have hbl0 : (List.drop 148 b).length = 0 := by rw [List.length_drop]; omega
              have HBL0 := Lib.hid hbl0
              have hcp1 : cap ≤ 148 := by omega
              clear hst hbl0
              go_wp2_with (first
                | (at_make
                   refine wpList_make_own _ rfl (.const (.int .i64 0)) (.tmp 66) 22 rfl (w2.heap.size + 2) 5 i0 (.int .u8 0) 1 Tryd.underlying22 hi0 hz0 hz1 .i64 .i64 n n rfl rfl rfl hb48 hb63 (by simp) ?_
                   intro w3 hown3 hg3)
                | fail)
              obtain ⟨hbit, hfn, hsy, hdi, hbl, hsz3⟩ := HS.out.grown hg3 (by omega)
              have hc91 := hfn.cell 0
              simp at hc91
              have HBI := Lib.hid hbit
              have HSY := Lib.hid hsy
              have HBL := Lib.hid hbl
              have hw2 := hb12.out.lt
              clear hbit hfn hsy hdi hbl hown3 HS hg3 HK1 HK2 hb12 hb32 hc1 hf1 hb48 hb63 HZ0 hq2 hs12 hs01 hcap
              generalize bOut (symRow b) 15 = S at *
              generalize bOut (distRow b) 15 = D at *
              generalize List.drop 148 b = bs at *
              go_step3
              go_wp2_with fail
              refine wp_loop_rounds 1 ?_
              rw [rounds_succ]
              go_wp2_with fail
              refine wp_loop_rounds 1 ?_
              rw [rounds_succ]
              go_wp2_with fail
              refine (next_any _ _ _ _ _ _ _ S.C S.ln bs 0 _ HSY.out HBI.out (Nat.le_refl _)).mono ?_
              have hnx : nxt S.C bs 15 1 0 0 0 0 = none := by rw [nxt, if_pos (by rw [HBL0.out]; omega)]
              have HNX := Lib.hid hnx
              clear hnx
              rintro e w4 ⟨hg4, (⟨i, p1, hi1, hil, rfl, hb4⟩ | ⟨hi1, rfl⟩)⟩
              · rw [HNX.out] at hi1
                cases hi1
              · have HN : Hid (codedP b n = none) := by
                  show _ = _
                  rw [HCC.out, decP, if_neg (by simp; omega), HNX.out]
                  rfl
                have HG4 := Lib.hid hg4
                clear hi1 hg4 hc91
                go_wp2_with fail
                rw [Exit.noGoto_ret]
                go_ret2
                exact ⟨HBL.out.trans (below_of_gb_some HG4.out (by omega) (by omega)), .inr ⟨HN.out, _, rfl⟩⟩
            · have hst := start_of hh HC.out hl2 hb12.out hb32.out HK1.out hs12 HK2.out 148 (o + 148) (cap - 148) (b.length - 148) (fun _ => rfl) hl rfl
              have HS := Lib.hid hst
              clear hst
              go_wp2_with (first
                | (at_make
                   refine wpList_make_own _ rfl (.const (.int .i64 0)) (.tmp 66) 22 rfl (w2.heap.size + 2) 5 i0 (.int .u8 0) 1 Tryd.underlying22 hi0 hz0 hz1 .i64 .i64 n n rfl rfl rfl hb48 hb63 (by simp) ?_
                   intro w3 hown3 hg3)
                | fail)
              obtain ⟨hbit, hfn, hsy, hdi, hbl, hsz3⟩ := HS.out.grown hg3 (by omega)
              have hown4 : w3.ownsRow (w2.heap.size + 2) 5 1 (.slice (some ⟨w2.heap.size + 1 + 1, 0, none⟩) 0 n) 0 (U []) := by simpa [World.setCell, U] using hown3
              have HBI := Lib.hid hbit
              have HFN := Lib.hid hfn
              have HSY := Lib.hid hsy
              have HDI := Lib.hid hdi
              have HBL := Lib.hid hbl
              have HOW := Lib.hid hown4
              have HS1 := Lib.hid (fun i => bOut_getD (symRow b) 15 i (by simp [symRow]))
              have HS2 := Lib.hid (fun i => bOut_getD (distRow b) 15 i (by simp [distRow]))
              have e277 : (symRow b).length = 277 := by simp [symRow]
              have e18 : (distRow b).length = 18 := by simp [distRow]
              rw [e277] at HS1
              rw [e18] at HS2
              have hw2 := hb12.out.lt
              clear hbit hfn hsy hdi hbl hown3 hown4 HS hg3 HK1 HK2 hb12 hb32 hc1 hf1 hb48 hb63 e277 e18 HZ0 hq2 hs12 hs01
              generalize bOut (symRow b) 15 = S at *
              generalize bOut (distRow b) 15 = D at *
              generalize List.drop 148 b = bs at *
              go_step3
              go_wp2_with fail
              go_loopg [15] (n + 1) (fun f v wr => ToldRel w3 w2.heap.size w.heap.size h (o + 148) (cap - 148) (w2.heap.size + 2) bs S D n f v wr)
              case atStart => exact ⟨0, n, 0, _, [], rfl, by omega, by omega, rfl, HOW, HBI, Fr.refl _ _ _, rfl⟩
              case round =>
                obtain ⟨L, c, p, A, out, hL, hnL, hLn, rfl, ho, hbt, hfr, hdec⟩ := hrel
                obtain ⟨wo, rfl⟩ : ∃ wo : World, wo = wr := ⟨_, rfl⟩
                obtain ⟨f, rfl⟩ : ∃ f : Nat, f = gk := ⟨_, rfl⟩
                go_wp2_with fail
                go_loopg [15] f (fun g v wr => g ≤ f ∧ ToldRel w3 w2.heap.size w.heap.size h (o + 148) (cap - 148) (w2.heap.size + 2) bs S D n g v wr)
                case atStart => exact ⟨Nat.le_refl _, L, c, p, A, out, hL, hnL, hLn, rfl, ho, hbt, hfr, hdec⟩
                case round =>
                  obtain ⟨hgf, L, c, p, A, out, hL, hnL, hLn, rfl, ho, hbt, hfr, hdec⟩ := hrel
                  by_cases hlt : L < n
                  · have hK1 := Lib.hid (HSY.out.keep (hfr.out.below (Nat.le_refl _) (by omega)))
                    have hFN := Lib.hid (hfr.out.blk HFN.out (by omega) (by omega))
                    have hc91 := hFN.out.cell 0
                    simp at hc91
                    go_wp2_with fail
                    refine (next_any _ _ _ _ _ _ _ S.C S.ln bs p _ hK1.out hbt.out (Nat.le_refl _)).mono ?_
                    rintro e w4 ⟨hg4, (⟨i, p1, hi1, hil, rfl, hb4⟩ | ⟨hi1, rfl⟩)⟩
                    · have HI := Lib.hid hi1
                      obtain ⟨y, hy⟩ : ∃ y, y = S.ln.getD i 0 := ⟨_, rfl⟩
                      have hy277 : y < 277 := by rw [hy]; exact HS1.out i
                      rw [← hy]
                      have HY := Lib.hid hy
                      have HF4 := Lib.hid (hfr.out.trans (Fr.of_ga hg4 (by have := hfr.out.size; omega)))
                      have HB4 := Lib.hid hb4
                      have HO4 := Lib.hid (own_gb_ga ho.out hg4 (by omega))
                      obtain ⟨g', hg'⟩ : ∃ g', gk = g' + 1 := ⟨gk - 1, by omega⟩
                      have hsz4 : w2.heap.size + 2 ≤ w4.heap.size := by have := HF4.out.size; omega
                      clear hi1 hy hg4 hb4 hc91
                      by_cases hy256 : y < 256
                      · have hyb : decide ((256 : Int) ≤ (y : Int)) = false := by simp; omega
                        have hwy : IntKind.u8.wrap (y : Int) = (y : Int) := wraps_u8 _ (by omega) (by omega)
                        have hdec2 : Hid (decP S D bs n (n + 1) [] 0 = decP S D bs n g' (out ++ [UInt8.ofNat y]) p1) := by
                          show _ = _
                          rw [hdec.out, hg', decP, if_neg (by rw [← hL.out]; omega), HI.out, Option.bind_some, ← HY.out, if_pos hy256]
                        go_wp2_with (first
                          | (at_builtin
                             refine wpList_push w4 rfl (.tmp 95) (.tmp 98) 22 rfl (w2.heap.size + 2) 5 i0 (.int .u8 0) 1 Tryd.underlying22 hi0 hz0 hz1 hz2 rfl A L c (U out) rfl HO4.out (.int .u8 (y : Int)) _ rfl rfl (by omega) (by unfold maxLen; omega) hsz4 ?_
                             intro A5 c5 w5 hown5 hg5)
                          | fail)
                        go_roundg g'
                        case measure => omega
                        case rel =>
                          have hr5 : ∀ q, (Value.slice A L c).ownBlock = some q → w2.heap.size + 2 ≤ q := fun q hq => (HO4.out.lt q hq).1
                          refine ⟨by omega, L + 1, c5, p1, A5, out ++ [UInt8.ofNat y], by show _ = _; rw [hL.out]; simp, by omega, by omega, rfl, ?_, HB4.out.gb hg5 (fun q hq => by have := hr5 q hq; omega), HF4.out.trans (Fr.of_row hg5 hsz4 hr5), hdec2⟩
                          show World.ownsRow _ _ _ _ _ _ _
                          rw [U_append]
                          have e : (UInt8.ofNat y).toNat = y := by simp; omega
                          simpa [U, e] using hown5
                      · have hyb : decide ((256 : Int) ≤ (y : Int)) = true := by simp; omega
                        obtain ⟨k, hk⟩ : ∃ k, y = k + 256 := ⟨y - 256, by omega⟩
                        subst hk
                        have hfc4 := HF4.out.blk HFN.out (by omega) (by omega)
                        have hc4 := hfc4.cell 0
                        simp at hc4
                        have HFC4 := Lib.hid hfc4
                        clear hfc4
                        go_wp2_with fail
                        refine (copied_any w2.heap.size _ _ _ (w2.heap.size + 1) _ _ _ (w2.heap.size + 2) D.C D.ln bs n k L c A out p1 _ (HDI.out.keep (HF4.out.below (Nat.le_refl _) (by omega))) HB4.out HFC4.out (Nat.le_refl _) (by omega) (by omega) hsz4 (by omega) hL.out hLn (by omega) (fun i => by have := HS2.out i; omega) HO4.out).mono ?_
                        rintro e w5 ⟨hf5, (⟨out2, p2, A2, c2, hcp, rfl, hb5, ho5⟩ | ⟨hcp, rfl⟩)⟩
                        · have HF5 := Lib.hid (HF4.out.trans hf5)
                          have HB5 := Lib.hid hb5
                          have HO5 := Lib.hid ho5
                          have HCP := Lib.hid hcp
                          have hlen := copiedP_len (by rw [← hL.out]; omega) hcp
                          have hdec2 : Hid (decP S D bs n (n + 1) [] 0 = decP S D bs n g' out2 p2) := by
                            show _ = _
                            rw [hdec.out, hg', decP, if_neg (by rw [← hL.out]; omega), HI.out, Option.bind_some, ← HY.out, if_neg hy256, Nat.add_sub_cancel, hcp]
                            rfl
                          clear hf5 hb5 ho5 hcp hc4
                          go_wp2_with fail
                          go_roundg g'
                          case measure => omega
                          case rel => exact ⟨_, c2, p2, A2, out2, rfl, by have := hL.out; omega, hlen.2, rfl, HO5, HB5, HF5, hdec2⟩
                        · have HF5 := Lib.hid (HF4.out.trans hf5)
                          have HN : Hid (codedP b n = none) := by
                            show _ = _
                            rw [HCC.out, hdec.out, hg', decP, if_neg (by rw [← hL.out]; omega), HI.out, Option.bind_some, ← HY.out, if_neg hy256, Nat.add_sub_cancel, hcp]
                            rfl
                          clear hcp hf5 hc4
                          go_wp2_with fail
                          rw [Exit.noGoto_ret]
                          go_ret2
                          exact ⟨HBL.out.trans (HF5.out.below (by omega) (by omega)), .inr ⟨HN.out, _, rfl⟩⟩
                    · have HF4 := Lib.hid (hfr.out.trans (Fr.of_ga hg4 (by have := hfr.out.size; omega)))
                      have HN : Hid (codedP b n = none) := by
                        show _ = _
                        rw [HCC.out, hdec.out]
                        obtain ⟨g', hg'⟩ : ∃ g', gk = g' + 1 := ⟨gk - 1, by omega⟩
                        rw [hg', decP, if_neg (by rw [← hL.out]; omega), hi1]
                        rfl
                      clear hi1 hg4 hc91
                      go_wp2_with fail
                      rw [Exit.noGoto_ret]
                      go_ret2
                      exact ⟨HBL.out.trans (HF4.out.below (by omega) (by omega)), .inr ⟨HN.out, _, rfl⟩⟩
                  · have hdL : decide ((L : Int) < (n : Int)) = false := by simp; omega
                    have hdone : Hid (decP S D bs n (n + 1) [] 0 = some (out, p)) := by
                      show _ = _
                      obtain ⟨g', hg'⟩ : ∃ g', gk = g' + 1 := ⟨gk - 1, by omega⟩
                      rw [hdec.out, hg', decP, if_pos (by rw [← hL.out]; omega)]
                    have hpok : Hid (codedP b n = if padP bs 8 p then some out else none) := by
                      show _ = _
                      rw [HCC.out, hdone.out]
                      rfl
                    clear hdec hdone
                    obtain ⟨wi, rfl⟩ : ∃ wi : World, wi = wr := ⟨_, rfl⟩
                    go_wp2_with fail
                    go_loopg [18] 8 (fun f v18 wr => PadRel w3 w2.heap.size w.heap.size h (o + 148) (cap - 148) (w2.heap.size + 2) bs (.slice A L c) out L p f wr)
                    case atStart => exact ⟨p, by omega, ho, hbt, hfr, rfl⟩
                    case round =>
                      obtain ⟨p', hfu, ho6, hb6, hf6, hpd⟩ := hrel
                      have hFN := Lib.hid (hf6.out.blk HFN.out (by omega) (by omega))
                      have hc91 := hFN.out.cell 0
                      have hca := hb6.out.at_.cell 0
                      have hcb := hb6.out.by_.cell 0
                      have hbl8 := Lim_le hb6.out.len
                      have hp8 := hb6.out.hp
                      simp at hc91 hca hcb
                      obtain ⟨r, hr⟩ : ∃ r, r = p' % 8 := ⟨_, rfl⟩
                      have e1 : (p' : Int) % 8 = (r : Int) := by omega
                      have e2 : (p' : Int).tmod 8 = (r : Int) := by rw [Int.tmod_eq_emod_of_nonneg (by omega)]; exact e1
                      obtain ⟨g6, hg6⟩ : ∃ g', gk = g' + 1 := ⟨gk - 1, by omega⟩
                      by_cases hr0 : r = 0
                      · have hrb : ((r : Int) != 0) = false := by rw [bne_eq_false_iff_eq]; omega
                        have hfin : Hid (padP bs 8 p = decide (p' = 8 * bs.length)) := by
                          show _ = _
                          rw [hpd.out, hg6, padP, if_pos (by omega)]
                        have HR := Lib.hid hr
                        clear hr hr0 hpd
                        by_cases hpe : p' = 8 * bs.length
                        · have hpb : ((p' : Int) == 8 * (bs.length : Int)) = true := beq_iff_eq.2 (by omega)
                          have HPE := Lib.hid hpe
                          have eL := Lib.hid hL.out
                          clear hpe
                          go_wp2_with fail
                          go_quiet (fail)
                          go_wp2_with fail
                          rw [Exit.noGoto_ret]
                          go_ret2
                          have e2 := hL.out
                          subst e2
                          exact ⟨HBL.out.trans (below_drewN' (hf6.out.below (by omega) (by omega)) _), .inl ⟨out, A, c, by rw [hpok.out, hfin.out, decide_eq_true HPE.out]; rfl, rfl, own_base (w := wr) ho6.out (by omega)⟩⟩
                        · have hpb : ((p' : Int) == 8 * (bs.length : Int)) = false := beq_eq_false_iff_ne.2 (by omega)
                          have HPE := Lib.hid hpe
                          clear hpe
                          go_wp2_with fail
                          go_quiet (fail)
                          go_wp2_with fail
                          rw [Exit.noGoto_ret]
                          go_ret2
                          exact ⟨HBL.out.trans (below_drewN' (hf6.out.below (by omega) (by omega)) _), .inr ⟨by rw [hpok.out, hfin.out, decide_eq_false HPE.out]; rfl, _, rfl⟩⟩
                      · have hrb : ((r : Int) != 0) = true := by rw [bne_iff_ne]; omega
                        have hpl : p' < 8 * bs.length := by omega
                        have hr1 : 1 ≤ p' % 8 := by omega
                        have hfl : 9 ≤ gk + p' % 8 := by omega
                        have HR := Lib.hid hr
                        clear hr hr0
                        go_wp2_with fail
                        refine (bit_some _ _ _ _ _ bs p' _ hb6.out hpl).mono ?_
                        rintro e w7 ⟨rfl, hb7, hg7⟩
                        obtain ⟨x7, hx7⟩ : ∃ x, x = bitOf bs p' := ⟨_, rfl⟩
                        rw [← hx7]
                        have HB7 := Lib.hid hb7
                        have HF7 := Lib.hid (hf6.out.trans (Fr.of_ga hg7 (by have := hf6.out.size; omega)))
                        have HO7 := Lib.hid (own_gb_ga ho6.out hg7 (by omega))
                        by_cases hx0 : x7 = 0
                        · have hxb7 : ((x7 : Int) != 0) = false := by rw [bne_eq_false_iff_eq]; omega
                          have hpd2 : Hid (padP bs 8 p = padP bs g6 (p' + 1)) := by
                            show _ = _
                            rw [hpd.out, hg6, padP, if_neg (by omega), if_pos (by rw [← hx7]; exact hx0)]
                          clear hb7 hg7 hx7 hx0 hc91 hca hcb hpd
                          go_wp2_with fail
                          go_roundg g6
                          case measure => omega
                          case rel => exact ⟨p' + 1, by omega, HO7, HB7, HF7, hpd2⟩
                        · have hxb7 : ((x7 : Int) != 0) = true := by rw [bne_iff_ne]; omega
                          have hfin : Hid (padP bs 8 p = false) := by
                            show _ = _
                            rw [hpd.out, hg6, padP, if_neg (by omega), if_neg (by rw [← hx7]; exact hx0)]
                          clear hb7 hg7 hx7 hx0 hc91 hca hcb hpd
                          go_wp2_with fail
                          rw [Exit.noGoto_ret]
                          go_ret2
                          exact ⟨HBL.out.trans (HF7.out.below (by omega) (by omega)), .inr ⟨by rw [hpok.out, hfin.out]; rfl, _, rfl⟩⟩
      · have hxb : ((x : Int) % 16 != 0) = true := by rw [bne_iff_ne]; omega
        have HX16 := Lib.hid hx16
        clear hx16
        go_wp2_with fail
        rw [Exit.noGoto_ret]
        go_ret2
        exact ⟨hb3.out, .inr ⟨by rw [codedP, if_pos (.inl (by rw [← HX.out]; exact HX16.out))], _, rfl⟩⟩
end Go.Proofs.YtejgoienkpaabaaDoor
