/- The contracts of the closures that read bits, and of book.next. -/
import Derived.Test.YtejgoienkpaabaaDoorBind
import Derived.Test.YtejgoienkpaabaaDoorBitP
namespace Go.Proofs.YtejgoienkpaabaaDoor
open Go.RowKit
set_option maxRecDepth 100000
/-- what the closures share: the place (block ga) and the bytes (block gb) -/
structure Bits (w : World) (ga gb h o cap : Nat) (bs : List UInt8) (p : Nat) : Prop where
  at_ : Blk w ga 3 #[.int .i64 (p : Int)]
  by_ : Blk w gb 22 #[.slice (some ⟨h, o, none⟩) bs.length cap]
  gb_ga : gb < ga
  h_ga : h < ga
  cells : ∀ j, j < bs.length → w.cell? ⟨h, o + j, none⟩ = some (.int .u8 ((bs.getD j 0).toNat : Int))
  len : bs.length ≤ Lim
  hp : p ≤ 8 * bs.length
theorem Bits.drewN {w : World} {ga gb h o cap : Nat} {bs : List UInt8} {p : Nat} (b : Bits w ga gb h o cap bs p) (n : Nat) : Bits (w.drewN n) ga gb h o cap bs p :=
  ⟨b.at_.drewN n, b.by_.drewN n, b.gb_ga, b.h_ga, b.cells, b.len, b.hp⟩
theorem Bits.gb {w w' : World} {ga gb h o cap : Nat} {bs : List UInt8} {p : Nat} {row : Option Nat} (b : Bits w ga gb h o cap bs p) (hg : w.grownBy w' row) (hr : ∀ k, row = some k → ga < k) : Bits w' ga gb h o cap bs p := by
  have hne : ∀ k, k ≤ ga → some k ≠ row := fun k hk e => by have := hr k e.symm; omega
  have hlt := b.at_.lt
  refine ⟨b.at_.gb hg (hne _ (Nat.le_refl _)), b.by_.gb hg (hne _ (by have := b.gb_ga; omega)), b.gb_ga, b.h_ga, fun j hj => ?_, b.len, b.hp⟩
  exact (World.cell?_of_block (a := ⟨h, o + j, none⟩) (hg.block h (by have := b.h_ga; omega) (hne _ (by have := b.h_ga; omega)))).trans (b.cells j hj)
theorem Bits.moved {w : World} {ga gb h o cap : Nat} {bs : List UInt8} {p : Nat} (b : Bits w ga gb h o cap bs p) (n p' : Nat) (hp' : p' ≤ 8 * bs.length) :
    Bits ((w.drewN n).setCell ⟨ga, 0, none⟩ (.int .i64 (p' : Int))) ga gb h o cap bs p' ∧ w.grownBy ((w.drewN n).setCell ⟨ga, 0, none⟩ (.int .i64 (p' : Int))) (some ga) := by
  have hg : w.grownBy ((w.drewN n).setCell ⟨ga, 0, none⟩ (.int .i64 (p' : Int))) (some ga) := gb_set (p := ⟨ga, 0, none⟩) (gb_drewN (gb_refl _ _) _) (.inl rfl) _
  have h1 := (b.at_.drewN n).set_ 0 (.int .i64 (p' : Int))
  have hh := b.h_ga
  refine ⟨⟨by simpa using h1, b.by_.gb hg (by have := b.gb_ga; simp; omega), b.gb_ga, b.h_ga, fun j hj => ?_, b.len, hp'⟩, hg⟩
  exact (World.cell?_of_block (a := ⟨h, o + j, none⟩) (hg.block h (by have := b.at_.lt; omega) (by simp; omega))).trans (b.cells j hj)
theorem and_bit (x s : Nat) (hx : x < 256) : wrap64 (bits .and .u8 ((x : Int) / 2 ^ s) 1) = ((x / 2 ^ s % 2 : Nat) : Int) := by
  have e : ((x : Int) / 2 ^ s) = ((x / 2 ^ s : Nat) : Int) := by simp
  have hle : x / 2 ^ s ≤ x := Nat.div_le_self _ _
  rw [e]
  generalize x / 2 ^ s = y at *
  have h := and_u8 y 1 (by omega) (by omega)
  rw [Nat.and_one_is_mod] at h
  have h1 : ((1 : Nat) : Int) = 1 := rfl
  rw [h1] at h
  rw [h]
  unfold wrap64
  omega
theorem ret2i {k : IntKind} {a b : Int} {v : Value} (h : a = b) : Ending.returned (.tuple #[.int k a, v]) = .returned (.tuple #[.int k b, v]) := by rw [h]
theorem bit_none (ga gb h o cap : Nat) (bs : List UInt8) (p : Nat) (w : World) (b : Bits w ga gb h o cap bs p) (hp : 8 * bs.length ≤ p) :
    Calls Tryd.prog 45 #[.pointer (some ⟨ga, 0, none⟩), .pointer (some ⟨gb, 0, none⟩)] w fun e w' => e = .returned (.tuple #[.int .i64 0, .bool false]) ∧ w' = w := by
  have h0 := b.at_.cell 0
  have h1 := b.by_.cell 0
  have hl := Lim_le b.len
  simp at h0 h1
  clear b
  go_enter Tryd.func45, Tryd.ntmps45
  go_wp2
  go_ret2
  exact ⟨rfl, rfl⟩
def BitSome (w : World) (ga gb h o cap : Nat) (bs : List UInt8) (p : Nat) (e : Ending) (w' : World) : Prop :=
  e = .returned (.tuple #[.int .i64 (bitOf bs p : Int), .bool true]) ∧ Bits w' ga gb h o cap bs (p + 1) ∧ w.grownBy w' (some ga)
theorem bit_some (ga gb h o cap : Nat) (bs : List UInt8) (p : Nat) (w : World) (b : Bits w ga gb h o cap bs p) (hp : p < 8 * bs.length) :
    Calls Tryd.prog 45 #[.pointer (some ⟨ga, 0, none⟩), .pointer (some ⟨gb, 0, none⟩)] w fun e w' => BitSome w ga gb h o cap bs p e w' := by
  have h0 := b.at_.cell 0
  have h1 := b.by_.cell 0
  have f0 := b.at_.frozen 0
  have hl := Lim_le b.len
  have hc := b.cells (p / 8) (by omega)
  simp at h0 h1
  have H := Lib.hid b
  clear b
  obtain ⟨q, hq⟩ : ∃ q, q = p / 8 := ⟨_, rfl⟩
  obtain ⟨r, hr⟩ : ∃ r, r = p % 8 := ⟨_, rfl⟩
  obtain ⟨s, hs⟩ : ∃ s, s = 7 - r := ⟨_, rfl⟩
  obtain ⟨x, hx⟩ : ∃ x, x = (bs.getD q 0).toNat := ⟨_, rfl⟩
  have hx2 : x < 256 := by rw [hx]; exact (bs.getD q 0).toNat_lt
  rw [← hq, ← hx] at hc
  have hv : Hid (bitOf bs p = (x / 2 ^ s) % 2) := by show _ = _; rw [hx, hs, hr, hq, bitOf]
  have hr8 : r < 8 := by omega
  have e1 : (p : Int) / 8 = (q : Int) := by omega
  have e2 : (p : Int) % 8 = (r : Int) := by omega
  have e3 : (p : Int).tdiv 8 = (q : Int) := by rw [Int.tdiv_eq_ediv_of_nonneg (by omega)]; exact e1
  have e4 : (p : Int).tmod 8 = (r : Int) := by rw [Int.tmod_eq_emod_of_nonneg (by omega)]; exact e2
  have e5 : IntKind.i64.wrap (7 - (r : Int)) = (s : Int) := by rw [wraps_i64 _ (by omega) (by omega)]; omega
  have e6 : (7 - (r : Int)) = (s : Int) := by omega
  have hs8 : s < 8 := by omega
  have hq2 : (q : Int) < bs.length := by omega
  have e7 := and_bit x s hx2
  rw [← hv.out] at e7
  have E7 := Lib.hid e7
  clear e7
  clear hx hq hr hs
  go_enter Tryd.func45, Tryd.ntmps45
  go_wp2_with fail
  go_quiet (fail)
  go_wp2_with fail
  go_ret2
  have hm := H.out.moved nq (p + 1) (by omega)
  exact ⟨ret2i E7.out, by simpa using hm⟩

/-- a book that is read: it lies below block B -/
structure BookR (w : World) (B g : Nat) (C : Nat → Nat) (ln : List Nat) : Prop where
  hg : g < B
  cnt : ∀ j, j < 16 → w.cell? ⟨g, j, none⟩ = some (.int .i64 (C j : Int))
  line : ∃ A c, w.cell? ⟨g, 16, none⟩ = some (.slice A ln.length c) ∧ (0 < ln.length → ∃ lb, A = some ⟨lb, 0, none⟩ ∧ lb < B ∧ (∃ cs, Blk w lb 3 cs) ∧ ∀ i, i < ln.length → w.cell? ⟨lb, i, none⟩ = some (.int .i64 (ln.getD i 0 : Int)))
  sum : ∀ k, k ≤ 15 → isum C k ≤ ln.length
  len : ln.length ≤ 100000
  bt : ∃ cs, Blk w g 124 cs
theorem BookR.keep {w w' : World} {B g : Nat} {C : Nat → Nat} {ln : List Nat} (h : BookR w B g C ln) (hb : Below B w w') : BookR w' B g C ln := by
  obtain ⟨A, c, h1, h2⟩ := h.line
  obtain ⟨cs, hcs⟩ := h.bt
  refine ⟨h.hg, fun j hj => (hb.cell (p := ⟨g, j, none⟩) h.hg).trans (h.cnt j hj), ⟨A, c, (hb.cell (p := ⟨g, 16, none⟩) h.hg).trans h1, fun hp => ?_⟩, h.sum, h.len, ⟨cs, hcs.below hb h.hg⟩⟩
  obtain ⟨lb, e, hl, ⟨ds, hds⟩, hc⟩ := h2 hp
  exact ⟨lb, e, hl, ⟨ds, hds.below hb hl⟩, fun i hi => (hb.cell (p := ⟨lb, i, none⟩) hl).trans (hc i hi)⟩
/-- a book is kept while a block of another type turns -/
theorem BookR.keep2 {w w' : World} {B g k : Nat} {t : TypeId} {ks : Array Value} {C : Nat → Nat} {ln : List Nat} (h : BookR w B g C ln) (hk : Blk w k t ks) (ht : t ≠ 124) (ht3 : t ≠ 3) (hb : w.grownBy w' (some k)) : BookR w' B g C ln := by
  obtain ⟨A, c, h1, h2⟩ := h.line
  obtain ⟨cs, hcs⟩ := h.bt
  have hne : g ≠ k := hcs.ne_ hk (fun e => ht e.symm)
  have hbk := hb.block g hcs.lt (by simpa using hne)
  refine ⟨h.hg, fun j hj => (World.cell?_of_block (a := ⟨g, j, none⟩) hbk).trans (h.cnt j hj), ⟨A, c, (World.cell?_of_block (a := ⟨g, 16, none⟩) hbk).trans h1, fun hp => ?_⟩, h.sum, h.len, ⟨cs, hbk.trans hcs⟩⟩
  obtain ⟨lb, e, hl, ⟨ds, hds⟩, hc⟩ := h2 hp
  have hne2 : lb ≠ k := hds.ne_ hk (fun e => ht3 e.symm)
  have hbk2 := hb.block lb hds.lt (by simpa using hne2)
  exact ⟨lb, e, hl, ⟨ds, hbk2.trans hds⟩, fun i hi => (World.cell?_of_block (a := ⟨lb, i, none⟩) hbk2).trans (hc i hi)⟩
theorem below_of_gb_some {w w' : World} {B k : Nat} (h : w.grownBy w' (some k)) (hB : B ≤ k) (hs : B ≤ w.heap.size) : Below B w w' :=
  ⟨h.os, h.tape, h.output, h.size, fun i hi => h.block i (by omega) (by simp; omega)⟩
/-- what book.next gives -/
def NextPost (w : World) (ga gb h o cap : Nat) (bs : List UInt8) (ln : List Nat) (r : Option (Nat × Nat)) (e : Ending) (w' : World) : Prop :=
  w.grownBy w' (some ga) ∧
  ((∃ i p', r = some (i, p') ∧ i < ln.length ∧ e = .returned (.tuple #[.int .i64 (ln.getD i 0 : Int), .bool true]) ∧ Bits w' ga gb h o cap bs p') ∨ (r = none ∧ e = .returned (.tuple #[.int .i64 0, .bool false])))
def NextRel (w : World) (ga gb h o cap : Nat) (bs : List UInt8) (C : Nat → Nat) (p : Nat) (vc vf va vn : Value) (wr : World) : Prop :=
  ∃ n code first p' : Nat, 1 ≤ n ∧ n ≤ 16 ∧ vc = .int .i64 code ∧ vf = .int .i64 first ∧ va = .int .i64 (isum C (n - 1) : Int) ∧ vn = .int .i64 n ∧ first ≤ code ∧ Hid (code < 2 ^ (n - 1)) ∧
    Hid (nxt C bs 15 1 0 0 0 p = nxt C bs (16 - n) n code first (isum C (n - 1)) p') ∧ Hid (Bits wr ga gb h o cap bs p') ∧ Hid (w.grownBy wr (some ga))
set_option maxHeartbeats 1000000 in
theorem next_any (B g ga gb h o cap : Nat) (C : Nat → Nat) (ln : List Nat) (bs : List UInt8) (p : Nat) (w : World) (hk : BookR w B g C ln) (b : Bits w ga gb h o cap bs p) (hB : B ≤ ga) :
    Calls Tryd.prog 47 #[.pointer (some ⟨g, 0, none⟩), .func (.func 45) #[] #[.pointer (some ⟨ga, 0, none⟩), .pointer (some ⟨gb, 0, none⟩)]] w fun e w' => NextPost w ga gb h o cap bs ln (nxt C bs 15 1 0 0 0 p) e w' := by
  have HK := Lib.hid hk
  have HB := Lib.hid b
  have hga := b.at_.lt
  clear hk b
  go_enter Tryd.func47, Tryd.ntmps47
  go_wp2_with fail
  go_loopw [6, 7, 8, 9] (fun vc vf va vn wr => NextRel w ga gb h o cap bs C p vc vf va vn wr) (fun _ _ _ vn _ => 16 - (intOf vn).toNat)
  case atStart => exact ⟨1, 0, 0, p, by omega, by omega, rfl, rfl, rfl, rfl, by omega, by show _ < _; decide, rfl, HB, gb_refl _ _⟩
  case round =>
    obtain ⟨n, code, first, p', hn1, hn2, rfl, rfl, rfl, rfl, hfc, hc, hx, hb, hg⟩ := hrel
    by_cases hlt : n ≤ 15
    · have hd : decide ((n : Int) ≤ 15) = true := by simp; omega
      go_wp2_with fail
      by_cases hp : 8 * bs.length ≤ p'
      · refine (bit_none ga gb h o cap bs p' _ hb.out hp).mono ?_
        rintro e w1 ⟨rfl, rfl⟩
        go_wp2_with fail
        go_ret2
        refine ⟨hg.out, .inr ⟨?_, rfl⟩⟩
        rw [hx.out]
        obtain ⟨f, hf⟩ : ∃ f, 16 - n = f + 1 := ⟨15 - n, by omega⟩
        rw [hf, nxt, if_pos hp]
      · refine (bit_some ga gb h o cap bs p' _ hb.out (by omega)).mono ?_
        rintro e w1 ⟨rfl, hb1, hg1⟩
        obtain ⟨x, hxx⟩ : ∃ x, x = bitOf bs p' := ⟨_, rfl⟩
        have hx1 : x ≤ 1 := by rw [hxx]; exact bitOf_le _ _
        have HB1 := Lib.hid hb1
        have HG1 := Lib.hid (gb_trans hg.out hg1)
        have hkk := HK.out.keep (below_of_gb_some HG1.out hB (by omega))
        have hcn := hkk.cnt n (by omega)
        have HKK := Lib.hid hkk
        clear hb1 hg1 hkk
        rw [← hxx]
        have HXX := Lib.hid hxx
        clear hxx
        have hcb : code < 32768 := Nat.lt_of_lt_of_le hc.out (Nat.pow_le_pow_right (by decide) (show n - 1 ≤ 15 by omega))
        have hs0 : isum C n = isum C (n - 1) + C n := by
          obtain ⟨n', rfl⟩ : ∃ n', n = n' + 1 := ⟨n - 1, by omega⟩
          rfl
        have hs1 : isum C (n - 1) + C n ≤ ln.length := by rw [← hs0]; exact HK.out.sum n hlt
        have hs2 := HK.out.len
        have HS0 := Lib.hid hs0
        clear hs0
        obtain ⟨c1, hc1⟩ : ∃ c1, c1 = 2 * code + x := ⟨_, rfl⟩
        have hval : bits .or .i64 ((code : Int) * 2) (x : Int) = (c1 : Int) := by
          have h0 := or_i64 (code * 2) x (by omega) (by omega)
          have h1 := Nat.two_pow_add_eq_or_of_lt (b := x) (i := 1) (by omega) code
          have h2 : (code * 2) ||| x = c1 := by rw [hc1, Nat.mul_comm code]; exact h1.symm
          rw [h2] at h0
          simpa using h0
        have hc1a : 2 * first ≤ c1 := by omega
        have hc1b : c1 < 65536 := by omega
        have HC1 := Lib.hid hc1
        clear hc1
        by_cases hlt2 : c1 < 2 * first + C n
        · obtain ⟨A, c, hA, hline⟩ := HKK.out.line
          obtain ⟨lb, rfl, hlb, _, hcell⟩ := hline (by omega)
          obtain ⟨i2, hi2⟩ : ∃ i2, i2 = isum C (n - 1) + (c1 - 2 * first) := ⟨_, rfl⟩
          have hcell2 := hcell i2 (by omega)
          obtain ⟨y, hy⟩ : ∃ y, y = ln.getD i2 0 := ⟨_, rfl⟩
          rw [← hy] at hcell2
          have HY := Lib.hid hy
          clear hy
          have ei : ((isum C (n - 1) : Int) + (c1 : Int) - (first : Int) * 2).toNat = i2 := by omega
          have hi3 : i2 < ln.length := by omega
          have HI := Lib.hid hi2
          clear hcell hline hi2
          go_wp2_with fail
          go_ret2
          refine ⟨HG1.out, .inl ⟨i2, p' + 1, ?_, hi3, by rw [← HY.out]; rfl, HB1.out⟩⟩
          rw [hx.out]
          obtain ⟨f, hf⟩ : ∃ f, 16 - n = f + 1 := ⟨15 - n, by omega⟩
          rw [hf, nxt, if_neg hp, ← HXX.out, ← HC1.out, if_pos hlt2, HI.out]
        · go_wp2_with fail
          go_roundw
          case rel => exact ⟨n + 1, c1, 2 * first + C n, p' + 1, by omega, by omega, rfl, by go_num, by rw [show n + 1 - 1 = n from rfl, HS0.out]; go_num, by go_num, by omega, by
            show _ < _
            have h1 := HC1.out
            have h2 := hc.out
            obtain ⟨n', rfl⟩ : ∃ n', n = n' + 1 := ⟨n - 1, by omega⟩
            simp only [Nat.add_sub_cancel, Nat.pow_succ] at h2 ⊢
            omega, by
            show _ = _
            rw [hx.out]
            obtain ⟨f, hf⟩ : ∃ f, 16 - n = f + 1 := ⟨15 - n, by omega⟩
            have hf2 : 16 - (n + 1) = f := by omega
            rw [hf, hf2, nxt, if_neg hp, ← HXX.out, ← HC1.out, if_neg hlt2, show n + 1 - 1 = n from rfl, HS0.out], HB1, HG1⟩
          case measure => simp [intOf]; omega
    · have hd : decide ((n : Int) ≤ 15) = false := by simp; omega
      obtain rfl : n = 16 := by omega
      go_wp2_with fail
      go_ret2
      exact ⟨hg.out, .inr ⟨by rw [hx.out]; rfl, rfl⟩⟩
end Go.Proofs.YtejgoienkpaabaaDoor
