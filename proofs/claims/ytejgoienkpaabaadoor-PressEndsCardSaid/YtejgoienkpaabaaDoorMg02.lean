/- Bind, BitP, Bit, Bits, CopP (merged: one text behind the other). -/
import Derived.Test.YtejgoienkpaabaaDoorMg01
import Derived.Deep.RegionHeld3
/- The contract of press.bind. -/
namespace Go.Proofs.YtejgoienkpaabaaDoor
open Go.RowKit
set_option maxRecDepth 100000
/-- ints as cells -/
def I (l : List Nat) : List Value := l.map fun (n : Nat) => Value.int .i64 (n : Int)
theorem I_length (l : List Nat) : (I l).length = l.length := by simp [I]
theorem I_append (a b : List Nat) : I (a ++ b) = I a ++ I b := by simp [I]
theorem I_get (l : List Nat) (i : Nat) : (I l)[i]? = l[i]?.map fun b => .int .i64 (b : Int) := by simp [I]
theorem I_one (l : List Nat) : ∀ u ∈ I l, u.oneCell' = true := by
  intro u hu
  simp only [I, List.mem_map] at hu
  obtain ⟨b, _, rfl⟩ := hu
  rfl
/-- a row of ints that lies in old memory -/
def Row (w : World) (B b off : Nat) (row : List Nat) : Prop := b < B ∧ ∀ j, j < row.length → w.cell? ⟨b, off + j, none⟩ = some (.int .i64 (row.getD j 0 : Int))
theorem Row.below {w w' : World} {B b off : Nat} {row : List Nat} (h : Row w B b off row) (hb : Below B w w') : Row w' B b off row :=
  ⟨h.1, fun j hj => (hb.cell (p := ⟨b, off + j, none⟩) h.1).trans (h.2 j hj)⟩
/-- a book's cells -/
def bookCells (C : Nat → Nat) (v : Value) : Array Value := ((List.range 16).map (fun j => Value.int .i64 (C j : Int)) ++ [v]).toArray
theorem bookCells_get (C : Nat → Nat) (v : Value) (j : Nat) (hj : j < 16) : (bookCells C v)[j]? = some (.int .i64 (C j : Int)) := by
  simp [bookCells, List.getElem?_append_left, hj]
theorem bookCells_line (C : Nat → Nat) (v : Value) : (bookCells C v)[16]? = some v := by
  simp [bookCells]
theorem bookCells_set (C : Nat → Nat) (v : Value) (n x : Nat) (hn : n < 16) : (bookCells C v).setIfInBounds n (.int .i64 (x : Int)) = bookCells (fun j => if j = n then x else C j) v := by
  apply Array.ext_getElem?
  intro i
  rw [Array.getElem?_setIfInBounds]
  by_cases h : n = i
  · subst h
    rw [if_pos rfl, bookCells_get _ _ _ hn, if_pos (by simp [bookCells]; omega)]
    simp
  · rw [if_neg h]
    by_cases hi : i < 16
    · rw [bookCells_get _ _ _ hi, bookCells_get _ _ _ hi, if_neg (fun e => h e.symm)]
    · by_cases h16 : i = 16
      · subst h16; rw [bookCells_line, bookCells_line]
      · rw [Array.getElem?_eq_none (by simp [bookCells]; omega), Array.getElem?_eq_none (by simp [bookCells]; omega)]
theorem bookCells_setLine (C : Nat → Nat) (v u : Value) : (bookCells C v).setIfInBounds 16 u = bookCells C u := by
  apply Array.ext_getElem?
  intro i
  rw [Array.getElem?_setIfInBounds]
  by_cases h : 16 = i
  · subst h
    rw [if_pos rfl, bookCells_line, if_pos (by simp [bookCells])]
  · rw [if_neg h]
    by_cases hi : i < 16
    · rw [bookCells_get _ _ _ hi, bookCells_get _ _ _ hi]
    · rw [Array.getElem?_eq_none (by simp [bookCells]; omega), Array.getElem?_eq_none (by simp [bookCells]; omega)]
/-- a book while it is gathered: block g; its line is the call's own -/
structure Bst (w0 wr : World) (g : Nat) (st : BS) (v : Value) : Prop where
  blk : Blk wr g 124 (bookCells st.C v)
  own : wr.ownsRow w0.heap.size 3 1 v st.ln.length (I st.ln)
  below : Below w0.heap.size w0 wr
  hg : w0.heap.size ≤ g

theorem Bst.cell {w0 wr : World} {g : Nat} {st : BS} {v : Value} (h : Bst w0 wr g st v) (j : Nat) (hj : j < 16) : wr.cell? ⟨g, j, none⟩ = some (.int .i64 (st.C j : Int)) := by rw [h.blk.cell]; exact bookCells_get _ _ _ hj
theorem Bst.line {w0 wr : World} {g : Nat} {st : BS} {v : Value} (h : Bst w0 wr g st v) : wr.cell? ⟨g, 16, none⟩ = some v := by rw [h.blk.cell]; exact bookCells_line _ _
theorem Bst.start (w : World) : Bst w (w.alloc (.cells (bookCells (fun _ => 0) (.slice none 0 0)) 124)) w.heap.size (bOut [] 0) (.slice none 0 0) :=
  ⟨Blk.new w 124 _, World.ownsRow_nil _ _ _ _, (Below.refl _ _).alloc (Nat.le_refl _) _, Nat.le_refl _⟩
theorem zero_cells : bookCells (fun _ => 0) (.slice none 0 0) = #[Value.int IntKind.i64 0, Value.int IntKind.i64 0, Value.int IntKind.i64 0, Value.int IntKind.i64 0,
    Value.int IntKind.i64 0, Value.int IntKind.i64 0, Value.int IntKind.i64 0, Value.int IntKind.i64 0,
    Value.int IntKind.i64 0, Value.int IntKind.i64 0, Value.int IntKind.i64 0, Value.int IntKind.i64 0,
    Value.int IntKind.i64 0, Value.int IntKind.i64 0, Value.int IntKind.i64 0, Value.int IntKind.i64 0,
    Value.slice Option.none 0 0] := rfl
theorem own_set_other {w : World} {base : Nat} {e : TypeId} {size : Nat} {v : Value} {n : Nat} {xs : List Value} (h : w.ownsRow base e size v n xs) {a : Addr} (ha : v.ownBlock ≠ some a.block) (u : Value) :
    (w.setCell a u).ownsRow base e size v n xs := by
  obtain ⟨h1, h2⟩ := h
  refine ⟨h1, ?_⟩
  rcases h2 with h2 | ⟨g, cap, cur, hv, hg, hh, r⟩
  · exact Or.inl h2
  · refine Or.inr ⟨g, cap, cur, hv, hg, ?_, r⟩
    rw [Below.heap_setCell _ _ _ _ (by rintro rfl; apply ha; rw [hv]; rfl)]
    exact hh
/-- the count is raised -/
theorem Bst.inc {w wr : World} {g k : Nat} {st : BS} {v : Value} (h : Bst w wr g st v) (hk : k < 16) :
    Bst w (wr.setCell ⟨g, k, none⟩ (.int .i64 ((st.C k : Int) + 1))).drew g ⟨fun j => if j = k then st.C k + 1 else st.C j, st.ln, st.sum⟩ v := by
  have hne := own_blk_ne h.own h.blk (by decide)
  have b1 : Blk (wr.setCell ⟨g, k, none⟩ (.int .i64 ((st.C k : Int) + 1))) g 124 (bookCells (fun j => if j = k then st.C k + 1 else st.C j) v) := by
    have := h.blk.set_ k (.int .i64 ((st.C k + 1 : Nat) : Int))
    rw [bookCells_set _ _ _ _ hk] at this
    simpa using this
  exact ⟨b1, own_set_other h.own hne _, (h.below.setCell (p := ⟨g, k, none⟩) h.hg _).drew, h.hg⟩
/-- the line grows -/
theorem Bst.push {w wr : World} {g s : Nat} {st : BS} {v v' : Value} {w2 : World} (h : Bst w wr g st v) (hg : wr.grownBy w2 v.ownBlock)
    (hown : w2.ownsRow w.heap.size 3 1 v' (st.ln.length + 1) (I st.ln ++ [.int .i64 (s : Int)])) (sum : Nat) :
    (w2.cell? ⟨g, 16, none⟩ = some v ∧ w2.frozen? ⟨g, 16, none⟩ = false) ∧ Bst w (w2.setCell ⟨g, 16, none⟩ v') g ⟨st.C, st.ln ++ [s], sum⟩ v' := by
  have hne := own_blk_ne h.own h.blk (by decide)
  have b3 : Blk w2 g 124 _ := h.blk.gb hg (fun e => hne e.symm)
  have hne2 := own_blk_ne hown b3 (by decide)
  refine ⟨⟨by rw [b3.cell]; exact bookCells_line _ _, b3.frozen 16⟩, ?_, ?_, ?_, h.hg⟩
  · have := b3.set_ 16 v'
    rw [bookCells_setLine] at this
    exact this
  · have := own_set_other hown (a := ⟨g, 16, none⟩) hne2 v'
    simpa [I_append, I] using this
  · have hb3 := h.below.grown hg h.below.size (fun q hq => (h.own.lt q hq).1)
    exact hb3.setCell (p := ⟨g, 16, none⟩) h.hg v'
theorem shl_pow (k : Nat) (hk : k ≤ 15) : IntKind.i64.wrap (2 ^ (15 - k)) = ((2 ^ (15 - k) : Nat) : Int) := by
  have hp : 2 ^ (15 - k) ≤ 32768 := Nat.pow_le_pow_right (by decide) (show 15 - k ≤ 15 by omega)
  have e : ((2 : Int) ^ (15 - k)) = ((2 ^ (15 - k) : Nat) : Int) := by simp
  rw [e]
  generalize 2 ^ (15 - k) = z at *
  exact wraps_i64 _ (by omega) (by omega)
theorem ret2b {p : Value} {a b : Bool} (h : a = b) : Ending.returned (.tuple #[p, .bool a]) = .returned (.tuple #[p, .bool b]) := by rw [h]
theorem eqb (a b : Nat) : ((a : Int) == (b : Int)) = decide (a = b) := by rw [Bool.eq_iff_iff]; simp; omega
def OutRel (w : World) (row : List Nat) (u n : Value) (wr : World) : Prop :=
  ∃ (k : Nat) (v : Value), 1 ≤ k ∧ k ≤ 16 ∧ n = .int .i64 k ∧ u = .int .i64 ((bOut row (k - 1)).sum : Int) ∧ Hid (Bst w wr w.heap.size (bOut row (k - 1)) v)
def InRel (w : World) (row : List Nat) (k : Nat) (u n : Value) (wr : World) : Prop :=
  ∃ (s : Nat) (v : Value), s ≤ row.length ∧ n = .int .i64 s ∧ u = .int .i64 ((bIn row k s (bOut row (k - 1))).sum : Int) ∧ Hid (Bst w wr w.heap.size (bIn row k s (bOut row (k - 1))) v)
def BindPost (w : World) (row : List Nat) (nn : Bool) (e : Ending) (w' : World) : Prop :=
  ∃ v, e = .returned (.tuple #[.pointer (some ⟨w.heap.size, 0, none⟩), .bool (bOk row nn)]) ∧ Bst w w' w.heap.size (bOut row 15) v
set_option maxHeartbeats 1000000 in
theorem bind_any (b off cap : Nat) (row : List Nat) (nn : Bool) (w : World) (hr : Row w w.heap.size b off row) (hl : row.length ≤ 1000) :
    Calls Tryd.prog 44 #[.slice (some ⟨b, off, none⟩) row.length cap, .bool nn] w fun e w' => BindPost w row nn e w' := by
  have hst : Bst w (w.alloc (.cells #[Value.int IntKind.i64 0, Value.int IntKind.i64 0, Value.int IntKind.i64 0, Value.int IntKind.i64 0,
    Value.int IntKind.i64 0, Value.int IntKind.i64 0, Value.int IntKind.i64 0, Value.int IntKind.i64 0,
    Value.int IntKind.i64 0, Value.int IntKind.i64 0, Value.int IntKind.i64 0, Value.int IntKind.i64 0,
    Value.int IntKind.i64 0, Value.int IntKind.i64 0, Value.int IntKind.i64 0, Value.int IntKind.i64 0,
    Value.slice Option.none 0 0] 124)) w.heap.size (bOut row 0) (.slice none 0 0) := Bst.start w
  obtain ⟨i0, hi, hz0, hz1, hz2⟩ := info_parts info3
  have HS := Lib.hid hst
  have HR := Lib.hid hr
  clear hst hr
  go_enter Tryd.func44, Tryd.ntmps44
  go_wp2_with fail
  go_loopw [7, 8] (fun u n wr => OutRel w row u n wr) (fun _ n _ => 16 - (intOf n).toNat)
  case atStart => exact ⟨1, _, by omega, by omega, rfl, rfl, HS⟩
  case round =>
    obtain ⟨k, v, hk1, hk2, rfl, rfl, hB⟩ := hrel
    by_cases hlt : k ≤ 15
    · have hd : decide ((k : Int) ≤ 15) = true := by simp; omega
      go_wp2_with fail
      obtain ⟨wo, rfl⟩ : ∃ wo : World, wo = wr := ⟨_, rfl⟩
      go_loopw [7, 19] (fun u n wr => InRel w row k u n wr) (fun _ n _ => row.length - (intOf n).toNat)
      case atStart => exact ⟨0, v, by omega, rfl, rfl, hB⟩
      case round =>
        obtain ⟨s, v1, hs, rfl, rfl, hB1⟩ := hrel
        by_cases hlt1 : s < row.length
        · obtain ⟨x, hx⟩ : ∃ x, x = row.getD s 0 := ⟨_, rfl⟩
          have hcell : wr.cell? ⟨b, off + s, none⟩ = some (.int .i64 (x : Int)) := by rw [hx]; exact (HR.out.below hB1.out.below).2 s hlt1
          have hc1 := hB1.out.cell k (by omega)
          have hf1 := hB1.out.blk.frozen k
          have HX := Lib.hid hx
          clear hx
          by_cases hxk : x = k
          · have hxb : ((x : Int) == (k : Int)) = true := beq_iff_eq.2 (by omega)
            have HXK := Lib.hid hxk
            clear hxk
            have hL := hB1.out.line
            have hle := bIn_le row k s (bOut row (k - 1))
            have hle2 := bOut_le row (k - 1)
            have hm : (k - 1) * row.length ≤ 15 * row.length := Nat.mul_le_mul_right _ (by omega)
            have hb1 : (bIn row k s (bOut row (k - 1))).sum ≤ 1000000000 := by omega
            have hb2 : (bIn row k s (bOut row (k - 1))).ln.length ≤ 100000 := by omega
            have hb3 : (bIn row k s (bOut row (k - 1))).C k ≤ 100000 := by have := hle.2.2 k; have := hle2.2.2 k; omega
            clear hle hle2 hm
            have hval := shl_pow k hlt
            obtain ⟨y, hy⟩ : ∃ y : Nat, y = 2 ^ (15 - k) := ⟨_, rfl⟩
            have hyb : y ≤ 32768 := by rw [hy]; exact Nat.pow_le_pow_right (by decide) (show 15 - k ≤ 15 by omega)
            rw [← hy] at hval
            have HNX : Hid (bIn row k (s + 1) (bOut row (k - 1)) = ⟨fun j => if j = k then (bIn row k s (bOut row (k - 1))).C k + 1 else (bIn row k s (bOut row (k - 1))).C j, (bIn row k s (bOut row (k - 1))).ln ++ [s], (bIn row k s (bOut row (k - 1))).sum + y⟩) := by
              show _ = _
              rw [bIn, ← HX.out, HXK.out, hy]
              simp [bStep]
            clear hy
            generalize bIn row k s (bOut row (k - 1)) = st at *
            go_wp2_with fail
            go_region
            have HB2 := Lib.hid (hB1.out.inc (k := k) (by omega))
            generalize (wr.setCell ⟨w.heap.size, k, none⟩ (.int .i64 ((st.C k : Int) + 1))).drew = wq at *
            obtain ⟨A1, c1, hv1⟩ := own_shape HB2.out.own
            rw [hv1] at HB2
            have hL2 := HB2.out.line
            have hf2 := HB2.out.blk.frozen 16
            have hO := Lib.hid HB2.out.own
            have hsz := HB2.out.below.size
            clear hc1 hf1 hL hB1 hv1
            go_wp2_with (first
              | (at_builtin
                 refine wpList_push wq rfl (.tmp 41) (.tmp 43) 36 rfl w.heap.size 3 i0 (.int .i64 0) 8 Tryd.underlying36 hi hz0 hz1 hz2 rfl A1 st.ln.length c1 (I st.ln) rfl hO.out (.int .i64 (s : Int)) _ rfl rfl (by omega) (by unfold maxLen; omega) hsz ?_
                 intro A2 c2 w2 hown2 hg2
                 have HP := Lib.hid (HB2.out.push hg2 hown2 (st.sum + y))
                 have hL3 := HP.out.1.1
                 have hf3 := HP.out.1.2
                 clear hown2 hg2 hL2 hf2 hO)
              | fail)
            go_roundw
            case rel => exact ⟨s + 1, _, by omega, by go_num, by rw [HNX.out]; simp, by rw [HNX.out]; exact HP.out.2⟩
            case measure => simp [intOf]; omega
          · have hxb : ((x : Int) == (k : Int)) = false := beq_eq_false_iff_ne.2 (by omega)
            have HNX : Hid (bIn row k (s + 1) (bOut row (k - 1)) = bIn row k s (bOut row (k - 1))) := by
              show _ = _
              rw [bIn, ← HX.out]
              simp [bStep, hxk]
            generalize bIn row k s (bOut row (k - 1)) = st at *
            go_wp2_with fail
            go_roundw
            case rel => exact ⟨s + 1, _, by omega, by go_num, by rw [HNX.out], by rw [HNX.out]; exact hB1⟩
            case measure => simp [intOf]; omega
        · have hse : bIn row k s (bOut row (k - 1)) = bOut row k := by
            obtain rfl : s = row.length := by omega
            obtain ⟨k', rfl⟩ : ∃ k', k = k' + 1 := ⟨k - 1, by omega⟩
            rfl
          rw [hse] at hB1 ⊢
          clear hse
          go_wp2_with fail
          go_roundw
          case rel => exact ⟨k + 1, _, by omega, by omega, by go_num, rfl, hB1⟩
          case measure => simp [intOf]; omega
    · obtain rfl : k = 16 := by omega
      have hB' : Hid (Bst w wr w.heap.size (bOut row 15) v) := hB
      clear hB
      obtain ⟨A1, c1, hv1⟩ := own_shape hB'.out.own
      rw [hv1] at hB'
      have hL := hB'.out.line
      have hc1 := hB'.out.cell 1 (by omega)
      have hle := (bOut_le row 15).2.1
      have hok : Hid (bOk row nn = if (bOut row 15).ln.length = 0 then nn else if (bOut row 15).ln.length = 1 then decide ((bOut row 15).C 1 = 1) else decide ((bOut row 15).sum = 32768)) := rfl
      clear hv1
      show Code.wp _ _ _ _ _
      simp only [Nat.reduceSub]
      generalize hst : bOut row 15 = st at *
      have HST := Lib.hid hst
      clear hst
      by_cases h0 : st.ln.length = 0
      · have hb0 : ((st.ln.length : Int) == 0) = true := beq_iff_eq.2 (by omega)
        have H0 := Lib.hid h0
        clear h0
        go_wp2_with fail
        go_ret2
        exact ⟨_, by rw [hok.out, if_pos H0.out]; rfl, by rw [HST.out]; exact hB'.out⟩
      · have hb0 : ((st.ln.length : Int) == 0) = false := beq_eq_false_iff_ne.2 (by omega)
        have H0 := Lib.hid h0
        by_cases h1 : st.ln.length = 1
        · have hb1 : ((st.ln.length : Int) == 1) = true := beq_iff_eq.2 (by omega)
          have H1 := Lib.hid h1
          clear h1 h0
          go_wp2_with fail
          go_quiet (fail)
          go_wp2_with fail
          go_ret2
          refine ⟨_, ?_, by rw [HST.out]; exact ⟨hB'.out.blk, hB'.out.own, ⟨hB'.out.below.os, hB'.out.below.tape, hB'.out.below.output, hB'.out.below.size, hB'.out.below.block⟩, hB'.out.hg⟩⟩
          rw [hok.out, if_neg H0.out, if_pos H1.out]
          exact ret2b (eqb _ 1)
        · have hb1 : ((st.ln.length : Int) == 1) = false := beq_eq_false_iff_ne.2 (by omega)
          have H1 := Lib.hid h1
          clear h1 h0
          go_wp2_with fail
          go_ret2
          refine ⟨_, ?_, by rw [HST.out]; exact hB'.out⟩
          rw [hok.out, if_neg H0.out, if_neg H1.out]
          exact ret2b (eqb _ 32768)
end Go.Proofs.YtejgoienkpaabaaDoor

/- Plain: bits of bytes, and how press reads a code. -/
namespace Go.Proofs.YtejgoienkpaabaaDoor
/-- the bit at that place -/
def bitOf (bs : List UInt8) (i : Nat) : Nat := ((bs.getD (i / 8) 0).toNat / 2 ^ (7 - i % 8)) % 2
theorem bitOf_le (bs : List UInt8) (i : Nat) : bitOf bs i ≤ 1 := by unfold bitOf; omega
/-- one of a row's codes: its place in the line, and where the reading is behind it -/
def nxt (C : Nat → Nat) (bs : List UInt8) : Nat → Nat → Nat → Nat → Nat → Nat → Option (Nat × Nat)
  | 0, _, _, _, _, _ => none
  | f + 1, n, code, first, idx, p =>
    if 8 * bs.length ≤ p then none
    else if 2 * code + bitOf bs p < 2 * first + C n then some (idx + (2 * code + bitOf bs p - 2 * first), p + 1)
    else nxt C bs f (n + 1) (2 * code + bitOf bs p) (2 * first + C n) (idx + C n) (p + 1)
def isum (C : Nat → Nat) : Nat → Nat
  | 0 => 0
  | k + 1 => isum C k + C (k + 1)
/-- the number of the next n bits -/
def nbits (bs : List UInt8) : Nat → Nat → Nat → Option (Nat × Nat)
  | 0, v, p => some (v, p)
  | n + 1, v, p => if 8 * bs.length ≤ p then none else nbits bs n (2 * v + bitOf bs p) (p + 1)
end Go.Proofs.YtejgoienkpaabaaDoor

/- The contracts of the closures that read bits, and of book.next. -/
namespace Go.Proofs.YtejgoienkpaabaaDoor
open Go.RowKit
set_option maxRecDepth 100000
/-- what the closures share: the place (block ga) and the bytes (block gb) -/
structure Bits (w : World) (ga gb h o cap : Nat) (bs : List UInt8) (p : Nat) : Prop where
  at_ : Blk w ga 3 #[.int .i64 (p : Int)]
  by_ : Blk w gb 22 #[.slice (some ⟨h, o, none⟩) bs.length cap]
  gb_ga : gb < ga
  h_ga : h < ga
  cells : ∀ j, j < bs.length → w.cell? ⟨h, o + j, none⟩ = some (.int .u8 ((bs.getD j 0).toNat : Int))
  len : bs.length ≤ Lim
  hp : p ≤ 8 * bs.length
theorem Bits.drewN {w : World} {ga gb h o cap : Nat} {bs : List UInt8} {p : Nat} (b : Bits w ga gb h o cap bs p) (n : Nat) : Bits (w.drewN n) ga gb h o cap bs p :=
  ⟨b.at_.drewN n, b.by_.drewN n, b.gb_ga, b.h_ga, b.cells, b.len, b.hp⟩
theorem Bits.gb {w w' : World} {ga gb h o cap : Nat} {bs : List UInt8} {p : Nat} {row : Option Nat} (b : Bits w ga gb h o cap bs p) (hg : w.grownBy w' row) (hr : ∀ k, row = some k → ga < k) : Bits w' ga gb h o cap bs p := by
  have hne : ∀ k, k ≤ ga → some k ≠ row := fun k hk e => by have := hr k e.symm; omega
  have hlt := b.at_.lt
  refine ⟨b.at_.gb hg (hne _ (Nat.le_refl _)), b.by_.gb hg (hne _ (by have := b.gb_ga; omega)), b.gb_ga, b.h_ga, fun j hj => ?_, b.len, b.hp⟩
  exact (World.cell?_of_block (a := ⟨h, o + j, none⟩) (hg.block h (by have := b.h_ga; omega) (hne _ (by have := b.h_ga; omega)))).trans (b.cells j hj)
theorem Bits.moved {w : World} {ga gb h o cap : Nat} {bs : List UInt8} {p : Nat} (b : Bits w ga gb h o cap bs p) (n p' : Nat) (hp' : p' ≤ 8 * bs.length) :
    Bits ((w.drewN n).setCell ⟨ga, 0, none⟩ (.int .i64 (p' : Int))) ga gb h o cap bs p' ∧ w.grownBy ((w.drewN n).setCell ⟨ga, 0, none⟩ (.int .i64 (p' : Int))) (some ga) := by
  have hg : w.grownBy ((w.drewN n).setCell ⟨ga, 0, none⟩ (.int .i64 (p' : Int))) (some ga) := gb_set (p := ⟨ga, 0, none⟩) (gb_drewN (gb_refl _ _) _) (.inl rfl) _
  have h1 := (b.at_.drewN n).set_ 0 (.int .i64 (p' : Int))
  have hh := b.h_ga
  refine ⟨⟨by simpa using h1, b.by_.gb hg (by have := b.gb_ga; simp; omega), b.gb_ga, b.h_ga, fun j hj => ?_, b.len, hp'⟩, hg⟩
  exact (World.cell?_of_block (a := ⟨h, o + j, none⟩) (hg.block h (by have := b.at_.lt; omega) (by simp; omega))).trans (b.cells j hj)
theorem and_bit (x s : Nat) (hx : x < 256) : wrap64 (bits .and .u8 ((x : Int) / 2 ^ s) 1) = ((x / 2 ^ s % 2 : Nat) : Int) := by
  have e : ((x : Int) / 2 ^ s) = ((x / 2 ^ s : Nat) : Int) := by simp
  have hle : x / 2 ^ s ≤ x := Nat.div_le_self _ _
  rw [e]
  generalize x / 2 ^ s = y at *
  have h := and_u8 y 1 (by omega) (by omega)
  rw [Nat.and_one_is_mod] at h
  have h1 : ((1 : Nat) : Int) = 1 := rfl
  rw [h1] at h
  rw [h]
  unfold wrap64
  omega
theorem ret2i {k : IntKind} {a b : Int} {v : Value} (h : a = b) : Ending.returned (.tuple #[.int k a, v]) = .returned (.tuple #[.int k b, v]) := by rw [h]
theorem bit_none (ga gb h o cap : Nat) (bs : List UInt8) (p : Nat) (w : World) (b : Bits w ga gb h o cap bs p) (hp : 8 * bs.length ≤ p) :
    Calls Tryd.prog 45 #[.pointer (some ⟨ga, 0, none⟩), .pointer (some ⟨gb, 0, none⟩)] w fun e w' => e = .returned (.tuple #[.int .i64 0, .bool false]) ∧ w' = w := by
  have h0 := b.at_.cell 0
  have h1 := b.by_.cell 0
  have hl := Lim_le b.len
  simp at h0 h1
  clear b
  go_enter Tryd.func45, Tryd.ntmps45
  go_wp2
  go_ret2
  exact ⟨rfl, rfl⟩
def BitSome (w : World) (ga gb h o cap : Nat) (bs : List UInt8) (p : Nat) (e : Ending) (w' : World) : Prop :=
  e = .returned (.tuple #[.int .i64 (bitOf bs p : Int), .bool true]) ∧ Bits w' ga gb h o cap bs (p + 1) ∧ w.grownBy w' (some ga)
theorem bit_some (ga gb h o cap : Nat) (bs : List UInt8) (p : Nat) (w : World) (b : Bits w ga gb h o cap bs p) (hp : p < 8 * bs.length) :
    Calls Tryd.prog 45 #[.pointer (some ⟨ga, 0, none⟩), .pointer (some ⟨gb, 0, none⟩)] w fun e w' => BitSome w ga gb h o cap bs p e w' := by
  have h0 := b.at_.cell 0
  have h1 := b.by_.cell 0
  have f0 := b.at_.frozen 0
  have hl := Lim_le b.len
  have hc := b.cells (p / 8) (by omega)
  simp at h0 h1
  have H := Lib.hid b
  clear b
  obtain ⟨q, hq⟩ : ∃ q, q = p / 8 := ⟨_, rfl⟩
  obtain ⟨r, hr⟩ : ∃ r, r = p % 8 := ⟨_, rfl⟩
  obtain ⟨s, hs⟩ : ∃ s, s = 7 - r := ⟨_, rfl⟩
  obtain ⟨x, hx⟩ : ∃ x, x = (bs.getD q 0).toNat := ⟨_, rfl⟩
  have hx2 : x < 256 := by rw [hx]; exact (bs.getD q 0).toNat_lt
  rw [← hq, ← hx] at hc
  have hv : Hid (bitOf bs p = (x / 2 ^ s) % 2) := by show _ = _; rw [hx, hs, hr, hq, bitOf]
  have hr8 : r < 8 := by omega
  have e1 : (p : Int) / 8 = (q : Int) := by omega
  have e2 : (p : Int) % 8 = (r : Int) := by omega
  have e3 : (p : Int).tdiv 8 = (q : Int) := by rw [Int.tdiv_eq_ediv_of_nonneg (by omega)]; exact e1
  have e4 : (p : Int).tmod 8 = (r : Int) := by rw [Int.tmod_eq_emod_of_nonneg (by omega)]; exact e2
  have e5 : IntKind.i64.wrap (7 - (r : Int)) = (s : Int) := by rw [wraps_i64 _ (by omega) (by omega)]; omega
  have e6 : (7 - (r : Int)) = (s : Int) := by omega
  have hs8 : s < 8 := by omega
  have hq2 : (q : Int) < bs.length := by omega
  have e7 := and_bit x s hx2
  rw [← hv.out] at e7
  have E7 := Lib.hid e7
  clear e7
  clear hx hq hr hs
  go_enter Tryd.func45, Tryd.ntmps45
  go_wp2_with fail
  go_quiet (fail)
  go_wp2_with fail
  go_ret2
  have hm := H.out.moved nq (p + 1) (by omega)
  exact ⟨ret2i E7.out, by simpa using hm⟩

/-- a book that is read: it lies below block B -/
structure BookR (w : World) (B g : Nat) (C : Nat → Nat) (ln : List Nat) : Prop where
  hg : g < B
  cnt : ∀ j, j < 16 → w.cell? ⟨g, j, none⟩ = some (.int .i64 (C j : Int))
  line : ∃ A c, w.cell? ⟨g, 16, none⟩ = some (.slice A ln.length c) ∧ (0 < ln.length → ∃ lb, A = some ⟨lb, 0, none⟩ ∧ lb < B ∧ (∃ cs, Blk w lb 3 cs) ∧ ∀ i, i < ln.length → w.cell? ⟨lb, i, none⟩ = some (.int .i64 (ln.getD i 0 : Int)))
  sum : ∀ k, k ≤ 15 → isum C k ≤ ln.length
  len : ln.length ≤ 100000
  bt : ∃ cs, Blk w g 124 cs
theorem BookR.keep {w w' : World} {B g : Nat} {C : Nat → Nat} {ln : List Nat} (h : BookR w B g C ln) (hb : Below B w w') : BookR w' B g C ln := by
  obtain ⟨A, c, h1, h2⟩ := h.line
  obtain ⟨cs, hcs⟩ := h.bt
  refine ⟨h.hg, fun j hj => (hb.cell (p := ⟨g, j, none⟩) h.hg).trans (h.cnt j hj), ⟨A, c, (hb.cell (p := ⟨g, 16, none⟩) h.hg).trans h1, fun hp => ?_⟩, h.sum, h.len, ⟨cs, hcs.below hb h.hg⟩⟩
  obtain ⟨lb, e, hl, ⟨ds, hds⟩, hc⟩ := h2 hp
  exact ⟨lb, e, hl, ⟨ds, hds.below hb hl⟩, fun i hi => (hb.cell (p := ⟨lb, i, none⟩) hl).trans (hc i hi)⟩
/-- a book is kept while a block of another type turns -/
theorem BookR.keep2 {w w' : World} {B g k : Nat} {t : TypeId} {ks : Array Value} {C : Nat → Nat} {ln : List Nat} (h : BookR w B g C ln) (hk : Blk w k t ks) (ht : t ≠ 124) (ht3 : t ≠ 3) (hb : w.grownBy w' (some k)) : BookR w' B g C ln := by
  obtain ⟨A, c, h1, h2⟩ := h.line
  obtain ⟨cs, hcs⟩ := h.bt
  have hne : g ≠ k := hcs.ne_ hk (fun e => ht e.symm)
  have hbk := hb.block g hcs.lt (by simpa using hne)
  refine ⟨h.hg, fun j hj => (World.cell?_of_block (a := ⟨g, j, none⟩) hbk).trans (h.cnt j hj), ⟨A, c, (World.cell?_of_block (a := ⟨g, 16, none⟩) hbk).trans h1, fun hp => ?_⟩, h.sum, h.len, ⟨cs, hbk.trans hcs⟩⟩
  obtain ⟨lb, e, hl, ⟨ds, hds⟩, hc⟩ := h2 hp
  have hne2 : lb ≠ k := hds.ne_ hk (fun e => ht3 e.symm)
  have hbk2 := hb.block lb hds.lt (by simpa using hne2)
  exact ⟨lb, e, hl, ⟨ds, hbk2.trans hds⟩, fun i hi => (World.cell?_of_block (a := ⟨lb, i, none⟩) hbk2).trans (hc i hi)⟩
theorem below_of_gb_some {w w' : World} {B k : Nat} (h : w.grownBy w' (some k)) (hB : B ≤ k) (hs : B ≤ w.heap.size) : Below B w w' :=
  ⟨h.os, h.tape, h.output, h.size, fun i hi => h.block i (by omega) (by simp; omega)⟩
/-- what book.next gives -/
def NextPost (w : World) (ga gb h o cap : Nat) (bs : List UInt8) (ln : List Nat) (r : Option (Nat × Nat)) (e : Ending) (w' : World) : Prop :=
  w.grownBy w' (some ga) ∧
  ((∃ i p', r = some (i, p') ∧ i < ln.length ∧ e = .returned (.tuple #[.int .i64 (ln.getD i 0 : Int), .bool true]) ∧ Bits w' ga gb h o cap bs p') ∨ (r = none ∧ e = .returned (.tuple #[.int .i64 0, .bool false])))
def NextRel (w : World) (ga gb h o cap : Nat) (bs : List UInt8) (C : Nat → Nat) (p : Nat) (vc vf va vn : Value) (wr : World) : Prop :=
  ∃ n code first p' : Nat, 1 ≤ n ∧ n ≤ 16 ∧ vc = .int .i64 code ∧ vf = .int .i64 first ∧ va = .int .i64 (isum C (n - 1) : Int) ∧ vn = .int .i64 n ∧ first ≤ code ∧ Hid (code < 2 ^ (n - 1)) ∧
    Hid (nxt C bs 15 1 0 0 0 p = nxt C bs (16 - n) n code first (isum C (n - 1)) p') ∧ Hid (Bits wr ga gb h o cap bs p') ∧ Hid (w.grownBy wr (some ga))
set_option maxHeartbeats 1000000 in
theorem next_any (B g ga gb h o cap : Nat) (C : Nat → Nat) (ln : List Nat) (bs : List UInt8) (p : Nat) (w : World) (hk : BookR w B g C ln) (b : Bits w ga gb h o cap bs p) (hB : B ≤ ga) :
    Calls Tryd.prog 47 #[.pointer (some ⟨g, 0, none⟩), .func (.func 45) #[] #[.pointer (some ⟨ga, 0, none⟩), .pointer (some ⟨gb, 0, none⟩)]] w fun e w' => NextPost w ga gb h o cap bs ln (nxt C bs 15 1 0 0 0 p) e w' := by
  have HK := Lib.hid hk
  have HB := Lib.hid b
  have hga := b.at_.lt
  clear hk b
  go_enter Tryd.func47, Tryd.ntmps47
  go_wp2_with fail
  go_loopw [6, 7, 8, 9] (fun vc vf va vn wr => NextRel w ga gb h o cap bs C p vc vf va vn wr) (fun _ _ _ vn _ => 16 - (intOf vn).toNat)
  case atStart => exact ⟨1, 0, 0, p, by omega, by omega, rfl, rfl, rfl, rfl, by omega, by show _ < _; decide, rfl, HB, gb_refl _ _⟩
  case round =>
    obtain ⟨n, code, first, p', hn1, hn2, rfl, rfl, rfl, rfl, hfc, hc, hx, hb, hg⟩ := hrel
    by_cases hlt : n ≤ 15
    · have hd : decide ((n : Int) ≤ 15) = true := by simp; omega
      go_wp2_with fail
      by_cases hp : 8 * bs.length ≤ p'
      · refine (bit_none ga gb h o cap bs p' _ hb.out hp).mono ?_
        rintro e w1 ⟨rfl, rfl⟩
        go_wp2_with fail
        go_ret2
        refine ⟨hg.out, .inr ⟨?_, rfl⟩⟩
        rw [hx.out]
        obtain ⟨f, hf⟩ : ∃ f, 16 - n = f + 1 := ⟨15 - n, by omega⟩
        rw [hf, nxt, if_pos hp]
      · refine (bit_some ga gb h o cap bs p' _ hb.out (by omega)).mono ?_
        rintro e w1 ⟨rfl, hb1, hg1⟩
        obtain ⟨x, hxx⟩ : ∃ x, x = bitOf bs p' := ⟨_, rfl⟩
        have hx1 : x ≤ 1 := by rw [hxx]; exact bitOf_le _ _
        have HB1 := Lib.hid hb1
        have HG1 := Lib.hid (gb_trans hg.out hg1)
        have hkk := HK.out.keep (below_of_gb_some HG1.out hB (by omega))
        have hcn := hkk.cnt n (by omega)
        have HKK := Lib.hid hkk
        clear hb1 hg1 hkk
        rw [← hxx]
        have HXX := Lib.hid hxx
        clear hxx
        have hcb : code < 32768 := Nat.lt_of_lt_of_le hc.out (Nat.pow_le_pow_right (by decide) (show n - 1 ≤ 15 by omega))
        have hs0 : isum C n = isum C (n - 1) + C n := by
          obtain ⟨n', rfl⟩ : ∃ n', n = n' + 1 := ⟨n - 1, by omega⟩
          rfl
        have hs1 : isum C (n - 1) + C n ≤ ln.length := by rw [← hs0]; exact HK.out.sum n hlt
        have hs2 := HK.out.len
        have HS0 := Lib.hid hs0
        clear hs0
        obtain ⟨c1, hc1⟩ : ∃ c1, c1 = 2 * code + x := ⟨_, rfl⟩
        have hval : bits .or .i64 ((code : Int) * 2) (x : Int) = (c1 : Int) := by
          have h0 := or_i64 (code * 2) x (by omega) (by omega)
          have h1 := Nat.two_pow_add_eq_or_of_lt (b := x) (i := 1) (by omega) code
          have h2 : (code * 2) ||| x = c1 := by rw [hc1, Nat.mul_comm code]; exact h1.symm
          rw [h2] at h0
          simpa using h0
        have hc1a : 2 * first ≤ c1 := by omega
        have hc1b : c1 < 65536 := by omega
        have HC1 := Lib.hid hc1
        clear hc1
        by_cases hlt2 : c1 < 2 * first + C n
        · obtain ⟨A, c, hA, hline⟩ := HKK.out.line
          obtain ⟨lb, rfl, hlb, _, hcell⟩ := hline (by omega)
          obtain ⟨i2, hi2⟩ : ∃ i2, i2 = isum C (n - 1) + (c1 - 2 * first) := ⟨_, rfl⟩
          have hcell2 := hcell i2 (by omega)
          obtain ⟨y, hy⟩ : ∃ y, y = ln.getD i2 0 := ⟨_, rfl⟩
          rw [← hy] at hcell2
          have HY := Lib.hid hy
          clear hy
          have ei : ((isum C (n - 1) : Int) + (c1 : Int) - (first : Int) * 2).toNat = i2 := by omega
          have hi3 : i2 < ln.length := by omega
          have HI := Lib.hid hi2
          clear hcell hline hi2
          go_wp2_with fail
          go_ret2
          refine ⟨HG1.out, .inl ⟨i2, p' + 1, ?_, hi3, by rw [← HY.out]; rfl, HB1.out⟩⟩
          rw [hx.out]
          obtain ⟨f, hf⟩ : ∃ f, 16 - n = f + 1 := ⟨15 - n, by omega⟩
          rw [hf, nxt, if_neg hp, ← HXX.out, ← HC1.out, if_pos hlt2, HI.out]
        · go_wp2_with fail
          go_roundw
          case rel => exact ⟨n + 1, c1, 2 * first + C n, p' + 1, by omega, by omega, rfl, by go_num, by rw [show n + 1 - 1 = n from rfl, HS0.out]; go_num, by go_num, by omega, by
            show _ < _
            have h1 := HC1.out
            have h2 := hc.out
            obtain ⟨n', rfl⟩ : ∃ n', n = n' + 1 := ⟨n - 1, by omega⟩
            simp only [Nat.add_sub_cancel, Nat.pow_succ] at h2 ⊢
            omega, by
            show _ = _
            rw [hx.out]
            obtain ⟨f, hf⟩ : ∃ f, 16 - n = f + 1 := ⟨15 - n, by omega⟩
            have hf2 : 16 - (n + 1) = f := by omega
            rw [hf, hf2, nxt, if_neg hp, ← HXX.out, ← HC1.out, if_neg hlt2, show n + 1 - 1 = n from rfl, HS0.out], HB1, HG1⟩
          case measure => simp [intOf]; omega
    · have hd : decide ((n : Int) ≤ 15) = false := by simp; omega
      obtain rfl : n = 16 := by omega
      go_wp2_with fail
      go_ret2
      exact ⟨hg.out, .inr ⟨by rw [hx.out]; rfl, rfl⟩⟩
end Go.Proofs.YtejgoienkpaabaaDoor

/- The contract of the closure that reads a number of several bits. -/
namespace Go.Proofs.YtejgoienkpaabaaDoor
open Go.RowKit
set_option maxRecDepth 100000
theorem or_bit (v x : Nat) (hv : v < 1000000000) (hx : x ≤ 1) : bits .or .i64 ((v : Int) * 2) (x : Int) = ((2 * v + x : Nat) : Int) := by
  have h0 := or_i64 (v * 2) x (by omega) (by omega)
  have h1 := Nat.two_pow_add_eq_or_of_lt (b := x) (i := 1) (by omega) v
  have h2 : (v * 2) ||| x = 2 * v + x := by rw [Nat.mul_comm v]; exact h1.symm
  rw [h2] at h0
  simpa using h0
def NBPost (w : World) (ga gb h o cap : Nat) (bs : List UInt8) (r : Option (Nat × Nat)) (e : Ending) (w' : World) : Prop :=
  w.grownBy w' (some ga) ∧
  ((∃ v p', r = some (v, p') ∧ e = .returned (.tuple #[.int .i64 (v : Int), .bool true]) ∧ Bits w' ga gb h o cap bs p') ∨ (r = none ∧ e = .returned (.tuple #[.int .i64 0, .bool false])))
def NBRel (w : World) (ga gb h o cap : Nat) (bs : List UInt8) (k p : Nat) (vv vi : Value) (wr : World) : Prop :=
  ∃ i v p' : Nat, i ≤ k ∧ vi = .int .i64 i ∧ vv = .int .i64 v ∧ Hid (v < 2 ^ i) ∧ Hid (nbits bs k 0 p = nbits bs (k - i) v p') ∧ Hid (Bits wr ga gb h o cap bs p') ∧ Hid (w.grownBy wr (some ga))
set_option maxHeartbeats 1000000 in
theorem bits_any (gf ga gb h o cap : Nat) (bs : List UInt8) (k p : Nat) (w : World) (hf : Blk w gf 91 #[.func (.func 45) #[] #[.pointer (some ⟨ga, 0, none⟩), .pointer (some ⟨gb, 0, none⟩)]]) (b : Bits w ga gb h o cap bs p) (hk : k ≤ 20) :
    Calls Tryd.prog 46 #[.int .i64 k, .pointer (some ⟨gf, 0, none⟩)] w fun e w' => NBPost w ga gb h o cap bs (nbits bs k 0 p) e w' := by
  have HF := Lib.hid hf
  have HB := Lib.hid b
  have hne : gf ≠ ga := hf.ne_ b.at_ (by decide)
  clear hf b
  go_enter Tryd.func46, Tryd.ntmps46
  go_wp2_with fail
  go_loopw [5, 9] (fun vv vi wr => NBRel w ga gb h o cap bs k p vv vi wr) (fun _ vi _ => k - (intOf vi).toNat)
  case atStart => exact ⟨0, 0, p, by omega, rfl, rfl, by show _ < _; decide, rfl, HB, gb_refl _ _⟩
  case round =>
    obtain ⟨i, v, p', hi, rfl, rfl, hv, hx, hb, hg⟩ := hrel
    by_cases hlt : i < k
    · have hfc := (HF.out.gb hg.out (by simpa using hne)).cell 0
      simp at hfc
      go_wp2_with fail
      by_cases hp : 8 * bs.length ≤ p'
      · refine (bit_none ga gb h o cap bs p' _ hb.out hp).mono ?_
        rintro e w1 ⟨rfl, rfl⟩
        go_wp2_with fail
        go_ret2
        refine ⟨hg.out, .inr ⟨?_, rfl⟩⟩
        rw [hx.out]
        obtain ⟨f, hf⟩ : ∃ f, k - i = f + 1 := ⟨k - i - 1, by omega⟩
        rw [hf, nbits, if_pos hp]
      · refine (bit_some ga gb h o cap bs p' _ hb.out (by omega)).mono ?_
        rintro e w1 ⟨rfl, hb1, hg1⟩
        obtain ⟨x, hxx⟩ : ∃ x, x = bitOf bs p' := ⟨_, rfl⟩
        have hx1 : x ≤ 1 := by rw [hxx]; exact bitOf_le _ _
        have HB1 := Lib.hid hb1
        have HG1 := Lib.hid (gb_trans hg.out hg1)
        clear hb1 hg1 hfc
        rw [← hxx]
        have HXX := Lib.hid hxx
        clear hxx
        have hvb : v < 1048576 := Nat.lt_of_lt_of_le hv.out (Nat.pow_le_pow_right (by decide) (show i ≤ 20 by omega))
        have hval := or_bit v x (by omega) hx1
        obtain ⟨c1, hc1⟩ : ∃ c1, c1 = 2 * v + x := ⟨_, rfl⟩
        rw [← hc1] at hval
        have HC1 := Lib.hid hc1
        clear hc1
        go_wp2_with fail
        go_roundw
        case rel => exact ⟨i + 1, c1, p' + 1, by omega, by go_num, rfl, by
          show _ < _
          have h1 := HC1.out
          have h2 := hv.out
          rw [Nat.pow_succ]
          omega, by
          show _ = _
          rw [hx.out]
          obtain ⟨f, hf⟩ : ∃ f, k - i = f + 1 := ⟨k - i - 1, by omega⟩
          have hf2 : k - (i + 1) = f := by omega
          rw [hf, hf2, nbits, if_neg hp, ← HXX.out, ← HC1.out], HB1, HG1⟩
        case measure => simp [intOf]; omega
    · go_wp2_with fail
      go_ret2
      refine ⟨hg.out, .inl ⟨v, p', ?_, rfl, hb.out⟩⟩
      rw [hx.out, show k - i = 0 by omega]
      rfl
end Go.Proofs.YtejgoienkpaabaaDoor

/- Plain: how press reads a copy. -/
namespace Go.Proofs.YtejgoienkpaabaaDoor
def copyOut : Nat → Nat → List UInt8 → List UInt8
  | 0, _, out => out
  | i + 1, back, out => copyOut i back out ++ [(copyOut i back out).getD ((copyOut i back out).length - back) 0]
theorem copyOut_length (i back : Nat) (out : List UInt8) : (copyOut i back out).length = out.length + i := by
  induction i with
  | zero => rfl
  | succ i ih => simp [copyOut, ih]; omega
/-- a length's or a way back's number: below 'free' it stands itself; else its extra bits follow -/
def extra (bs : List UInt8) (free sub low k p : Nat) : Option (Nat × Nat) :=
  if k < free then some (low + k, p) else (nbits bs (k - sub) 0 p).map fun x => (low + 2 ^ (k - sub) + x.1, x.2)
def copiedP (C : Nat → Nat) (ln : List Nat) (bs : List UInt8) (n k : Nat) (out : List UInt8) (p : Nat) : Option (List UInt8 × Nat) :=
  (extra bs 8 5 3 k p).bind fun a =>
    if ln.length = 0 then none else
    (nxt C bs 15 1 0 0 0 a.2).bind fun b =>
      (extra bs 4 2 1 (ln.getD b.1 0) b.2).bind fun c =>
        if out.length < c.1 ∨ n - out.length < a.1 then none else some (copyOut a.1 c.1 out, c.2)
end Go.Proofs.YtejgoienkpaabaaDoor
