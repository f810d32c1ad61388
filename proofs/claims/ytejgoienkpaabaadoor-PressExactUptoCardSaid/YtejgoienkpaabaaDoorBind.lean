/- The contract of press.bind. -/
import Derived.Test.YtejgoienkpaabaaDoorCode2
import Derived.Test.YtejgoienkpaabaaDoorBindP
import Derived.Deep.RegionHeld3
namespace Go.Proofs.YtejgoienkpaabaaDoor
open Go.RowKit
set_option maxRecDepth 100000
/-- ints as cells -/
def I (l : List Nat) : List Value := l.map fun (n : Nat) => Value.int .i64 (n : Int)
theorem I_length (l : List Nat) : (I l).length = l.length := by simp [I]
theorem I_append (a b : List Nat) : I (a ++ b) = I a ++ I b := by simp [I]
theorem I_get (l : List Nat) (i : Nat) : (I l)[i]? = l[i]?.map fun b => .int .i64 (b : Int) := by simp [I]
theorem I_one (l : List Nat) : ∀ u ∈ I l, u.oneCell' = true := by
  intro u hu
  simp only [I, List.mem_map] at hu
  obtain ⟨b, _, rfl⟩ := hu
  rfl
/-- a row of ints that lies in old memory -/
def Row (w : World) (B b off : Nat) (row : List Nat) : Prop := b < B ∧ ∀ j, j < row.length → w.cell? ⟨b, off + j, none⟩ = some (.int .i64 (row.getD j 0 : Int))
theorem Row.below {w w' : World} {B b off : Nat} {row : List Nat} (h : Row w B b off row) (hb : Below B w w') : Row w' B b off row :=
  ⟨h.1, fun j hj => (hb.cell (p := ⟨b, off + j, none⟩) h.1).trans (h.2 j hj)⟩
/-- a book's cells -/
def bookCells (C : Nat → Nat) (v : Value) : Array Value := ((List.range 16).map (fun j => Value.int .i64 (C j : Int)) ++ [v]).toArray
theorem bookCells_get (C : Nat → Nat) (v : Value) (j : Nat) (hj : j < 16) : (bookCells C v)[j]? = some (.int .i64 (C j : Int)) := by
  simp [bookCells, List.getElem?_append_left, hj]
theorem bookCells_line (C : Nat → Nat) (v : Value) : (bookCells C v)[16]? = some v := by
  simp [bookCells]
theorem bookCells_set (C : Nat → Nat) (v : Value) (n x : Nat) (hn : n < 16) : (bookCells C v).setIfInBounds n (.int .i64 (x : Int)) = bookCells (fun j => if j = n then x else C j) v := by
  apply Array.ext_getElem?
  intro i
  rw [Array.getElem?_setIfInBounds]
  by_cases h : n = i
  · subst h
    rw [if_pos rfl, bookCells_get _ _ _ hn, if_pos (by simp [bookCells]; omega)]
    simp
  · rw [if_neg h]
    by_cases hi : i < 16
    · rw [bookCells_get _ _ _ hi, bookCells_get _ _ _ hi, if_neg (fun e => h e.symm)]
    · by_cases h16 : i = 16
      · subst h16; rw [bookCells_line, bookCells_line]
      · rw [Array.getElem?_eq_none (by simp [bookCells]; omega), Array.getElem?_eq_none (by simp [bookCells]; omega)]
theorem bookCells_setLine (C : Nat → Nat) (v u : Value) : (bookCells C v).setIfInBounds 16 u = bookCells C u := by
  apply Array.ext_getElem?
  intro i
  rw [Array.getElem?_setIfInBounds]
  by_cases h : 16 = i
  · subst h
    rw [if_pos rfl, bookCells_line, if_pos (by simp [bookCells])]
  · rw [if_neg h]
    by_cases hi : i < 16
    · rw [bookCells_get _ _ _ hi, bookCells_get _ _ _ hi]
    · rw [Array.getElem?_eq_none (by simp [bookCells]; omega), Array.getElem?_eq_none (by simp [bookCells]; omega)]
/-- a book while it is gathered: block g; its line is the call's own -/
structure Bst (w0 wr : World) (g : Nat) (st : BS) (v : Value) : Prop where
  blk : Blk wr g 124 (bookCells st.C v)
  own : wr.ownsRow w0.heap.size 3 1 v st.ln.length (I st.ln)
  below : Below w0.heap.size w0 wr
  hg : w0.heap.size ≤ g

theorem Bst.cell {w0 wr : World} {g : Nat} {st : BS} {v : Value} (h : Bst w0 wr g st v) (j : Nat) (hj : j < 16) : wr.cell? ⟨g, j, none⟩ = some (.int .i64 (st.C j : Int)) := by rw [h.blk.cell]; exact bookCells_get _ _ _ hj
theorem Bst.line {w0 wr : World} {g : Nat} {st : BS} {v : Value} (h : Bst w0 wr g st v) : wr.cell? ⟨g, 16, none⟩ = some v := by rw [h.blk.cell]; exact bookCells_line _ _
theorem Bst.start (w : World) : Bst w (w.alloc (.cells (bookCells (fun _ => 0) (.slice none 0 0)) 124)) w.heap.size (bOut [] 0) (.slice none 0 0) :=
  ⟨Blk.new w 124 _, World.ownsRow_nil _ _ _ _, (Below.refl _ _).alloc (Nat.le_refl _) _, Nat.le_refl _⟩
theorem zero_cells : bookCells (fun _ => 0) (.slice none 0 0) = #[Value.int IntKind.i64 0, Value.int IntKind.i64 0, Value.int IntKind.i64 0, Value.int IntKind.i64 0,
    Value.int IntKind.i64 0, Value.int IntKind.i64 0, Value.int IntKind.i64 0, Value.int IntKind.i64 0,
    Value.int IntKind.i64 0, Value.int IntKind.i64 0, Value.int IntKind.i64 0, Value.int IntKind.i64 0,
    Value.int IntKind.i64 0, Value.int IntKind.i64 0, Value.int IntKind.i64 0, Value.int IntKind.i64 0,
    Value.slice Option.none 0 0] := rfl
theorem own_set_other {w : World} {base : Nat} {e : TypeId} {size : Nat} {v : Value} {n : Nat} {xs : List Value} (h : w.ownsRow base e size v n xs) {a : Addr} (ha : v.ownBlock ≠ some a.block) (u : Value) :
    (w.setCell a u).ownsRow base e size v n xs := by
  obtain ⟨h1, h2⟩ := h
  refine ⟨h1, ?_⟩
  rcases h2 with h2 | ⟨g, cap, cur, hv, hg, hh, r⟩
  · exact Or.inl h2
  · refine Or.inr ⟨g, cap, cur, hv, hg, ?_, r⟩
    rw [Below.heap_setCell _ _ _ _ (by rintro rfl; apply ha; rw [hv]; rfl)]
    exact hh
/-- the count is raised -/
theorem Bst.inc {w wr : World} {g k : Nat} {st : BS} {v : Value} (h : Bst w wr g st v) (hk : k < 16) :
    Bst w (wr.setCell ⟨g, k, none⟩ (.int .i64 ((st.C k : Int) + 1))).drew g ⟨fun j => if j = k then st.C k + 1 else st.C j, st.ln, st.sum⟩ v := by
  have hne := own_blk_ne h.own h.blk (by decide)
  have b1 : Blk (wr.setCell ⟨g, k, none⟩ (.int .i64 ((st.C k : Int) + 1))) g 124 (bookCells (fun j => if j = k then st.C k + 1 else st.C j) v) := by
    have := h.blk.set_ k (.int .i64 ((st.C k + 1 : Nat) : Int))
    rw [bookCells_set _ _ _ _ hk] at this
    simpa using this
  exact ⟨b1, own_set_other h.own hne _, (h.below.setCell (p := ⟨g, k, none⟩) h.hg _).drew, h.hg⟩
/-- the line grows -/
theorem Bst.push {w wr : World} {g s : Nat} {st : BS} {v v' : Value} {w2 : World} (h : Bst w wr g st v) (hg : wr.grownBy w2 v.ownBlock)
    (hown : w2.ownsRow w.heap.size 3 1 v' (st.ln.length + 1) (I st.ln ++ [.int .i64 (s : Int)])) (sum : Nat) :
    (w2.cell? ⟨g, 16, none⟩ = some v ∧ w2.frozen? ⟨g, 16, none⟩ = false) ∧ Bst w (w2.setCell ⟨g, 16, none⟩ v') g ⟨st.C, st.ln ++ [s], sum⟩ v' := by
  have hne := own_blk_ne h.own h.blk (by decide)
  have b3 : Blk w2 g 124 _ := h.blk.gb hg (fun e => hne e.symm)
  have hne2 := own_blk_ne hown b3 (by decide)
  refine ⟨⟨by rw [b3.cell]; exact bookCells_line _ _, b3.frozen 16⟩, ?_, ?_, ?_, h.hg⟩
  · have := b3.set_ 16 v'
    rw [bookCells_setLine] at this
    exact this
  · have := own_set_other hown (a := ⟨g, 16, none⟩) hne2 v'
    simpa [I_append, I] using this
  · have hb3 := h.below.grown hg h.below.size (fun q hq => (h.own.lt q hq).1)
    exact hb3.setCell (p := ⟨g, 16, none⟩) h.hg v'
theorem shl_pow (k : Nat) (hk : k ≤ 15) : IntKind.i64.wrap (2 ^ (15 - k)) = ((2 ^ (15 - k) : Nat) : Int) := by
  have hp : 2 ^ (15 - k) ≤ 32768 := Nat.pow_le_pow_right (by decide) (show 15 - k ≤ 15 by omega)
  have e : ((2 : Int) ^ (15 - k)) = ((2 ^ (15 - k) : Nat) : Int) := by simp
  rw [e]
  generalize 2 ^ (15 - k) = z at *
  exact wraps_i64 _ (by omega) (by omega)
theorem ret2b {p : Value} {a b : Bool} (h : a = b) : Ending.returned (.tuple #[p, .bool a]) = .returned (.tuple #[p, .bool b]) := by rw [h]
theorem eqb (a b : Nat) : ((a : Int) == (b : Int)) = decide (a = b) := by rw [Bool.eq_iff_iff]; simp; omega
def OutRel (w : World) (row : List Nat) (u n : Value) (wr : World) : Prop :=
  ∃ (k : Nat) (v : Value), 1 ≤ k ∧ k ≤ 16 ∧ n = .int .i64 k ∧ u = .int .i64 ((bOut row (k - 1)).sum : Int) ∧ Hid (Bst w wr w.heap.size (bOut row (k - 1)) v)
def InRel (w : World) (row : List Nat) (k : Nat) (u n : Value) (wr : World) : Prop :=
  ∃ (s : Nat) (v : Value), s ≤ row.length ∧ n = .int .i64 s ∧ u = .int .i64 ((bIn row k s (bOut row (k - 1))).sum : Int) ∧ Hid (Bst w wr w.heap.size (bIn row k s (bOut row (k - 1))) v)
def BindPost (w : World) (row : List Nat) (nn : Bool) (e : Ending) (w' : World) : Prop :=
  ∃ v, e = .returned (.tuple #[.pointer (some ⟨w.heap.size, 0, none⟩), .bool (bOk row nn)]) ∧ Bst w w' w.heap.size (bOut row 15) v
set_option maxHeartbeats 1000000 in
theorem bind_any (b off cap : Nat) (row : List Nat) (nn : Bool) (w : World) (hr : Row w w.heap.size b off row) (hl : row.length ≤ 1000) :
    Calls Tryd.prog 44 #[.slice (some ⟨b, off, none⟩) row.length cap, .bool nn] w fun e w' => BindPost w row nn e w' := by
  have hst : Bst w (w.alloc (.cells #[Value.int IntKind.i64 0, Value.int IntKind.i64 0, Value.int IntKind.i64 0, Value.int IntKind.i64 0,
    Value.int IntKind.i64 0, Value.int IntKind.i64 0, Value.int IntKind.i64 0, Value.int IntKind.i64 0,
    Value.int IntKind.i64 0, Value.int IntKind.i64 0, Value.int IntKind.i64 0, Value.int IntKind.i64 0,
    Value.int IntKind.i64 0, Value.int IntKind.i64 0, Value.int IntKind.i64 0, Value.int IntKind.i64 0,
    Value.slice Option.none 0 0] 124)) w.heap.size (bOut row 0) (.slice none 0 0) := Bst.start w
  obtain ⟨i0, hi, hz0, hz1, hz2⟩ := info_parts info3
  have HS := Lib.hid hst
  have HR := Lib.hid hr
  clear hst hr
  go_enter Tryd.func44, Tryd.ntmps44
  go_wp2_with fail
  go_loopw [7, 8] (fun u n wr => OutRel w row u n wr) (fun _ n _ => 16 - (intOf n).toNat)
  case atStart => exact ⟨1, _, by omega, by omega, rfl, rfl, HS⟩
  case round =>
    obtain ⟨k, v, hk1, hk2, rfl, rfl, hB⟩ := hrel
    by_cases hlt : k ≤ 15
    · have hd : decide ((k : Int) ≤ 15) = true := by simp; omega
      go_wp2_with fail
      obtain ⟨wo, rfl⟩ : ∃ wo : World, wo = wr := ⟨_, rfl⟩
      go_loopw [7, 19] (fun u n wr => InRel w row k u n wr) (fun _ n _ => row.length - (intOf n).toNat)
      case atStart => exact ⟨0, v, by omega, rfl, rfl, hB⟩
      case round =>
        obtain ⟨s, v1, hs, rfl, rfl, hB1⟩ := hrel
        by_cases hlt1 : s < row.length
        · obtain ⟨x, hx⟩ : ∃ x, x = row.getD s 0 := ⟨_, rfl⟩
          have hcell : wr.cell? ⟨b, off + s, none⟩ = some (.int .i64 (x : Int)) := by rw [hx]; exact (HR.out.below hB1.out.below).2 s hlt1
          have hc1 := hB1.out.cell k (by omega)
          have hf1 := hB1.out.blk.frozen k
          have HX := Lib.hid hx
          clear hx
          by_cases hxk : x = k
          · have hxb : ((x : Int) == (k : Int)) = true := beq_iff_eq.2 (by omega)
            have HXK := Lib.hid hxk
            clear hxk
            have hL := hB1.out.line
            have hle := bIn_le row k s (bOut row (k - 1))
            have hle2 := bOut_le row (k - 1)
            have hm : (k - 1) * row.length ≤ 15 * row.length := Nat.mul_le_mul_right _ (by omega)
            have hb1 : (bIn row k s (bOut row (k - 1))).sum ≤ 1000000000 := by omega
            have hb2 : (bIn row k s (bOut row (k - 1))).ln.length ≤ 100000 := by omega
            have hb3 : (bIn row k s (bOut row (k - 1))).C k ≤ 100000 := by have := hle.2.2 k; have := hle2.2.2 k; omega
            clear hle hle2 hm
            have hval := shl_pow k hlt
            obtain ⟨y, hy⟩ : ∃ y : Nat, y = 2 ^ (15 - k) := ⟨_, rfl⟩
            have hyb : y ≤ 32768 := by rw [hy]; exact Nat.pow_le_pow_right (by decide) (show 15 - k ≤ 15 by omega)
            rw [← hy] at hval
            have HNX : Hid (bIn row k (s + 1) (bOut row (k - 1)) = ⟨fun j => if j = k then (bIn row k s (bOut row (k - 1))).C k + 1 else (bIn row k s (bOut row (k - 1))).C j, (bIn row k s (bOut row (k - 1))).ln ++ [s], (bIn row k s (bOut row (k - 1))).sum + y⟩) := by
              show _ = _
              rw [bIn, ← HX.out, HXK.out, hy]
              simp [bStep]
            clear hy
            generalize bIn row k s (bOut row (k - 1)) = st at *
            go_wp2_with fail
            go_region
            have HB2 := Lib.hid (hB1.out.inc (k := k) (by omega))
            generalize (wr.setCell ⟨w.heap.size, k, none⟩ (.int .i64 ((st.C k : Int) + 1))).drew = wq at *
            obtain ⟨A1, c1, hv1⟩ := own_shape HB2.out.own
            rw [hv1] at HB2
            have hL2 := HB2.out.line
            have hf2 := HB2.out.blk.frozen 16
            have hO := Lib.hid HB2.out.own
            have hsz := HB2.out.below.size
            clear hc1 hf1 hL hB1 hv1
            go_wp2_with (first
              | (at_builtin
                 refine wpList_push wq rfl (.tmp 41) (.tmp 43) 36 rfl w.heap.size 3 i0 (.int .i64 0) 8 Tryd.underlying36 hi hz0 hz1 hz2 rfl A1 st.ln.length c1 (I st.ln) rfl hO.out (.int .i64 (s : Int)) _ rfl rfl (by omega) (by unfold maxLen; omega) hsz ?_
                 intro A2 c2 w2 hown2 hg2
                 have HP := Lib.hid (HB2.out.push hg2 hown2 (st.sum + y))
                 have hL3 := HP.out.1.1
                 have hf3 := HP.out.1.2
                 clear hown2 hg2 hL2 hf2 hO)
              | fail)
            go_roundw
            case rel => exact ⟨s + 1, _, by omega, by go_num, by rw [HNX.out]; simp, by rw [HNX.out]; exact HP.out.2⟩
            case measure => simp [intOf]; omega
          · have hxb : ((x : Int) == (k : Int)) = false := beq_eq_false_iff_ne.2 (by omega)
            have HNX : Hid (bIn row k (s + 1) (bOut row (k - 1)) = bIn row k s (bOut row (k - 1))) := by
              show _ = _
              rw [bIn, ← HX.out]
              simp [bStep, hxk]
            generalize bIn row k s (bOut row (k - 1)) = st at *
            go_wp2_with fail
            go_roundw
            case rel => exact ⟨s + 1, _, by omega, by go_num, by rw [HNX.out], by rw [HNX.out]; exact hB1⟩
            case measure => simp [intOf]; omega
        · have hse : bIn row k s (bOut row (k - 1)) = bOut row k := by
            obtain rfl : s = row.length := by omega
            obtain ⟨k', rfl⟩ : ∃ k', k = k' + 1 := ⟨k - 1, by omega⟩
            rfl
          rw [hse] at hB1 ⊢
          clear hse
          go_wp2_with fail
          go_roundw
          case rel => exact ⟨k + 1, _, by omega, by omega, by go_num, rfl, hB1⟩
          case measure => simp [intOf]; omega
    · obtain rfl : k = 16 := by omega
      have hB' : Hid (Bst w wr w.heap.size (bOut row 15) v) := hB
      clear hB
      obtain ⟨A1, c1, hv1⟩ := own_shape hB'.out.own
      rw [hv1] at hB'
      have hL := hB'.out.line
      have hc1 := hB'.out.cell 1 (by omega)
      have hle := (bOut_le row 15).2.1
      have hok : Hid (bOk row nn = if (bOut row 15).ln.length = 0 then nn else if (bOut row 15).ln.length = 1 then decide ((bOut row 15).C 1 = 1) else decide ((bOut row 15).sum = 32768)) := rfl
      clear hv1
      show Code.wp _ _ _ _ _
      simp only [Nat.reduceSub]
      generalize hst : bOut row 15 = st at *
      have HST := Lib.hid hst
      clear hst
      by_cases h0 : st.ln.length = 0
      · have hb0 : ((st.ln.length : Int) == 0) = true := beq_iff_eq.2 (by omega)
        have H0 := Lib.hid h0
        clear h0
        go_wp2_with fail
        go_ret2
        exact ⟨_, by rw [hok.out, if_pos H0.out]; rfl, by rw [HST.out]; exact hB'.out⟩
      · have hb0 : ((st.ln.length : Int) == 0) = false := beq_eq_false_iff_ne.2 (by omega)
        have H0 := Lib.hid h0
        by_cases h1 : st.ln.length = 1
        · have hb1 : ((st.ln.length : Int) == 1) = true := beq_iff_eq.2 (by omega)
          have H1 := Lib.hid h1
          clear h1 h0
          go_wp2_with fail
          go_quiet (fail)
          go_wp2_with fail
          go_ret2
          refine ⟨_, ?_, by rw [HST.out]; exact ⟨hB'.out.blk, hB'.out.own, ⟨hB'.out.below.os, hB'.out.below.tape, hB'.out.below.output, hB'.out.below.size, hB'.out.below.block⟩, hB'.out.hg⟩⟩
          rw [hok.out, if_neg H0.out, if_pos H1.out]
          exact ret2b (eqb _ 1)
        · have hb1 : ((st.ln.length : Int) == 1) = false := beq_eq_false_iff_ne.2 (by omega)
          have H1 := Lib.hid h1
          clear h1 h0
          go_wp2_with fail
          go_ret2
          refine ⟨_, ?_, by rw [HST.out]; exact hB'.out⟩
          rw [hok.out, if_neg H0.out, if_neg H1.out]
          exact ret2b (eqb _ 32768)
end Go.Proofs.YtejgoienkpaabaaDoor
