/- RefE (merged: one text behind the other). -/
import Derived.Test.YtejgoienkpaabaaDoorMg09
import Derived.Test.YtejgoienkpaabaaDoorMg05
import Derived.Deep.RegionLaw
import Derived.Lib.AppendStr
import Derived.Deep.LoopGhost
/- Contract of the reference's coded. -/
namespace Go.Proofs.YtejgoienkpaabaaDoor
open Go.RowKit
set_option maxRecDepth 100000
theorem step_pushK {P : Program} (W : World) {ops : Array Oper} {o : Oper} {a : Act} {K : Act → World → Prop} {Q : Exit → Act → World → Prop} {E : Prop} (hgd : o.guard = none) (s x : Operand) (t : TypeId)
    (ho : o.op = .call { callee := .builtin .append, args := #[s, x], argTypes := #[t, t] })
    (base : Nat) (e : TypeId) (i : TypeInfo) (z : Value) (size bytes : Nat) (ht : P.underlying t = some (.slice e)) (hi : P.info? e = some i) (hz : i.zero = some z)
    (hsize : i.size = size) (hby : i.bytes = bytes) (hzs : z.cells.size = size) (hsz : 0 < size)
    (A : Option Addr) (n c : Nat) (xs : List Value) (hs : a.eval s = .slice A n c) (hown : W.ownsRow base e size (.slice A n c) n xs)
    (us : Array Value) (m : Nat) (te : TypeId) (hus : us.size = m * size) (h1 : ∀ u ∈ us.toList, u.oneCell' = true) (hx : a.eval x = .slice (some ⟨W.heap.size, 0, none⟩) m m)
    (hbytes : (n + m) * bytes ≤ 140737488355328) (h63 : n + m ≤ maxLen) (hbase : base ≤ W.heap.size)
    (h : ∀ A' c' w', w'.ownsRow base e size (.slice A' (n + m) c') (n + m) (xs ++ us.toList) → W.grownBy w' (Value.slice A n c).ownBlock → K (a.put o.dst (.slice A' (n + m) c')) w') :
    if Region.wanted o (yielded ops a.tmps) = true then Oper.wp P o a (W.alloc (.cells us te)) K Q else E := by
  have hw : Region.wanted o (yielded ops a.tmps) = true := by simp [Region.wanted, hgd]
  rw [if_pos hw]
  refine wp_append_own (W.alloc (.cells us te)) s x t ho base e i z size bytes ht hi hz hsize hby hzs hsz (.slice A n c) n xs hs (hown.alloc _) ⟨W.heap.size, 0, none⟩ m m us.toList hx (by simpa using hus) ?_ h1 h63 hbytes (by simp; omega) ?_
  · intro j v hj
    have := (Blk.new W te us).cell j
    rw [addr_add, Nat.zero_add, this]
    simpa using hj
  · intro v' w' ho' hg' _
    obtain ⟨A', c', rfl⟩ := own_shape ho'
    exact h A' c' w' ho' (gb_trans (gb_alloc (gb_refl _ _) _) hg')
def RCodPost (w : World) (b : List UInt8) (n : Nat) (e : Ending) (w' : World) : Prop :=
  Below w.heap.size w w' ∧
  ((∃ out A c, 0 < n ∧ 148 ≤ b.length ∧ refCoded b n = some out ∧ e = .returned (.tuple #[.slice A out.length c, .bool true]) ∧ w'.ownsRow w.heap.size 5 1 (.slice A out.length c) out.length (U out)) ∨
   ((0 < n → 148 ≤ b.length → refCoded b n = none) ∧ e = .returned (.tuple #[.slice none 0 0, .bool false])))
def lensTo (b : List UInt8) (k : Nat) : List Nat := (List.range k).map (lenAt b)
theorem lensTo_length (b : List UInt8) (k : Nat) : (lensTo b k).length = k := by simp [lensTo]
theorem lensTo_two (b : List UInt8) (i : Nat) : lensTo b (2 * i + 2) = lensTo b (2 * i) ++ [(b.getD i 0).toNat / 16 % 16, (b.getD i 0).toNat % 16] := by
  have h1 : lenAt b (2 * i) = (b.getD i 0).toNat / 16 % 16 := by simp [lenAt]
  have h2 : lenAt b (2 * i + 1) = (b.getD i 0).toNat % 16 := by
    have e1 : (2 * i + 1) / 2 = i := by omega
    have e2 : (2 * i + 1) % 2 = 1 := by omega
    rw [lenAt, e1, e2]; simp
  simp [lensTo, List.range_succ, h1, h2]
theorem row_of {w : World} {base g L c : Nat} {b : List UInt8} (h : w.ownsRow base 3 1 (.slice (some ⟨g, 0, none⟩) L c) L (I (lensTo b L))) (hL : L = 296) (hg : g < w.heap.size) :
    Row w w.heap.size g 0 (symRow b) ∧ Row w w.heap.size g 277 (distRow b) := by
  subst hL
  have hc : ∀ j, j < 296 → w.cell? ⟨g, j, none⟩ = some (.int .i64 (lenAt b j : Int)) := by
    intro j hj
    rw [h.cellAt j (by omega), I_get]
    simp [lensTo, hj]
  refine ⟨⟨hg, fun j hj => ?_⟩, hg, fun j hj => ?_⟩
  · have hj' : j < 277 := by simpa [symRow] using hj
    rw [Nat.zero_add, hc j (by omega)]
    simp [symRow, hj', List.getD_eq_getElem?_getD]
  · have hj' : j < 18 := by simpa [distRow] using hj
    rw [hc (277 + j) (by omega)]
    simp [distRow, hj', List.getD_eq_getElem?_getD]
theorem lenAt_lt (b : List UInt8) (i : Nat) : lenAt b i ≤ 15 := by unfold lenAt; omega
theorem symRow_le (b : List UInt8) (s : Nat) : (symRow b).getD s 0 ≤ 15 := by
  rw [List.getD_eq_getElem?_getD]
  cases h : (symRow b)[s]? with
  | none => decide
  | some x =>
    have := List.mem_of_getElem? h
    simp only [symRow, List.mem_map] at this
    obtain ⟨i, _, rfl⟩ := this
    exact lenAt_lt b i
theorem distRow_le (b : List UInt8) (s : Nat) : (distRow b).getD s 0 ≤ 15 := by
  rw [List.getD_eq_getElem?_getD]
  cases h : (distRow b)[s]? with
  | none => decide
  | some x =>
    have := List.mem_of_getElem? h
    simp only [distRow, List.mem_map] at this
    obtain ⟨i, _, rfl⟩ := this
    exact lenAt_lt b _
theorem whole_n (b off cap n : Nat) (row : List Nat) (nn : Bool) (w : World) (hn : row.length = n) (hr : Row w w.heap.size b off row) (hl : n ≤ 1000) (h15 : ∀ s, row.getD s 0 ≤ 15) :
    Calls Tryd.prog 54 #[.slice (some ⟨b, off, none⟩) n cap, .bool nn] w fun e w' => e = .returned (.bool (wOk row nn)) ∧ w' = w := by
  subst hn; exact whole_any b off cap row nn w hr hl h15
theorem codes_n (b off cap n : Nat) (row : List Nat) (w : World) (hn : row.length = n) (hr : Row w w.heap.size b off row) (hl : n ≤ 1000) :
    Calls Tryd.prog 50 #[.slice (some ⟨b, off, none⟩) n cap] w fun e w' => CodesPost w row e w' := by
  subst hn; exact codes_any b off cap row w hr hl
theorem cIn_mem (row : List Nat) (n s : Nat) (st : CS) (hn : n ≤ 15) (hs : s ≤ row.length) (h : ∀ x ∈ st.l, x.1 < row.length ∧ x.2.length ≤ 15) : ∀ x ∈ (cIn row n s st).l, x.1 < row.length ∧ x.2.length ≤ 15 := by
  induction s with
  | zero => exact h
  | succ s ih =>
    have := ih (by omega)
    simp only [cIn, cStep]
    split
    · intro x hx
      simp only [List.mem_append, List.mem_singleton] at hx
      rcases hx with hx | rfl
      · exact this x hx
      · exact ⟨by simp only; omega, by simp only [digs_length]; omega⟩
    · exact this
theorem cOut_mem (row : List Nat) (m : Nat) (hm : m ≤ 15) : ∀ x ∈ (cOut row m).l, x.1 < row.length ∧ x.2.length ≤ 15 := by
  induction m with
  | zero => intro x hx; simp [cOut] at hx
  | succ m ih => exact cIn_mem row (m + 1) row.length _ hm (Nat.le_refl _) (ih (by omega))
theorem cOut_getD (row : List Nat) (m j : Nat) (hm : m ≤ 15) : ((cOut row m).l.getD j (0, [])).2.length ≤ 1000 := by
  rw [List.getD_eq_getElem?_getD]
  cases h : (cOut row m).l[j]? with
  | none => simp
  | some x => have := (cOut_mem row m hm x (List.mem_of_getElem? h)).2; simp; omega
theorem crow_of_own {w : World} {base c : Nat} {A : Option Addr} {l : List (Nat × List UInt8)} (h : w.ownsRow base 126 2 (.slice A l.length c) l.length (K l)) : CRow w A l := by
  rcases h.2 with ⟨_, h2⟩ | ⟨g, cap, cur, hv, hg, hh, h1, h2, h3, h4⟩
  · exact .inl (List.eq_nil_of_length_eq_zero h2)
  · injection hv with hv
    subst hv
    refine .inr ⟨g, cur, rfl, hh, fun j hj => ?_⟩
    have hk := K_get l j
    rw [List.getElem?_eq_getElem hj] at hk
    have hc : ∀ i, i < l.length * 2 → cur[i]? = (K l)[i]? := by
      intro i hi
      rw [← h4, List.getElem?_take, if_pos hi]
      simp
    rw [show j * 2 = 2 * j by omega, hc _ (by omega), hc _ (by omega), hk.1, hk.2, List.getD_eq_getElem?_getD, List.getElem?_eq_getElem hj]
    exact ⟨rfl, rfl⟩
theorem CRow.fr {w w' : World} {A : Option Addr} {l : List (Nat × List UInt8)} {g base : Nat} {t : TypeId} {cs : Array Value} (h : CRow w A l) (hg : Blk w g t cs) (ht : t ≠ 126) (hf : Fr g base w w') (hb : w.heap.size ≤ base) : CRow w' A l := by
  rcases h with h | ⟨b, cs', hA, hB, hc⟩
  · exact .inl h
  · exact .inr ⟨b, cs', hA, hf.blk hB (by have := hB.lt; omega) (Blk.ne_ hB hg (fun e => ht e.symm)), hc⟩
/-- the text that is laid from byte 148 on, up to byte i -/
def txt (b : List UInt8) (i : Nat) : List UInt8 := bitText ((b.take i).drop 148)
theorem txt_succ (b : List UInt8) (i : Nat) (h : 148 ≤ i) (hi : i < b.length) : txt b (i + 1) = txt b i ++ digs (b.getD i 0).toNat 8 := by
  have e : (b.take (i + 1)).drop 148 = (b.take i).drop 148 ++ [b.getD i 0] := by
    rw [List.take_add_one, List.drop_append_of_le_length (by simp; omega), List.getD_eq_getElem?_getD, List.getElem?_eq_getElem hi]
    rfl
  rw [txt, e, bitText, List.flatMap_append]
  simp [txt, bitText]
theorem txt_all (b : List UInt8) (i : Nat) (h : i = b.length) : txt b i = bitText (b.drop 148) := by rw [txt, h, List.take_length]
theorem digs_dig (v n : Nat) : Dig (digs v n) := by
  induction n with
  | zero => intro c hc; cases hc
  | succ n ih =>
    intro c hc
    rcases List.mem_cons.1 hc with rfl | hc
    · rcases Nat.mod_two_eq_zero_or_one (v / 2 ^ n) with h | h <;> rw [h]
      · exact .inl rfl
      · exact .inr rfl
    · exact ih c hc
theorem bitText_dig (b : List UInt8) : Dig (bitText b) := by
  intro c hc
  simp only [bitText, List.mem_flatMap] at hc
  obtain ⟨x, _, hx⟩ := hc
  exact digs_dig _ _ c hx
theorem U_str (l : List UInt8) : Lib.strCells ⟨l.toArray⟩ = U l := by simp [Lib.strCells, U]
theorem refExtra_low {S S' : List UInt8} {a b f k x : Nat} (h : refExtra S a b f k = some (x, S')) : f ≤ x := by
  unfold refExtra at h
  split at h
  · injection h with h; injection h with h1 h2; omega
  · cases hv : valueP S (k - b) with
    | none => rw [hv] at h; cases h
    | some z => rw [hv] at h; injection h with h; injection h with h1 h2; rw [← h1, Nat.add_assoc]; exact Nat.le_add_right _ _
theorem refCopied_low {d : List (Nat × List UInt8)} {c x y : Nat} {S S' : List UInt8} (h : refCopied d c S = some (x, y, S')) : 3 ≤ x ∧ 1 ≤ y := by
  unfold refCopied at h
  cases h1 : refExtra S 8 5 3 c with
  | none => rw [h1] at h; cases h
  | some a =>
    rw [h1, Option.bind_some] at h
    cases h2 : codeP d a.2 with
    | none => rw [h2] at h; cases h
    | some b =>
      rw [h2, Option.bind_some] at h
      cases h3 : refExtra b.2 4 2 1 b.1 with
      | none => rw [h3] at h; cases h
      | some z =>
        rw [h3] at h
        injection h with h; injection h with e1 e2; injection e2 with e3 e4
        have q1 := refExtra_low (x := a.1) (S' := a.2) h1
        have q3 := refExtra_low (x := z.1) (S' := z.2) h3
        omega
def lenOf : Value → Nat
  | .slice _ n _ => n
  | _ => 0
@[go_sem] theorem build104 (t : ByteArray) (w : World) : (Instr.build 104 #[(0, .string t)]).run Tryd.prog w = .ok (.agg #[.string t, .bool false]) w := run_build w 104 _ _ (by kernel_rfl)
def TxtRel (W : World) (b : List UInt8) (vt vi : Value) (wr : World) : Prop :=
  ∃ (i L c : Nat) (A : Option Addr), 148 ≤ i ∧ i ≤ b.length ∧ vi = .int .i64 i ∧ Hid (L = 8 * (i - 148)) ∧ vt = .slice A L c ∧ Hid (wr.ownsRow W.heap.size 5 1 (.slice A L c) L (U (txt b i))) ∧ Hid (Below W.heap.size W wr)
def RcpRel (W : World) (gk base : Nat) (S : List UInt8) (back long : Nat) (out : List UInt8) (v0 vi : Value) (wr : World) : Prop :=
  ∃ (i L c : Nat) (A : Option Addr), i ≤ long ∧ Hid (L = out.length + i) ∧ vi = .int .i64 i ∧ v0 = .slice A L c ∧ Hid (wr.ownsRow base 5 1 (.slice A L c) L (U (copyOut i back out))) ∧ Hid (Lk wr gk S false) ∧ Hid (Fr gk base W wr)
def MainRel (W : World) (gk base n : Nat) (s d : List (Nat × List UInt8)) (T : List UInt8) (v : Value) (wr : World) : Prop :=
  ∃ (L c f : Nat) (A : Option Addr) (out S : List UInt8), Hid (L = out.length) ∧ L ≤ n ∧ n + 1 ≤ f + L ∧ v = .slice A L c ∧ Hid (wr.ownsRow base 5 1 (.slice A L c) L (U out)) ∧ Hid (Lk wr gk S false) ∧ Hid (Dig S) ∧ S.length ≤ 8 * Lim ∧ Hid (Fr gk base W wr) ∧ Hid (refDec s d n (n + 1) [] T = refDec s d n f out S)
def ZeroRel (S : List UInt8) (vj : Value) : Prop := ∃ j : Nat, j ≤ S.length ∧ vj = .int .i64 j ∧ Hid (∀ i, i < j → S.getD i 0 = 48)
theorem cOut_fst_lt (row : List Nat) (N : Nat) (h : row.length ≤ N) : ∀ s t, (s, t) ∈ (cOut row 15).l → s < N := fun s t hm => by have := (cOut_mem row 15 (by omega) (s, t) hm).1; simp only at this; omega
def RowRel (w : World) (b : List UInt8) (vr vi : Value) (wr : World) : Prop :=
  ∃ (i L c : Nat) (A : Option Addr), i ≤ 148 ∧ vi = .int .i64 i ∧ Hid (L = 2 * i) ∧ L ≤ 296 ∧ vr = .slice A L c ∧ Hid (wr.ownsRow w.heap.size 3 1 (.slice A L c) L (I (lensTo b L))) ∧ Hid (Below w.heap.size w wr)
set_option maxHeartbeats 2000000 in
theorem rcoded_any (A : Option Addr) (m c n : Nat) (b : List UInt8) (w : World) (hm : b.length = m) (h : Sl w A b) (hl : b.length ≤ Lim) (hn : n ≤ 65536) :
    Calls Tryd.prog 29 #[.slice A m c, .int .i64 n] w fun e w' => RCodPost w b n e w' := by
  subst hm
  have hl3 := Lim_le hl
  obtain ⟨i5, hi5, hz50, hz51, hz52⟩ := info_parts info5
  obtain ⟨i3, hi3, hz30, hz31, hz32⟩ := info_parts info3
  have H := Lib.hid h
  clear h
  go_enter Tryd.func29, Tryd.ntmps29
  by_cases hn1 : n < 1
  · have hd1 : decide ((n : Int) < 1) = true := decide_eq_true (by omega)
    go_wp2_with fail
    go_ret2
    exact ⟨Below.refl _ _, .inr ⟨fun h => absurd h (by omega), rfl⟩⟩
  have hd1 : decide ((n : Int) < 1) = false := decide_eq_false (by omega)
  by_cases hb1 : b.length < 148
  · have hd2 : decide ((b.length : Int) < 148) = true := decide_eq_true (by omega)
    go_wp2_with fail
    go_ret2
    exact ⟨Below.refl _ _, .inr ⟨fun _ h => absurd h (by omega), rfl⟩⟩
  have hd2 : decide ((b.length : Int) < 148) = false := decide_eq_false (by omega)
  obtain ⟨h, o, rfl, hh, hcell⟩ : ∃ h o, A = some ⟨h, o, none⟩ ∧ h < w.heap.size ∧ ∀ j, j < b.length → w.cell? ⟨h, o + j, none⟩ = some (.int .u8 ((b.getD j 0).toNat : Int)) := by
    rcases H.out with h | h
    · rw [h] at hb1; exact absurd (by decide) hb1
    · exact h
  have HC := Lib.hid hcell
  clear hcell
  obtain ⟨x, hx⟩ : ∃ x, x = (b.getD 147 0).toNat := ⟨_, rfl⟩
  have hx2 : x < 256 := by rw [hx]; exact (b.getD 147 0).toNat_lt
  have hc3 : w.cell? ⟨h, o + 147, none⟩ = some (.int .u8 (x : Int)) := by rw [hx]; exact HC.out 147 (by omega)
  have HX := Lib.hid hx
  clear hx
  by_cases hx16 : x % 16 = 0
  · have hxb : ((x : Int) % 16 != 0) = false := by rw [bne_eq_false_iff_eq]; omega
    have HX16 := Lib.hid hx16
    clear hx16
    go_wp2_with fail
    go_loopw [6, 7] (fun vr vi wr => RowRel w b vr vi wr) (fun _ vi _ => 148 - (intOf vi).toNat)
    case atStart => exact ⟨0, 0, 0, none, by omega, rfl, rfl, by omega, rfl, World.ownsRow_nil _ _ _ _, Below.refl _ _⟩
    case round =>
      obtain ⟨i, L, c1, A1, hi, rfl, hL, hL296, rfl, ho, hb⟩ := hrel
      by_cases hlt : i < 148
      · have hlt2 : decide ((i : Int) < 148) = true := decide_eq_true (by omega)
        obtain ⟨y, hy⟩ : ∃ y, y = (b.getD i 0).toNat := ⟨_, rfl⟩
        have hy2 : y < 256 := by rw [hy]; exact (b.getD i 0).toNat_lt
        have hcy : wr.cell? ⟨h, o + i, none⟩ = some (.int .u8 (y : Int)) := by rw [hy]; exact (hb.out.cell (p := ⟨h, o + i, none⟩) hh).trans (HC.out i (by omega))
        have HY := Lib.hid hy
        clear hy
        obtain ⟨q, hq⟩ : ∃ q, q = y / 16 := ⟨_, rfl⟩
        obtain ⟨r, hr⟩ : ∃ r, r = y % 16 := ⟨_, rfl⟩
        have e1 : (y : Int) / 16 = (q : Int) := by omega
        have e2 : (y : Int) % 16 = (r : Int) := by omega
        have e3 : (y : Int).tdiv 16 = (q : Int) := by rw [Int.tdiv_eq_ediv_of_nonneg (by omega)]; exact e1
        have e4 : (y : Int).tmod 16 = (r : Int) := by rw [Int.tmod_eq_emod_of_nonneg (by omega)]; exact e2
        have e5 : IntKind.i64.wrap (q : Int) = (q : Int) := wraps_i64 _ (by omega) (by omega)
        have e6 : IntKind.i64.wrap (r : Int) = (r : Int) := wraps_i64 _ (by omega) (by omega)
        have e7 : IntKind.i64.wrap (y : Int) = (y : Int) := wraps_i64 _ (by omega) (by omega)
        have HQ : Hid (q = y / 16 ∧ q < 16) := ⟨hq, by omega⟩
        have HR : Hid (r = y % 16) := hr
        clear hq hr
        have hib : (i : Int) < b.length := by omega
        have hsz := hb.out.size
        go_wp2_with fail
        go_region_law (first
          | (refine step_pushK wr.drew rfl (.tmp 39) (.tmp 52) 36 rfl w.heap.size 3 i3 (.int .i64 0) 1 8 Tryd.underlying36 hi3 hz30 hz31 hz32 rfl (by decide) A1 L c1 (I (lensTo b L)) (by simp [Act.eval]) ho.out #[.int .i64 (q : Int), .int .i64 (r : Int)] 2 _ rfl ?_ (by simp [Act.eval]) (by omega) (by unfold maxLen; omega) hsz ?_
             · intro u hu
               simp at hu
               rcases hu with rfl | rfl <;> rfl
             intro A2 c2 w2 hown2 hg2))
        all_goals
          have hb' : Hid (Below w.heap.size w wr.drew) := hb.out.drew
          clear hcy e1 e2 e3 e4 e5 e6 e7
          go_wp2_with fail
          go_roundw
          case rel =>
            refine ⟨i + 1, L + 2, c2, A2, by omega, by go_num, by show _ = _; rw [hL.out]; omega, by have := hL.out; omega, rfl, ?_, hb'.out.grown hg2 hsz (fun q hq => (ho.out.lt q hq).1)⟩
            show World.ownsRow _ _ _ _ _ _ _
            rw [hL.out] at hown2 ⊢
            rw [lensTo_two, ← HY.out, I_append, ← HR.out, ← HQ.out.1, Nat.mod_eq_of_lt HQ.out.2]
            exact hown2
          case measure => simp [intOf]; omega
      · obtain rfl : i = 148 := by omega
        obtain ⟨gr, cr, hv1, hgb1, hglt⟩ := ho.out.form (by have := hL.out; omega)
        injection hv1 with hv1 hv2 hv3
        subst hv1 hv3
        have hR := row_of ho.out hL.out hglt
        have HR1 := Lib.hid hR.1
        have HR2 := Lib.hid hR.2
        have hL2 : L = 296 := hL.out
        have hcap : L ≤ c1 := by
          rcases ho.out.2 with ⟨h, _⟩ | ⟨g', cap', cur', hv', _, _, hn', _⟩
          · cases h
          · injection hv' with _ _ h3; rw [h3]; exact hn'
        clear hR hc3 hL
        subst hL2
        have hcc : ¬ (c1 : Int) < 277 := by omega
        go_wp2_with fail
        refine (whole_n gr 0 c1 277 (symRow b) false wr (by simp [symRow]) HR1.out (by omega) (symRow_le b)).mono ?_
        rintro e w1 ⟨rfl, rfl⟩
        cases hk1 : wOk (symRow b) false with
        | false =>
          have HN : Hid (refCoded b n = none) := by show _ = _; rw [refCoded, if_pos (.inr (.inl hk1))]
          clear hk1
          go_wp2_with fail
          go_ret2
          exact ⟨hb.out, .inr ⟨fun _ _ => HN.out, rfl⟩⟩
        | true =>
        have HK1 := Lib.hid hk1
        clear hk1
        go_wp2_with fail
        refine (whole_n gr 277 (c1 - 277) 18 (distRow b) true w1 (by simp [distRow]) HR2.out (by omega) (distRow_le b)).mono ?_
        rintro e w2 ⟨rfl, rfl⟩
        cases hk2 : wOk (distRow b) true with
        | false =>
          have HN : Hid (refCoded b n = none) := by show _ = _; rw [refCoded, if_pos (.inr (.inr hk2))]
          clear hk2
          go_wp2_with fail
          go_ret2
          exact ⟨hb.out, .inr ⟨fun _ _ => HN.out, rfl⟩⟩
        | true =>
        have HCC : Hid (refCoded b n = (refDec (cOut (symRow b) 15).l (cOut (distRow b) 15).l n (n + 1) [] (bitText (b.drop 148))).bind fun a =>
            if 7 < a.2.length then none else if a.2.all (fun c => c == 48) then some a.1 else none) := by
          show _ = _
          have h1 := HX.out
          have h2 := HX16.out
          rw [refCoded, if_neg]
          rintro (h3 | h3 | h3)
          · rw [← h1] at h3; exact h3 h2
          · rw [HK1.out] at h3; cases h3
          · rw [hk2] at h3; cases h3
        clear hk2 HX HX16 HK1
        go_wp2_with fail
        refine (codes_n gr 0 c1 277 (symRow b) w2 (by simp [symRow]) HR1.out (by omega)).mono ?_
        rintro e w3 ⟨As, cs, rfl, hcs⟩
        have HR3 := Lib.hid ((HR2.out.below hcs.below))
        have HCS := Lib.hid (crow_of_own hcs.own)
        have hb3 := Lib.hid (hb.out.trans (hcs.below.mono hb.out.size))
        have hs3 := hcs.below.size
        clear hcs
        go_wp2_with fail
        refine (codes_n gr 277 (c1 - 277) 18 (distRow b) w3 (by simp [distRow]) ⟨by have := HR3.out.1; omega, HR3.out.2⟩ (by omega)).mono ?_
        rintro e w4 ⟨Ad, cd, rfl, hcd⟩
        have HCD := Lib.hid (crow_of_own hcd.own)
        have HCS4 := Lib.hid (HCS.out.below hcd.below)
        have hb4 := Lib.hid (hb3.out.trans (hcd.below.mono hb3.out.size))
        have HSl := Lib.hid (cOut_getD (symRow b) 15 · (by omega))
        have HDl := Lib.hid (cOut_getD (distRow b) 15 · (by omega))
        have HSm := Lib.hid (cOut_fst_lt (symRow b) 277 (by simp [symRow]))
        have HDm := Lib.hid (cOut_fst_lt (distRow b) 18 (by simp [distRow]))
        have hsl : (cOut (symRow b) 15).l.length ≤ 100000 := by have := (cOut_CB (symRow b) 15).2.1; simp [symRow] at this; simp [symRow]; omega
        have hdl : (cOut (distRow b) 15).l.length ≤ 100000 := by have := (cOut_CB (distRow b) 15).2.1; simp [distRow] at this; simp [distRow]; omega
        generalize (cOut (symRow b) 15).l = sc at *
        generalize (cOut (distRow b) 15).l = dc at *
        clear hcd HCS hb3 hs3 HR3 HR1 HR2 ho hb
        go_wp2_with fail
        go_loopw [12, 13] (fun vt vi wr => TxtRel w4 b vt vi wr) (fun _ vi _ => b.length - (intOf vi).toNat)
        case atStart => exact ⟨148, 0, 0, none, by omega, by omega, rfl, rfl, rfl, by rw [show txt b 148 = [] by rw [txt, List.drop_eq_nil_of_le (by simp; omega)]; rfl]; exact World.ownsRow_nil _ _ _ _, Below.refl _ _⟩
        case round =>
          obtain ⟨i, L, c5, A5, hi148, hib, rfl, hL, rfl, ho, hb⟩ := hrel
          by_cases hlt : i < b.length
          · obtain ⟨y, hy⟩ : ∃ y, y = (b.getD i 0).toNat := ⟨_, rfl⟩
            have hy2 : y < 256 := by rw [hy]; exact (b.getD i 0).toNat_lt
            have hcy : wr.cell? ⟨h, o + i, none⟩ = some (.int .u8 (y : Int)) := by rw [hy]; exact ((hb4.out.trans (hb.out.mono hb4.out.size)).cell (p := ⟨h, o + i, none⟩) hh).trans (HC.out i (by omega))
            have HY := Lib.hid hy
            clear hy
            go_wp2_with fail
            refine (digits_any y 8 wr (by omega)).mono ?_
            rintro e w5 ⟨rfl, hbw⟩
            have ho5 := Lib.hid (own_below ho.out hbw)
            have hsz := hb.out.size
            have hb5 := Lib.hid (hb.out.trans (hbw.mono hsz))
            have hsz5 : w4.heap.size ≤ w5.heap.size := Nat.le_trans hsz hbw.size
            have hds : (⟨(digs y 8).toArray⟩ : ByteArray).size = 8 := by simp [ByteArray.size, digs_length]
            have hLb : L ≤ 8796093022208 := by have := hL.out; omega
            clear ho hb hbw hcy
            go_wp2_with (first
              | (at_builtin
                 refine Lib.wpList_append_own_string w5 rfl (.tmp 76) (.tmp 82) 22 9 rfl w4.heap.size 5 i5 Tryd.underlying22 rfl hi5 hz50 hz51 hz52 (.slice A5 L c5) L (U (txt b i)) rfl ho5.out ⟨(digs y 8).toArray⟩ rfl (by unfold maxLen; omega) (by omega) hsz5 ?_
                 intro v6 w6 hown6 hg6 _)
              | fail)
            obtain ⟨A6, c6, rfl⟩ := own_shape hown6
            go_roundw
            case rel =>
              refine ⟨i + 1, L + 8, c6, A6, by omega, by omega, by go_num, by show _ = _; rw [hL.out]; omega, by rw [hds], ?_, hb5.out.grown hg6 hsz5 (fun q hq => (ho5.out.lt q hq).1)⟩
              show World.ownsRow _ _ _ _ _ _ _
              rw [txt_succ b i hi148 hlt, U_append, ← HY.out, ← U_str (digs y 8)]
              rw [hds] at hown6
              exact hown6
            case measure => simp [intOf]; omega
          · have hT := txt_all b i (by omega)
            have hTl : (txt b i).length = L := by have := ho.out.1; rw [U_length] at this; omega
            rw [hT] at hTl
            have HO : Hid (wr.ownsRow w4.heap.size 5 1 (.slice A5 L c5) L (U (bitText (b.drop 148)))) := by show World.ownsRow _ _ _ _ _ _ _; rw [← hT]; exact ho.out
            have hcv := run_str wr A5 L c5 (bitText (b.drop 148)) hTl (Sl.of_own HO.out)
            have HB6 := Lib.hid (hb4.out.trans (hb.out.mono hb4.out.size))
            have HCS6 := Lib.hid (HCS4.out.below hb.out)
            have HCD6 := Lib.hid (HCD.out.below hb.out)
            have HTD := Lib.hid (bitText_dig (b.drop 148))
            have hTl8 : (bitText (b.drop 148)).length ≤ 8 * Lim := by have := hL.out; omega
            have hsz6 := HB6.out.size
            clear ho hb hL hT hTl HO
            generalize bitText (b.drop 148) = T at *
            go_wp2_with fail
            have HL0 := Lib.hid (show Lk (wr.alloc (.cells #[.string ⟨T.toArray⟩, .bool false] 104)) wr.heap.size T false from ⟨Blk.new wr 104 _⟩)
            have HCS7 := Lib.hid (HCS6.out.below ((Below.refl wr.heap.size wr).alloc (Nat.le_refl _) (.cells #[.string ⟨T.toArray⟩, .bool false] 104)))
            have HCD7 := Lib.hid (HCD6.out.below ((Below.refl wr.heap.size wr).alloc (Nat.le_refl _) (.cells #[.string ⟨T.toArray⟩, .bool false] 104)))
            have HB7 := Lib.hid (HB6.out.alloc hsz6 (.cells #[.string ⟨T.toArray⟩, .bool false] 104))
            have hWs : (wr.alloc (.cells #[.string ⟨T.toArray⟩, .bool false] 104)).heap.size = wr.heap.size + 1 := by simp
            generalize wr.alloc (.cells #[.string ⟨T.toArray⟩, .bool false] 104) = W at *
            obtain ⟨gk, hgk⟩ : ∃ gk, gk = wr.heap.size := ⟨_, rfl⟩
            rw [← hgk] at HL0 hWs hsz6
            rw [← hgk]
            clear HB6 HCS6 HCD6 HCD HCS4 hcv hb4 hgk
            go_loopw [15] (fun v wr => MainRel W gk (gk + 1) n sc dc T v wr) (fun v _ => n - lenOf v)
            case atStart => exact ⟨0, 0, n + 1, none, [], T, rfl, by omega, by omega, rfl, World.ownsRow_nil _ _ _ _, HL0, HTD, hTl8, Fr.refl _ _ _, rfl⟩
            case round =>
              obtain ⟨L, c6, f, A6, out, S, hL, hLn, hf, rfl, ho, hlk, hdS, hSl, hfr, hdec⟩ := hrel
              have hszr : gk + 1 ≤ wr.heap.size := by have := hfr.out.size; omega
              by_cases hlt : L < n
              · obtain ⟨f', rfl⟩ : ∃ f', f = f' + 1 := ⟨f - 1, by omega⟩
                have HCSr := Lib.hid (HCS7.out.fr HL0.out.blk (by decide) hfr.out (by omega))
                have HCDr := Lib.hid (HCD7.out.fr HL0.out.blk (by decide) hfr.out (by omega))
                go_wp2_with fail
                refine (code_any gk cs As sc S false wr hlk.out HCSr.out hsl HSl.out).mono ?_
                rintro e w5 ⟨hg5, ⟨hcp, hl5, rfl⟩ | ⟨y, S5, hcp, hl5, rfl⟩⟩
                · have HN : Hid (refCoded b n = none) := by
                    show _ = _
                    rw [HCC.out, hdec.out, refDec, if_neg (by rw [← hL.out]; omega), hcp]; rfl
                  have hbad := hl5.b
                  have HFr := Lib.hid (hfr.out.trans (Fr.of_ga hg5 hszr))
                  clear hcp hg5 hl5
                  go_wp2_with fail
                  go_ret2
                  exact ⟨HB7.out.trans (HFr.out.below (by omega) (by omega)), .inr ⟨fun _ _ => HN.out, rfl⟩⟩
                · obtain ⟨hd5, hS5, t5, ht5⟩ := codeP_dig hdS.out hcp
                  have hy277 := HSm.out _ _ ht5
                  have hbad := hl5.b
                  have HL5 := Lib.hid hl5
                  have HCP := Lib.hid hcp
                  have HD5 := Lib.hid hd5
                  have HFr := Lib.hid (hfr.out.trans (Fr.of_ga hg5 hszr))
                  have HO5 := Lib.hid (own_gb_ga ho.out hg5 (by omega))
                  have hsz5 : gk + 1 ≤ w5.heap.size := by have := HFr.out.size; omega
                  have HCDr5 := Lib.hid (HCDr.out.gb hlk.out.blk (by decide) hg5)
                  clear hcp hg5 hl5 hd5 ht5
                  by_cases hy256 : y < 256
                  · have hyb : decide ((y : Int) < 256) = true := decide_eq_true (by omega)
                    have hwy : IntKind.u8.wrap (y : Int) = (y : Int) := wraps_u8 _ (by omega) (by omega)
                    have hdec2 : Hid (refDec sc dc n (n + 1) [] T = refDec sc dc n f' (out ++ [UInt8.ofNat y]) S5) := by
                      show _ = _
                      rw [hdec.out, refDec, if_neg (by rw [← hL.out]; omega), HCP.out, Option.bind_some, if_pos hy256]
                    go_wp2_with (first
                      | (at_builtin
                         refine wpList_push w5 rfl (.tmp 101) (.tmp 104) 22 rfl (gk + 1) 5 i5 (.int .u8 0) 1 Tryd.underlying22 hi5 hz50 hz51 hz52 rfl A6 L c6 (U out) rfl HO5.out (.int .u8 (y : Int)) _ rfl rfl (by omega) (by unfold maxLen; omega) hsz5 ?_
                         intro A8 c8 w8 hown8 hg8)
                      | fail)
                    go_roundw
                    case rel =>
                      have hr8 : ∀ q, (Value.slice A6 L c6).ownBlock = some q → gk + 1 ≤ q := fun q hq => (HO5.out.lt q hq).1
                      refine ⟨L + 1, c8, f', A8, out ++ [UInt8.ofNat y], S5, by show _ = _; rw [hL.out]; simp, by omega, by omega, rfl, ?_, ⟨HL5.out.blk.gb hg8 (fun q => by have := hr8 _ q.symm; omega)⟩, HD5, by omega, HFr.out.trans (Fr.of_row hg8 hsz5 hr8), hdec2⟩
                      show World.ownsRow _ _ _ _ _ _ _
                      have e1 : ((UInt8.ofNat y).toNat : Int) = (y : Int) := by simp; omega
                      have e2 : (y : Int) % 256 = (y : Int) := by omega
                      simpa [U_append, U, e1, e2] using hown8
                    case measure => simp [lenOf]; omega
                  · have hyb : decide ((y : Int) < 256) = false := decide_eq_false (by omega)
                    obtain ⟨z, hz⟩ : ∃ z, z = y - 256 := ⟨_, rfl⟩
                    have ez : (y : Int) - 256 = (z : Int) := by omega
                    have hz20 : z ≤ 20 := by omega
                    have HZ := Lib.hid hz
                    clear hz
                    go_wp2_with fail
                    refine (rcop_any gk cd z Ad dc S5 w5 HL5.out HCDr5.out hdl HDl.out HD5.out hz20 HDm.out).mono ?_
                    rintro e w6 ⟨hg6, ⟨hcp, S6, x6, y6, hl6, rfl⟩ | ⟨long, back, S6, hcp, hl6, rfl⟩⟩
                    · have HN : Hid (refCoded b n = none) := by
                        show _ = _
                        rw [HCC.out, hdec.out, refDec, if_neg (by rw [← hL.out]; omega), HCP.out, Option.bind_some, if_neg hy256, ← HZ.out, hcp]; rfl
                      have hbad6 := hl6.b
                      have HFr6 := Lib.hid (HFr.out.trans (Fr.of_ga hg6 hsz5))
                      clear hcp hg6 hl6
                      go_wp2_with fail
                      go_ret2
                      exact ⟨HB7.out.trans (HFr6.out.below (by omega) (by omega)), .inr ⟨fun _ _ => HN.out, rfl⟩⟩
                    · have hbad6 := hl6.b
                      have HL6 := Lib.hid hl6
                      have HFr6 := Lib.hid (HFr.out.trans (Fr.of_ga hg6 hsz5))
                      have HO6 := Lib.hid (own_gb_ga HO5.out hg6 (by omega))
                      have HD6 := Lib.hid (refCopied_len HD5.out hcp).1
                      have hS6 := (refCopied_len HD5.out hcp).2
                      obtain ⟨hlong, hback⟩ := refCopied_low hcp
                      have HC6 : Hid (refDec sc dc n (n + 1) [] T = if out.length < back ∨ n - out.length < long then none else refDec sc dc n f' (copyOut long back out) S6) := by
                        show _ = _
                        rw [hdec.out, refDec, if_neg (by rw [← hL.out]; omega), HCP.out, Option.bind_some, if_neg hy256, ← HZ.out, hcp, Option.bind_some]
                      have hsz6 : gk + 1 ≤ w6.heap.size := by have := HFr6.out.size; omega
                      clear hcp hg6 hl6
                      by_cases hbk : L < back
                      · have hbt : decide ((L : Int) < (back : Int)) = true := decide_eq_true (by omega)
                        have HN : Hid (refCoded b n = none) := by
                          show _ = _
                          rw [HCC.out, HC6.out, if_pos (.inl (by rw [← hL.out]; exact hbk))]; rfl
                        go_wp2_with fail
                        go_ret2
                        exact ⟨HB7.out.trans (HFr6.out.below (by omega) (by omega)), .inr ⟨fun _ _ => HN.out, rfl⟩⟩
                      · have hbt : decide ((L : Int) < (back : Int)) = false := decide_eq_false (by omega)
                        by_cases hlg : n - L < long
                        · have hlt2 : decide ((n : Int) - (L : Int) < (long : Int)) = true := decide_eq_true (by omega)
                          have HN : Hid (refCoded b n = none) := by
                            show _ = _
                            rw [HCC.out, HC6.out, if_pos (.inr (by rw [← hL.out]; exact hlg))]; rfl
                          go_wp2_with fail
                          go_ret2
                          exact ⟨HB7.out.trans (HFr6.out.below (by omega) (by omega)), .inr ⟨fun _ _ => HN.out, rfl⟩⟩
                        · have hlt2 : decide ((n : Int) - (L : Int) < (long : Int)) = false := decide_eq_false (by omega)
                          have HE : Hid (refDec sc dc n (n + 1) [] T = refDec sc dc n f' (copyOut long back out) S6) := by
                            show _ = _
                            rw [HC6.out, if_neg (by rw [← hL.out]; omega)]
                          go_wp2_with fail
                          go_loopw [15, 19] (fun v0 vi wr => RcpRel W gk (gk + 1) S6 back long out v0 vi wr) (fun _ vi _ => long - (intOf vi).toNat)
                          case atStart => exact ⟨0, L, c6, A6, by omega, hL, rfl, rfl, HO6, HL6, HFr6⟩
                          case round =>
                            obtain ⟨i1, L1, c7, A7, hi1, hL1, rfl, rfl, ho1, hlk1, hf1⟩ := hrel
                            by_cases hlt1 : i1 < long
                            · obtain ⟨g1, cap1, hv1, hgb1, hglt1⟩ := ho1.out.form (by have := hL1.out; have := hL.out; omega)
                              injection hv1 with hv1 hv2 hv3
                              subst hv1 hv3
                              obtain ⟨j, hj⟩ : ∃ j, j = L1 - back := ⟨_, rfl⟩
                              have hLm : L ≤ L1 := by have := hL1.out; have := hL.out; omega
                              have hLb : L1 ≤ 200000 := by have := hL1.out; have := hL.out; omega
                              have hjL : (j : Int) < L1 := by omega
                              have ej : ((L1 : Int) - (back : Int)) = (j : Int) := by omega
                              have hcl := copyOut_length i1 back out
                              obtain ⟨y7, hy7⟩ : ∃ y7 : Nat, y7 = ((copyOut i1 back out).getD j 0).toNat := ⟨_, rfl⟩
                              have hcell7 : wr.cell? ⟨g1, j, none⟩ = some (.int .u8 (y7 : Int)) := by
                                rw [ho1.out.cellAt j (by omega), U_get, hy7]
                                have hjl : j < (copyOut i1 back out).length := by have := hL1.out; omega
                                rw [List.getElem?_eq_getElem hjl, List.getD_eq_getElem?_getD, List.getElem?_eq_getElem hjl]
                                rfl
                              have hjlit : Hid (j = (copyOut i1 back out).length - back) := by show _ = _; rw [hj, hcl]; have := hL1.out; omega
                              have HY7 := Lib.hid hy7
                              have hsz7 : gk + 1 ≤ wr.heap.size := by have := hf1.out.size; omega
                              clear hy7 hj hcl
                              go_wp2_with (first
                                | (at_builtin
                                   refine wpList_push wr rfl (.tmp 137) (.tmp 145) 22 rfl (gk + 1) 5 i5 (.int .u8 0) 1 Tryd.underlying22 hi5 hz50 hz51 hz52 rfl (some ⟨g1, 0, none⟩) L1 c7 (U (copyOut i1 back out)) rfl ho1.out (.int .u8 (y7 : Int)) _ rfl rfl (by omega) (by unfold maxLen; omega) hsz7 ?_
                                   intro A9 c9 w9 hown9 hg9)
                                | fail)
                              go_roundw
                              case rel =>
                                have hr9 : ∀ q, (Value.slice (some ⟨g1, 0, none⟩) L1 c7).ownBlock = some q → gk + 1 ≤ q := fun q hq => (ho1.out.lt q hq).1
                                refine ⟨i1 + 1, L1 + 1, c9, A9, by omega, by show _ = _; rw [hL1.out]; omega, by go_num, rfl, ?_, ⟨hlk1.out.blk.gb hg9 (fun q => by have := hr9 _ q.symm; omega)⟩, hf1.out.trans (Fr.of_row hg9 hsz7 hr9)⟩
                                show World.ownsRow _ _ _ _ _ _ _
                                rw [copyOut, U_append, ← hjlit.out]
                                have := HY7.out
                                simpa [U, this] using hown9
                              case measure => simp [intOf]; omega
                            · obtain rfl : i1 = long := by omega
                              go_wp2_with fail
                              go_roundw
                              case rel =>
                                have := hL1.out
                                have := hL.out
                                exact ⟨L1, c7, f', A7, copyOut i1 back out, S6, by show _ = _; rw [copyOut_length]; exact hL1.out, by omega, by omega, rfl, ho1, hlk1, HD6, by omega, hf1, HE⟩
                              case measure =>
                                have := hL1.out
                                have := hL.out
                                simp [lenOf]; omega
              · obtain ⟨f', rfl⟩ : ∃ f', f = f' + 1 := ⟨f - 1, by omega⟩
                have hdec2 : Hid (refDec sc dc n (n + 1) [] T = some (out, S)) := by
                  show _ = _
                  rw [hdec.out, refDec, if_pos (by rw [← hL.out]; omega)]
                have hcS := hlk.out.s
                have hlen : (⟨S.toArray⟩ : ByteArray).size = S.length := by simp [ByteArray.size]
                clear hdec
                by_cases h7 : 7 < S.length
                · have hd7 : decide ((7 : Int) < (S.length : Int)) = true := decide_eq_true (by omega)
                  have HN : Hid (refCoded b n = none) := by
                    show _ = _
                    rw [HCC.out, hdec2.out, Option.bind_some, if_pos h7]
                  go_wp2_with fail
                  go_ret2
                  exact ⟨HB7.out.trans (hfr.out.below (by omega) (by omega)), .inr ⟨fun _ _ => HN.out, rfl⟩⟩
                · have hd7 : decide ((7 : Int) < (S.length : Int)) = false := decide_eq_false (by omega)
                  have HC7 : Hid (refCoded b n = if S.all (fun c => c == 48) then some out else none) := by
                    show _ = _
                    rw [HCC.out, hdec2.out, Option.bind_some, if_neg h7]
                  go_wp2_with fail
                  go_loop [20] (fun vj => ZeroRel S vj) (fun vj => S.length - (intOf vj).toNat)
                  case atStart => exact ⟨0, by omega, rfl, fun i hi => absurd hi (by omega)⟩
                  case round =>
                    obtain ⟨j, hj, rfl, hz⟩ := hrel
                    by_cases hjl : j < S.length
                    · have hix := ix_str wr S j hjl
                      obtain ⟨y, hy⟩ : ∃ y, y = (S.getD j 0).toNat := ⟨_, rfl⟩
                      rw [← hy] at hix
                      have hy2 : y < 256 := by rw [hy]; exact (S.getD j 0).toNat_lt
                      have HY := Lib.hid hy
                      clear hy
                      by_cases hy48 : y = 48
                      · have hyb : ((y : Int) != 48) = false := by rw [bne_eq_false_iff_eq]; omega
                        have HY48 := Lib.hid hy48
                        clear hy48
                        go_wp2_with fail
                        go_round
                        case rel =>
                          refine ⟨j + 1, by omega, by go_num, fun i hi => ?_⟩
                          by_cases hij : i = j
                          · subst hij
                            have h1 := HY.out
                            rw [HY48.out] at h1
                            exact UInt8.toNat_inj.1 h1.symm
                          · exact hz.out i (by omega)
                        case measure => simp [intOf]; omega
                      · have hyb : ((y : Int) != 48) = true := by simp; omega
                        have HN : Hid (refCoded b n = none) := by
                          show _ = _
                          rw [HC7.out, if_neg]
                          intro h
                          rw [List.all_eq_true] at h
                          have h1 := h (S.getD j 0) (by rw [List.getD_eq_getElem?_getD, List.getElem?_eq_getElem hjl]; exact List.getElem_mem _)
                          have h2 : S.getD j 0 = 48 := beq_iff_eq.1 h1
                          apply hy48
                          rw [HY.out, h2]; rfl
                        go_wp2_with fail
                        go_ret2
                        exact ⟨HB7.out.trans (hfr.out.below (by omega) (by omega)), .inr ⟨fun _ _ => HN.out, rfl⟩⟩
                    · have HS : Hid (refCoded b n = some out) := by
                        show _ = _
                        rw [HC7.out, if_pos]
                        rw [List.all_eq_true]
                        intro c hc
                        obtain ⟨i, hi, rfl⟩ := List.getElem_of_mem hc
                        have := hz.out i (by omega)
                        rw [List.getD_eq_getElem?_getD, List.getElem?_eq_getElem hi] at this
                        exact beq_iff_eq.2 this
                      have hL2 := hL.out
                      subst hL2
                      go_wp2_with fail
                      go_ret2
                      exact ⟨HB7.out.trans (hfr.out.below (by omega) (by omega)), .inl ⟨out, A6, c6, by omega, by omega, HS.out, rfl, own_base ho.out (by omega)⟩⟩
  · have hxb : ((x : Int) % 16 != 0) = true := by simp; omega
    go_wp2_with fail
    go_ret2
    exact ⟨Below.refl _ _, .inr ⟨fun _ _ => by rw [refCoded, if_pos (.inl (by rw [← HX.out]; exact hx16))], rfl⟩⟩
end Go.Proofs.YtejgoienkpaabaaDoor
