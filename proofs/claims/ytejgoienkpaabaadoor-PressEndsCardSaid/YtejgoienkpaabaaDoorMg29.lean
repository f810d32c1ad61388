/- ShrQ, ShrR (merged: one text behind the other). -/
import Derived.Test.YtejgoienkpaabaaDoorMg24
import Derived.Test.YtejgoienkpaabaaDoorMg26
import Derived.Test.YtejgoienkpaabaaDoorMg27
import Derived.Test.YtejgoienkpaabaaDoorMg28
import Derived.Deep.RegionHeld3
/- press.shorter, what its walk leans on. -/
namespace Go.Proofs.YtejgoienkpaabaaDoor
open Go.RowKit
set_option maxRecDepth 100000
/-- the j-th token in memory -/
def TokAt (w : World) (T : Nat) (A : Option Addr) (n c : Nat) (ts : List Tok) : Prop := w.ownsRow T 118 5 (.slice A n c) n (TK ts)
theorem TK_get (ts : List Tok) (j k : Nat) (hk : k < 5) : (TK ts)[j * 5 + k]? = ts[j]?.bind fun t => (tokV t)[k]? := by
  induction ts generalizing j with
  | nil => simp [TK]
  | cons t ts ih =>
    have e : TK (t :: ts) = (tokV t).toList ++ TK ts := by simp [TK]
    rw [e]
    cases j with
    | zero =>
      rw [List.getElem?_append_left (by simp [tokV]; omega)]
      simp
    | succ j =>
      have h5 : (tokV t).toList.length = 5 := by simp [tokV]
      rw [List.getElem?_append_right (by omega), h5, show (j + 1) * 5 + k - 5 = j * 5 + k by omega, ih]
      simp
theorem tok_cells {w : World} {T n c j g : Nat} {ts : List Tok} (h : w.ownsRow T 118 5 (.slice (some ⟨g, 0, none⟩) n c) n (TK ts)) (hn : n = ts.length) (hj : j < n) (t : Tok) (ht : ts[j]? = some t) :
    w.cell? ⟨g, j * 5, none⟩ = some (.int .i64 (t.sym : Int)) ∧ w.cell? ⟨g, j * 5 + 1, none⟩ = some (.int .i64 (t.extra : Int)) ∧ w.cell? ⟨g, j * 5 + 2, none⟩ = some (.int .i64 (t.dist : Int)) ∧ w.cell? ⟨g, j * 5 + 3, none⟩ = some (.int .i64 (t.far : Int)) ∧ w.cell? ⟨g, j * 5 + 4, none⟩ = some (.bool t.cp) := by
  have gen : ∀ k, k < 5 → w.cell? ⟨g, j * 5 + k, none⟩ = (tokV t)[k]? := by
    intro k hk
    rw [h.cellAt (j * 5 + k) (by omega), TK_get ts j k hk, ht]
    rfl
  exact ⟨gen 0 (by omega), gen 1 (by omega), gen 2 (by omega), gen 3 (by omega), gen 4 (by omega)⟩
def ShRel (w4 : World) (T gl gu gw : Nat) (A : Option Addr) (n c : Nat) (ts : List Tok) (fu fw : List Nat) (vj : Value) (wr : World) : Prop :=
  ∃ (j : Nat) (u d : List Nat), j ≤ n ∧ vj = .int .i64 j ∧ Hid (Blk wr gl 85 (IA (List.replicate 295 0))) ∧ Hid (Blk wr gu 82 (IA u)) ∧ Hid (Blk wr gw 83 (IA d)) ∧ u.length = 277 ∧ d.length = 18 ∧ u.sum ≤ j ∧ d.sum ≤ j ∧
    Hid (usedL (ts.drop j) u = fu) ∧ Hid (waysL (ts.drop j) d = fw) ∧ Hid (wr.ownsRow T 118 5 (.slice A n c) n (TK ts)) ∧ Hid (Below T w4 wr) ∧ Hid (T ≤ wr.heap.size)
theorem z85 : Tryd.zeroCells85 = IA (List.replicate 295 0) := by kernel_rfl
theorem z82 : Tryd.zeroCells82 = IA (List.replicate 277 0) := by kernel_rfl
theorem z83 : (#[Value.int IntKind.i64 0, Value.int IntKind.i64 0, Value.int IntKind.i64 0, Value.int IntKind.i64 0, Value.int IntKind.i64 0, Value.int IntKind.i64 0, Value.int IntKind.i64 0, Value.int IntKind.i64 0, Value.int IntKind.i64 0, Value.int IntKind.i64 0, Value.int IntKind.i64 0, Value.int IntKind.i64 0, Value.int IntKind.i64 0, Value.int IntKind.i64 0, Value.int IntKind.i64 0, Value.int IntKind.i64 0, Value.int IntKind.i64 0, Value.int IntKind.i64 0] : Array Value) = IA (List.replicate 18 0) := by kernel_rfl
theorem IA_at0 (u : List Nat) (i : Nat) (h : i < u.length) : (IA u)[i]? = some (.int .i64 (u.getD i 0 : Int)) := by
  rw [IA_get, List.getElem?_eq_getElem h]
  simp [List.getD_eq_getElem?_getD, List.getElem?_eq_getElem h]
theorem IA_bump (u : List Nat) (s : Nat) (h : s < u.length) : (IA u).setIfInBounds s (.int .i64 ((u.getD s 0 + 1 : Nat) : Int)) = IA (bump u s) := by
  have := IA_set [] u [] s (u.getD s 0 + 1) h
  simpa [bump] using this
/-- the counts behind one token -/
theorem sh_step {w4 wr : World} {T gl gu gw n c j : Nat} {A : Option Addr} {ts : List Tok} {fu fw u d : List Nat} {t : Tok} (hj : j < n) (ht : ts[j]? = some t) (H1 : Blk wr gl 85 (IA (List.replicate 295 0))) (H2 : Blk wr gu 82 (IA u)) (H3 : Blk wr gw 83 (IA d)) (hu : u.length = 277) (hd : d.length = 18) (h1 : u.sum ≤ j) (h2 : d.sum ≤ j)
    (H4 : usedL (ts.drop j) u = fu) (H5 : waysL (ts.drop j) d = fw) (H6 : wr.ownsRow T 118 5 (.slice A n c) n (TK ts)) (H7 : Below T w4 wr) (H8 : T ≤ wr.heap.size) (htl : T ≤ gu ∧ T ≤ gw) (hs : t.sym < 277) (hds : t.cp = true → t.dist < 18) :
    (t.cp = true → ∀ k : Nat, ShRel w4 T gl gu gw A n c ts fu fw (.int .i64 ((j + 1 : Nat) : Int)) ((((wr.alloc (.cells (tokV t) 118)).setCell ⟨gu, t.sym, none⟩ (.int .i64 ((u.getD t.sym 0 + 1 : Nat) : Int))).setCell ⟨gw, t.dist, none⟩ (.int .i64 ((d.getD t.dist 0 + 1 : Nat) : Int))).drewN k)) ∧
    (t.cp = false → ∀ k : Nat, ShRel w4 T gl gu gw A n c ts fu fw (.int .i64 ((j + 1 : Nat) : Int)) (((wr.alloc (.cells (tokV t) 118)).setCell ⟨gu, t.sym, none⟩ (.int .i64 ((u.getD t.sym 0 + 1 : Nat) : Int))).drewN k)) := by
  have hdr : ts.drop j = t :: ts.drop (j + 1) := by
    obtain ⟨hlt, he⟩ := List.getElem?_eq_some_iff.1 ht
    rw [List.drop_eq_getElem_cons hlt, he]
  rw [hdr] at H4 H5
  rw [usedL] at H4
  rw [waysL] at H5
  have a1 := H1.alloc (.cells (tokV t) 118)
  have a2 := H2.alloc (.cells (tokV t) 118)
  have a3 := H3.alloc (.cells (tokV t) 118)
  have a6 := H6.alloc (.cells (tokV t) 118)
  have b1 : Blk ((wr.alloc (.cells (tokV t) 118)).setCell ⟨gu, t.sym, none⟩ (.int .i64 ((u.getD t.sym 0 + 1 : Nat) : Int))) gl 85 _ := a1.far (p := ⟨gu, t.sym, none⟩) (Blk.ne_ a1 a2 (by decide)) _
  have b2 := a2.set_ t.sym (.int .i64 ((u.getD t.sym 0 + 1 : Nat) : Int))
  rw [IA_bump u t.sym (by omega)] at b2
  have b3 : Blk ((wr.alloc (.cells (tokV t) 118)).setCell ⟨gu, t.sym, none⟩ (.int .i64 ((u.getD t.sym 0 + 1 : Nat) : Int))) gw 83 _ := a3.far (p := ⟨gu, t.sym, none⟩) (Blk.ne_ a3 a2 (by decide)) _
  have b6 := own_set_other a6 (a := ⟨gu, t.sym, none⟩) (own_blk_ne a6 a2 (by decide)) (.int .i64 ((u.getD t.sym 0 + 1 : Nat) : Int))
  have b7 : Below T w4 ((wr.alloc (.cells (tokV t) 118)).setCell ⟨gu, t.sym, none⟩ (.int .i64 ((u.getD t.sym 0 + 1 : Nat) : Int))) := (H7.alloc H8 _).setCell (p := ⟨gu, t.sym, none⟩) htl.1 _
  have hus : (bump u t.sym).sum ≤ j + 1 := by have := bump_le u t.sym; omega
  refine ⟨fun hc k => ?_, fun hc k => ?_⟩
  · rw [if_pos hc] at H5
    have c1 := b1.far (p := ⟨gw, t.dist, none⟩) (Blk.ne_ b1 b3 (by decide)) (.int .i64 ((d.getD t.dist 0 + 1 : Nat) : Int))
    have c2 := b2.far (p := ⟨gw, t.dist, none⟩) (Blk.ne_ b2 b3 (by decide)) (.int .i64 ((d.getD t.dist 0 + 1 : Nat) : Int))
    have c3 := b3.set_ t.dist (.int .i64 ((d.getD t.dist 0 + 1 : Nat) : Int))
    rw [IA_bump d t.dist (by have := hds hc; omega)] at c3
    have c6 := own_set_other b6 (a := ⟨gw, t.dist, none⟩) (own_blk_ne b6 b3 (by decide)) (.int .i64 ((d.getD t.dist 0 + 1 : Nat) : Int))
    have c7 := b7.setCell (p := ⟨gw, t.dist, none⟩) htl.2 (.int .i64 ((d.getD t.dist 0 + 1 : Nat) : Int))
    exact ⟨j + 1, bump u t.sym, bump d t.dist, hj, rfl, c1, c2, c3, by rw [bump_length, hu], by rw [bump_length, hd], hus, by have := bump_le d t.dist; omega, H4, H5, c6, ⟨c7.os, c7.tape, c7.output, c7.size, c7.block⟩, by unfold Hid; simp; omega⟩
  · rw [hc] at H5
    exact ⟨j + 1, bump u t.sym, d, hj, rfl, b1, b2, b3, by rw [bump_length, hu], hd, hus, by omega, H4, H5, b6, ⟨b7.os, b7.tape, b7.output, b7.size, b7.block⟩, by unfold Hid; simp; omega⟩
theorem e295 : List.replicate 295 0 = [] ++ List.replicate 277 0 ++ List.replicate 18 0 := by decide +kernel
theorem used_at {w : World} {g : Nat} {t : TypeId} {u : List Nat} (h : Blk w g t (IA u)) (h1 : t ≠ 169) (h2 : t ≠ 170) (h3 : t ≠ 85) : UsedAt w g u := ⟨t, IA u, h1, h2, h3, h, fun j hj => IA_at0 u j hj⟩
theorem own_gl {w w' : World} {T n gl : Nat} {v : Value} {xs : List Value} {cs : Array Value} (h : w.ownsRow T 118 5 v n xs) (hb : Blk w gl 85 cs) (hg : w.grownBy w' (some gl)) : w'.ownsRow T 118 5 v n xs :=
  h.kept hg (.inr (own_blk_ne h hb (by decide)))
theorem below_gl {T gl : Nat} {a w w' : World} (h : Below T a w) (hT : T ≤ w.heap.size) (hgl : T ≤ gl) (hg : w.grownBy w' (some gl)) : Below T a w' := h.grown hg hT (fun q hq => by rw [← Option.some.inj hq]; exact hgl)
/-- the table so far -/
def TbRel (w7 : World) (T g : Nat) (sl dl : List Nat) (hd : List UInt8) (vi : Value) (wr : World) : Prop :=
  ∃ (k n c : Nat) (A : Option Addr), k ≤ 148 ∧ vi = .int .i64 ((2 * k : Nat) : Int) ∧ Hid (Wr wr T g (hd ++ tabP sl dl k) A n c) ∧ Hid (Below T w7 wr) ∧ T ≤ wr.heap.size ∧ n ≤ 1000
theorem tabP_succ (sl dl : List Nat) (k : Nat) : tabP sl dl (k + 1) = tabP sl dl k ++ [UInt8.ofNat (16 * lenOf2 sl dl (2 * k) + lenOf2 sl dl (2 * k + 1))] := by simp [tabP, List.range_succ]
theorem lenOf2_get (sl dl : List Nat) (i : Nat) (h : sl.length = 277) : lenOf2 sl dl i = (sl ++ dl).getD i 0 := by
  unfold lenOf2
  by_cases hi : i < 277
  · rw [if_pos hi, List.getD_eq_getElem?_getD, List.getD_eq_getElem?_getD, List.getElem?_append_left (by omega)]
  · rw [if_neg hi, List.getD_eq_getElem?_getD, List.getD_eq_getElem?_getD, List.getElem?_append_right (by omega), h]
theorem or16 (x y : Nat) (hx : x < 16) (hy : y < 16) : (x * 16) ||| y = 16 * x + y :=
  (by decide +kernel : ∀ x, x < 16 → ∀ y, y < 16 → (x * 16) ||| y = 16 * x + y) x hx y hy
end Go.Proofs.YtejgoienkpaabaaDoor

/- press.shorter: what its second half leans on. -/
namespace Go.Proofs.YtejgoienkpaabaaDoor
open Go.RowKit
set_option maxRecDepth 100000
theorem codP_lt (row : List Nat) (nn : Bool) (hok : bOk row nn = true) (s : Nat) (h1 : 1 ≤ row.getD s 0) (h2 : row.getD s 0 ≤ 15) (hs : s < row.length) : (codP row).getD s 0 ≤ 32768 := by
  obtain ⟨c, hc, hl, hv⟩ := codP_get row s (row.getD s 0) h1 h2 hs rfl
  have hK := (twin_of row nn hok).kraft (row.getD s 0) h1 h2
  have h3 : (2:Nat) ^ (row.getD s 0) ≤ 2 ^ 15 := Nat.pow_le_pow_right (by decide) h2
  omega
/-- a token whose codes are there -/
structure Fine (sl dl : List Nat) (t : Tok) : Prop where
  s : t.sym < 277
  l1 : 1 ≤ sl.getD t.sym 0
  l : sl.getD t.sym 0 ≤ 15
  c : (codP sl).getD t.sym 0 ≤ 32768
  d : t.cp = true → t.dist < 18 ∧ 256 ≤ t.sym ∧ 1 ≤ dl.getD t.dist 0 ∧ dl.getD t.dist 0 ≤ 15 ∧ (codP dl).getD t.dist 0 ≤ 32768 ∧ (8 ≤ t.sym - 256 → t.extra < 2 ^ (t.sym - 256 - 5)) ∧ (4 ≤ t.dist → t.far < 2 ^ (t.dist - 2))
theorem fine_of (b : List UInt8) (hb : b.length ≤ 65536) (h1 : OkRow (usedP b) (slP b)) (h2 : OkRow (waysP b) (dlP b)) : ∀ t ∈ foundP b, Fine (slP b) (dlP b) t := by
  intro t ht
  have hf := found_toks b hb
  obtain ⟨a1, a2⟩ := hf t ht
  have hu : 0 < (usedP b).getD t.sym 0 := usedL_pos (foundP b) _ (fun x hx => by simpa using (hf x hx).1) t ht
  have hl1 : 1 ≤ (slP b).getD t.sym 0 := by
    have := h1.zero t.sym
    omega
  have hul : (slP b).length = 277 := by rw [h1.len]; unfold usedP; rw [usedL_length]; simp
  have hwl : (dlP b).length = 18 := by rw [h2.len]; unfold waysP; rw [waysL_length]; simp
  refine ⟨a1, hl1, h1.le _, codP_lt _ false (h1.ok false (.inr ⟨_, hu⟩)) _ hl1 (h1.le _) (by omega), fun hc => ?_⟩
  obtain ⟨b1, b2, b3, b4⟩ := a2 hc
  have hw : 0 < (waysP b).getD t.dist 0 := waysL_pos (foundP b) _ (fun x hx hxc => by simpa using ((hf x hx).2 hxc).1) t ht hc
  have hl2 : 1 ≤ (dlP b).getD t.dist 0 := by
    have := h2.zero t.dist
    omega
  exact ⟨b1, b2, hl2, h2.le _, codP_lt _ true (h2.ok true (.inl rfl)) _ hl2 (h2.le _) (by omega), b3, b4⟩
theorem tokBits_len {sl dl : List Nat} {t : Tok} (h : Fine sl dl t) : (tokBits sl dl t).length ≤ 62 := by
  unfold tokBits
  have h1 := h.l
  have h2 := h.s
  rw [List.length_append, bits_length]
  split
  · rename_i hc
    obtain ⟨b1, b2, _, b3, _⟩ := h.d hc
    rw [List.length_append, List.length_append, bits_length]
    have e1 : (if 8 ≤ t.sym - 256 then bits t.extra (t.sym - 256 - 5) else []).length ≤ 16 := by
      split
      · rw [bits_length]; omega
      · exact Nat.zero_le _
    have e2 : (if 4 ≤ t.dist then bits t.far (t.dist - 2) else []).length ≤ 16 := by
      split
      · rw [bits_length]; omega
      · exact Nat.zero_le _
    omega
  · show sl.getD t.sym 0 + 0 ≤ 62
    omega
theorem toksBits_len {sl dl : List Nat} : ∀ (ts : List Tok), (∀ t ∈ ts, Fine sl dl t) → (toksBits sl dl ts).length ≤ 62 * ts.length := by
  intro ts
  induction ts with
  | nil => intro _; exact Nat.zero_le _
  | cons t ts ih =>
    intro h
    have e : toksBits sl dl (t :: ts) = tokBits sl dl t ++ toksBits sl dl ts := rfl
    have h1 := tokBits_len (h t (List.mem_cons_self ..))
    have h2 := ih (fun x hx => h x (List.mem_cons_of_mem _ hx))
    rw [e, List.length_append, List.length_cons]
    omega
theorem toksBits_take {sl dl : List Nat} (ts : List Tok) (j : Nat) (t : Tok) (ht : ts[j]? = some t) : toksBits sl dl (ts.take (j + 1)) = toksBits sl dl (ts.take j) ++ tokBits sl dl t := by
  obtain ⟨hlt, he⟩ := List.getElem?_eq_some_iff.1 ht
  rw [List.take_succ_eq_append_getElem hlt, he]
  unfold toksBits
  rw [List.flatMap_append]
  simp
theorem Pst.alloc {w : World} {T pf po : Nat} {L : List Nat} (h : Pst w T pf po L) (o : Obj) : Pst (w.alloc o) T pf po L := by
  obtain ⟨A, n, c, fr, s⟩ := h
  exact ⟨A, n, c, fr, s.bF.alloc o, s.bO.alloc o, s.own.alloc o, s.le1, s.hfr, s.tf, s.to_, Nat.le_trans s.hT (by simp)⟩
theorem Pst.drew {w : World} {T pf po : Nat} {L : List Nat} (h : Pst w T pf po L) : Pst w.drew T pf po L := by
  obtain ⟨A, n, c, fr, s⟩ := h
  exact ⟨A, n, c, fr, s.bF, s.bO, s.own, s.le1, s.hfr, s.tf, s.to_, s.hT⟩
/-- a token being put -/
structure TS (w8 wr : World) (T2 pf po bx : Nat) (t : Tok) (L : List Nat) : Prop where
  p : Pst wr T2 pf po L
  b : Below T2 w8 wr
  x : Blk wr bx 118 (tokV t)
  s : T2 ≤ wr.heap.size
section
variable {w8 wr : World} {T2 pf po bx : Nat} {t : Tok} {L : List Nat}
theorem TS.drew (h : TS w8 wr T2 pf po bx t L) : TS w8 wr.drew T2 pf po bx t L := ⟨h.p.drew, h.b.drew, h.x, h.s⟩
theorem TS.put (h : TS w8 wr T2 pf po bx t L) (v n0 : Nat) (hv : v ≤ 1000000000) (hn : n0 ≤ 40) (hL : L.length ≤ 10000000) :
    Calls Tryd.prog 78 #[.int .i64 v, .int .i64 n0, .pointer (some ⟨pf, 0, none⟩), .pointer (some ⟨po, 0, none⟩)] wr fun e w' => e = .returned (.tuple #[]) ∧ TS w8 w' T2 pf po bx t (L ++ bits v n0) := by
  refine (put_any wr T2 pf po v n0 L h.p hv hn hL).mono ?_
  rintro e w' ⟨rfl, hp, hk, hb⟩
  obtain ⟨A, n, c, fr, s⟩ := h.p
  exact ⟨rfl, hp, h.b.trans hb, hk _ _ _ (Blk.ne_ h.x s.bF (by decide)) (Blk.ne_ h.x s.bO (by decide)) (by decide) h.x, Nat.le_trans h.s hb.size⟩
theorem TS.new {w : World} {T pf po : Nat} {L : List Nat} (h : Pst w T pf po L) (hb : Below T w8 w) (hs : T ≤ w.heap.size) (t : Tok) : TS w8 (w.alloc (.cells (tokV t) 118)) T pf po w.heap.size t L :=
  ⟨h.alloc _, hb.alloc hs _, Blk.new _ _ _, by simp; omega⟩
theorem TS.cells (h : TS w8 wr T2 pf po bx t L) : wr.cell? ⟨bx, 0, none⟩ = some (.int .i64 (t.sym : Int)) ∧ wr.cell? ⟨bx, 1, none⟩ = some (.int .i64 (t.extra : Int)) ∧ wr.cell? ⟨bx, 2, none⟩ = some (.int .i64 (t.dist : Int)) ∧ wr.cell? ⟨bx, 3, none⟩ = some (.int .i64 (t.far : Int)) ∧ wr.cell? ⟨bx, 4, none⟩ = some (.bool t.cp) :=
  ⟨by rw [h.x.cell]; rfl, by rw [h.x.cell]; rfl, by rw [h.x.cell]; rfl, by rw [h.x.cell]; rfl, by rw [h.x.cell]; rfl⟩
end
/-- the tables that the tokens are put by -/
structure SLay (w : World) (T2 gl g1 g2 : Nat) (sl dl : List Nat) : Prop where
  kl : ∀ i, i < 277 → w.cell? ⟨gl, i, none⟩ = some (.int .i64 (sl.getD i 0 : Int))
  kd : ∀ i, i < 18 → w.cell? ⟨gl, 277 + i, none⟩ = some (.int .i64 (dl.getD i 0 : Int))
  k1 : ∀ i, i < 277 → w.cell? ⟨g1, i, none⟩ = some (.int .i64 ((codP sl).getD i 0 : Int))
  k2 : ∀ i, i < 18 → w.cell? ⟨g2, i, none⟩ = some (.int .i64 ((codP dl).getD i 0 : Int))
  tl : gl < T2
  t1 : g1 < T2
  t2 : g2 < T2
theorem SLay.below {w w' : World} {T2 gl g1 g2 : Nat} {sl dl : List Nat} (h : SLay w T2 gl g1 g2 sl dl) (hb : Below T2 w w') : SLay w' T2 gl g1 g2 sl dl :=
  ⟨fun i hi => (hb.cell (p := ⟨gl, i, none⟩) h.tl).trans (h.kl i hi), fun i hi => (hb.cell (p := ⟨gl, 277 + i, none⟩) h.tl).trans (h.kd i hi), fun i hi => (hb.cell (p := ⟨g1, i, none⟩) h.t1).trans (h.k1 i hi), fun i hi => (hb.cell (p := ⟨g2, i, none⟩) h.t2).trans (h.k2 i hi), h.tl, h.t1, h.t2⟩
theorem TS.syms {w8 wr : World} {T2 pf po bx gl g1 g2 : Nat} {t : Tok} {L sl dl : List Nat} (h : TS w8 wr T2 pf po bx t L) (hl : SLay w8 T2 gl g1 g2 sl dl) (hs : t.sym < 277) :
    wr.cell? ⟨gl, t.sym, none⟩ = some (.int .i64 (sl.getD t.sym 0 : Int)) ∧ wr.cell? ⟨g1, t.sym, none⟩ = some (.int .i64 ((codP sl).getD t.sym 0 : Int)) :=
  ⟨(hl.below h.b).kl _ hs, (hl.below h.b).k1 _ hs⟩
theorem TS.dists {w8 wr : World} {T2 pf po bx gl g1 g2 : Nat} {t : Tok} {L sl dl : List Nat} (h : TS w8 wr T2 pf po bx t L) (hl : SLay w8 T2 gl g1 g2 sl dl) (hs : t.dist < 18) :
    wr.cell? ⟨gl, 277 + t.dist, none⟩ = some (.int .i64 (dl.getD t.dist 0 : Int)) ∧ wr.cell? ⟨g2, t.dist, none⟩ = some (.int .i64 ((codP dl).getD t.dist 0 : Int)) :=
  ⟨(hl.below h.b).kd _ hs, (hl.below h.b).k2 _ hs⟩
/-- the tokens put so far -/
def PtRel (w8 : World) (T2 pf po n : Nat) (sl dl : List Nat) (ts : List Tok) (vj : Value) (wr : World) : Prop :=
  ∃ j, j ≤ n ∧ vj = .int .i64 (j : Nat) ∧ Hid (Pst wr T2 pf po (toksBits sl dl (ts.take j))) ∧ Hid (Below T2 w8 wr) ∧ Hid (T2 ≤ wr.heap.size)
theorem PtRel.next {w8 wr : World} {T2 pf po bx n j : Nat} {t : Tok} {sl dl M : List Nat} {ts : List Tok} (h : TS w8 wr T2 pf po bx t M) (hj : j < n) (hM : M = toksBits sl dl (ts.take (j + 1))) : PtRel w8 T2 pf po n sl dl ts (.int .i64 ((j + 1 : Nat) : Int)) wr :=
  ⟨j + 1, hj, rfl, by unfold Hid; rw [← hM]; exact h.p, h.b, h.s⟩
theorem tb_lit (sl dl L : List Nat) (t : Tok) (h : t.cp = false) : L ++ bits ((codP sl).getD t.sym 0) (sl.getD t.sym 0) = L ++ tokBits sl dl t := by
  unfold tokBits
  rw [h, if_neg (by decide), List.append_nil]
theorem tb_cp (sl dl L X Y : List Nat) (t : Tok) (h : t.cp = true) (hX : X = if 8 ≤ t.sym - 256 then bits t.extra (t.sym - 256 - 5) else []) (hY : Y = if 4 ≤ t.dist then bits t.far (t.dist - 2) else []) :
    L ++ bits ((codP sl).getD t.sym 0) (sl.getD t.sym 0) ++ X ++ bits ((codP dl).getD t.dist 0) (dl.getD t.dist 0) ++ Y = L ++ tokBits sl dl t := by
  unfold tokBits
  rw [h, if_pos rfl, hX, hY]
  simp only [List.append_assoc]
theorem pst_new (w : World) : Pst ((w.alloc (.cells #[.slice none 0 0] 22)).alloc (.cells #[.int .i64 0] 3)) w.heap.size (w.heap.size + 1) w.heap.size [] := by
  have h1 := Blk.new (w.alloc (.cells #[.slice none 0 0] 22)) 3 #[.int .i64 0]
  have e : (w.alloc (.cells #[.slice none 0 0] 22)).heap.size = w.heap.size + 1 := by simp
  rw [e] at h1
  exact ⟨none, 0, 0, 0, h1, (Blk.new w 22 #[.slice none 0 0]).alloc _, World.ownsRow_nil _ _ _ _, by simp, rfl, by omega, Nat.le_refl _, by simp; omega⟩
theorem pcodes_n (b off cap N : Nat) (row : List Nat) (w : World) (hN : row.length = N) (hb : b < w.heap.size) (hr : ∀ j, j < N → w.cell? ⟨b, off + j, none⟩ = some (.int .i64 (row.getD j 0 : Int))) (hl : N ≤ 300) (hl1 : 1 ≤ N) :
    Calls Tryd.prog 77 #[.slice (some ⟨b, off, none⟩) N cap] w fun e w' => ∃ g1, Hid (g1 = w.heap.size) ∧ e = .returned (.slice (some ⟨g1, 0, none⟩) N N) ∧ (∀ i, i < N → w'.cell? ⟨g1, i, none⟩ = some (.int .i64 ((codP row).getD i 0 : Int))) ∧ g1 < w'.heap.size ∧ Below w.heap.size w w' := by
  subst hN
  refine (pcodes_any b off cap row w ⟨hb, hr⟩ hl hl1).mono ?_
  rintro e w' ⟨rfl, ho, hB⟩
  refine ⟨_, rfl, rfl, fun i hi => ?_, (ho.lt _ rfl).2, hB⟩
  rw [ho.cellAt i (by rw [Nat.mul_one]; exact hi)]
  unfold I
  rw [List.getElem?_map, List.getD_eq_getElem?_getD, List.getElem?_eq_getElem (by rw [codP_length]; exact hi)]
  rfl
end Go.Proofs.YtejgoienkpaabaaDoor
