/- FndP, SortA, SortB, SortC (merged: one text behind the other). -/
import Derived.Test.YtejgoienkpaabaaDoorMg20
import Derived.Test.YtejgoienkpaabaaDoorMg17
/- Plain: the tokens that found tells, and that they tell the bytes. -/
namespace Go.Proofs.YtejgoienkpaabaaDoor
set_option maxRecDepth 20000
/-- the same three bytes at i as at j? -/
def same3 (b : List UInt8) (i j : Nat) : Bool := decide (i + 3 ≤ b.length) && decide (b.getD i 0 = b.getD j 0) && decide (b.getD (i + 1) 0 = b.getD (j + 1) 0) && decide (b.getD (i + 2) 0 = b.getD (j + 2) 0)
/-- the last place ahead of i with the bytes of j -/
def lastB (b : List UInt8) : Nat → Nat → Option Nat
  | 0, _ => none
  | i + 1, j => if same3 b i j = true then some i else lastB b i j
theorem lastB_lt (b : List UInt8) (i j p : Nat) (h : lastB b i j = some p) : p < i ∧ p + 3 ≤ b.length := by
  induction i with
  | zero => cases h
  | succ i ih =>
    rw [lastB] at h
    split at h
    · rename_i hs
      injection h with h
      subst h
      unfold same3 at hs
      simp at hs
      omega
    · have := ih h
      omega
/-- how many bytes are alike, from n on -/
def cmn (b : List UInt8) (p i : Nat) : Nat → Nat → Nat
  | 0, n => n
  | f + 1, n => if i + n < b.length ∧ b.getD (p + n) 0 = b.getD (i + n) 0 then cmn b p i f (n + 1) else n
theorem cmn_ok (b : List UInt8) (p i : Nat) : ∀ f n, i + n ≤ b.length → (∀ t, t < n → b.getD (p + t) 0 = b.getD (i + t) 0) →
    n ≤ cmn b p i f n ∧ i + cmn b p i f n ≤ b.length ∧ ∀ t, t < cmn b p i f n → b.getD (p + t) 0 = b.getD (i + t) 0 := by
  intro f
  induction f with
  | zero => intro n h1 h2; exact ⟨Nat.le_refl _, h1, h2⟩
  | succ f ih =>
    intro n h1 h2
    rw [cmn]
    split
    · rename_i h
      have := ih (n + 1) (by omega) (fun t ht => by
        by_cases e : t = n
        · subst e; exact h.2
        · exact h2 t (by omega))
      exact ⟨by omega, this.2⟩
    · exact ⟨Nat.le_refl _, h1, h2⟩
/-- along the places with the same bytes -/
def chn (b : List UInt8) (i : Nat) : Nat → Option Nat → Nat → Nat → Nat × Nat
  | f + 1, some p, l, k => if l < cmn b p i b.length 0 then chn b i f (lastB b p p) (cmn b p i b.length 0) (i - p) else chn b i f (lastB b p p) l k
  | _, _, l, k => (l, k)
def LKok (b : List UInt8) (i l k : Nat) : Prop := l = 0 ∨ (1 ≤ k ∧ k ≤ i ∧ i + l ≤ b.length ∧ ∀ t, t < l → b.getD (i - k + t) 0 = b.getD (i + t) 0)
theorem chn_ok (b : List UInt8) (i : Nat) (hi : i ≤ b.length) : ∀ f p l k, (∀ q, p = some q → q < i) → LKok b i l k → LKok b i (chn b i f p l k).1 (chn b i f p l k).2 := by
  intro f
  induction f with
  | zero => intro p l k _ h; exact h
  | succ f ih =>
    intro p l k hp h
    match p with
    | none => exact h
    | some q =>
      have hq := hp q rfl
      have hc := cmn_ok b q i b.length 0 (by omega) (fun t ht => by omega)
      have hn : ∀ r, lastB b q q = some r → r < i := fun r hr => by have := (lastB_lt b q q r hr).1; omega
      rw [chn]
      split
      · refine ih _ _ _ hn (.inr ⟨by omega, by omega, hc.2.1, fun t ht => ?_⟩)
        have := hc.2.2 t ht
        rw [← this]
        congr 1
        omega
      · exact ih _ _ _ hn h
def look (b : List UInt8) (i : Nat) : Nat × Nat := if i + 3 ≤ b.length then chn b i 64 (lastB b i i) 0 0 else (0, 0)
theorem look_ok (b : List UInt8) (i : Nat) (hi : i ≤ b.length) : LKok b i (look b i).1 (look b i).2 := by
  unfold look
  split
  · exact chn_ok b i hi 64 _ 0 0 (fun q hq => (lastB_lt b i i q hq).1) (.inl rfl)
  · exact .inl rfl
def litTok (c : Nat) : Tok := ⟨c, 0, 0, 0, false⟩
/-- the tokens from i on -/
def fndP (b : List UInt8) : Nat → Nat → List Tok
  | 0, _ => []
  | f + 1, i => if i < b.length then (if 3 ≤ (look b i).1 then copyTok (look b i).1 (look b i).2 :: fndP b f (i + (look b i).1) else litTok (b.getD i 0).toNat :: fndP b f (i + 1)) else []
theorem take_snoc (b : List UInt8) (i : Nat) (h : i < b.length) : b.take (i + 1) = b.take i ++ [b.getD i 0] := by
  rw [List.take_succ_eq_append_getElem h, List.getD_eq_getElem?_getD, List.getElem?_eq_getElem h]
  rfl
theorem copyOut_take (b : List UInt8) (i back : Nat) (h1 : 1 ≤ back) (h2 : back ≤ i) : ∀ l, i + l ≤ b.length → (∀ t, t < l → b.getD (i - back + t) 0 = b.getD (i + t) 0) → copyOut l back (b.take i) = b.take (i + l) := by
  intro l
  induction l with
  | zero => intro _ _; rfl
  | succ l ih =>
    intro h3 h4
    rw [copyOut, ih (by omega) (fun t ht => h4 t (by omega))]
    have e1 : (b.take (i + l)).length = i + l := by rw [List.length_take]; omega
    rw [e1]
    have e2 : i + l - back = i - back + l := by omega
    have e3 : (b.take (i + l)).getD (i + l - back) 0 = b.getD (i + l) 0 := by
      rw [List.getD_eq_getElem?_getD, List.getElem?_take, if_pos (by omega), ← List.getD_eq_getElem?_getD, e2]
      exact h4 l (by omega)
    rw [e3, ← take_snoc b (i + l) (by omega)]
    rfl
theorem fnd_chain (b : List UInt8) (hb : b.length ≤ 65536) : ∀ f i, i ≤ b.length → b.length ≤ i + f → Chain (fndP b f i) (b.take i) b := by
  intro f
  induction f with
  | zero =>
    intro i h1 h2
    have : i = b.length := by omega
    subst this
    show b.take b.length = b
    exact List.take_length
  | succ f ih =>
    intro i h1 h2
    rw [fndP]
    split
    · rename_i h
      split
      · rename_i h3
        rcases look_ok b i h1 with h0 | ⟨a1, a2, a3, a4⟩
        · omega
        · generalize (look b i).1 = l at *
          generalize (look b i).2 = k at *
          obtain ⟨c1, c2, c3, c4, c5, c6, c7⟩ := copyTok_ok (long := l) (back := k) h3 (by omega) a1 (by omega)
          refine ⟨b.take (i + l), .inr ⟨rfl, c3, c4, c5, c6, c7, ?_, ?_⟩, ih (i + l) a3 (by omega)⟩
          · rw [c2, List.length_take]; omega
          · rw [c1, c2]
            exact (copyOut_take b i k a1 a2 l a3 a4).symm
      · refine ⟨b.take (i + 1), .inl ⟨rfl, (b.getD i 0).toNat_lt, ?_⟩, ih (i + 1) (by omega) (by omega)⟩
        rw [take_snoc b i h]
        simp [litTok]
    · rename_i h
      have : i = b.length := by omega
      subst this
      show b.take b.length = b
      exact List.take_length
def foundP (b : List UInt8) : List Tok := fndP b b.length 0
theorem found_chain (b : List UInt8) (hb : b.length ≤ 65536) : Chain (foundP b) [] b := by
  have := fnd_chain b hb b.length 0 (by omega) (by omega)
  rw [List.take_zero] at this
  exact this
end Go.Proofs.YtejgoienkpaabaaDoor

/- The sort of measure's leaves: words, cmp's contract, swapRange. -/
namespace Go.Proofs.YtejgoienkpaabaaDoor
open Go.RowKit
set_option maxRecDepth 100000
/-- two places exchanged -/
def swp (d : List Nat) (i j : Nat) : List Nat := (d.set i (d.getD j 0)).set j (d.getD i 0)
theorem swp_length (d : List Nat) (i j : Nat) : (swp d i j).length = d.length := by simp [swp]
theorem swp_perm (d : List Nat) (i j : Nat) (hi : i < d.length) (hj : j < d.length) : (swp d i j).Perm d := by
  have h := Array.swap_perm (xs := d.toArray) (i := i) (j := j) (by simpa using hi) (by simpa using hj)
  have e : (d.toArray.swap i j (by simpa using hi) (by simpa using hj)).toList = swp d i j := by
    simp [swp, Array.swap, List.getD_eq_getElem?_getD, List.getElem?_eq_getElem hi, List.getElem?_eq_getElem hj]
  rw [← e]
  simpa using Array.perm_iff_toList_perm.1 h
def PV (pv : Nat → Nat) (d : List Nat) : List Value := d.map fun i => Value.pointer (some ⟨pv i, 0, none⟩)
theorem PV_set (pv : Nat → Nat) (d : List Nat) (i x : Nat) : (PV pv d).set i (.pointer (some ⟨pv x, 0, none⟩)) = PV pv (d.set i x) := by
  simp [PV, List.map_set]
/-- the world while the sort is at work: in block g the row stands as d tells; the leaf i is block pv i and weighs ws i -/
structure SR (w0 w : World) (T g c n N : Nat) (pv ws : Nat → Nat) (d0 d : List Nat) : Prop where
  own : w.ownsRow T 170 1 (.slice (some ⟨g, 0, none⟩) n c) n (PV pv d)
  gb : w0.grownBy w (some g)
  cell : ∀ i, i < N → w.cell? ⟨pv i, 0, none⟩ = some (.int .i64 (ws i : Int)) ∧ pv i ≠ g ∧ ws i ≤ 1000000
  mem : ∀ i ∈ d0, i < N
  perm : d.Perm d0
  len : d0.length = n
section
variable {w0 w : World} {T g c n N : Nat} {pv ws : Nat → Nat} {d0 d : List Nat}
theorem SR.dlen (h : SR w0 w T g c n N pv ws d0 d) : d.length = n := by rw [h.perm.length_eq, h.len]
theorem SR.in_ (h : SR w0 w T g c n N pv ws d0 d) {i : Nat} (hi : i < n) : d.getD i 0 < N := by
  apply h.mem
  rw [← h.perm.mem_iff, List.getD_eq_getElem?_getD, List.getElem?_eq_getElem (by rw [h.dlen]; exact hi)]
  exact List.getElem_mem _
theorem SR.at_ (h : SR w0 w T g c n N pv ws d0 d) {i : Nat} (hi : i < n) : w.cell? ⟨g, i, none⟩ = some (.pointer (some ⟨pv (d.getD i 0), 0, none⟩)) := by
  have hl : i < d.length := by rw [h.dlen]; exact hi
  have := h.own.cells (g := g) rfl i (.pointer (some ⟨pv (d.getD i 0), 0, none⟩)) (by
    simp [PV, List.getD_eq_getElem?_getD, List.getElem?_eq_getElem hl])
  rw [show (⟨g, 0, none⟩ : Addr).add i = ⟨g, i, none⟩ by unfold Addr.add; split <;> simp_all] at this
  exact this
theorem SR.fz (h : SR w0 w T g c n N pv ws d0 d) {i : Nat} (hi : i < n) : w.frozen? ⟨g, i, none⟩ = false := by
  obtain ⟨u, _, hf, _⟩ := own_cell h.own hi
  exact hf
theorem SR.wt (h : SR w0 w T g c n N pv ws d0 d) {i : Nat} (hi : i < n) : w.cell? ⟨pv (d.getD i 0), 0, none⟩ = some (.int .i64 (ws (d.getD i 0) : Int)) ∧ ws (d.getD i 0) ≤ 1000000 :=
  ⟨(h.cell _ (h.in_ hi)).1, (h.cell _ (h.in_ hi)).2.2⟩
theorem SR.drewN (h : SR w0 w T g c n N pv ws d0 d) (k : Nat) : SR w0 (w.drewN k) T g c n N pv ws d0 d :=
  ⟨h.own, ⟨h.gb.os, h.gb.tape, h.gb.output, h.gb.size, h.gb.block⟩, h.cell, h.mem, h.perm, h.len⟩
theorem SR.drew (h : SR w0 w T g c n N pv ws d0 d) : SR w0 w.drew T g c n N pv ws d0 d := h.drewN 1
theorem SR.swap (h : SR w0 w T g c n N pv ws d0 d) {i j : Nat} (hi : i < n) (hj : j < n) :
    SR w0 ((w.setCell ⟨g, i, none⟩ (.pointer (some ⟨pv (d.getD j 0), 0, none⟩))).setCell ⟨g, j, none⟩ (.pointer (some ⟨pv (d.getD i 0), 0, none⟩))) T g c n N pv ws d0 (swp d i j) := by
  refine ⟨?_, ?_, fun x hx => ?_, h.mem, (swp_perm d i j (by rw [h.dlen]; exact hi) (by rw [h.dlen]; exact hj)).trans h.perm, h.len⟩
  · have h1 := own_set (i := i) h.own (.pointer (some ⟨pv (d.getD j 0), 0, none⟩))
    have h2 := own_set (i := j) h1 (.pointer (some ⟨pv (d.getD i 0), 0, none⟩))
    rw [PV_set, PV_set] at h2
    exact h2
  · refine ⟨h.gb.os, h.gb.tape, h.gb.output, by simpa using h.gb.size, fun k hk hne => ?_⟩
    have hg : k ≠ g := fun e => hne (by rw [e])
    rw [Below.heap_setCell _ _ _ _ hg, Below.heap_setCell _ _ _ _ hg]
    exact h.gb.block k hk hne
  · obtain ⟨a, b, c'⟩ := h.cell x hx
    refine ⟨?_, b, c'⟩
    have hj' : (⟨g, j, none⟩ : Addr) ≠ ⟨pv x, 0, none⟩ := fun e => b (congrArg Addr.block e).symm
    have hi' : (⟨g, i, none⟩ : Addr) ≠ ⟨pv x, 0, none⟩ := fun e => b (congrArg Addr.block e).symm
    rw [World.cell?_setCell_other _ _ _ _ (by first | exact hj' | exact hj'.symm), World.cell?_setCell_other _ _ _ _ (by first | exact hi' | exact hi'.symm)]
    exact a
/-- behind the first store the second place holds something -/
theorem SR.mid (h : SR w0 w T g c n N pv ws d0 d) {i j : Nat} (hj : j < n) (v : Value) : ∃ u, ((w.setCell ⟨g, i, none⟩ v).drew).cell? ⟨g, j, none⟩ = some u := by
  obtain ⟨u, hu, _, _⟩ := own_cell (own_set (i := i) h.own v) hj
  exact ⟨u, hu⟩
end
theorem cmp_any (p q a b : Nat) (w : World) (hp : w.cell? ⟨p, 0, none⟩ = some (.int .i64 (a : Int))) (hq : w.cell? ⟨q, 0, none⟩ = some (.int .i64 (b : Int))) (ha : a ≤ 1000000) (hb : b ≤ 1000000) :
    Calls Tryd.prog 96 #[.pointer (some ⟨p, 0, none⟩), .pointer (some ⟨q, 0, none⟩)] w fun e w' => e = .returned (.int .i64 ((a : Int) - (b : Int))) ∧ ∃ k, w' = w.drewN k := by
  go_enter Tryd.func96, Tryd.ntmps96
  go_wp2_with fail
  go_quiet (fail)
  go_wp2_with fail
  go_ret
  exact ⟨rfl, _, rfl⟩
/-- swapRange from its round i -/
def swr (a b k : Nat) : Nat → List Nat → List Nat
  | 0, d => d
  | f + 1, d => swr a b (k + 1) f (swp d (a + k) (b + k))
def SwrRel (w0 : World) (T g c n N : Nat) (pv ws : Nat → Nat) (d0 : List Nat) (a b m : Nat) (goal : List Nat) (v : Value) (wr : World) : Prop :=
  ∃ (k : Nat) (d : List Nat), k ≤ m ∧ v = .int .i64 k ∧ Hid (swr a b k (m - k) d = goal) ∧ Hid (SR w0 wr T g c n N pv ws d0 d)
theorem swapRange_any (w0 w : World) (T g c n N : Nat) (pv ws : Nat → Nat) (d0 d : List Nat) (a b m : Nat) (cb : Value) (h : SR w0 w T g c n N pv ws d0 d) (ha : a + m ≤ n) (hb : b + m ≤ n) (hn : n ≤ 1000) :
    Calls Tryd.prog 106 #[.slice (some ⟨g, 0, none⟩) n c, .int .i64 a, .int .i64 b, .int .i64 m, cb] w fun e w' => e = .returned (.tuple #[]) ∧ SR w0 w' T g c n N pv ws d0 (swr a b 0 m d) := by
  have H := Lib.hid h
  clear h
  go_enter Tryd.func106, Tryd.ntmps106
  go_wp2_with fail
  go_loopw [10] (fun v wr => SwrRel w0 T g c n N pv ws d0 a b m (swr a b 0 m d) v wr) (fun v _ => m - (intOf v).toNat)
  case atStart => exact ⟨0, d, by omega, rfl, rfl, H⟩
  case round =>
    obtain ⟨k, dk, hk, rfl, HE, HS⟩ := hrel
    by_cases hlt : k < m
    · have hd : decide ((k : Int) < (m : Int)) = true := decide_eq_true (by omega)
      obtain ⟨i, hi⟩ : ∃ i, i = a + k := ⟨_, rfl⟩
      obtain ⟨j, hj⟩ : ∃ j, j = b + k := ⟨_, rfl⟩
      have ei : (a : Int) + (k : Int) = (i : Int) := by omega
      have ej : (b : Int) + (k : Int) = (j : Int) := by omega
      have hin : i < n := by omega
      have hjn : j < n := by omega
      have HE2 : Hid (swr a b (k + 1) (m - (k + 1)) (swp dk i j) = swr a b 0 m d) := by
        have e := HE.out
        rw [show m - k = (m - (k + 1)) + 1 by omega, swr] at e
        rw [hi, hj]
        exact e
      clear hi hj
      have hci := HS.out.at_ hin
      have hcj := HS.out.at_ hjn
      have hfi := HS.out.fz hin
      have hfj := HS.out.fz hjn
      have HS2 := Lib.hid (HS.out.swap hin hjn).drew
      obtain ⟨u, hmid⟩ := HS.out.mid (i := i) hjn (.pointer (some ⟨pv (dk.getD j 0), 0, none⟩))
      generalize pv (dk.getD i 0) = x at *
      generalize pv (dk.getD j 0) = y at *
      go_wp2_with fail
      go_region
      generalize (((wr.setCell ⟨g, i, none⟩ (.pointer (some ⟨y, 0, none⟩))).setCell ⟨g, j, none⟩ (.pointer (some ⟨x, 0, none⟩))).drew) = w3 at *
      go_wp2_with fail
      go_roundw
      case rel => exact ⟨k + 1, _, by omega, by go_num, HE2, HS2⟩
      case measure => simp [intOf]; omega
    · have hd : decide ((k : Int) < (m : Int)) = false := decide_eq_false (by omega)
      go_wp2_with fail
      go_end0
      have e := HE.out
      rw [show m - k = 0 by omega, swr] at e
      rw [← e]
      exact ⟨rfl, HS.out⟩
end Go.Proofs.YtejgoienkpaabaaDoor

/- The sort of measure's leaves: rotate, insertion sort. -/
namespace Go.Proofs.YtejgoienkpaabaaDoor
open Go.RowKit
set_option maxRecDepth 100000
def rotGo (m : Nat) : Nat → Nat → Nat → List Nat → List Nat
  | 0, _, _, d => d
  | f + 1, i, j, d =>
    if i = j then swr (m - i) m 0 i d
    else if j < i then rotGo m f (i - j) j (swr (m - i) m 0 j d)
    else rotGo m f i (j - i) (swr (m - i) (m + j - i) 0 i d)
def rot (a m b : Nat) (d : List Nat) : List Nat := rotGo m (b - a) (m - a) (b - m) d
def RotRel (w0 : World) (T g c n N : Nat) (pv ws : Nat → Nat) (d0 : List Nat) (m : Nat) (goal : List Nat) (vi vj : Value) (wr : World) : Prop :=
  ∃ (i j f : Nat) (d : List Nat), 1 ≤ i ∧ 1 ≤ j ∧ i ≤ m ∧ m + j ≤ n ∧ i + j ≤ f ∧ vi = .int .i64 i ∧ vj = .int .i64 j ∧ Hid (rotGo m f i j d = goal) ∧ Hid (SR w0 wr T g c n N pv ws d0 d)
theorem rotate_any (w0 w : World) (T g c n N : Nat) (pv ws : Nat → Nat) (d0 d : List Nat) (a m b : Nat) (cb : Value) (h : SR w0 w T g c n N pv ws d0 d) (ha : a < m) (hm : m < b) (hb : b ≤ n) (hn : n ≤ 1000) :
    Calls Tryd.prog 105 #[.slice (some ⟨g, 0, none⟩) n c, .int .i64 a, .int .i64 m, .int .i64 b, cb] w fun e w' => e = .returned (.tuple #[]) ∧ SR w0 w' T g c n N pv ws d0 (rot a m b d) := by
  have H := Lib.hid h
  clear h
  obtain ⟨i0, hi0⟩ : ∃ i, i = m - a := ⟨_, rfl⟩
  obtain ⟨j0, hj0⟩ : ∃ j, j = b - m := ⟨_, rfl⟩
  have ei : (m : Int) - (a : Int) = (i0 : Int) := by omega
  have ej : (b : Int) - (m : Int) = (j0 : Int) := by omega
  have b1 : 1 ≤ i0 ∧ i0 ≤ m ∧ 1 ≤ j0 ∧ m + j0 ≤ n := by omega
  have HG : Hid (rotGo m (b - a) i0 j0 d = rot a m b d) := by unfold Hid rot; rw [hi0, hj0]
  have hf : i0 + j0 ≤ b - a := by omega
  clear hi0 hj0
  generalize b - a = f0 at *
  go_enter Tryd.func105, Tryd.ntmps105
  go_wp2_with fail
  go_loopw [10, 11] (fun vi vj wr => RotRel w0 T g c n N pv ws d0 m (rot a m b d) vi vj wr) (fun vi vj _ => (intOf vi).toNat + (intOf vj).toNat)
  case atStart => exact ⟨i0, j0, f0, d, b1.1, b1.2.2.1, b1.2.1, b1.2.2.2, hf, rfl, rfl, HG, H⟩
  case round =>
    obtain ⟨i, j, f, dk, q1, q2, q3, q4, q5, rfl, rfl, HE, HS⟩ := hrel
    obtain ⟨f, rfl⟩ : ∃ k, f = k + 1 := ⟨f - 1, by omega⟩
    have hE := HE.out
    rw [rotGo] at hE
    obtain ⟨x, hx⟩ : ∃ x, x = m - i := ⟨_, rfl⟩
    have ex : (m : Int) - (i : Int) = (x : Int) := by omega
    by_cases hij : i = j
    · subst hij
      have hne : ((i : Int) != (i : Int)) = false := by simp
      rw [if_pos rfl, ← hx] at hE
      have HE2 := Lib.hid hE
      clear hE HE
      have hx1 : x + i ≤ n := by omega
      clear hx
      go_wp2_with fail
      refine (swapRange_any w0 wr T g c n N pv ws d0 dk x m i _ HS.out hx1 (by omega) hn).mono ?_
      rintro e w1 ⟨rfl, hS⟩
      go_wp2_with fail
      go_end0
      rw [← HE2.out]
      exact ⟨rfl, hS⟩
    · have hne : ((i : Int) != (j : Int)) = true := by rw [bne_iff_ne]; omega
      rw [if_neg hij] at hE
      by_cases hlt : j < i
      · have hgt : decide ((i : Int) > (j : Int)) = true := decide_eq_true (by omega)
        rw [if_pos hlt, ← hx] at hE
        have HE2 := Lib.hid hE
        clear hE HE
        have hx1 : x + j ≤ n := by omega
        obtain ⟨y, hy⟩ : ∃ y, y = i - j := ⟨_, rfl⟩
        have ey : (i : Int) - (j : Int) = (y : Int) := by omega
        have hy2 : 1 ≤ y ∧ y ≤ m ∧ y + j ≤ f := by omega
        rw [← hy] at HE2
        clear hx hy
        go_wp2_with fail
        refine (swapRange_any w0 wr T g c n N pv ws d0 dk x m j _ HS.out hx1 (by omega) hn).mono ?_
        rintro e w1 ⟨rfl, hS⟩
        have HS2 := Lib.hid hS
        clear hS
        go_wp2_with fail
        go_roundw
        case rel => exact ⟨y, j, f, _, hy2.1, q2, hy2.2.1, q4, hy2.2.2, by go_num, rfl, HE2, HS2⟩
        case measure => simp [intOf]; omega
      · have hgt : decide ((i : Int) > (j : Int)) = false := decide_eq_false (by omega)
        rw [if_neg hlt, ← hx] at hE
        obtain ⟨z, hz⟩ : ∃ z, z = m + j - i := ⟨_, rfl⟩
        have ez : (m : Int) + (j : Int) - (i : Int) = (z : Int) := by omega
        rw [← hz] at hE
        have HE2 := Lib.hid hE
        clear hE HE
        have hx1 : x + i ≤ n := by omega
        have hz1 : z + i ≤ n := by omega
        obtain ⟨y, hy⟩ : ∃ y, y = j - i := ⟨_, rfl⟩
        have ey : (j : Int) - (i : Int) = (y : Int) := by omega
        have hy2 : 1 ≤ y ∧ m + y ≤ n ∧ i + y ≤ f := by omega
        rw [← hy] at HE2
        clear hx hy hz
        go_wp2_with fail
        refine (swapRange_any w0 wr T g c n N pv ws d0 dk x z i _ HS.out hx1 hz1 hn).mono ?_
        rintro e w1 ⟨rfl, hS⟩
        have HS2 := Lib.hid hS
        clear hS
        go_wp2_with fail
        go_roundw
        case rel => exact ⟨i, y, f, _, q1, hy2.1, q3, hy2.2.1, hy2.2.2, rfl, by go_num, HE2, HS2⟩
        case measure => simp [intOf]; omega
/-- insertion sort's inner loop, from j -/
def insJ (ws : Nat → Nat) (a : Nat) : Nat → List Nat → List Nat
  | 0, d => d
  | j + 1, d => if a < j + 1 ∧ ws (d.getD (j + 1) 0) < ws (d.getD j 0) then insJ ws a j (swp d (j + 1) j) else d
def insO (ws : Nat → Nat) (a b : Nat) : Nat → Nat → List Nat → List Nat
  | 0, _, d => d
  | f + 1, i, d => if i < b then insO ws a b f (i + 1) (insJ ws a i d) else d
def ins (ws : Nat → Nat) (a b : Nat) (d : List Nat) : List Nat := insO ws a b b (a + 1) d
def InsORel (w0 : World) (T g c n N : Nat) (pv ws : Nat → Nat) (d0 : List Nat) (a b : Nat) (goal : List Nat) (v : Value) (wr : World) : Prop :=
  ∃ (i f : Nat) (d : List Nat), a < i ∧ i ≤ b + 1 ∧ b ≤ i + f ∧ v = .int .i64 i ∧ Hid (insO ws a b f i d = goal) ∧ Hid (SR w0 wr T g c n N pv ws d0 d)
def InsJRel (w0 : World) (T g c n N : Nat) (pv ws : Nat → Nat) (d0 : List Nat) (a i : Nat) (goal : List Nat) (v : Value) (wr : World) : Prop :=
  ∃ (j : Nat) (d : List Nat), a ≤ j ∧ j ≤ i ∧ v = .int .i64 j ∧ Hid (insJ ws a j d = goal) ∧ Hid (SR w0 wr T g c n N pv ws d0 d)
abbrev CmpV : Value := .func (.func 96) #[] #[]
set_option maxHeartbeats 1000000 in
theorem insertion_any (w0 w : World) (T g c n N : Nat) (pv ws : Nat → Nat) (d0 d : List Nat) (a b : Nat) (h : SR w0 w T g c n N pv ws d0 d) (hb : b ≤ n) (hab : a ≤ b) (hn : n ≤ 1000) :
    Calls Tryd.prog 102 #[.slice (some ⟨g, 0, none⟩) n c, .int .i64 a, .int .i64 b, CmpV] w fun e w' => e = .returned (.tuple #[]) ∧ SR w0 w' T g c n N pv ws d0 (ins ws a b d) := by
  have H := Lib.hid h
  clear h
  go_enter Tryd.func102, Tryd.ntmps102
  go_wp2_with fail
  go_loopw [8] (fun v wr => InsORel w0 T g c n N pv ws d0 a b (ins ws a b d) v wr) (fun v _ => b + 1 - (intOf v).toNat)
  case atStart => exact ⟨a + 1, b, d, by omega, by omega, by omega, by go_num, rfl, H⟩
  case round =>
    obtain ⟨i, f, di, q1, q2, q3, rfl, HE, HS⟩ := hrel
    by_cases hlt : i < b
    · have hd : decide ((i : Int) < (b : Int)) = true := decide_eq_true (by omega)
      obtain ⟨f, rfl⟩ : ∃ k, f = k + 1 := ⟨f - 1, by omega⟩
      have hE := HE.out
      rw [insO, if_pos hlt] at hE
      have HE2 := Lib.hid hE
      clear hE HE
      go_wp2_with fail
      go_loopw [9] (fun v wr => InsJRel w0 T g c n N pv ws d0 a i (insJ ws a i di) v wr) (fun v _ => (intOf v).toNat)
      case atStart => exact ⟨i, di, by omega, by omega, rfl, rfl, HS⟩
      case round =>
        obtain ⟨j, dj, p1, p2, rfl, HJ, HS⟩ := hrel
        by_cases haj : a < j
        · obtain ⟨k, hjk⟩ : ∃ k, j = k + 1 := ⟨j - 1, by omega⟩
          have hgz : (a : Int) < (j : Int) := by omega
          have ek : (j : Int) - 1 = (k : Int) := by omega
          have hE := HJ.out
          rw [hjk, insJ, ← hjk] at hE
          have hk : k < n := by omega
          have hj : j < n := by omega
          have ca := HS.out.at_ hj
          have cb := HS.out.at_ hk
          obtain ⟨wa, la⟩ := HS.out.wt hj
          obtain ⟨wb, lb⟩ := HS.out.wt hk
          have hka : a ≤ k ∧ k ≤ i := by omega
          obtain ⟨xa, hxa⟩ : ∃ x, x = ws (dj.getD j 0) := ⟨_, rfl⟩
          obtain ⟨xb, hxb⟩ : ∃ x, x = ws (dj.getD k 0) := ⟨_, rfl⟩
          obtain ⟨pa, hpa⟩ : ∃ x, x = pv (dj.getD j 0) := ⟨_, rfl⟩
          obtain ⟨pb, hpb⟩ : ∃ x, x = pv (dj.getD k 0) := ⟨_, rfl⟩
          rw [← hpa] at ca
          rw [← hpb] at cb
          rw [← hpa, ← hxa] at wa
          rw [← hpb, ← hxb] at wb
          rw [← hxa] at la
          rw [← hxb] at lb
          rw [← hxa, ← hxb] at hE
          have HPA := Lib.hid hpa
          have HPB := Lib.hid hpb
          clear hjk hxa hxb hpa hpb
          by_cases hlw : xa < xb
          · have hdw : decide ((xa : Int) - (xb : Int) < 0) = true := decide_eq_true (by omega)
            rw [if_pos ⟨haj, hlw⟩] at hE
            have HE3 := Lib.hid hE
            clear hE HJ
            go_wp2_with fail
            go_quiet ((go_at_call 96; exact Calls.quiet_of (cmp_any pa pb xa xb _ wa wb la lb)))
            have S2 := Lib.hid (HS.out.drewN nq)
            clear ca cb wa wb HS
            generalize wr.drewN nq = w2 at S2 ⊢
            have ca := S2.out.at_ hj
            have cb := S2.out.at_ hk
            have fa := S2.out.fz hj
            have fb := S2.out.fz hk
            have hsw := S2.out.swap hj hk
            obtain ⟨um, hmid⟩ := S2.out.mid (i := j) hk (.pointer (some ⟨pv (dj.getD k 0), 0, none⟩))
            rw [← HPA.out] at ca
            rw [← HPB.out] at cb hmid
            rw [← HPA.out, ← HPB.out] at hsw
            have HSW := Lib.hid hsw.drew
            clear hsw
            go_wp2_with fail
            go_region
            generalize (((w2.setCell ⟨g, j, none⟩ (.pointer (some ⟨pb, 0, none⟩))).setCell ⟨g, k, none⟩ (.pointer (some ⟨pa, 0, none⟩))).drew) = w3 at *
            go_wp2_with fail
            go_roundw
            case rel => exact ⟨k, _, hka.1, hka.2, by go_num, HE3, HSW⟩
            case measure => simp [intOf]; omega
          · have hdw : decide ((xa : Int) - (xb : Int) < 0) = false := decide_eq_false (by omega)
            rw [if_neg (fun h => hlw h.2)] at hE
            have HE3 := Lib.hid hE
            clear hE HJ
            go_wp2_with fail
            go_quiet ((go_at_call 96; exact Calls.quiet_of (cmp_any pa pb xa xb _ wa wb la lb)))
            have S2 := Lib.hid (HS.out.drewN nq)
            clear ca cb wa wb HS
            generalize wr.drewN nq = w2 at S2 ⊢
            go_wp2_with fail
            go_roundw
            case rel => exact ⟨i + 1, f, dj, by omega, by omega, by omega, by go_num, by rw [HE3.out]; exact HE2, S2⟩
            case measure => simp [intOf]; omega
        · have hgd : decide ((j : Int) > (a : Int)) = false := decide_eq_false (by omega)
          have hgz : ¬ (a : Int) < (j : Int) := by omega
          have HE3 : Hid (dj = insJ ws a i di) := by
            have hE := HJ.out
            cases j with
            | zero => exact hE
            | succ j => rw [insJ, if_neg (fun h => haj h.1)] at hE; exact hE
          go_wp2_with fail
          go_quiet (fail)
          have S2 := Lib.hid (HS.out.drewN nq)
          clear HS
          generalize wr.drewN nq = w2 at S2 ⊢
          go_wp2_with fail
          go_roundw
          case rel => exact ⟨i + 1, f, dj, by omega, by omega, by omega, by go_num, by rw [HE3.out]; exact HE2, S2⟩
          case measure => simp [intOf]; omega
    · have hd : decide ((i : Int) < (b : Int)) = false := decide_eq_false (by omega)
      have hE := HE.out
      have HE2 : Hid (di = ins ws a b d) := by
        cases f with
        | zero => exact hE
        | succ f => rw [insO, if_neg hlt] at hE; exact hE
      go_wp2_with fail
      go_end0
      rw [← HE2.out]
      exact ⟨rfl, HS.out⟩
end Go.Proofs.YtejgoienkpaabaaDoor

/- The sort of measure's leaves: symMerge, where one side is of one element. -/
namespace Go.Proofs.YtejgoienkpaabaaDoor
open Go.RowKit
set_option maxRecDepth 100000
/-- the binary search of symMerge -/
def bsr (p : Nat → Bool) : Nat → Nat → Nat → Nat
  | 0, i, _ => i
  | f + 1, i, j => if i < j then (if p ((i + j) / 2) = true then bsr p f ((i + j) / 2 + 1) j else bsr p f i ((i + j) / 2)) else i
def slideUp (e : Nat) : Nat → Nat → List Nat → List Nat
  | 0, _, d => d
  | f + 1, k, d => if k < e then slideUp e f (k + 1) (swp d k (k + 1)) else d
def slideDown (i : Nat) : Nat → List Nat → List Nat
  | 0, d => d
  | k + 1, d => if i < k + 1 then slideDown i k (swp d (k + 1) k) else d
def less (ws : Nat → Nat) (d : List Nat) (x y : Nat) : Bool := decide (ws (d.getD x 0) < ws (d.getD y 0))
def BsRel (w0 : World) (T g c n N : Nat) (pv ws : Nat → Nat) (d0 d : List Nat) (P : Nat → Bool) (lo hi res : Nat) (vi vj : Value) (wr : World) : Prop :=
  ∃ (i j f : Nat), lo ≤ i ∧ i ≤ j ∧ j ≤ hi ∧ j ≤ i + f ∧ vi = .int .i64 i ∧ vj = .int .i64 j ∧ Hid (bsr P f i j = res) ∧ Hid (SR w0 wr T g c n N pv ws d0 d)
def SlRel (w0 : World) (T g c n N : Nat) (pv ws : Nat → Nat) (d0 : List Nat) (a e : Nat) (goal : List Nat) (v : Value) (wr : World) : Prop :=
  ∃ (k f : Nat) (d : List Nat), a ≤ k ∧ k ≤ e ∧ e ≤ k + f ∧ v = .int .i64 k ∧ Hid (slideUp e f k d = goal) ∧ Hid (SR w0 wr T g c n N pv ws d0 d)
def SdRel (w0 : World) (T g c n N : Nat) (pv ws : Nat → Nat) (d0 : List Nat) (i m : Nat) (goal : List Nat) (v : Value) (wr : World) : Prop :=
  ∃ (k : Nat) (d : List Nat), i ≤ k ∧ k ≤ m ∧ v = .int .i64 k ∧ Hid (slideDown i k d = goal) ∧ Hid (SR w0 wr T g c n N pv ws d0 d)
theorem less_cmp {ws : Nat → Nat} {d : List Nat} {x y xa xb : Nat} (ha : xa = ws (d.getD x 0)) (hb : xb = ws (d.getD y 0)) : less ws d x y = decide ((xa : Int) - (xb : Int) < 0) := by
  unfold less
  rw [← ha, ← hb]
  by_cases h : xa < xb
  · rw [decide_eq_true h, decide_eq_true (by omega)]
  · rw [decide_eq_false h, decide_eq_false (by omega)]
set_option maxHeartbeats 1000000 in
theorem sym_one (w0 w : World) (T g c n N : Nat) (pv ws : Nat → Nat) (d0 d : List Nat) (a m b : Nat) (h : SR w0 w T g c n N pv ws d0 d) (ha : m = a + 1) (hm : m < b) (hb : b ≤ n) (hn : n ≤ 1000) :
    Calls Tryd.prog 103 #[.slice (some ⟨g, 0, none⟩) n c, .int .i64 a, .int .i64 m, .int .i64 b, CmpV] w fun e w' => e = .returned (.tuple #[]) ∧
      SR w0 w' T g c n N pv ws d0 (slideUp (bsr (fun h => less ws d h a) (b - m) m b - 1) b a d) := by
  have H := Lib.hid h
  clear h
  have e1 : (m : Int) - (a : Int) = 1 := by omega
  have han : a < n := by omega
  obtain ⟨res, hres⟩ : ∃ r, r = bsr (fun h => less ws d h a) (b - m) m b := ⟨_, rfl⟩
  have HRS := Lib.hid hres
  rw [← hres]
  clear hres
  obtain ⟨e, he0⟩ : ∃ e, e = res - 1 := ⟨_, rfl⟩
  have HEE := Lib.hid he0
  rw [← he0]
  clear he0
  go_enter Tryd.func103, Tryd.ntmps103
  go_wp2_with fail
  go_loopw [10, 11] (fun vi vj wr => BsRel w0 T g c n N pv ws d0 d (fun h => less ws d h a) m b res vi vj wr) (fun vi vj _ => (intOf vj).toNat - (intOf vi).toNat)
  case atStart => exact ⟨m, b, b - m, by omega, by omega, by omega, by omega, rfl, rfl, HRS.out.symm, H⟩
  case round =>
    obtain ⟨i, j, f, q1, q2, q3, q4, rfl, rfl, HE, HS⟩ := hrel
    by_cases hij : i < j
    · have hd : decide ((i : Int) < (j : Int)) = true := decide_eq_true (by omega)
      obtain ⟨f, rfl⟩ : ∃ k, f = k + 1 := ⟨f - 1, by omega⟩
      obtain ⟨x, hx⟩ : ∃ x, x = (i + j) / 2 := ⟨_, rfl⟩
      have ex : ((i : Int) + (j : Int)) / 2 = (x : Int) := by omega
      have hE := HE.out
      rw [bsr, if_pos hij, ← hx] at hE
      have hxb : i ≤ x ∧ x < j ∧ j ≤ x + 1 + f ∧ x ≤ i + f := by omega
      have hxn : x < n := by omega
      clear hx
      have ca := HS.out.at_ hxn
      have cb := HS.out.at_ han
      obtain ⟨wa, la⟩ := HS.out.wt hxn
      obtain ⟨wb, lb⟩ := HS.out.wt han
      obtain ⟨xa, hxa⟩ : ∃ y, y = ws (d.getD x 0) := ⟨_, rfl⟩
      obtain ⟨xb, hxb'⟩ : ∃ y, y = ws (d.getD a 0) := ⟨_, rfl⟩
      obtain ⟨pa, hpa⟩ : ∃ y, y = pv (d.getD x 0) := ⟨_, rfl⟩
      obtain ⟨pb, hpb⟩ : ∃ y, y = pv (d.getD a 0) := ⟨_, rfl⟩
      rw [less_cmp hxa hxb'] at hE
      rw [← hpa] at ca
      rw [← hpb] at cb
      rw [← hpa, ← hxa] at wa
      rw [← hpb, ← hxb'] at wb
      rw [← hxa] at la
      rw [← hxb'] at lb
      clear hxa hxb' hpa hpb
      cases hdw : decide ((xa : Int) - (xb : Int) < 0) with
      | true =>
        rw [if_pos hdw] at hE
        have HE3 := Lib.hid hE
        clear hE HE
        go_wp2_with fail
        go_quiet ((go_at_call 96; exact Calls.quiet_of (cmp_any pa pb xa xb _ wa wb la lb)))
        have S2 := Lib.hid (HS.out.drewN nq)
        clear ca cb wa wb HS
        generalize wr.drewN nq = w2 at S2 ⊢
        go_wp2_with fail
        go_roundw
        case rel => exact ⟨x + 1, j, f, by omega, by omega, by omega, by omega, by go_num, rfl, HE3, S2⟩
        case measure => simp [intOf]; omega
      | false =>
        rw [if_neg (by rw [hdw]; simp)] at hE
        have HE3 := Lib.hid hE
        clear hE HE
        go_wp2_with fail
        go_quiet ((go_at_call 96; exact Calls.quiet_of (cmp_any pa pb xa xb _ wa wb la lb)))
        have S2 := Lib.hid (HS.out.drewN nq)
        clear ca cb wa wb HS
        generalize wr.drewN nq = w2 at S2 ⊢
        go_wp2_with fail
        go_roundw
        case rel => exact ⟨i, x, f, by omega, by omega, by omega, by omega, rfl, rfl, HE3, S2⟩
        case measure => simp [intOf]; omega
    · have hd : decide ((i : Int) < (j : Int)) = false := decide_eq_false (by omega)
      have hre : i = res := by
        have hE := HE.out
        cases f with
        | zero => exact hE
        | succ f => rw [bsr, if_neg hij] at hE; exact hE
      have hb3 : m ≤ res ∧ res ≤ b := by omega
      subst hre
      clear HE HRS
      have he := HEE.out
      have ee : (i : Int) - 1 = (e : Int) := by omega
      have he2 : a ≤ e ∧ e ≤ b ∧ e + 1 ≤ n := by omega
      clear he
      go_wp2_with fail
      go_loopw [13] (fun v wr => SlRel w0 T g c n N pv ws d0 a e (slideUp e b a d) v wr) (fun v _ => e - (intOf v).toNat)
      case atStart => exact ⟨a, b, d, by omega, by omega, by omega, rfl, rfl, HS⟩
      case round =>
        clear HS
        obtain ⟨k, f2, dk, p1, p2, p3, rfl, HK, HS⟩ := hrel
        by_cases hke : k < e
        · have hd3 : decide ((k : Int) < (e : Int)) = true := decide_eq_true (by omega)
          obtain ⟨f2, rfl⟩ : ∃ q, f2 = q + 1 := ⟨f2 - 1, by omega⟩
          have hE := HK.out
          rw [slideUp, if_pos hke] at hE
          obtain ⟨l, hl⟩ : ∃ l, l = k + 1 := ⟨_, rfl⟩
          have el : (k : Int) + 1 = (l : Int) := by omega
          rw [← hl] at hE
          have HE3 := Lib.hid hE
          have hl2 : a ≤ l ∧ l ≤ e ∧ e ≤ l + f2 ∧ l < n ∧ k < n ∧ k < l := by omega
          obtain ⟨l1, l2, l3, l4, l5, l6⟩ := hl2
          clear hE HK hl
          have ca := HS.out.at_ l5
          have cb := HS.out.at_ l4
          have fa := HS.out.fz l5
          have fb := HS.out.fz l4
          have HSW := Lib.hid (HS.out.swap l5 l4).drew
          obtain ⟨um, hmid⟩ := HS.out.mid (i := k) l4 (.pointer (some ⟨pv (dk.getD l 0), 0, none⟩))
          generalize pv (dk.getD k 0) = x at *
          generalize pv (dk.getD l 0) = y at *
          go_wp2_with fail
          go_region
          generalize (((wr.setCell ⟨g, k, none⟩ (.pointer (some ⟨y, 0, none⟩))).setCell ⟨g, l, none⟩ (.pointer (some ⟨x, 0, none⟩))).drew) = w3 at *
          go_wp2_with fail
          go_roundw
          case rel => exact ⟨l, f2, _, l1, l2, l3, by go_num, HE3, HSW⟩
          case measure => simp [intOf]; omega
        · have hd3 : decide ((k : Int) < (e : Int)) = false := decide_eq_false (by omega)
          have HE3 : Hid (dk = slideUp e b a d) := by
            have hE := HK.out
            cases f2 with
            | zero => exact hE
            | succ f => rw [slideUp, if_neg hke] at hE; exact hE
          go_wp2_with fail
          (try simp only [Exit.inBlock, Exit.then])
          refine bodyPost_ret (results_none rfl _ _ _) rfl ?_
          rw [← HE3.out]
          exact ⟨rfl, HS.out⟩
set_option maxHeartbeats 1000000 in
theorem sym_last (w0 w : World) (T g c n N : Nat) (pv ws : Nat → Nat) (d0 d : List Nat) (a m b : Nat) (h : SR w0 w T g c n N pv ws d0 d) (ha : a + 1 < m) (hm : b = m + 1) (hb : b ≤ n) (hn : n ≤ 1000) :
    Calls Tryd.prog 103 #[.slice (some ⟨g, 0, none⟩) n c, .int .i64 a, .int .i64 m, .int .i64 b, CmpV] w fun e w' => e = .returned (.tuple #[]) ∧
      SR w0 w' T g c n N pv ws d0 (slideDown (bsr (fun h => !less ws d m h) (m - a) a m) m d) := by
  have H := Lib.hid h
  clear h
  obtain ⟨ma, hma⟩ : ∃ x, x = m - a := ⟨_, rfl⟩
  have ema : (m : Int) - (a : Int) = (ma : Int) := by omega
  have hne : ((ma : Int) == 1) = false := beq_eq_false_iff_ne.2 (by omega)
  have e1 : (b : Int) - (m : Int) = 1 := by omega
  have han : m < n := by omega
  obtain ⟨res, hres⟩ : ∃ r, r = bsr (fun h => !less ws d m h) (m - a) a m := ⟨_, rfl⟩
  have HRS := Lib.hid hres
  rw [← hres]
  clear hres hma
  go_enter Tryd.func103, Tryd.ntmps103
  go_wp2_with fail
  go_loopw [14, 15] (fun vi vj wr => BsRel w0 T g c n N pv ws d0 d (fun h => !less ws d m h) a m res vi vj wr) (fun vi vj _ => (intOf vj).toNat - (intOf vi).toNat)
  case atStart => exact ⟨a, m, m - a, by omega, by omega, by omega, by omega, rfl, rfl, HRS.out.symm, H⟩
  case round =>
    obtain ⟨i, j, f, q1, q2, q3, q4, rfl, rfl, HE, HS⟩ := hrel
    by_cases hij : i < j
    · have hd : decide ((i : Int) < (j : Int)) = true := decide_eq_true (by omega)
      obtain ⟨f, rfl⟩ : ∃ k, f = k + 1 := ⟨f - 1, by omega⟩
      obtain ⟨x, hx⟩ : ∃ x, x = (i + j) / 2 := ⟨_, rfl⟩
      have ex : ((i : Int) + (j : Int)) / 2 = (x : Int) := by omega
      have hE := HE.out
      rw [bsr, if_pos hij, ← hx] at hE
      have hxb : i ≤ x ∧ x < j ∧ j ≤ x + 1 + f ∧ x ≤ i + f := by omega
      have hxn : x < n := by omega
      clear hx
      have ca := HS.out.at_ hxn
      have cb := HS.out.at_ han
      obtain ⟨wa, la⟩ := HS.out.wt hxn
      obtain ⟨wb, lb⟩ := HS.out.wt han
      obtain ⟨xa, hxa⟩ : ∃ y, y = ws (d.getD x 0) := ⟨_, rfl⟩
      obtain ⟨xb, hxb'⟩ : ∃ y, y = ws (d.getD m 0) := ⟨_, rfl⟩
      obtain ⟨pa, hpa⟩ : ∃ y, y = pv (d.getD x 0) := ⟨_, rfl⟩
      obtain ⟨pb, hpb⟩ : ∃ y, y = pv (d.getD m 0) := ⟨_, rfl⟩
      rw [less_cmp hxb' hxa] at hE
      rw [← hpa] at ca
      rw [← hpb] at cb
      rw [← hpa, ← hxa] at wa
      rw [← hpb, ← hxb'] at wb
      rw [← hxa] at la
      rw [← hxb'] at lb
      clear hxa hxb' hpa hpb
      cases hdw : decide ((xb : Int) - (xa : Int) < 0) with
      | false =>
        rw [if_pos (by rw [hdw]; rfl)] at hE
        have HE3 := Lib.hid hE
        clear hE HE
        go_wp2_with fail
        go_quiet ((go_at_call 96; exact Calls.quiet_of (cmp_any pb pa xb xa _ wb wa lb la)))
        have S2 := Lib.hid (HS.out.drewN nq)
        clear ca cb wa wb HS
        generalize wr.drewN nq = w2 at S2 ⊢
        go_wp2_with fail
        go_roundw
        case rel => exact ⟨x + 1, j, f, by omega, by omega, by omega, by omega, by go_num, rfl, HE3, S2⟩
        case measure => simp [intOf]; omega
      | true =>
        rw [if_neg (by rw [hdw]; simp)] at hE
        have HE3 := Lib.hid hE
        clear hE HE
        go_wp2_with fail
        go_quiet ((go_at_call 96; exact Calls.quiet_of (cmp_any pb pa xb xa _ wb wa lb la)))
        have S2 := Lib.hid (HS.out.drewN nq)
        clear ca cb wa wb HS
        generalize wr.drewN nq = w2 at S2 ⊢
        go_wp2_with fail
        go_roundw
        case rel => exact ⟨i, x, f, by omega, by omega, by omega, by omega, rfl, rfl, HE3, S2⟩
        case measure => simp [intOf]; omega
    · have hd : decide ((i : Int) < (j : Int)) = false := decide_eq_false (by omega)
      have hre : i = res := by
        have hE := HE.out
        cases f with
        | zero => exact hE
        | succ f => rw [bsr, if_neg hij] at hE; exact hE
      have hb3 : a ≤ res ∧ res ≤ m := by omega
      subst hre
      clear HE HRS
      go_wp2_with fail
      go_loopw [17] (fun v wr => SdRel w0 T g c n N pv ws d0 i m (slideDown i m d) v wr) (fun v _ => (intOf v).toNat)
      case atStart => exact ⟨m, d, by omega, by omega, rfl, rfl, HS⟩
      case round =>
        clear HS
        obtain ⟨l, dk, p1, p2, rfl, HK, HS⟩ := hrel
        by_cases hke : i < l
        · have hd3 : decide ((l : Int) > (i : Int)) = true := decide_eq_true (by omega)
          have hd4 : (i : Int) < (l : Int) := by omega
          obtain ⟨k, hk⟩ : ∃ q, l = q + 1 := ⟨l - 1, by omega⟩
          have el : (l : Int) - 1 = (k : Int) := by omega
          have hE := HK.out
          rw [hk, slideDown, ← hk, if_pos hke] at hE
          have HE3 := Lib.hid hE
          have hl2 : i ≤ k ∧ k ≤ m ∧ l < n ∧ k < n ∧ k < l := by omega
          obtain ⟨l1, l2, l4, l5, l6⟩ := hl2
          clear hE HK hk
          have ca := HS.out.at_ l5
          have cb := HS.out.at_ l4
          have fa := HS.out.fz l5
          have fb := HS.out.fz l4
          have HSW := Lib.hid (HS.out.swap l4 l5).drew
          obtain ⟨um, hmid⟩ := HS.out.mid (i := l) l5 (.pointer (some ⟨pv (dk.getD k 0), 0, none⟩))
          generalize pv (dk.getD k 0) = x at *
          generalize pv (dk.getD l 0) = y at *
          go_wp2_with fail
          go_region
          generalize (((wr.setCell ⟨g, l, none⟩ (.pointer (some ⟨x, 0, none⟩))).setCell ⟨g, k, none⟩ (.pointer (some ⟨y, 0, none⟩))).drew) = w3 at *
          go_wp2_with fail
          go_roundw
          case rel => exact ⟨k, _, l1, l2, by go_num, HE3, HSW⟩
          case measure => simp [intOf]; omega
        · have hd3 : decide ((l : Int) > (i : Int)) = false := decide_eq_false (by omega)
          have hd4 : ¬ (i : Int) < (l : Int) := by omega
          have HE3 : Hid (dk = slideDown i m d) := by
            have hE := HK.out
            cases l with
            | zero => exact hE
            | succ l => rw [slideDown, if_neg hke] at hE; exact hE
          go_wp2_with fail
          (try simp only [Exit.inBlock, Exit.then])
          refine bodyPost_ret (results_none rfl _ _ _) rfl ?_
          rw [← HE3.out]
          exact ⟨rfl, HS.out⟩
end Go.Proofs.YtejgoienkpaabaaDoor
