/- RefC, RefD (merged: one text behind the other). -/
import Derived.Test.YtejgoienkpaabaaDoorMg08
import Derived.Test.YtejgoienkpaabaaDoorMg03
/- Contracts of the reference's Look: value, code. -/
namespace Go.Proofs.YtejgoienkpaabaaDoor
open Go.RowKit
set_option maxRecDepth 100000
/-- a text as a value -/
def Str (l : List UInt8) : Value := .string ⟨l.toArray⟩
def lookCells (l : List UInt8) (bad : Bool) : Array Value := #[Str l, .bool bad]
structure Lk (w : World) (g : Nat) (l : List UInt8) (bad : Bool) : Prop where
  blk : Blk w g 104 (lookCells l bad)
theorem Lk.s {w : World} {g : Nat} {l : List UInt8} {bad : Bool} (h : Lk w g l bad) : w.cell? ⟨g, 0, none⟩ = some (.string ⟨l.toArray⟩) := by rw [h.blk.cell]; rfl
theorem Lk.b {w : World} {g : Nat} {l : List UInt8} {bad : Bool} (h : Lk w g l bad) : w.cell? ⟨g, 1, none⟩ = some (.bool bad) := by rw [h.blk.cell]; rfl
theorem Lk.setS {w : World} {g : Nat} {l : List UInt8} {bad : Bool} (h : Lk w g l bad) (l' : List UInt8) : Lk (w.setCell ⟨g, 0, none⟩ (.string ⟨l'.toArray⟩)) g l' bad := ⟨h.blk.set_ 0 _⟩
theorem Lk.setB {w : World} {g : Nat} {l : List UInt8} {bad : Bool} (h : Lk w g l bad) (b' : Bool) : Lk (w.setCell ⟨g, 1, none⟩ (.bool b')) g l b' := ⟨h.blk.set_ 1 _⟩
/-- digits -/
def Dig (l : List UInt8) : Prop := ∀ c ∈ l, c = 48 ∨ c = 49
def ValPost (w : World) (g n : Nat) (l : List UInt8) (bad : Bool) (e : Ending) (w' : World) : Prop :=
  w.grownBy w' (some g) ∧ ((valueP l n = none ∧ Lk w' g l true ∧ e = .returned (.int .i64 0)) ∨ ∃ x l', valueP l n = some (x, l') ∧ Lk w' g l' bad ∧ e = .returned (.int .i64 (x : Int)))
def ValRel (l : List UInt8) (n : Nat) (vv vi : Value) : Prop :=
  ∃ k : Nat, k ≤ n ∧ vi = .int .i64 k ∧ vv = .int .i64 (valGo l k : Int)
theorem valGo_lt (l : List UInt8) (hd : Dig l) (k : Nat) : valGo l k < 2 ^ k := by
  induction k with
  | zero => exact Nat.zero_lt_one
  | succ k ih =>
    have h1 : (l.getD k 0).toNat - 48 ≤ 1 := by
      rw [List.getD_eq_getElem?_getD]
      cases h : l[k]? with
      | none => decide
      | some c => rcases hd c (List.mem_of_getElem? h) with rfl | rfl <;> decide
    rw [valGo, Nat.pow_succ]
    omega
theorem ba_get (l : List UInt8) (k : Nat) (h : k < (⟨l.toArray⟩ : ByteArray).size) : (⟨l.toArray⟩ : ByteArray)[k]'h = l.getD k 0 := by
  have hk : k < l.length := by simpa [ByteArray.size] using h
  show l.toArray[k] = _
  rw [List.getD_eq_getElem?_getD, List.getElem?_eq_getElem hk]
  simp
theorem ix_str (w : World) (l : List UInt8) (k : Nat) (h : k < l.length) : (Instr.index 9 (.string ⟨l.toArray⟩) (.int .i64 (k : Int))).run Tryd.prog w = .ok (.int .u8 ((l.getD k 0).toNat : Int)) w := by
  rw [run_index_string w 9 _ _ _ rfl, dif_pos ⟨by omega, by simp [ByteArray.size]; omega⟩, ba_get]
  rfl
theorem sl_from (w : World) (l : List UInt8) (k : Nat) (h : k ≤ l.length) : (Instr.slice 9 (.string ⟨l.toArray⟩) (some (.int .i64 (k : Int))) none none).run Tryd.prog w = .ok (.string ⟨(l.drop k).toArray⟩) w := by
  rw [run_slice_string_l w 9 _ rfl _ _ (by omega) (by simp [ByteArray.size]; omega)]
  congr 2
  apply ByteArray.ext
  rw [ByteArray.data_extract]
  simp [ByteArray.size]
  apply List.take_of_length_le
  simp
theorem sl_to (w : World) (l : List UInt8) (k : Nat) (h : k ≤ l.length) : (Instr.slice 9 (.string ⟨l.toArray⟩) none (some (.int .i64 (k : Int))) none).run Tryd.prog w = .ok (.string ⟨(l.take k).toArray⟩) w := by
  rw [run_slice_string_h w 9 _ rfl _ _ (by omega) (by simp [ByteArray.size]; omega)]
  congr 2
  apply ByteArray.ext
  rw [ByteArray.data_extract]
  simp
theorem ex_str (S : List UInt8) (n : Nat) : ((⟨S.toArray⟩ : ByteArray).extract 0 n).toList = S.take n := by
  rw [ByteArray.toList_eq, ByteArray.data_extract]
  simp
theorem eq_str (a b : List UInt8) : binOp .eql 9 (.string ⟨a.toArray⟩) (.string ⟨b.toArray⟩) = pure (.bool (a == b)) := by
  rw [binOp_string_eql, ByteArray.toList_eq, ByteArray.toList_eq]
set_option maxHeartbeats 1000000 in
theorem value_any (g n : Nat) (l : List UInt8) (bad : Bool) (w : World) (h : Lk w g l bad) (hd : Dig l) (hn : n ≤ 40) :
    Calls Tryd.prog 53 #[.pointer (some ⟨g, 0, none⟩), .int .i64 n] w fun e w' => ValPost w g n l bad e w' := by
  have hS := h.s
  have hB := h.b
  have hfS := h.blk.frozen 0
  have hfB := h.blk.frozen 1
  have H := Lib.hid h
  have HD := Lib.hid hd
  clear h hd
  have hlen : (⟨l.toArray⟩ : ByteArray).size = l.length := by simp [ByteArray.size]
  go_enter Tryd.func53, Tryd.ntmps53
  by_cases hlt : n ≤ l.length
  · have hd1 : decide ((l.length : Int) < (n : Int)) = false := decide_eq_false (by omega)
    have HV : Hid (valueP l n = some (valGo l n, l.drop n)) := by show _ = _; rw [valueP, if_neg (by omega)]
    go_wp2_with fail
    go_loop [5, 6] (fun vv vi => ValRel l n vv vi) (fun _ vi => n - (intOf vi).toNat)
    case atStart => exact ⟨0, by omega, rfl, rfl⟩
    case round =>
      obtain ⟨k, hk, rfl, rfl⟩ := hrel
      have hvk := valGo_lt l HD.out k
      have hp : 2 ^ k ≤ 1099511627776 := Nat.pow_le_pow_right (by decide) (show k ≤ 40 by omega)
      have hvb : valGo l k ≤ 1099511627776 := by omega
      clear hvk hp
      by_cases hkn : k < n
      · have hix := ix_str w l k (by omega)
        have hc : l.getD k 0 = 48 ∨ l.getD k 0 = 49 := by
          rw [List.getD_eq_getElem?_getD, List.getElem?_eq_getElem (by omega)]
          exact HD.out _ (List.getElem_mem _)
        have HNX : Hid (valGo l (k + 1) = 2 * valGo l k + ((l.getD k 0).toNat - 48)) := rfl
        obtain ⟨c, hcc⟩ : ∃ c, c = (l.getD k 0).toNat := ⟨_, rfl⟩
        have hcb : 48 ≤ c ∧ c ≤ 49 := by rw [hcc]; rcases hc with h | h <;> rw [h] <;> decide
        rw [← hcc] at hix HNX
        obtain ⟨hcb1, hcb2⟩ := hcb
        clear hcc hc
        go_wp2_with fail
        go_round
        case rel => exact ⟨k + 1, by omega, by go_num, by rw [HNX.out]; go_num⟩
        case measure => simp [intOf]; omega
      · obtain rfl : k = n := by omega
        have hsl := sl_from w l k hlt
        go_wp2_with fail
        go_ret
        refine ⟨gb_set (p := ⟨g, 0, none⟩) (gb_refl _ _) (.inl rfl) _, .inr ⟨_, _, HV.out, H.out.setS _, rfl⟩⟩
  · have hd1 : decide ((l.length : Int) < (n : Int)) = true := decide_eq_true (by omega)
    have HV : Hid (valueP l n = none) := by show _ = _; rw [valueP, if_pos (by omega)]
    go_wp2_with fail
    go_ret
    exact ⟨gb_set (p := ⟨g, 1, none⟩) (gb_refl _ _) (.inl rfl) _, .inl ⟨HV.out, H.out.setB _, rfl⟩⟩
/-- a list of codes that lies in old memory -/
def CRow (w : World) (A : Option Addr) (l : List (Nat × List UInt8)) : Prop :=
  l = [] ∨ ∃ b cs, A = some ⟨b, 0, none⟩ ∧ Blk w b 126 cs ∧ ∀ j, j < l.length → cs[j * 2]? = some (.int .i64 ((l.getD j (0, [])).1 : Int)) ∧ cs[j * 2 + 1]? = some (.string ⟨(l.getD j (0, [])).2.toArray⟩)
theorem CRow.gb {w w' : World} {A : Option Addr} {l : List (Nat × List UInt8)} (h : CRow w A l) {g : Nat} {t : TypeId} {cs : Array Value} (hg : Blk w g t cs) (ht : t ≠ 126) (hb : w.grownBy w' (some g)) : CRow w' A l := by
  rcases h with h | ⟨b, cs', hA, hB, hc⟩
  · exact .inl h
  · exact .inr ⟨b, cs', hA, hB.gb hb (fun e => Blk.ne_ hB hg (fun e => ht e.symm) (by injection e)), hc⟩
theorem CRow.below {w w' : World} {A : Option Addr} {l : List (Nat × List UInt8)} (h : CRow w A l) (hb : Below w.heap.size w w') : CRow w' A l := by
  rcases h with h | ⟨b, cs', hA, hB, hc⟩
  · exact .inl h
  · exact .inr ⟨b, cs', hA, hB.below hb hB.lt, hc⟩
def CodePost (w : World) (g : Nat) (l : List (Nat × List UInt8)) (S : List UInt8) (bad : Bool) (e : Ending) (w' : World) : Prop :=
  w.grownBy w' (some g) ∧ ((codeP l S = none ∧ Lk w' g S true ∧ e = .returned (.int .i64 0)) ∨ ∃ x S', codeP l S = some (x, S') ∧ Lk w' g S' bad ∧ e = .returned (.int .i64 (x : Int)))
def CodRel (w : World) (g : Nat) (bad : Bool) (A : Option Addr) (l : List (Nat × List UInt8)) (S : List UInt8) (vi : Value) (wr : World) : Prop :=
  ∃ k : Nat, k ≤ l.length ∧ vi = .int .i64 k ∧ Hid (codeP l S = codeP (l.drop k) S) ∧ Hid (w.grownBy wr none ∧ Lk wr g S bad ∧ CRow wr A l)
set_option maxHeartbeats 1000000 in
theorem code_any (g c : Nat) (A : Option Addr) (l : List (Nat × List UInt8)) (S : List UInt8) (bad : Bool) (w : World) (h : Lk w g S bad) (hr : CRow w A l) (hl : l.length ≤ 100000) (hl2 : ∀ j, (l.getD j (0, [])).2.length ≤ 1000) :
    Calls Tryd.prog 55 #[.pointer (some ⟨g, 0, none⟩), .slice A l.length c] w fun e w' => CodePost w g l S bad e w' := by
  have hlim := Lim_le (Nat.le_refl Lim)
  have H := Lib.hid h
  have HR := Lib.hid hr
  have HL2 := Lib.hid hl2
  clear h hr hl2
  have hlen : (⟨S.toArray⟩ : ByteArray).size = S.length := by simp [ByteArray.size]
  go_enter Tryd.func55, Tryd.ntmps55
  go_wp2_with fail
  go_loopw [5, 6] (fun vi _ wr => CodRel w g bad A l S vi wr) (fun vi _ _ => l.length - (intOf vi).toNat)
  case atStart => exact ⟨0, by omega, rfl, rfl, gb_refl _ _, H.out, HR.out⟩
  case round =>
    obtain ⟨k, hk, rfl, hx, hnd⟩ := hrel
    have H3 := Lib.hid hnd.out.1
    have H1 := Lib.hid hnd.out.2.1
    have HRr := Lib.hid hnd.out.2.2
    clear hnd
    have hcS := H1.out.s
    have hcB := H1.out.b
    have hfS := H1.out.blk.frozen 0
    have hfB := H1.out.blk.frozen 1
    by_cases hlt : k < l.length
    · obtain ⟨b, cs, rfl, hb, hcell⟩ : ∃ b cs, A = some ⟨b, 0, none⟩ ∧ Blk wr b 126 cs ∧ ∀ j, j < l.length → cs[j * 2]? = some (.int .i64 ((l.getD j (0, [])).1 : Int)) ∧ cs[j * 2 + 1]? = some (.string ⟨(l.getD j (0, [])).2.toArray⟩) := by
        rcases HRr.out with h | h
        · rw [h] at hlt; cases hlt
        · exact h
      have hbg : b ≠ g := Blk.ne_ hb H1.out.blk (by decide)
      obtain ⟨hc1, hc2⟩ := hcell k hlt
      rw [← hb.cell] at hc1 hc2
      have hB := Lib.hid hb
      clear hb
      have hd : l.drop k = l.getD k (0, []) :: l.drop (k + 1) := by
        rw [List.drop_eq_getElem_cons hlt, List.getD_eq_getElem?_getD, List.getElem?_eq_getElem hlt]
        rfl
      have ht := HL2.out k
      obtain ⟨s, t, hst⟩ : ∃ s t, l.getD k (0, []) = (s, t) := ⟨_, _, rfl⟩
      rw [hst] at hc1 hc2 hd ht
      have htl : (⟨t.toArray⟩ : ByteArray).size = t.length := by simp [ByteArray.size]
      have HD := Lib.hid hd
      clear hd hst hcell
      have ht2 : t.length ≤ 1000 := ht
      clear ht
      by_cases hle : t.length ≤ S.length
      · have hd1 : decide ((t.length : Int) ≤ (S.length : Int)) = true := decide_eq_true (by omega)
        have HEQ := Lib.hid (ex_str S t.length)
        by_cases hq : S.take t.length = t
        · have heq : (((⟨S.toArray⟩ : ByteArray).extract 0 t.length).toList == t) = true := by rw [HEQ.out, beq_iff_eq.2 hq]
          have HC : Hid (codeP l S = some (s, S.drop t.length)) := by show _ = _; rw [hx.out, HD.out, codeP, if_pos ⟨hle, hq⟩]
          have hq1 := Lib.hid hq
          clear hq
          go_wp2_with fail
          go_quiet (fail)
          have hfr := sl_from (wr.drewN nq) S t.length hle
          go_wp2_with fail
          go_ret
          refine ⟨gb_set (p := ⟨g, 0, none⟩) (gb_drewN (gb_none H3.out) _) (.inl rfl) _, .inr ⟨_, _, HC.out, ?_, rfl⟩⟩
          exact (⟨H1.out.blk.drewN _⟩ : Lk _ g S bad).setS _
        · have heq : (((⟨S.toArray⟩ : ByteArray).extract 0 t.length).toList == t) = false := by rw [HEQ.out, beq_eq_false_iff_ne.2 hq]
          have HC : Hid (codeP l S = codeP (l.drop (k + 1)) S) := by show _ = _; rw [hx.out, HD.out, codeP, if_neg (fun h => hq h.2)]
          have hq1 := Lib.hid hq
          clear hq
          go_wp2_with fail
          go_quiet (fail)
          go_wp2_with fail
          go_roundw
          case rel => exact ⟨k + 1, by omega, by go_num, HC, gb_drewN H3.out _, ⟨H1.out.blk.drewN _⟩, HRr.out⟩
          case measure => simp [intOf]; omega
      · have hd1 : decide ((t.length : Int) ≤ (S.length : Int)) = false := decide_eq_false (by omega)
        have HC : Hid (codeP l S = codeP (l.drop (k + 1)) S) := by show _ = _; rw [hx.out, HD.out, codeP, if_neg (fun h => hle h.1)]
        go_wp2_with fail
        go_quiet (fail)
        go_wp2_with fail
        go_roundw
        case rel => exact ⟨k + 1, by omega, by go_num, HC, gb_drewN H3.out _, ⟨H1.out.blk.drewN _⟩, HRr.out⟩
        case measure => simp [intOf]; omega
    · obtain rfl : k = l.length := by omega
      have HC : Hid (codeP l S = none) := by show _ = _; rw [hx.out, List.drop_eq_nil_of_le (Nat.le_refl _)]; rfl
      go_wp2_with fail
      go_ret
      exact ⟨gb_set (p := ⟨g, 1, none⟩) (gb_none H3.out) (.inl rfl) _, .inl ⟨HC.out, H1.out.setB _, rfl⟩⟩
end Go.Proofs.YtejgoienkpaabaaDoor

/- Contract of the reference's copied. -/
namespace Go.Proofs.YtejgoienkpaabaaDoor
open Go.RowKit
set_option maxRecDepth 100000
def RCopPost (w : World) (g : Nat) (d : List (Nat × List UInt8)) (c : Nat) (S : List UInt8) (e : Ending) (w' : World) : Prop :=
  w.grownBy w' (some g) ∧ ((refCopied d c S = none ∧ ∃ (S' : List UInt8) (x y : Int), Lk w' g S' true ∧ e = .returned (.tuple #[.int .i64 x, .int .i64 y])) ∨
    ∃ (x y : Nat) (S' : List UInt8), refCopied d c S = some (x, y, S') ∧ Lk w' g S' false ∧ e = .returned (.tuple #[.int .i64 (x : Int), .int .i64 (y : Int)]))
theorem valueP_lt {S S' : List UInt8} {n x : Nat} (hd : Dig S) (h : valueP S n = some (x, S')) : x < 2 ^ n ∧ Dig S' ∧ S'.length ≤ S.length := by
  unfold valueP at h
  split at h
  · cases h
  · injection h with h
    injection h with h1 h2
    subst h1 h2
    exact ⟨valGo_lt S hd n, fun c hc => hd c (List.mem_of_mem_drop hc), by simp⟩
theorem codeP_dig {l : List (Nat × List UInt8)} {S S' : List UInt8} {s : Nat} (hd : Dig S) (h : codeP l S = some (s, S')) : Dig S' ∧ S'.length ≤ S.length ∧ ∃ t, (s, t) ∈ l := by
  induction l with
  | nil => cases h
  | cons a l ih =>
    obtain ⟨s0, t⟩ := a
    unfold codeP at h
    split at h
    · injection h with h
      injection h with h1 h2
      subst h1 h2
      exact ⟨fun c hc => hd c (List.mem_of_mem_drop hc), by simp, t, by simp⟩
    · obtain ⟨a1, a2, t', a3⟩ := ih h
      exact ⟨a1, a2, t', List.mem_cons_of_mem _ a3⟩
theorem refCopied_len {d : List (Nat × List UInt8)} {c x y : Nat} {S S' : List UInt8} (hd : Dig S) (h : refCopied d c S = some (x, y, S')) : Dig S' ∧ S'.length ≤ S.length := by
  have hE : ∀ {S S' : List UInt8} {a b f k x : Nat}, Dig S → refExtra S a b f k = some (x, S') → Dig S' ∧ S'.length ≤ S.length := by
    intro S S' a b f k x hd h
    unfold refExtra at h
    split at h
    · injection h with h; injection h with h1 h2; subst h2; exact ⟨hd, Nat.le_refl _⟩
    · cases hv : valueP S (k - b) with
      | none => rw [hv] at h; cases h
      | some z =>
        obtain ⟨z1, z2⟩ := z
        rw [hv] at h
        injection h with h; injection h with h1 h2; subst h2
        exact (valueP_lt hd hv).2
  unfold refCopied at h
  cases h1 : refExtra S 8 5 3 c with
  | none => rw [h1] at h; cases h
  | some a =>
    rw [h1, Option.bind_some] at h
    cases h2 : codeP d a.2 with
    | none => rw [h2] at h; cases h
    | some b =>
      rw [h2, Option.bind_some] at h
      cases h3 : refExtra b.2 4 2 1 b.1 with
      | none => rw [h3] at h; cases h
      | some z =>
        rw [h3] at h
        injection h with h; injection h with e1 e2; injection e2 with e3 e4
        subst e4
        have q1 := hE hd h1
        have q2 := codeP_dig q1.1 h2
        have q3 := hE q2.1 h3
        exact ⟨q3.1, by omega⟩
set_option maxHeartbeats 1000000 in
theorem rcop_any (g cp c : Nat) (A : Option Addr) (d : List (Nat × List UInt8)) (S : List UInt8) (w : World) (h : Lk w g S false) (hr : CRow w A d) (hl : d.length ≤ 100000) (hl2 : ∀ j, (d.getD j (0, [])).2.length ≤ 1000) (hdg : Dig S) (hc : c ≤ 20) (hs : ∀ s t, (s, t) ∈ d → s < 18) :
    Calls Tryd.prog 56 #[.pointer (some ⟨g, 0, none⟩), .int .i64 c, .slice A d.length cp] w fun e w' => RCopPost w g d c S e w' := by
  have H := Lib.hid h
  have HR := Lib.hid hr
  have HL2 := Lib.hid hl2
  have HDG := Lib.hid hdg
  have HSY := Lib.hid hs
  clear h hr hl2 hdg hs
  go_enter Tryd.func56, Tryd.ntmps56
  by_cases hc8 : c < 8
  · have hd1 : decide ((8 : Int) ≤ (c : Int)) = false := decide_eq_false (by omega)
    have HX : Hid (refExtra S 8 5 3 c = some (3 + c, S)) := by show _ = _; rw [refExtra, if_pos hc8]
    go_wp2_with fail
    obtain ⟨wx, hwx⟩ : ∃ wx, wx = w := ⟨_, rfl⟩
    have HLk := H
    have HRX := HR
    have HG := Lib.hid (gb_refl w (some g))
    have HD1 := HDG
    obtain ⟨S1, hS1⟩ : ∃ S1, S1 = S := ⟨_, rfl⟩
    rw [← hwx, ← hS1] at HLk
    rw [← hwx] at HRX
    rw [← hS1] at HD1
    rw [show Hid (w.grownBy w (some g)) = Hid (w.grownBy wx (some g)) by rw [hwx]] at HG
    rw [show some (3 + c, S) = some (3 + c, S1) by rw [hS1]] at HX
    rw [← hwx]
    clear hwx hS1
    have H1 := Lib.hid (show Lk wx g S1 false from HLk.out)
    clear HLk
    refine (code_any g cp A d S1 false wx H1.out HRX.out hl HL2.out).mono ?_
    rintro e w2 ⟨hg2, ⟨hcp, hlk, rfl⟩ | ⟨x, S2, hcp, hlk, rfl⟩⟩
    · have HN : Hid (refCopied d c S = none) := by show _ = _; rw [refCopied, HX.out, Option.bind_some, hcp]; rfl
      have HK := Lib.hid hlk
      have HG2 := Lib.hid (gb_trans HG.out hg2)
      clear hcp hlk hg2
      go_wp2_with fail
      go_ret2
      exact ⟨HG2.out, .inl ⟨HN.out, S1, _, _, HK.out, rfl⟩⟩
    · obtain ⟨hd2, -, t, ht⟩ := codeP_dig HD1.out hcp
      have hx18 := HSY.out _ _ ht
      have HD2 := Lib.hid hd2
      have HK := Lib.hid hlk
      have HCP := Lib.hid hcp
      have HG2 := Lib.hid (gb_trans HG.out hg2)
      have hbad := HK.out.b
      clear hcp hlk hg2 hd2 ht
      by_cases hx4 : x < 4
      · have hd4 : decide ((4 : Int) ≤ (x : Int)) = false := decide_eq_false (by omega)
        have HS : Hid (refCopied d c S = some (3 + c, 1 + x, S2)) := by
          show _ = _
          rw [refCopied, HX.out, Option.bind_some, HCP.out, Option.bind_some, refExtra, if_pos hx4]; rfl
        go_wp2_with fail
        go_ret2
        exact ⟨HG2.out, .inr ⟨_, _, S2, HS.out, HK.out, by push_cast; rfl⟩⟩
      · have hd4 : decide ((4 : Int) ≤ (x : Int)) = true := decide_eq_true (by omega)
        obtain ⟨m2, hm2⟩ : ∃ m2, m2 = x - 2 := ⟨_, rfl⟩
        have em2 : (x : Int) - 2 = (m2 : Int) := by omega
        have hpc2 := pow_cast m2 (by omega)
        have hpc2' : (2 : Int) ^ m2 = ((2 ^ m2 : Nat) : Int) := by push_cast; rfl
        obtain ⟨y2, hy2⟩ : ∃ y2 : Nat, y2 = 2 ^ m2 := ⟨_, rfl⟩
        have hy2b : y2 ≤ 65536 := by rw [hy2]; exact Nat.pow_le_pow_right (by decide) (show m2 ≤ 16 by omega)
        rw [← hy2] at hpc2 hpc2'
        have hm2b : m2 ≤ 16 := by omega
        have hmn2 : min m2 64 = m2 := Nat.min_eq_left (by omega)
        have HE : Hid (∀ z S3, valueP S2 m2 = some (z, S3) → refCopied d c S = some (3 + c, 1 + y2 + z, S3)) := by
          intro z S3 hv
          rw [refCopied, HX.out, Option.bind_some, HCP.out, Option.bind_some, refExtra, if_neg hx4, ← hm2, hv, ← hy2]; rfl
        have HE0 : Hid (valueP S2 m2 = none → refCopied d c S = none) := by
          intro hv
          rw [refCopied, HX.out, Option.bind_some, HCP.out, Option.bind_some, refExtra, if_neg hx4, ← hm2, hv]; rfl
        clear hm2 hy2
        go_wp2_with fail
        refine (value_any g m2 S2 false w2 HK.out HD2.out (by omega)).mono ?_
        rintro e w3 ⟨hg3, ⟨hv, hlk, rfl⟩ | ⟨z, S3, hv, hlk, rfl⟩⟩
        · have HN := Lib.hid (HE0.out hv)
          have HK3 := Lib.hid hlk
          have HG3 := Lib.hid (gb_trans HG2.out hg3)
          clear hv hlk hg3
          go_wp2_with fail
          go_ret2
          exact ⟨HG3.out, .inl ⟨HN.out, S2, _, _, HK3.out, rfl⟩⟩
        · have hzb : z < 131072 := Nat.lt_of_lt_of_le (valueP_lt HD2.out hv).1 (Nat.pow_le_pow_right (by decide) (show m2 ≤ 17 by omega))
          have HN := Lib.hid (HE.out z S3 hv)
          have HK3 := Lib.hid hlk
          have HG3 := Lib.hid (gb_trans HG2.out hg3)
          clear hv hlk hg3
          go_wp2_with fail
          go_ret2
          exact ⟨HG3.out, .inr ⟨_, _, S3, HN.out, HK3.out, by push_cast; rfl⟩⟩
  · have hd1 : decide ((8 : Int) ≤ (c : Int)) = true := decide_eq_true (by omega)
    obtain ⟨m, hm⟩ : ∃ m, m = c - 5 := ⟨_, rfl⟩
    have em : (c : Int) - 5 = (m : Int) := by omega
    have hpc := pow_cast m (by omega)
    have hpc' : (2 : Int) ^ m = ((2 ^ m : Nat) : Int) := by push_cast; rfl
    obtain ⟨y, hy⟩ : ∃ y : Nat, y = 2 ^ m := ⟨_, rfl⟩
    have hyb : y ≤ 65536 := by rw [hy]; exact Nat.pow_le_pow_right (by decide) (show m ≤ 16 by omega)
    rw [← hy] at hpc hpc'
    have hmb : m ≤ 15 := by omega
    have hmn : min m 64 = m := Nat.min_eq_left (by omega)
    have HE : Hid (∀ z S3, valueP S m = some (z, S3) → refExtra S 8 5 3 c = some (3 + y + z, S3)) := by
      intro z S3 hv
      rw [refExtra, if_neg hc8, ← hm, hv, ← hy]; rfl
    have HE0 : Hid (valueP S m = none → refCopied d c S = none) := by
      intro hv
      rw [refCopied, refExtra, if_neg hc8, ← hm, hv]; rfl
    clear hm hy
    go_wp2_with fail
    refine (value_any g m S false w H.out HDG.out (by omega)).mono ?_
    rintro e wx ⟨hg1, ⟨hv, hlk, rfl⟩ | ⟨z0, S1, hv, hlk, rfl⟩⟩
    · have HN := Lib.hid (HE0.out hv)
      have HLk := Lib.hid hlk
      have HG := Lib.hid hg1
      have HRX := Lib.hid (HR.out.gb H.out.blk (by decide) hg1)
      clear hv hlk hg1
      go_wp2_with fail
      refine (code_any g cp A d S true wx HLk.out HRX.out hl HL2.out).mono ?_
      rintro e w2 ⟨hg2, ⟨hcp, hlk, rfl⟩ | ⟨x, S2, hcp, hlk, rfl⟩⟩
      · have HK := Lib.hid hlk
        have HG2 := Lib.hid (gb_trans HG.out hg2)
        clear hcp hlk hg2
        go_wp2_with fail
        go_ret2
        exact ⟨HG2.out, .inl ⟨HN.out, S, _, _, HK.out, rfl⟩⟩
      · obtain ⟨-, -, t, ht⟩ := codeP_dig HDG.out hcp
        have hx18 := HSY.out _ _ ht
        have HK := Lib.hid hlk
        have HG2 := Lib.hid (gb_trans HG.out hg2)
        have hbad := HK.out.b
        clear hcp hlk hg2 ht
        by_cases hx4 : x < 4
        · have hd4 : decide ((4 : Int) ≤ (x : Int)) = false := decide_eq_false (by omega)
          go_wp2_with fail
          go_ret2
          exact ⟨HG2.out, .inl ⟨HN.out, S2, _, _, HK.out, rfl⟩⟩
        · have hd4 : decide ((4 : Int) ≤ (x : Int)) = true := decide_eq_true (by omega)
          go_wp2_with fail
          go_ret2
          exact ⟨HG2.out, .inl ⟨HN.out, S2, _, _, HK.out, rfl⟩⟩
    · have hzb0 : z0 < 131072 := Nat.lt_of_lt_of_le (valueP_lt HDG.out hv).1 (Nat.pow_le_pow_right (by decide) (show m ≤ 17 by omega))
      have HX := Lib.hid (HE.out z0 S1 hv)
      have HLk := Lib.hid hlk
      have HG := Lib.hid hg1
      have HD1 := Lib.hid (valueP_lt HDG.out hv).2.1
      have HRX := Lib.hid (HR.out.gb H.out.blk (by decide) hg1)
      clear hv hlk hg1
      go_wp2_with fail
      have H1 := Lib.hid (show Lk wx g S1 false from HLk.out)
      clear HLk
      refine (code_any g cp A d S1 false wx H1.out HRX.out hl HL2.out).mono ?_
      rintro e w2 ⟨hg2, ⟨hcp, hlk, rfl⟩ | ⟨x, S2, hcp, hlk, rfl⟩⟩
      · have HN : Hid (refCopied d c S = none) := by show _ = _; rw [refCopied, HX.out, Option.bind_some, hcp]; rfl
        have HK := Lib.hid hlk
        have HG2 := Lib.hid (gb_trans HG.out hg2)
        clear hcp hlk hg2
        go_wp2_with fail
        go_ret2
        exact ⟨HG2.out, .inl ⟨HN.out, S1, _, _, HK.out, rfl⟩⟩
      · obtain ⟨hd2, -, t, ht⟩ := codeP_dig HD1.out hcp
        have hx18 := HSY.out _ _ ht
        have HD2 := Lib.hid hd2
        have HK := Lib.hid hlk
        have HCP := Lib.hid hcp
        have HG2 := Lib.hid (gb_trans HG.out hg2)
        have hbad := HK.out.b
        clear hcp hlk hg2 hd2 ht
        by_cases hx4 : x < 4
        · have hd4 : decide ((4 : Int) ≤ (x : Int)) = false := decide_eq_false (by omega)
          have HS : Hid (refCopied d c S = some (3 + y + z0, 1 + x, S2)) := by
            show _ = _
            rw [refCopied, HX.out, Option.bind_some, HCP.out, Option.bind_some, refExtra, if_pos hx4]; rfl
          go_wp2_with fail
          go_ret2
          exact ⟨HG2.out, .inr ⟨_, _, S2, HS.out, HK.out, by push_cast; rfl⟩⟩
        · have hd4 : decide ((4 : Int) ≤ (x : Int)) = true := decide_eq_true (by omega)
          obtain ⟨m2, hm2⟩ : ∃ m2, m2 = x - 2 := ⟨_, rfl⟩
          have em2 : (x : Int) - 2 = (m2 : Int) := by omega
          have hpc2 := pow_cast m2 (by omega)
          have hpc2' : (2 : Int) ^ m2 = ((2 ^ m2 : Nat) : Int) := by push_cast; rfl
          obtain ⟨y2, hy2⟩ : ∃ y2 : Nat, y2 = 2 ^ m2 := ⟨_, rfl⟩
          have hy2b : y2 ≤ 65536 := by rw [hy2]; exact Nat.pow_le_pow_right (by decide) (show m2 ≤ 16 by omega)
          rw [← hy2] at hpc2 hpc2'
          have hm2b : m2 ≤ 16 := by omega
          have hmn2 : min m2 64 = m2 := Nat.min_eq_left (by omega)
          have HE : Hid (∀ z S3, valueP S2 m2 = some (z, S3) → refCopied d c S = some (3 + y + z0, 1 + y2 + z, S3)) := by
            intro z S3 hv
            rw [refCopied, HX.out, Option.bind_some, HCP.out, Option.bind_some, refExtra, if_neg hx4, ← hm2, hv, ← hy2]; rfl
          have HE0 : Hid (valueP S2 m2 = none → refCopied d c S = none) := by
            intro hv
            rw [refCopied, HX.out, Option.bind_some, HCP.out, Option.bind_some, refExtra, if_neg hx4, ← hm2, hv]; rfl
          clear hm2 hy2
          go_wp2_with fail
          refine (value_any g m2 S2 false w2 HK.out HD2.out (by omega)).mono ?_
          rintro e w3 ⟨hg3, ⟨hv, hlk, rfl⟩ | ⟨z, S3, hv, hlk, rfl⟩⟩
          · have HN := Lib.hid (HE0.out hv)
            have HK3 := Lib.hid hlk
            have HG3 := Lib.hid (gb_trans HG2.out hg3)
            clear hv hlk hg3
            go_wp2_with fail
            go_ret2
            exact ⟨HG3.out, .inl ⟨HN.out, S2, _, _, HK3.out, rfl⟩⟩
          · have hzb : z < 131072 := Nat.lt_of_lt_of_le (valueP_lt HD2.out hv).1 (Nat.pow_le_pow_right (by decide) (show m2 ≤ 17 by omega))
            have HN := Lib.hid (HE.out z S3 hv)
            have HK3 := Lib.hid hlk
            have HG3 := Lib.hid (gb_trans HG2.out hg3)
            clear hv hlk hg3
            go_wp2_with fail
            go_ret2
            exact ⟨HG3.out, .inr ⟨_, _, S3, HN.out, HK3.out, by push_cast; rfl⟩⟩
end Go.Proofs.YtejgoienkpaabaaDoor
