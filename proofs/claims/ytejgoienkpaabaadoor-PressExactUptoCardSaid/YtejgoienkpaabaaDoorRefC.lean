/- Contracts of the reference's Look: value, code. -/
import Derived.Test.YtejgoienkpaabaaDoorRefB
namespace Go.Proofs.YtejgoienkpaabaaDoor
open Go.RowKit
set_option maxRecDepth 100000
/-- a text as a value -/
def Str (l : List UInt8) : Value := .string ⟨l.toArray⟩
def lookCells (l : List UInt8) (bad : Bool) : Array Value := #[Str l, .bool bad]
structure Lk (w : World) (g : Nat) (l : List UInt8) (bad : Bool) : Prop where
  blk : Blk w g 104 (lookCells l bad)
theorem Lk.s {w : World} {g : Nat} {l : List UInt8} {bad : Bool} (h : Lk w g l bad) : w.cell? ⟨g, 0, none⟩ = some (.string ⟨l.toArray⟩) := by rw [h.blk.cell]; rfl
theorem Lk.b {w : World} {g : Nat} {l : List UInt8} {bad : Bool} (h : Lk w g l bad) : w.cell? ⟨g, 1, none⟩ = some (.bool bad) := by rw [h.blk.cell]; rfl
theorem Lk.setS {w : World} {g : Nat} {l : List UInt8} {bad : Bool} (h : Lk w g l bad) (l' : List UInt8) : Lk (w.setCell ⟨g, 0, none⟩ (.string ⟨l'.toArray⟩)) g l' bad := ⟨h.blk.set_ 0 _⟩
theorem Lk.setB {w : World} {g : Nat} {l : List UInt8} {bad : Bool} (h : Lk w g l bad) (b' : Bool) : Lk (w.setCell ⟨g, 1, none⟩ (.bool b')) g l b' := ⟨h.blk.set_ 1 _⟩
/-- digits -/
def Dig (l : List UInt8) : Prop := ∀ c ∈ l, c = 48 ∨ c = 49
def ValPost (w : World) (g n : Nat) (l : List UInt8) (bad : Bool) (e : Ending) (w' : World) : Prop :=
  w.grownBy w' (some g) ∧ ((valueP l n = none ∧ Lk w' g l true ∧ e = .returned (.int .i64 0)) ∨ ∃ x l', valueP l n = some (x, l') ∧ Lk w' g l' bad ∧ e = .returned (.int .i64 (x : Int)))
def ValRel (l : List UInt8) (n : Nat) (vv vi : Value) : Prop :=
  ∃ k : Nat, k ≤ n ∧ vi = .int .i64 k ∧ vv = .int .i64 (valGo l k : Int)
theorem valGo_lt (l : List UInt8) (hd : Dig l) (k : Nat) : valGo l k < 2 ^ k := by
  induction k with
  | zero => exact Nat.zero_lt_one
  | succ k ih =>
    have h1 : (l.getD k 0).toNat - 48 ≤ 1 := by
      rw [List.getD_eq_getElem?_getD]
      cases h : l[k]? with
      | none => decide
      | some c => rcases hd c (List.mem_of_getElem? h) with rfl | rfl <;> decide
    rw [valGo, Nat.pow_succ]
    omega
theorem ba_get (l : List UInt8) (k : Nat) (h : k < (⟨l.toArray⟩ : ByteArray).size) : (⟨l.toArray⟩ : ByteArray)[k]'h = l.getD k 0 := by
  have hk : k < l.length := by simpa [ByteArray.size] using h
  show l.toArray[k] = _
  rw [List.getD_eq_getElem?_getD, List.getElem?_eq_getElem hk]
  simp
theorem ix_str (w : World) (l : List UInt8) (k : Nat) (h : k < l.length) : (Instr.index 9 (.string ⟨l.toArray⟩) (.int .i64 (k : Int))).run Tryd.prog w = .ok (.int .u8 ((l.getD k 0).toNat : Int)) w := by
  rw [run_index_string w 9 _ _ _ rfl, dif_pos ⟨by omega, by simp [ByteArray.size]; omega⟩, ba_get]
  rfl
theorem sl_from (w : World) (l : List UInt8) (k : Nat) (h : k ≤ l.length) : (Instr.slice 9 (.string ⟨l.toArray⟩) (some (.int .i64 (k : Int))) none none).run Tryd.prog w = .ok (.string ⟨(l.drop k).toArray⟩) w := by
  rw [run_slice_string_l w 9 _ rfl _ _ (by omega) (by simp [ByteArray.size]; omega)]
  congr 2
  apply ByteArray.ext
  rw [ByteArray.data_extract]
  simp [ByteArray.size]
  apply List.take_of_length_le
  simp
theorem sl_to (w : World) (l : List UInt8) (k : Nat) (h : k ≤ l.length) : (Instr.slice 9 (.string ⟨l.toArray⟩) none (some (.int .i64 (k : Int))) none).run Tryd.prog w = .ok (.string ⟨(l.take k).toArray⟩) w := by
  rw [run_slice_string_h w 9 _ rfl _ _ (by omega) (by simp [ByteArray.size]; omega)]
  congr 2
  apply ByteArray.ext
  rw [ByteArray.data_extract]
  simp
theorem ex_str (S : List UInt8) (n : Nat) : ((⟨S.toArray⟩ : ByteArray).extract 0 n).toList = S.take n := by
  rw [ByteArray.toList_eq, ByteArray.data_extract]
  simp
theorem eq_str (a b : List UInt8) : binOp .eql 9 (.string ⟨a.toArray⟩) (.string ⟨b.toArray⟩) = pure (.bool (a == b)) := by
  rw [binOp_string_eql, ByteArray.toList_eq, ByteArray.toList_eq]
set_option maxHeartbeats 1000000 in
theorem value_any (g n : Nat) (l : List UInt8) (bad : Bool) (w : World) (h : Lk w g l bad) (hd : Dig l) (hn : n ≤ 40) :
    Calls Tryd.prog 53 #[.pointer (some ⟨g, 0, none⟩), .int .i64 n] w fun e w' => ValPost w g n l bad e w' := by
  have hS := h.s
  have hB := h.b
  have hfS := h.blk.frozen 0
  have hfB := h.blk.frozen 1
  have H := Lib.hid h
  have HD := Lib.hid hd
  clear h hd
  have hlen : (⟨l.toArray⟩ : ByteArray).size = l.length := by simp [ByteArray.size]
  go_enter Tryd.func53, Tryd.ntmps53
  by_cases hlt : n ≤ l.length
  · have hd1 : decide ((l.length : Int) < (n : Int)) = false := decide_eq_false (by omega)
    have HV : Hid (valueP l n = some (valGo l n, l.drop n)) := by show _ = _; rw [valueP, if_neg (by omega)]
    go_wp2_with fail
    go_loop [5, 6] (fun vv vi => ValRel l n vv vi) (fun _ vi => n - (intOf vi).toNat)
    case atStart => exact ⟨0, by omega, rfl, rfl⟩
    case round =>
      obtain ⟨k, hk, rfl, rfl⟩ := hrel
      have hvk := valGo_lt l HD.out k
      have hp : 2 ^ k ≤ 1099511627776 := Nat.pow_le_pow_right (by decide) (show k ≤ 40 by omega)
      have hvb : valGo l k ≤ 1099511627776 := by omega
      clear hvk hp
      by_cases hkn : k < n
      · have hix := ix_str w l k (by omega)
        have hc : l.getD k 0 = 48 ∨ l.getD k 0 = 49 := by
          rw [List.getD_eq_getElem?_getD, List.getElem?_eq_getElem (by omega)]
          exact HD.out _ (List.getElem_mem _)
        have HNX : Hid (valGo l (k + 1) = 2 * valGo l k + ((l.getD k 0).toNat - 48)) := rfl
        obtain ⟨c, hcc⟩ : ∃ c, c = (l.getD k 0).toNat := ⟨_, rfl⟩
        have hcb : 48 ≤ c ∧ c ≤ 49 := by rw [hcc]; rcases hc with h | h <;> rw [h] <;> decide
        rw [← hcc] at hix HNX
        obtain ⟨hcb1, hcb2⟩ := hcb
        clear hcc hc
        go_wp2_with fail
        go_round
        case rel => exact ⟨k + 1, by omega, by go_num, by rw [HNX.out]; go_num⟩
        case measure => simp [intOf]; omega
      · obtain rfl : k = n := by omega
        have hsl := sl_from w l k hlt
        go_wp2_with fail
        go_ret
        refine ⟨gb_set (p := ⟨g, 0, none⟩) (gb_refl _ _) (.inl rfl) _, .inr ⟨_, _, HV.out, H.out.setS _, rfl⟩⟩
  · have hd1 : decide ((l.length : Int) < (n : Int)) = true := decide_eq_true (by omega)
    have HV : Hid (valueP l n = none) := by show _ = _; rw [valueP, if_pos (by omega)]
    go_wp2_with fail
    go_ret
    exact ⟨gb_set (p := ⟨g, 1, none⟩) (gb_refl _ _) (.inl rfl) _, .inl ⟨HV.out, H.out.setB _, rfl⟩⟩
/-- a list of codes that lies in old memory -/
def CRow (w : World) (A : Option Addr) (l : List (Nat × List UInt8)) : Prop :=
  l = [] ∨ ∃ b cs, A = some ⟨b, 0, none⟩ ∧ Blk w b 126 cs ∧ ∀ j, j < l.length → cs[j * 2]? = some (.int .i64 ((l.getD j (0, [])).1 : Int)) ∧ cs[j * 2 + 1]? = some (.string ⟨(l.getD j (0, [])).2.toArray⟩)
theorem CRow.gb {w w' : World} {A : Option Addr} {l : List (Nat × List UInt8)} (h : CRow w A l) {g : Nat} {t : TypeId} {cs : Array Value} (hg : Blk w g t cs) (ht : t ≠ 126) (hb : w.grownBy w' (some g)) : CRow w' A l := by
  rcases h with h | ⟨b, cs', hA, hB, hc⟩
  · exact .inl h
  · exact .inr ⟨b, cs', hA, hB.gb hb (fun e => Blk.ne_ hB hg (fun e => ht e.symm) (by injection e)), hc⟩
theorem CRow.below {w w' : World} {A : Option Addr} {l : List (Nat × List UInt8)} (h : CRow w A l) (hb : Below w.heap.size w w') : CRow w' A l := by
  rcases h with h | ⟨b, cs', hA, hB, hc⟩
  · exact .inl h
  · exact .inr ⟨b, cs', hA, hB.below hb hB.lt, hc⟩
def CodePost (w : World) (g : Nat) (l : List (Nat × List UInt8)) (S : List UInt8) (bad : Bool) (e : Ending) (w' : World) : Prop :=
  w.grownBy w' (some g) ∧ ((codeP l S = none ∧ Lk w' g S true ∧ e = .returned (.int .i64 0)) ∨ ∃ x S', codeP l S = some (x, S') ∧ Lk w' g S' bad ∧ e = .returned (.int .i64 (x : Int)))
def CodRel (w : World) (g : Nat) (bad : Bool) (A : Option Addr) (l : List (Nat × List UInt8)) (S : List UInt8) (vi : Value) (wr : World) : Prop :=
  ∃ k : Nat, k ≤ l.length ∧ vi = .int .i64 k ∧ Hid (codeP l S = codeP (l.drop k) S) ∧ Hid (w.grownBy wr none ∧ Lk wr g S bad ∧ CRow wr A l)
set_option maxHeartbeats 1000000 in
theorem code_any (g c : Nat) (A : Option Addr) (l : List (Nat × List UInt8)) (S : List UInt8) (bad : Bool) (w : World) (h : Lk w g S bad) (hr : CRow w A l) (hl : l.length ≤ 100000) (hl2 : ∀ j, (l.getD j (0, [])).2.length ≤ 1000) :
    Calls Tryd.prog 55 #[.pointer (some ⟨g, 0, none⟩), .slice A l.length c] w fun e w' => CodePost w g l S bad e w' := by
  have hlim := Lim_le (Nat.le_refl Lim)
  have H := Lib.hid h
  have HR := Lib.hid hr
  have HL2 := Lib.hid hl2
  clear h hr hl2
  have hlen : (⟨S.toArray⟩ : ByteArray).size = S.length := by simp [ByteArray.size]
  go_enter Tryd.func55, Tryd.ntmps55
  go_wp2_with fail
  go_loopw [5, 6] (fun vi _ wr => CodRel w g bad A l S vi wr) (fun vi _ _ => l.length - (intOf vi).toNat)
  case atStart => exact ⟨0, by omega, rfl, rfl, gb_refl _ _, H.out, HR.out⟩
  case round =>
    obtain ⟨k, hk, rfl, hx, hnd⟩ := hrel
    have H3 := Lib.hid hnd.out.1
    have H1 := Lib.hid hnd.out.2.1
    have HRr := Lib.hid hnd.out.2.2
    clear hnd
    have hcS := H1.out.s
    have hcB := H1.out.b
    have hfS := H1.out.blk.frozen 0
    have hfB := H1.out.blk.frozen 1
    by_cases hlt : k < l.length
    · obtain ⟨b, cs, rfl, hb, hcell⟩ : ∃ b cs, A = some ⟨b, 0, none⟩ ∧ Blk wr b 126 cs ∧ ∀ j, j < l.length → cs[j * 2]? = some (.int .i64 ((l.getD j (0, [])).1 : Int)) ∧ cs[j * 2 + 1]? = some (.string ⟨(l.getD j (0, [])).2.toArray⟩) := by
        rcases HRr.out with h | h
        · rw [h] at hlt; cases hlt
        · exact h
      have hbg : b ≠ g := Blk.ne_ hb H1.out.blk (by decide)
      obtain ⟨hc1, hc2⟩ := hcell k hlt
      rw [← hb.cell] at hc1 hc2
      have hB := Lib.hid hb
      clear hb
      have hd : l.drop k = l.getD k (0, []) :: l.drop (k + 1) := by
        rw [List.drop_eq_getElem_cons hlt, List.getD_eq_getElem?_getD, List.getElem?_eq_getElem hlt]
        rfl
      have ht := HL2.out k
      obtain ⟨s, t, hst⟩ : ∃ s t, l.getD k (0, []) = (s, t) := ⟨_, _, rfl⟩
      rw [hst] at hc1 hc2 hd ht
      have htl : (⟨t.toArray⟩ : ByteArray).size = t.length := by simp [ByteArray.size]
      have HD := Lib.hid hd
      clear hd hst hcell
      have ht2 : t.length ≤ 1000 := ht
      clear ht
      by_cases hle : t.length ≤ S.length
      · have hd1 : decide ((t.length : Int) ≤ (S.length : Int)) = true := decide_eq_true (by omega)
        have HEQ := Lib.hid (ex_str S t.length)
        by_cases hq : S.take t.length = t
        · have heq : (((⟨S.toArray⟩ : ByteArray).extract 0 t.length).toList == t) = true := by rw [HEQ.out, beq_iff_eq.2 hq]
          have HC : Hid (codeP l S = some (s, S.drop t.length)) := by show _ = _; rw [hx.out, HD.out, codeP, if_pos ⟨hle, hq⟩]
          have hq1 := Lib.hid hq
          clear hq
          go_wp2_with fail
          go_quiet (fail)
          have hfr := sl_from (wr.drewN nq) S t.length hle
          go_wp2_with fail
          go_ret
          refine ⟨gb_set (p := ⟨g, 0, none⟩) (gb_drewN (gb_none H3.out) _) (.inl rfl) _, .inr ⟨_, _, HC.out, ?_, rfl⟩⟩
          exact (⟨H1.out.blk.drewN _⟩ : Lk _ g S bad).setS _
        · have heq : (((⟨S.toArray⟩ : ByteArray).extract 0 t.length).toList == t) = false := by rw [HEQ.out, beq_eq_false_iff_ne.2 hq]
          have HC : Hid (codeP l S = codeP (l.drop (k + 1)) S) := by show _ = _; rw [hx.out, HD.out, codeP, if_neg (fun h => hq h.2)]
          have hq1 := Lib.hid hq
          clear hq
          go_wp2_with fail
          go_quiet (fail)
          go_wp2_with fail
          go_roundw
          case rel => exact ⟨k + 1, by omega, by go_num, HC, gb_drewN H3.out _, ⟨H1.out.blk.drewN _⟩, HRr.out⟩
          case measure => simp [intOf]; omega
      · have hd1 : decide ((t.length : Int) ≤ (S.length : Int)) = false := decide_eq_false (by omega)
        have HC : Hid (codeP l S = codeP (l.drop (k + 1)) S) := by show _ = _; rw [hx.out, HD.out, codeP, if_neg (fun h => hle h.1)]
        go_wp2_with fail
        go_quiet (fail)
        go_wp2_with fail
        go_roundw
        case rel => exact ⟨k + 1, by omega, by go_num, HC, gb_drewN H3.out _, ⟨H1.out.blk.drewN _⟩, HRr.out⟩
        case measure => simp [intOf]; omega
    · obtain rfl : k = l.length := by omega
      have HC : Hid (codeP l S = none) := by show _ = _; rw [hx.out, List.drop_eq_nil_of_le (Nat.le_refl _)]; rfl
      go_wp2_with fail
      go_ret
      exact ⟨gb_set (p := ⟨g, 1, none⟩) (gb_none H3.out) (.inl rfl) _, .inl ⟨HC.out, H1.out.setB _, rfl⟩⟩
end Go.Proofs.YtejgoienkpaabaaDoor
