/- The law's Book: holds. -/
import Derived.Test.YtejgoienkpaabaaDoorBookB
namespace Go.Proofs.YtejgoienkpaabaaDoor
open Go.RowKit
set_option maxRecDepth 100000
theorem Bks.drewN {w : World} {T gb : Nat} {B O : Value} {es : List En} {p t d u : Nat} (h : Bks w T gb B O es p t d u) (n : Nat) : Bks (w.drewN n) T gb B O es p t d u :=
  ⟨h.blk.drewN n, h.ownB, h.ownO, h.ents, h.hgb⟩
theorem Bks.cell {w : World} {T gb : Nat} {B O : Value} {es : List En} {p t d u : Nat} (h : Bks w T gb B O es p t d u) (i : Nat) : w.cell? ⟨gb, i, none⟩ = (bk B O p t d u)[i]? := h.blk.cell i
set_option maxHeartbeats 1000000 in
theorem kept_any (T gb : Nat) (B O : Value) (es : List En) (p t d u : Nat) (w : World) (h : Bks w T gb B O es p t d u) :
    Calls Tryd.prog 58 #[.pointer (some ⟨gb, 0, none⟩)] w fun e w' => e = .returned (.bool true) ∧ w' = w := by
  have h6 : w.cell? ⟨gb, 6, none⟩ = some (.slice none 0 0) := by rw [h.cell, bk, List.getElem?_toArray]; rfl
  have h9 : w.cell? ⟨gb, 9, none⟩ = some (.slice none 0 0) := by rw [h.cell, bk, List.getElem?_toArray]; rfl
  have h12 : w.cell? ⟨gb, 12, none⟩ = some (.slice none 0 0) := by rw [h.cell, bk, List.getElem?_toArray]; rfl
  have h15 : w.cell? ⟨gb, 15, none⟩ = some (.slice none 0 0) := by rw [h.cell, bk, List.getElem?_toArray]; rfl
  clear h
  go_enter Tryd.func58, Tryd.ntmps58
  go_wp2_with fail
  refine wp_loop_rounds 1 ?_
  rw [rounds_succ]
  go_wp2_with fail
  refine wp_loop_rounds 1 ?_
  rw [rounds_succ]
  go_wp2_with fail
  refine wp_loop_rounds 1 ?_
  rw [rounds_succ]
  go_wp2_with fail
  refine wp_loop_rounds 1 ?_
  rw [rounds_succ]
  go_wp2_with fail
  go_ret
  exact ⟨rfl, rfl⟩
set_option maxHeartbeats 1000000 in
theorem told_any (T gb : Nat) (B O : Value) (es : List En) (p t d u : Nat) (w : World) (h : Bks w T gb B O es p t d u) :
    Calls Tryd.prog 59 #[.pointer (some ⟨gb, 0, none⟩)] w fun e w' => e = .returned (.bool true) ∧ w' = w := by
  have h6 : w.cell? ⟨gb, 18, none⟩ = some (.slice none 0 0) := by rw [h.cell, bk, List.getElem?_toArray]; rfl
  have h9 : w.cell? ⟨gb, 21, none⟩ = some (.slice none 0 0) := by rw [h.cell, bk, List.getElem?_toArray]; rfl
  have h12 : w.cell? ⟨gb, 24, none⟩ = some (.slice none 0 0) := by rw [h.cell, bk, List.getElem?_toArray]; rfl
  have h15 : w.cell? ⟨gb, 27, none⟩ = some (.slice none 0 0) := by rw [h.cell, bk, List.getElem?_toArray]; rfl
  clear h
  go_enter Tryd.func59, Tryd.ntmps59
  go_wp2_with fail
  refine wp_loop_rounds 1 ?_
  rw [rounds_succ]
  go_wp2_with fail
  refine wp_loop_rounds 1 ?_
  rw [rounds_succ]
  go_wp2_with fail
  refine wp_loop_rounds 1 ?_
  rw [rounds_succ]
  go_wp2_with fail
  refine wp_loop_rounds 1 ?_
  rw [rounds_succ]
  go_wp2_with fail
  go_ret
  exact ⟨rfl, rfl⟩
theorem held_any (T gb : Nat) (B O : Value) (es : List En) (p t d u : Nat) (w : World) (h : Bks w T gb B O es p t d u) :
    Calls Tryd.prog 60 #[.pointer (some ⟨gb, 0, none⟩)] w fun e w' => e = .returned (.bool true) ∧ w' = w := by
  have h6 : w.cell? ⟨gb, 30, none⟩ = some (.slice none 0 0) := by rw [h.cell, bk, List.getElem?_toArray]; rfl
  clear h
  go_enter Tryd.func60, Tryd.ntmps60
  go_wp2_with fail
  refine wp_loop_rounds 1 ?_
  rw [rounds_succ]
  go_wp2_with fail
  go_ret
  exact ⟨rfl, rfl⟩
def PlO (w : World) (T gb : Nat) (B O : Value) (es : List En) (p t d u : Nat) (vi : Value) (wr : World) : Prop :=
  ∃ i : Nat, i ≤ es.length ∧ vi = .int .i64 i ∧ Hid (Bks wr T gb B O es p t d u) ∧ Hid (Below w.heap.size w wr)
def PlI (w : World) (T gb n : Nat) (B O : Value) (es : List En) (p t d u : Nat) (vj : Value) (wr : World) : Prop :=
  ∃ j : Nat, j ≤ n ∧ vj = .int .i64 j ∧ Hid (Bks wr T gb B O es p t d u) ∧ Hid (Below w.heap.size w wr)
theorem own_at {w : World} {base e n : Nat} {v : Value} {xs : List Value} (h : w.ownsRow base e 1 v n xs) (i : Nat) (hi : i < n) : ∃ g c, v = .slice (some ⟨g, 0, none⟩) n c ∧ w.cell? ⟨g, i, none⟩ = xs[i]? := by
  obtain ⟨g, c, rfl, _, _⟩ := h.form (by omega)
  exact ⟨g, c, rfl, h.cellAt i (by omega)⟩
set_option maxHeartbeats 1000000 in
theorem plain_any (T gb : Nat) (B O : Value) (es : List En) (p t d u : Nat) (w : World) (h : Bks w T gb B O es p t d u) (hl : es.length ≤ 1000) (hm : ∀ e ∈ es, e.m ≤ 30 ∧ e.n ≤ 1000000) :
    Calls Tryd.prog 57 #[.pointer (some ⟨gb, 0, none⟩)] w fun e w' => e = .returned (.bool true) ∧ Below w.heap.size w w' ∧ Bks w' T gb B O es p t d u := by
  have HB := Lib.hid h
  have HM := Lib.hid hm
  clear h hm
  go_enter Tryd.func57, Tryd.ntmps57
  go_wp2_with fail
  go_loopw [3] (fun vi wr => PlO w T gb B O es p t d u vi wr) (fun vi _ => es.length - (intOf vi).toNat)
  case atStart => exact ⟨0, by omega, rfl, HB, Below.refl _ _⟩
  case round =>
    obtain ⟨i, hi, rfl, hb, hbl⟩ := hrel
    obtain ⟨AB, cB, hvB⟩ := own_shape hb.out.ownB
    subst hvB
    have hc0 : wr.cell? ⟨gb, 0, none⟩ = some (.slice AB es.length cB) := by rw [hb.out.cell, bk, List.getElem?_toArray]; rfl
    by_cases hlt : i < es.length
    · obtain ⟨wo, rfl⟩ : ∃ wo : World, wo = wr := ⟨_, rfl⟩
      obtain ⟨en, hen⟩ : ∃ en, es[i]? = some en := ⟨es[i], List.getElem?_eq_getElem hlt⟩
      have hmem := List.mem_of_getElem? hen
      obtain ⟨m30, n106⟩ := HM.out en hmem
      obtain ⟨gB, cB', hv, hcB⟩ := own_at hb.out.ownB i hlt
      injection hv with hv1 _ hv3
      subst hv1 hv3
      have HEN := Lib.hid hen
      clear hen hcB
      go_wp2_with fail
      go_loopw [4] (fun vj wr => PlI w T gb en.n (.slice (some ⟨gB, 0, none⟩) es.length cB) O es p t d u vj wr) (fun vj _ => en.n - (intOf vj).toNat)
      case atStart => exact ⟨0, by omega, rfl, hb, hbl⟩
      case round =>
        obtain ⟨j, hj, rfl, hb1, hbl1⟩ := hrel
        have hc01 : wr.cell? ⟨gb, 0, none⟩ = some (.slice (some ⟨gB, 0, none⟩) es.length cB) := by rw [hb1.out.cell, bk, List.getElem?_toArray]; rfl
        obtain ⟨gO, cO, hvO, hcO⟩ := own_at hb1.out.ownO i hlt
        subst hvO
        have hc11 : wr.cell? ⟨gb, 1, none⟩ = some (.slice (some ⟨gO, 0, none⟩) es.length cO) := by rw [hb1.out.cell, bk, List.getElem?_toArray]; rfl
        have hcB1 : wr.cell? ⟨gB, i, none⟩ = some (.slice en.A en.n en.c) := by
          rw [hb1.out.ownB.cellAt i (by omega), List.getElem?_map, HEN.out]; rfl
        rw [List.getElem?_map, HEN.out] at hcO
        have hcO1 : wr.cell? ⟨gO, i, none⟩ = some (.int .i64 (en.m : Int)) := hcO
        by_cases hjl : j < en.n
        · obtain ⟨hh, cs, hA, hBk, hcs⟩ : ∃ h cs, en.A = some ⟨h, 0, none⟩ ∧ Blk wr h 5 cs ∧ ∀ j, j < en.n → cs[j]? = some (.int .u8 (atm en.m j : Int)) := by
            rcases hb1.out.ents en hmem with h0 | h0
            · omega
            · exact h0
          have hcj : wr.cell? ⟨hh, j, none⟩ = some (.int .u8 (atm en.m j : Int)) := by rw [hBk.cell]; exact hcs j hjl
          rw [hA] at hcB1
          have hne : ((atm en.m j : Int) != (atm en.m j : Int)) = false := by simp
          clear hcs hBk hA hcO
          go_wp2_with fail
          go_quiet ((go_at_call 31; exact Calls.quiet_of_same (mark_any en.m j _ m30)))
          go_wp2_with fail
          go_roundw
          case rel => exact ⟨j + 1, by omega, by go_num, hb1.out.drewN _, below_drewN' hbl1.out _⟩
          case measure => simp [intOf]; omega
        · obtain rfl : j = en.n := by omega
          go_wp2_with fail
          go_roundw
          case rel => exact ⟨i + 1, by omega, by go_num, hb1, hbl1⟩
          case measure => simp [intOf]; omega
    · obtain rfl : i = es.length := by omega
      have hc3 : wr.cell? ⟨gb, 3, none⟩ = some (.slice none 0 0) := by rw [hb.out.cell, bk, List.getElem?_toArray]; rfl
      go_wp2_with fail
      refine wp_loop_rounds 1 ?_
      rw [rounds_succ]
      go_wp2_with fail
      go_ret
      exact ⟨rfl, hbl.out, hb.out⟩
theorem holds_any (T gb : Nat) (B O : Value) (es : List En) (p t d u : Nat) (w : World) (h : Bks w T gb B O es p t d u) (hl : es.length ≤ 1000) (hm : ∀ e ∈ es, e.m ≤ 30 ∧ e.n ≤ 1000000) :
    Calls Tryd.prog 33 #[.pointer (some ⟨gb, 0, none⟩)] w fun e w' => e = .returned (.bool true) ∧ Below w.heap.size w w' ∧ Bks w' T gb B O es p t d u := by
  go_enter Tryd.func33, Tryd.ntmps33
  go_wp2_with fail
  refine (plain_any T gb B O es p t d u w h hl hm).mono ?_
  rintro e w1 ⟨rfl, hb, h1⟩
  have H1 := Lib.hid h1
  clear h1
  go_wp2_with fail
  refine (kept_any T gb B O es p t d u w1 H1.out).mono ?_
  rintro e w2 ⟨rfl, rfl⟩
  go_wp2_with fail
  refine (told_any T gb B O es p t d u w2 H1.out).mono ?_
  rintro e w3 ⟨rfl, rfl⟩
  go_wp2_with fail
  refine (held_any T gb B O es p t d u w3 H1.out).mono ?_
  rintro e w4 ⟨rfl, rfl⟩
  go_wp2_with fail
  go_ret
  exact ⟨rfl, hb, H1.out⟩
end Go.Proofs.YtejgoienkpaabaaDoor
