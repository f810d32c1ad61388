/- The law's Book: growBytes. -/
import Derived.Test.YtejgoienkpaabaaDoorBookE
namespace Go.Proofs.YtejgoienkpaabaaDoor
open Go.RowKit
set_option maxRecDepth 100000
def GoO (w : World) (T gb : Nat) (L : Nat → Prop) (es0 : List En) (turn done used : Nat) (vk : Value) (wr : World) : Prop :=
  ∃ (k : Nat) (es : List En), k ≤ es0.length ∧ vk = .int .i64 k ∧ Hid (es0.length ≤ es.length) ∧ Hid (Gr w wr T gb L es0 es k (96 * k) turn done used)
def GoI (w : World) (T gb : Nat) (L : Nat → Prop) (es0 : List En) (k n0 m turn done used : Nat) (vg vi : Value) (wr : World) : Prop :=
  ∃ (i n c : Nat) (A : Option Addr) (es : List En), 1 ≤ i ∧ i ≤ 97 ∧ vi = .int .i64 i ∧ vg = .slice A n c ∧ Hid (n + 1 = n0 + i) ∧ n ≤ 99999 ∧ Hid (es0.length ≤ es.length) ∧ es.length ≤ 1000 ∧ Hid (GrI w wr T gb L es0 es k (96 * k + (i - 1)) turn done used A n c m)
def GrowPost (w : World) (T gb : Nat) (L : Nat → Prop) (turn done used : Nat) (w' : World) : Prop :=
  ∃ B O es p, Bks w' T gb B O es p turn done used ∧ es.length ≤ 1000 ∧ (∀ e ∈ es, e.m ≤ 30 ∧ e.n ≤ 1000000) ∧ Kp T L w w'
theorem Gr.weaken {w0 w : World} {T gb : Nat} {L : Nat → Prop} {es0 es : List En} {k r r' turn done used : Nat} (h : Gr w0 w T gb L es0 es k r turn done used) (hr : r ≤ r') : Gr w0 w T gb L es0 es k r' turn done used :=
  ⟨h.bks, h.pre, by have := h.len; omega, h.mm, h.own, h.kp, h.hT⟩
theorem GrI.weaken {w0 w : World} {T gb : Nat} {L : Nat → Prop} {es0 es : List En} {k r r' turn done used : Nat} {A : Option Addr} {n c m : Nat} (h : GrI w0 w T gb L es0 es k r turn done used A n c m) (hr : r ≤ r') : GrI w0 w T gb L es0 es k r' turn done used A n c m :=
  ⟨h.toGr.weaken hr, h.gown, h.fitg, h.apart, h.gL⟩
set_option maxHeartbeats 4000000 in
theorem growBytes_any (T gb : Nat) (B O : Value) (L : Nat → Prop) (es0 : List En) (turn done used : Nat) (w : World) (h : Bks w T gb B O es0 0 turn done used) (hT : T ≤ w.heap.size) (hl : es0.length ≤ 5) (hm : ∀ e ∈ es0, e.m ≤ 30 ∧ e.n ≤ 99000)
    (ho : ∀ (j : Nat) (e : En), es0[j]? = some e → w.ownsRow 0 5 1 e.v e.n (marks e.m e.n)) (hL : ∀ (j : Nat) (e : En), es0[j]? = some e → ∀ q, e.v.ownBlock = some q → L q)
    (hd : ∀ (i j : Nat) (e x : En), i ≠ j → es0[i]? = some e → es0[j]? = some x → ∀ q, e.v.ownBlock = some q → x.v.ownBlock ≠ some q) :
    Calls Tryd.prog 61 #[.pointer (some ⟨gb, 0, none⟩)] w fun e w' => e = .returned (.tuple #[]) ∧ GrowPost w T gb L turn done used w' := by
  have hG : Gr w w T gb L es0 es0 0 0 turn done used := by
    refine ⟨⟨B, O, h⟩, fun _ _ => rfl, by omega, fun e he => ⟨(hm e he).1, by have := (hm e he).2; omega⟩, fun j e _ he => ⟨ho j e he, fun x hx hn g hA hq => ?_⟩, Kp.refl _ _ _, hT⟩
    obtain ⟨i, hi, rfl⟩ := List.getElem_of_mem hx
    have hxi : es0[i]? = some es0[i] := List.getElem?_eq_getElem hi
    by_cases hij : i = j
    · subst hij
      rw [hxi] at he
      injection he with he
      rw [he]
      exact Nat.le_refl _
    · exact absurd hq (hd i j _ _ hij hxi he g (by show (Value.slice es0[i].A es0[i].n es0[i].c).ownBlock = _; rw [hA]; rfl))
  have HG := Lib.hid hG
  have HLL := Lib.hid hL
  have HD := Lib.hid hd
  have HM := Lib.hid hm
  obtain ⟨AB, cB, hvB⟩ := own_shape h.ownB
  subst hvB
  have hc0 : w.cell? ⟨gb, 0, none⟩ = some (.slice AB es0.length cB) := by rw [h.cell, bk, List.getElem?_toArray]; rfl
  have hc2 : w.cell? ⟨gb, 2, none⟩ = some (.int .i64 0) := by rw [h.cell, bk, List.getElem?_toArray]; rfl
  obtain ⟨i5, hi5, hz50, hz51, hz52⟩ := info_parts info5
  obtain ⟨i22, hi22, hz220, hz221, hz222⟩ := info_parts info22
  obtain ⟨i3, hi3, hz30, hz31, hz32⟩ := info_parts info3
  clear h hG hL hd hm ho
  go_enter Tryd.func61, Tryd.ntmps61
  go_wp2_with fail
  go_loopw [3] (fun vk wr => GoO w T gb L es0 turn done used vk wr) (fun vk _ => es0.length - (intOf vk).toNat)
  case atStart => exact ⟨0, es0, by omega, rfl, Nat.le_refl _, HG⟩
  case round =>
    obtain ⟨k, es, hk, rfl, hle, hg⟩ := hrel
    by_cases hlt : k < es0.length
    · obtain ⟨wo, rfl⟩ : ∃ wo : World, wo = wr := ⟨_, rfl⟩
      obtain ⟨e, he⟩ : ∃ e, es0[k]? = some e := ⟨es0[k], List.getElem?_eq_getElem hlt⟩
      have hmem := List.mem_of_getElem? he
      obtain ⟨m30, n99⟩ := HM.out e hmem
      obtain ⟨B1, O1, hb1⟩ := hg.out.bks
      have hes : es[k]? = some e := by rw [hg.out.pre k hlt, he]
      have hkl : k < es.length := by have := hle.out; omega
      obtain ⟨gB, cB1, hvB1, hcB1⟩ := own_at hb1.ownB k hkl
      subst hvB1
      obtain ⟨gO, cO1, hvO1, hcO1⟩ := own_at hb1.ownO k hkl
      subst hvO1
      have hd0 : wo.cell? ⟨gb, 0, none⟩ = some (.slice (some ⟨gB, 0, none⟩) es.length cB1) := by rw [hb1.cell, bk, List.getElem?_toArray]; rfl
      have hd1 : wo.cell? ⟨gb, 1, none⟩ = some (.slice (some ⟨gO, 0, none⟩) es.length cO1) := by rw [hb1.cell, bk, List.getElem?_toArray]; rfl
      rw [List.getElem?_map, hes] at hcB1 hcO1
      have hdB : wo.cell? ⟨gB, k, none⟩ = some (.slice e.A e.n e.c) := hcB1
      have hdO : wo.cell? ⟨gO, k, none⟩ = some (.int .i64 (e.m : Int)) := hcO1
      have hkli : (k : Int) < es.length := by omega
      have HE : Hid (GrI w wo T gb L es0 es k (96 * k) turn done used e.A e.n e.c e.m) := hg.out.enter he (HLL.out k e he) (fun j x hj hx => HD.out k j e x (by omega) he hx)
      have hesl : es.length ≤ 1000 := by have := hg.out.len; omega
      clear hb1 hcB1 hcO1 hes he hmem
      go_wp2_with fail
      go_loopw [4, 6] (fun vg vi wr => GoI w T gb L es0 k e.n e.m turn done used vg vi wr) (fun _ vi _ => 97 - (intOf vi).toNat)
      case atStart => exact ⟨1, e.n, e.c, e.A, es, by omega, by omega, rfl, rfl, rfl, by omega, hle, hesl, HE⟩
      case round =>
        obtain ⟨i, n, c, A, es1, hi1, hi97, rfl, rfl, hni, hn9, hle1, hesl1, hgi⟩ := hrel
        by_cases hi96 : i ≤ 96
        · have hdi : decide ((i : Int) ≤ 96) = true := decide_eq_true (by omega)
          have hTr := hgi.out.hT
          go_wp2_with fail
          refine (mark_any e.m n wr m30).mono ?_
          rintro er w2 ⟨rfl, rfl⟩
          obtain ⟨r, hr⟩ : ∃ r, r = i % 16 := ⟨_, rfl⟩
          have e1 : (i : Int) % 16 = (r : Int) := by omega
          have e2 : (i : Int).tmod 16 = (r : Int) := by rw [Int.tmod_eq_emod_of_nonneg (by omega)]; exact e1
          clear hr
          by_cases hc : i < 4 ∨ r = 0
          · have hcond : decide ((i : Int) < 4) = true ∨ (decide ((i : Int) < 4) = false ∧ ((r : Int) == 0) = true) := by
              by_cases h : i < 4
              · exact .inl (decide_eq_true (by omega))
              · exact .inr ⟨decide_eq_false (by omega), beq_iff_eq.2 (by omega)⟩
            clear hc
            rcases hcond with h4 | ⟨h4, hr0⟩
            all_goals
              go_wp2_with (first
                | (at_builtin
                   refine wpList_pushS w2 rfl (.tmp 39) (.tmp 44) 22 rfl 0 5 i5 (.int .u8 0) 1 Tryd.underlying22 hi5 hz50 hz51 hz52 rfl A n c (marks e.m n) rfl hgi.out.gown (.int .u8 (atm e.m n : Int)) _ rfl _ rfl rfl (by omega) (by unfold maxLen; omega) (Nat.zero_le _) ?_
                   intro A5 c5 w5 hown5 hg5 hs5 hb5
                   have HP := Lib.hid (hgi.out.push hown5 hg5 hs5 hb5)
                   obtain ⟨B5, O5, hbk5⟩ := HP.out.bks
                   obtain ⟨AB5, cB5, hvB5⟩ := own_shape hbk5.ownB
                   subst hvB5
                   obtain ⟨AO5, cO5, hvO5⟩ := own_shape hbk5.ownO
                   subst hvO5
                   have hc50 : w5.cell? ⟨gb, 0, none⟩ = some (.slice AB5 es1.length cB5) := by rw [hbk5.cell, bk, List.getElem?_toArray]; rfl
                   have hT5 := HP.out.hT
                   have HB5 := Lib.hid hbk5
                   clear hbk5 hown5 hg5 hs5 hb5)
                | (at_builtin
                   refine wpList_pushS w5 rfl (.tmp 57) (.tmp 59) 35 rfl T 22 i22 (.slice none 0 0) 24 Tryd.underlying35 hi22 hz220 hz221 hz222 rfl AB5 es1.length cB5 (es1.map En.v) rfl HB5.out.ownB (.slice A5 (n + 1) c5) _ rfl _ rfl rfl (by omega) (by unfold maxLen; omega) hT5 ?_
                   intro A6 c6 w6 hown6 hg6 _ _
                   have HH := HB5.out.half (e := ⟨A5, n + 1, c5, e.m⟩) hT5 hown6 hg6
                   have hc60 : w6.cell? ⟨gb, 0, none⟩ = some (.slice AB5 es1.length cB5) := by rw [HH.1.cell, bk, List.getElem?_toArray]; rfl
                   have hc61 : w6.cell? ⟨gb, 1, none⟩ = some (.slice AO5 es1.length cO5) := by rw [HH.1.cell, bk, List.getElem?_toArray]; rfl
                   have hf60 := HH.1.frozen 0
                   have hf61 := HH.1.frozen 1
                   have HHa := Lib.hid HH.2.1
                   have HHf := Lib.hid HH.2.2.1
                   have HHk := Lib.hid HH.2.2.2
                   have hT6 : T ≤ (w6.setCell ⟨gb, 0, none⟩ (.slice A6 (es1.length + 1) c6)).heap.size := by have := HHk.out.size; omega
                   clear HH hown6 hg6)
                | (at_builtin
                   refine wpList_pushS (w6.setCell ⟨gb, 0, none⟩ (.slice A6 (es1.length + 1) c6)) rfl (.tmp 67) (.tmp 69) 36 rfl T 3 i3 (.int .i64 0) 8 Tryd.underlying36 hi3 hz30 hz31 hz32 rfl AO5 es1.length cO5 (es1.map fun e => .int .i64 (e.m : Int)) rfl HHa.out.ownO (.int .i64 (e.m : Int)) _ rfl w6.heap.size rfl (by simp [World.setCell]) (by omega) (by unfold maxLen; omega) hT6 ?_
                   intro A7 c7 w7 hown7 hg7 _ _
                   have HI := HHa.out.done (EnOK.of_own (own5 HP.out.gown HHf.out)) hT6 hown7 hg7
                   have hc71 : w7.cell? ⟨gb, 1, none⟩ = some (.slice AO5 es1.length cO5) := by rw [HI.1.cell, bk, List.getElem?_toArray]; rfl
                   have hf71 := HI.1.frozen 1
                   have HF := Lib.hid (HP.out.add HI.2.1 (HHf.out.trans HI.2.2.1) (HHk.out.trans HI.2.2.2) m30 (by omega) hle1.out)
                   clear HI hown7 hg7 hc60 hc61 hf60 hf61 hc50)
                | fail)
              go_roundw
              case rel => exact ⟨i + 1, n + 1, c5, A5, _, by omega, by omega, by go_num, rfl, by show _ = _; have := hni.out; omega, by have := hni.out; omega, by show _ ≤ _; simp; have := hle1.out; omega, by have := HF.out.len; omega, HF.out.weaken (by omega)⟩
              case measure => simp [intOf]; omega
          · have h4 : decide ((i : Int) < 4) = false := decide_eq_false (by omega)
            have hr0 : ((r : Int) == 0) = false := beq_eq_false_iff_ne.2 (by omega)
            go_wp2_with (first
              | (at_builtin
                 refine wpList_pushS w2 rfl (.tmp 39) (.tmp 44) 22 rfl 0 5 i5 (.int .u8 0) 1 Tryd.underlying22 hi5 hz50 hz51 hz52 rfl A n c (marks e.m n) rfl hgi.out.gown (.int .u8 (atm e.m n : Int)) _ rfl _ rfl rfl (by omega) (by unfold maxLen; omega) (Nat.zero_le _) ?_
                 intro A5 c5 w5 hown5 hg5 hs5 hb5
                 have HP := Lib.hid (hgi.out.push hown5 hg5 hs5 hb5)
                 clear hown5 hg5 hs5 hb5)
              | fail)
            go_roundw
            case rel => exact ⟨i + 1, n + 1, c5, A5, es1, by omega, by omega, by go_num, rfl, by show _ = _; have := hni.out; omega, by have := hni.out; omega, hle1, hesl1, HP.out.weaken (by omega)⟩
            case measure => simp [intOf]; omega
        · have hdi : decide ((i : Int) ≤ 96) = false := decide_eq_false (by omega)
          go_wp2_with fail
          go_roundw
          case rel => exact ⟨k + 1, es1, by omega, by go_num, hle1, hgi.out.toGr.weaken (by omega)⟩
          case measure => simp [intOf]; omega
    · obtain ⟨B1, O1, hb1⟩ := hg.out.bks
      obtain ⟨AB1, cB1, hvB1⟩ := own_shape hb1.ownB
      subst hvB1
      have hd0 : wr.cell? ⟨gb, 0, none⟩ = some (.slice AB1 es.length cB1) := by rw [hb1.cell, bk, List.getElem?_toArray]; rfl
      have hd2 : wr.cell? ⟨gb, 2, none⟩ = some (.int .i64 0) := by rw [hb1.cell, bk, List.getElem?_toArray]; rfl
      have hdf := hb1.blk.frozen 2
      have HB1 := Lib.hid hb1
      clear hb1
      go_wp2_with fail
      go_end0
      have hlen := hg.out.len
      refine ⟨rfl, _, O1, es, es.length, HB1.out.setc 2 _ (bk_set2 _ _ _ _ _ _ es.length), by omega, fun e he => ⟨(hg.out.mm e he).1, by have := (hg.out.mm e he).2; omega⟩, hg.out.kp.trans (Kp.set_ wr (p := ⟨gb, 2, none⟩) (.inr HB1.out.hgb) _)⟩
end Go.Proofs.YtejgoienkpaabaaDoor
