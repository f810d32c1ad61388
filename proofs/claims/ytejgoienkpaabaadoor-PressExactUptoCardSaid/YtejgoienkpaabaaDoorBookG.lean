/- The law's Book: grow, Look. -/
import Derived.Test.YtejgoienkpaabaaDoorBookF
namespace Go.Proofs.YtejgoienkpaabaaDoor
open Go.RowKit
set_option maxRecDepth 100000
/-- the three lists of bytes -/
structure Lists (w : World) (L : Nat → Prop) (es0 : List En) : Prop where
  len : es0.length ≤ 5
  mm : ∀ e ∈ es0, e.m ≤ 30 ∧ e.n ≤ 99000
  own : ∀ (j : Nat) (e : En), es0[j]? = some e → w.ownsRow 0 5 1 e.v e.n (marks e.m e.n)
  hL : ∀ (j : Nat) (e : En), es0[j]? = some e → ∀ q, e.v.ownBlock = some q → L q
  dist : ∀ (i j : Nat) (e x : En), i ≠ j → es0[i]? = some e → es0[j]? = some x → ∀ q, e.v.ownBlock = some q → x.v.ownBlock ≠ some q
set_option maxHeartbeats 2000000 in
theorem grow_any (T gb : Nat) (B O : Value) (L : Nat → Prop) (es0 : List En) (turn done used : Nat) (w : World) (h : Bks w T gb B O es0 0 turn done used) (hT : T ≤ w.heap.size) (hs : Lists w L es0) :
    Calls Tryd.prog 34 #[.pointer (some ⟨gb, 0, none⟩)] w fun e w' => e = .returned (.tuple #[]) ∧ GrowPost w T gb L turn turn used w' := by
  go_enter Tryd.func34, Tryd.ntmps34
  go_wp2_with fail
  refine (growBytes_any T gb B O L es0 turn done used w h hT hs.len hs.mm hs.own hs.hL hs.dist).mono ?_
  rintro e w61 ⟨rfl, B1, O1, es, p, hb, hl, hm, hk⟩
  have H := Lib.hid hb
  have HK := Lib.hid hk
  have HM := Lib.hid hm
  clear h hs hb hk hm
  go_wp2_with fail
  refine (grow62_any T gb B1 O1 es p turn done used w61 H.out).mono ?_
  rintro e w62 ⟨rfl, h2, k2⟩
  have HK := Lib.hid (HK.out.trans (k2.mono (fun q hq => hq.elim)))
  have H := Lib.hid h2
  clear h2 k2
  go_wp2_with fail
  refine (grow63_any T gb B1 O1 es p turn done used w62 H.out).mono ?_
  rintro e w63 ⟨rfl, h2, k2⟩
  have HK := Lib.hid (HK.out.trans (k2.mono (fun q hq => hq.elim)))
  have H := Lib.hid h2
  clear h2 k2
  go_wp2_with fail
  refine (grow64_any T gb B1 O1 es p turn done used w63 H.out).mono ?_
  rintro e w64 ⟨rfl, h2, k2⟩
  have HK := Lib.hid (HK.out.trans (k2.mono (fun q hq => hq.elim)))
  have H := Lib.hid h2
  clear h2 k2
  go_wp2_with fail
  refine (grow65_any T gb B1 O1 es p turn done used w64 H.out).mono ?_
  rintro e w65 ⟨rfl, h2, k2⟩
  have HK := Lib.hid (HK.out.trans (k2.mono (fun q hq => hq.elim)))
  have H := Lib.hid h2
  clear h2 k2
  go_wp2_with fail
  refine (grow66_any T gb B1 O1 es p turn done used w65 H.out).mono ?_
  rintro e w66 ⟨rfl, h2, k2⟩
  have HK := Lib.hid (HK.out.trans (k2.mono (fun q hq => hq.elim)))
  have H := Lib.hid h2
  clear h2 k2
  go_wp2_with fail
  refine (grow67_any T gb B1 O1 es p turn done used w66 H.out).mono ?_
  rintro e w67 ⟨rfl, h2, k2⟩
  have HK := Lib.hid (HK.out.trans (k2.mono (fun q hq => hq.elim)))
  have H := Lib.hid h2
  clear h2 k2
  go_wp2_with fail
  refine (grow68_any T gb B1 O1 es p turn done used w67 H.out).mono ?_
  rintro e w68 ⟨rfl, h2, k2⟩
  have HK := Lib.hid (HK.out.trans (k2.mono (fun q hq => hq.elim)))
  have H := Lib.hid h2
  clear h2 k2
  go_wp2_with fail
  refine (grow69_any T gb B1 O1 es p turn done used w68 H.out).mono ?_
  rintro e w69 ⟨rfl, h2, k2⟩
  have HK := Lib.hid (HK.out.trans (k2.mono (fun q hq => hq.elim)))
  have H := Lib.hid h2
  clear h2 k2
  go_wp2_with fail
  refine (grow70_any T gb B1 O1 es p turn done used w69 H.out).mono ?_
  rintro e w70 ⟨rfl, h2, k2⟩
  have HK := Lib.hid (HK.out.trans (k2.mono (fun q hq => hq.elim)))
  have H := Lib.hid h2
  clear h2 k2
  go_wp2_with fail
  refine (grow71_any T gb B1 O1 es p turn done used w70 H.out).mono ?_
  rintro e w71 ⟨rfl, h2, k2⟩
  have HK := Lib.hid (HK.out.trans (k2.mono (fun q hq => hq.elim)))
  have H := Lib.hid h2
  clear h2 k2
  have hc33 : w71.cell? ⟨gb, 33, none⟩ = some (.int .i64 (turn : Int)) := by rw [H.out.cell, bk, List.getElem?_toArray]; rfl
  have hc34 : w71.cell? ⟨gb, 34, none⟩ = some (.int .i64 (done : Int)) := by rw [H.out.cell, bk, List.getElem?_toArray]; rfl
  have hf34 := H.out.blk.frozen 34
  go_wp2_with fail
  go_end0
  exact ⟨rfl, B1, O1, es, p, H.out.setc 34 _ (bk_set34 _ _ _ _ _ _ turn), hl, HM.out, HK.out.trans (Kp.set_ w71 (p := ⟨gb, 34, none⟩) (.inr H.out.hgb) _)⟩
theorem Kp.of_below {T : Nat} {L : Nat → Prop} {w w' : World} (h : Below w.heap.size w w') (hT : T ≤ w.heap.size) : Kp T L w w' := ⟨h.os, h.tape, h.output, h.size, fun k hk _ => h.block k (by omega)⟩
theorem look_any (T gb : Nat) (B O : Value) (L : Nat → Prop) (es0 : List En) (turn used : Nat) (w : World) (h : Bks w T gb B O es0 0 turn 0 used) (hT : T ≤ w.heap.size) (hs : Lists w L es0) (ht : 1 ≤ turn) :
    Calls Tryd.prog 17 #[.pointer (some ⟨gb, 0, none⟩)] w fun e w' => e = .returned (.bool true) ∧ Kp T L w w' := by
  have HL := Lib.hid hs
  have hl5 := hs.len
  go_enter Tryd.func17, Tryd.ntmps17
  go_wp2_with fail
  refine (holds_any T gb B O es0 0 turn 0 used w h (by omega) (fun e he => ⟨(hs.mm e he).1, by have := (hs.mm e he).2; omega⟩)).mono ?_
  rintro e w1 ⟨rfl, hb, h1⟩
  have H1 := Lib.hid h1
  have HB1 := Lib.hid hb
  have hT1 : T ≤ w1.heap.size := by have := hb.size; omega
  have hc33 : w1.cell? ⟨gb, 33, none⟩ = some (.int .i64 (turn : Int)) := by rw [h1.cell, bk, List.getElem?_toArray]; rfl
  have hc34 : w1.cell? ⟨gb, 34, none⟩ = some (.int .i64 0) := by rw [h1.cell, bk, List.getElem?_toArray]; rfl
  have hd : ((0 : Int) == (turn : Int)) = false := beq_eq_false_iff_ne.2 (by omega)
  clear h hs h1 hb
  go_wp2_with fail
  go_quiet (fail)
  have hL2 : Lists (w1.drewN nq) L es0 := ⟨HL.out.len, HL.out.mm, fun j e he => own_below (HL.out.own j e he) (below_drewN' HB1.out nq), HL.out.hL, HL.out.dist⟩
  have H2 := Lib.hid (H1.out.drewN nq)
  have HB2 := Lib.hid (below_drewN' HB1.out nq)
  have hT2 : T ≤ (w1.drewN nq).heap.size := hT1
  have HL2 := Lib.hid hL2
  clear hL2 hc33 hc34 H1 HB1 hT1
  generalize w1.drewN nq = w2 at *
  go_wp2_with fail
  refine (grow_any T gb B O L es0 turn 0 used w2 H2.out hT2 HL2.out).mono ?_
  rintro e w3 ⟨rfl, B3, O3, es, p, hb3, hl3, hm3, hk3⟩
  have HK3 := Lib.hid ((Kp.of_below (L := L) HB2.out hT).trans hk3)
  have hT3 : T ≤ w3.heap.size := by have := hk3.size; omega
  go_wp2_with fail
  refine (holds_any T gb B3 O3 es p turn turn used w3 hb3 hl3 hm3).mono ?_
  rintro e w4 ⟨rfl, hb4, _⟩
  go_wp2_with fail
  go_ret
  exact ⟨rfl, HK3.out.trans (Kp.of_below hb4 hT3)⟩
end Go.Proofs.YtejgoienkpaabaaDoor
