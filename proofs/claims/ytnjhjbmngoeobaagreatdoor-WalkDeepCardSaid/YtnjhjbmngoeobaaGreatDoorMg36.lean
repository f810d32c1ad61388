/- Laws towards WalkDeep: WriB, WriC, WriD, WriE. -/
import Derived.Test.YtnjhjbmngoeobaaGreatDoorMg35
import Derived.Test.YtnjhjbmngoeobaaGreatDoorMg12
import Derived.Test.YtnjhjbmngoeobaaGreatDoorMg14
import Derived.Test.YtnjhjbmngoeobaaGreatDoorMg10
namespace Go.Proofs.YtnjhjbmngoeobaaGreatDoor
open Go.RowKit
set_option maxRecDepth 100000
theorem wrs_start {w wb : World} {g n c : Nat} {A : Option Addr} {cs : Array Value} {t : TypeId} (h : Wr w 0 g [] A n c) (hwb : wb = w.alloc (.cells cs t)) : WrS wb wb g A [] w.heap.size t cs ∧ Kpt w wb g A := by
 have hgl := h.blk.lt
 refine ⟨⟨⟨A, n, c, ⟨by rw [hwb]; exact h.blk.alloc _, by rw [hwb]; exact h.own.alloc _, h.hg⟩, Nw.refl _ _, Kpt.refl _ _ _⟩, by rw [hwb]; exact Blk.new _ _ _, by omega, fun p hp e => ?_, by rw [hwb]; simp, by rw [hwb]; simp; omega, fun p hp => ?_⟩, by rw [hwb]; exact (Kpt.refl w g A).alloc _⟩
 · subst hp
   have := (h.own.lt p.block rfl).2
   omega
 · subst hp
   have := (h.own.lt p.block rfl).2
   rw [hwb]
   simp
   omega
theorem WrS.range {w0 w : World} {g q q2 o : Nat} {A0 : Option Addr} {l : List UInt8} {t : TypeId} {cs : Array Value} (h : WrS w0 w g A0 l q t cs) {xs : List Value} (hr : w0.rangeAt q2 o xs) (h0 : q2 < w0.heap.size) (hg : q2 ≠ g) (hA : ∀ p, A0 = some p → p.block ≠ q2) : w.rangeAt q2 o xs := by
 obtain ⟨_, _, _, _, _, hk⟩ := h.wr
 exact fun j v hj => (World.cell?_of_block (a := ⟨q2, o + j, none⟩) (hk.block q2 h0 hg hA)).trans (hr j v hj)
theorem WrS.gbn {w0 w w' : World} {g q : Nat} {A0 : Option Addr} {l : List UInt8} {t : TypeId} {cs : Array Value} (h : WrS w0 w g A0 l q t cs) (hb : w.grownBy w' none) : WrS w0 w' g A0 l q t cs := h.below (below_of_gb hb)
set_option maxHeartbeats 4000000 in
theorem comWrite0 (g n c : Nat) (A : Option Addr) (i : Id) (tm : Nat) (w : World) (h : Wr w 0 g [] A n c) (ht : tm < 18446744073709551616) :
 Calls Tryz.prog 135 #[.agg (comL i (.slice none 0 0) (.string ⟨#[]⟩) (.int .u64 (tm : Int)) (.string ⟨#[]⟩)).toArray, .pointer (some ⟨g, 0, none⟩)] w fun e w' => e = .returned (.tuple #[]) ∧ WrQ w g (layOb (obC i [] tm)) A w' := by
 obtain ⟨cs, hcs⟩ : ∃ cs, cs = (comL i (.slice none 0 0) (.string ⟨#[]⟩) (.int .u64 (tm : Int)) (.string ⟨#[]⟩)).toArray := ⟨_, rfl⟩
 obtain ⟨wb, hwb⟩ : ∃ wb, wb = w.alloc (.cells cs 113) := ⟨_, rfl⟩
 have hat := comL_at i (.slice none 0 0) (.string ⟨#[]⟩) (.int .u64 (tm : Int)) (.string ⟨#[]⟩)
 have HA : Hid (∀ w', Blk w' w.heap.size 113 cs → w'.cell? ⟨w.heap.size, 32, none⟩ = some (.slice none 0 0) ∧ w'.cell? ⟨w.heap.size, 33, none⟩ = some (.string ⟨#[]⟩) ∧ w'.cell? ⟨w.heap.size, 34, none⟩ = some (.int .u64 (tm : Int)) ∧ w'.cell? ⟨w.heap.size, 35, none⟩ = some (.string ⟨#[]⟩) ∧ Sl w' (some ⟨w.heap.size, 0, none⟩) i.1) := by
  intro w' hb
  refine ⟨?_, ?_, ?_, ?_, sl_of_blk hb (by rw [hcs]; exact comL_id _ _ _ _ _)⟩ <;> rw [hb.cell, hcs, List.getElem?_toArray]
  · exact hat.1
  · exact hat.2.1
  · exact hat.2.2.1
  · exact hat.2.2.2
 obtain ⟨hs0, hk0⟩ := wrs_start h hwb
 have HS := Lib.hid hs0
 have HK := Lib.hid hk0
 have HI : Hid (i.1.length = 32) := i.2
 have HT : Hid (tm < 18446744073709551616) := ht
 have HWB := Lib.hid hwb
 clear h hat hs0 hk0 ht
 rw [← hcs]
 clear hcs hwb
 go_enter Tryz.func135, Tryz.ntmps135
 go_upto_region 1 with fail
 rw [← HWB.out]
 clear HWB
 go_wp2_with fail
 refine (HS.out.u8 3 (by omega) (by simp)).mono ?_
 rintro e w1 ⟨rfl, hs1⟩
 obtain ⟨c1, c2, c3, c4, sl1⟩ := HA.out w1 hs1.blk
 have HC := Lib.hid (hs1.raw i.1 _ 32 32 HI.out sl1 (by simp))
 clear hs1 sl1 HS c1 c2 c3 c4
 go_wp2_with fail
 refine HC.out.mono ?_
 rintro e w2 ⟨rfl, hs2⟩
 obtain ⟨c1, c2, c3, c4, _⟩ := HA.out w2 hs2.blk
 have HC2 := Lib.hid (hs2.var 0 (by omega) (by simp [HI.out]))
 clear hs2 HC c2 c3 c4
 go_wp2_with fail
 refine HC2.out.mono ?_
 rintro e w3 ⟨rfl, hs3⟩
 obtain ⟨c1, c2, c3, c4, _⟩ := HA.out w3 hs3.blk
 have HS3 := Lib.hid hs3
 clear hs3 HC2 c2 c3 c4
 go_wp2_with fail
 refine wp_loop_rounds 1 ?_
 rw [rounds_succ]
 obtain ⟨c1, c2, c3, c4, _⟩ := HA.out w3 HS3.out.blk
 obtain ⟨cap, v, hconv, hsl, hb⟩ := conv_txt [] w3
 have hconv : (convert 9 35 (.string ⟨#[]⟩)).run Tryz.prog w3 = .ok (.slice (some ⟨w3.heap.size, 0, none⟩) 0 cap) v := hconv
 have HC := Lib.hid (HS3.out.text [] 0 cap rfl (by omega) hsl hb (by simp [HI.out]))
 clear HS3 hsl hb c1 c3 c4
 go_wp2_with fail
 refine HC.out.mono ?_
 rintro e w6 ⟨rfl, hs6⟩
 obtain ⟨c1, c2, c3, c4, _⟩ := HA.out w6 hs6.blk
 have HC6 := Lib.hid (hs6.u64 tm HT.out (by simp [HI.out, layB_nil]))
 clear hs6 HC c1 c2 c4
 go_wp2_with fail
 refine HC6.out.mono ?_
 rintro e w7 ⟨rfl, hs7⟩
 obtain ⟨c1, c2, c3, c4, _⟩ := HA.out w7 hs7.blk
 obtain ⟨cap7, v7, hconv, hsl, hb⟩ := conv_txt [] w7
 have hconv : (convert 9 35 (.string ⟨#[]⟩)).run Tryz.prog w7 = .ok (.slice (some ⟨w7.heap.size, 0, none⟩) 0 cap7) v7 := hconv
 have HC7 := Lib.hid (hs7.text [] 0 cap7 rfl (by omega) hsl hb (by simp [HI.out, layB_nil, be8]))
 clear hs7 hsl hb HC6 c1 c2 c3
 go_wp2_with fail
 refine HC7.out.mono ?_
 rintro e w8 ⟨rfl, hs8⟩
 have HF : Hid (WrQ w g (layOb (obC i [] tm)) A w8) := by
  have h1 := WrQ.comp (Nw.refl w A) HK.out hs8.wr
  have e1 : layOb (obC i [] tm) = [] ++ [UInt8.ofNat 3] ++ i.1 ++ [UInt8.ofNat 0] ++ layB [] ++ be8 tm ++ layB [] := by
   rw [lay_C _ _ _ (by simp), layB_nil]
   simp [idsB]
  unfold Hid
  rw [e1]
  exact h1
 clear hs8 HC7 HA HK
 go_wp2_with fail
 go_end0
 exact ⟨rfl, HF.out⟩
set_option maxHeartbeats 4000000 in
theorem comWrite1 (g n c : Nat) (A : Option Addr) (i : Id) (tm : Nat) (w : World) (h : Wr w 0 g [] A n c) (ht : tm < 18446744073709551616) (p : Id) (q k : Nat) (hq : q < w.heap.size) (hqg : q ≠ g) (hqA : ∀ p, A = some p → p.block ≠ q) (hr : w.rangeAt q 0 (U p.1)) :
 Calls Tryz.prog 135 #[.agg (comL i (.slice (some ⟨q, 0, none⟩) 1 k) (.string ⟨#[]⟩) (.int .u64 (tm : Int)) (.string ⟨#[]⟩)).toArray, .pointer (some ⟨g, 0, none⟩)] w fun e w' => e = .returned (.tuple #[]) ∧ WrQ w g (layOb (obC i [p] tm)) A w' := by
 obtain ⟨cs, hcs⟩ : ∃ cs, cs = (comL i (.slice (some ⟨q, 0, none⟩) 1 k) (.string ⟨#[]⟩) (.int .u64 (tm : Int)) (.string ⟨#[]⟩)).toArray := ⟨_, rfl⟩
 obtain ⟨wb, hwb⟩ : ∃ wb, wb = w.alloc (.cells cs 113) := ⟨_, rfl⟩
 have hat := comL_at i (.slice (some ⟨q, 0, none⟩) 1 k) (.string ⟨#[]⟩) (.int .u64 (tm : Int)) (.string ⟨#[]⟩)
 have HA : Hid (∀ w', Blk w' w.heap.size 113 cs → w'.cell? ⟨w.heap.size, 32, none⟩ = some (.slice (some ⟨q, 0, none⟩) 1 k) ∧ w'.cell? ⟨w.heap.size, 33, none⟩ = some (.string ⟨#[]⟩) ∧ w'.cell? ⟨w.heap.size, 34, none⟩ = some (.int .u64 (tm : Int)) ∧ w'.cell? ⟨w.heap.size, 35, none⟩ = some (.string ⟨#[]⟩) ∧ Sl w' (some ⟨w.heap.size, 0, none⟩) i.1) := by
  intro w' hb
  refine ⟨?_, ?_, ?_, ?_, sl_of_blk hb (by rw [hcs]; exact comL_id _ _ _ _ _)⟩ <;> rw [hb.cell, hcs, List.getElem?_toArray]
  · exact hat.1
  · exact hat.2.1
  · exact hat.2.2.1
  · exact hat.2.2.2
 obtain ⟨hs0, hk0⟩ := wrs_start h hwb
 have HS := Lib.hid hs0
 have HK := Lib.hid hk0
 have HI : Hid (i.1.length = 32) := i.2
 have HT : Hid (tm < 18446744073709551616) := ht
 have HP : Hid (p.1.length = 32) := p.2
 have HR0 : Hid (wb.rangeAt q 0 (U p.1) ∧ q < wb.heap.size ∧ q ≠ g ∧ ∀ p, A = some p → p.block ≠ q) :=
  ⟨fun j v hj => (World.cell?_of_block (a := ⟨q, 0 + j, none⟩) (hk0.block q hq hqg hqA)).trans (hr j v hj), Nat.lt_of_lt_of_le hq hk0.size, hqg, hqA⟩
 have HSZ := Lib.hid (id_size _ p.2)
 have HFT := Lib.hid (id_fit _ p.2)
 clear hq hqg hqA hr
 have HWB := Lib.hid hwb
 clear h hat hs0 hk0 ht
 rw [← hcs]
 clear hcs hwb
 go_enter Tryz.func135, Tryz.ntmps135
 go_upto_region 1 with fail
 rw [← HWB.out]
 clear HWB
 go_wp2_with fail
 refine (HS.out.u8 3 (by omega) (by simp)).mono ?_
 rintro e w1 ⟨rfl, hs1⟩
 obtain ⟨c1, c2, c3, c4, sl1⟩ := HA.out w1 hs1.blk
 have HC := Lib.hid (hs1.raw i.1 _ 32 32 HI.out sl1 (by simp))
 clear hs1 sl1 HS c1 c2 c3 c4
 go_wp2_with fail
 refine HC.out.mono ?_
 rintro e w2 ⟨rfl, hs2⟩
 obtain ⟨c1, c2, c3, c4, _⟩ := HA.out w2 hs2.blk
 have HC2 := Lib.hid (hs2.var 1 (by omega) (by simp [HI.out]))
 clear hs2 HC c2 c3 c4
 go_wp2_with fail
 refine HC2.out.mono ?_
 rintro e w3 ⟨rfl, hs3⟩
 obtain ⟨c1, c2, c3, c4, _⟩ := HA.out w3 hs3.blk
 have HS3 := Lib.hid hs3
 have HRP := Lib.hid (hs3.range HR0.out.1 HR0.out.2.1 HR0.out.2.2.1 HR0.out.2.2.2)
 have HN := id_new w3
 clear hs3 HC2 c2 c3 c4
 go_wp2_with fail
 refine wp_loop_rounds 2 ?_
 rw [rounds_succ]
 go_upto_region 7 with (first
  | (with_reducible refine wpList_load_mid rfl 30 (.tmp 23) rfl q 0 rfl (U p.1) _ HRP.out Tryz.underlying30 rfl HSZ.out ?_)
  | (with_reducible refine wpList_storeG rfl 30 (.tmp 5) (.tmp 24) rfl w3.heap.size 0 (U p.1) rfl rfl (U (List.replicate 32 0)) 30 HN.out HFT.out (U_one _) HSZ.out ?_; intro w4 HB4 HG4))
 have G4 : w3.grownBy w4 none := gb_fresh HG4.out
 have HB4 : Hid (Blk w4 w3.heap.size 30 (U p.1).toArray) := by
  have h1 := HB4.out
  rw [splice_id _ p.2] at h1
  exact h1
 have HC4 := Lib.hid ((HS3.out.gbn G4).raw p.1 _ 32 32 HP.out (sl_of_blk HB4.out (idCells p)) (by simp [HI.out]))
 clear HG4 HN HRP HS3 c1 HFT HSZ
 go_wp2_with fail
 refine HC4.out.mono ?_
 rintro e w5 ⟨rfl, hs5⟩
 obtain ⟨c1, c2, c3, c4, _⟩ := HA.out w5 hs5.blk
 have HS5 := Lib.hid hs5
 clear hs5 HC4 G4 HB4
 go_wp2_with fail
 rw [rounds_succ]
 obtain ⟨cap, v, hconv, hsl, hb⟩ := conv_txt [] w5
 have hconv : (convert 9 35 (.string ⟨#[]⟩)).run Tryz.prog w5 = .ok (.slice (some ⟨w5.heap.size, 0, none⟩) 0 cap) v := hconv
 have HC := Lib.hid (HS5.out.text [] 0 cap rfl (by omega) hsl hb (by simp [HI.out, HP.out]))
 clear HS5 hsl hb c1 c3 c4
 go_wp2_with fail
 refine HC.out.mono ?_
 rintro e w6 ⟨rfl, hs6⟩
 obtain ⟨c1, c2, c3, c4, _⟩ := HA.out w6 hs6.blk
 have HC6 := Lib.hid (hs6.u64 tm HT.out (by simp [HI.out, layB_nil, HP.out]))
 clear hs6 HC c1 c2 c4
 go_wp2_with fail
 refine HC6.out.mono ?_
 rintro e w7 ⟨rfl, hs7⟩
 obtain ⟨c1, c2, c3, c4, _⟩ := HA.out w7 hs7.blk
 obtain ⟨cap7, v7, hconv, hsl, hb⟩ := conv_txt [] w7
 have hconv : (convert 9 35 (.string ⟨#[]⟩)).run Tryz.prog w7 = .ok (.slice (some ⟨w7.heap.size, 0, none⟩) 0 cap7) v7 := hconv
 have HC7 := Lib.hid (hs7.text [] 0 cap7 rfl (by omega) hsl hb (by simp [HI.out, layB_nil, be8, HP.out]))
 clear hs7 hsl hb HC6 c1 c2 c3
 go_wp2_with fail
 refine HC7.out.mono ?_
 rintro e w8 ⟨rfl, hs8⟩
 have HF : Hid (WrQ w g (layOb (obC i [p] tm)) A w8) := by
  have h1 := WrQ.comp (Nw.refl w A) HK.out hs8.wr
  have e1 : layOb (obC i [p] tm) = [] ++ [UInt8.ofNat 3] ++ i.1 ++ [UInt8.ofNat 1] ++ p.1 ++ layB [] ++ be8 tm ++ layB [] := by
   rw [lay_C _ _ _ (by simp), layB_nil]
   simp [idsB]
  unfold Hid
  rw [e1]
  exact h1
 clear hs8 HC7 HA HK
 go_wp2_with fail
 go_end0
 exact ⟨rfl, HF.out⟩
theorem wrs_fresh {w wb : World} {g n c : Nat} {A : Option Addr} {cs : Array Value} {t : TypeId} {l : List UInt8} (h : Wr w 0 g l A n c) (hb : Below w.heap.size w wb) (hB : Blk wb w.heap.size t cs) : WrS wb wb g A l w.heap.size t cs ∧ Kpt w wb g A := by
 have hgl := h.blk.lt
 have hlt := hB.lt
 have hsz := hb.size
 refine ⟨⟨⟨A, n, c, ⟨h.blk.below hb hgl, own_below h.own hb, h.hg⟩, Nw.refl _ _, Kpt.refl _ _ _⟩, hB, by omega, fun p hp e => ?_, hlt, by omega, fun p hp => ?_⟩, ⟨hb.os, hb.tape, hb.output, hb.size, fun k hk _ _ => hb.block k hk⟩⟩
 · subst hp
   have := (h.own.lt p.block rfl).2
   omega
 · subst hp
   have := (h.own.lt p.block rfl).2
   omega
set_option maxHeartbeats 4000000 in
theorem treeWrite (g n c : Nat) (A : Option Addr) (en : Ent) (nc : UInt8) (q k : Nat) (w : World) (h : Wr w 0 g [] A n c) (hm : en.mode < 256) (hn : en.name = [nc]) (hq : q < w.heap.size) (hqg : q ≠ g) (hqA : ∀ p, A = some p → p.block ≠ q) (hr : w.rangeAt q 0 (entV en)) :
 Calls Tryz.prog 124 #[.slice (some ⟨q, 0, none⟩) 1 k, .pointer (some ⟨g, 0, none⟩)] w fun e w' => e = .returned (.tuple #[]) ∧ WrQ w g (2 :: 1 :: layEnt en) A w' := by
 have HR0 : Hid (w.rangeAt q 0 (entV en) ∧ q < w.heap.size ∧ q ≠ g ∧ ∀ p, A = some p → p.block ≠ q) := ⟨hr, hq, hqg, hqA⟩
 have HU := Lib.hid (u8k g n c 2 A [] w h (by omega) (by rw [h.len]; simp))
 have HI : Hid (en.id.1.length = 32) := en.id.2
 have HL := Lib.hid (entV_length en)
 have HSI : Hid ((Tryz.prog.info? 39).map (·.size) = some (entV en).length) := by show _ = some _; rw [entV_length]; exact info_ent34
 have HF := Lib.hid (zEnt_fit en)
 have HO := Lib.hid (entV_one en)
 have HNM := Lib.hid hn
 have HMD := Lib.hid hm
 have hwk : IntKind.u8.wrap (en.mode : Int) = (en.mode : Int) := wraps_u8 _ (by omega) (by omega)
 clear h hm hn hq hqg hqA hr
 go_enter Tryz.func124, Tryz.ntmps124
 go_wp2_with fail
 refine HU.out.mono ?_
 rintro e w1 ⟨rfl, hq1⟩
 obtain ⟨A1, n1, c1, h1, e1, hn1, hk1⟩ := hq1.wr
 have HC := Lib.hid (vark g n1 c1 1 A1 _ w1 h1 (by omega) (by rw [e1]; simp))
 have HK1 := Lib.hid (And.intro hn1 hk1)
 clear hq1 h1 e1 hn1 hk1 HU
 go_wp2_with fail
 refine HC.out.mono ?_
 rintro e w2 ⟨rfl, hq2⟩
 have hq3 := WrQ.comp HK1.out.1 HK1.out.2 hq2
 obtain ⟨A2, n2, c2, h2, e2, hn2, hk2⟩ := hq3.wr
 have HW2 := Lib.hid h2
 have HK2 := Lib.hid (And.intro hn2 hk2)
 have HRP : Hid (w2.rangeAt q 0 (entV en)) := fun j v hj => (World.cell?_of_block (a := ⟨q, 0 + j, none⟩) (hk2.block q HR0.out.2.1 HR0.out.2.2.1 HR0.out.2.2.2)).trans (HR0.out.1 j v hj)
 have HZ := ent_new w2
 clear hq2 hq3 h2 e2 hn2 hk2 HC HK1 HR0
 go_wp2_with fail
 refine wp_loop_rounds 2 ?_
 rw [rounds_succ]
 go_upto_region 5 with (first
  | (with_reducible refine wpList_load_mid rfl 39 (.tmp 17) rfl q 0 rfl (entV en) _ HRP.out Tryz.underlying39 rfl HSI.out ?_)
  | (with_reducible refine wpList_storeG rfl 39 (.tmp 5) (.tmp 18) rfl w2.heap.size 0 (entV en) rfl rfl zEnt 39 HZ.out HF.out HO.out HSI.out ?_; intro w3 HB3 HG3))
 have hB3 : Blk w3 w2.heap.size 39 (entV en).toArray := by
  have h1 := HB3.out
  rw [splice_ent] at h1
  exact h1
 have G3 : w2.grownBy w3 none := gb_fresh HG3.out
 obtain ⟨hs3, hk3⟩ := wrs_fresh HW2.out (below_of_gb G3) hB3
 have HK3 : Hid (Nw w A A2 ∧ Kpt w w3 g A) := ⟨HK2.out.1, HK2.out.2.trans HK2.out.1 hk3⟩
 have HA : Hid (∀ w', Blk w' w2.heap.size 39 (entV en).toArray → w'.cell? ⟨w2.heap.size, 0, none⟩ = some (.int .i64 (en.mode : Int)) ∧ w'.cell? ⟨w2.heap.size, 1, none⟩ = some (.string ⟨#[nc]⟩) ∧ Sl w' (some ⟨w2.heap.size, 2, none⟩) en.id.1) := by
  intro w' hb
  refine ⟨?_, ?_, sl_of_blk hb (entV_id en)⟩ <;> rw [hb.cell, List.getElem?_toArray, entV]
  · rfl
  · rw [HNM.out]; rfl
 obtain ⟨c0, c1', _⟩ := HA.out w3 hs3.blk
 have HS3 := Lib.hid (hs3.u8 en.mode HMD.out (by simp))
 clear HB3 HG3 hB3 G3 hs3 hk3 HW2 HK2 HRP HZ HF HO c1'
 go_wp2_with fail
 refine HS3.out.mono ?_
 rintro e w4 ⟨rfl, hs4⟩
 obtain ⟨_, c1', _⟩ := HA.out w4 hs4.blk
 obtain ⟨cap4, v4, hconv, hsl, hb⟩ := conv_txt [nc] w4
 have hconv : (convert 9 35 (.string ⟨#[nc]⟩)).run Tryz.prog w4 = .ok (.slice (some ⟨w4.heap.size, 0, none⟩) 1 cap4) v4 := hconv
 have HC4 := Lib.hid (hs4.text [nc] 1 cap4 rfl (by omega) hsl hb (by simp))
 clear hs4 hsl hb HS3 c0
 go_wp2_with fail
 refine HC4.out.mono ?_
 rintro e w5 ⟨rfl, hs5⟩
 obtain ⟨_, _, hsl⟩ := HA.out w5 hs5.blk
 have HC5 := Lib.hid (hs5.raw en.id.1 _ 32 32 HI.out hsl (by simp [layB_one]))
 clear hs5 hsl HC4
 go_wp2_with fail
 refine HC5.out.mono ?_
 rintro e w6 ⟨rfl, hs6⟩
 have HFIN : Hid (WrQ w g (2 :: 1 :: layEnt en) A w6) := by
  have h1 := WrQ.comp HK3.out.1 HK3.out.2 hs6.wr
  have e1 : 2 :: 1 :: layEnt en = [] ++ [UInt8.ofNat 2] ++ [UInt8.ofNat 1] ++ [UInt8.ofNat en.mode] ++ layB [nc] ++ en.id.1 := by
   simp only [layEnt, HNM.out]
   simp
  unfold Hid
  rw [e1]
  exact h1
 clear hs6 HC5 HA HK3
 go_wp2_with fail
 rw [rounds_succ]
 go_wp2_with fail
 go_end0
 exact ⟨rfl, HFIN.out⟩
def OfPost (w : World) (v : Value) (e : Ending) (w' : World) : Prop := e = .returned (.tuple #[v, .int .i64 0]) ∧ Below w.heap.size w w'
theorem ob_boxed (l : List Value) (w : World) : Hid (Blk (w.alloc (.cells l.toArray 47)) w.heap.size 47 l.toArray) := Blk.new _ _ _
theorem obL_0 (k b e : Value) (c t : List Value) : (obL k b e c t).toArray[0]? = some k ∧ (obL k b e c t).toArray[2]? = some e := by
 constructor <;> rw [List.getElem?_toArray] <;> rfl
theorem obL_c (k b e : Value) (c t : List Value) : ∀ j v, c[j]? = some v → (obL k b e c t).toArray[3 + j]? = some v := fun j v hj => by
 rw [List.getElem?_toArray, obL, List.getElem?_append_right (by simp)]
 simp only [List.length_cons, List.length_nil]
 rw [show 3 + j - (0 + 1 + 1 + 1) = j by omega, List.getElem?_append_left ((List.getElem?_eq_some_iff.1 hj).1)]
 exact hj
theorem obL_t (k b e : Value) (c t : List Value) (hc : c.length = 36) : ∀ j v, t[j]? = some v → (obL k b e c t).toArray[39 + j]? = some v := fun j v hj => by
 rw [List.getElem?_toArray, obL, List.getElem?_append_right (by simp; omega)]
 simp only [List.length_cons, List.length_nil]
 rw [List.getElem?_append_right (by omega), hc, show 39 + j - (0 + 1 + 1 + 1) - 36 = j by omega]
 exact hj
set_option maxHeartbeats 2000000 in
theorem of_tree (A : Option Addr) (n k : Nat) (c t : List Value) (b : Value) (w : World) : Calls Tryz.prog 19 #[.agg (obL (.int .i64 2) b (.slice A n k) c t).toArray] w (OfPost w (.iface 112 (.slice A n k))) := by
 have HB := ob_boxed (obL (.int .i64 2) b (.slice A n k) c t) w
 have c0 := HB.out.cell 0
 have c2 := HB.out.cell 2
 rw [(obL_0 _ _ _ _ _).1] at c0
 rw [(obL_0 _ _ _ _ _).2] at c2
 have HF : Hid (OfPost w (.iface 112 (.slice A n k)) (.returned (.tuple #[.iface 112 (.slice A n k), .int .i64 0])) (w.alloc (.cells (obL (.int .i64 2) b (.slice A n k) c t).toArray 47))) := ⟨rfl, (Below.refl _ _).alloc (Nat.le_refl _) _⟩
 clear HB
 go_enter Tryz.func19, Tryz.ntmps19
 go_upto_region 1 with fail
 generalize w.alloc (.cells (obL (.int .i64 2) b (.slice A n k) c t).toArray 47) = wb at *
 go_wp2_with fail
 go_ret2
 exact HF.out
set_option maxHeartbeats 2000000 in
theorem of_commit (c t : List Value) (b e : Value) (hc : c.length = 36) (w : World) : Calls Tryz.prog 19 #[.agg (obL (.int .i64 3) b e c t).toArray] w (OfPost w (.iface 113 (.agg c.toArray))) := by
 have HB := ob_boxed (obL (.int .i64 3) b e c t) w
 have c0 := HB.out.cell 0
 rw [(obL_0 _ _ _ _ _).1] at c0
 have HR := Lib.hid (range_of_blk HB.out (obL_c (.int .i64 3) b e c t))
 have HSI : Hid ((Tryz.prog.info? 43).map (·.size) = some c.length) := by show _ = _; rw [hc]; kernel_rfl
 have HF : Hid (OfPost w (.iface 113 (.agg c.toArray)) (.returned (.tuple #[.iface 113 (.agg c.toArray), .int .i64 0])) (w.alloc (.cells (obL (.int .i64 3) b e c t).toArray 47))) := ⟨rfl, (Below.refl _ _).alloc (Nat.le_refl _) _⟩
 clear HB hc
 go_enter Tryz.func19, Tryz.ntmps19
 go_upto_region 1 with fail
 generalize w.alloc (.cells (obL (.int .i64 3) b e c t).toArray 47) = wb at *
 go_wp2_with (with_reducible refine wpList_load_mid rfl 43 (.tmp 18) rfl w.heap.size 3 rfl c _ HR.out Tryz.underlying43 rfl HSI.out ?_)
 go_ret2
 exact HF.out
set_option maxHeartbeats 2000000 in
theorem of_tag (c t : List Value) (b e : Value) (hc : c.length = 36) (ht : t.length = 37) (w : World) : Calls Tryz.prog 19 #[.agg (obL (.int .i64 4) b e c t).toArray] w (OfPost w (.iface 114 (.agg t.toArray))) := by
 have HB := ob_boxed (obL (.int .i64 4) b e c t) w
 have c0 := HB.out.cell 0
 rw [(obL_0 _ _ _ _ _).1] at c0
 have HR := Lib.hid (range_of_blk HB.out (obL_t (.int .i64 4) b e c t hc))
 have HSI : Hid ((Tryz.prog.info? 45).map (·.size) = some t.length) := by show _ = _; rw [ht]; kernel_rfl
 have HF : Hid (OfPost w (.iface 114 (.agg t.toArray)) (.returned (.tuple #[.iface 114 (.agg t.toArray), .int .i64 0])) (w.alloc (.cells (obL (.int .i64 4) b e c t).toArray 47))) := ⟨rfl, (Below.refl _ _).alloc (Nat.le_refl _) _⟩
 clear HB hc ht
 go_enter Tryz.func19, Tryz.ntmps19
 go_upto_region 1 with fail
 generalize w.alloc (.cells (obL (.int .i64 4) b e c t).toArray 47) = wb at *
 go_wp2_with (with_reducible refine wpList_load_mid rfl 45 (.tmp 23) rfl w.heap.size 39 rfl t _ HR.out Tryz.underlying45 rfl HSI.out ?_)
 go_ret2
 exact HF.out
def EncPost (w : World) (b : Bs) (e : Ending) (w' : World) : Prop := ∃ q, e = .returned (.tuple #[.slice (some ⟨q, 0, none⟩) b.length b.length, .int .i64 0]) ∧ w'.ownsRow w.heap.size 5 1 (.slice (some ⟨q, 0, none⟩) b.length b.length) b.length (U b) ∧ Below w.heap.size w w'
theorem meth_tree_write (v : Value) (w : World) : (method 305 112 v "satchel/object.write").run Tryz.prog w = .ok (124, v) w := by kernel_rfl
theorem meth_commit_write (v : Value) (w : World) : (method 305 113 v "satchel/object.write").run Tryz.prog w = .ok (135, v) w := by kernel_rfl
theorem meth_tag_write (v : Value) (w : World) : (method 305 114 v "satchel/object.write").run Tryz.prog w = .ok (142, v) w := by kernel_rfl
theorem wr_new (w : World) : Wr (w.alloc (.cells #[.slice none 0 0] 116)) 0 w.heap.size [] none 0 0 := ⟨Blk.new _ _ _, own_nil _ _ _ _, Nat.zero_le _⟩
theorem obL_arr (k b e : Value) (c t : List Value) (hc : c.length = 36) (ht : t.length = 37) : (Tryz.prog.info? 47).map (·.size) = some (obL k b e c t).toArray.size := by
 rw [List.size_toArray, obL_length k b e c t hc ht]; exact info_ob
set_option maxHeartbeats 4000000 in
theorem enc_tree (w : World) (en : Ent) (nc : UInt8) (q k : Nat) (b : Value) (hm1 : 1 ≤ en.mode) (hm4 : en.mode ≤ 4) (hnm : en.name = [nc]) (hc : nc.toNat < 127) (h32 : 32 ≤ nc.toNat) (h46 : nc.toNat ≠ 46) (h47 : nc.toNat ≠ 47) (hr : w.rangeAt q 0 (entV en)) (hq : q < w.heap.size) : Calls Tryz.prog 7 #[.agg (obL (.int .i64 2) b (.slice (some ⟨q, 0, none⟩) 1 k) zCom zTag).toArray] w (EncPost w (2 :: 1 :: layEnt en)) := by
 obtain ⟨l, hl⟩ : ∃ l, l = obL (.int .i64 2) b (.slice (some ⟨q, 0, none⟩) 1 k) zCom zTag := ⟨_, rfl⟩
 obtain ⟨wb, hwb⟩ : ∃ wb, wb = w.alloc (.cells l.toArray 47) := ⟨_, rfl⟩
 have HB : Hid (wb.heap[w.heap.size]? = some (.cells l.toArray 47 (0, 0))) := by rw [hwb]; exact heap_alloc_new w _
 have hb : Below w.heap.size w wb := by rw [hwb]; exact (Below.refl _ _).alloc (Nat.le_refl _) _
 have HSI : Hid ((Tryz.prog.info? 47).map (·.size) = some l.toArray.size) := by rw [hl]; exact obL_arr _ _ _ _ _ zCom_length zTag_length
 have HO := Lib.hid (of_tree (some ⟨q, 0, none⟩) 1 k zCom zTag b wb)
 unfold Hid at HO
 rw [← hl] at HO
 have HO := Lib.hid HO
 have HBB := Lib.hid hb
 have HWB := Lib.hid hwb
 have HPR : Hid (1 ≤ en.mode ∧ en.mode ≤ 4 ∧ en.name = [nc] ∧ nc.toNat < 127 ∧ 32 ≤ nc.toNat ∧ nc.toNat ≠ 46 ∧ nc.toNat ≠ 47) := ⟨hm1, hm4, hnm, hc, h32, h46, h47⟩
 have HR := Lib.hid hr
 have HR2 := Lib.hid hq
 clear hm1 hm4 hnm hc h32 h46 h47 hr hq
 have HLEN : Hid ((2 :: 1 :: layEnt en).length ≤ 1000) := by unfold Hid; simp only [layEnt, List.length_cons, List.length_append, layB_one, HPR.out.2.2.1, en.id.2]; decide
 rw [← hl]
 clear hwb hl hb
 go_enter Tryz.func7, Tryz.ntmps7
 go_upto_region 1 with fail
 rw [← HWB.out]
 clear HWB
 go_wp2_with (with_reducible refine wpList_load_row rfl 47 (.tmp 1) rfl w.heap.size rfl 47 l.toArray (0, 0) _ HB.out Tryz.underlying47 rfl HSI.out ?_)
 refine HO.out.mono ?_
 rintro e w1 ⟨rfl, hb1⟩
 have HB1 : Hid (Below w.heap.size w w1) := HBB.out.trans (hb1.mono HBB.out.size)
 have hmc := meth_tree1_check
 have hmw := meth_tree_write
 have HCK := Lib.hid (treeCheck_one q k en nc w1 (rangeAt_below HR.out HB1.out HR2.out) (Nat.lt_of_lt_of_le HR2.out HB1.out.size) HPR.out.1 HPR.out.2.1 HPR.out.2.2.1 HPR.out.2.2.2.1 HPR.out.2.2.2.2.1 HPR.out.2.2.2.2.2.1 HPR.out.2.2.2.2.2.2)
 clear hb1 HBB HB HO HSI
 go_wp2_with fail
 refine HCK.out.mono ?_
 rintro e w2 ⟨rfl, hb2⟩
 have HB2 : Hid (Below w.heap.size w w2) := HB1.out.trans (hb2.mono HB1.out.size)
 have HNEW := Lib.hid (new_any w2)
 clear hb2 HB1 HCK hmc
 go_wp2_with fail
 refine HNEW.out.mono ?_
 rintro e w3 ⟨rfl, rfl⟩
 have HB3 : Hid (Below w2.heap.size w2 (w2.alloc (.cells #[.slice none 0 0] 116))) := (Below.refl _ _).alloc (Nat.le_refl _) _
 have HW := Lib.hid (treeWrite w2.heap.size 0 0 none en nc q k _ (wr_new w2) (by have := HPR.out.2.1; omega) HPR.out.2.2.1 (Nat.lt_of_lt_of_le HR2.out (Nat.le_trans HB2.out.size HB3.out.size)) (by have := HR2.out; have := HB2.out.size; omega) (fun p hp => by cases hp) (rangeAt_below HR.out (HB2.out.trans (HB3.out.mono HB2.out.size)) HR2.out))
 clear HNEW
 generalize w2.alloc (.cells #[.slice none 0 0] 116) = w3 at *
 go_wp2_with fail
 refine HW.out.mono ?_
 rintro e w4 ⟨rfl, hq4⟩
 obtain ⟨A4, n4, c4, h4, e4, hn4, hk4⟩ := hq4.wr
 have HL4 := Lib.hid (lenk w2.heap.size n4 c4 A4 _ w4 h4)
 have HO4 := Lib.hid (out_any 0 w2.heap.size n4 c4 A4 _ w4 h4 (by rw [e4]; have := HLEN.out; unfold Lim; omega))
 have hd4 : decide (65536 < n4) = false := decide_eq_false (by rw [e4]; have := HLEN.out; omega)
 have hd4' : decide ((65536 : Int) < (n4 : Int)) = false := decide_eq_false (by rw [e4]; have := HLEN.out; omega)
 have HB4 : Hid (Below w.heap.size w w4) := by
  have h1 := HB2.out
  have h2 := h1.trans (HB3.out.mono h1.size)
  exact h2.trans (hk4.below (Nat.le_trans h1.size HB3.out.size) h1.size (fun p hp => by cases hp))
 have HE4 := Lib.hid e4
 clear hq4 h4 hn4 hk4 HW hmw HB3 HB2 e4
 go_wp2_with fail
 refine HL4.out.mono ?_
 rintro e w5 ⟨rfl, rfl⟩
 clear HL4
 go_wp2_with fail
 refine HO4.out.mono ?_
 rintro e w6 ⟨rfl, ho6, hb6⟩
 have HF : Hid (EncPost w (2 :: 1 :: layEnt en) (.returned (.tuple #[.slice (some ⟨w4.heap.size, 0, none⟩) n4 n4, .int .i64 0])) w6) := by
  have e4 := HE4.out
  subst e4
  exact ⟨w4.heap.size, rfl, own_base ho6 HB4.out.size, HB4.out.trans (hb6.mono HB4.out.size)⟩
 clear ho6 hb6 HO4 HB4
 go_wp2_with fail
 go_ret2
 exact HF.out
set_option maxHeartbeats 4000000 in
theorem enc_com0 (w : World) (i : Id) (tm : Nat) (b e : Value) (ht : tm ≤ 1099511627776) : Calls Tryz.prog 7 #[.agg (obL (.int .i64 3) b e (comL i (.slice none 0 0) (.string ⟨#[]⟩) (.int .u64 (tm : Int)) (.string ⟨#[]⟩)) zTag).toArray] w (EncPost w (layOb (obC i [] tm))) := by
 obtain ⟨l, hl⟩ : ∃ l, l = obL (.int .i64 3) b e (comL i (.slice none 0 0) (.string ⟨#[]⟩) (.int .u64 (tm : Int)) (.string ⟨#[]⟩)) zTag := ⟨_, rfl⟩
 obtain ⟨wb, hwb⟩ : ∃ wb, wb = w.alloc (.cells l.toArray 47) := ⟨_, rfl⟩
 have HB : Hid (wb.heap[w.heap.size]? = some (.cells l.toArray 47 (0, 0))) := by rw [hwb]; exact heap_alloc_new w _
 have hb : Below w.heap.size w wb := by rw [hwb]; exact (Below.refl _ _).alloc (Nat.le_refl _) _
 have HSI : Hid ((Tryz.prog.info? 47).map (·.size) = some l.toArray.size) := by rw [hl]; exact obL_arr _ _ _ _ _ (comL_length _ _ _ _ _) zTag_length
 have HO := Lib.hid (of_commit (comL i (.slice none 0 0) (.string ⟨#[]⟩) (.int .u64 (tm : Int)) (.string ⟨#[]⟩)) zTag b e (comL_length _ _ _ _ _) wb)
 unfold Hid at HO
 rw [← hl] at HO
 have HO := Lib.hid HO
 have HBB := Lib.hid hb
 have HWB := Lib.hid hwb
 have HT := Lib.hid ht
 clear ht
 have HLEN : Hid ((layOb (obC i [] tm)).length ≤ 1000) := by unfold Hid; rw [len_C _ _ _ (by simp)]; simp
 rw [← hl]
 clear hwb hl hb
 go_enter Tryz.func7, Tryz.ntmps7
 go_upto_region 1 with fail
 rw [← HWB.out]
 clear HWB
 go_wp2_with (with_reducible refine wpList_load_row rfl 47 (.tmp 1) rfl w.heap.size rfl 47 l.toArray (0, 0) _ HB.out Tryz.underlying47 rfl HSI.out ?_)
 refine HO.out.mono ?_
 rintro e w1 ⟨rfl, hb1⟩
 have HB1 : Hid (Below w.heap.size w w1) := HBB.out.trans (hb1.mono HBB.out.size)
 have hmc := meth_com0_check
 have hmw := meth_commit_write
 have HCK := Lib.hid (comCheck_nil i [] [] tm w1 (.inl rfl) HT.out (by simp))
 clear hb1 HBB HB HO HSI
 go_wp2_with fail
 refine HCK.out.mono ?_
 rintro e w2 ⟨rfl, hb2⟩
 have HB2 : Hid (Below w.heap.size w w2) := HB1.out.trans (hb2.mono HB1.out.size)
 have HNEW := Lib.hid (new_any w2)
 clear hb2 HB1 HCK hmc
 go_wp2_with fail
 refine HNEW.out.mono ?_
 rintro e w3 ⟨rfl, rfl⟩
 have HB3 : Hid (Below w2.heap.size w2 (w2.alloc (.cells #[.slice none 0 0] 116))) := (Below.refl _ _).alloc (Nat.le_refl _) _
 have HW := Lib.hid (comWrite0 w2.heap.size 0 0 none i tm _ (wr_new w2) (by have := HT.out; omega))
 clear HNEW
 generalize w2.alloc (.cells #[.slice none 0 0] 116) = w3 at *
 go_wp2_with fail
 refine HW.out.mono ?_
 rintro e w4 ⟨rfl, hq4⟩
 obtain ⟨A4, n4, c4, h4, e4, hn4, hk4⟩ := hq4.wr
 have HL4 := Lib.hid (lenk w2.heap.size n4 c4 A4 _ w4 h4)
 have HO4 := Lib.hid (out_any 0 w2.heap.size n4 c4 A4 _ w4 h4 (by rw [e4]; have := HLEN.out; unfold Lim; omega))
 have hd4 : decide (65536 < n4) = false := decide_eq_false (by rw [e4]; have := HLEN.out; omega)
 have hd4' : decide ((65536 : Int) < (n4 : Int)) = false := decide_eq_false (by rw [e4]; have := HLEN.out; omega)
 have HB4 : Hid (Below w.heap.size w w4) := by
  have h1 := HB2.out
  have h2 := h1.trans (HB3.out.mono h1.size)
  exact h2.trans (hk4.below (Nat.le_trans h1.size HB3.out.size) h1.size (fun p hp => by cases hp))
 have HE4 := Lib.hid e4
 clear hq4 h4 hn4 hk4 HW hmw HB3 HB2 e4
 go_wp2_with fail
 refine HL4.out.mono ?_
 rintro e w5 ⟨rfl, rfl⟩
 clear HL4
 go_wp2_with fail
 refine HO4.out.mono ?_
 rintro e w6 ⟨rfl, ho6, hb6⟩
 have HF : Hid (EncPost w (layOb (obC i [] tm)) (.returned (.tuple #[.slice (some ⟨w4.heap.size, 0, none⟩) n4 n4, .int .i64 0])) w6) := by
  have e4 := HE4.out
  subst e4
  exact ⟨w4.heap.size, rfl, own_base ho6 HB4.out.size, HB4.out.trans (hb6.mono HB4.out.size)⟩
 clear ho6 hb6 HO4 HB4
 go_wp2_with fail
 go_ret2
 exact HF.out
set_option maxHeartbeats 4000000 in
theorem enc_com1 (w : World) (i p : Id) (q k : Nat) (tm : Nat) (b e : Value) (ht : tm ≤ 1099511627776) (hr : w.rangeAt q 0 (U p.1)) (hq : q < w.heap.size) : Calls Tryz.prog 7 #[.agg (obL (.int .i64 3) b e (comL i (.slice (some ⟨q, 0, none⟩) 1 k) (.string ⟨#[]⟩) (.int .u64 (tm : Int)) (.string ⟨#[]⟩)) zTag).toArray] w (EncPost w (layOb (obC i [p] tm))) := by
 obtain ⟨l, hl⟩ : ∃ l, l = obL (.int .i64 3) b e (comL i (.slice (some ⟨q, 0, none⟩) 1 k) (.string ⟨#[]⟩) (.int .u64 (tm : Int)) (.string ⟨#[]⟩)) zTag := ⟨_, rfl⟩
 obtain ⟨wb, hwb⟩ : ∃ wb, wb = w.alloc (.cells l.toArray 47) := ⟨_, rfl⟩
 have HB : Hid (wb.heap[w.heap.size]? = some (.cells l.toArray 47 (0, 0))) := by rw [hwb]; exact heap_alloc_new w _
 have hb : Below w.heap.size w wb := by rw [hwb]; exact (Below.refl _ _).alloc (Nat.le_refl _) _
 have HSI : Hid ((Tryz.prog.info? 47).map (·.size) = some l.toArray.size) := by rw [hl]; exact obL_arr _ _ _ _ _ (comL_length _ _ _ _ _) zTag_length
 have HO := Lib.hid (of_commit (comL i (.slice (some ⟨q, 0, none⟩) 1 k) (.string ⟨#[]⟩) (.int .u64 (tm : Int)) (.string ⟨#[]⟩)) zTag b e (comL_length _ _ _ _ _) wb)
 unfold Hid at HO
 rw [← hl] at HO
 have HO := Lib.hid HO
 have HBB := Lib.hid hb
 have HWB := Lib.hid hwb
 have HT := Lib.hid ht
 have HR := Lib.hid hr
 have HR2 := Lib.hid hq
 clear ht hr hq
 have HLEN : Hid ((layOb (obC i [p] tm)).length ≤ 1000) := by unfold Hid; rw [len_C _ _ _ (by simp)]; simp
 rw [← hl]
 clear hwb hl hb
 go_enter Tryz.func7, Tryz.ntmps7
 go_upto_region 1 with fail
 rw [← HWB.out]
 clear HWB
 go_wp2_with (with_reducible refine wpList_load_row rfl 47 (.tmp 1) rfl w.heap.size rfl 47 l.toArray (0, 0) _ HB.out Tryz.underlying47 rfl HSI.out ?_)
 refine HO.out.mono ?_
 rintro e w1 ⟨rfl, hb1⟩
 have HB1 : Hid (Below w.heap.size w w1) := HBB.out.trans (hb1.mono HBB.out.size)
 have hmc := meth_com0_check
 have hmw := meth_commit_write
 have HCK := Lib.hid (comCheck_one i p q k [] [] tm w1 (rangeAt_below HR.out HB1.out HR2.out) (Nat.lt_of_lt_of_le HR2.out HB1.out.size) (.inl rfl) HT.out (by simp))
 clear hb1 HBB HB HO HSI
 go_wp2_with fail
 refine HCK.out.mono ?_
 rintro e w2 ⟨rfl, hb2⟩
 have HB2 : Hid (Below w.heap.size w w2) := HB1.out.trans (hb2.mono HB1.out.size)
 have HNEW := Lib.hid (new_any w2)
 clear hb2 HB1 HCK hmc
 go_wp2_with fail
 refine HNEW.out.mono ?_
 rintro e w3 ⟨rfl, rfl⟩
 have HB3 : Hid (Below w2.heap.size w2 (w2.alloc (.cells #[.slice none 0 0] 116))) := (Below.refl _ _).alloc (Nat.le_refl _) _
 have HW := Lib.hid (comWrite1 w2.heap.size 0 0 none i tm _ (wr_new w2) (by have := HT.out; omega) p q k (Nat.lt_of_lt_of_le HR2.out (Nat.le_trans HB2.out.size HB3.out.size)) (by have := HR2.out; have := HB2.out.size; omega) (fun p hp => by cases hp) (rangeAt_below HR.out (HB2.out.trans (HB3.out.mono HB2.out.size)) HR2.out))
 clear HNEW
 generalize w2.alloc (.cells #[.slice none 0 0] 116) = w3 at *
 go_wp2_with fail
 refine HW.out.mono ?_
 rintro e w4 ⟨rfl, hq4⟩
 obtain ⟨A4, n4, c4, h4, e4, hn4, hk4⟩ := hq4.wr
 have HL4 := Lib.hid (lenk w2.heap.size n4 c4 A4 _ w4 h4)
 have HO4 := Lib.hid (out_any 0 w2.heap.size n4 c4 A4 _ w4 h4 (by rw [e4]; have := HLEN.out; unfold Lim; omega))
 have hd4 : decide (65536 < n4) = false := decide_eq_false (by rw [e4]; have := HLEN.out; omega)
 have hd4' : decide ((65536 : Int) < (n4 : Int)) = false := decide_eq_false (by rw [e4]; have := HLEN.out; omega)
 have HB4 : Hid (Below w.heap.size w w4) := by
  have h1 := HB2.out
  have h2 := h1.trans (HB3.out.mono h1.size)
  exact h2.trans (hk4.below (Nat.le_trans h1.size HB3.out.size) h1.size (fun p hp => by cases hp))
 have HE4 := Lib.hid e4
 clear hq4 h4 hn4 hk4 HW hmw HB3 HB2 e4
 go_wp2_with fail
 refine HL4.out.mono ?_
 rintro e w5 ⟨rfl, rfl⟩
 clear HL4
 go_wp2_with fail
 refine HO4.out.mono ?_
 rintro e w6 ⟨rfl, ho6, hb6⟩
 have HF : Hid (EncPost w (layOb (obC i [p] tm)) (.returned (.tuple #[.slice (some ⟨w4.heap.size, 0, none⟩) n4 n4, .int .i64 0])) w6) := by
  have e4 := HE4.out
  subst e4
  exact ⟨w4.heap.size, rfl, own_base ho6 HB4.out.size, HB4.out.trans (hb6.mono HB4.out.size)⟩
 clear ho6 hb6 HO4 HB4
 go_wp2_with fail
 go_ret2
 exact HF.out
set_option maxHeartbeats 4000000 in
theorem enc_tag (w : World) (i : Id) (kd : Nat) (b e : Value) (hk1 : 1 ≤ kd) (hk4 : kd ≤ 4) : Calls Tryz.prog 7 #[.agg (obL (.int .i64 4) b e zCom (tagL i (.int .i64 (kd : Int)) (.string ⟨#[116]⟩) (.string ⟨#[]⟩) (.int .u64 0) (.string ⟨#[]⟩))).toArray] w (EncPost w (layOb (obG i kd))) := by
 obtain ⟨l, hl⟩ : ∃ l, l = obL (.int .i64 4) b e zCom (tagL i (.int .i64 (kd : Int)) (.string ⟨#[116]⟩) (.string ⟨#[]⟩) (.int .u64 0) (.string ⟨#[]⟩)) := ⟨_, rfl⟩
 obtain ⟨wb, hwb⟩ : ∃ wb, wb = w.alloc (.cells l.toArray 47) := ⟨_, rfl⟩
 have HB : Hid (wb.heap[w.heap.size]? = some (.cells l.toArray 47 (0, 0))) := by rw [hwb]; exact heap_alloc_new w _
 have hb : Below w.heap.size w wb := by rw [hwb]; exact (Below.refl _ _).alloc (Nat.le_refl _) _
 have HSI : Hid ((Tryz.prog.info? 47).map (·.size) = some l.toArray.size) := by rw [hl]; exact obL_arr _ _ _ _ _ zCom_length (tagL_length _ _ _ _ _ _)
 have HO := Lib.hid (of_tag zCom (tagL i (.int .i64 (kd : Int)) (.string ⟨#[116]⟩) (.string ⟨#[]⟩) (.int .u64 0) (.string ⟨#[]⟩)) b e zCom_length (tagL_length _ _ _ _ _ _) wb)
 unfold Hid at HO
 rw [← hl] at HO
 have HO := Lib.hid HO
 have HBB := Lib.hid hb
 have HWB := Lib.hid hwb
 have HT := Lib.hid (And.intro hk1 hk4)
 clear hk1 hk4
 have HLEN : Hid ((layOb (obG i kd)).length ≤ 1000) := by unfold Hid; rw [len_G]; omega
 rw [← hl]
 clear hwb hl hb
 go_enter Tryz.func7, Tryz.ntmps7
 go_upto_region 1 with fail
 rw [← HWB.out]
 clear HWB
 go_wp2_with (with_reducible refine wpList_load_row rfl 47 (.tmp 1) rfl w.heap.size rfl 47 l.toArray (0, 0) _ HB.out Tryz.underlying47 rfl HSI.out ?_)
 refine HO.out.mono ?_
 rintro e w1 ⟨rfl, hb1⟩
 have HB1 : Hid (Below w.heap.size w w1) := HBB.out.trans (hb1.mono HBB.out.size)
 have hmc := meth_tag1_check
 have hmw := meth_tag_write
 have HCK := Lib.hid (tagCheck_one i kd 116 [] [] 0 w1 HT.out.1 HT.out.2 (by decide) (by decide) (by decide) (by decide) (.inl rfl) (by omega) (by simp))
 clear hb1 HBB HB HO HSI
 go_wp2_with fail
 refine HCK.out.mono ?_
 rintro e w2 ⟨rfl, hb2⟩
 have HB2 : Hid (Below w.heap.size w w2) := HB1.out.trans (hb2.mono HB1.out.size)
 have HNEW := Lib.hid (new_any w2)
 clear hb2 HB1 HCK hmc
 go_wp2_with fail
 refine HNEW.out.mono ?_
 rintro e w3 ⟨rfl, rfl⟩
 have HB3 : Hid (Below w2.heap.size w2 (w2.alloc (.cells #[.slice none 0 0] 116))) := (Below.refl _ _).alloc (Nat.le_refl _) _
 have HW := Lib.hid (tagWrite w2.heap.size 0 0 none i kd _ (wr_new w2) (by have := HT.out; omega))
 clear HNEW
 generalize w2.alloc (.cells #[.slice none 0 0] 116) = w3 at *
 go_wp2_with fail
 refine HW.out.mono ?_
 rintro e w4 ⟨rfl, hq4⟩
 obtain ⟨A4, n4, c4, h4, e4, hn4, hk4⟩ := hq4.wr
 have HL4 := Lib.hid (lenk w2.heap.size n4 c4 A4 _ w4 h4)
 have HO4 := Lib.hid (out_any 0 w2.heap.size n4 c4 A4 _ w4 h4 (by rw [e4]; have := HLEN.out; unfold Lim; omega))
 have hd4 : decide (65536 < n4) = false := decide_eq_false (by rw [e4]; have := HLEN.out; omega)
 have hd4' : decide ((65536 : Int) < (n4 : Int)) = false := decide_eq_false (by rw [e4]; have := HLEN.out; omega)
 have HB4 : Hid (Below w.heap.size w w4) := by
  have h1 := HB2.out
  have h2 := h1.trans (HB3.out.mono h1.size)
  exact h2.trans (hk4.below (Nat.le_trans h1.size HB3.out.size) h1.size (fun p hp => by cases hp))
 have HE4 := Lib.hid e4
 clear hq4 h4 hn4 hk4 HW hmw HB3 HB2 e4
 go_wp2_with fail
 refine HL4.out.mono ?_
 rintro e w5 ⟨rfl, rfl⟩
 clear HL4
 go_wp2_with fail
 refine HO4.out.mono ?_
 rintro e w6 ⟨rfl, ho6, hb6⟩
 have HF : Hid (EncPost w (layOb (obG i kd)) (.returned (.tuple #[.slice (some ⟨w4.heap.size, 0, none⟩) n4 n4, .int .i64 0])) w6) := by
  have e4 := HE4.out
  subst e4
  exact ⟨w4.heap.size, rfl, own_base ho6 HB4.out.size, HB4.out.trans (hb6.mono HB4.out.size)⟩
 clear ho6 hb6 HO4 HB4
 go_wp2_with fail
 go_ret2
 exact HF.out
end Go.Proofs.YtnjhjbmngoeobaaGreatDoor
