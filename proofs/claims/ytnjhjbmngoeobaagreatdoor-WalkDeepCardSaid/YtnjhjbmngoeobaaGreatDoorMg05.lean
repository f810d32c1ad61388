/- Laws towards WalkDeep: HshP, DigC, DigD. -/
import Derived.Test.YtnjhjbmngoeobaaGreatDoorMg03
import Derived.Test.YtnjhjbmngoeobaaGreatDoorMg04
import Derived.Test.YtnjhjbmngoeobaaGreatDoorMg02
import Derived.Test.YtnjhjbmngoeobaaGreatDoorMg01
import Derived.Laws.Rows
namespace Go.Proofs.YtnjhjbmngoeobaaGreatDoor.Dg
structure HInv (tx : List UInt8) (st : St) (tl : List UInt8) (hv : Nat) : Prop where
 len : tl.length = 64
 eh : hv = tx.length % 64
 es : st = blks st0 tx (tx.length / 64)
 et : tl.take hv = tx.drop (64 * (tx.length / 64))
def lay (tl : List UInt8) (hv : Nat) (p : List UInt8) : List UInt8 := tl.take hv ++ (p ++ tl.drop (hv + p.length))
theorem lay_length {tl : List UInt8} {hv : Nat} {p : List UInt8} (h : tl.length = 64) (hp : hv + p.length ≤ 64) : (lay tl hv p).length = 64 := by
 unfold lay
 simp only [List.length_append, List.length_take, List.length_drop]
 omega
theorem HInv.start : HInv [] st0 (List.replicate 64 0) 0 := ⟨by decide, rfl, rfl, rfl⟩
theorem HInv.part {tx : List UInt8} {st : St} {tl : List UInt8} {hv : Nat} (h : HInv tx st tl hv) {p : List UInt8} (hp : hv + p.length < 64) :
 HInv (tx ++ p) st (lay tl hv p) (hv + p.length) := by
 have e := h.eh
 have hl : (tx ++ p).length = tx.length + p.length := List.length_append
 have hq : (tx ++ p).length / 64 = tx.length / 64 := by omega
 have hle : 64 * (tx.length / 64) ≤ tx.length := by omega
 refine ⟨lay_length h.len (by omega), by omega, ?_, ?_⟩
 · rw [hq, blks_congr _ _ _ _ hle]
   exact h.es
 · rw [hq, List.drop_append_of_le_length hle, ← h.et]
   have hk : (tl.take hv).length = hv := by rw [List.length_take, h.len]; omega
   unfold lay
   rw [← List.append_assoc]
   exact List.take_left' (by rw [List.length_append, hk])
theorem HInv.full {tx : List UInt8} {st : St} {tl : List UInt8} {hv : Nat} (h : HInv tx st tl hv) {p : List UInt8} (hp : hv + p.length = 64) :
 HInv (tx ++ p) (comp st (lay tl hv p)) (lay tl hv p) 0 := by
 have e := h.eh
 have hl : (tx ++ p).length = tx.length + p.length := List.length_append
 have hq : (tx ++ p).length / 64 = tx.length / 64 + 1 := by omega
 have hle : 64 * (tx.length / 64) ≤ tx.length := by omega
 have hlay : lay tl hv p = (tx ++ p).drop (64 * (tx.length / 64)) := by
  rw [List.drop_append_of_le_length hle, ← h.et]
  unfold lay
  rw [List.drop_of_length_le (by rw [h.len]; omega), List.append_nil]
 have hll := lay_length h.len (Nat.le_of_eq hp)
 refine ⟨hll, by omega, ?_, ?_⟩
 · rw [hq, blks, blks_congr _ _ _ _ hle, ← h.es, ← hlay, List.take_of_length_le (Nat.le_of_eq hll)]
 · rw [hq, List.take_zero, List.drop_of_length_le (by omega)]
theorem HInv.sha {tx : List UInt8} {st : St} {tl : List UInt8} {hv : Nat} (h : HInv (padded tx) st tl hv) : outS st = sha tx := by
 rw [h.es]
 rfl
theorem HInv.zeros {tx : List UInt8} {st : St} {tl : List UInt8} {hv : Nat} (h : HInv tx st tl hv) : (hv + 1 + padz tx.length) % 64 = 56 ∧ ∀ k, k < padz tx.length → (hv + 1 + k) % 64 ≠ 56 := by
 have e := h.eh
 unfold padz
 constructor
 · omega
 · intro k hk
   omega
end Go.Proofs.YtnjhjbmngoeobaaGreatDoor.Dg
namespace Go.Proofs.YtnjhjbmngoeobaaGreatDoor
open Go.RowKit
set_option maxRecDepth 100000
def Sx (w : World) (g : Nat) (A : Option Addr) (l : List UInt8) : Prop :=
 l = [] ∨ ∃ h o, A = some ⟨h, o, none⟩ ∧ h < w.heap.size ∧ h ≠ g ∧ ∀ j, j < l.length → w.cell? ⟨h, o + j, none⟩ = some (.int .u8 ((l.getD j 0).toNat : Int))
theorem Sx.gb {w w' : World} {g : Nat} {A : Option Addr} {l : List UInt8} (h : Sx w g A l) (hb : w.grownBy w' (some g)) : Sx w' g A l := by
 rcases h with rfl | ⟨h, o, rfl, hlt, hne, hc⟩
 · exact .inl rfl
 · exact .inr ⟨h, o, rfl, Nat.lt_of_lt_of_le hlt hb.size, hne, fun j hj => (World.cell?_of_block (a := ⟨h, o + j, none⟩) (hb.block h hlt (by simpa using hne))).trans (hc j hj)⟩
theorem Sx.of_sl {w : World} {g : Nat} {A : Option Addr} {l : List UInt8} (h : Sl w A l) (hg : ∀ p, A = some p → p.block ≠ g) : Sx w g A l := by
 rcases h with rfl | ⟨h, o, rfl, hlt, hc⟩
 · exact .inl rfl
 · exact .inr ⟨h, o, rfl, hlt, hg _ rfl, hc⟩
theorem Sx.cut {w : World} {g k c : Nat} {A : Option Addr} {l : List UInt8} (h : Sx w g A l) (hc : l.length ≤ c) : Sx w g (if c = k then A else A.map (·.add k)) (l.drop k) := by
 rcases h with rfl | ⟨h, o, rfl, hlt, hne, hcell⟩
 · exact .inl (by simp)
 · by_cases hk : l.length ≤ k
   · exact .inl (List.drop_of_length_le hk)
   · rw [if_neg (by omega)]
     refine .inr ⟨h, o + k, by simp [addr_add], hlt, hne, fun j hj => ?_⟩
     rw [List.length_drop] at hj
     rw [Nat.add_assoc, hcell (k + j) (by omega), List.getD_eq_getElem?_getD, List.getD_eq_getElem?_getD, List.getElem?_drop]
theorem hC_have {s : List Nat} {tl : List UInt8} {hv al : Nat} (hs : s.length = 8) (ht : tl.length = 64) : (hC s tl hv al)[72]? = some (.int .i64 (hv : Int)) := by
 unfold hC
 rw [List.getElem?_toArray, List.getElem?_append_right (by simp [n32, hs]), List.getElem?_append_right (by simp [n32, hs, U_length, ht])]
 simp [n32, hs, U_length, ht]
theorem hC_all {s : List Nat} {tl : List UInt8} {hv al : Nat} (hs : s.length = 8) (ht : tl.length = 64) : (hC s tl hv al)[73]? = some (.int .u64 (al : Int)) := by
 unfold hC
 rw [List.getElem?_toArray, List.getElem?_append_right (by simp [n32, hs]), List.getElem?_append_right (by simp [n32, hs, U_length, ht])]
 simp [n32, hs, U_length, ht]
theorem hC_setHave {s : List Nat} {tl : List UInt8} (hv al x : Nat) (hs : s.length = 8) (ht : tl.length = 64) : (hC s tl hv al).setIfInBounds 72 (.int .i64 (x : Int)) = hC s tl x al := by
 unfold hC
 apply Array.ext'
 simp only [List.setIfInBounds_toArray, List.toList_toArray]
 rw [List.set_append_right _ _ (by simp [n32, hs]), List.set_append_right _ _ (by simp [n32, hs, U_length, ht])]
 have e : 72 - (n32 s).length - (U tl).length = 0 := by simp [n32, hs, U_length, ht]
 rw [e]
 rfl
theorem hC_setAll {s : List Nat} {tl : List UInt8} (hv al x : Nat) (hs : s.length = 8) (ht : tl.length = 64) : (hC s tl hv al).setIfInBounds 73 (.int .u64 (x : Int)) = hC s tl hv x := by
 unfold hC
 apply Array.ext'
 simp only [List.setIfInBounds_toArray, List.toList_toArray]
 rw [List.set_append_right _ _ (by simp [n32, hs]), List.set_append_right _ _ (by simp [n32, hs, U_length, ht])]
 have e : 73 - (n32 s).length - (U tl).length = 1 := by simp [n32, hs, U_length, ht]
 rw [e]
 rfl
theorem splice_mid {α : Type} (X Y Z p : List α) (k : Nat) (hk : k + p.length ≤ Y.length) : splice (X ++ (Y ++ Z)) (X.length + k) p = X ++ ((Y.take k ++ (p ++ Y.drop (k + p.length))) ++ Z) := by
 unfold splice
 rw [List.take_append, List.drop_append, Nat.add_assoc]
 have e1 : X.length + k - X.length = k := by omega
 have e2 : X.length + (k + p.length) - X.length = k + p.length := by omega
 rw [e1, e2, List.take_of_length_le (by omega), List.drop_of_length_le (by omega), List.take_append_of_le_length (by omega), List.drop_append_of_le_length hk]
 simp
theorem hC_lay {s : List Nat} {tl p : List UInt8} {hv al : Nat} (hs : s.length = 8) (ht : tl.length = 64) (hp : hv + p.length ≤ 64) :
 (splice (n32 s ++ (U tl ++ [Value.int .i64 (hv : Int), Value.int .u64 (al : Int)])) (8 + hv) (U p)).toArray = hC s (Dg.lay tl hv p) hv al := by
 have e : (n32 s).length = 8 := by simp [n32, hs]
 rw [← e, splice_mid _ _ _ _ _ (by rw [U_length, U_length, ht]; exact hp)]
 unfold hC Dg.lay
 rw [U_append, U_append, U_length]
 congr 2
 congr 1
 simp [U, List.map_take, List.map_drop]
theorem RndTab.gb {w w' : World} {g : Nat} (h : RndTab w) (hb : w.grownBy w' (some g)) (hg : 3 < g) : RndTab w' :=
 ⟨Nat.lt_of_lt_of_le h.lt hb.size, fun t ht => (World.cell?_of_block (a := ⟨3, t, none⟩) (hb.block 3 h.lt (by simp; omega))).trans (h.cell t ht)⟩
structure Hsh (w : World) (g : Nat) (tx : List UInt8) (al : Nat) (st : Dg.St) (tl : List UInt8) (hv : Nat) : Prop where
 inv : Dg.HInv tx st tl hv
 ok : st.Ok
 blk : Blk w g 151 (hC st.list tl hv al)
theorem HInv_lt {tx : List UInt8} {st : Dg.St} {tl : List UInt8} {hv : Nat} (h : Dg.HInv tx st tl hv) : hv < 64 := by rw [h.eh]; omega
def WrtRel (w : World) (g : Nat) (tx bs : List UInt8) (vb : Value) (wr : World) : Prop :=
 ∃ (k r c : Nat) (A : Option Addr) (st : Dg.St) (tl : List UInt8) (hv : Nat), vb = .slice A r c ∧ r ≤ c ∧ Hid (k + r = bs.length) ∧
  Hid (Hsh wr g (tx ++ bs.take k) (tx.length + bs.length) st tl hv) ∧ Hid (Sx wr g A (bs.drop k)) ∧ Hid (w.grownBy wr (some g))
theorem Sx.src {w : World} {g m : Nat} {A : Option Addr} {l : List UInt8} (h : Sx w g A l) : 0 < (l.take m).length → ∃ ad, A = some ad ∧ ∀ j v, (U (l.take m))[j]? = some v → w.cell? (ad.add j) = some v := by
 intro hp
 rcases h with rfl | ⟨h, o, rfl, hlt, hne, hc⟩
 · simp at hp
 · refine ⟨_, rfl, fun j v hj => ?_⟩
   rw [U_get] at hj
   rw [addr_add]
   rw [List.getElem?_take] at hj
   by_cases hm : j < m
   · rw [if_pos hm] at hj
     cases hl : l[j]? with
     | none => rw [hl] at hj; cases hj
     | some x =>
       rw [hl] at hj
       obtain ⟨hlj, _⟩ := List.getElem?_eq_some_iff.1 hl
       rw [hc j hlj, List.getD_eq_getElem?_getD, hl]
       exact hj
   · rw [if_neg hm] at hj
     cases hj
def rowLen : Value → Nat | .slice _ r _ => r | _ => 0
def WrtPost (w : World) (g : Nat) (tx bs : List UInt8) (w' : World) : Prop :=
 ∃ st tl hv, Hsh w' g (tx ++ bs) (tx.length + bs.length) st tl hv ∧ w.grownBy w' (some g)
set_option maxHeartbeats 4000000 in
theorem write_any (g : Nat) (tx bs : List UInt8) (st : Dg.St) (tl : List UInt8) (hv n c : Nat) (A : Option Addr) (w : World) (h : Hsh w g tx tx.length st tl hv) (htab : RndTab w) (hg : 3 < g)
 (hn : bs.length = n) (hnc : n ≤ c) (hs : Sx w g A bs) (hb : tx.length + bs.length ≤ 1152921504606846976) :
 Calls Tryz.prog 66 #[.pointer (some ⟨g, 0, none⟩), .slice A n c] w fun e w' => e = .returned (.tuple #[]) ∧ WrtPost w g tx bs w' := by
 have HH := Lib.hid h
 have HTAB := Lib.hid htab
 have HS := Lib.hid hs
 have HN := Lib.hid hn
 have c73 : w.cell? ⟨g, 73, none⟩ = some (.int .u64 ((tx.length : Nat) : Int)) := by rw [h.blk.cell]; exact hC_all rfl h.inv.len
 have f73 := h.blk.frozen 73
 have hnb : tx.length + n ≤ 1152921504606846976 := by rw [← hn]; exact hb
 have HB0 : Hid (Blk (w.setCell ⟨g, 73, none⟩ (.int .u64 ((tx.length + bs.length : Nat) : Int))) g 151 (hC st.list tl hv (tx.length + bs.length))) := by
  have h1 := h.blk.set_ 73 (.int .u64 ((tx.length + bs.length : Nat) : Int))
  rw [hC_setAll _ _ _ rfl h.inv.len] at h1
  exact h1
 obtain ⟨L0, hL0⟩ : ∃ z, z = tx.length := ⟨_, rfl⟩
 obtain ⟨L1, hL1⟩ : ∃ z, z = tx.length + bs.length := ⟨_, rfl⟩
 have e1 : IntKind.u64.wrap (n : Int) = (n : Int) := wraps_u64 _ (by omega) (by omega)
 have e2 : IntKind.u64.wrap ((L0 : Int) + (n : Int)) = (L1 : Int) := by rw [wraps_u64 _ (by omega) (by omega)]; omega
 rw [← hL1] at HB0
 rw [← hL0] at c73
 have HL1 := Lib.hid hL1
 have hn60 : n ≤ 1152921504606846976 := by omega
 clear h htab hs hn hb hL0 hL1 hnb
 go_enter Tryz.func66, Tryz.ntmps66
 go_wp2_with fail
 have hsB : Hid (w.grownBy (w.setCell ⟨g, 73, none⟩ (.int .u64 (L1 : Int))) (some g)) := gb_set (p := ⟨g, 73, none⟩) (gb_refl _ _) (.inl rfl) _
 go_loopw [1] (fun vb wr => WrtRel w g tx bs vb wr) (fun vb _ => rowLen vb)
 case atStart =>
  refine ⟨0, n, c, A, st, tl, hv, rfl, hnc, by have := HN.out; show _ = _; omega, ⟨by simpa using HH.out.inv, HH.out.ok, by rw [← HL1.out]; exact HB0.out⟩, ?_, hsB⟩
  exact (HS.out.gb hsB.out)
 case round =>
  obtain ⟨hv0, rfl⟩ : ∃ z, z = hv := ⟨_, rfl⟩
  clear HH HS HB0 hsB c73 f73 e1 e2
  obtain ⟨k, r, c2, A2, st, tl, hv, rfl, hrc, HK, HH1, HSr, HW⟩ := hrel
  have HHr : Hid (Hsh wr g (tx ++ bs.take k) L1 st tl hv) := by
   show Hsh _ _ _ _ _ _ _
   rw [HL1.out]
   exact HH1.out
  clear HH1
  have hv64 := HInv_lt HHr.out.inv
  by_cases hr : r = 0
  · subst hr
    have HE : Hid (WrtPost w g tx bs wr) := by
     have hk := HK.out
     have h1 : bs.take k = bs := List.take_of_length_le (by omega)
     have h2 := HHr.out
     rw [h1, HL1.out] at h2
     exact ⟨st, tl, hv, h2, HW.out⟩
    clear HHr HSr HK HW
    go_wp2_with fail
    go_end0
    exact ⟨rfl, HE.out⟩
  · have hltd : decide (0 < r) = true := decide_eq_true (by omega)
    have hr63 : r ≤ 1152921504606846976 := by have := HK.out; have := HN.out; omega
    have c72 : wr.cell? ⟨g, 72, none⟩ = some (.int .i64 (hv : Int)) := by rw [HHr.out.blk.cell]; exact hC_have rfl HHr.out.inv.len
    obtain ⟨d, hd⟩ : ∃ z, z = 64 - hv := ⟨_, rfl⟩
    have ed : (64 : Int) - (hv : Int) = (d : Int) := by omega
    have ew : IntKind.i64.wrap (d : Int) = (d : Int) := wraps_i64 _ (by omega) (by omega)
    have HD := Lib.hid hd
    have hd64 : d ≤ 64 := by omega
    clear hd
    obtain ⟨m, hm⟩ : ∃ z, z = min d r := ⟨_, rfl⟩
    have em : (if d < r then (d : Int) else (r : Int)) = (m : Int) := by split <;> omega
    have hmd : m ≤ d := by omega
    have hmr : m ≤ r := by omega
    have HM := Lib.hid hm
    clear hm
    go_upto_region 3 with fail
    clear em
    have HP : Hid (((bs.drop k).take m).length = m) := by have := HK.out; show _ = _; rw [List.length_take, List.length_drop]; omega
    obtain ⟨p, hp⟩ : ∃ p, p = (bs.drop k).take m := ⟨_, rfl⟩
    rw [← hp] at HP
    have HPE := Lib.hid hp
    clear hp
    go_cut [] from 26 to 37 (fun wx => Hid (Blk wx g 151 (hC st.list (Dg.lay tl hv p) hv L1)) ∧ Hid (wr.grownBy wx (some g)))
    case first =>
     have hv64i : (hv : Int) ≤ 64 := by omega
     have hmi : (m : Int) ≤ (c2 : Int) := by omega
     have HSC : Hid (0 < p.length → ∃ ad, A2 = some ad ∧ ∀ j v, (U p)[j]? = some v → wr.drew.cell? (ad.add j) = some v) := by
      show 0 < p.length → _
      rw [HPE.out]
      exact HSr.out.src
     have HL : Hid ((U p).length = Nat.min m (64 - hv)) := by
      show _ = _
      rw [U_length, HP.out, HD.out] at *
      exact (Nat.min_eq_left hmd).symm
     have HF : Hid (8 + hv + (U p).length ≤ (n32 st.list ++ (U tl ++ [Value.int .i64 (hv : Int), Value.int .u64 (L1 : Int)])).length) := by
      show _ ≤ _
      rw [U_length, HP.out]
      simp only [List.length_append, U_length, HHr.out.inv.len]
      have := HD.out
      simp [n32, Dg.St.list]
      omega
     go_region_law ((refine step_copyG rfl (.tmp 33) (.tmp 36) 35 35 rfl 5 Tryz.underlying35 size5 (some (if 64 = hv then ⟨g, 8, none⟩ else ⟨g, 8 + hv, none⟩)) A2 (64 - hv) (64 - hv) m c2 rfl rfl g (8 + hv) (n32 st.list ++ (U tl ++ [Value.int .i64 (hv : Int), Value.int .u64 (L1 : Int)])) 151 (Blk.drew HHr.out.blk) (U p) HL.out (fun hq => ⟨by rw [if_neg (by omega)], HSC.out (by simpa [U_length] using hq)⟩) HF.out (U_one p) ?_; intro w8 hV8 hB8))
     go_wp2_with fail
     go_meet
     case rel =>
      refine ⟨?_, gb_trans (gb_drew (gb_refl _ _)) hB8.out⟩
      rw [← hC_lay rfl HHr.out.inv.len (by rw [HP.out]; have := HD.out; omega)]
      exact hV8
    case rest =>
     obtain ⟨HG2, HW2⟩ := hcut
     obtain ⟨wa, rfl⟩ : ∃ z : World, z = wc := ⟨_, rfl⟩
     have hb72 : wa.cell? ⟨g, 72, none⟩ = some (.int .i64 (hv : Int)) := by rw [HG2.out.cell]; exact hC_have rfl (Dg.lay_length HHr.out.inv.len (by rw [HP.out]; have := HD.out; omega))
     have hf72 := HG2.out.frozen 72
     obtain ⟨h2, hh2⟩ : ∃ z, z = hv + m := ⟨_, rfl⟩
     have eh2 : IntKind.i64.wrap ((hv : Int) + (m : Int)) = (h2 : Int) := by rw [wraps_i64 _ (by omega) (by omega)]; omega
     have hmi : (m : Int) ≤ (r : Int) := by omega
     have erm : (r : Int) - (m : Int) = ((r - m : Nat) : Int) := by omega
     have HH2 := Lib.hid hh2
     clear hh2
     go_upto_region 6 with fail
     have HL8 := Dg.lay_length HHr.out.inv.len (show hv + p.length ≤ 64 by rw [HP.out]; have := HD.out; omega)
     have HB3 : Hid (Blk (wa.setCell ⟨g, 72, none⟩ (.int .i64 (h2 : Int))) g 151 (hC st.list (Dg.lay tl hv p) h2 L1)) := by
      have h1 := HG2.out.set_ 72 (.int .i64 (h2 : Int))
      rw [hC_setHave _ _ _ rfl HL8] at h1
      exact h1
     have HW3 : Hid (wr.grownBy (wa.setCell ⟨g, 72, none⟩ (.int .i64 (h2 : Int))) (some g)) := gb_set (p := ⟨g, 72, none⟩) HW2.out (.inl rfl) _
     have HSx : Hid (Sx (wa.setCell ⟨g, 72, none⟩ (.int .i64 (h2 : Int))) g (if c2 = m then A2 else Option.map (fun x => x.add m) A2) (bs.drop (k + m))) := by
      have h1 := (HSr.out.gb HW3.out).cut (k := m) (c := c2) (by rw [List.length_drop]; have := HK.out; omega)
      rw [List.drop_drop] at h1
      exact h1
     have HTK : Hid (tx ++ bs.take (k + m) = tx ++ bs.take k ++ p) := by
      show _ = _
      rw [HPE.out, List.take_add, List.append_assoc]
     have HK2 : Hid (k + m + (r - m) = bs.length) := by have := HK.out; show _ = _; omega
     clear hb72 hf72 eh2 hmi erm HG2 HW2 HSr HL8
     generalize wa.setCell ⟨g, 72, none⟩ (.int .i64 (h2 : Int)) = wb at *
     generalize (if c2 = m then A2 else Option.map (fun x => x.add m) A2) = A3 at *
     have k72 : wb.cell? ⟨g, 72, none⟩ = some (.int .i64 (h2 : Int)) := by rw [HB3.out.cell]; exact hC_have rfl (Dg.lay_length HHr.out.inv.len (by rw [HP.out]; have := HD.out; omega))
     by_cases hful : h2 = 64
     · have hq : ((h2 : Int) == 64) = true := by simp; omega
       subst hful
       have hpp : hv + p.length = 64 := by rw [HP.out, HH2.out]
       have HMX := Lib.hid (mix_any g st (Dg.lay tl hv p) 64 L1 wb (Dg.lay_length HHr.out.inv.len (Nat.le_of_eq hpp)) HHr.out.ok (((HTAB.out.gb HW.out hg)).gb HW3.out hg) HB3.out)
       have HHi := Lib.hid (HHr.out.inv.full hpp)
       clear hpp HB3 HHr HPE HP
       go_wp2_with fail
       refine HMX.out.mono ?_
       rintro e w9 ⟨rfl, hB9, hW9⟩
       have f9 := hB9.frozen 72
       have k9 : w9.cell? ⟨g, 72, none⟩ = some (.int .i64 ((64 : Nat) : Int)) := by rw [hB9.cell]; exact hC_have rfl HHi.out.len
       have HHn : Hid (Hsh (w9.setCell ⟨g, 72, none⟩ (.int .i64 0)) g (tx ++ bs.take (k + m)) (tx.length + bs.length) (Dg.comp st (Dg.lay tl hv p)) (Dg.lay tl hv p) 0) := by
        refine ⟨?_, comp_ok _ _, ?_⟩
        · rw [HTK.out]
          exact HHi.out
        · rw [← HL1.out]
          have h1 := hB9.set_ 72 (.int .i64 ((0 : Nat) : Int))
          rw [hC_setHave _ _ _ rfl HHi.out.len] at h1
          exact h1
       have HWn : Hid (w.grownBy (w9.setCell ⟨g, 72, none⟩ (.int .i64 0)) (some g)) := gb_set (p := ⟨g, 72, none⟩) (gb_trans (gb_trans HW.out HW3.out) hW9) (.inl rfl) _
       have HSn : Hid (Sx (w9.setCell ⟨g, 72, none⟩ (.int .i64 0)) g A3 (bs.drop (k + m))) := HSx.out.gb (gb_set (p := ⟨g, 72, none⟩) hW9 (.inl rfl) _)
       clear hB9 hW9 HTK HHi HMX HSx HW HW3
       go_wp2_with fail
       go_roundw
       case rel => exact ⟨k + m, r - m, c2 - m, A3, _, _, 0, rfl, by omega, HK2, HHn, HSn, HWn⟩
       case measure => simp [rowLen]; have := HM.out; have := HD.out; omega
     · have hq : ((h2 : Int) == 64) = false := by simp; omega
       have HHn : Hid (Hsh wb g (tx ++ bs.take (k + m)) (tx.length + bs.length) st (Dg.lay tl hv p) h2) := by
        have h1 : hv + p.length = h2 := by rw [HP.out, HH2.out]
        refine ⟨?_, HHr.out.ok, ?_⟩
        · rw [HTK.out, ← h1]
          exact HHr.out.inv.part (by have := HP.out; have := HD.out; have := HH2.out; omega)
        · rw [← HL1.out]
          exact HB3.out
       clear HHr HB3 HTK HPE HP
       go_wp2_with fail
       go_roundw
       case rel => exact ⟨k + m, r - m, c2 - m, A3, st, _, h2, rfl, by omega, HK2, HHn, HSx, gb_trans HW.out HW3.out⟩
       case measure => simp [rowLen]; have := HM.out; have := HD.out; omega
structure BegTab (w : World) : Prop where
 lt : 0 < w.heap.size
 cell : ∀ t, t < 8 → w.cell? ⟨0, t, none⟩ = some (.int .u32 ((Dg.beginW.getD t 0 : Nat) : Int))
theorem BegTab.below {w w' : World} (h : BegTab w) (hb : Below w.heap.size w w') : BegTab w' :=
 ⟨Nat.lt_of_lt_of_le h.lt hb.size, fun t ht => (hb.cell (p := ⟨0, t, none⟩) h.lt).trans (h.cell t ht)⟩
def newCells : Array Value := hC Dg.st0.list (List.replicate 64 0) 0 0
theorem dnew_any (w : World) (htab : BegTab w) :
 Calls Tryz.prog 65 #[] w fun e w' => e = .returned (.pointer (some ⟨w.heap.size, 0, none⟩)) ∧ w' = w.alloc (.cells newCells 151) := by
 have d0 : w.cell? ⟨0, 0, none⟩ = some (.int .u32 1779033703) := htab.cell 0 (by decide)
 have d1 : w.cell? ⟨0, 1, none⟩ = some (.int .u32 3144134277) := htab.cell 1 (by decide)
 have d2 : w.cell? ⟨0, 2, none⟩ = some (.int .u32 1013904242) := htab.cell 2 (by decide)
 have d3 : w.cell? ⟨0, 3, none⟩ = some (.int .u32 2773480762) := htab.cell 3 (by decide)
 have d4 : w.cell? ⟨0, 4, none⟩ = some (.int .u32 1359893119) := htab.cell 4 (by decide)
 have d5 : w.cell? ⟨0, 5, none⟩ = some (.int .u32 2600822924) := htab.cell 5 (by decide)
 have d6 : w.cell? ⟨0, 6, none⟩ = some (.int .u32 528734635) := htab.cell 6 (by decide)
 have d7 : w.cell? ⟨0, 7, none⟩ = some (.int .u32 1541459225) := htab.cell 7 (by decide)
 go_enter Tryz.func65, Tryz.ntmps65
 go_wp2_with fail
 go_ret
 exact ⟨rfl, rfl⟩
theorem new_hsh (w : World) : Hsh (w.alloc (.cells newCells 151)) w.heap.size [] 0 Dg.st0 (List.replicate 64 0) 0 :=
 ⟨Dg.HInv.start, ⟨by decide, by decide, by decide, by decide, by decide, by decide, by decide, by decide⟩, Blk.new _ _ _⟩
theorem flat_get (f : Nat → List UInt8) (hf : ∀ x, (f x).length = 4) : ∀ (l : List Nat) (i k : Nat), k < 4 → (l.flatMap f)[4 * i + k]? = (l[i]?).bind fun x => (f x)[k]?
 | [], i, k, _ => by simp
 | x :: l, 0, k, hk => by
   rw [List.flatMap_cons, List.getElem?_append_left (by rw [hf]; omega)]
   simp
 | x :: l, i + 1, k, hk => by
   rw [List.flatMap_cons, List.getElem?_append_right (by rw [hf]; omega), hf, show 4 * (i + 1) + k - 4 = 4 * i + k by omega, flat_get f hf l i k hk]
   simp
theorem outS_flat (s : Dg.St) : Dg.outS s = s.list.flatMap Dg.be4 := by simp [Dg.outS, Dg.St.list, List.flatMap_cons]
theorem be4_get (x k : Nat) (hk : k < 4) : (Dg.be4 x)[k]? = some (UInt8.ofNat (x / 2 ^ (24 - 8 * k))) := by
 match k, hk with
 | 0, _ => rfl
 | 1, _ => rfl
 | 2, _ => rfl
 | 3, _ => simp [Dg.be4]
theorem outS_get (s : Dg.St) (i k : Nat) (hi : i < 8) (hk : k < 4) : (Dg.outS s)[4 * i + k]? = some (UInt8.ofNat (s.list.getD i 0 / 2 ^ (24 - 8 * k))) := by
 have hl : i < s.list.length := hi
 rw [outS_flat, flat_get Dg.be4 (fun _ => rfl) _ _ _ hk, List.getElem?_eq_getElem hl, List.getD_eq_getElem?_getD, List.getElem?_eq_getElem hl]
 exact be4_get _ _ hk
end Go.Proofs.YtnjhjbmngoeobaaGreatDoor
