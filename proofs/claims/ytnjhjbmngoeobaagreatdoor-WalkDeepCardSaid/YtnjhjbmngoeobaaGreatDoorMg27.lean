/- Laws towards WalkDeep: HisA, SliA, BefA. -/
import Derived.Test.YtnjhjbmngoeobaaGreatDoorMg25
import Derived.Test.YtnjhjbmngoeobaaGreatDoorMg26
namespace Go.Proofs.YtnjhjbmngoeobaaGreatDoor
open Go.RowKit Go.Maps
set_option maxRecDepth 100000
theorem Good.rchH {S : Sto} (g : Good S) {rs : List Id} (hr : ∀ i ∈ rs, i ∈ idsS S ∧ (kindS S i = 3 ∨ kindS S i = 4)) {i : Id} (h : Rch (nxt_ (lnkH S)) rs i) : i ∈ idsS S ∧ (kindS S i = 3 ∨ kindS S i = 4) :=
 h.sub (S := fun x => x ∈ idsS S ∧ (kindS S x = 3 ∨ kindS S x = 4)) hr (fun i hi j hj => by
  obtain ⟨l, hl, rfl⟩ := List.mem_map.1 hj
  have h1 := g.kids i hi.1 l (lnkH_child i l hl)
  refine ⟨h1.1, ?_⟩
  rw [h1.2]
  rcases hi.2 with h3 | h4
  · rw [lnkH_com h3] at hl
    exact .inl (g.par i hi.1 h3 l hl)
  · exact g.tgt i hi.1 h4 l (lnkH_child i l hl))
theorem endGo_rch {S : Sto} {rs : List Id} : ∀ (n : Nat) (i p : Id), endGo S n i = some p → Rch (nxt_ (lnkH S)) rs i → Rch (nxt_ (lnkH S)) rs p
 | 0, _, _, h, _ => by cases h
 | n + 1, i, p, h, hi => by
   rw [endGo] at h
   cases hl : lnkT S i with
   | nil => rw [hl] at h; have h := Option.some.inj h; rw [← h]; exact hi
   | cons l r =>
     rw [hl] at h
     refine endGo_rch n l.1 p h (.step hi (List.mem_map.2 ⟨l, ?_, rfl⟩))
     unfold lnkT at hl
     unfold lnkH
     split at hl
     · rename_i h4
       rw [if_pos h4, hl]
       simp
     · cases hl
theorem ends_at {S : Sto} : ∀ {ids ps : List Id}, endsP S ids = some ps → ps.length = ids.length ∧ ∀ j, j < ids.length → endP S (ids.getD j zeroId) = some (ps.getD j zeroId)
 | [], ps, h => by
   have h := Option.some.inj h
   subst h
   exact ⟨rfl, fun j hj => by cases hj⟩
 | i :: r, ps, h => by
   rw [endsP] at h
   cases h1 : endP S i with
   | none => rw [h1] at h; cases h
   | some p =>
     rw [h1] at h
     cases h2 : endsP S r with
     | none => simp [h2] at h
     | some qs =>
       simp [h2] at h
       subst h
       have h3 := ends_at h2
       refine ⟨by simp [h3.1], fun j hj => ?_⟩
       cases j with
       | zero => exact h1
       | succ j => exact h3.2 j (by simpa using hj)
def HistP (w : World) (ps : List Id) (e : Ending) (w' : World) : Prop :=
 ∃ xs A k, e = .returned (.tuple #[.pointer (some ⟨xs, 0, none⟩), .slice A ps.length k, .int .i64 0]) ∧ w'.ownsRow w.heap.size 30 32 (.slice A ps.length k) ps.length (IdsU ps) ∧ Below w.heap.size w w'
def His1 (w6 : World) (ps : List Id) (n : Nat) (v9 v27 : Value) (wr : World) : Prop :=
 ∃ (j : Nat) (A : Option Addr) (k : Nat), j ≤ n ∧ v27 = .int .i64 (j : Int) ∧ v9 = .slice A j k ∧ Hid (wr.ownsRow w6.heap.size 30 32 (.slice A j k) j (IdsU (ps.take j))) ∧ Hid (Below w6.heap.size w6 wr)
def His2 (w7 : World) (n : Nat) (v : Value) (wr : World) : Prop := ∃ j : Nat, j ≤ n ∧ v = .int .i64 (j : Int) ∧ Hid (Below w7.heap.size w7 wr)
theorem take_snoc_getD (l : List Id) (j : Nat) (h : j < l.length) : l.take (j + 1) = l.take j ++ [l.getD j zeroId] := by
 rw [List.take_add_one, List.getElem?_eq_getElem h, List.getD_eq_getElem?_getD, List.getElem?_eq_getElem h]
 rfl
set_option maxHeartbeats 4000000 in
theorem hist_any (w : World) (B0 m a : Nat) (S : Sto) (Ds : DataW Value) (ids ps : List Id) (RA : Option Addr) (rk : Nat) (he : Env w B0 a m S Ds) (g : Good S) (hrs : IdsR w ids RA) (hrk : ids.length ≤ rk)
 (hr : ∀ i ∈ ids, i ∈ idsS S ∧ (kindS S i = 3 ∨ kindS S i = 4)) (hn : ids.length ≤ 20000) (hps : endsP S ids = some ps) (hpk : ∀ p ∈ ps, kindS S p = 3) :
 Calls Tryz.prog 28 #[.pointer (some ⟨a, 0, none⟩), .slice RA ids.length rk] w (HistP w ps) := by
 obtain ⟨w1, hw1⟩ : ∃ w1, w1 = w.alloc (.cells #[.pointer (some ⟨a, 0, none⟩)] 25) := ⟨_, rfl⟩
 have hb1 : Below w.heap.size w w1 := by rw [hw1]; exact box_below _ _ _
 have hs1 : Blk w1 w.heap.size 25 #[.pointer (some ⟨a, 0, none⟩)] := by rw [hw1]; exact Blk.new _ _ _
 have he1 := he.to hb1
 have hlen : S.length ≤ 8192 := by have := g.len; omega
 have hr0 : ∀ i ∈ ids, i ∈ idsS S := fun i hi => (hr i hi).1
 have hwide : ∀ i, (lnkH S i).length ≤ 2 := fun i => by
  have := g.wide i
  unfold lnkH
  split
  · exact this
  · split
    · rw [List.length_drop]; omega
    · simp
 have HC := Lib.hid (come_H w1 B0 m a S Ds (lnkH S) ids RA ids.length rk 2 w.heap.size he1 (hrs.below hb1) rfl hrk (fun i h => (g.rchH hr h).1) (quiet_of g.ok (within_sub lnkH_child)) hwide (by omega) hlen
  (fun w' hb' i hi => by
    have h1 := g.rchH hr hi
    rcases h1.2 with h3 | h4
    · obtain ⟨l0, ls, hcl⟩ := g.com i h1.1 h3
      have e1 : lnkH S i = ls := by rw [lnkH_com h3, hcl]; rfl
      rw [e1, h3]
      exact histC w1 w' B0 m a w.heap.size S Ds i he1 hb' (hs1.below hb' hs1.lt) h1.1 l0 ls hcl
    · have e1 : lnkH S i = childS S i := by unfold lnkH; rw [if_pos h4]
      rw [e1, h4]
      exact histG w1 w' B0 m a w.heap.size S Ds i he1 hb' (hs1.below hb' hs1.lt) h1.1))
 have hea := ends_at hps
 have HEND : Hid (∀ w', Below w.heap.size w w' → ∀ j, j < ids.length → Calls Tryz.prog 39 #[.pointer (some ⟨a, 0, none⟩), .agg (U (ids.getD j zeroId).1).toArray] w' fun e w'' => e = .returned (.tuple #[.agg (U (ps.getD j zeroId).1).toArray, .int .i64 0]) ∧ Below w'.heap.size w' w'') := fun w' h j hj =>
  end_any w w' B0 m a S Ds _ _ he h (hr0 _ (by rw [List.getD_eq_getElem?_getD, List.getElem?_eq_getElem hj]; exact List.getElem_mem _)) g.tag (fun i hi l hl => (g.kids i hi l (by
   unfold lnkT at hl
   split at hl
   · exact hl
   · cases hl)).1) (hea.2 j hj) hlen
 have HPK : Hid (∀ p ∈ ps, kindS S p = 3) := hpk
 have HPR : Hid (∀ p ∈ ps, p ∈ setP (lnkH S) ids) := fun p hp => by
  rw [mem_setP (within_sub lnkH_child)]
  obtain ⟨j, hj, e⟩ := List.getElem_of_mem hp
  have hj2 : j < ids.length := by rw [← hea.1]; exact hj
  have h1 := hea.2 j hj2
  have e2 : ps.getD j zeroId = p := by rw [List.getD_eq_getElem?_getD, List.getElem?_eq_getElem hj, e]; rfl
  rw [e2] at h1
  refine endGo_rch _ _ p h1 (.root ?_)
  rw [List.getD_eq_getElem?_getD, List.getElem?_eq_getElem hj2]
  exact List.getElem_mem _
 have hcs : w1.cell? ⟨w.heap.size, 0, none⟩ = some (.pointer (some ⟨a, 0, none⟩)) := hs1.cell 0
 have HS1 := Lib.hid hs1
 have HB1 := Lib.hid hb1
 have HW1 := Lib.hid hw1
 have HG := Lib.hid g
 have HR := Lib.hid hr
 have HRS := Lib.hid hrs
 obtain ⟨n, hnn⟩ : ∃ n, n = ids.length := ⟨_, rfl⟩
 rw [← hnn] at hn hrk
 unfold Hid at HC HEND
 rw [← hnn] at HC HEND
 rw [← hnn]
 replace HC := Lib.hid HC
 replace HEND := Lib.hid HEND
 have HN := Lib.hid hnn
 have HPL : Hid (ps.length = n) := by rw [hnn]; exact hea.1
 have hu30 := Tryz.underlying30
 obtain ⟨ie, hie, his, hib, ze, hiz, hzs⟩ := info_id
 have HIE := Lib.hid (And.intro hie (And.intro his (And.intro hib (And.intro hiz hzs))))
 clear hw1 hb1 hs1 he1 he g hrs hr hr0 hlen hwide hea hps hpk hnn hie his hib hiz hzs
 go_enter Tryz.func28, Tryz.ntmps28
 go_upto_region 1 with fail
 rw [← HW1.out]
 clear HW1
 go_wp2_with fail
 refine HC.out.mono ?_
 intro e w5 hc
 obtain ⟨xs, mk, LA, lc, c, D, rfl, hsv, hce, hb5, _, _, hls, hks⟩ := hc.seen
 have hm := HG.out.met lnkH_child (fun i hi => (HR.out i hi).1) hce
 have HB5 : Hid (Below w.heap.size w w5) := HB1.out.trans (hb5.mono HB1.out.size)
 have HW := Lib.hid (whole_any w5 _ xs mk LA lc S c D hsv hm.1 hm.2 (by omega))
 have HSV := Lib.hid hsv
 have HPS : Hid (∀ p ∈ ps, p ∈ c.ks) := fun p hp => (hce.ks p).2 (HPR.out p hp)
 have HS5 := Lib.hid (HS1.out.below hb5 HS1.out.lt)
 clear hc hsv hce hb5 hls hks hm HC HS1 hcs HPR
 go_wp2_with fail
 refine HW.out.mono ?_
 rintro e w6 ⟨rfl, hb6⟩
 have HB6 : Hid (Below w.heap.size w w6) := HB5.out.trans (hb6.mono HB5.out.size)
 have HSV6 := Lib.hid (HSV.out.below hb6)
 have HS6 := Lib.hid (HS5.out.below hb6 HS5.out.lt)
 have HRS6 : Hid (IdsR w6 ids RA) := HRS.out.below HB6.out
 have HO6 : Hid (w6.ownsRow w6.heap.size 30 32 (.slice none 0 0) 0 (IdsU (ps.take 0))) := own_nil _ _ _ _
 have HBB6 : Hid (Below w6.heap.size w6 w6) := Below.refl _ _
 have HE6 : Hid (∀ w', Below w6.heap.size w6 w' → ∀ j, j < n → Calls Tryz.prog 39 #[.pointer (some ⟨a, 0, none⟩), .agg (U (ids.getD j zeroId).1).toArray] w' fun e w'' => e = .returned (.tuple #[.agg (U (ps.getD j zeroId).1).toArray, .int .i64 0]) ∧ Below w'.heap.size w' w'') := fun w' h => HEND.out w' (HB6.out.trans (h.mono HB6.out.size))
 clear hb6 HW HSV HS5 HB5 HB1 HEND HRS HR HG
 go_wp2_with fail
 go_loopw [9, 27] (fun v9 v27 wr => His1 w6 ps n v9 v27 wr) (fun _ v27 _ => n - (intOf v27).toNat)
 case atStart => exact ⟨0, _, _, by omega, rfl, rfl, HO6, HBB6⟩
 case round =>
  clear HO6 HBB6
  obtain ⟨j, A, k, hj, rfl, rfl, HO, HB⟩ := hrel
  have hjb : j ≤ 20000 := by omega
  by_cases hlt : j < n
  · have hd : decide ((j : Int) < (n : Int)) = true := decide_eq_true (by omega)
    have hd' : decide (j < n) = true := decide_eq_true hlt
    have hjl : j < ids.length := by rw [← HN.out]; exact hlt
    have hne : ids ≠ [] := by intro e; rw [e] at hjl; simp at hjl
    obtain ⟨q, o, hRA, hqlt, hqr⟩ : ∃ q o, RA = some ⟨q, o, none⟩ ∧ q < wr.heap.size ∧ wr.rangeAt q o (IdsU ids) := by
     rcases HRS6.out.below HB.out with h | h
     · exact absurd h hne
     · exact h
    subst hRA
    have hce := HE6.out
    obtain ⟨i, hi⟩ : ∃ i, i = ids.getD j zeroId := ⟨_, rfl⟩
    obtain ⟨p, hp⟩ : ∃ p, p = ps.getD j zeroId := ⟨_, rfl⟩
    have hri := IdsR.at_ hqr hjl
    have HCE : Hid (∀ w', Below w6.heap.size w6 w' → Calls Tryz.prog 39 #[.pointer (some ⟨a, 0, none⟩), .agg (U i.1).toArray] w' fun e w'' => e = .returned (.tuple #[.agg (U p.1).toArray, .int .i64 0]) ∧ Below w'.heap.size w' w'') := fun w' h => by
     have := hce w' h j hlt
     rw [← hi, ← hp] at this
     exact this
    rw [← hi] at hri
    have HTK : Hid (IdsU (ps.take j) ++ U p.1 = IdsU (ps.take (j + 1))) := by
     unfold Hid
     rw [take_snoc_getD ps j (by rw [HPL.out]; exact hlt), ← hp, IdsU_snoc]
    have HSZ := Lib.hid (id_size _ i.2)
    have HSZ2 := Lib.hid (id_size' _ i.2)
    have HFT := Lib.hid (id_fit _ i.2)
    have HNW := id_new wr
    have HRI := Lib.hid hri
    have hb0 : (0 : Int) ≤ (j : Int) := by omega
    have hb2 : (j : Int) < (n : Int) := by omega
    have HJ := Lib.hid hlt
    have HSZp := Lib.hid (id_size _ p.2)
    have HSZp2 := Lib.hid (id_size' _ p.2)
    have HFTp := Lib.hid (id_fit _ p.2)
    clear hi hp hqr hri hne hce hqlt hjl hlt
    go_upto_region 9 with (first
     | (with_reducible refine wpList_load_mid rfl 30 (.tmp 29) rfl q (o + j * 32) rfl (U i.1) _ HRI.out hu30 rfl HSZ.out ?_)
     | (with_reducible refine wpList_storeG rfl 30 (.tmp 11) (.tmp 30) rfl wr.heap.size 0 (U i.1) rfl rfl (U (List.replicate 32 0)) 30 HNW.out HFT.out (U_one _) HSZ.out ?_; intro w8 HB8 HG8))
    have G8 : wr.grownBy w8 none := gb_fresh HG8.out
    have HR8 : Hid (w8.heap[wr.heap.size]? = some (.cells (U i.1).toArray 30 (0, 0))) := by
     have h1 := HB8.out
     rw [splice_id _ i.2] at h1
     exact h1
    have HBW8 : Hid (Below w6.heap.size w6 w8) := HB.out.trans ((below_of_gb G8).mono HB.out.size)
    have HO8 : Hid (w8.ownsRow w6.heap.size 30 32 (.slice A j k) j (IdsU (ps.take j))) := own_below HO.out (below_of_gb G8)
    have hcs8 : w8.cell? ⟨w.heap.size, 0, none⟩ = some (.pointer (some ⟨a, 0, none⟩)) := (HS6.out.below HBW8.out HS6.out.lt).cell 0
    have HC8 := Lib.hid (HCE.out w8 HBW8.out)
    clear HB8 HG8 G8 HNW HRI HB HO HCE HFT HSZ
    go_wp2_with (with_reducible refine wpList_load_row rfl 30 (.tmp 11) rfl wr.heap.size rfl 30 (U i.1).toArray (0, 0) _ HR8.out hu30 rfl HSZ2.out ?_)
    refine HC8.out.mono ?_
    rintro e w9 ⟨rfl, hb9⟩
    have HBW9 : Hid (Below w6.heap.size w6 w9) := HBW8.out.trans (hb9.mono HBW8.out.size)
    have HO9 : Hid (w9.ownsRow w6.heap.size 30 32 (.slice A j k) j (IdsU (ps.take j))) := own_below HO8.out hb9
    have HN9 := id_new w9
    clear hb9 HC8 hcs8 HR8 HO8 HBW8 HSZ2
    go_upto_region 10 with (with_reducible refine wpList_storeG rfl 30 (.tmp 12) (.tmp 35) rfl w9.heap.size 0 (U p.1) rfl rfl (U (List.replicate 32 0)) 30 HN9.out HFTp.out (U_one _) HSZp.out ?_; intro w10 HB10 HG10)
    have G10 : w9.grownBy w10 none := gb_fresh HG10.out
    have HR10 : Hid (w10.heap[w9.heap.size]? = some (.cells (U p.1).toArray 30 (0, 0))) := by
     have h1 := HB10.out
     rw [splice_id _ p.2] at h1
     exact h1
    have HBW10 : Hid (Below w6.heap.size w6 w10) := HBW9.out.trans ((below_of_gb G10).mono HBW9.out.size)
    have HO10 : Hid (w10.ownsRow w6.heap.size 30 32 (.slice A j k) j (IdsU (ps.take j))) := own_below HO9.out (below_of_gb G10)
    have HONE : Hid (∀ u ∈ (U p.1).toArray.toList, u.oneCell' = true) := by unfold Hid; rw [List.toList_toArray]; exact U_one _
    obtain ⟨d0, d1, d2, d3, d4, d5, d6, d7, d8, d9, d10, d11, d12, d13, d14, d15, d16, d17, d18, d19, d20, d21, d22, d23, d24, d25, d26, d27, d28, d29, d30, d31, hU⟩ := id32 p
    unfold Hid at HTK HONE HR10 HSZp2
    rw [hU] at HTK HONE HR10 HSZp2
    replace HTK := Lib.hid HTK
    replace HONE := Lib.hid HONE
    replace HR10 := Lib.hid HR10
    replace HSZp2 := Lib.hid HSZp2
    clear HB10 HG10 G10 HN9 HO9 HBW9 hU HFTp HSZp
    go_wp2_with (first
     | (with_reducible refine wpList_load_row rfl 30 (.tmp 12) rfl w9.heap.size rfl 30 #[d0, d1, d2, d3, d4, d5, d6, d7, d8, d9, d10, d11, d12, d13, d14, d15, d16, d17, d18, d19, d20, d21, d22, d23, d24, d25, d26, d27, d28, d29, d30, d31] (0, 0) _ HR10.out hu30 rfl HSZp2.out ?_)
     | (at_builtin
        refine wpList_pushN w10 rfl (.tmp 40) (.tmp 42) 28 rfl w6.heap.size 30 ie ze 32 32 Tryz.underlying28 HIE.out.1 HIE.out.2.2.2.1 HIE.out.2.1 HIE.out.2.2.1 HIE.out.2.2.2.2 (by decide) A j k (IdsU (ps.take j)) rfl HO10.out #[d0, d1, d2, d3, d4, d5, d6, d7, d8, d9, d10, d11, d12, d13, d14, d15, d16, d17, d18, d19, d20, d21, d22, d23, d24, d25, d26, d27, d28, d29, d30, d31] 1 _ rfl HONE.out rfl ?_ ?_ HBW10.out.size ?_
        · omega
        · unfold maxLen; omega
        intro A2 c2 w11 hown11 hg11 hn11
        have HB11 : Hid (Below w6.heap.size w6 w11) := HBW10.out.trans ⟨hg11.os, hg11.tape, hg11.output, hg11.size, fun q hq => hg11.block q (Nat.lt_of_lt_of_le hq HBW10.out.size) (fun e => by
         cases A with
         | none => simp [Value.ownBlock] at e
         | some p =>
           have h1 := (HO10.out.lt p.block rfl).1
           have h2 : q = p.block := Option.some.inj e
           omega)⟩
        have HO11 : Hid (w11.ownsRow w6.heap.size 30 32 (.slice A2 (j + 1) c2) (j + 1) (IdsU (ps.take (j + 1)))) := by
         rw [← HTK.out]
         exact hown11
        clear hown11 hg11 hn11)
     | fail)
    go_roundw
    case rel => exact ⟨j + 1, A2, c2, by have := HJ.out; omega, by go_num, rfl, HO11, HB11⟩
    case measure => simp [intOf]; omega
  · have hd : decide ((j : Int) < (n : Int)) = false := decide_eq_false (by omega)
    have hd' : decide (j < n) = false := decide_eq_false hlt
    have hjn : j = n := by omega
    subst hjn
    obtain ⟨w7, hw7⟩ : ∃ w7, w7 = wr := ⟨_, rfl⟩
    subst hw7
    have HO7 : Hid (w7.ownsRow w6.heap.size 30 32 (.slice A j k) j (IdsU ps)) := by
     have h1 := HO.out
     rw [List.take_of_length_le (by rw [HPL.out]; exact Nat.le_refl _)] at h1
     exact h1
    have HSV7 := Lib.hid (HSV6.out.below HB.out)
    have HB7 : Hid (Below w7.heap.size w7 w7) := Below.refl _ _
    clear HO HSV6 HS6 HRS6 HE6
    go_wp2_with fail
    go_loopw [47] (fun v wr => His2 w7 j v wr) (fun v _ => j - (intOf v).toNat)
    case atStart => exact ⟨0, by omega, rfl, HB7⟩
    case round =>
     clear HB7
     obtain ⟨t, ht, rfl, HB2⟩ := hrel
     have htb : t ≤ 20000 := by omega
     by_cases htl : t < j
     · have ht1 : decide ((t : Int) < (j : Int)) = true := decide_eq_true (by omega)
       have ht2 : decide (t < j) = true := decide_eq_true htl
       have hown := own_below HO7.out HB2.out
       obtain ⟨q, hA⟩ : ∃ q, A = some ⟨q, 0, none⟩ := by
        obtain ⟨q, cap, hv, _, _⟩ := hown.form (by omega)
        injection hv with hv1
        exact ⟨q, hv1⟩
       subst hA
       have htp : t < ps.length := by rw [HPL.out]; exact htl
       obtain ⟨p, hp⟩ : ∃ p, p = ps.getD t zeroId := ⟨_, rfl⟩
       have hpm : p ∈ ps := by rw [hp, List.getD_eq_getElem?_getD, List.getElem?_eq_getElem htp]; exact List.getElem_mem _
       have hri : wr.rangeAt q (t * 32) (U p.1) := fun k v hv => by
        have := hown.cells (g := q) rfl (t * 32 + k) v (IdsU_at ps t k v htp (by rw [← hp]; exact hv))
        rw [addr_add, Nat.zero_add] at this
        exact this
       have HRI := Lib.hid hri
       have HPC : Hid (p ∈ c.ks ∧ kindS S p = 3) := ⟨HPS.out p hpm, HPK.out p hpm⟩
       have HSZ := Lib.hid (id_size _ p.2)
       have HSZ2 := Lib.hid (id_size' _ p.2)
       have HFT := Lib.hid (id_fit _ p.2)
       have HNW := id_new wr
       have hb0 : (0 : Int) ≤ (t : Int) := by omega
       have hb2 : (t : Int) < (j : Int) := by omega
       have HT := Lib.hid htl
       clear hown hp hpm hri htp htl
       go_upto_region 17 with (first
        | (with_reducible refine wpList_load_mid rfl 30 (.tmp 49) rfl q (t * 32) rfl (U p.1) _ HRI.out hu30 rfl HSZ.out ?_)
        | (with_reducible refine wpList_storeG rfl 30 (.tmp 15) (.tmp 50) rfl wr.heap.size 0 (U p.1) rfl rfl (U (List.replicate 32 0)) 30 HNW.out HFT.out (U_one _) HSZ.out ?_; intro w8 HB8 HG8))
       have G8 : wr.grownBy w8 none := gb_fresh HG8.out
       have hr8 : Blk w8 wr.heap.size 30 (U p.1).toArray := by
        have h1 := HB8.out
        rw [splice_id _ p.2] at h1
        exact h1
       have HB8' : Hid (Below w7.heap.size w7 w8.drew) := (HB2.out.trans ((below_of_gb G8).mono HB2.out.size)).drew
       have hsv8 := HSV7.out.below HB8'.out
       have hlk := KindM.look0 hsv8.mp hsv8.km p HPC.out.1
       rw [HPC.out.2] at hlk
       have HS17 : Hid (w8.drew.cell? ⟨xs, 0, none⟩ = some (.map (some mk)) ∧ w8.drew.rangeAt wr.heap.size 0 (U p.1) ∧ (Instr.lookup 84 (.map (some mk)) (.agg (U p.1).toArray) false).run Tryz.prog w8.drew = .ok (.int .i64 (3 : Int)) w8.drew) := ⟨hsv8.seen.cell 0, id_rangeB hr8, hlk⟩
       clear hsv8 hlk hr8 G8 HB8 HG8 HNW HFT HRI HB2
       refine wp_region_noPanic ?_
       refine wp_region_held_drew (S := fun w' => w'.cell? ⟨xs, 0, none⟩ = some (.map (some mk)) ∧ w'.rangeAt wr.heap.size 0 (U p.1) ∧ (Instr.lookup 84 (.map (some mk)) (.agg (U p.1).toArray) false).run Tryz.prog w' = .ok (.int .i64 (3 : Int)) w') (by kernel_rfl) HS17.out (fun hHeld => ?_)
       refine wpAnyH_take (i := 0) (oi := { dst := some 51, op := Go.Op.move (Go.Operand.tmp 7), type := 79, pos := "walk.go:209", after := #[], guard := none }) (v := .pointer (some ⟨xs, 0, none⟩)) rfl (by kernel_rfl) ?_ ?_ ?_ ?_ hHeld ?_
       · kernel_rfl
       · kernel_rfl
       · exact fun _ _ _ h => h
       · exact Or.inl ⟨by rfl, fun w' _ => by go_simp⟩
       (try simp only [Act.put, List.setIfInBounds_toArray, List.set_cons_zero, List.set_cons_succ])
       refine wpAnyH_take (i := 1) (oi := { dst := some 52, op := Go.Op.nilCheck (Go.Operand.tmp 51), type := 0, pos := "walk.go:209", after := #[{ on := 0, ground := Go.Ground.data }], guard := none }) (v := .pointer (some ⟨xs, 0, none⟩)) rfl (by kernel_rfl) ?_ ?_ ?_ ?_ hHeld ?_
       · kernel_rfl
       · kernel_rfl
       · exact fun _ _ _ h => h
       · exact Or.inl ⟨by rfl, fun w' _ => by go_simp⟩
       (try simp only [Act.put, List.setIfInBounds_toArray, List.set_cons_zero, List.set_cons_succ])
       refine wpAnyH_take (i := 2) (oi := { dst := some 53, op := Go.Op.fieldAddr 87 (Go.Operand.tmp 52) 0, type := 0, pos := "walk.go:209", after := #[{ on := 1, ground := Go.Ground.data }], guard := none }) (v := .pointer (some ⟨xs, 0, none⟩)) rfl (by kernel_rfl) ?_ ?_ ?_ ?_ hHeld ?_
       · kernel_rfl
       · kernel_rfl
       · exact fun _ _ _ h => h
       · exact Or.inl ⟨by rfl, fun w' _ => by go_simp⟩
       (try simp only [Act.put, List.setIfInBounds_toArray, List.set_cons_zero, List.set_cons_succ])
       refine wpAnyH_take (i := 3) (oi := { dst := some 54, op := Go.Op.load 84 (Go.Operand.tmp 53), type := 84, pos := "walk.go:209", after := #[{ on := 2, ground := Go.Ground.data }], guard := none }) (v := .map (some mk)) rfl (by kernel_rfl) ?_ ?_ ?_ ?_ hHeld ?_
       · kernel_rfl
       · kernel_rfl
       · exact fun _ _ _ h => h
       · exact Or.inl ⟨by rfl, fun w' hSw => by (try dsimp only at hSw); go_simp⟩
       (try simp only [Act.put, List.setIfInBounds_toArray, List.set_cons_zero, List.set_cons_succ])
       refine wpAnyH_take (i := 4) (oi := { dst := some 55, op := Go.Op.load 30 (Go.Operand.tmp 15), type := 30, pos := "walk.go:209", after := #[], guard := none }) (v := .agg ((U p.1)).toArray) rfl (by kernel_rfl) ?_ ?_ ?_ ?_ hHeld ?_
       · kernel_rfl
       · kernel_rfl
       · exact fun _ _ _ h => h
       · exact yieldsIf_load_mid (by rfl) 30 (.tmp 15) rfl wr.heap.size 0 rfl (U p.1) _ (fun w' h => h.2.1) hu30 rfl HSZ.out
       (try simp only [Act.put, List.setIfInBounds_toArray, List.set_cons_zero, List.set_cons_succ])
       refine wpAnyH_take (i := 5) (oi := { dst := some 56, op := Go.Op.lookup 84 (Go.Operand.tmp 54) (Go.Operand.tmp 55) false, type := 3, pos := "walk.go:209", after := #[{ on := 3, ground := Go.Ground.data }, { on := 4, ground := Go.Ground.data }], guard := none }) (v := .int .i64 3) rfl (by kernel_rfl) ?_ ?_ ?_ ?_ hHeld ?_
       · kernel_rfl
       · kernel_rfl
       · exact fun _ _ _ h => h
       · exact Or.inl ⟨by rfl, fun w' hSw => by (try dsimp only at hSw); go_simp⟩
       (try simp only [Act.put, List.setIfInBounds_toArray, List.set_cons_zero, List.set_cons_succ])
       refine wpAnyH_take (i := 6) (oi := { dst := some 57, op := Go.Op.binOp Go.BinOp.neq 3 (Go.Operand.tmp 56) (Go.Operand.const (Go.Value.int Go.IntKind.i64 3)) 3, type := 4, pos := "walk.go:209", after := #[{ on := 5, ground := Go.Ground.data }], guard := none }) (v := .bool false) rfl (by kernel_rfl) ?_ ?_ ?_ ?_ hHeld ?_
       · kernel_rfl
       · kernel_rfl
       · exact fun _ _ _ h => h
       · exact Or.inl ⟨by rfl, fun w' _ => by go_simp⟩
       (try simp only [Act.put, List.setIfInBounds_toArray, List.set_cons_zero, List.set_cons_succ])
       refine wpAnyH_done (by kernel_rfl) ?_ _
       refine NoPanic.normal ?_
       clear HS17
       generalize w8.drew = w9 at *
       go_wp2_with fail
       go_roundw
       case rel => exact ⟨t + 1, by have := HT.out; omega, by go_num, HB8'⟩
       case measure => simp [intOf]; omega
     · have ht1 : decide ((t : Int) < (j : Int)) = false := decide_eq_false (by omega)
       have ht2 : decide (t < j) = false := decide_eq_false htl
       have HF : Hid (HistP w ps (.returned (.tuple #[.pointer (some ⟨xs, 0, none⟩), .slice A j k, .int .i64 0])) wr) := by
        have ho := own_base (own_below HO7.out HB2.out) HB6.out.size
        have hb := HB.out.trans (HB2.out.mono HB.out.size)
        refine ⟨xs, A, k, by rw [HPL.out], by rw [HPL.out]; exact ho, HB6.out.trans (hb.mono HB6.out.size)⟩
       clear HO7 HSV7 HB2
       go_wp2_with fail
       go_ret3
       exact HF.out
theorem own_ids {w : World} {B n k : Nat} {A : Option Addr} {l : List Id} (h : w.ownsRow B 30 32 (.slice A n k) n (IdsU l)) (hn : 0 < n) : ∃ q, A = some ⟨q, 0, none⟩ ∧ q < w.heap.size ∧ w.rangeAt q 0 (IdsU l) ∧ n ≤ k := by
 obtain ⟨q, cap, hv, _, hlt⟩ := h.form hn
 injection hv with hv1
 subst hv1
 refine ⟨q, rfl, hlt, fun t v hv => ?_, own_cap h⟩
 have := h.cells (g := q) rfl t v hv
 rw [addr_add] at this
 exact this
theorem IdsR.tail {w : World} {q : Nat} {p : Id} {l : List Id} (hlt : q < w.heap.size) (h : w.rangeAt q 0 (IdsU (p :: l))) : IdsR w l (some ⟨q, 32, none⟩) ∧ w.rangeAt q 0 (U p.1) := by
 have e : IdsU (p :: l) = U p.1 ++ IdsU l := by simp [IdsU]
 have hl : (U p.1).length = 32 := by rw [U_length]; exact p.2
 refine ⟨.inr ⟨q, 32, rfl, hlt, fun t v hv => ?_⟩, fun t v hv => h t v ?_⟩
 · have := h (32 + t) v (by rw [e, List.getElem?_append_right (by omega), hl, show 32 + t - 32 = t by omega]; exact hv)
   rw [Nat.zero_add] at this
   exact this
 · rw [e, List.getElem?_append_left (List.getElem?_eq_some_iff.1 hv).1]
   exact hv
def BeforeP (w : World) (b : Bool) (e : Ending) (w' : World) : Prop := e = .returned (.tuple #[.bool b, .int .i64 0]) ∧ Below w.heap.size w w'
set_option maxHeartbeats 2000000 in
theorem before_any (w : World) (B0 m a : Nat) (S : Sto) (Ds : DataW Value) (x y p0 p1 : Id) (he : Env w B0 a m S Ds) (g : Good S) (hx : x ∈ idsS S ∧ (kindS S x = 3 ∨ kindS S x = 4)) (hy : y ∈ idsS S ∧ (kindS S y = 3 ∨ kindS S y = 4)) (hps : endsP S [x, y] = some [p0, p1]) (h0 : p0 ∈ idsS S ∧ kindS S p0 = 3) (h1 : p1 ∈ idsS S ∧ kindS S p1 = 3) :
 Calls Tryz.prog 12 #[.pointer (some ⟨a, 0, none⟩), .agg (U x.1).toArray, .agg (U y.1).toArray] w (BeforeP w (decide (p0 ∈ setP (lnkH S) [p1]))) := by
 obtain ⟨bb, hbb⟩ : ∃ bb, bb = decide (p0 ∈ setP (lnkH S) [p1]) := ⟨_, rfl⟩
 rw [← hbb]
 have HBB := Lib.hid hbb
 clear hbb
 obtain ⟨wa, hwa⟩ : ∃ wa, wa = w.alloc (.cells (U x.1).toArray 30) := ⟨_, rfl⟩
 obtain ⟨wb, hwb⟩ : ∃ wb, wb = wa.alloc (.cells (U y.1).toArray 30) := ⟨_, rfl⟩
 obtain ⟨wc, hwc⟩ : ∃ wc, wc = wb.alloc (.cells (U x.1 ++ U y.1).toArray 30) := ⟨_, rfl⟩
 have hsa : wa.heap.size = w.heap.size + 1 := by rw [hwa]; simp
 have ga : w.grownBy wa none := by rw [hwa]; exact gb_alloc (gb_refl _ _) _
 have gb : wa.grownBy wb none := by rw [hwb]; exact gb_alloc (gb_refl _ _) _
 have gc : wb.grownBy wc none := by rw [hwc]; exact gb_alloc (gb_refl _ _) _
 have bx : Blk wb w.heap.size 30 (U x.1).toArray := by
  have h1 : Blk wa w.heap.size 30 (U x.1).toArray := by rw [hwa]; exact Blk.new _ _ _
  exact h1.gb gb (by simp)
 have bY : Blk wb (w.heap.size + 1) 30 (U y.1).toArray := by
  have h1 := Blk.new wa 30 (U y.1).toArray
  rw [hsa, ← hwb] at h1
  exact h1
 have bc : Blk wc wb.heap.size 30 (U x.1 ++ U y.1).toArray := by rw [hwc]; exact Blk.new _ _ _
 have hbc : Below w.heap.size w wc := below_of_gb (gb_trans (gb_trans ga gb) gc)
 have hrs : IdsR wc [x, y] (some ⟨wb.heap.size, 0, none⟩) := .inr ⟨_, 0, rfl, bc.lt, by
  have e : IdsU [x, y] = U x.1 ++ U y.1 := by simp [IdsU]
  rw [e]
  exact range_of_blk bc (fun j v hj => by rw [Nat.zero_add, List.getElem?_toArray]; exact hj)⟩
 have HH := Lib.hid (hist_any wc B0 m a S Ds [x, y] [p0, p1] (some ⟨wb.heap.size, 0, none⟩) 2 (he.to hbc) g hrs (Nat.le_refl _) (fun i hi => by
  rcases List.mem_cons.1 hi with rfl | hi
  · exact hx
  · rw [List.mem_singleton] at hi; subst hi; exact hy) (by simp) hps (fun p hp => by
  rcases List.mem_cons.1 hp with rfl | hp
  · exact h0.2
  · rw [List.mem_singleton] at hp; subst hp; exact h1.2))
 obtain ⟨d0, d1, d2, d3, d4, d5, d6, d7, d8, d9, d10, d11, d12, d13, d14, d15, d16, d17, d18, d19, d20, d21, d22, d23, d24, d25, d26, d27, d28, d29, d30, d31, hU⟩ := id32 x
 obtain ⟨e0, e1, e2, e3, e4, e5, e6, e7, e8, e9, e10, e11, e12, e13, e14, e15, e16, e17, e18, e19, e20, e21, e22, e23, e24, e25, e26, e27, e28, e29, e30, e31, hV⟩ := id32 y
 have hcx : wb.heap[w.heap.size]? = some (.cells #[d0, d1, d2, d3, d4, d5, d6, d7, d8, d9, d10, d11, d12, d13, d14, d15, d16, d17, d18, d19, d20, d21, d22, d23, d24, d25, d26, d27, d28, d29, d30, d31] 30 (0, 0)) := by have h := bx; rw [hU] at h; exact h
 have hcy : wb.heap[w.heap.size + 1]? = some (.cells #[e0, e1, e2, e3, e4, e5, e6, e7, e8, e9, e10, e11, e12, e13, e14, e15, e16, e17, e18, e19, e20, e21, e22, e23, e24, e25, e26, e27, e28, e29, e30, e31] 30 (0, 0)) := by have h := bY; rw [hV] at h; exact h
 have hsx : (Tryz.prog.info? 30).map (·.size) = some (#[d0, d1, d2, d3, d4, d5, d6, d7, d8, d9, d10, d11, d12, d13, d14, d15, d16, d17, d18, d19, d20, d21, d22, d23, d24, d25, d26, d27, d28, d29, d30, d31] : Array Value).size := by have h := id_size' _ x.2; rw [hU] at h; exact h
 have hsy : (Tryz.prog.info? 30).map (·.size) = some (#[e0, e1, e2, e3, e4, e5, e6, e7, e8, e9, e10, e11, e12, e13, e14, e15, e16, e17, e18, e19, e20, e21, e22, e23, e24, e25, e26, e27, e28, e29, e30, e31] : Array Value).size := by have h := id_size' _ y.2; rw [hV] at h; exact h
 rw [hU, hV] at hwc
 have HWA := Lib.hid hwa
 have HWB := Lib.hid hwb
 have HWC : Hid (wc = wb.alloc (.cells #[d0, d1, d2, d3, d4, d5, d6, d7, d8, d9, d10, d11, d12, d13, d14, d15, d16, d17, d18, d19, d20, d21, d22, d23, d24, d25, d26, d27, d28, d29, d30, d31, e0, e1, e2, e3, e4, e5, e6, e7, e8, e9, e10, e11, e12, e13, e14, e15, e16, e17, e18, e19, e20, e21, e22, e23, e24, e25, e26, e27, e28, e29, e30, e31] 30)) := hwc
 have HBC := Lib.hid hbc
 have HX := Lib.hid hcx
 have HY := Lib.hid hcy
 have HSX := Lib.hid hsx
 have HSY := Lib.hid hsy
 have HE := Lib.hid he
 have HG := Lib.hid g
 have HP := Lib.hid (And.intro h0 h1)
 have hu30 := Tryz.underlying30
 clear hwa hwb hwc hU hV hcx hcy hsx hsy he g h0 h1 hx hy hps hrs bx bY bc ga gb gc hsa hbc
 go_enter Tryz.func12, Tryz.ntmps12
 go_upto_region 1 with fail
 rw [← HWA.out, ← HWB.out]
 clear HWA HWB
 go_wp2_with (first
  | (with_reducible refine wpList_load_row rfl 30 (.tmp 4) rfl w.heap.size rfl 30 #[d0, d1, d2, d3, d4, d5, d6, d7, d8, d9, d10, d11, d12, d13, d14, d15, d16, d17, d18, d19, d20, d21, d22, d23, d24, d25, d26, d27, d28, d29, d30, d31] (0, 0) _ HX.out hu30 rfl HSX.out ?_)
  | (with_reducible refine wpList_load_row rfl 30 (.tmp 5) rfl (w.heap.size + 1) rfl 30 #[e0, e1, e2, e3, e4, e5, e6, e7, e8, e9, e10, e11, e12, e13, e14, e15, e16, e17, e18, e19, e20, e21, e22, e23, e24, e25, e26, e27, e28, e29, e30, e31] (0, 0) _ HY.out hu30 rfl HSY.out ?_))
 rw [← HWC.out]
 refine HH.out.mono ?_
 rintro e wd ⟨xs, A, k, rfl, hown, hbd⟩
 obtain ⟨q, rfl, hq, hrq, hk2⟩ := own_ids hown (by simp)
 obtain ⟨htl, hr0⟩ := IdsR.tail hq hrq
 have hk2' : 2 ≤ k := hk2
 have HBD : Hid (Below w.heap.size w wd) := HBC.out.trans (hbd.mono HBC.out.size)
 have HL := Lib.hid (line_any wd.drew B0 m a S Ds [p1] (some ⟨q, 32, none⟩) (k - 1) (HE.out.to HBD.out.drew) HG.out (by
  rcases htl with h | ⟨q', o', e, h2, h3⟩
  · cases h
  · exact .inr ⟨q', o', e, h2, h3⟩) (by simp; omega) (fun i hi => by rw [List.mem_singleton] at hi; subst hi; exact HP.out.2) (by simp))
 have HR0 : Hid (wd.drew.rangeAt q 0 (U p0.1)) := hr0
 have HQ0 : Hid (q < wd.drew.heap.size) := hq
 clear hown hbd hq hrq hk2 htl hr0 HH HWC HX HY HSX HSY HBC
 have HSP := Lib.hid (id_size _ p0.2)
 have hk1 : ¬k = 1 := by omega
 unfold Hid at HL
 rw [show [p1].length = 1 from rfl] at HL
 replace HL := Lib.hid HL
 go_upto_region 4 with fail
 refine wp_region_noPanic ?_
 refine wp_region_held_drew (S := fun w' => w'.rangeAt q 0 (U p0.1)) (by kernel_rfl) HR0.out (fun hHeld => ?_)
 refine wpAnyH_take (i := 0) (oi := { dst := some 26, op := Go.Op.move (Go.Operand.tmp 0), type := 25, pos := "walk.go:249", after := #[], guard := none }) (v := .pointer (some ⟨a, 0, none⟩)) rfl (by kernel_rfl) ?_ ?_ ?_ ?_ hHeld ?_
 · kernel_rfl
 · kernel_rfl
 · exact fun _ _ _ h => h
 · exact Or.inl ⟨by rfl, fun w' _ => by go_simp⟩
 (try simp only [Act.put, List.setIfInBounds_toArray, List.set_cons_zero, List.set_cons_succ])
 refine wpAnyH_take (i := 1) (oi := { dst := some 27, op := Go.Op.move (Go.Operand.tmp 9), type := 28, pos := "walk.go:249", after := #[], guard := none }) (v := .slice (some ⟨q, 0, none⟩) 2 k) rfl (by kernel_rfl) ?_ ?_ ?_ ?_ hHeld ?_
 · kernel_rfl
 · kernel_rfl
 · exact fun _ _ _ h => h
 · exact Or.inl ⟨by rfl, fun w' _ => by go_simp⟩
 (try simp only [Act.put, List.setIfInBounds_toArray, List.set_cons_zero, List.set_cons_succ])
 refine wpAnyH_take (i := 4) (oi := { dst := some 30, op := Go.Op.move (Go.Operand.tmp 9), type := 28, pos := "walk.go:249", after := #[], guard := none }) (v := .slice (some ⟨q, 0, none⟩) 2 k) rfl (by kernel_rfl) ?_ ?_ ?_ ?_ hHeld ?_
 · kernel_rfl
 · kernel_rfl
 · exact fun _ _ _ h => h
 · exact Or.inl ⟨by rfl, fun w' _ => by go_simp⟩
 (try simp only [Act.put, List.setIfInBounds_toArray, List.set_cons_zero, List.set_cons_succ])
 refine wpAnyH_take (i := 5) (oi := { dst := some 31, op := Go.Op.indexAddr 28 (Go.Operand.tmp 30) (Go.Operand.const (Go.Value.int Go.IntKind.i64 0)), type := 0, pos := "walk.go:249", after := #[{ on := 4, ground := Go.Ground.data }], guard := none }) (v := .pointer (some ⟨q, 0, none⟩)) rfl (by kernel_rfl) ?_ ?_ ?_ ?_ hHeld ?_
 · kernel_rfl
 · kernel_rfl
 · exact fun _ _ _ h => h
 · exact Or.inl ⟨by rfl, fun w' _ => by go_simp⟩
 (try simp only [Act.put, List.setIfInBounds_toArray, List.set_cons_zero, List.set_cons_succ])
 refine wpAnyH_take (i := 6) (oi := { dst := some 32, op := Go.Op.load 30 (Go.Operand.tmp 31), type := 30, pos := "walk.go:249", after := #[{ on := 5, ground := Go.Ground.data }], guard := none }) (v := .agg ((U p0.1)).toArray) rfl (by kernel_rfl) ?_ ?_ ?_ ?_ hHeld ?_
 · kernel_rfl
 · kernel_rfl
 · exact fun _ _ _ h => h
 · exact yieldsIf_load_mid (by rfl) 30 (.tmp 31) rfl q 0 rfl (U p0.1) _ (fun w' h => h) hu30 rfl HSP.out
 (try simp only [Act.put, List.setIfInBounds_toArray, List.set_cons_zero, List.set_cons_succ])
 refine wpAnyH_take (i := 2) (oi := { dst := some 28, op := Go.Op.slice 28 (Go.Operand.tmp 27) (some (Go.Operand.const (Go.Value.int Go.IntKind.i64 1))) none none, type := 28, pos := "walk.go:249", after := #[{ on := 1, ground := Go.Ground.data }], guard := none }) (v := .slice (some ⟨q, 32, none⟩) 1 (k - 1)) rfl (by kernel_rfl) ?_ ?_ ?_ ?_ hHeld ?_
 · kernel_rfl
 · kernel_rfl
 · exact fun _ _ _ h => h
 · exact Or.inl ⟨by rfl, fun w' _ => by go_simp⟩
 (try simp only [Act.put, List.setIfInBounds_toArray, List.set_cons_zero, List.set_cons_succ])
 refine wpAnyH_ready (rs := [3]) (by kernel_rfl) (by simp) ?_
 refine AllReadyH.cons (o := { dst := some 29, op := Go.Op.call { callee := Go.Callee.value (Go.Operand.func 29), args := #[Go.Operand.tmp 26, Go.Operand.tmp 28], argTypes := #[25, 28] }, type := 84, pos := "walk.go:249", after := #[{ on := 0, ground := Go.Ground.data }, { on := 2, ground := Go.Ground.data }], guard := none }) rfl (fun K hK => ?_) AllReadyH.nil
 go_simp
 refine HL.out.mono ?_
 rintro e we ⟨mk, D, ks, rfl, hm, hkm, hnd, hks, hbe, hmk⟩
 have hre : we.rangeAt q 0 (U p0.1) := rangeAt_below HR0.out hbe HQ0.out
 have HBE : Hid (Below w.heap.size w we) := HBD.out.drew.trans (hbe.mono HBD.out.drew.size)
 obtain ⟨xx, hlk⟩ := hkm.look hm p0
 have hdd : decide (p0 ∈ ks) = decide (p0 ∈ setP (lnkH S) [p1]) := decide_eq_decide.2 (hks p0)
 rw [hdd, ← HBB.out] at hlk
 clear hm hkm hnd hks hbe hmk hdd HL
 refine hK.out _ _ hre (fun hHeld => ?_)
 clear hK K
 (try simp only [Act.put, List.setIfInBounds_toArray, List.set_cons_zero, List.set_cons_succ])
 refine wpAnyH_ready (rs := [7]) (by kernel_rfl) (by simp) ?_
 refine AllReadyH.cons (o := { dst := some 33, op := Go.Op.lookup 84 (Go.Operand.tmp 29) (Go.Operand.tmp 32) true, type := 92, pos := "walk.go:249", after := #[{ on := 3, ground := Go.Ground.data }, { on := 6, ground := Go.Ground.data }], guard := none }) rfl (fun K hK => ?_) AllReadyH.nil
 go_simp
 refine hK.out _ _ hre (fun hHeld => ?_)
 clear hK K
 (try simp only [Act.put, List.setIfInBounds_toArray, List.set_cons_zero, List.set_cons_succ])
 refine wpAnyH_take (i := 8) (oi := { dst := some 25, op := Go.Op.move (Go.Operand.tmp 33), type := 92, pos := "walk.go:249", after := #[{ on := 7, ground := Go.Ground.data }], guard := none }) (v := .tuple #[.int .i64 xx, .bool bb]) rfl (by kernel_rfl) ?_ ?_ ?_ ?_ hHeld ?_
 · kernel_rfl
 · kernel_rfl
 · exact fun _ _ _ h => h
 · exact Or.inl ⟨by rfl, fun w' _ => by go_simp⟩
 (try simp only [Act.put, List.setIfInBounds_toArray, List.set_cons_zero, List.set_cons_succ])
 refine wpAnyH_take (i := 9) (oi := { dst := some 34, op := Go.Op.extract (Go.Operand.tmp 25) 0, type := 3, pos := "walk.go:249", after := #[{ on := 8, ground := Go.Ground.data }], guard := none }) (v := .int .i64 xx) rfl (by kernel_rfl) ?_ ?_ ?_ ?_ hHeld ?_
 · kernel_rfl
 · kernel_rfl
 · exact fun _ _ _ h => h
 · exact Or.inl ⟨by rfl, fun w' _ => by go_simp⟩
 (try simp only [Act.put, List.setIfInBounds_toArray, List.set_cons_zero, List.set_cons_succ])
 refine wpAnyH_take (i := 10) (oi := { dst := some 35, op := Go.Op.extract (Go.Operand.tmp 25) 1, type := 4, pos := "walk.go:249", after := #[{ on := 8, ground := Go.Ground.data }, { on := 11, ground := Go.Ground.gcOnly Go.Departure.lateStores }], guard := none }) (v := .bool bb) rfl (by kernel_rfl) ?_ ?_ ?_ ?_ hHeld ?_
 · kernel_rfl
 · kernel_rfl
 · exact fun _ _ _ h => h
 · exact Or.inl ⟨by rfl, fun w' _ => by go_simp⟩
 (try simp only [Act.put, List.setIfInBounds_toArray, List.set_cons_zero, List.set_cons_succ])
 refine wpAnyH_take (i := 11) (oi := { dst := some 11, op := Go.Op.assign (Go.Operand.tmp 34), type := 3, pos := "walk.go:249", after := #[{ on := 9, ground := Go.Ground.data }, { on := 3, ground := Go.Ground.chain }, { on := 0, ground := Go.Ground.phase }, { on := 1, ground := Go.Ground.phase }, { on := 2, ground := Go.Ground.phase }, { on := 3, ground := Go.Ground.phase }, { on := 4, ground := Go.Ground.phase }, { on := 5, ground := Go.Ground.phase }, { on := 6, ground := Go.Ground.phase }, { on := 7, ground := Go.Ground.phase }, { on := 8, ground := Go.Ground.phase }, { on := 9, ground := Go.Ground.phase }, { on := 10, ground := Go.Ground.textOnly Go.Departure.lateStores }], guard := none }) (v := .int .i64 xx) rfl (by kernel_rfl) ?_ ?_ ?_ ?_ hHeld ?_
 · kernel_rfl
 · kernel_rfl
 · exact fun _ _ _ h => h
 · exact Or.inl ⟨by rfl, fun w' _ => by go_simp⟩
 (try simp only [Act.put, List.setIfInBounds_toArray, List.set_cons_zero, List.set_cons_succ])
 refine wpAnyH_take (i := 12) (oi := { dst := some 12, op := Go.Op.assign (Go.Operand.tmp 35), type := 4, pos := "walk.go:249", after := #[{ on := 10, ground := Go.Ground.data }, { on := 11, ground := Go.Ground.chain }, { on := 0, ground := Go.Ground.phase }, { on := 1, ground := Go.Ground.phase }, { on := 2, ground := Go.Ground.phase }, { on := 3, ground := Go.Ground.phase }, { on := 4, ground := Go.Ground.phase }, { on := 5, ground := Go.Ground.phase }, { on := 6, ground := Go.Ground.phase }, { on := 7, ground := Go.Ground.phase }, { on := 8, ground := Go.Ground.phase }, { on := 9, ground := Go.Ground.phase }, { on := 10, ground := Go.Ground.phase }, { on := 11, ground := Go.Ground.phase }], guard := none }) (v := .bool bb) rfl (by kernel_rfl) ?_ ?_ ?_ ?_ hHeld ?_
 · kernel_rfl
 · kernel_rfl
 · exact fun _ _ _ h => h
 · exact Or.inl ⟨by rfl, fun w' _ => by go_simp⟩
 (try simp only [Act.put, List.setIfInBounds_toArray, List.set_cons_zero, List.set_cons_succ])
 refine wpAnyH_done (by kernel_rfl) ?_ _
 refine NoPanic.normal ?_
 have HF : Hid (BeforeP w bb (.returned (.tuple #[.bool bb, .int .i64 0])) we) := ⟨rfl, HBE.out⟩
 clear hre hlk
 go_wp2_with fail
 go_ret2
 exact HF.out
end Go.Proofs.YtnjhjbmngoeobaaGreatDoor
