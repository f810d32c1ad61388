/- Laws towards WalkDeep: BasA. -/
import Derived.Test.YtnjhjbmngoeobaaGreatDoorMg27
import Derived.Test.YtnjhjbmngoeobaaGreatDoorMg28
namespace Go.Proofs.YtnjhjbmngoeobaaGreatDoor
open Go.RowKit Go.Maps
set_option maxRecDepth 100000
abbrev RM (w : World) (mk r n : Nat) (D : DataW Value) (left : Lit → Bool) (cnt : Nat) : Prop := w.ranges Tryz.prog 30 (plainElem Tryz.prog 3) mk r n D left cnt
abbrev OM (w : World) (mk n : Nat) (D : DataW Value) : Prop := w.ownsMap Tryz.prog 30 (plainElem Tryz.prog 3) mk n D
def Rng0 (wb : World) (mk r n : Nat) (D : DataW Value) (wr : World) : Prop :=
 ∃ (left : Lit → Bool) (cnt : Nat), Hid (RM wr mk r n D left cnt) ∧ Hid (∀ kl, left kl = true → has D kl = true) ∧ Hid (Below wb.heap.size wb wr)
def Bas2 (wb : World) (mk r n : Nat) (D : DataW Value) (ks : List Id) (mb : Nat) (wr : World) : Prop :=
 ∃ (left : Lit → Bool) (cnt : Nat) (bs : List Id) (E : DataW Value), Hid (RM wr mk r n D left cnt) ∧ Hid (∀ kl, left kl = true → has D kl = true) ∧ Hid (OM wr mb bs.length E ∧ FunM (fun _ => 1) bs E) ∧ Hid ((∀ i ∈ ks, i ∈ bs ∨ left (ik i) = true) ∧ ∀ i ∈ bs, i ∈ ks ∧ left (ik i) = false) ∧ Hid (Below wb.heap.size wb wr)
def Bas3 (wb : World) (mk r n : Nat) (D : DataW Value) (S : Sto) (ch : List Id) (mb nb : Nat) (wr : World) : Prop :=
 ∃ (left : Lit → Bool) (cnt : Nat) (bs : List Id) (E : DataW Value), Hid (RM wr mk r n D left cnt) ∧ Hid (∀ kl, left kl = true → has D kl = true) ∧ Hid (OM wr mb nb E ∧ FunM (fun _ => 1) bs E) ∧ Hid (∀ i, i ∈ bs ↔ i ∈ ch ∧ ∀ c ∈ ch, left (ik c) = false → i ∉ prs S c) ∧ Hid (Below wb.heap.size wb wr)
theorem below_turned {w0 w w' : World} {B mb : Nat} (hb : Below B w0 w) (ht : w.mapTurned w' mb) (h : B ≤ mb) (hs : B ≤ w.heap.size) : Below B w0 w' :=
 hb.trans ⟨ht.grown.os, ht.grown.tape, ht.grown.output, ht.grown.size, fun k hk => ht.grown.block k (by omega) (fun e => by have := Option.some.inj e; omega)⟩
theorem tidyM {w : World} {mk n : Nat} {D : DataW Value} (h : OM w mk n D) : Tidy D := h.tidy key_law
theorem left_in {left : Lit → Bool} {D : DataW Value} {i : Id} (h : ∀ kl, left kl = true → has D kl = true) : ∀ kl, (left kl && !kl.sameKey (ik i)) = true → has D kl = true := fun kl hk => h kl (by simp at hk; exact hk.1)
theorem left_at (left : Lit → Bool) (i j : Id) : (left (ik j) && !(ik j).sameKey (ik i)) = (left (ik j) && !decide (j = i)) := by rw [ik_same]
set_option maxHeartbeats 4000000 in
theorem bases_any (w : World) (B0 m a : Nat) (S : Sto) (Ds : DataW Value) (x y p0 p1 : Id) (r : List Id) (he : Env w B0 a m S Ds) (g : Good S) (hx : x ∈ idsS S ∧ (kindS S x = 3 ∨ kindS S x = 4)) (hy : y ∈ idsS S ∧ (kindS S y = 3 ∨ kindS S y = 4)) (hps : endsP S [x, y] = some [p0, p1]) (h0 : p0 ∈ idsS S ∧ kindS S p0 = 3) (h1 : p1 ∈ idsS S ∧ kindS S p1 = 3)
 (hC : Chn S (p0 :: r)) (hin : ∀ i ∈ p0 :: r, i ∈ setP (lnkH S) [p1]) (hsort : ∀ B, SortP B) :
 Calls Tryz.prog 13 #[.pointer (some ⟨a, 0, none⟩), .agg (U x.1).toArray, .agg (U y.1).toArray] w (ReachP w [p0]) := by
 obtain ⟨wa, hwa⟩ : ∃ wa, wa = w.alloc (.cells (U x.1).toArray 30) := ⟨_, rfl⟩
 obtain ⟨wb, hwb⟩ : ∃ wb, wb = wa.alloc (.cells (U y.1).toArray 30) := ⟨_, rfl⟩
 obtain ⟨wc, hwc⟩ : ∃ wc, wc = wb.alloc (.cells (U x.1 ++ U y.1).toArray 30) := ⟨_, rfl⟩
 have hsa : wa.heap.size = w.heap.size + 1 := by rw [hwa]; simp
 have ga : w.grownBy wa none := by rw [hwa]; exact gb_alloc (gb_refl _ _) _
 have gb : wa.grownBy wb none := by rw [hwb]; exact gb_alloc (gb_refl _ _) _
 have gc : wb.grownBy wc none := by rw [hwc]; exact gb_alloc (gb_refl _ _) _
 have bx : Blk wb w.heap.size 30 (U x.1).toArray := by
  have h1 : Blk wa w.heap.size 30 (U x.1).toArray := by rw [hwa]; exact Blk.new _ _ _
  exact h1.gb gb (by simp)
 have bY : Blk wb (w.heap.size + 1) 30 (U y.1).toArray := by
  have h1 := Blk.new wa 30 (U y.1).toArray
  rw [hsa, ← hwb] at h1
  exact h1
 have bc : Blk wc wb.heap.size 30 (U x.1 ++ U y.1).toArray := by rw [hwc]; exact Blk.new _ _ _
 have hbc : Below w.heap.size w wc := below_of_gb (gb_trans (gb_trans ga gb) gc)
 have hrs : IdsR wc [x, y] (some ⟨wb.heap.size, 0, none⟩) := .inr ⟨_, 0, rfl, bc.lt, by
  have e : IdsU [x, y] = U x.1 ++ U y.1 := by simp [IdsU]
  rw [e]
  exact range_of_blk bc (fun j v hj => by rw [Nat.zero_add, List.getElem?_toArray]; exact hj)⟩
 have HH := Lib.hid (hist_any wc B0 m a S Ds [x, y] [p0, p1] (some ⟨wb.heap.size, 0, none⟩) 2 (he.to hbc) g hrs (Nat.le_refl _) (fun i hi => by
  rcases List.mem_cons.1 hi with rfl | hi
  · exact hx
  · rw [List.mem_singleton] at hi; subst hi; exact hy) (by simp) hps (fun p hp => by
  rcases List.mem_cons.1 hp with rfl | hp
  · exact h0.2
  · rw [List.mem_singleton] at hp; subst hp; exact h1.2))
 obtain ⟨d0, d1, d2, d3, d4, d5, d6, d7, d8, d9, d10, d11, d12, d13, d14, d15, d16, d17, d18, d19, d20, d21, d22, d23, d24, d25, d26, d27, d28, d29, d30, d31, hU⟩ := id32 x
 obtain ⟨e0, e1, e2, e3, e4, e5, e6, e7, e8, e9, e10, e11, e12, e13, e14, e15, e16, e17, e18, e19, e20, e21, e22, e23, e24, e25, e26, e27, e28, e29, e30, e31, hV⟩ := id32 y
 have hcx : wb.heap[w.heap.size]? = some (.cells #[d0, d1, d2, d3, d4, d5, d6, d7, d8, d9, d10, d11, d12, d13, d14, d15, d16, d17, d18, d19, d20, d21, d22, d23, d24, d25, d26, d27, d28, d29, d30, d31] 30 (0, 0)) := by have h := bx; rw [hU] at h; exact h
 have hcy : wb.heap[w.heap.size + 1]? = some (.cells #[e0, e1, e2, e3, e4, e5, e6, e7, e8, e9, e10, e11, e12, e13, e14, e15, e16, e17, e18, e19, e20, e21, e22, e23, e24, e25, e26, e27, e28, e29, e30, e31] 30 (0, 0)) := by have h := bY; rw [hV] at h; exact h
 have hsx : (Tryz.prog.info? 30).map (·.size) = some (#[d0, d1, d2, d3, d4, d5, d6, d7, d8, d9, d10, d11, d12, d13, d14, d15, d16, d17, d18, d19, d20, d21, d22, d23, d24, d25, d26, d27, d28, d29, d30, d31] : Array Value).size := by have h := id_size' _ x.2; rw [hU] at h; exact h
 have hsy : (Tryz.prog.info? 30).map (·.size) = some (#[e0, e1, e2, e3, e4, e5, e6, e7, e8, e9, e10, e11, e12, e13, e14, e15, e16, e17, e18, e19, e20, e21, e22, e23, e24, e25, e26, e27, e28, e29, e30, e31] : Array Value).size := by have h := id_size' _ y.2; rw [hV] at h; exact h
 rw [hU, hV] at hwc
 have HWA := Lib.hid hwa
 have HWB := Lib.hid hwb
 have HWC : Hid (wc = wb.alloc (.cells #[d0, d1, d2, d3, d4, d5, d6, d7, d8, d9, d10, d11, d12, d13, d14, d15, d16, d17, d18, d19, d20, d21, d22, d23, d24, d25, d26, d27, d28, d29, d30, d31, e0, e1, e2, e3, e4, e5, e6, e7, e8, e9, e10, e11, e12, e13, e14, e15, e16, e17, e18, e19, e20, e21, e22, e23, e24, e25, e26, e27, e28, e29, e30, e31] 30)) := hwc
 have HBC := Lib.hid hbc
 have HX := Lib.hid hcx
 have HY := Lib.hid hcy
 have HSX := Lib.hid hsx
 have HSY := Lib.hid hsy
 have HE := Lib.hid he
 have HG := Lib.hid g
 have HP := Lib.hid (And.intro h0 h1)
 have hu30 := Tryz.underlying30
 clear hwa hwb hwc hU hV hcx hcy hsx hsy he g h0 h1 hx hy hps hrs bx bY bc ga gb gc hsa hbc
 have HCH := Lib.hid hC
 have HIN := Lib.hid hin
 have HSO := Lib.hid hsort
 obtain ⟨ch, hch⟩ : ∃ ch, ch = p0 :: r := ⟨_, rfl⟩
 unfold Hid at HCH HIN
 rw [← hch] at HCH HIN
 replace HCH := Lib.hid HCH
 replace HIN := Lib.hid HIN
 have HCS : Hid (∀ i, i ∈ setP (lnkH S) [p0] ↔ i ∈ ch) := by rw [hch]; exact hC.setH
 have HLAST : Hid (∀ bs : List Id, bs.Nodup → (∀ i, i ∈ bs ↔ i ∈ ch ∧ ∀ c ∈ ch, i ∉ prs S c) → bs = [p0]) := fun bs hnd hbs => by
  have hC' : Chn S ch := HCH.out
  have hone : ∀ i, i ∈ bs ↔ i = p0 := fun i => by
   rw [hbs]
   constructor
   · rintro ⟨hi, hno⟩
     obtain ⟨k, hk, rfl⟩ := at_D hi
     by_cases e : k = 0
     · subst e
       rw [hch]
       rfl
     · exfalso
       have h2 := hC'.par (k - 1) (by omega)
       rw [if_pos (by omega)] at h2
       have h3 := hno (ch.getD (k - 1) zeroId) (getD_mem (by omega))
       rw [h2, show k - 1 + 1 = k by omega] at h3
       exact h3 (by simp)
   · rintro rfl
     refine ⟨by rw [hch]; simp, fun c hc hp => ?_⟩
     have e0 : ch.getD 0 zeroId = i := by rw [hch]; rfl
     have := (hC'.parent (k := 0) (by rw [hch]; simp) hc (by rw [e0]; exact hp)).1
     omega
  exact ((List.perm_ext_iff_of_nodup hnd (by simp)).2 (fun i => by rw [hone, List.mem_singleton])).eq_singleton
 clear hC hin hsort hch
 go_enter Tryz.func13, Tryz.ntmps13
 go_upto_region 1 with fail
 rw [← HWA.out, ← HWB.out]
 clear HWA HWB
 go_wp2_with (first
  | (with_reducible refine wpList_load_row rfl 30 (.tmp 4) rfl w.heap.size rfl 30 #[d0, d1, d2, d3, d4, d5, d6, d7, d8, d9, d10, d11, d12, d13, d14, d15, d16, d17, d18, d19, d20, d21, d22, d23, d24, d25, d26, d27, d28, d29, d30, d31] (0, 0) _ HX.out hu30 rfl HSX.out ?_)
  | (with_reducible refine wpList_load_row rfl 30 (.tmp 5) rfl (w.heap.size + 1) rfl 30 #[e0, e1, e2, e3, e4, e5, e6, e7, e8, e9, e10, e11, e12, e13, e14, e15, e16, e17, e18, e19, e20, e21, e22, e23, e24, e25, e26, e27, e28, e29, e30, e31] (0, 0) _ HY.out hu30 rfl HSY.out ?_))
 rw [← HWC.out]
 refine HH.out.mono ?_
 rintro e wd ⟨xs, A, k, rfl, hown, hbd⟩
 obtain ⟨q, rfl, hq, hrq, hk2⟩ := own_ids hown (by simp)
 obtain ⟨htl, hr0⟩ := IdsR.tail hq hrq
 have hk2' : 2 ≤ k := hk2
 have HBD : Hid (Below w.heap.size w wd) := HBC.out.trans (hbd.mono HBC.out.size)
 have HL0 := Lib.hid (line_any wd B0 m a S Ds [p0] (some ⟨q, 0, none⟩) k (HE.out.to HBD.out) HG.out (.inr ⟨q, 0, rfl, hq, by
  have e : IdsU [p0] = U p0.1 := by simp [IdsU]
  rw [e]
  exact hr0⟩) (by simp; omega) (fun i hi => by rw [List.mem_singleton] at hi; subst hi; exact HP.out.1) (by simp))
 have HTL := Lib.hid htl
 have hk1 : ¬k = 0 := by omega
 have hk3 : ¬k < 1 := by omega
 have hk4 : 1 ≤ k := by omega
 clear hown hbd hq hrq hk2 htl hr0 HH HWC HX HY HSX HSY HBC
 unfold Hid at HL0
 rw [show [p0].length = 1 from rfl] at HL0
 replace HL0 := Lib.hid HL0
 go_wp2_with fail
 refine HL0.out.mono ?_
 rintro e we ⟨mk, D, ks, rfl, hm, hkm, hnd, hks, hbe, hmk⟩
 have HBE : Hid (Below w.heap.size w we) := HBD.out.trans (hbe.mono HBD.out.size)
 have HL1 := Lib.hid (line_any we B0 m a S Ds [p1] (some ⟨q, 32, none⟩) (k - 1) (HE.out.to HBE.out) HG.out (IdsR.below (by
  rcases HTL.out with h | ⟨q', o', e, h2, h3⟩
  · cases h
  · exact .inr ⟨q', o', e, h2, h3⟩) hbe) (by simp; omega) (fun i hi => by rw [List.mem_singleton] at hi; subst hi; exact HP.out.2) (by simp))
 unfold Hid at HL1
 rw [show [p1].length = 1 from rfl] at HL1
 replace HL1 := Lib.hid HL1
 have hlen : ks.length ≤ 8000 := by
  have h2 : ∀ i ∈ ks, i ∈ idsS S := fun i hi => (HCH.out.com i ((HCS.out i).1 ((hks i).1 hi))).1
  have h3 : ks.length ≤ (idsS S).length := nodup_len hnd h2
  have h4 : (idsS S).length = S.length := by simp [idsS]
  have := HG.out.len
  omega
 have HM0 := Lib.hid hm
 have HK0 := Lib.hid (And.intro (hkm.keys) (And.intro hnd (fun i => (hks i).trans (HCS.out i))))
 have HLN := Lib.hid hlen
 have HMK := Lib.hid hmk
 clear hm hkm hnd hks hbe hmk hlen HL0 HTL HBD
 go_wp2_with fail
 refine HL1.out.mono ?_
 rintro e wf ⟨mo, Do, ko, rfl, hm, hkm, hnd, hks, hbf, hmo⟩
 have HBF : Hid (Below w.heap.size w wf) := HBE.out.trans (hbf.mono HBE.out.size)
 have hmap : OM wf mk ks.length D := HM0.out.kept (gb_of_below hbf none) (by simp)
 have HMF := Lib.hid hmap
 have HMO := Lib.hid hm
 have HKO := Lib.hid hkm
 have HKI : Hid (∀ i ∈ ks, i ∈ ko) := fun i hi => (hks i).2 (HIN.out i ((HK0.out.2.2 i).1 hi))
 obtain ⟨ln, hln⟩ : ∃ ln, ln = ks.length := ⟨_, rfl⟩
 unfold Hid at HMF
 rw [← hln] at HMF hmap
 replace HMF := Lib.hid HMF
 have HLK := Lib.hid hln
 have HMK2 : Hid (mk < wf.heap.size) := hmap.lt
 clear hm hkm hnd hks hbf hmo hln HM0 HL1
 go_wp2_with (first
  | (at_range; refine wpList_range_own _ rfl (.tmp 41) 84 rfl 30 3 key_law Tryz.underlying84 _ mk ln D rfl hmap ?_; intro w1 hrg1 hg1 hs1)
  | fail)
 go_frame
 have HRG := Lib.hid hrg1
 have HB : Hid (Below wf.heap.size wf w1) := below_of_gb hg1
 clear hmap hrg1 hg1 hs1
 go_loopw [14, 15] (fun _ _ wr => Rng0 wf mk wf.heap.size ln D wr) (fun _ _ wr => wr.rangeLeft mk wf.heap.size)
 case atStart => exact ⟨_, _, HRG, fun _ h => h, HB⟩
 case round =>
  clear HRG HB
  obtain ⟨left, cnt, HRG, HLF, HB⟩ := hrel
  go_wp2_with (first
   | (at_next; refine wpList_next_ranges wr rfl (.tmp 42) rfl 30 key_law (plainElem Tryz.prog 3) (fun v : Value => v) (fun c : Int => .int .i64 c) (fun key _ _ => ⟨key, rfl⟩) int_inv mk wf.heap.size ln D left cnt rfl HRG.out ?_ ?_)
   | fail)
  · intro _ _
    clear HRG HLF HMO HKO HKI
    obtain ⟨wg, hwg⟩ : ∃ wg, wg = wr.alloc (.map #[] 0) := ⟨_, rfl⟩
    have HWG := Lib.hid hwg
    have hgg : wr.grownBy wg none := by rw [hwg]; exact gb_alloc (gb_refl _ _) _
    have HBG : Hid (Below wf.heap.size wf wg) := HB.out.trans ((below_of_gb hgg).mono HB.out.size)
    have HMB : Hid (OM wg wr.heap.size 0 (.map [])) := by rw [hwg]; exact World.ownsMap_made _ _ _ _
    have hmap : OM wg mk ln D := HMF.out.kept (gb_of_below HBG.out none) (by simp)
    obtain ⟨mb, hmb⟩ : ∃ mb, mb = wr.heap.size := ⟨_, rfl⟩
    have HMBL : Hid (wf.heap.size ≤ mb ∧ mb < wg.heap.size) := by
     rw [hmb]
     exact ⟨HB.out.size, by rw [hwg]; simp⟩
    rw [← hmb] at HMB
    clear hwg hgg
    have hmm := @run_makeMap Tryz.prog
    go_upto_region 13 with fail
    rw [← HWG.out, ← hmb]
    clear HWG hmb HB hmm
    go_wp2_with (first
     | (at_range; refine wpList_range_own _ rfl (.tmp 58) 84 rfl 30 3 key_law Tryz.underlying84 _ mk ln D rfl hmap ?_; intro w1 hrg1 hg1 hs1)
     | fail)
    go_frame
    have HRG := Lib.hid hrg1
    have HB : Hid (Below wf.heap.size wf w1) := HBG.out.trans ((below_of_gb hg1).mono HBG.out.size)
    have HMB1 : Hid (OM w1 mb 0 (.map [])) := HMB.out.kept hg1 (by simp)
    obtain ⟨rr, hrr⟩ : ∃ rr, rr = wg.heap.size := ⟨_, rfl⟩
    rw [← hrr] at HRG
    rw [← hrr]
    have HRR : Hid (mb < rr ∧ wf.heap.size ≤ rr) := by
     have h := HMBL.out
     rw [← hrr] at h
     exact ⟨h.2, by omega⟩
    clear hmap hrg1 hg1 hs1 hrr HMB
    go_loopw [17] (fun _ wr => Bas2 wf mk rr ln D ks mb wr) (fun _ wr => wr.rangeLeft mk rr)
    case atStart => exact ⟨_, _, [], _, HRG, fun _ h => h, ⟨HMB1.out, FunM.start _⟩, ⟨fun i hi => .inr (by rw [HK0.out.1.hs]; simpa using hi), by simp⟩, HB⟩
    case round =>
     clear HRG HB HMB1 HBG
     obtain ⟨left, cnt, bs, E, HRG, HLF, HOB, HBS, HB⟩ := hrel
     go_wp2_with (first
      | (at_next; refine wpList_next_ranges wr rfl (.tmp 59) rfl 30 key_law (plainElem Tryz.prog 3) (fun v : Value => v) (fun c : Int => .int .i64 c) (fun key _ _ => ⟨key, rfl⟩) int_inv mk rr ln D left cnt rfl HRG.out ?_ ?_)
      | fail)
     · intro _ hl0
       obtain ⟨nb, hnb⟩ : ∃ nb, nb = bs.length := ⟨_, rfl⟩
       have HO3 : Hid (OM wr mb nb E ∧ FunM (fun _ => 1) bs E) := by rw [hnb]; exact HOB.out
       have HBI : Hid (∀ i, i ∈ bs ↔ i ∈ ch) := fun i => by
        constructor
        · exact fun h => (HK0.out.2.2 i).1 (HBS.out.2 i h).1
        · intro h
          rcases HBS.out.1 i ((HK0.out.2.2 i).2 h) with h2 | h2
          · exact h2
          · rw [hl0] at h2
            cases h2
       have hmap : OM wr mk ln D := HRG.out.owns
       clear HRG HLF HOB HBS hl0 hnb
       go_wp2_with (first
        | (at_range; refine wpList_range_own _ rfl (.tmp 66) 84 rfl 30 3 key_law Tryz.underlying84 _ mk ln D rfl hmap ?_; intro w1 hrg1 hg1 hs1)
        | fail)
       go_frame
       have HRG := Lib.hid hrg1
       have HB1 : Hid (Below wf.heap.size wf w1) := HB.out.trans ((below_of_gb hg1).mono HB.out.size)
       have HOB1 : Hid (OM w1 mb nb E ∧ FunM (fun _ => 1) bs E) := ⟨HO3.out.1.kept hg1 (by simp), HO3.out.2⟩
       have HMBW : Hid (mb < wr.heap.size) := HO3.out.1.lt
       obtain ⟨r3, hr3⟩ : ∃ r3, r3 = wr.heap.size := ⟨_, rfl⟩
       rw [← hr3] at HRG
       rw [← hr3]
       have HR3 : Hid (mb < r3 ∧ wf.heap.size ≤ r3) := by rw [hr3]; exact ⟨HMBW.out, HB.out.size⟩
       clear hmap hrg1 hg1 hs1 hr3 HO3 HB HMBW
       go_loopw [18] (fun _ wr => Bas3 wf mk r3 ln D S ch mb nb wr) (fun _ wr => wr.rangeLeft mk r3)
       case atStart =>
        refine ⟨_, _, bs, E, HRG, fun _ h => h, HOB1, fun i => ?_, HB1⟩
        rw [HBI.out]
        refine ⟨fun h => ⟨h, fun c hc hl => ?_⟩, fun h => h.1⟩
        rw [HK0.out.1.hs, decide_eq_true ((HK0.out.2.2 c).2 hc)] at hl
        cases hl
       case round =>
        clear HRG HB1 HOB1 HBI
        obtain ⟨left, cnt, bs, E, HRG, HLF, HOB, HBS, HB⟩ := hrel
        go_wp2_with (first
         | (at_next; refine wpList_next_ranges wr rfl (.tmp 67) rfl 30 key_law (plainElem Tryz.prog 3) (fun v : Value => v) (fun c : Int => .int .i64 c) (fun key _ _ => ⟨key, rfl⟩) int_inv mk r3 ln D left cnt rfl HRG.out ?_ ?_)
         | fail)
        · intro _ hl0
          have hbs : bs = [p0] := HLAST.out bs HOB.out.2.nd (fun i => by
           rw [HBS.out]
           exact ⟨fun h => ⟨h.1, fun c hc => h.2 c hc (hl0 _)⟩, fun h => ⟨h.1, fun c hc _ => h.2 c hc⟩⟩)
          subst hbs
          have HS := Lib.hid (sorted_of wr mb nb E [p0] HOB.out.1 HOB.out.2.keys HOB.out.2.nd (by simp) (HSO.out _))
          clear HRG HLF HOB HBS hl0
          go_wp2_with fail
          refine HS.out.mono ?_
          rintro e w4 ⟨A, kr, rfl, hr4, hb4⟩
          have HF : Hid (ReachP w [p0] (.returned (.tuple #[.slice A [p0].length kr, .int .i64 0])) w4) := by
           refine ⟨A, kr, rfl, ?_, HBF.out.trans ((HB.out.trans (hb4.mono HB.out.size)).mono HBF.out.size)⟩
           have e : sortI [p0] = [p0] := (sortI_eq (rise1 p0) (fun i => Iff.rfl))
           rw [e] at hr4
           exact hr4
          clear HS hr4 hb4
          go_wp2_with fail
          go_ret2
          exact HF.out
        · intro x cv kl y1 y2 w2 cnt2 hx hlx hy hat hrg2 hlt hg2 hs2 hen
          obtain ⟨i, hi, rfl, rfl⟩ := keys_out HK0.out.1 hx (HLF.out kl hlx)
          have HB2 : Hid (Below wf.heap.size wf w2) := HB.out.trans (below_of_gb_some hg2 HR3.out.2 HB.out.size)
          have HRG2 := Lib.hid hrg2
          have hm := HRG.out.left_eq
          have HLT := Lib.hid hlt
          have HI : Hid (i ∈ ch) := (HK0.out.2.2 i).1 hi
          have HN := id_new w2
          have HSZ := Lib.hid (id_size _ i.2)
          have HSZ2 := Lib.hid (id_size' _ i.2)
          have HFT := Lib.hid (id_fit _ i.2)
          have HOB2 : Hid (OM w2 mb nb E) := HOB.out.1.kept hg2 (by have := HR3.out.1; simp; omega)
          have HFM : Hid (FunM (fun _ => 1) bs E) := HOB.out.2
          clear hx hlx hy hat hrg2 hlt hg2 hs2 hi HRG HB HOB
          go_upto_region 20 with (with_reducible refine wpList_storeG rfl 30 (.tmp 18) (.tmp 71) rfl w2.heap.size 0 (U i.1) rfl rfl (U (List.replicate 32 0)) 30 HN.out HFT.out (U_one _) HSZ.out ?_; intro w3 HB3 HG3)
          have G3 : w2.grownBy w3 none := gb_fresh HG3.out
          have HR3' : Hid (w3.heap[w2.heap.size]? = some (.cells (U i.1).toArray 30 (0, 0))) := by
           have h1 := HB3.out
           rw [splice_id _ i.2] at h1
           exact h1
          have HBW3 : Hid (Below wf.heap.size wf w3) := HB2.out.trans ((below_of_gb G3).mono HB2.out.size)
          have HRG3 : Hid (RM w3 mk r3 ln D (fun z => left z && !z.sameKey (ik i)) cnt2) := HRG2.out.kept G3 (by simp) (by simp)
          have HOB3 : Hid (OM w3 mb nb E) := HOB2.out.kept G3 (by simp)
          obtain ⟨P, hP⟩ : ∃ P, P = prs S i := ⟨_, rfl⟩
          have HPA : Hid (Calls Tryz.prog 30 #[.pointer (some ⟨a, 0, none⟩), .agg (U i.1).toArray] w3 (ParP w3 P)) := by
           obtain ⟨l0, ls, hcl⟩ := HG.out.com i (HCH.out.com i HI.out).1 (HCH.out.com i HI.out).2
           have e : P = ls.map (·.1) := by rw [hP]; unfold prs; rw [hcl]; rfl
           rw [e]
           exact parents_any w w3 B0 m a S Ds i HE.out (HBF.out.trans (HBW3.out.mono HBF.out.size)) (HCH.out.com i HI.out).1 l0 ls hcl (by have := HG.out.wide i; rw [hcl] at this; simp at this; omega)
          have HPI : Hid (P = prs S i ∧ P.length ≤ 1) := ⟨hP, by rw [hP]; exact HCH.out.prs_le HI.out⟩
          have HBS3 : Hid (∀ (bs' : List Id), (∀ j, j ∈ bs' ↔ j ∈ bs ∧ j ∉ P) → ∀ j, j ∈ bs' ↔ j ∈ ch ∧ ∀ c ∈ ch, (left (ik c) && !(ik c).sameKey (ik i)) = false → j ∉ prs S c) := fun bs' h j => by
           rw [h, HBS.out]
           constructor
           · rintro ⟨⟨h1, h2⟩, h3⟩
             refine ⟨h1, fun c hc hl => ?_⟩
             rw [left_at] at hl
             by_cases e : c = i
             · rw [e, ← HPI.out.1]; exact h3
             · exact h2 c hc (by simpa [e] using hl)
           · rintro ⟨h1, h2⟩
             refine ⟨⟨h1, fun c hc hl => h2 c hc (by rw [hl]; rfl)⟩, ?_⟩
             have := h2 i HI.out (by rw [left_at]; simp)
             rwa [← HPI.out.1] at this
          clear HB3 HG3 HN HB2 HRG2 G3 HFT HSZ HOB2 HBS hP
          go_wp2_with (with_reducible refine wpList_load_row rfl 30 (.tmp 18) rfl w2.heap.size rfl 30 (U i.1).toArray (0, 0) _ HR3'.out hu30 rfl HSZ2.out ?_)
          refine HPA.out.mono ?_
          rintro e w4 ⟨A, kp, rfl, hop, hb4⟩
          have HB4 : Hid (Below wf.heap.size wf w4) := HBW3.out.trans (hb4.mono HBW3.out.size)
          have HRG4 : Hid (RM w4 mk r3 ln D (fun z => left z && !z.sameKey (ik i)) cnt2) := HRG3.out.kept (gb_of_below hb4 none) (by simp) (by simp)
          have HOB4 : Hid (OM w4 mb nb E) := HOB3.out.kept (gb_of_below hb4 none) (by simp)
          have HOP := Lib.hid hop
          clear hb4 hop HPA HRG3 HOB3 HBW3 HR3' HSZ2
          cases P with
          | nil =>
            have HBS4 := Lib.hid (HBS3.out bs (fun j => by simp))
            clear HBS3 HPI HOP
            simp only [List.length_nil]
            go_wp2_with fail
            refine wp_loop_rounds 1 ?_
            rw [rounds_succ]
            go_wp2_with fail
            go_roundw
            case rel => exact ⟨_, cnt2, bs, E, HRG4, left_in HLF.out, ⟨HOB4.out, HFM.out⟩, HBS4, HB4⟩
            case measure => rw [HRG4.out.left_eq, hm]; exact HLT.out
          | cons p P' =>
            cases P' with
            | cons p' P'' => exact absurd HPI.out.2 (by simp)
            | nil =>
              obtain ⟨q2, rfl, hq2, hrq2, hkp⟩ := own_ids HOP.out (by simp)
              have hkp1 : 1 ≤ kp := hkp
              have e1 : IdsU [p] = U p.1 := by simp [IdsU]
              rw [e1] at hrq2
              have HRP := Lib.hid hrq2
              have HSP := Lib.hid (id_size _ p.2)
              have HSP2 := Lib.hid (id_size' _ p.2)
              have HFP := Lib.hid (id_fit _ p.2)
              have HNP := id_new w4
              have HBS4 := Lib.hid (HBS3.out (bs.filter fun j => decide (j ≠ p)) (fun j => by rw [List.mem_filter]; simp))
              clear HBS3 HPI HOP hq2 hrq2 hkp e1
              simp only [List.length_singleton]
              go_wp2_with fail
              refine wp_loop_rounds 2 ?_
              rw [rounds_succ]
              go_upto_region 23 with (first
               | (with_reducible refine wpList_load_mid rfl 30 (.tmp 78) rfl q2 0 rfl (U p.1) _ HRP.out hu30 rfl HSP.out ?_)
               | (with_reducible refine wpList_storeG rfl 30 (.tmp 20) (.tmp 79) rfl w4.heap.size 0 (U p.1) rfl rfl (U (List.replicate 32 0)) 30 HNP.out HFP.out (U_one _) HSP.out ?_; intro w5 HB5 HG5))
              have G5 : w4.grownBy w5 none := gb_fresh HG5.out
              have HR5 : Hid (w5.heap[w4.heap.size]? = some (.cells (U p.1).toArray 30 (0, 0))) := by
               have h1 := HB5.out
               rw [splice_id _ p.2] at h1
               exact h1
              have HBW5 : Hid (Below wf.heap.size wf w5) := HB4.out.trans ((below_of_gb G5).mono HB4.out.size)
              have HRG5 : Hid (RM w5 mk r3 ln D (fun z => left z && !z.sameKey (ik i)) cnt2) := HRG4.out.kept G5 (by simp) (by simp)
              have HOB5 : Hid (OM w5 mb nb E) := HOB4.out.kept G5 (by simp)
              clear HB5 HG5 HNP HFP HSP HRP G5 HRG4 HOB4 HB4
              go_wp2_with (first
               | (with_reducible refine wpList_load_row rfl 30 (.tmp 20) rfl w4.heap.size rfl 30 (U p.1).toArray (0, 0) _ HR5.out hu30 rfl HSP2.out ?_)
               | (at_delete; refine wpList_delete_own _ rfl (.tmp 80) (.tmp 81) 84 30 rfl 3 key_law Tryz.underlying84 _ mb nb E rfl HOB5.out _ _ rfl (ik_key p) ?_; intro w6 hown6 ht6)
               | fail)
              have HRG6 : Hid (RM w6 mk r3 ln D (fun z => left z && !z.sameKey (ik i)) cnt2) := HRG5.out.kept ht6.grown (by have := HMBL.out; have := HMK2.out; simp; omega) (by have := HR3.out; simp; omega)
              have HB6 : Hid (Below wf.heap.size wf w6) := below_turned HBW5.out ht6 HMBL.out.1 HBW5.out.size
              have HO6 : Hid (OM w6 mb nb (E.del (ik p)) ∧ FunM (fun _ => 1) (bs.filter fun j => decide (j ≠ p)) (E.del (ik p))) := ⟨hown6, HFM.out.del (tidyM HOB5.out) p (fun _ _ _ => rfl)⟩
              clear hown6 ht6 HRG5 HBW5 HOB5 HR5 HSP2
              rw [rounds_succ]
              go_wp2_with fail
              go_roundw
              case rel => exact ⟨_, cnt2, _, _, HRG6, left_in HLF.out, HO6, HBS4, HB6⟩
              case measure => rw [HRG6.out.left_eq, hm]; exact HLT.out
     · intro x cv kl y1 y2 w2 cnt2 hx hlx hy hat hrg2 hlt hg2 hs2 hen
       obtain ⟨i, hi, rfl, rfl⟩ := keys_out HK0.out.1 hx (HLF.out kl hlx)
       have HB2 : Hid (Below wf.heap.size wf w2) := HB.out.trans (below_of_gb_some hg2 HRR.out.2 HB.out.size)
       have HRG2 := Lib.hid hrg2
       have hm := HRG.out.left_eq
       have HLT := Lib.hid hlt
       have hib : i ∉ bs := fun h => by
        have := (HBS.out.2 i h).2
        rw [hlx] at this
        cases this
       have HIB := Lib.hid hib
       have hbl : bs.length ≤ 8000 := by
        have h2 := nodup_len HOB.out.2.nd (fun i hi => (HBS.out.2 i hi).1)
        have := HLN.out
        omega
       have HI := Lib.hid hi
       have HN := id_new w2
       have HSZ := Lib.hid (id_size _ i.2)
       have HSZ2 := Lib.hid (id_size' _ i.2)
       have HFT := Lib.hid (id_fit _ i.2)
       have HOB2 : Hid (OM w2 mb bs.length E) := HOB.out.1.kept hg2 (by have := HRR.out.1; simp; omega)
       clear hx hlx hy hat hrg2 hlt hg2 hs2 hi HRG HB hib
       go_upto_region 16 with (with_reducible refine wpList_storeG rfl 30 (.tmp 17) (.tmp 63) rfl w2.heap.size 0 (U i.1) rfl rfl (U (List.replicate 32 0)) 30 HN.out HFT.out (U_one _) HSZ.out ?_; intro w3 HB3 HG3)
       have G3 : w2.grownBy w3 none := gb_fresh HG3.out
       have HR3 : Hid (w3.heap[w2.heap.size]? = some (.cells (U i.1).toArray 30 (0, 0))) := by
        have h1 := HB3.out
        rw [splice_id _ i.2] at h1
        exact h1
       have HBW3 : Hid (Below wf.heap.size wf w3) := HB2.out.trans ((below_of_gb G3).mono HB2.out.size)
       have HRG3 : Hid (RM w3 mk rr ln D (fun z => left z && !z.sameKey (ik i)) cnt2) := HRG2.out.kept G3 (by simp) (by simp)
       have HOB3 : Hid (OM w3 mb bs.length E) := HOB2.out.kept G3 (by simp)
       obtain ⟨w4, hrun0, hown4, ht4⟩ := HOB3.out.store key_law (t := 84) Tryz.underlying84 (by unfold maxLen; omega) (ik_key i) (plainElem_int und3 (a := ((1 : Nat) : Int)) (by decide))
       have hrun : (Instr.mapUpdate 84 (.map (some mb)) (.agg (U i.1).toArray) (.int .i64 1)).run Tryz.prog w3 = .ok () w4 := hrun0
       have HRG4 : Hid (RM w4 mk rr ln D (fun z => left z && !z.sameKey (ik i)) cnt2) := HRG3.out.kept ht4.grown (by have := HMBL.out; have := HMK2.out; simp; omega) (by have := HRR.out; simp; omega)
       have HB4 : Hid (Below wf.heap.size wf w4) := below_turned HBW3.out ht4 HMBL.out.1 HBW3.out.size
       have HO4 : Hid (OM w4 mb (bs ++ [i]).length (E.put (ik i) (.lit (.int .i64 ((1 : Nat) : Int)))) ∧ FunM (fun _ => 1) (bs ++ [i]) (E.put (ik i) (.lit (.int .i64 ((1 : Nat) : Int))))) := ⟨by rw [List.length_append]; exact hown4, HOB.out.2.put (tidyM HOB3.out) i HIB.out 1 rfl⟩
       have HBS4 : Hid ((∀ j ∈ ks, j ∈ bs ++ [i] ∨ (left (ik j) && !(ik j).sameKey (ik i)) = true) ∧ ∀ j ∈ bs ++ [i], j ∈ ks ∧ (left (ik j) && !(ik j).sameKey (ik i)) = false) := by
        refine ⟨fun j hj => ?_, fun j hj => ?_⟩
        · rw [left_at]
          by_cases e : j = i
          · exact .inl (by simp [e])
          · rcases HBS.out.1 j hj with h | h
            · exact .inl (by simp [h])
            · exact .inr (by simp [h, e])
        · rw [left_at]
          rcases List.mem_append.1 hj with h | h
          · have := HBS.out.2 j h
            exact ⟨this.1, by simp [this.2]⟩
          · rw [List.mem_singleton] at h
            subst h
            exact ⟨HI.out, by simp⟩
       clear HB3 HG3 HN HB2 HRG2 G3 HFT HSZ HRG3 HOB2 HOB3 HOB HBS hown4 ht4 hrun0 HIB
       go_wp2_with (with_reducible refine wpList_load_row rfl 30 (.tmp 17) rfl w2.heap.size rfl 30 (U i.1).toArray (0, 0) _ HR3.out hu30 rfl HSZ2.out ?_)
       go_roundw
       case rel => exact ⟨_, cnt2, bs ++ [i], _, HRG4, left_in HLF.out, HO4, HBS4, HB4⟩
       case measure => rw [HRG4.out.left_eq, hm]; exact HLT.out
  · intro x cv kl y1 y2 w2 cnt2 hx hlx hy hat hrg2 hlt hg2 hs2 hen
    obtain ⟨i, hi, rfl, rfl⟩ := keys_out HK0.out.1 hx (HLF.out kl hlx)
    have HB2 : Hid (Below wf.heap.size wf w2) := HB.out.trans (below_of_gb_some hg2 (Nat.le_refl _) HB.out.size)
    have HRG2 := Lib.hid hrg2
    have hm := HRG.out.left_eq
    have HLT := Lib.hid hlt
    have HI := Lib.hid hi
    have HN := id_new w2
    have HSZ := Lib.hid (id_size _ i.2)
    have HSZ2 := Lib.hid (id_size' _ i.2)
    have HFT := Lib.hid (id_fit _ i.2)
    clear hx hlx hy hat hrg2 hlt hg2 hs2 hi HRG HB
    go_upto_region 9 with (with_reducible refine wpList_storeG rfl 30 (.tmp 13) (.tmp 46) rfl w2.heap.size 0 (U i.1) rfl rfl (U (List.replicate 32 0)) 30 HN.out HFT.out (U_one _) HSZ.out ?_; intro w3 HB3 HG3)
    have G3 : w2.grownBy w3 none := gb_fresh HG3.out
    have HR3 : Hid (w3.heap[w2.heap.size]? = some (.cells (U i.1).toArray 30 (0, 0))) := by
     have h1 := HB3.out
     rw [splice_id _ i.2] at h1
     exact h1
    have HBW3 : Hid (Below wf.heap.size wf w3) := HB2.out.trans ((below_of_gb G3).mono HB2.out.size)
    have HRG3 : Hid (RM w3 mk wf.heap.size ln D (fun z => left z && !z.sameKey (ik i)) cnt2) := HRG2.out.kept G3 (by simp) (by simp)
    obtain ⟨xx, hlk⟩ := HKO.out.look (HMO.out.kept (gb_of_below HBW3.out none) (by simp)) i
    rw [decide_eq_true (HKI.out i HI.out)] at hlk
    clear HB3 HG3 HN HB2 HRG2 G3 HFT HSZ
    go_wp2_with (with_reducible refine wpList_load_row rfl 30 (.tmp 13) rfl w2.heap.size rfl 30 (U i.1).toArray (0, 0) _ HR3.out hu30 rfl HSZ2.out ?_)
    go_roundw
    case rel => exact ⟨_, cnt2, HRG3, left_in HLF.out, HBW3⟩
    case measure => rw [HRG3.out.left_eq, hm]; exact HLT.out
end Go.Proofs.YtnjhjbmngoeobaaGreatDoor
