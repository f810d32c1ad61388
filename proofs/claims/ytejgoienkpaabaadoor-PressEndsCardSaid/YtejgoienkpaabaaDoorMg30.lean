/- ShrA (merged: one text behind the other). -/
import Derived.Test.YtejgoienkpaabaaDoorMg29
/- press.shorter. -/
namespace Go.Proofs.YtejgoienkpaabaaDoor
open Go.RowKit
set_option maxRecDepth 100000
def ShortPost (w : World) (b : List UInt8) (e : Ending) (w' : World) : Prop :=
  OkRow (usedP b) (slP b) ∧ OkRow (waysP b) (dlP b) ∧ ∃ A n c, e = .returned (.slice A n c) ∧ n = (shortP b).length ∧ w'.ownsRow w.heap.size 5 1 (.slice A n c) n (U (shortP b)) ∧ Below w.heap.size w w'
set_option maxHeartbeats 4000000 in
theorem shorter_any (h o cap : Nat) (b : List UInt8) (w : World) (hr : ∀ j, j < b.length → w.cell? ⟨h, o + j, none⟩ = some (.int .u8 ((b.getD j 0).toNat : Int))) (hh : h < w.heap.size) (hl1 : 1 ≤ b.length) (hl : b.length ≤ 65536) :
    Calls Tryd.prog 38 #[.slice (some ⟨h, o, none⟩) b.length cap] w fun e w' => ShortPost w b e w' := by
  have HFD := Lib.hid (found_any h o cap b w hr hh hl1 hl)
  obtain ⟨nb, hnb⟩ : ∃ n, n = b.length := ⟨_, rfl⟩
  have HNB := Lib.hid hnb
  rw [← hnb] at HFD hl1 hl ⊢
  clear hr hnb
  go_enter Tryd.func38, Tryd.ntmps38
  go_wp2_with fail
  refine HFD.out.mono ?_
  rintro e w1 ⟨A, n, c, rfl, hn, hown, hb1⟩
  have HO1 := Lib.hid hown
  have HB1 := Lib.hid hb1
  have HN := Lib.hid hn
  have hnn : n ≤ 65536 := by
    have h1 := found_len b (by rw [← HNB.out]; exact hl)
    rw [hn, ← HNB.out] at *
    omega
  clear hn hown hb1 HFD
  obtain ⟨T, hT⟩ : ∃ T, T = w.heap.size := ⟨_, rfl⟩
  rw [← hT] at HO1 HB1
  have HT := Lib.hid hT
  clear hT
  generalize hts : foundP b = ts at *
  have HTS := Lib.hid hts
  clear hts
  go_wp2_with fail
  rw [z85, z82, z83]
  obtain ⟨gl, hgl⟩ : ∃ g, g = w1.heap.size := ⟨_, rfl⟩
  obtain ⟨gu, hgu⟩ : ∃ g, g = w1.heap.size + 1 := ⟨_, rfl⟩
  obtain ⟨gw, hgw⟩ : ∃ g, g = w1.heap.size + 1 + 1 := ⟨_, rfl⟩
  have hT1 : T ≤ w1.heap.size := by rw [HT.out]; have := HB1.out.size; exact this
  have HL : Hid (Blk (((w1.alloc (.cells (IA (List.replicate 295 0)) 85)).alloc (.cells (IA (List.replicate 277 0)) 82)).alloc (.cells (IA (List.replicate 18 0)) 83)) gl 85 (IA (List.replicate 295 0))) := by
    unfold Hid; rw [hgl]; exact ((Blk.new w1 85 _).alloc _).alloc _
  have HU : Hid (Blk (((w1.alloc (.cells (IA (List.replicate 295 0)) 85)).alloc (.cells (IA (List.replicate 277 0)) 82)).alloc (.cells (IA (List.replicate 18 0)) 83)) gu 82 (IA (List.replicate 277 0))) := by
    have h1 := Blk.new (w1.alloc (.cells (IA (List.replicate 295 0)) 85)) 82 (IA (List.replicate 277 0))
    have e : (w1.alloc (.cells (IA (List.replicate 295 0)) 85)).heap.size = gu := by rw [hgu]; simp
    rw [e] at h1
    exact h1.alloc _
  have HWY : Hid (Blk (((w1.alloc (.cells (IA (List.replicate 295 0)) 85)).alloc (.cells (IA (List.replicate 277 0)) 82)).alloc (.cells (IA (List.replicate 18 0)) 83)) gw 83 (IA (List.replicate 18 0))) := by
    have h1 := Blk.new ((w1.alloc (.cells (IA (List.replicate 295 0)) 85)).alloc (.cells (IA (List.replicate 277 0)) 82)) 83 (IA (List.replicate 18 0))
    have e : ((w1.alloc (.cells (IA (List.replicate 295 0)) 85)).alloc (.cells (IA (List.replicate 277 0)) 82)).heap.size = gw := by rw [hgw]; simp
    rw [e] at h1
    exact h1
  have HO4 : Hid ((((w1.alloc (.cells (IA (List.replicate 295 0)) 85)).alloc (.cells (IA (List.replicate 277 0)) 82)).alloc (.cells (IA (List.replicate 18 0)) 83)).ownsRow T 118 5 (.slice A n c) n (TK ts)) := ((HO1.out.alloc _).alloc _).alloc _
  have HB4 : Hid (Below T w (((w1.alloc (.cells (IA (List.replicate 295 0)) 85)).alloc (.cells (IA (List.replicate 277 0)) 82)).alloc (.cells (IA (List.replicate 18 0)) 83))) := ((HB1.out.alloc hT1 _).alloc (by simp; omega) _).alloc (by simp; omega) _
  have hT4 : T ≤ (((w1.alloc (.cells (IA (List.replicate 295 0)) 85)).alloc (.cells (IA (List.replicate 277 0)) 82)).alloc (.cells (IA (List.replicate 18 0)) 83)).heap.size := by simp; omega
  have htl : T ≤ gu ∧ T ≤ gw ∧ T ≤ gl := by omega
  rw [← hgw, ← hgu, ← hgl]
  generalize ((w1.alloc (.cells (IA (List.replicate 295 0)) 85)).alloc (.cells (IA (List.replicate 277 0)) 82)).alloc (.cells (IA (List.replicate 18 0)) 83) = w4 at *
  have HT4 := Lib.hid hT4
  have HTK : Hid (∀ t ∈ ts, t.sym < 277 ∧ (t.cp = true → t.dist < 18 ∧ 256 ≤ t.sym ∧ (8 ≤ t.sym - 256 → t.extra < 2 ^ (t.sym - 256 - 5)) ∧ (4 ≤ t.dist → t.far < 2 ^ (t.dist - 2)))) := by
    unfold Hid
    rw [← HTS.out]
    exact found_toks b (by rw [← HNB.out]; exact hl)
  have HFU : Hid (usedL ts (List.replicate 277 0) = usedP b) := by unfold Hid usedP; rw [HTS.out]
  have HFW : Hid (waysL ts (List.replicate 18 0) = waysP b) := by unfold Hid waysP; rw [HTS.out]
  obtain ⟨htl1, htl2, htl3⟩ := htl
  clear hgl hgu hgw hT1 HO1 HB1 hT4
  go_loopw [24] (fun vj wr => ShRel w T gl gu gw A n c ts (usedP b) (waysP b) vj wr) (fun vj _ => n - (intOf vj).toNat)
  case atStart => exact ⟨0, _, _, by omega, rfl, HL, HU, HWY, by simp, by simp, by simp, by simp, HFU, HFW, HO4, HB4, HT4⟩
  case round =>
    clear HL HU HWY HFU HFW HO4 HB4 HT4
    obtain ⟨j, u, d, q1, rfl, HL, HU, HD, q2, q3, q4, q5, HFU, HFW, HO, HB, HTr⟩ := hrel
    by_cases hj : j < n
    · have hjd : decide ((j : Int) < (n : Int)) = true := decide_eq_true (by omega)
      obtain ⟨g, capo, hvo, _, _⟩ := HO.out.form (by omega)
      injection hvo with e1 e2 e3
      subst e1
      clear e3
      have hjl : j < ts.length := by have := HN.out; omega
      obtain ⟨t, ht⟩ : ∃ t, ts[j]? = some t := ⟨_, List.getElem?_eq_getElem hjl⟩
      obtain ⟨c0, c1, c2, c3, c4⟩ := tok_cells HO.out HN.out hj t ht
      obtain ⟨hts1, hts2⟩ := HTK.out t (List.mem_of_getElem? ht)
      have HSTEP := Lib.hid (sh_step hj ht HL.out HU.out HD.out q2 q3 q4 q5 HFU.out HFW.out HO.out HB.out HTr.out ⟨htl1, htl2⟩ hts1 (fun hc => (hts2 hc).1))
      have hun : u.getD t.sym 0 ≤ 65536 := Nat.le_trans (getD_le_sum u t.sym) (by omega)
      have hdn : d.getD t.dist 0 ≤ 65536 := Nat.le_trans (getD_le_sum d t.dist) (by omega)
      have HA : Hid (Blk (wr.alloc (.cells (tokV t) 118)) gu 82 (IA u)) := HU.out.alloc _
      have HA2 : Hid (Blk (wr.alloc (.cells (tokV t) 118)) wr.heap.size 118 (tokV t)) := Blk.new _ _ _
      have HA3 : Hid (Blk (wr.alloc (.cells (tokV t) 118)) gw 83 (IA d)) := HD.out.alloc _
      have HX2 : Hid (Blk ((wr.alloc (.cells (tokV t) 118)).setCell ⟨gu, t.sym, none⟩ (.int .i64 ((u.getD t.sym 0 + 1 : Nat) : Int))) wr.heap.size 118 (tokV t)) := HA2.out.far (p := ⟨gu, t.sym, none⟩) (Blk.ne_ HA2.out HA.out (by decide)) _
      have HX3 : Hid (Blk ((wr.alloc (.cells (tokV t) 118)).setCell ⟨gu, t.sym, none⟩ (.int .i64 ((u.getD t.sym 0 + 1 : Nat) : Int))) gw 83 (IA d)) := HA3.out.far (p := ⟨gu, t.sym, none⟩) (Blk.ne_ HA3.out HA.out (by decide)) _
      have hcu := HA.out.cell t.sym
      rw [IA_at0 u t.sym (by omega)] at hcu
      have hfu := HA.out.frozen t.sym
      have hx4 : ((wr.alloc (.cells (tokV t) 118)).setCell ⟨gu, t.sym, none⟩ (.int .i64 ((u.getD t.sym 0 + 1 : Nat) : Int))).cell? ⟨wr.heap.size, 4, none⟩ = some (.bool t.cp) := HX2.out.cell 4
      have hx2 : ((wr.alloc (.cells (tokV t) 118)).setCell ⟨gu, t.sym, none⟩ (.int .i64 ((u.getD t.sym 0 + 1 : Nat) : Int))).cell? ⟨wr.heap.size, 2, none⟩ = some (.int .i64 (t.dist : Int)) := HX2.out.cell 2
      have hfw := HX3.out.frozen t.dist
      have hcw : t.cp = true → ((wr.alloc (.cells (tokV t) 118)).setCell ⟨gu, t.sym, none⟩ (.int .i64 ((u.getD t.sym 0 + 1 : Nat) : Int))).cell? ⟨gw, t.dist, none⟩ = some (.int .i64 (d.getD t.dist 0 : Int)) := fun hc => by rw [HX3.out.cell, IA_at0 d t.dist (by have := (hts2 hc).1; omega)]
      obtain ⟨s1, s2, s3, s4, s5⟩ := t
      simp only [tokV] at hcu hfu hx4 hx2 hfw hcw HSTEP c0 c1 c2 c3 c4 hts1 hts2 hun hdn
      generalize u.getD s1 0 = un at *
      generalize d.getD s3 0 = dn at *
      obtain ⟨un1, hun1⟩ : ∃ x, x = un + 1 := ⟨_, rfl⟩
      obtain ⟨dn1, hdn1⟩ : ∃ x, x = dn + 1 := ⟨_, rfl⟩
      have eun : (un : Int) + 1 = (un1 : Int) := by omega
      have edn : (dn : Int) + 1 = (dn1 : Int) := by omega
      have eun2 : ((un + 1 : Nat) : Int) = (un1 : Int) := by omega
      have edn2 : ((dn + 1 : Nat) : Int) = (dn1 : Int) := by omega
      rw [eun2, edn2] at HSTEP
      rw [← eun2]  at eun
      rw [eun2] at hfw hcw eun hx4 hx2
      clear ht hun1 hdn1 eun2 edn2 HA HA2 HA3 HX2 HX3
      cases s5 with
      | true =>
        have hcw2 := hcw rfl
        have hs318 := (hts2 rfl).1
        have HST := Lib.hid (HSTEP.out.1 rfl 0)
        clear hcw hts2 HSTEP
        go_wp2_with fail
        go_roundw
        case rel => exact HST.out
        case measure => simp [intOf]; omega
      | false =>
        have HST := Lib.hid (HSTEP.out.2 rfl 0)
        clear hcw hts2 HSTEP
        go_wp2_with fail
        go_roundw
        case rel => exact HST.out
        case measure => simp [intOf]; omega
    · have hjd : decide ((j : Int) < (n : Int)) = false := decide_eq_false (by omega)
      have hjn : j = n := by omega
      have hdrop : ts.drop j = [] := List.drop_eq_nil_of_le (by rw [hjn, HN.out]; exact Nat.le_refl _)
      have hfu := HFU.out
      have hfw := HFW.out
      rw [hdrop] at hfu hfw
      have hue : u = usedP b := hfu
      have hde : d = waysP b := hfw
      subst hue hde
      have HM1 := Lib.hid (measure_any wr gu 277 gl 277 277 (usedP b) [] (List.replicate 277 0) (List.replicate 18 0) (by omega) (by omega) q2 (by simp) (by omega) (by omega) (by omega) (used_at HU.out (by decide) (by decide) (by decide)) (by rw [← e295]; exact HL.out))
      have hqs2 : (waysP b).sum ≤ 100000 := by omega
      have hgle : gl ≠ gw := Blk.ne_ HL.out HD.out (by decide)
      clear hjn hdrop hfu hfw HFU HFW
      obtain ⟨wo, rfl⟩ : ∃ z : World, z = wr := ⟨_, rfl⟩
      have HM1d : Hid (Calls Tryd.prog 76 #[.slice (some ⟨gu, 0, none⟩) 277 277, .slice (some ⟨gl, 0, none⟩) 277 277] wo.drew fun e w' => MeasPost wo.drew gl [] (List.replicate 18 0) (usedP b) (slP b) e w') :=
        measure_any wo.drew gu 277 gl 277 277 (usedP b) [] (List.replicate 277 0) (List.replicate 18 0) (by omega) (by omega) q2 (by simp) (by omega) (by omega) (by omega) (used_at (show Blk wo.drew gu 82 _ from HU.out) (by decide) (by decide) (by decide)) (by rw [← e295]; exact HL.out)
      clear HM1
      go_wp2_with fail
      go_region_held3 (fun _ => True) (trivial) (first | (go_at_call 76; refine HM1d.out.mono ?_; rintro e w5 ⟨rfl, hB5, hG5, hK5⟩))
      have HL5 := Lib.hid hB5
      have HK5 := Lib.hid hK5
      have HG5 : Hid (wo.grownBy w5 (some gl)) := ⟨hG5.os, hG5.tape, hG5.output, hG5.size, hG5.block⟩
      have HD5 : Hid (Blk w5 gw 83 (IA (waysP b))) := HD.out.gb HG5.out (fun e => hgle (Option.some.inj e).symm)
      have HO5 := Lib.hid (own_gl HO.out HL.out HG5.out)
      have HB5 := Lib.hid (below_gl HB.out HTr.out htl3 HG5.out)
      have HT5 : Hid (T ≤ w5.heap.size) := Nat.le_trans HTr.out HG5.out.size
      have hsl : (slP b).length = 277 := by rw [hK5.len]; exact q2
      clear hB5 hG5 hK5 HL HU HD HO HB HTr HM1d
      have HM2d : Hid (Calls Tryd.prog 76 #[.slice (some ⟨gw, 0, none⟩) 18 18, .slice (some ⟨gl, 277, none⟩) 18 18] w5.drew fun e w' => MeasPost w5.drew gl (slP b) [] (waysP b) (dlP b) e w') := by
        have h1 := measure_any w5.drew gw 18 gl 18 18 (waysP b) (slP b) (List.replicate 18 0) [] (by omega) (by omega) q3 (by simp) (by omega) (by omega) hqs2 (used_at (show Blk w5.drew gw 83 _ from HD5.out) (by decide) (by decide) (by decide)) (by
          have := HL5.out
          rw [List.nil_append] at this
          rw [List.append_nil]
          exact this)
        rw [hsl] at h1
        exact h1
      go_wp2_with fail
      go_region_held3 (fun _ => True) (trivial) (first | (go_at_call 76; refine HM2d.out.mono ?_; rintro e w6 ⟨rfl, hB6, hG6, hK6⟩))
      rw [List.append_nil] at hB6
      have HL6 := Lib.hid hB6
      have HK6 := Lib.hid hK6
      have HG6 : Hid (w5.grownBy w6 (some gl)) := ⟨hG6.os, hG6.tape, hG6.output, hG6.size, hG6.block⟩
      have HO6 := Lib.hid (own_gl HO5.out HL5.out HG6.out)
      have HB6 := Lib.hid (below_gl HB5.out HT5.out htl3 HG6.out)
      have HT6 : Hid (T ≤ w6.heap.size) := Nat.le_trans HT5.out HG6.out.size
      have hdl : (dlP b).length = 18 := by rw [hK6.len]; exact q3
      clear hB6 hG6 hK6 HL5 HD5 HO5 HB5 HT5 HM2d HG5 HG6
      go_wp2_with fail
      refine (head_any 1 nb w6 (by omega) hl).mono ?_
      rintro e w7 ⟨rfl, A7, n7, c7, hW7, hB7⟩
      obtain ⟨gr, hgr⟩ : ∃ g, g = w6.heap.size := ⟨_, rfl⟩
      have hn7 := hW7.len
      have hgl6 : gl < gr := by rw [hgr]; exact HL6.out.lt
      have hT6 : T ≤ gr := by rw [hgr]; exact HT6.out
      rw [← hgr] at hW7 hB7 ⊢
      have HW7 : Hid (Wr w7 gr gr ((UInt8.ofNat 1 :: varP nb) ++ tabP (slP b) (dlP b) 0) A7 n7 c7) := by
        unfold Hid
        have e : tabP (slP b) (dlP b) 0 = [] := rfl
        rw [e, List.append_nil]
        exact hW7
      have HB7 := Lib.hid hB7
      have hs7 : gr ≤ w7.heap.size := by have := hB7.size; omega
      have hn7b : n7 ≤ 1000 := by
        rw [hn7]
        have := vr_le nb
        simp [varP_length]
        omega
      have HGR := Lib.hid hgr
      clear hW7 hB7 hn7 hgr
      obtain ⟨hd, hhd⟩ : ∃ l, l = UInt8.ofNat 1 :: varP nb := ⟨_, rfl⟩
      rw [← hhd] at HW7
      have hhl : hd.length ≤ 5 := by
        rw [hhd]
        have := vr_le nb
        simp [varP_length]
        omega
      have HHD := Lib.hid hhd
      clear hhd
      go_wp2_with fail
      go_loopw [10] (fun vi wr => TbRel w7 gr gr (slP b) (dlP b) hd vi wr) (fun vi _ => 296 - (intOf vi).toNat)
      case atStart => exact ⟨0, n7, c7, A7, by omega, rfl, HW7, Below.refl _ _, hs7, hn7b⟩
      case round =>
        clear HW7
        obtain ⟨k, nk, ck, Ak, t1, rfl, HW, HBk, t2, t3⟩ := hrel
        obtain ⟨i, hi⟩ : ∃ i, i = 2 * k := ⟨_, rfl⟩
        rw [← hi]
        have HI := Lib.hid hi
        have hLk := (HL6.out.below HB7.out hgl6).below HBk.out hgl6
        by_cases hk : k < 148
        · have hid : decide ((i : Int) < 295) = true := decide_eq_true (by omega)
          obtain ⟨i1, hi1⟩ : ∃ z, z = i + 1 := ⟨_, rfl⟩
          have ei1 : (i : Int) + 1 = (i1 : Int) := by omega
          have hi1b : i1 ≤ 300 := by omega
          have hib : i < 295 := by omega
          obtain ⟨x, hx⟩ : ∃ x, x = lenOf2 (slP b) (dlP b) i := ⟨_, rfl⟩
          obtain ⟨y, hy⟩ : ∃ x, x = lenOf2 (slP b) (dlP b) i1 := ⟨_, rfl⟩
          have hle : ∀ z, lenOf2 (slP b) (dlP b) z ≤ 15 := by
            intro z
            unfold lenOf2
            split
            · exact HK5.out.le _
            · exact HK6.out.le _
          have hxb : x ≤ 15 := by rw [hx]; exact hle _
          have hyb : y ≤ 15 := by rw [hy]; exact hle _
          have hcx := hLk.cell i
          rw [IA_at0 _ i (by simp; omega), ← lenOf2_get _ _ _ hsl, ← hx] at hcx
          obtain ⟨x16, hx16⟩ : ∃ z, z = x * 16 := ⟨_, rfl⟩
          have ex16 : (x : Int) * 16 = (x16 : Int) := by omega
          obtain ⟨z, hz⟩ : ∃ z, z = 16 * x + y := ⟨_, rfl⟩
          have eor : Go.bits .or .i64 (x16 : Int) (y : Int) = (z : Int) := by
            have := or_i64 x16 y (by omega) (by omega)
            rw [hx16, or16 x y (by omega) (by omega), ← hz, ← hx16] at this
            exact this
          have ex16w : IntKind.i64.wrap ((x : Int) * 2 ^ 4) = (x16 : Int) := by rw [show (x : Int) * 2 ^ 4 = (x16 : Int) by omega]; exact wraps_i64 _ (by omega) (by omega)
          have ex16v : IntKind.i64.wrap (x16 : Int) = (x16 : Int) := wraps_i64 _ (by omega) (by omega)
          have ewz : IntKind.u8.wrap (z : Int) = (z : Int) := wraps_u8 _ (by omega) (by omega)
          have HTZ : Hid (hd ++ tabP (slP b) (dlP b) (k + 1) = (hd ++ tabP (slP b) (dlP b) k) ++ [UInt8.ofNat z]) := by
            unfold Hid
            rw [tabP_succ, hz, hx, hy, hi1, hi, List.append_assoc]
          have hzb : z < 256 := by omega
          have HU8 := Lib.hid (u8w_any gr gr nk ck z Ak _ wr HW.out t2 hzb (by omega))
          have HAT := Lib.hid (fun i hi => at_len gl i wr hi)
          by_cases hk2 : i1 < 295
          · have hi1d : decide ((i1 : Int) < 295) = true := decide_eq_true (by omega)
            have hcy := hLk.cell i1
            rw [IA_at0 _ i1 (by simp; omega), ← lenOf2_get _ _ _ hsl, ← hy] at hcy
            clear hx hy hx16 hz hi hi1 hle hLk
            go_wp2_with fail
            refine (HAT.out i1 hk2).mono ?_
            rintro e w9 ⟨rfl, rfl⟩
            go_wp2_with fail
            refine (HAT.out i hib).mono ?_
            rintro e w9 ⟨rfl, rfl⟩
            go_wp2_with fail
            refine HU8.out.mono ?_
            rintro e w10 ⟨rfl, A10, n10, c10, hW10, hB10⟩
            rw [← HTZ.out] at hW10
            have HW10 := Lib.hid hW10
            have HB10 := Lib.hid (HBk.out.trans hB10)
            have hs10 : gr ≤ w10.heap.size := Nat.le_trans t2 hB10.size
            have hn10 : n10 ≤ 1000 := by
              rw [hW10.len]
              simp [tabP]
              omega
            obtain ⟨i2, hi2⟩ : ∃ z, z = 2 * (k + 1) := ⟨_, rfl⟩
            have ei2 : (i : Int) + 2 = (i2 : Int) := by have := HI.out; omega
            have HI2 := Lib.hid hi2
            clear hW10 hB10 hi2
            go_wp2_with fail
            go_roundw
            case rel => exact ⟨k + 1, n10, c10, A10, by omega, by rw [← HI2.out], HW10, HB10, hs10, hn10⟩
            case measure => have := HI2.out; have := HI.out; simp [intOf]; omega
          · have hi1d : decide ((i1 : Int) < 295) = false := decide_eq_false (by omega)
            have hy0 : y = 0 := by
              rw [hy, lenOf2, if_neg (by omega)]
              exact getD_big _ _ (by omega)
            have HY0 : Hid ((0 : Int) = (y : Int)) := by unfold Hid; omega
            clear hx hy hx16 hz hi hi1 hle hLk hy0
            go_wp2_with fail
            refine (HAT.out i hib).mono ?_
            rintro e w9 ⟨rfl, rfl⟩
            rw [HY0.out]
            go_wp2_with fail
            refine HU8.out.mono ?_
            rintro e w10 ⟨rfl, A10, n10, c10, hW10, hB10⟩
            rw [← HTZ.out] at hW10
            have HW10 := Lib.hid hW10
            have HB10 := Lib.hid (HBk.out.trans hB10)
            have hs10 : gr ≤ w10.heap.size := Nat.le_trans t2 hB10.size
            have hn10 : n10 ≤ 1000 := by
              rw [hW10.len]
              simp [tabP]
              omega
            obtain ⟨i2, hi2⟩ : ∃ z, z = 2 * (k + 1) := ⟨_, rfl⟩
            have ei2 : (i : Int) + 2 = (i2 : Int) := by have := HI.out; omega
            have HI2 := Lib.hid hi2
            clear hW10 hB10 hi2
            go_wp2_with fail
            go_roundw
            case rel => exact ⟨k + 1, n10, c10, A10, by omega, by rw [← HI2.out], HW10, HB10, hs10, hn10⟩
            case measure => have := HI2.out; have := HI.out; simp [intOf]; omega
        · have hid : decide ((i : Int) < 295) = false := decide_eq_false (by omega)
          have hk148 : k = 148 := by omega
          have hi2 : i ≤ 300 := by omega
          subst hk148
          obtain ⟨wo2, rfl⟩ : ∃ z : World, z = wr := ⟨_, rfl⟩
          have HBg : Hid (Below gr w6 wo2) := HB7.out.trans HBk.out
          have HOo : Hid (wo2.ownsRow T 118 5 (.slice A n c) n (TK ts)) := own_below HO6.out (by rw [← HGR.out]; exact HBg.out)
          have HBo : Hid (Below T w wo2) := HB6.out.trans (HBg.out.mono hT6)
          have hgro : gr < wo2.heap.size := HW.out.blk.lt
          have hlt2 : gl < wo2.heap.size := by omega
          have HLo := Lib.hid hLk
          have HK1 : Hid (Calls Tryd.prog 77 #[.slice (some ⟨gl, 0, none⟩) 277 277] wo2.drew fun e w' => ∃ g1, Hid (g1 = wo2.heap.size) ∧ e = .returned (.slice (some ⟨g1, 0, none⟩) 277 277) ∧ (∀ i, i < 277 → w'.cell? ⟨g1, i, none⟩ = some (.int .i64 ((codP (slP b)).getD i 0 : Int))) ∧ g1 < w'.heap.size ∧ Below wo2.heap.size wo2.drew w') :=
            pcodes_n gl 0 277 277 (slP b) wo2.drew hsl hlt2 (fun j hj => by
              rw [Nat.zero_add]
              refine (HLo.out.cell j).trans ?_
              rw [IA_at0 _ j (by simp; omega), List.getD_eq_getElem?_getD, List.getElem?_append_left (by omega), ← List.getD_eq_getElem?_getD]) (by omega) (by omega)
          have HK2 : Hid (∀ w', Below wo2.heap.size wo2 w' → Calls Tryd.prog 77 #[.slice (some ⟨gl, 277, none⟩) 18 18] w' fun e w'' => ∃ g1, Hid (g1 = w'.heap.size) ∧ e = .returned (.slice (some ⟨g1, 0, none⟩) 18 18) ∧ (∀ i, i < 18 → w''.cell? ⟨g1, i, none⟩ = some (.int .i64 ((codP (dlP b)).getD i 0 : Int))) ∧ g1 < w''.heap.size ∧ Below w'.heap.size w' w'') := by
            intro w' hb'
            refine pcodes_n gl 277 18 18 (dlP b) w' hdl (Nat.lt_of_lt_of_le hlt2 hb'.size) (fun j hj => ?_) (by omega) (by omega)
            rw [hb'.cell (p := ⟨gl, 277 + j, none⟩) hlt2]
            refine (HLo.out.cell (277 + j)).trans ?_
            rw [IA_at0 _ (277 + j) (by simp; omega), List.getD_eq_getElem?_getD, List.getElem?_append_right (by omega), hsl, Nat.add_sub_cancel_left, ← List.getD_eq_getElem?_getD]
          clear HB7 HBk hLk HL6 HO6 HB6 hi HI hk
          go_wp2_with fail
          go_region_held3 (fun _ => True) (trivial) (first
            | (go_at_call 77; refine (HK2.out _ ⟨hB8.os, hB8.tape, hB8.output, hB8.size, hB8.block⟩).mono ?_; rintro e w9 ⟨g2, hg2, rfl, hc9, hg29, hB9⟩)
            | (go_at_call 77; refine HK1.out.mono ?_; rintro e w8 ⟨g1, hg1, rfl, hc8, hg18, hB8⟩))
          have HB8 : Hid (Below wo2.heap.size wo2 w9) := (show Below wo2.heap.size wo2 w8 from ⟨hB8.os, hB8.tape, hB8.output, hB8.size, hB8.block⟩).trans (hB9.mono hB8.size)
          have HSL : Hid (SLay w9 w9.heap.size gl g1 g2 (slP b) (dlP b)) := by
            have h89 := hB9
            have hs9 := HB8.out.size
            have hs89 := hB9.size
            have hg1 := hg1.out
            refine ⟨fun i hi => ?_, fun i hi => ?_, fun i hi => ?_, hc9, by omega, by omega, hg29⟩
            · rw [HB8.out.cell (p := ⟨gl, i, none⟩) hlt2]
              refine (HLo.out.cell i).trans ?_
              rw [IA_at0 _ i (by simp; omega), List.getD_eq_getElem?_getD, List.getElem?_append_left (by omega), ← List.getD_eq_getElem?_getD]
            · rw [HB8.out.cell (p := ⟨gl, 277 + i, none⟩) hlt2]
              refine (HLo.out.cell (277 + i)).trans ?_
              rw [IA_at0 _ (277 + i) (by simp; omega), List.getD_eq_getElem?_getD, List.getElem?_append_right (by omega), hsl, Nat.add_sub_cancel_left, ← List.getD_eq_getElem?_getD]
            · rw [hB9.cell (p := ⟨g1, i, none⟩) hg18]
              exact hc8 i hi
          have HW9 : Hid (Wr w9 gr gr (hd ++ tabP (slP b) (dlP b) 148) Ak nk ck) := ⟨HW.out.blk.below HB8.out hgro, own_below HW.out.own HB8.out, Nat.le_refl _⟩
          have HO9 := Lib.hid (own_below HOo.out HB8.out)
          have hTw : T ≤ wo2.heap.size := by omega
          have HB9 := Lib.hid (HBo.out.trans (HB8.out.mono hTw))
          have hgr9 : gr < w9.heap.size := HW9.out.blk.lt
          clear hc8 hc9 hB8 hB9 HK1 HK2 HLo HOo HBo HW HBg hg1 hg2 hg18 hg29 HB8
          go_wp2_with fail
          obtain ⟨T2, hT2⟩ : ∃ x, x = w9.heap.size := ⟨_, rfl⟩
          obtain ⟨pf, hpf⟩ : ∃ x, x = w9.heap.size + 1 := ⟨_, rfl⟩
          have HP0 : Hid (Pst ((w9.alloc (.cells #[.slice none 0 0] 22)).alloc (.cells #[.int .i64 0] 3)) T2 pf T2 (toksBits (slP b) (dlP b) (ts.take 0))) := by
            unfold Hid
            rw [hT2, hpf]
            exact pst_new w9
          have HB0 : Hid (Below T2 w9 ((w9.alloc (.cells #[.slice none 0 0] 22)).alloc (.cells #[.int .i64 0] 3))) := ((Below.refl _ _).alloc (by omega) _).alloc (by simp; omega) _
          have HS0 : Hid (T2 ≤ ((w9.alloc (.cells #[.slice none 0 0] 22)).alloc (.cells #[.int .i64 0] 3)).heap.size) := by unfold Hid; simp; omega
          have hgr2 : gr < T2 := by omega
          have HFI : Hid (∀ t ∈ ts, Fine (slP b) (dlP b) t) := by
            unfold Hid
            rw [← HTS.out]
            exact fine_of b (by rw [← HNB.out]; exact hl) HK5.out HK6.out
          rw [← hpf, ← hT2]
          rw [← hT2] at HSL
          generalize (w9.alloc (.cells #[.slice none 0 0] 22)).alloc (.cells #[.int .i64 0] 3) = wp at *
          have HT2 := Lib.hid hT2
          clear hT2 hpf
          go_loopw [85] (fun vj wr => PtRel w9 T2 pf T2 n (slP b) (dlP b) ts vj wr) (fun vj _ => n - (intOf vj).toNat)
          case atStart => exact ⟨0, by omega, rfl, HP0, HB0, HS0⟩
          case round =>
            clear HP0 HB0 HS0
            obtain ⟨j, q1, rfl, HP, HB, HS⟩ := hrel
            by_cases hj : j < n
            · have hjd : decide ((j : Int) < (n : Int)) = true := decide_eq_true (by omega)
              have HO := Lib.hid (own_below HO9.out (by rw [← HT2.out]; exact HB.out))
              obtain ⟨g, capo, hvo, _, _⟩ := HO.out.form (by omega)
              injection hvo with e1 e2 e3
              subst e1
              clear e3
              have hjl : j < ts.length := by have := HN.out; omega
              obtain ⟨t, ht⟩ : ∃ t, ts[j]? = some t := ⟨_, List.getElem?_eq_getElem hjl⟩
              obtain ⟨c0, c1, c2, c3, c4⟩ := tok_cells HO.out HN.out hj t ht
              have HF := Lib.hid (HFI.out t (List.mem_of_getElem? ht))
              have HLN : Hid ((toksBits (slP b) (dlP b) (ts.take j)).length ≤ 62 * n) := by
                unfold Hid
                have h1 := toksBits_len (sl := slP b) (dl := dlP b) (ts.take j) (fun x hx => HFI.out x (List.mem_of_mem_take hx))
                rw [List.length_take] at h1
                omega
              have HNX : Hid (∀ wx M, TS w9 wx T2 pf T2 wr.heap.size t M → M = toksBits (slP b) (dlP b) (ts.take j) ++ tokBits (slP b) (dlP b) t → PtRel w9 T2 pf T2 n (slP b) (dlP b) ts (.int .i64 ((j + 1 : Nat) : Int)) wx) := by
                intro wx M h1 h2
                exact PtRel.next h1 hj (by rw [toksBits_take ts j t ht]; exact h2)
              have HTS0 := Lib.hid (TS.new HP.out HB.out HS.out t)
              generalize hL : toksBits (slP b) (dlP b) (ts.take j) = L at *
              clear hL HP HB HS HO ht
              have HFA : Hid (∀ wx M, TS w9 wx T2 pf T2 wr.heap.size t M → wx.cell? ⟨wr.heap.size, 0, none⟩ = some (.int .i64 (t.sym : Int)) ∧ wx.cell? ⟨g1, t.sym, none⟩ = some (.int .i64 ((codP (slP b)).getD t.sym 0 : Int)) ∧ wx.cell? ⟨gl, t.sym, none⟩ = some (.int .i64 ((slP b).getD t.sym 0 : Int))) :=
                fun wx M h => ⟨h.cells.1, (h.syms HSL.out HF.out.s).2, (h.syms HSL.out HF.out.s).1⟩
              have HFB : Hid (t.cp = true → ∀ wx M, TS w9 wx T2 pf T2 wr.heap.size t M → wx.cell? ⟨wr.heap.size, 2, none⟩ = some (.int .i64 (t.dist : Int)) ∧ wx.cell? ⟨g2, t.dist, none⟩ = some (.int .i64 ((codP (dlP b)).getD t.dist 0 : Int)) ∧ wx.cell? ⟨gl, 277 + t.dist, none⟩ = some (.int .i64 ((dlP b).getD t.dist 0 : Int))) :=
                fun hc wx M h => ⟨h.cells.2.2.1, (h.dists HSL.out (HF.out.d hc).1).2, (h.dists HSL.out (HF.out.d hc).1).1⟩
              have HFC : Hid (∀ wx M, TS w9 wx T2 pf T2 wr.heap.size t M → wx.cell? ⟨wr.heap.size, 0, none⟩ = some (.int .i64 (t.sym : Int)) ∧ wx.cell? ⟨wr.heap.size, 1, none⟩ = some (.int .i64 (t.extra : Int)) ∧ wx.cell? ⟨wr.heap.size, 2, none⟩ = some (.int .i64 (t.dist : Int)) ∧ wx.cell? ⟨wr.heap.size, 3, none⟩ = some (.int .i64 (t.far : Int)) ∧ wx.cell? ⟨wr.heap.size, 4, none⟩ = some (.bool t.cp)) :=
                fun wx M h => h.cells
              obtain ⟨f1, f2, f3, f4, f5⟩ := HF.out
              have HLIT : Hid (t.cp = false → L ++ bits ((codP (slP b)).getD t.sym 0) ((slP b).getD t.sym 0) = L ++ tokBits (slP b) (dlP b) t) := tb_lit _ _ _ _
              have HCPY : Hid (∀ X Y : List Nat, t.cp = true → (X = if 8 ≤ t.sym - 256 then bits t.extra (t.sym - 256 - 5) else []) → (Y = if 4 ≤ t.dist then bits t.far (t.dist - 2) else []) → L ++ bits ((codP (slP b)).getD t.sym 0) ((slP b).getD t.sym 0) ++ X ++ bits ((codP (dlP b)).getD t.dist 0) ((dlP b).getD t.dist 0) ++ Y = L ++ tokBits (slP b) (dlP b) t) := fun X Y => tb_cp _ _ _ X Y t
              obtain ⟨s1, s2, s3, s4, s5⟩ := t
              simp only at c0 c1 c2 c3 c4 f1 f2 f3 f4 f5 HFA HFB HFC HLIT HCPY
              have e5 : tokV ⟨s1, s2, s3, s4, s5⟩ = #[.int .i64 s1, .int .i64 s2, .int .i64 s3, .int .i64 s4, .bool s5] := rfl
              rw [e5] at HTS0
              generalize (slP b).getD s1 0 = m1 at *
              generalize (codP (slP b)).getD s1 0 = v1 at *
              generalize (dlP b).getD s3 0 = m2 at *
              generalize (codP (dlP b)).getD s3 0 = v2 at *
              generalize tokBits (slP b) (dlP b) ⟨s1, s2, s3, s4, s5⟩ = TB at *
              obtain ⟨bx, hbx⟩ : ∃ x, x = wr.heap.size := ⟨_, rfl⟩
              rw [← hbx] at HTS0 HFA HFB HFC HNX
              clear e5 HF
              go_wp2_with fail
              rw [← hbx]
              generalize wr.alloc (.cells #[.int .i64 (s1 : Int), .int .i64 (s2 : Int), .int .i64 (s3 : Int), .int .i64 (s4 : Int), .bool s5] 118) = wa at *
              clear hbx c0 c1 c2 c3 c4
              have hLl : L.length ≤ 4100000 := by have := HLN.out; omega
              have HC1 : Hid (Calls Tryd.prog 78 #[.int .i64 (v1 : Int), .int .i64 (m1 : Int), .pointer (some ⟨pf, 0, none⟩), .pointer (some ⟨T2, 0, none⟩)] wa.drew fun e w' => e = .returned (.tuple #[]) ∧ TS w9 w' T2 pf T2 bx ⟨s1, s2, s3, s4, s5⟩ (L ++ bits v1 m1)) := HTS0.out.drew.put v1 m1 (by omega) (by omega) (by omega)
              obtain ⟨b0, a2, a1⟩ := HFA.out _ _ HTS0.out
              have z1 : (0 : Int) ≤ (s1 : Int) := by omega
              have z2 : (s1 : Int) < 277 := by omega
              go_region_held3 (fun w' => w'.cell? ⟨bx, 0, none⟩ = some (.int .i64 (s1 : Int)) ∧ w'.cell? ⟨g1, s1, none⟩ = some (.int .i64 (v1 : Int)) ∧ w'.cell? ⟨gl, s1, none⟩ = some (.int .i64 (m1 : Int))) (first | exact k2 | exact ⟨b0, a2, a1⟩)
                (first
                  | (go_at_call 78; refine HC1.out.mono ?_; rintro e wb ⟨rfl, hTS1⟩; have k2 := HFA.out _ _ hTS1))
              have HTS1 := Lib.hid hTS1
              clear hTS1 k2 b0 a2 a1 HC1 HTS0 HFA
              obtain ⟨b0, b1, b2, b3, b4⟩ := HFC.out _ _ HTS1.out
              cases s5 with
              | false =>
                have HM := Lib.hid (HLIT.out rfl)
                clear f5 HFB HFC HCPY HLIT b0 b1 b2 b3
                go_wp2_with fail
                go_roundw
                case rel => exact HNX.out _ _ HTS1.out HM.out
                case measure => simp [intOf]; omega
              | true =>
                obtain ⟨d1, d2, d3, d4, d5, d6, d7⟩ := f5 rfl
                have z3 : (0 : Int) ≤ (s3 : Int) := by omega
                have z4 : (s3 : Int) < 18 := by omega
                have HFB2 := Lib.hid (HFB.out rfl)
                obtain ⟨x, hx⟩ : ∃ x, x = s1 - 256 := ⟨_, rfl⟩
                have hxi : (s1 : Int) - 256 = (x : Int) := by omega
                have hx20 : x ≤ 20 := by omega
                rw [← hx] at HCPY d6
                clear f5 HFB HLIT hx
                have HTB := Lib.hid HCPY.out
                by_cases hx8 : 8 ≤ x
                · have hx8d : decide ((8 : Int) ≤ (x : Int)) = true := decide_eq_true (by omega)
                  obtain ⟨y, hy⟩ : ∃ y, y = x - 5 := ⟨_, rfl⟩
                  have hyi : (x : Int) - 5 = (y : Int) := by omega
                  have hy15 : y ≤ 15 := by omega
                  have hs2 : s2 ≤ 1000000000 := by
                    have h1 := d6 hx8
                    have h2 : (2 : Nat) ^ (x - 5) ≤ 2 ^ 15 := Nat.pow_le_pow_right (by decide) (by omega)
                    omega
                  have HX : Hid (bits s2 y = if 8 ≤ x then bits s2 (x - 5) else []) := by unfold Hid; rw [if_pos hx8, hy]
                  clear hy d6 HCPY
                  go_wp2_with fail
                  refine (HTS1.out.put s2 y (by omega) (by omega) (by simp [bits_length]; omega)).mono ?_
                  rintro e wc ⟨rfl, hTS2⟩
                  have HTS2 := Lib.hid hTS2
                  clear hTS2 b0 b1 b2 b3 b4 HTS1
                  have HC3 : Hid (Calls Tryd.prog 78 #[.int .i64 (v2 : Int), .int .i64 (m2 : Int), .pointer (some ⟨pf, 0, none⟩), .pointer (some ⟨T2, 0, none⟩)] wc.drew fun e w' => e = .returned (.tuple #[]) ∧ TS w9 w' T2 pf T2 bx ⟨s1, s2, s3, s4, true⟩ (L ++ bits v1 m1 ++ (bits s2 y) ++ bits v2 m2)) := HTS2.out.drew.put v2 m2 (by omega) (by omega) (by simp [bits_length]; omega)
                  obtain ⟨k0, k1, k2⟩ := HFB2.out _ _ HTS2.out
                  go_wp2_with fail
                  go_region_held3 (fun w' => w'.cell? ⟨bx, 2, none⟩ = some (.int .i64 (s3 : Int)) ∧ w'.cell? ⟨g2, s3, none⟩ = some (.int .i64 (v2 : Int)) ∧ w'.cell? ⟨gl, 277 + s3, none⟩ = some (.int .i64 (m2 : Int))) (first | exact k3 | exact ⟨k0, k1, k2⟩)
                    (first
                      | (go_at_call 78; refine HC3.out.mono ?_; rintro e wd ⟨rfl, hTS3⟩; have k3 := HFB2.out _ _ hTS3))
                  have HTS3 := Lib.hid hTS3
                  clear hTS3 k0 k1 k2 k3 HC3 HTS2 HFB2
                  obtain ⟨p0, p1, p2, p3, p4⟩ := HFC.out _ _ HTS3.out
                  by_cases hd4 : 4 ≤ s3
                  · have hd4d : decide ((4 : Int) ≤ (s3 : Int)) = true := decide_eq_true (by omega)
                    obtain ⟨y4, hy4⟩ : ∃ y, y = s3 - 2 := ⟨_, rfl⟩
                    have hy4i : (s3 : Int) - 2 = (y4 : Int) := by omega
                    have hy4l : y4 ≤ 15 := by omega
                    have hs4 : s4 ≤ 1000000000 := by
                      have h1 := d7 hd4
                      have h2 : (2 : Nat) ^ (s3 - 2) ≤ 2 ^ 15 := Nat.pow_le_pow_right (by decide) (by omega)
                      omega
                    have HM := Lib.hid (HTB.out (bits s2 y) (bits s4 y4) trivial HX.out (by rw [if_pos hd4, hy4]))
                    clear hy4 d7 HTB HX HFC
                    go_wp2_with fail
                    refine (HTS3.out.put s4 y4 (by omega) (by omega) (by simp [bits_length]; omega)).mono ?_
                    rintro e we ⟨rfl, hTS4⟩
                    have HTS4 := Lib.hid hTS4
                    clear hTS4 p0 p1 p2 p3 p4 HTS3
                    go_wp2_with fail
                    go_roundw
                    case rel => exact HNX.out _ _ HTS4.out HM.out
                    case measure => simp [intOf]; omega
                  · have hd4d : decide ((4 : Int) ≤ (s3 : Int)) = false := decide_eq_false (by omega)
                    have HM := Lib.hid (HTB.out (bits s2 y) [] trivial HX.out (by rw [if_neg hd4]))
                    rw [List.append_nil] at HM
                    clear d7 HTB HX HFC
                    go_wp2_with fail
                    go_roundw
                    case rel => exact HNX.out _ _ HTS3.out HM.out
                    case measure => simp [intOf]; omega
                · have hx8d : decide ((8 : Int) ≤ (x : Int)) = false := decide_eq_false (by omega)
                  have HX : Hid ([] = if 8 ≤ x then bits s2 (x - 5) else []) := by unfold Hid; rw [if_neg hx8]
                  have HTS2 : Hid (TS w9 wb T2 pf T2 bx ⟨s1, s2, s3, s4, true⟩ (L ++ bits v1 m1 ++ [])) := by unfold Hid; rw [List.append_nil]; exact HTS1.out
                  obtain ⟨wc, rfl⟩ : ∃ z : World, z = wb := ⟨_, rfl⟩
                  clear d6 HCPY HTS1
                  have HC3 : Hid (Calls Tryd.prog 78 #[.int .i64 (v2 : Int), .int .i64 (m2 : Int), .pointer (some ⟨pf, 0, none⟩), .pointer (some ⟨T2, 0, none⟩)] wc.drew fun e w' => e = .returned (.tuple #[]) ∧ TS w9 w' T2 pf T2 bx ⟨s1, s2, s3, s4, true⟩ (L ++ bits v1 m1 ++ [] ++ bits v2 m2)) := HTS2.out.drew.put v2 m2 (by omega) (by omega) (by simp [bits_length]; omega)
                  obtain ⟨k0, k1, k2⟩ := HFB2.out _ _ HTS2.out
                  go_wp2_with fail
                  go_region_held3 (fun w' => w'.cell? ⟨bx, 2, none⟩ = some (.int .i64 (s3 : Int)) ∧ w'.cell? ⟨g2, s3, none⟩ = some (.int .i64 (v2 : Int)) ∧ w'.cell? ⟨gl, 277 + s3, none⟩ = some (.int .i64 (m2 : Int))) (first | exact k3 | exact ⟨k0, k1, k2⟩)
                    (first
                      | (go_at_call 78; refine HC3.out.mono ?_; rintro e wd ⟨rfl, hTS3⟩; have k3 := HFB2.out _ _ hTS3))
                  have HTS3 := Lib.hid hTS3
                  clear hTS3 k0 k1 k2 k3 HC3 HTS2 HFB2
                  obtain ⟨p0, p1, p2, p3, p4⟩ := HFC.out _ _ HTS3.out
                  by_cases hd4 : 4 ≤ s3
                  · have hd4d : decide ((4 : Int) ≤ (s3 : Int)) = true := decide_eq_true (by omega)
                    obtain ⟨y4, hy4⟩ : ∃ y, y = s3 - 2 := ⟨_, rfl⟩
                    have hy4i : (s3 : Int) - 2 = (y4 : Int) := by omega
                    have hy4l : y4 ≤ 15 := by omega
                    have hs4 : s4 ≤ 1000000000 := by
                      have h1 := d7 hd4
                      have h2 : (2 : Nat) ^ (s3 - 2) ≤ 2 ^ 15 := Nat.pow_le_pow_right (by decide) (by omega)
                      omega
                    have HM := Lib.hid (HTB.out [] (bits s4 y4) trivial HX.out (by rw [if_pos hd4, hy4]))
                    clear hy4 d7 HTB HX HFC
                    go_wp2_with fail
                    refine (HTS3.out.put s4 y4 (by omega) (by omega) (by simp [bits_length]; omega)).mono ?_
                    rintro e we ⟨rfl, hTS4⟩
                    have HTS4 := Lib.hid hTS4
                    clear hTS4 p0 p1 p2 p3 p4 HTS3
                    go_wp2_with fail
                    go_roundw
                    case rel => exact HNX.out _ _ HTS4.out HM.out
                    case measure => simp [intOf]; omega
                  · have hd4d : decide ((4 : Int) ≤ (s3 : Int)) = false := decide_eq_false (by omega)
                    have HM := Lib.hid (HTB.out [] [] trivial HX.out (by rw [if_neg hd4]))
                    rw [List.append_nil] at HM
                    clear d7 HTB HX HFC
                    go_wp2_with fail
                    go_roundw
                    case rel => exact HNX.out _ _ HTS3.out HM.out
                    case measure => simp [intOf]; omega
            · have hjd : decide ((j : Int) < (n : Int)) = false := decide_eq_false (by omega)
              have htk : ts.take j = ts := List.take_of_length_le (by have := HN.out; omega)
              rw [htk] at HP
              have hLN := toksBits_len (sl := slP b) (dl := dlP b) ts HFI.out
              have hLN2 : (toksBits (slP b) (dlP b) ts).length ≤ 62 * 65536 := by have := HN.out; omega
              obtain ⟨Ap, np, cp, fr, hps⟩ := HP.out
              have hW : Hid (Wr wr gr gr (hd ++ tabP (slP b) (dlP b) 148) Ak nk ck) := ⟨HW9.out.blk.below HB.out hgr2, own_below HW9.out.own (by rw [← HT2.out]; exact HB.out), Nat.le_refl _⟩
              have hnp := hps.len
              have hnp2 : (pack (toksBits (slP b) (dlP b) ts)).length = np := by rw [pack_length, hnp]
              have hnpb : np ≤ 508000 := by omega
              have hcp : wr.cell? ⟨T2, 0, none⟩ = some (.slice Ap np cp) := by rw [hps.bO.cell]; rfl
              have HSl : Hid (Sl wr Ap (pack (toksBits (slP b) (dlP b) ts))) := Sl.of_own hps.own
              have hgrw : gr ≤ wr.heap.size := by have := HS.out; omega
              have HRAW := Lib.hid (raw_any gr gr nk ck np cp Ak Ap _ _ wr hW.out hgrw hnp2 HSl.out (by omega))
              have HBw : Hid (Below T w wr) := HB9.out.trans (HB.out.mono (by omega))
              have HNP2 := Lib.hid hnp2
              clear hLN hLN2 hps HP hnp hnp2 htk
              go_wp2_with fail
              refine HRAW.out.mono ?_
              rintro e wx ⟨rfl, A11, n11, c11, hW11, hB11⟩
              have HN11 : Hid (n11 = (shortP b).length) := by
                have h1 := hW11.len
                unfold Hid
                rw [h1]
                unfold shortP
                rw [HHD.out, HNB.out, HTS.out]
                rfl
              have hn11 : n11 ≤ Lim := by
                rw [hW11.len]
                have := HNP2.out
                simp [tabP, Lim] at *
                omega
              have HOUT := Lib.hid (out_any gr gr n11 c11 A11 _ wx hW11 hn11)
              have HBx : Hid (Below T w wx) := HBw.out.trans (hB11.mono hT6)
              have hTx : T ≤ wx.heap.size := by have := hB11.size; omega
              clear hW11 hB11 HRAW
              go_wp2_with fail
              refine HOUT.out.mono ?_
              rintro e wy ⟨rfl, ho, hB12⟩
              have HOF : Hid (ShortPost w b (.returned (.slice (some ⟨wx.heap.size, 0, none⟩) n11 n11)) wy) := by
                refine ⟨HK5.out, HK6.out, _, _, _, rfl, HN11.out, ?_, ?_⟩
                · rw [← HT.out]
                  have h1 := own_base ho hTx
                  unfold shortP
                  rw [HTS.out, ← HNB.out]
                  rw [HHD.out] at h1
                  exact h1
                · rw [← HT.out]
                  exact HBx.out.trans (hB12.mono hTx)
              clear ho hB12 HOUT
              go_wp2_with fail
              go_ret
              exact HOF.out
end Go.Proofs.YtejgoienkpaabaaDoor
