/- Laws towards WalkDeep: CmeD. -/
import Derived.Test.YtnjhjbmngoeobaaGreatDoorMg20
namespace Go.Proofs.YtnjhjbmngoeobaaGreatDoor
open Go.RowKit Go.Maps
set_option maxRecDepth 100000
set_option maxHeartbeats 8000000 in
theorem come_H (w0 : World) (B0 m a : Nat) (S : Sto) (Ds : DataW Value) (f : Id → List Lnk) (rs : List Id) (RA : Option Addr) (rn rk W cb : Nat) (he : Env w0 B0 a m S Ds) (hrs : IdsR w0 rs RA) (hrn : rn = rs.length) (_hrk : rn ≤ rk)
 (hpre : ∀ i, Rch (nxt_ f) rs i → i ∈ idsS S) (hQ : Quiet S f) (hW : ∀ i, (f i).length ≤ W) (hbd : rn + W * (2 * S.length) ≤ 900000) (hsl : S.length ≤ 8192)
 (hof : ∀ w', Below w0.heap.size w0 w' → ∀ i, Rch (nxt_ f) rs i → Calls Tryz.prog 54 #[.agg (U i.1).toArray, .int .i64 (kindS S i : Int), .pointer (some ⟨cb, 0, none⟩)] w' (OfP w' (f i))) :
 Calls Tryz.prog 24 #[.pointer (some ⟨a, 0, none⟩), .slice RA rn rk, .func (.func 54) #[] #[.pointer (some ⟨cb, 0, none⟩)]] w0 (ComeP w0 S f rs) := by
 have HE := Lib.hid he
 have HRS := Lib.hid hrs
 have HRN := Lib.hid hrn
 have HPRE := Lib.hid hpre
 have HQ := Lib.hid hQ
 have HW := Lib.hid hW
 have HBD := Lib.hid hbd
 have HSL := Lib.hid hsl
 have HOF := Lib.hid hof
 have hmm := @run_makeMap Tryz.prog
 clear he hrs hrn hpre hQ hW hbd hsl hof
 go_enter Tryz.func24, Tryz.ntmps24
 go_wp2_with fail
 obtain ⟨w1, hw1⟩ : ∃ w1, w1 = ((((((w0.alloc (.cells #[.pointer (some ⟨a, 0, none⟩)] 25)).alloc (.map #[] 0)).alloc (.cells #[.map (some (w0.heap.size + 1)), .slice none 0 0] 87)).alloc (.cells #[.pointer (some ⟨w0.heap.size + 1 + 1, 0, none⟩)] 79)).alloc (.cells #[.slice none 0 0, fv0] 119)).alloc (.cells #[.pointer (some ⟨w0.heap.size + 1 + 1 + 1 + 1, 0, none⟩)] 117)) := ⟨_, rfl⟩
 obtain ⟨hcv, hb1⟩ := CV.start w0 a S w1 hw1
 rw [← hw1]
 clear hw1
 generalize w0.heap.size + 1 + 1 + 1 + 1 + 1 = nb at *
 generalize w0.heap.size + 1 + 1 + 1 + 1 = nq at *
 generalize w0.heap.size + 1 + 1 + 1 = xb at *
 generalize w0.heap.size + 1 + 1 = xs at *
 generalize w0.heap.size + 1 = mk at *
 have HCV : Hid (CVE w1 w0.heap.size w0.heap.size xb nb xs nq mk a S ⟨[], [], []⟩) := ⟨_, _, _, _, _, _, hcv⟩
 have HB1 := Lib.hid hb1
 have hu30 := Tryz.underlying30
 clear hcv hb1 hmm
 go_loopw [23] (fun v wr => Come1 w0 w0.heap.size xb nb xs nq mk a S rs v wr) (fun v _ => rn - (intOf v).toNat)
 case atStart => exact ⟨0, by omega, rfl, HCV, HB1⟩
 case round =>
  obtain ⟨j, hj, rfl, HC, HB⟩ := hrel
  have hjb : j ≤ 900000 := by have := HBD.out; have := HRN.out; omega
  by_cases hlt : j < rn
  · have hd : decide ((j : Int) < (rn : Int)) = true := decide_eq_true (by omega)
    have hd' : decide (j < rn) = true := decide_eq_true hlt
    have hjl : j < rs.length := by rw [← HRN.out]; exact hlt
    have hne : rs ≠ [] := by intro e; rw [e] at hjl; simp at hjl
    obtain ⟨q, o, hRA, hqlt, hqr⟩ : ∃ q o, RA = some ⟨q, o, none⟩ ∧ q < wr.heap.size ∧ wr.rangeAt q o (IdsU rs) := by
     rcases HRS.out.below HB.out with h | h
     · exact absurd h hne
     · exact h
    subst hRA
    obtain ⟨i, hi⟩ : ∃ i, i = rs.getD j zeroId := ⟨_, rfl⟩
    have hri := IdsR.at_ hqr hjl
    rw [← hi] at hri
    have him : i ∈ rs := by rw [hi, List.getD_eq_getElem?_getD, List.getElem?_eq_getElem hjl]; exact List.getElem_mem _
    have HSZ := Lib.hid (id_size _ i.2)
    have HSZ2 := Lib.hid (id_size' _ i.2)
    have HFT := Lib.hid (id_fit _ i.2)
    have HN := id_new wr
    have HIM := Lib.hid him
    have HII : Hid (rs.take (j + 1) = rs.take j ++ [i]) := by
     unfold Hid
     rw [List.take_add_one, List.getElem?_eq_getElem hjl, hi, List.getD_eq_getElem?_getD, List.getElem?_eq_getElem hjl]
     rfl
    have hb0 : (0 : Int) ≤ (j : Int) := by omega
    have hb2 : (j : Int) < (rn : Int) := by omega
    have HRI := Lib.hid hri
    have HJ := Lib.hid hjl
    clear hi him hqr hri hne
    go_upto_region 7 with (first
     | (with_reducible refine wpList_load_mid rfl 30 (.tmp 25) rfl q (o + j * 32) rfl (U i.1) _ HRI.out hu30 rfl HSZ.out ?_)
     | (with_reducible refine wpList_storeG rfl 30 (.tmp 11) (.tmp 26) rfl wr.heap.size 0 (U i.1) rfl rfl (U (List.replicate 32 0)) 30 HN.out HFT.out (U_one _) HSZ.out ?_; intro w2 HB2 HG2))
    have G2 : wr.grownBy w2 none := gb_fresh HG2.out
    have hbl2 : Blk w2 wr.heap.size 30 (U i.1).toArray := by
     have h1 := HB2.out
     rw [splice_id _ i.2] at h1
     exact h1
    have HR2 : Hid (w2.heap[wr.heap.size]? = some (.cells (U i.1).toArray 30 (0, 0))) := hbl2
    obtain ⟨QA, qn, qc, LA, lc, D, hcv⟩ := HC.out
    have hle := hcv.le
    have HBW : Hid (Below w0.heap.size w0 w2) := HB.out.trans ((below_of_gb G2).mono hle)
    have hcv2 : CVE w2 w0.heap.size w0.heap.size xb nb xs nq mk a S (rootsC S (rs.take j) ⟨[], [], []⟩) := ⟨_, _, _, _, _, _, hcv.below (below_of_gb G2)⟩
    have HADD := Lib.hid (add_any w0 w2 B0 m Ds w0.heap.size xb nb xs nq mk a S _ i HE.out HBW.out hcv2 (HPRE.out i (.root HIM.out)) (by
     have h1 := roots_len S (rs.take j) ⟨[], [], []⟩
     have h2 := HBD.out
     simp at h1
     omega) (by
     have h1 := roots_mu S (rs.take j) ⟨[], [], []⟩
     have h2 := q_le_mu S (rootsC S (rs.take j) ⟨[], [], []⟩)
     have h3 : muC S ⟨[], [], []⟩ ≤ 2 * S.length := by
      unfold muC
      have := missing_le S []
      simp
      omega
     have := HSL.out
     omega))
    clear hcv hcv2 hle G2 HB2 HG2 hbl2 HC HB HN HFT HRI
    go_wp2_with (with_reducible refine wpList_load_row rfl 30 (.tmp 11) rfl wr.heap.size rfl 30 (U i.1).toArray (0, 0) _ HR2.out hu30 rfl HSZ2.out ?_)
    refine HADD.out.mono ?_
    rintro e w3 ⟨rfl, hc3, hb3⟩
    have HC3 : Hid (CVE w3 w0.heap.size w0.heap.size xb nb xs nq mk a S (rootsC S (rs.take (j + 1)) ⟨[], [], []⟩)) := by
     unfold Hid
     rw [HII.out, rootsC_snoc]
     exact hc3
    have HB3 := Lib.hid hb3
    clear hc3 hb3 HADD HR2
    go_wp2_with fail
    go_roundw
    case rel => exact ⟨j + 1, by have := HJ.out; omega, by go_num, HC3, HB3⟩
    case measure => simp [intOf]; omega
  · have hd : decide ((j : Int) < (rn : Int)) = false := decide_eq_false (by omega)
    have hd' : decide (j < rn) = false := decide_eq_false hlt
    have hjr : j = rs.length := by have := HRN.out; omega
    subst hjr
    rw [List.take_length] at HC
    have hinv := roots_inv (S := S) HQ.out rs ⟨[], [], []⟩ (fun _ h => h) (CInv.start S f rs)
    have hfit := roots_fits S W rs
    have hrin : ∀ i ∈ rs, i ∈ (rootsC S rs ⟨[], [], []⟩).ks := fun i hi => roots_in S rs _ i hi
    have hmu : muC S (rootsC S rs ⟨[], [], []⟩) ≤ 2 * S.length := by
     have h1 := roots_mu S rs ⟨[], [], []⟩
     have h3 : muC S ⟨[], [], []⟩ ≤ 2 * S.length := by
      unfold muC
      have := missing_le S []
      simp
      omega
     omega
    have HI2 := Lib.hid (And.intro hinv (And.intro hfit (And.intro hrin hmu)))
    clear HRS hinv hfit hrin hlt hj hjb
    go_wp2_with fail
    go_loopg [] (2 * S.length) (fun k wr => Come2 w0 w0.heap.size xb nb xs nq mk a S f rs W k wr)
    case atStart => exact ⟨_, hmu, HC, HI2, HB⟩
    case round =>
     clear HC HI2 HB hmu
     obtain ⟨c, hck, HC, HI, HB⟩ := hrel
     obtain ⟨QA, qn, qc, LA, lc, D, hcv⟩ := HC.out
     have hcn : wr.cell? ⟨nb, 0, none⟩ = some (.pointer (some ⟨nq, 0, none⟩)) := hcv.nB.cell 0
     have hcq : wr.cell? ⟨nq, 0, none⟩ = some (.slice QA qn qc) := hcv.que.blk.cell 0
     have hcx : wr.cell? ⟨xb, 0, none⟩ = some (.pointer (some ⟨xs, 0, none⟩)) := hcv.xB.cell 0
     have hqn := hcv.que.len
     have HCV2 := Lib.hid hcv
     have HQN := Lib.hid hqn
     clear hcv hqn
     by_cases hq0 : c.q = []
     · have hqz : qn = 0 := by have := HQN.out; rw [hq0] at this; simpa using this
       subst hqz
       have HF : Hid (ComeP w0 S f rs (.returned (.pointer (some ⟨xs, 0, none⟩))) wr) :=
        ⟨xs, mk, LA, lc, c, D, rfl, HCV2.out.seen, HCV2.out.lks, HCV2.out.mp, HCV2.out.km, HI.out.1.fin hq0 HI.out.2.2.1, HB.out, HCV2.out.base.2.2.2.1, HCV2.out.base.2.2.2.2.2, by have h1 := HI.out.2.1.1; have h2 := HBD.out; omega, by have h1 := HI.out.2.1.1; have h2 := HBD.out; have h3 := HI.out.2.1.2.1; have h4 := HRN.out; omega⟩
       clear HCV2 HC HI HB
       go_wp2_with fail
       go_ret
       exact HF.out
     · obtain ⟨x, r, hxr⟩ : ∃ x r, c.q = x :: r := by
        cases hq : c.q with
        | nil => exact absurd hq hq0
        | cons x r => exact ⟨x, r, rfl⟩
       have hql := HQN.out
       have hmu2 := HI.out.2.2.2
       have hqb : qn ≤ 20000 := by
        have h1 := HI.out.2.1.2.2
        have h2 := HSL.out
        omega
       have hqp : (0 : Int) < (qn : Int) := by rw [hxr] at hql; simp at hql; omega
       have hqp' : 0 < qn := by omega
       have hg1 : decide ((0 : Int) < (qn : Int)) = true := decide_eq_true hqp
       have hg2 : decide (0 < qn) = true := decide_eq_true hqp'
       have HPOP := Lib.hid (pop_any nq qn qc QA x r wr (by rw [← hxr]; exact HCV2.out.que) (by omega))
       have HXR := Lib.hid hxr
       have hxk : x ∈ c.ks := HI.out.1.qk x (by rw [hxr]; simp)
       have HXK := Lib.hid hxk
       have HSZ := Lib.hid (id_size _ x.2)
       have HSZ2 := Lib.hid (id_size' _ x.2)
       have HFT := Lib.hid (id_fit _ x.2)
       clear hxr hql hmu2 hxk
       go_upto_region 10 with fail
       go_wp2_with fail
       refine HPOP.out.mono ?_
       rintro e w2 ⟨rfl, hq2⟩
       obtain ⟨QA2, qn2, qc2, hC2, hb2⟩ := CV.queue (w := wr) (w' := w2) HCV2.out hq2
       have HN := id_new w2
       have HC2 := Lib.hid hC2
       have HB2 : Hid (Below w0.heap.size w0 w2) := HB.out.trans hb2
       clear hq2 hC2 hb2 HPOP HCV2 HB hcn hcq hcx HC
       go_upto_region 11 with (with_reducible refine wpList_storeG rfl 30 (.tmp 12) (.tmp 38) rfl w2.heap.size 0 (U x.1) rfl rfl (U (List.replicate 32 0)) 30 HN.out HFT.out (U_one _) HSZ.out ?_; intro w3 HB3 HG3)
       have G3 : w2.grownBy w3 none := gb_fresh HG3.out
       have HR3 : Hid (Blk w3.drew w2.heap.size 30 (U x.1).toArray) := by
        have h1 := HB3.out
        rw [splice_id _ x.2] at h1
        exact h1
       have HBW3 : Hid (Below w0.heap.size w0 w3) := HB2.out.trans ((below_of_gb G3).mono HC2.out.le)
       have hcv3 : CV w3.drew w0.heap.size w0.heap.size xb nb xs nq mk a QA2 qn2 qc2 LA lc S (popC c) D := by
        have h1 := HC2.out.below (below_of_gb G3).drew
        have e : popC c = ⟨c.ks, popL (x :: r), c.ls⟩ := by unfold popC; rw [HXR.out]
        rw [e]
        exact h1
       have hlk := KindM.look0 hcv3.mp hcv3.km x HXK.out
       have hcx3 : w3.drew.cell? ⟨xb, 0, none⟩ = some (.pointer (some ⟨xs, 0, none⟩)) := hcv3.xB.cell 0
       have hcs3 : w3.drew.cell? ⟨xs, 0, none⟩ = some (.map (some mk)) := hcv3.seen.cell 0
       have HC3 := Lib.hid hcv3
       have HCL := Lib.hid (HOF.out w3.drew HBW3.out.drew x (HI.out.1.reach x HXK.out))
       have HS11 : Hid (w3.drew.cell? ⟨xb, 0, none⟩ = some (.pointer (some ⟨xs, 0, none⟩)) ∧ w3.drew.cell? ⟨xs, 0, none⟩ = some (.map (some mk)) ∧ w3.drew.rangeAt w2.heap.size 0 (U x.1) ∧ (Instr.lookup 84 (.map (some mk)) (.agg (U x.1).toArray) false).run Tryz.prog w3.drew = .ok (.int .i64 (kindS S x : Int)) w3.drew) := ⟨hcx3, hcs3, id_rangeB HR3.out, hlk⟩
       clear hcv3 G3 HB3 HG3 HN HC2 HB2 hcx3 hcs3 hlk
       refine wp_region_noPanic ?_
       refine wp_region_held_drew (S := fun w' => w'.cell? ⟨xb, 0, none⟩ = some (.pointer (some ⟨xs, 0, none⟩)) ∧ w'.cell? ⟨xs, 0, none⟩ = some (.map (some mk)) ∧ w'.rangeAt w2.heap.size 0 (U x.1) ∧ (Instr.lookup 84 (.map (some mk)) (.agg (U x.1).toArray) false).run Tryz.prog w' = .ok (.int .i64 (kindS S x : Int)) w') (by kernel_rfl) HS11.out (fun hHeld => ?_)
       refine wpAnyH_take (i := 0) (oi := { dst := some 39, op := Go.Op.move (Go.Operand.tmp 2), type := 81, pos := "walk.go:87", after := #[], guard := none }) (v := .func (.func 54) #[] #[.pointer (some ⟨cb, 0, none⟩)]) rfl (by kernel_rfl) ?_ ?_ ?_ ?_ hHeld ?_
       · kernel_rfl
       · kernel_rfl
       · exact fun _ _ _ h => h
       · exact Or.inl ⟨by rfl, fun w' _ => by go_simp⟩
       (try simp only [Act.put, List.setIfInBounds_toArray, List.set_cons_zero, List.set_cons_succ])
       refine wpAnyH_take (i := 1) (oi := { dst := some 40, op := Go.Op.load 30 (Go.Operand.tmp 12), type := 30, pos := "walk.go:87", after := #[], guard := none }) (v := .agg ((U x.1)).toArray) rfl (by kernel_rfl) ?_ ?_ ?_ ?_ hHeld ?_
       · kernel_rfl
       · kernel_rfl
       · exact fun _ _ _ h => h
       · exact yieldsIf_load_mid (by rfl) 30 (.tmp 12) rfl w2.heap.size 0 rfl (U x.1) _ (fun w' h => h.2.2.1) hu30 rfl HSZ.out
       (try simp only [Act.put, List.setIfInBounds_toArray, List.set_cons_zero, List.set_cons_succ])
       refine wpAnyH_take (i := 2) (oi := { dst := some 41, op := Go.Op.load 79 (Go.Operand.tmp 7), type := 79, pos := "walk.go:87", after := #[], guard := none }) (v := .pointer (some ⟨xs, 0, none⟩)) rfl (by kernel_rfl) ?_ ?_ ?_ ?_ hHeld ?_
       · kernel_rfl
       · kernel_rfl
       · exact fun _ _ _ h => h
       · exact Or.inl ⟨by rfl, fun w' hSw => by (try dsimp only at hSw); go_simp⟩
       (try simp only [Act.put, List.setIfInBounds_toArray, List.set_cons_zero, List.set_cons_succ])
       refine wpAnyH_take (i := 3) (oi := { dst := some 42, op := Go.Op.nilCheck (Go.Operand.tmp 41), type := 0, pos := "walk.go:87", after := #[{ on := 2, ground := Go.Ground.data }], guard := none }) (v := .pointer (some ⟨xs, 0, none⟩)) rfl (by kernel_rfl) ?_ ?_ ?_ ?_ hHeld ?_
       · kernel_rfl
       · kernel_rfl
       · exact fun _ _ _ h => h
       · exact Or.inl ⟨by rfl, fun w' _ => by go_simp⟩
       (try simp only [Act.put, List.setIfInBounds_toArray, List.set_cons_zero, List.set_cons_succ])
       refine wpAnyH_take (i := 4) (oi := { dst := some 43, op := Go.Op.fieldAddr 87 (Go.Operand.tmp 42) 0, type := 0, pos := "walk.go:87", after := #[{ on := 3, ground := Go.Ground.data }], guard := none }) (v := .pointer (some ⟨xs, 0, none⟩)) rfl (by kernel_rfl) ?_ ?_ ?_ ?_ hHeld ?_
       · kernel_rfl
       · kernel_rfl
       · exact fun _ _ _ h => h
       · exact Or.inl ⟨by rfl, fun w' _ => by go_simp⟩
       (try simp only [Act.put, List.setIfInBounds_toArray, List.set_cons_zero, List.set_cons_succ])
       refine wpAnyH_take (i := 5) (oi := { dst := some 44, op := Go.Op.load 84 (Go.Operand.tmp 43), type := 84, pos := "walk.go:87", after := #[{ on := 4, ground := Go.Ground.data }], guard := none }) (v := .map (some mk)) rfl (by kernel_rfl) ?_ ?_ ?_ ?_ hHeld ?_
       · kernel_rfl
       · kernel_rfl
       · exact fun _ _ _ h => h
       · exact Or.inl ⟨by rfl, fun w' hSw => by (try dsimp only at hSw); go_simp⟩
       (try simp only [Act.put, List.setIfInBounds_toArray, List.set_cons_zero, List.set_cons_succ])
       refine wpAnyH_take (i := 6) (oi := { dst := some 45, op := Go.Op.load 30 (Go.Operand.tmp 12), type := 30, pos := "walk.go:87", after := #[], guard := none }) (v := .agg ((U x.1)).toArray) rfl (by kernel_rfl) ?_ ?_ ?_ ?_ hHeld ?_
       · kernel_rfl
       · kernel_rfl
       · exact fun _ _ _ h => h
       · exact yieldsIf_load_mid (by rfl) 30 (.tmp 12) rfl w2.heap.size 0 rfl (U x.1) _ (fun w' h => h.2.2.1) hu30 rfl HSZ.out
       (try simp only [Act.put, List.setIfInBounds_toArray, List.set_cons_zero, List.set_cons_succ])
       refine wpAnyH_take (i := 7) (oi := { dst := some 46, op := Go.Op.lookup 84 (Go.Operand.tmp 44) (Go.Operand.tmp 45) false, type := 3, pos := "walk.go:87", after := #[{ on := 5, ground := Go.Ground.data }, { on := 6, ground := Go.Ground.data }], guard := none }) (v := .int .i64 (kindS S x : Int)) rfl (by kernel_rfl) ?_ ?_ ?_ ?_ hHeld ?_
       · kernel_rfl
       · kernel_rfl
       · exact fun _ _ _ h => h
       · exact Or.inl ⟨by rfl, fun w' hSw => by (try dsimp only at hSw); go_simp⟩
       (try simp only [Act.put, List.setIfInBounds_toArray, List.set_cons_zero, List.set_cons_succ])
       refine wpAnyH_take (i := 10) (oi := { dst := some 49, op := Go.Op.move (Go.Operand.const (Go.Value.int Go.IntKind.i64 0)), type := 3, pos := "walk.go:87", after := #[], guard := none }) (v := .int .i64 0) rfl (by kernel_rfl) ?_ ?_ ?_ ?_ hHeld ?_
       · kernel_rfl
       · kernel_rfl
       · exact fun _ _ _ h => h
       · exact Or.inl ⟨by rfl, fun w' _ => by go_simp⟩
       (try simp only [Act.put, List.setIfInBounds_toArray, List.set_cons_zero, List.set_cons_succ])
       refine wpAnyH_ready (rs := [8]) (by kernel_rfl) (by simp) ?_
       refine AllReadyH.cons (o := { dst := some 47, op := Go.Op.call { callee := Go.Callee.value (Go.Operand.tmp 39), args := #[Go.Operand.tmp 40, Go.Operand.tmp 46], argTypes := #[30, 3] }, type := 85, pos := "walk.go:87", after := #[{ on := 0, ground := Go.Ground.data }, { on := 1, ground := Go.Ground.data }, { on := 7, ground := Go.Ground.data }], guard := none }) rfl (fun K hK => ?_) AllReadyH.nil
       go_simp
       refine HCL.out.mono ?_
       rintro e w5 ⟨v5, rfl, hv5, hb5⟩
       obtain ⟨A5, k5, rfl, hl5⟩ := hv5
       have HS5 : Hid (w5.cell? ⟨xb, 0, none⟩ = some (.pointer (some ⟨xs, 0, none⟩)) ∧ w5.cell? ⟨xs, 0, none⟩ = some (.map (some mk)) ∧ w5.rangeAt w2.heap.size 0 (U x.1) ∧ (Instr.lookup 84 (.map (some mk)) (.agg (U x.1).toArray) false).run Tryz.prog w5 = .ok (.int .i64 (kindS S x : Int)) w5) := by
        have h1 := HC3.out.below hb5
        exact ⟨h1.xB.cell 0, h1.seen.cell 0, id_rangeB (HR3.out.below hb5 HR3.out.lt), KindM.look0 h1.mp h1.km x HXK.out⟩
       refine hK.out _ _ HS5.out (fun hHeld => ?_)
       clear hK K
       (try simp only [Act.put, List.setIfInBounds_toArray, List.set_cons_zero, List.set_cons_succ])
       refine wpAnyH_ready (rs := [9]) (by kernel_rfl) (by simp) ?_
       refine AllReadyH.cons (o := { dst := some 48, op := Go.Op.call { callee := Go.Callee.builtin Go.Builtin.len, args := #[Go.Operand.tmp 47], argTypes := #[85] }, type := 3, pos := "walk.go:87", after := #[{ on := 8, ground := Go.Ground.data }], guard := none }) rfl (fun K hK => ?_) AllReadyH.nil
       go_simp
       refine hK.out _ _ HS5.out (fun hHeld => ?_)
       clear hK K
       (try simp only [Act.put, List.setIfInBounds_toArray, List.set_cons_zero, List.set_cons_succ])
       refine wpAnyH_done (by kernel_rfl) ?_ _
       refine NoPanic.normal ?_
       have hcv5 := HC3.out.below hb5
       have hap5 : Apart w5 (f x) A5 LA := by
        rcases hl5 with h | ⟨q, o, cs, e1, e2, e3, e4⟩
        · exact .inl h
        · refine .inr ⟨q, o, cs, e1, fun p hp e => ?_, e3, e4⟩
          subst hp
          have := (HC3.out.lks.lt p.block rfl).2
          omega
       have HBW5 : Hid (Below w0.heap.size w0 w5) := HBW3.out.drew.trans (hb5.mono HBW3.out.size)
       have H5 : Hid (∃ LA lc, CVL w5 w0.heap.size w0.heap.size xb nb xs nq mk a S (popC c) LA lc ∧ Apart w5 (f x) A5 LA) := ⟨LA, lc, ⟨_, _, _, D, hcv5⟩, hap5⟩
       have HRX : Hid (Rch (nxt_ f) rs x) := HI.out.1.reach x HXK.out
       have hfw : (f x).length ≤ 900000 := by
        have h1 := HW.out x
        have h2 := HBD.out
        have h3 : 1 ≤ muC S c := by unfold muC; rw [HXR.out]; simp; omega
        have h4 := HI.out.2.2.2
        have h5 : W ≤ W * (2 * S.length) := Nat.le_mul_of_pos_right _ (by omega)
        omega
       have hlsb : rn + c.ls.length + W ≤ 900000 ∧ c.ks.length ≤ rn + c.ls.length ∧ (popC c).q.length ≤ 20000 := by
        have h2 := HBD.out
        have h3 : 1 ≤ muC S c := by unfold muC; rw [HXR.out]; simp; omega
        have h4 := HI.out.2.1.1
        have h5 : W ≤ W * muC S c := Nat.le_mul_of_pos_right _ h3
        refine ⟨by omega, by have := HI.out.2.1.2.1; have := HRN.out; omega, ?_⟩
        unfold popC
        rw [HXR.out]
        show (popL (x :: r)).length ≤ _
        rw [popL_length]
        have := HQN.out
        rw [HXR.out, List.length_cons] at this
        omega
       have HLSB := Lib.hid hlsb
       obtain ⟨L, hL⟩ : ∃ L, L = f x := ⟨_, rfl⟩
       rw [← hL] at H5 hfw
       rw [← hL]
       have HL := Lib.hid hL
       have hu157 := Tryz.underlying106
       obtain ⟨ie, hie, his, hib, ze, hiz, hzs⟩ := info_lnk
       clear hcv5 hap5 hl5 hb5 HC3 HCL HS11 HS5 hlsb hHeld HR3 HBW3 hL
       go_wp2_with fail
       go_loopw [49] (fun v wr => Come3 w0 w0.heap.size xb nb xs nq mk a S (popC c) L A5 v wr) (fun v _ => L.length - (intOf v).toNat)
       case atStart => exact ⟨0, by omega, rfl, H5, HBW5⟩
       case round =>
        obtain ⟨j, hj, rfl, HC, HB⟩ := hrel
        clear H5 HBW5
        by_cases hlt : j < L.length
        · have hd : decide ((j : Int) < (L.length : Int)) = true := decide_eq_true (by omega)
          have hd' : decide (j < L.length) = true := decide_eq_true hlt
          obtain ⟨LA, lc, hcv, hap⟩ := HC.out
          obtain ⟨q, o, cs, rfl, hnq, hbq, hrq⟩ : ∃ q o cs, A5 = some ⟨q, o, none⟩ ∧ (∀ p, LA = some p → p.block ≠ q) ∧ Blk wr q 106 cs ∧ wr.rangeAt q o (LnkU L) := by
           rcases hap with h | h
           · rw [h] at hlt; simp at hlt
           · exact h
          obtain ⟨l, hl⟩ : ∃ l, l = L.getD j (zeroId, 0) := ⟨_, rfl⟩
          have hrl : wr.rangeAt q (o + j * 33) (lnkV l) := fun k v hv => by
           have := hrq (j * 33 + k) v (LnkU_at L j k v hlt (by rw [← hl]; exact hv))
           rw [Nat.add_assoc]
           exact this
          have hlm : l ∈ f x := by rw [← HL.out, hl, List.getD_eq_getElem?_getD, List.getElem?_eq_getElem hlt]; exact List.getElem_mem _
          have HLM := Lib.hid hlm
          have HII : Hid (L.take (j + 1) = L.take j ++ [l]) := by
           unfold Hid
           rw [List.take_add_one, List.getElem?_eq_getElem hlt, hl, List.getD_eq_getElem?_getD, List.getElem?_eq_getElem hlt]
           rfl
          have HRL := Lib.hid hrl
          have HCV := Lib.hid hcv
          have HAP : Hid (Apart wr L (some ⟨q, o, none⟩) LA) := .inr ⟨q, o, cs, rfl, hnq, hbq, hrq⟩
          have HSL2 := Lib.hid (lnkV_size l)
          have HFL := Lib.hid (lnk_fit l)
          have HNL := lnk_new wr
          have hb0 : (0 : Int) ≤ (j : Int) := by omega
          have hb2 : (j : Int) < (L.length : Int) := by omega
          have hjb : j ≤ 900000 := by omega
          have HJ := Lib.hid hlt
          clear hcv hap hnq hbq hrq hl hrl hlm HC hlt
          go_upto_region 14 with (first
           | (with_reducible refine wpList_load_mid rfl 106 (.tmp 51) rfl q (o + j * 33) rfl (lnkV l) _ HRL.out hu157 rfl HSL2.out ?_)
           | (with_reducible refine wpList_storeG rfl 106 (.tmp 14) (.tmp 52) rfl wr.heap.size 0 (lnkV l) rfl rfl (lnkV (zeroId, 0)) 106 HNL.out HFL.out (lnkV_one _) HSL2.out ?_; intro w8 HB8 HG8))
          have G8 : wr.grownBy w8 none := gb_fresh HG8.out
          have hbl8 : Blk w8 wr.heap.size 106 (lnkV l).toArray := by
           have h1 := HB8.out
           rw [splice_lnk] at h1
           exact h1
          obtain ⟨QA, qn, qc, D, hcv⟩ := HCV.out
          have hcv8 := hcv.below (below_of_gb G8).drew
          have hlb8 : ∀ p, LA = some p → p.block ≠ wr.heap.size := fun p hp e => by
           subst hp
           have := (hcv.lks.lt p.block rfl).2
           omega
          obtain ⟨lb, hlb⟩ : ∃ lb, lb = wr.heap.size := ⟨_, rfl⟩
          have HBW8 : Hid (Below w0.heap.size w0 w8.drew) := (HB.out.trans ((below_of_gb G8).mono hcv.le)).drew
          have hap8 : Apart w8.drew L (some ⟨q, o, none⟩) LA := HAP.out.keep (LKeep.of_below (below_of_gb G8).drew)
          rw [← hlb] at hbl8 hlb8
          rw [← hlb]
          obtain ⟨c3, hc3⟩ : ∃ c3, c3 = procC S (L.take j) (popC c) := ⟨_, rfl⟩
          rw [← hc3] at hcv8
          obtain ⟨ln, hln⟩ : ∃ ln, ln = c3.ls.length := ⟨_, rfl⟩
          have hlnb : ln ≤ 900000 ∧ c3.ks.length ≤ 1000000 ∧ c3.q.length ≤ 1000000 := by
           have h1 := proc_ls S (L.take j) (popC c)
           have h2 := proc_len S (L.take j) (popC c)
           have h3 := HLSB.out
           have h4 := HW.out x
           rw [← HL.out] at h4
           have h5 : (popC c).ls = c.ls := rfl
           have h6 : (popC c).ks = c.ks := rfl
           rw [← hc3] at h1 h2
           rw [h5] at h1
           rw [h6] at h2
           have h7 : (L.take j).length ≤ L.length := by rw [List.length_take]; omega
           have h8 := HBD.out
           have h9 := q_le_mu S c3
           have h10 := proc_mu S (L.take j) (popC c)
           rw [← hc3] at h10
           have h11 : muC S (popC c) ≤ muC S c := by
            unfold muC popC
            rw [HXR.out]
            show 2 * missing_ S c.ks + (popL (x :: r)).length ≤ _
            rw [popL_length, List.length_cons]
            omega
           have h12 := HI.out.2.2.2
           have h13 := HSL.out
           rw [hln, h1, List.length_append]
           have h14 : rn ≤ 900000 := by omega
           refine ⟨by omega, by omega, by omega⟩
          have hcs8 : w8.drew.cell? ⟨xs, 1, none⟩ = some (.slice LA ln lc) := by rw [hln]; exact hcv8.seen.cell 1
          have FIN0 := fun (A2 : Option Addr) (c2 : Nat) (w9 : World) => note_fin (w9 := w9) (A2 := A2) (c2 := c2) hcv8 HBW8.out (show Blk w8.drew lb _ _ from hbl8) hlb8 hap8 hln
          have hal := (show Blk w8 xs _ _ from hcv8.seen).alloc (.cells (lnkV l).toArray 106)
          have hcs8a : (w8.alloc (.cells (lnkV l).toArray 106)).drew.cell? ⟨xs, 1, none⟩ = some (.slice LA ln lc) := by rw [hln]; exact hal.cell 1
          have hal2 := ((show Blk w8 xb _ _ from hcv8.xB).alloc (.cells (lnkV l).toArray 106)).cell 0
          have hal3 := lnk_range (hbl8.alloc (.cells (lnkV l).toArray 106))
          have hlks : w8.drew.ownsRow w0.heap.size 106 33 (.slice LA ln lc) ln (LnkU c3.ls) := by rw [hln]; exact hcv8.lks
          have HLKS := Lib.hid hlks
          have HLE : Hid (w0.heap.size ≤ w8.drew.heap.size) := HBW8.out.size
          have hs14 : w8.drew.cell? ⟨xb, 0, none⟩ = some (.pointer (some ⟨xs, 0, none⟩)) ∧ w8.drew.rangeAt lb 0 (lnkV l) := ⟨hcv8.xB.cell 0, lnk_range hbl8⟩
          have HADD : Hid (∀ (A2 : Option Addr) (c2 : Nat) (w10 : World), NoteP w0 w0.heap.size xb nb xs nq mk a S c3 l lb L (some ⟨q, o, none⟩) A2 c2 w10 →
           Calls Tryz.prog 45 #[.agg (U l.1.1).toArray, .pointer (some ⟨xb, 0, none⟩), .pointer (some ⟨w0.heap.size, 0, none⟩), .pointer (some ⟨nb, 0, none⟩)] w10 fun e w' => e = .returned (.tuple #[]) ∧ CVL w' w0.heap.size w0.heap.size xb nb xs nq mk a S (addC S l.1 (noteC l c3)) A2 c2 ∧ Below w0.heap.size w0 w' ∧ LKeep w10 w') := by
           intro A2 c2 w10 h
           refine add_anyL w0 w10 B0 m Ds w0.heap.size xb nb xs nq mk a S (noteC l c3) A2 c2 l.1 HE.out h.2.1 h.1 (HPRE.out l.1 (.step HRX.out (List.mem_map.2 ⟨l, HLM.out, rfl⟩))) ?_ ?_
           · exact hlnb.2.1
           · exact hlnb.2.2
          have HC3 : Hid (linkC S l c3 = procC S (L.take (j + 1)) (popC c)) := by
           unfold Hid
           rw [HII.out, procC_snoc, hc3]
          have hlnb1 := hlnb.1
          have HSZi := Lib.hid (id_size _ l.1.2)
          obtain ⟨d0, d1, d2, d3, d4, d5, d6, d7, d8, d9, d10, d11, d12, d13, d14, d15, d16, d17, d18, d19, d20, d21, d22, d23, d24, d25, d26, d27, d28, d29, d30, d31, d32, hdv⟩ := lnk33 l
          have HONE : Hid (∀ u ∈ (lnkV l).toArray.toList, u.oneCell' = true) := by unfold Hid; rw [List.toList_toArray]; exact lnkV_one _
          have hsz157 := lnkV_size l
          unfold Hid at HONE
          rw [hdv] at FIN0 HONE hs14 hal3 hcs8a hal2 hsz157
          replace HONE := Lib.hid HONE
          have HS14 := Lib.hid hs14
          have KAL := Lib.hid (And.intro hal2 hal3)
          have FIN := Lib.hid FIN0
          clear HRL HCV HAP HSL2 HFL HNL HB8 HG8 G8 hcv hcv8 hap8 hlb8 hlb hc3 hln hlnb HBW8 hal hal2 hal3 hlks hs14 FIN0 HB HLM HII hbl8 hdv hj
          refine wp_region_noPanic ?_
          refine wp_region_held_drew (S := fun w' => w'.cell? ⟨xb, 0, none⟩ = some (.pointer (some ⟨xs, 0, none⟩)) ∧ w'.rangeAt lb 0 [d0, d1, d2, d3, d4, d5, d6, d7, d8, d9, d10, d11, d12, d13, d14, d15, d16, d17, d18, d19, d20, d21, d22, d23, d24, d25, d26, d27, d28, d29, d30, d31, d32]) (by kernel_rfl) HS14.out (fun hHeld => ?_)
          refine wpAnyH_take (i := 0) (oi := { dst := some 53, op := Go.Op.load 79 (Go.Operand.tmp 7), type := 79, pos := "walk.go:88", after := #[], guard := none }) (v := .pointer (some ⟨xs, 0, none⟩)) rfl (by kernel_rfl) ?_ ?_ ?_ ?_ hHeld ?_
          · kernel_rfl
          · kernel_rfl
          · exact fun _ _ _ h => h
          · exact Or.inl ⟨by rfl, fun w' hSw => by (try dsimp only at hSw); go_simp⟩
          (try simp only [Act.put, List.setIfInBounds_toArray, List.set_cons_zero, List.set_cons_succ])
          refine wpAnyH_take (i := 1) (oi := { dst := some 54, op := Go.Op.load 79 (Go.Operand.tmp 7), type := 79, pos := "walk.go:88", after := #[], guard := none }) (v := .pointer (some ⟨xs, 0, none⟩)) rfl (by kernel_rfl) ?_ ?_ ?_ ?_ hHeld ?_
          · kernel_rfl
          · kernel_rfl
          · exact fun _ _ _ h => h
          · exact Or.inl ⟨by rfl, fun w' hSw => by (try dsimp only at hSw); go_simp⟩
          (try simp only [Act.put, List.setIfInBounds_toArray, List.set_cons_zero, List.set_cons_succ])
          refine wpAnyH_take (i := 2) (oi := { dst := some 55, op := Go.Op.nilCheck (Go.Operand.tmp 54), type := 0, pos := "walk.go:88", after := #[{ on := 1, ground := Go.Ground.data }], guard := none }) (v := .pointer (some ⟨xs, 0, none⟩)) rfl (by kernel_rfl) ?_ ?_ ?_ ?_ hHeld ?_
          · kernel_rfl
          · kernel_rfl
          · exact fun _ _ _ h => h
          · exact Or.inl ⟨by rfl, fun w' _ => by go_simp⟩
          (try simp only [Act.put, List.setIfInBounds_toArray, List.set_cons_zero, List.set_cons_succ])
          refine wpAnyH_take (i := 3) (oi := { dst := some 56, op := Go.Op.fieldAddr 87 (Go.Operand.tmp 55) 1, type := 0, pos := "walk.go:88", after := #[{ on := 2, ground := Go.Ground.data }], guard := none }) (v := .pointer (some ⟨xs, 1, none⟩)) rfl (by kernel_rfl) ?_ ?_ ?_ ?_ hHeld ?_
          · kernel_rfl
          · kernel_rfl
          · exact fun _ _ _ h => h
          · exact Or.inl ⟨by rfl, fun w' _ => by go_simp⟩
          (try simp only [Act.put, List.setIfInBounds_toArray, List.set_cons_zero, List.set_cons_succ])
          refine wpAnyH_take (i := 5) (oi := { dst := some 58, op := Go.Op.load 106 (Go.Operand.tmp 14), type := 106, pos := "walk.go:88", after := #[], guard := none }) (v := .agg ([d0, d1, d2, d3, d4, d5, d6, d7, d8, d9, d10, d11, d12, d13, d14, d15, d16, d17, d18, d19, d20, d21, d22, d23, d24, d25, d26, d27, d28, d29, d30, d31, d32]).toArray) rfl (by kernel_rfl) ?_ ?_ ?_ ?_ hHeld ?_
          · kernel_rfl
          · kernel_rfl
          · exact fun _ _ _ h => h
          · exact yieldsIf_load_mid (by rfl) 106 (.tmp 14) rfl lb 0 rfl [d0, d1, d2, d3, d4, d5, d6, d7, d8, d9, d10, d11, d12, d13, d14, d15, d16, d17, d18, d19, d20, d21, d22, d23, d24, d25, d26, d27, d28, d29, d30, d31, d32] _ (fun w' h => h.2) hu157 rfl hsz157
          (try simp only [Act.put, List.setIfInBounds_toArray, List.set_cons_zero, List.set_cons_succ])
          refine wpAnyH_ready (rs := [4, 6]) (by kernel_rfl) (by simp) ?_
          refine AllReadyH.cons (o := { dst := some 57, op := Go.Op.load 85 (Go.Operand.tmp 56), type := 85, pos := "walk.go:88", after := #[{ on := 3, ground := Go.Ground.data }], guard := none }) rfl (fun K hK => ?_) (AllReadyH.cons (o := { dst := some 59, op := Go.Op.buildSlice 85 1 #[(0, Go.Operand.tmp 58)], type := 85, pos := "walk.go:88", after := #[{ on := 5, ground := Go.Ground.data }], guard := none }) rfl (fun K hK => ?_) AllReadyH.nil)
          · go_simp
            refine hK.out _ _ HS14.out (fun hHeld => ?_)
            clear hK K
            (try simp only [Act.put, List.setIfInBounds_toArray, List.set_cons_zero, List.set_cons_succ])
            refine wpAnyH_ready (rs := [6]) (by kernel_rfl) (by simp) ?_
            refine AllReadyH.cons (o := { dst := some 59, op := Go.Op.buildSlice 85 1 #[(0, Go.Operand.tmp 58)], type := 85, pos := "walk.go:88", after := #[{ on := 5, ground := Go.Ground.data }], guard := none }) rfl (fun K hK => ?_) AllReadyH.nil
            go_simp
            refine hK.out _ _ KAL.out (fun hHeld => ?_)
            clear hK K
            (try simp only [Act.put, List.setIfInBounds_toArray, List.set_cons_zero, List.set_cons_succ])
            refine wpAnyH_ready (rs := [7]) (by kernel_rfl) (by simp) ?_
            refine AllReadyH.cons (o := { dst := some 60, op := Go.Op.call { callee := Go.Callee.builtin Go.Builtin.append, args := #[Go.Operand.tmp 57, Go.Operand.tmp 59], argTypes := #[85, 85] }, type := 85, pos := "walk.go:88", after := #[{ on := 4, ground := Go.Ground.data }, { on := 6, ground := Go.Ground.data }], guard := none }) rfl (fun K hK => ?_) AllReadyH.nil
            refine step_pushN w8.drew rfl (.tmp 57) (.tmp 59) 85 rfl w0.heap.size 106 ie ze 33 40 Tryz.underlying85 hie hiz his hib hzs (by decide) LA ln lc (LnkU c3.ls) rfl HLKS.out #[d0, d1, d2, d3, d4, d5, d6, d7, d8, d9, d10, d11, d12, d13, d14, d15, d16, d17, d18, d19, d20, d21, d22, d23, d24, d25, d26, d27, d28, d29, d30, d31, d32] 1 _ rfl HONE.out rfl (by omega) (by unfold maxLen; omega) HLE.out ?_
            intro A2 c2 w9 hown2 hg2 hn2
            obtain ⟨k1, k2, k3, k4, hpost⟩ := FIN.out A2 c2 w9 hown2 hg2 hn2
            refine hK.out _ _ k3 (fun hHeld => ?_)
            clear hK K
            (try simp only [Act.put, List.setIfInBounds_toArray, List.set_cons_zero, List.set_cons_succ])
            refine wpAnyH_take (i := 8) (oi := { dst := some 61, op := Go.Op.nilCheck (Go.Operand.tmp 53), type := 0, pos := "walk.go:88", after := #[{ on := 0, ground := Go.Ground.data }, { on := 0, ground := Go.Ground.phase }, { on := 1, ground := Go.Ground.phase }, { on := 2, ground := Go.Ground.phase }, { on := 3, ground := Go.Ground.phase }, { on := 4, ground := Go.Ground.phase }, { on := 5, ground := Go.Ground.phase }, { on := 6, ground := Go.Ground.phase }, { on := 7, ground := Go.Ground.phase }], guard := none }) (v := .pointer (some ⟨xs, 0, none⟩)) rfl (by kernel_rfl) ?_ ?_ ?_ ?_ hHeld ?_
            · kernel_rfl
            · kernel_rfl
            · exact fun _ _ _ h => h
            · exact Or.inl ⟨by rfl, fun w' _ => by go_simp⟩
            (try simp only [Act.put, List.setIfInBounds_toArray, List.set_cons_zero, List.set_cons_succ])
            refine wpAnyH_take (i := 9) (oi := { dst := some 62, op := Go.Op.fieldAddr 87 (Go.Operand.tmp 61) 1, type := 0, pos := "walk.go:88", after := #[{ on := 8, ground := Go.Ground.data }, { on := 0, ground := Go.Ground.phase }, { on := 1, ground := Go.Ground.phase }, { on := 2, ground := Go.Ground.phase }, { on := 3, ground := Go.Ground.phase }, { on := 4, ground := Go.Ground.phase }, { on := 5, ground := Go.Ground.phase }, { on := 6, ground := Go.Ground.phase }, { on := 7, ground := Go.Ground.phase }], guard := none }) (v := .pointer (some ⟨xs, 1, none⟩)) rfl (by kernel_rfl) ?_ ?_ ?_ ?_ hHeld ?_
            · kernel_rfl
            · kernel_rfl
            · exact fun _ _ _ h => h
            · exact Or.inl ⟨by rfl, fun w' _ => by go_simp⟩
            (try simp only [Act.put, List.setIfInBounds_toArray, List.set_cons_zero, List.set_cons_succ])
            refine wpAnyH_ready (rs := [10]) (by kernel_rfl) (by simp) ?_
            refine AllReadyH.cons (o := { dst := none, op := Go.Op.store 85 (Go.Operand.tmp 62) (Go.Operand.tmp 60), type := 0, pos := "walk.go:88", after := #[{ on := 9, ground := Go.Ground.data }, { on := 7, ground := Go.Ground.data }, { on := 7, ground := Go.Ground.chain }, { on := 0, ground := Go.Ground.phase }, { on := 1, ground := Go.Ground.phase }, { on := 2, ground := Go.Ground.phase }, { on := 3, ground := Go.Ground.phase }, { on := 4, ground := Go.Ground.phase }, { on := 5, ground := Go.Ground.phase }, { on := 6, ground := Go.Ground.phase }, { on := 7, ground := Go.Ground.phase }], guard := none }) rfl (fun K hK => ?_) AllReadyH.nil
            go_simp
            refine hK.out _ _ k4 (fun hHeld => ?_)
            clear hK K
            (try simp only [Act.put, List.setIfInBounds_toArray, List.set_cons_zero, List.set_cons_succ])
            refine wpAnyH_done (by kernel_rfl) ?_ _
            refine NoPanic.normal ?_
            generalize w9.setCell ⟨xs, 1, none⟩ (.slice A2 (ln + 1) c2) = w10 at *
            have HP := Lib.hid hpost
            have HRI : Hid (w10.rangeAt lb 0 (U l.1.1)) := hpost.2.2.1
            have HCA := Lib.hid (HADD.out A2 c2 w10 hpost)
            clear hpost k1 k2 k3 k4 hown2 hg2 hn2 hHeld
            go_wp2_with (with_reducible refine wpList_load_mid rfl 30 (.tmp 64) rfl lb 0 rfl (U l.1.1) _ HRI.out hu30 rfl HSZi.out ?_)
            refine HCA.out.mono ?_
            rintro e w11 ⟨rfl, hc11, hb11, hk11⟩
            have H11 : Hid (∃ LA lc, CVL w11 w0.heap.size w0.heap.size xb nb xs nq mk a S (procC S (L.take (j + 1)) (popC c)) LA lc ∧ Apart w11 L (some ⟨q, o, none⟩) LA) := ⟨A2, c2, by rw [← HC3.out]; exact hc11, HP.out.2.2.2.keep hk11⟩
            have HB11 := Lib.hid hb11
            clear hc11 hb11 hk11 HCA HP HADD FIN KAL HS14 HLKS
            go_wp2_with fail
            go_roundw
            case rel => exact ⟨j + 1, by have := HJ.out; omega, by go_num, H11, HB11⟩
            case measure => simp [intOf]; omega
          · go_simp
            refine hK.out _ _ KAL.out (fun hHeld => ?_)
            clear hK K
            (try simp only [Act.put, List.setIfInBounds_toArray, List.set_cons_zero, List.set_cons_succ])
            refine wpAnyH_ready (rs := [4]) (by kernel_rfl) (by simp) ?_
            refine AllReadyH.cons (o := { dst := some 57, op := Go.Op.load 85 (Go.Operand.tmp 56), type := 85, pos := "walk.go:88", after := #[{ on := 3, ground := Go.Ground.data }], guard := none }) rfl (fun K hK => ?_) AllReadyH.nil
            go_simp
            refine hK.out _ _ KAL.out (fun hHeld => ?_)
            clear hK K
            (try simp only [Act.put, List.setIfInBounds_toArray, List.set_cons_zero, List.set_cons_succ])
            refine wpAnyH_ready (rs := [7]) (by kernel_rfl) (by simp) ?_
            refine AllReadyH.cons (o := { dst := some 60, op := Go.Op.call { callee := Go.Callee.builtin Go.Builtin.append, args := #[Go.Operand.tmp 57, Go.Operand.tmp 59], argTypes := #[85, 85] }, type := 85, pos := "walk.go:88", after := #[{ on := 4, ground := Go.Ground.data }, { on := 6, ground := Go.Ground.data }], guard := none }) rfl (fun K hK => ?_) AllReadyH.nil
            refine step_pushN w8.drew rfl (.tmp 57) (.tmp 59) 85 rfl w0.heap.size 106 ie ze 33 40 Tryz.underlying85 hie hiz his hib hzs (by decide) LA ln lc (LnkU c3.ls) rfl HLKS.out #[d0, d1, d2, d3, d4, d5, d6, d7, d8, d9, d10, d11, d12, d13, d14, d15, d16, d17, d18, d19, d20, d21, d22, d23, d24, d25, d26, d27, d28, d29, d30, d31, d32] 1 _ rfl HONE.out rfl (by omega) (by unfold maxLen; omega) HLE.out ?_
            intro A2 c2 w9 hown2 hg2 hn2
            obtain ⟨k1, k2, k3, k4, hpost⟩ := FIN.out A2 c2 w9 hown2 hg2 hn2
            refine hK.out _ _ k3 (fun hHeld => ?_)
            clear hK K
            (try simp only [Act.put, List.setIfInBounds_toArray, List.set_cons_zero, List.set_cons_succ])
            refine wpAnyH_take (i := 8) (oi := { dst := some 61, op := Go.Op.nilCheck (Go.Operand.tmp 53), type := 0, pos := "walk.go:88", after := #[{ on := 0, ground := Go.Ground.data }, { on := 0, ground := Go.Ground.phase }, { on := 1, ground := Go.Ground.phase }, { on := 2, ground := Go.Ground.phase }, { on := 3, ground := Go.Ground.phase }, { on := 4, ground := Go.Ground.phase }, { on := 5, ground := Go.Ground.phase }, { on := 6, ground := Go.Ground.phase }, { on := 7, ground := Go.Ground.phase }], guard := none }) (v := .pointer (some ⟨xs, 0, none⟩)) rfl (by kernel_rfl) ?_ ?_ ?_ ?_ hHeld ?_
            · kernel_rfl
            · kernel_rfl
            · exact fun _ _ _ h => h
            · exact Or.inl ⟨by rfl, fun w' _ => by go_simp⟩
            (try simp only [Act.put, List.setIfInBounds_toArray, List.set_cons_zero, List.set_cons_succ])
            refine wpAnyH_take (i := 9) (oi := { dst := some 62, op := Go.Op.fieldAddr 87 (Go.Operand.tmp 61) 1, type := 0, pos := "walk.go:88", after := #[{ on := 8, ground := Go.Ground.data }, { on := 0, ground := Go.Ground.phase }, { on := 1, ground := Go.Ground.phase }, { on := 2, ground := Go.Ground.phase }, { on := 3, ground := Go.Ground.phase }, { on := 4, ground := Go.Ground.phase }, { on := 5, ground := Go.Ground.phase }, { on := 6, ground := Go.Ground.phase }, { on := 7, ground := Go.Ground.phase }], guard := none }) (v := .pointer (some ⟨xs, 1, none⟩)) rfl (by kernel_rfl) ?_ ?_ ?_ ?_ hHeld ?_
            · kernel_rfl
            · kernel_rfl
            · exact fun _ _ _ h => h
            · exact Or.inl ⟨by rfl, fun w' _ => by go_simp⟩
            (try simp only [Act.put, List.setIfInBounds_toArray, List.set_cons_zero, List.set_cons_succ])
            refine wpAnyH_ready (rs := [10]) (by kernel_rfl) (by simp) ?_
            refine AllReadyH.cons (o := { dst := none, op := Go.Op.store 85 (Go.Operand.tmp 62) (Go.Operand.tmp 60), type := 0, pos := "walk.go:88", after := #[{ on := 9, ground := Go.Ground.data }, { on := 7, ground := Go.Ground.data }, { on := 7, ground := Go.Ground.chain }, { on := 0, ground := Go.Ground.phase }, { on := 1, ground := Go.Ground.phase }, { on := 2, ground := Go.Ground.phase }, { on := 3, ground := Go.Ground.phase }, { on := 4, ground := Go.Ground.phase }, { on := 5, ground := Go.Ground.phase }, { on := 6, ground := Go.Ground.phase }, { on := 7, ground := Go.Ground.phase }], guard := none }) rfl (fun K hK => ?_) AllReadyH.nil
            go_simp
            refine hK.out _ _ k4 (fun hHeld => ?_)
            clear hK K
            (try simp only [Act.put, List.setIfInBounds_toArray, List.set_cons_zero, List.set_cons_succ])
            refine wpAnyH_done (by kernel_rfl) ?_ _
            refine NoPanic.normal ?_
            generalize w9.setCell ⟨xs, 1, none⟩ (.slice A2 (ln + 1) c2) = w10 at *
            have HP := Lib.hid hpost
            have HRI : Hid (w10.rangeAt lb 0 (U l.1.1)) := hpost.2.2.1
            have HCA := Lib.hid (HADD.out A2 c2 w10 hpost)
            clear hpost k1 k2 k3 k4 hown2 hg2 hn2 hHeld
            go_wp2_with (with_reducible refine wpList_load_mid rfl 30 (.tmp 64) rfl lb 0 rfl (U l.1.1) _ HRI.out hu30 rfl HSZi.out ?_)
            refine HCA.out.mono ?_
            rintro e w11 ⟨rfl, hc11, hb11, hk11⟩
            have H11 : Hid (∃ LA lc, CVL w11 w0.heap.size w0.heap.size xb nb xs nq mk a S (procC S (L.take (j + 1)) (popC c)) LA lc ∧ Apart w11 L (some ⟨q, o, none⟩) LA) := ⟨A2, c2, by rw [← HC3.out]; exact hc11, HP.out.2.2.2.keep hk11⟩
            have HB11 := Lib.hid hb11
            clear hc11 hb11 hk11 HCA HP HADD FIN KAL HS14 HLKS
            go_wp2_with fail
            go_roundw
            case rel => exact ⟨j + 1, by have := HJ.out; omega, by go_num, H11, HB11⟩
            case measure => simp [intOf]; omega
        · have hd : decide ((j : Int) < (L.length : Int)) = false := decide_eq_false (by omega)
          have hd' : decide (j < L.length) = false := decide_eq_false hlt
          have hjr : j = L.length := by omega
          subst hjr
          rw [List.take_length] at HC
          have hgk : 0 < gk := by
           have h3 : 1 ≤ muC S c := by unfold muC; rw [HXR.out]; simp; omega
           omega
          have H2 : Hid (Come2 w0 w0.heap.size xb nb xs nq mk a S f rs W (gk - 1) wr) := by
           have h1 := HI.out.1.round HQ.out x r HXR.out
           have h2 := HI.out.2.1.round HI.out.1 HQ.out x r HXR.out (HW.out x)
           rw [← HL.out] at h1 h2
           obtain ⟨LA, lc, ⟨QA, qn, qc, D, hcv⟩, _⟩ := HC.out
           refine ⟨procC S L (popC c), by omega, ⟨QA, qn, qc, LA, lc, D, hcv⟩, ⟨h1.1, h2, fun i hi => ?_, by have := HI.out.2.2.2; omega⟩, HB.out⟩
           exact proc_ks S L (popC c) i (HI.out.2.2.1 i hi)
          clear HC HB
          go_wp2_with fail
          go_roundg (gk - 1)
          case rel => exact H2.out
          case measure => omega
end Go.Proofs.YtnjhjbmngoeobaaGreatDoor
