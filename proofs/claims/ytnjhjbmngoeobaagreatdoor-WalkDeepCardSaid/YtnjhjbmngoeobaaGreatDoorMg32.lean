/- Laws towards WalkDeep: OrdA. -/
import Derived.Test.YtnjhjbmngoeobaaGreatDoorMg31
namespace Go.Proofs.YtnjhjbmngoeobaaGreatDoor
open Go.RowKit Go.Maps
set_option maxRecDepth 100000
theorem own_empty (w : World) : (w.alloc (.cells #[] 30)).ownsRow w.heap.size 30 32 (.slice (some ⟨w.heap.size, 0, none⟩) 0 0) 0 [] :=
 ⟨by simp, .inr ⟨w.heap.size, 0, #[], rfl, Nat.le_refl _, heap_alloc_new w _, by omega, by unfold maxLen; omega, by simp, by simp⟩⟩
set_option maxHeartbeats 1000000 in
theorem order_any (w : World) (B0 m a : Nat) (S : Sto) (Ds : DataW Value) (x p0 : Id) (r : List Id) (RA : Option Addr) (rk : Nat) (he : Env w B0 a m S Ds) (g : Good S) (hrs : IdsR w [x] RA) (hx : x ∈ idsS S ∧ (kindS S x = 3 ∨ kindS S x = 4)) (hps : endsP S [x] = some [p0]) (hC : Chn S (p0 :: r)) :
 Calls Tryz.prog 11 #[.pointer (some ⟨a, 0, none⟩), .slice RA 1 rk, .slice none 0 0] w (ReachP w (p0 :: r)) := by
 obtain ⟨w1, hw1⟩ : ∃ w1, w1 = w.alloc (.cells #[.pointer (some ⟨a, 0, none⟩)] 25) := ⟨_, rfl⟩
 have hb1 : Below w.heap.size w w1 := by rw [hw1]; exact box_below _ _ _
 have hs1 : Blk w1 w.heap.size 25 #[.pointer (some ⟨a, 0, none⟩)] := by rw [hw1]; exact Blk.new _ _ _
 obtain ⟨q0, o0, rfl, hq0, hr0⟩ : ∃ q0 o0, RA = some ⟨q0, o0, none⟩ ∧ q0 < w.heap.size ∧ w.rangeAt q0 o0 (IdsU [x]) := by
  rcases hrs with h | h
  · cases h
  · exact h
 have HW1 := Lib.hid hw1
 have HB1 := Lib.hid hb1
 have HS1 := Lib.hid hs1
 have HE := Lib.hid he
 have HG := Lib.hid g
 have HX := Lib.hid hx
 have HPS := Lib.hid hps
 obtain ⟨ie, hie, his, hib, ze, hiz, hzs⟩ := info_id
 have HIE := Lib.hid (And.intro hie (And.intro his (And.intro hib (And.intro hiz hzs))))
 have HCH := Lib.hid hC
 have h0 : p0 ∈ idsS S ∧ kindS S p0 = 3 := hC.com p0 (by simp)
 have HP := Lib.hid h0
 have HCS : Hid (∀ i, i ∈ setP (lnkH S) [p0] ↔ i ∈ p0 :: r) := hC.setH
 obtain ⟨ch, hch⟩ : ∃ ch, ch = p0 :: r := ⟨_, rfl⟩
 unfold Hid at HCH HCS
 rw [← hch] at HCH HCS
 rw [← hch]
 replace HCH := Lib.hid HCH
 replace HCS := Lib.hid HCS
 have HC0 : Hid (0 < ch.length ∧ ch.getD 0 zeroId = p0 ∧ p0 ∈ ch) := by rw [hch]; exact ⟨by simp, rfl, by simp⟩
 have HNEW : Hid (∀ j u, (IdsU [x])[j]? = some u → (w1.alloc (.cells #[] 30)).cell? ((⟨q0, o0, none⟩ : Addr).add j) = some u) := fun j u hj => by
  have h1 := hr0 j u hj
  have h2 : (w1.alloc (.cells #[] 30)).cell? ⟨q0, o0 + j, none⟩ = w.cell? ⟨q0, o0 + j, none⟩ := World.cell?_of_block (a := ⟨q0, o0 + j, none⟩) ((Below.heap_alloc w1 _ q0 (Nat.lt_of_lt_of_le hq0 hb1.size)).trans (hb1.block q0 hq0))
  rw [addr_add]
  exact h2.trans h1
 have HLX : Hid ((IdsU [x]).length = 1 * 32 ∧ ∀ u ∈ IdsU [x], u.oneCell' = true) := ⟨by rw [IdsU_length]; rfl, fun u hu => by
  have e : IdsU [x] = U x.1 := by simp [IdsU]
  rw [e] at hu
  exact U_one _ u hu⟩
 have HOE := Lib.hid (own_empty w1)
 have hu30 := Tryz.underlying30
 have hu95 := Tryz.underlying95
 clear hw1 hb1 hs1 hrs hx hps hC h0 hch hr0 hq0 he g hie his hib hiz hzs
 go_enter Tryz.func11, Tryz.ntmps11
 go_upto_region 1 with fail
 rw [← HW1.out]
 clear HW1
 go_upto_region 2 with (first
  | (at_builtin
     refine wpList_append_lies _ rfl (.tmp 27) (.tmp 28) 28 rfl w1.heap.size 30 ie ze 32 32 Tryz.underlying28 HIE.out.1 HIE.out.2.2.2.1 HIE.out.2.1 HIE.out.2.2.1 HIE.out.2.2.2.2 (by decide) (.slice (some ⟨w1.heap.size, 0, none⟩) 0 0) 0 [] rfl HOE.out ⟨q0, o0, none⟩ 1 rk (IdsU [x]) rfl HLX.out.1 HNEW.out HLX.out.2 (by decide) (by unfold maxLen; omega) (by omega) (by simp) (w1.heap.size + 1) (by simp) ?_
     intro g1 cap1 w2 hown2 hg2 hbl2 hlt2
     have hcap : 1 ≤ cap1 := own_cap hown2)
  | fail)
 have HB2 : Hid (Below w1.heap.size w1 w2) := by
  have h1 : Below w1.heap.size w1 (w1.alloc (.cells #[] 30)) := (Below.refl _ _).alloc (Nat.le_refl _) _
  exact h1.trans (below_of_gb_some (k := w1.heap.size) hg2 (Nat.le_refl _) h1.size)
 have HBW2 : Hid (Below w.heap.size w w2) := HB1.out.trans (HB2.out.mono HB1.out.size)
 obtain ⟨_, hg1e, hg1l, hg1r, hg1c⟩ := own_ids (l := [x]) hown2 (by omega)
 obtain rfl : g1 = _ := by
  injection hg1e with h
  injection h
 have HH := Lib.hid (hist_any w2 B0 m a S Ds [x] [p0] (some ⟨g1, 0, none⟩) cap1 (HE.out.to HBW2.out) HG.out (.inr ⟨g1, 0, rfl, hg1l, hg1r⟩) (by simpa using hg1c) (fun i hi => by
  rw [List.mem_singleton] at hi
  subst hi
  exact HX.out) (by simp) HPS.out (fun p hp => by
  rw [List.mem_singleton] at hp
  subst hp
  exact HP.out.2))
 unfold Hid at HH
 rw [show [x].length = 1 from rfl] at HH
 replace HH := Lib.hid HH
 have HS2 := Lib.hid (HS1.out.below HB2.out HS1.out.lt)
 have hcs2 : w2.cell? ⟨w.heap.size, 0, none⟩ = some (.pointer (some ⟨a, 0, none⟩)) := HS2.out.cell 0
 clear hown2 hg2 hbl2 hlt2 hg1e hg1l hg1r hg1c HB1 HS1 HNEW HLX HOE HB2 HX HPS
 go_wp2_with fail
 refine HH.out.mono ?_
 rintro e wd ⟨xs, A, k, rfl, hown, hbd⟩
 obtain ⟨q, rfl, hq, hrq, hk1⟩ := own_ids hown (by simp)
 have hk1' : 1 ≤ k := hk1
 have HBD : Hid (Below w.heap.size w wd) := HBW2.out.trans (hbd.mono HBW2.out.size)
 have HSD := Lib.hid (HS2.out.below hbd HS2.out.lt)
 have HL0 := Lib.hid (line_any wd.drew B0 m a S Ds [p0] (some ⟨q, 0, none⟩) k (HE.out.to HBD.out.drew) HG.out (.inr ⟨q, 0, rfl, hq, hrq⟩) (by simpa using hk1) (fun i hi => by
  rw [List.mem_singleton] at hi
  subst hi
  exact HP.out) (by simp))
 unfold Hid at HL0
 rw [show [p0].length = 1 from rfl] at HL0
 replace HL0 := Lib.hid HL0
 have hka : ¬k < 1 := by omega
 have hkb : ¬k = 0 := by omega
 have hkc : ¬(k : Int) < 1 := by omega
 have hcsd : wd.drew.cell? ⟨w.heap.size, 0, none⟩ = some (.pointer (some ⟨a, 0, none⟩)) := HSD.out.cell 0
 clear hown hbd hq hrq hk1 HH hcs2 HS2 HBW2
 rw [show [p0].length = 1 from rfl]
 go_upto_region 5 with fail
 refine wp_region_noPanic ?_
 refine wp_region_held_drew (S := fun w' => w'.cell? ⟨w.heap.size, 0, none⟩ = some (.pointer (some ⟨a, 0, none⟩))) (by kernel_rfl) hcsd (fun hHeld => ?_)
 refine wpAnyH_take (i := 0) (oi := { dst := some 42, op := Go.Op.load 25 (Go.Operand.tmp 3), type := 25, pos := "walk.go:266", after := #[], guard := none }) (v := .pointer (some ⟨a, 0, none⟩)) rfl (by kernel_rfl) ?_ ?_ ?_ ?_ hHeld ?_
 · kernel_rfl
 · kernel_rfl
 · exact fun _ _ _ h => h
 · exact Or.inl ⟨by rfl, fun w' hSw => by (try dsimp only at hSw); go_simp⟩
 (try simp only [Act.put, List.setIfInBounds_toArray, List.set_cons_zero, List.set_cons_succ])
 refine wpAnyH_take (i := 1) (oi := { dst := some 43, op := Go.Op.move (Go.Operand.tmp 10), type := 28, pos := "walk.go:266", after := #[], guard := none }) (v := .slice (some ⟨q, 0, none⟩) 1 k) rfl (by kernel_rfl) ?_ ?_ ?_ ?_ hHeld ?_
 · kernel_rfl
 · kernel_rfl
 · exact fun _ _ _ h => h
 · exact Or.inl ⟨by rfl, fun w' _ => by go_simp⟩
 (try simp only [Act.put, List.setIfInBounds_toArray, List.set_cons_zero, List.set_cons_succ])
 refine wpAnyH_take (i := 2) (oi := { dst := some 44, op := Go.Op.move (Go.Operand.tmp 1), type := 28, pos := "walk.go:266", after := #[], guard := none }) (v := .slice (some ⟨q0, o0, none⟩) 1 rk) rfl (by kernel_rfl) ?_ ?_ ?_ ?_ hHeld ?_
 · kernel_rfl
 · kernel_rfl
 · exact fun _ _ _ h => h
 · exact Or.inl ⟨by rfl, fun w' _ => by go_simp⟩
 (try simp only [Act.put, List.setIfInBounds_toArray, List.set_cons_zero, List.set_cons_succ])
 refine wpAnyH_take (i := 3) (oi := { dst := some 45, op := Go.Op.call { callee := Go.Callee.builtin Go.Builtin.len, args := #[Go.Operand.tmp 44], argTypes := #[28] }, type := 3, pos := "walk.go:266", after := #[{ on := 2, ground := Go.Ground.data }], guard := none }) (v := .int .i64 1) rfl (by kernel_rfl) ?_ ?_ ?_ ?_ hHeld ?_
 · kernel_rfl
 · kernel_rfl
 · exact fun _ _ _ h => h
 · exact Or.inl ⟨by rfl, fun w' _ => by go_simp⟩
 (try simp only [Act.put, List.setIfInBounds_toArray, List.set_cons_zero, List.set_cons_succ])
 refine wpAnyH_take (i := 4) (oi := { dst := some 46, op := Go.Op.slice 28 (Go.Operand.tmp 43) none (some (Go.Operand.tmp 45)) none, type := 28, pos := "walk.go:266", after := #[{ on := 1, ground := Go.Ground.data }, { on := 3, ground := Go.Ground.data }], guard := none }) (v := .slice (some ⟨q, 0, none⟩) 1 k) rfl (by kernel_rfl) ?_ ?_ ?_ ?_ hHeld ?_
 · kernel_rfl
 · kernel_rfl
 · exact fun _ _ _ h => h
 · exact Or.inl ⟨by rfl, fun w' _ => by go_simp⟩
 (try simp only [Act.put, List.setIfInBounds_toArray, List.set_cons_zero, List.set_cons_succ])
 refine wpAnyH_ready (rs := [5]) (by kernel_rfl) (by simp) ?_
 refine AllReadyH.cons (o := { dst := some 47, op := Go.Op.call { callee := Go.Callee.value (Go.Operand.func 29), args := #[Go.Operand.tmp 42, Go.Operand.tmp 46], argTypes := #[25, 28] }, type := 84, pos := "walk.go:266", after := #[{ on := 0, ground := Go.Ground.data }, { on := 4, ground := Go.Ground.data }], guard := none }) rfl (fun K hK => ?_) AllReadyH.nil
 go_simp
 refine HL0.out.mono ?_
 rintro e we ⟨mk, D, ks, rfl, hm, hkm, hnd, hks, hbe, hmk⟩
 have HSE := Lib.hid (HSD.out.drew.below hbe HSD.out.lt)
 have hcse : we.cell? ⟨w.heap.size, 0, none⟩ = some (.pointer (some ⟨a, 0, none⟩)) := HSE.out.cell 0
 have HBE : Hid (Below w.heap.size w we) := HBD.out.drew.trans (hbe.mono HBD.out.drew.size)
 refine hK.out _ _ hcse (fun hHeld => ?_)
 clear hK K
 (try simp only [Act.put, List.setIfInBounds_toArray, List.set_cons_zero, List.set_cons_succ])
 refine wpAnyH_take (i := 6) (oi := { dst := some 12, op := Go.Op.assign (Go.Operand.tmp 47), type := 84, pos := "walk.go:266", after := #[{ on := 5, ground := Go.Ground.data }, { on := 5, ground := Go.Ground.chain }, { on := 0, ground := Go.Ground.phase }, { on := 1, ground := Go.Ground.phase }, { on := 2, ground := Go.Ground.phase }, { on := 3, ground := Go.Ground.phase }, { on := 4, ground := Go.Ground.phase }, { on := 5, ground := Go.Ground.phase }], guard := none }) (v := .map (some mk)) rfl (by kernel_rfl) ?_ ?_ ?_ ?_ hHeld ?_
 · kernel_rfl
 · kernel_rfl
 · exact fun _ _ _ h => h
 · exact Or.inl ⟨by rfl, fun w' _ => by go_simp⟩
 (try simp only [Act.put, List.setIfInBounds_toArray, List.set_cons_zero, List.set_cons_succ])
 refine wpAnyH_done (by kernel_rfl) ?_ _
 refine NoPanic.normal ?_
 have hlen : ks.length ≤ 8000 := by
  have h2 : ∀ i ∈ ks, i ∈ idsS S := fun i hi => (HCH.out.com i ((HCS.out i).1 ((hks i).1 hi))).1
  have h3 : ks.length ≤ (idsS S).length := nodup_len hnd h2
  have h4 : (idsS S).length = S.length := by simp [idsS]
  have := HG.out.len
  omega
 have HM0 : Hid (OM we mk ks.length D) := hm
 have HK0 := Lib.hid (And.intro (hkm.keys) (And.intro hnd (fun i => (hks i).trans (HCS.out i))))
 have HLN := Lib.hid hlen
 clear hm hkm hnd hks hbe hmk hlen HL0 hcsd HSD
 obtain ⟨R2, hR2⟩ : ∃ R2 : Option Addr, R2 = if k = 1 then some ⟨q, 0, none⟩ else some ⟨q, 32, none⟩ := ⟨_, rfl⟩
 have HR2 := Lib.hid hR2
 clear hR2
 have HL1 := Lib.hid (line_any we.drew B0 m a S Ds [] R2 (k - 1) (HE.out.to HBE.out.drew) HG.out (.inl rfl) (by simp) (fun i hi => by cases hi) (by simp))
 unfold Hid at HL1
 rw [show ([] : List Id).length = 0 from rfl] at HL1
 replace HL1 := Lib.hid HL1
 have hcse2 : we.drew.cell? ⟨w.heap.size, 0, none⟩ = some (.pointer (some ⟨a, 0, none⟩)) := hcse
 go_upto_region 6 with fail
 refine wp_region_noPanic ?_
 refine wp_region_held_drew (S := fun w' => w'.cell? ⟨w.heap.size, 0, none⟩ = some (.pointer (some ⟨a, 0, none⟩))) (by kernel_rfl) hcse2 (fun hHeld => ?_)
 refine wpAnyH_take (i := 0) (oi := { dst := some 48, op := Go.Op.load 25 (Go.Operand.tmp 3), type := 25, pos := "walk.go:267", after := #[], guard := none }) (v := .pointer (some ⟨a, 0, none⟩)) rfl (by kernel_rfl) ?_ ?_ ?_ ?_ hHeld ?_
 · kernel_rfl
 · kernel_rfl
 · exact fun _ _ _ h => h
 · exact Or.inl ⟨by rfl, fun w' hSw => by (try dsimp only at hSw); go_simp⟩
 (try simp only [Act.put, List.setIfInBounds_toArray, List.set_cons_zero, List.set_cons_succ])
 refine wpAnyH_take (i := 1) (oi := { dst := some 49, op := Go.Op.move (Go.Operand.tmp 10), type := 28, pos := "walk.go:267", after := #[], guard := none }) (v := .slice (some ⟨q, 0, none⟩) 1 k) rfl (by kernel_rfl) ?_ ?_ ?_ ?_ hHeld ?_
 · kernel_rfl
 · kernel_rfl
 · exact fun _ _ _ h => h
 · exact Or.inl ⟨by rfl, fun w' _ => by go_simp⟩
 (try simp only [Act.put, List.setIfInBounds_toArray, List.set_cons_zero, List.set_cons_succ])
 refine wpAnyH_take (i := 2) (oi := { dst := some 50, op := Go.Op.move (Go.Operand.tmp 1), type := 28, pos := "walk.go:267", after := #[], guard := none }) (v := .slice (some ⟨q0, o0, none⟩) 1 rk) rfl (by kernel_rfl) ?_ ?_ ?_ ?_ hHeld ?_
 · kernel_rfl
 · kernel_rfl
 · exact fun _ _ _ h => h
 · exact Or.inl ⟨by rfl, fun w' _ => by go_simp⟩
 (try simp only [Act.put, List.setIfInBounds_toArray, List.set_cons_zero, List.set_cons_succ])
 refine wpAnyH_take (i := 3) (oi := { dst := some 51, op := Go.Op.call { callee := Go.Callee.builtin Go.Builtin.len, args := #[Go.Operand.tmp 50], argTypes := #[28] }, type := 3, pos := "walk.go:267", after := #[{ on := 2, ground := Go.Ground.data }], guard := none }) (v := .int .i64 1) rfl (by kernel_rfl) ?_ ?_ ?_ ?_ hHeld ?_
 · kernel_rfl
 · kernel_rfl
 · exact fun _ _ _ h => h
 · exact Or.inl ⟨by rfl, fun w' _ => by go_simp⟩
 (try simp only [Act.put, List.setIfInBounds_toArray, List.set_cons_zero, List.set_cons_succ])
 refine wpAnyH_take (i := 4) (oi := { dst := some 52, op := Go.Op.slice 28 (Go.Operand.tmp 49) (some (Go.Operand.tmp 51)) none none, type := 28, pos := "walk.go:267", after := #[{ on := 1, ground := Go.Ground.data }, { on := 3, ground := Go.Ground.data }], guard := none }) (v := .slice R2 0 (k - 1)) rfl (by kernel_rfl) ?_ ?_ ?_ ?_ hHeld ?_
 · kernel_rfl
 · kernel_rfl
 · exact fun _ _ _ h => h
 · exact Or.inl ⟨by rfl, fun w' _ => by have h := HR2.out; go_simp⟩
 (try simp only [Act.put, List.setIfInBounds_toArray, List.set_cons_zero, List.set_cons_succ])
 refine wpAnyH_ready (rs := [5]) (by kernel_rfl) (by simp) ?_
 refine AllReadyH.cons (o := { dst := some 53, op := Go.Op.call { callee := Go.Callee.value (Go.Operand.func 29), args := #[Go.Operand.tmp 48, Go.Operand.tmp 52], argTypes := #[25, 28] }, type := 84, pos := "walk.go:267", after := #[{ on := 0, ground := Go.Ground.data }, { on := 4, ground := Go.Ground.data }], guard := none }) rfl (fun K hK => ?_) AllReadyH.nil
 go_simp
 refine HL1.out.mono ?_
 rintro e wf ⟨mo, Do, ko, rfl, hmo, hkmo, hndo, hkso, hbf, hmo2⟩
 have HBF : Hid (Below w.heap.size w wf) := HBE.out.drew.trans (hbf.mono HBE.out.drew.size)
 have HSF := Lib.hid (HSE.out.drew.below hbf HSE.out.lt)
 have hcsf : wf.cell? ⟨w.heap.size, 0, none⟩ = some (.pointer (some ⟨a, 0, none⟩)) := HSF.out.cell 0
 have HMF : Hid (OM wf mk ks.length D) := (show we.drew.ownsMap _ _ _ _ _ _ from HM0.out).kept (gb_of_below hbf none) (by simp)
 have hko : ko = [] := List.eq_nil_iff_forall_not_mem.2 (fun i hi => setP_none (within_sub lnkH_child) i ((hkso i).1 hi))
 subst hko
 obtain ⟨wg, hrun, hrg1, hg1, hs1⟩ := hmo.range key_law (t := 84) Tryz.underlying84
 have hcsg : wg.cell? ⟨w.heap.size, 0, none⟩ = some (.pointer (some ⟨a, 0, none⟩)) := (HSF.out.gb hg1 (by simp)).cell 0
 refine hK.out _ _ hcsf (fun hHeld => ?_)
 clear hK K
 (try simp only [Act.put, List.setIfInBounds_toArray, List.set_cons_zero, List.set_cons_succ])
 refine wpAnyH_ready (rs := [6]) (by kernel_rfl) (by simp) ?_
 refine AllReadyH.cons (o := { dst := some 54, op := Go.Op.range 84 (Go.Operand.tmp 53), type := 0, pos := "walk.go:267", after := #[{ on := 5, ground := Go.Ground.data }], guard := none }) rfl (fun K hK => ?_) AllReadyH.nil
 go_simp
 refine hK.out _ _ hcsg (fun hHeld => ?_)
 clear hK K
 (try simp only [Act.put, List.setIfInBounds_toArray, List.set_cons_zero, List.set_cons_succ])
 refine wpAnyH_done (by kernel_rfl) ?_ _
 refine NoPanic.normal ?_
 have HRG := Lib.hid hrg1
 have HB : Hid (Below wf.heap.size wf wg) := below_of_gb hg1
 have HKO := Lib.hid hkmo.keys
 obtain ⟨ln, hln⟩ : ∃ ln, ln = ks.length := ⟨_, rfl⟩
 unfold Hid at HMF
 rw [← hln] at HMF
 replace HMF := Lib.hid HMF
 have HLK := Lib.hid hln
 have HMK2 : Hid (mk < wf.heap.size) := HMF.out.lt
 obtain ⟨r1, hr1⟩ : ∃ r1, r1 = wf.heap.size := ⟨_, rfl⟩
 unfold Hid at HRG
 rw [← hr1] at HRG
 rw [← hr1]
 replace HRG := Lib.hid HRG
 have HR1 := Lib.hid hr1
 clear hmo hkmo hndo hkso hbf hmo2 hrun hrg1 hg1 hs1 hcsf hcsg hcse hcse2 HM0 HL1 HSE HR2 hln hr1
 go_wp2_with fail
 go_loopw [13] (fun _ wr => Rng0 wf mo r1 0 Do wr) (fun _ wr => wr.rangeLeft mo r1)
 case atStart => exact ⟨_, _, HRG, fun _ h => h, HB⟩
 case round =>
  clear HRG HB
  obtain ⟨left, cnt, HRG, HLF, HB⟩ := hrel
  go_wp2_with (first
   | (at_next; refine wpList_next_ranges wr rfl (.tmp 54) rfl 30 key_law (plainElem Tryz.prog 3) (fun v : Value => v) (fun c : Int => .int .i64 c) (fun key _ _ => ⟨key, rfl⟩) int_inv mo r1 0 Do left cnt rfl HRG.out ?_ ?_)
   | fail)
  · intro _ _
    clear HRG HLF HKO HR1
    have HBR := HB
    obtain ⟨wg, hwg⟩ : ∃ wg, wg = wr.alloc (.map #[] 0) := ⟨_, rfl⟩
    have HWG := Lib.hid hwg
    have hgg : wr.grownBy wg none := by rw [hwg]; exact gb_alloc (gb_refl _ _) _
    have HBG : Hid (Below wf.heap.size wf wg) := HB.out.trans ((below_of_gb hgg).mono HB.out.size)
    have HMB : Hid (OM wg wr.heap.size 0 (.map [])) := by rw [hwg]; exact World.ownsMap_made _ _ _ _
    have hmap : OM wg mk ln D := HMF.out.kept (gb_of_below HBG.out none) (by simp)
    obtain ⟨mb, hmb⟩ : ∃ mb, mb = wr.heap.size := ⟨_, rfl⟩
    have HMBL : Hid (wf.heap.size ≤ mb ∧ mb < wg.heap.size) := by
     rw [hmb]
     exact ⟨HB.out.size, by rw [hwg]; simp⟩
    rw [← hmb] at HMB
    clear hwg hgg HBR
    have hmm := @run_makeMap Tryz.prog
    go_upto_region 11 with fail
    rw [← HWG.out, ← hmb]
    clear HWG hmb HB hmm
    go_wp2_with (first
     | (at_range; refine wpList_range_own _ rfl (.tmp 62) 84 rfl 30 3 key_law Tryz.underlying84 _ mk ln D rfl hmap ?_; intro w1 hrg1 hg1 hs1)
     | fail)
    go_frame
    have HRG := Lib.hid hrg1
    have HB : Hid (Below wf.heap.size wf w1) := HBG.out.trans ((below_of_gb hg1).mono HBG.out.size)
    have HMB1 : Hid (OM w1 mb 0 (.map [])) := HMB.out.kept hg1 (by simp)
    obtain ⟨rr, hrr⟩ : ∃ rr, rr = wg.heap.size := ⟨_, rfl⟩
    rw [← hrr] at HRG
    rw [← hrr]
    have HRR : Hid (mb < rr ∧ wf.heap.size ≤ rr) := by
     have h := HMBL.out
     rw [← hrr] at h
     exact ⟨h.2, by omega⟩
    clear hmap hrg1 hg1 hs1 hrr HMB
    go_loopw [15] (fun _ wr => Ord2 wf mk rr ln D S ch mb wr) (fun _ wr => wr.rangeLeft mk rr)
    case atStart =>
     refine ⟨_, _, [], _, HRG, fun _ h => h, ⟨HMB1.out, FunM.start _⟩, fun p => ⟨fun h => (by cases h), ?_⟩, HB⟩
     rintro ⟨c, hc, hl, _⟩
     rw [HK0.out.1.hs, decide_eq_true ((HK0.out.2.2 c).2 hc)] at hl
     cases hl
    case round =>
     clear HRG HB HMB1 HBG
     obtain ⟨left, cnt, ws, E, HRG, HLF, HOB, HWS, HB⟩ := hrel
     go_wp2_with (first
      | (at_next; refine wpList_next_ranges wr rfl (.tmp 63) rfl 30 key_law (plainElem Tryz.prog 3) (fun v : Value => v) (fun c : Int => .int .i64 c) (fun key _ _ => ⟨key, rfl⟩) int_inv mk rr ln D left cnt rfl HRG.out ?_ ?_)
      | fail)
     · intro _ hl0
       have HWA : Hid (∀ p, p ∈ ws ↔ ∃ c ∈ ch, p ∈ prs S c) := fun p => by
        rw [HWS.out]
        exact ⟨fun ⟨c, hc, _, hp⟩ => ⟨c, hc, hp⟩, fun ⟨c, hc, hp⟩ => ⟨c, hc, hl0 _, hp⟩⟩
       have hmap0 : OM wr mk ln D := HRG.out.owns
       have HOW : Hid (OM wr mb ws.length E ∧ FunM (fun _ => 1) ws E) := HOB.out
       clear HRG HLF HWS hl0 HOB
       obtain ⟨wp, hwp⟩ : ∃ wp, wp = wr.alloc (.cells #[.slice none 0 0, fvD] 100) := ⟨_, rfl⟩
       obtain ⟨nq, hnq⟩ : ∃ nq, nq = wr.heap.size := ⟨_, rfl⟩
       obtain ⟨wq, hwq⟩ : ∃ wq, wq = wp.alloc (.cells #[.pointer (some ⟨nq, 0, none⟩)] 93) := ⟨_, rfl⟩
       have hsp : wp.heap.size = nq + 1 := by rw [hwp, hnq]; simp
       have hgp : wr.grownBy wp none := by rw [hwp]; exact gb_alloc (gb_refl _ _) _
       have hgq : wp.grownBy wq none := by rw [hwq]; exact gb_alloc (gb_refl _ _) _
       have HBQ : Hid (Below wf.heap.size wf wq) := HB.out.trans ((below_of_gb (gb_trans hgp hgq)).mono HB.out.size)
       have HDQ0 : Hid (DQ wq wf.heap.size (nq + 1) nq none 0 0 []) := by
        have b1 : Blk wp nq 100 #[.slice none 0 0, fvD] := by rw [hwp, hnq]; exact Blk.new _ _ _
        have b2 : Blk wq (nq + 1) 93 #[.pointer (some ⟨nq, 0, none⟩)] := by rw [hwq, ← hsp]; exact Blk.new _ _ _
        have hs := HB.out.size
        exact ⟨b2, ⟨b1.gb hgq (by simp), own_nil _ _ _ _⟩, ⟨by omega, by omega⟩, fun p hp => by cases hp⟩
       have hmap : OM wq mk ln D := hmap0.kept (gb_trans hgp hgq) (by simp)
       have HOWQ : Hid (OM wq mb ws.length E ∧ FunM (fun _ => 1) ws E) := ⟨HOW.out.1.kept (gb_trans hgp hgq) (by simp), HOW.out.2⟩
       have HWQ : Hid (wq = (wr.alloc (.cells #[.slice none 0 0, fvD] 100)).alloc (.cells #[.pointer (some ⟨wr.heap.size, 0, none⟩)] 93)) := by rw [hwq, hwp, hnq]; rfl
       have HNQ := Lib.hid hnq
       have HMR : Hid (mb < wr.heap.size) := HOW.out.1.lt
       clear hwp hwq hsp hgp hgq hmap0 HOW HB hnq
       go_upto_region 23 with fail
       rw [← HWQ.out, ← HNQ.out]
       clear HWQ HNQ
       go_wp2_with (first
        | (at_range; refine wpList_range_own _ rfl (.tmp 93) 84 rfl 30 3 key_law Tryz.underlying84 _ mk ln D rfl hmap ?_; intro w1 hrg1 hg1 hs1)
        | fail)
       go_frame
       have HRG := Lib.hid hrg1
       have HB : Hid (Below wf.heap.size wf w1) := HBQ.out.trans ((below_of_gb hg1).mono HBQ.out.size)
       have HOM1 : Hid (OM w1 mb ws.length E) := HOWQ.out.1.kept hg1 (by simp)
       have HDQ1 : Hid (DQ w1 wf.heap.size (nq + 1) nq none 0 0 []) := HDQ0.out.below (below_of_gb hg1)
       have HFW : Hid (FunM (fun _ => 1) ws E) := HOWQ.out.2
       have HMQ : Hid (mb < wq.heap.size) := HOWQ.out.1.lt
       obtain ⟨r4, hr4⟩ : ∃ r4, r4 = wq.heap.size := ⟨_, rfl⟩
       rw [← hr4] at HRG
       rw [← hr4]
       have HR4 : Hid (mb < r4 ∧ wf.heap.size ≤ r4) := by rw [hr4]; exact ⟨HMQ.out, HBQ.out.size⟩
       obtain ⟨nbx, hnbx⟩ : ∃ nbx, nbx = nq + 1 := ⟨_, rfl⟩
       unfold Hid at HDQ1
       rw [← hnbx] at HDQ1
       rw [← hnbx]
       replace HDQ1 := Lib.hid HDQ1
       clear hmap hrg1 hg1 hs1 hr4 hnbx HDQ0 HOWQ HBQ HMQ HMR
       go_loopw [22] (fun _ wr => Ord4 wf mk r4 ln D p0 mb ws.length E nbx nq wr) (fun _ wr => wr.rangeLeft mk r4)
       case atStart =>
        refine ⟨_, _, none, 0, 0, [], HRG, fun _ h => h, HOM1, HDQ1, ⟨fun _ => rfl, fun h => ?_⟩, HB⟩
        rw [HK0.out.1.hs, decide_eq_true ((HK0.out.2.2 p0).2 HC0.out.2.2)] at h
        cases h
       case round =>
        clear HRG HB HOM1 HDQ1
        obtain ⟨left, cnt, A, qn, qc, q, HRG, HLF, HOM, HDQ, HQ, HB⟩ := hrel
        go_wp2_with (first
         | (at_next; refine wpList_next_ranges wr rfl (.tmp 94) rfl 30 key_law (plainElem Tryz.prog 3) (fun v : Value => v) (fun c : Int => .int .i64 c) (fun key _ _ => ⟨key, rfl⟩) int_inv mk r4 ln D left cnt rfl HRG.out ?_ ?_)
         | fail)
        · intro _ hl0
          obtain ⟨t0, hq0⟩ := HQ.out.2 (hl0 _)
          subst hq0
          have HO0 : Hid (wr.ownsRow wf.heap.size 30 32 (.slice none 0 0) 0 (IdsU (ch.take 0))) := own_nil _ _ _ _
          have HWI : Hid (∀ p, p ∈ ws ↔ ∃ j, 0 < j ∧ j < ch.length ∧ p = ch.getD j zeroId) := fun p => by rw [HWA.out, HCH.out.kids]
          have hchl : ch.length ≤ 8000 := by
           have h1 := nodup_len HCH.out.nd (m := ks) (fun i hi => (HK0.out.2.2 i).2 hi)
           have := HLN.out
           omega
          have HCL := Lib.hid hchl
          clear HRG HLF HQ HWA hl0 HLN HLK HMF hchl
          go_wp2_with fail
          go_loopw [23] (fun v wr => Ord5 wf ch mb nbx nq v wr) (fun v _ => ch.length - sliceLen v)
          case atStart =>
           exact ⟨0, none, 0, A, qn, qc, _, ws, E, Nat.zero_le _, rfl, HO0, ⟨HOM.out, HFW.out⟩, HDQ, ⟨fun _ => ⟨t0, by rw [HC0.out.2.1]⟩, fun h => by have := HC0.out.1; omega⟩, HWI, HB⟩
          case round =>
           clear HB HOM HDQ HO0 HWI HFW
           obtain ⟨k, O, oc, A, qn, qc, q, ws, E, hk, rfl, HO, HOF, HDQ, HQ, HWS, HB⟩ := hrel
           obtain ⟨cl, hcl0⟩ : ∃ cl, cl = ch.length := ⟨_, rfl⟩
           have hcb : wr.cell? ⟨nbx, 0, none⟩ = some (.pointer (some ⟨nq, 0, none⟩)) := HDQ.out.box.cell 0
           have hcq : wr.cell? ⟨nq, 0, none⟩ = some (.slice A qn qc) := HDQ.out.dv.blk.cell 0
           by_cases hlt : k < ch.length
           · obtain ⟨t, hq⟩ := HQ.out.1 hlt
             obtain ⟨c, hc⟩ : ∃ c, c = ch.getD k zeroId := ⟨_, rfl⟩
             rw [← hc] at hq
             subst hq
             have hqn : qn = 1 := HDQ.out.dv.len
             subst hqn
             have HPO := Lib.hid (pop_d nq 1 qc A (c, t) wr HDQ.out.dv)
             have HCC : Hid (c = ch.getD k zeroId ∧ c ∈ ch) := ⟨hc, by rw [hc]; exact getD_mem hlt⟩
             have HLTK := Lib.hid hlt
             have hkb : k ≤ 8000 := by have := HCL.out; omega
             clear hlt hk hc HQ hcl0
             go_wp2_with fail
             refine HPO.out.mono ?_
             rintro e w2 ⟨rfl, hp2⟩
             obtain ⟨⟨A2, n2, c2, hdq2⟩, hb2, _, hom2, _, hor2⟩ := HDQ.out.post HB.out.size hp2
             have HDQ2 := Lib.hid hdq2
             have HB2 : Hid (Below wf.heap.size wf w2) := HB.out.trans hb2
             have HOM2 : Hid (OM w2 mb ws.length E) := hom2 _ _ _ HOF.out.1
             have HFM : Hid (FunM (fun _ => 1) ws E) := HOF.out.2
             have HO2 : Hid (w2.ownsRow wf.heap.size 30 32 (.slice O k oc) k (IdsU (ch.take k))) := hor2 _ _ _ _ _ HO.out
             have HN := dat_new w2
             have HSD := Lib.hid (dat_size (c, t))
             have HFD := Lib.hid (dat_fit (c, t))
             clear hp2 hdq2 hb2 hom2 hor2 HPO HB HOF HO HDQ hcb hcq
             go_upto_region 31 with (with_reducible refine wpList_storeG rfl 95 (.tmp 24) (.tmp 113) rfl w2.heap.size 0 (datV (c, t)) rfl rfl (datV zeroDat) 95 HN.out HFD.out (datV_one _) HSD.out ?_; intro w3 HB3 HG3)
             have G3 : w2.grownBy w3 none := gb_fresh HG3.out
             have hbl3 : Blk w3 w2.heap.size 95 (datV (c, t)).toArray := by
              have h1 := HB3.out
              rw [splice_dat] at h1
              exact h1
             have HBL3 := Lib.hid hbl3
             have hri3 : w3.rangeAt w2.heap.size 0 (U c.1) := dat_id (dat_rangeB hbl3)
             have HBW3 : Hid (Below wf.heap.size wf w3) := HB2.out.trans ((below_of_gb G3).mono HB2.out.size)
             have HDQ3 : Hid (DQ w3 wf.heap.size nbx nq A2 n2 c2 []) := HDQ2.out.below (below_of_gb G3)
             have HOM3 : Hid (OM w3 mb ws.length E) := HOM2.out.kept G3 (by simp)
             have HO3 : Hid (w3.ownsRow wf.heap.size 30 32 (.slice O k oc) k (IdsU (ch.take k))) := own_below HO2.out (below_of_gb G3)
             have hszi := id_size _ c.2
             have HONE : Hid (∀ u ∈ (U c.1).toArray.toList, u.oneCell' = true) := by unfold Hid; rw [List.toList_toArray]; exact U_one _
             have HAPP : Hid (IdsU (ch.take k) ++ U c.1 = IdsU (ch.take (k + 1))) := by
              unfold Hid
              rw [take_snoc_getD ch k HLTK.out, ← HCC.out.1, IdsU_snoc]
             obtain ⟨d0, d1, d2, d3, d4, d5, d6, d7, d8, d9, d10, d11, d12, d13, d14, d15, d16, d17, d18, d19, d20, d21, d22, d23, d24, d25, d26, d27, d28, d29, d30, d31, hU⟩ := id32 c
             unfold Hid at HAPP HONE
             rw [hU] at HAPP HONE hri3 hszi
             replace HAPP := Lib.hid HAPP
             replace HONE := Lib.hid HONE
             have HRI := Lib.hid hri3
             have HSZI := Lib.hid hszi
             clear HB3 HG3 HN HSD HFD G3 hbl3 hri3 hszi HB2 HDQ2 HOM2 HO2 hU
             go_upto_region 32 with (first
              | (with_reducible refine wpList_load_mid rfl 30 (.tmp 115) rfl w2.heap.size 0 rfl [d0, d1, d2, d3, d4, d5, d6, d7, d8, d9, d10, d11, d12, d13, d14, d15, d16, d17, d18, d19, d20, d21, d22, d23, d24, d25, d26, d27, d28, d29, d30, d31] _ HRI.out hu30 rfl HSZI.out ?_)
              | (at_builtin
                 refine wpList_pushN w3 rfl (.tmp 114) (.tmp 117) 28 rfl wf.heap.size 30 ie ze 32 32 Tryz.underlying28 HIE.out.1 HIE.out.2.2.2.1 HIE.out.2.1 HIE.out.2.2.1 HIE.out.2.2.2.2 (by decide) O k oc (IdsU (ch.take k)) rfl HO3.out #[d0, d1, d2, d3, d4, d5, d6, d7, d8, d9, d10, d11, d12, d13, d14, d15, d16, d17, d18, d19, d20, d21, d22, d23, d24, d25, d26, d27, d28, d29, d30, d31] 1 _ rfl HONE.out rfl ?_ ?_ HBW3.out.size ?_
                 · omega
                 · unfold maxLen; omega
                 intro O2 oc2 w4 hown4 hg4 hn4)
              | fail)
             have HO4 : Hid (w4.ownsRow wf.heap.size 30 32 (.slice O2 (k + 1) oc2) (k + 1) (IdsU (ch.take (k + 1)))) := by
              rw [← HAPP.out]
              exact hown4
             have HB4 : Hid (Below wf.heap.size wf w4) := HBW3.out.trans ⟨hg4.os, hg4.tape, hg4.output, hg4.size, fun q hq => hg4.block q (Nat.lt_of_lt_of_le hq HBW3.out.size) (fun e => by
              cases O with
              | none => simp [Value.ownBlock] at e
              | some p =>
                have h1 := (HO3.out.lt p.block rfl).1
                have h2 : q = p.block := Option.some.inj e
                omega)⟩
             have HDQ4 : Hid (DQ w4 wf.heap.size nbx nq A2 n2 c2 []) := HDQ3.out.gb HO3.out hg4
             have HOM4 : Hid (OM w4 mb ws.length E) := HOM3.out.kept hg4 (fun e => by
              cases O with
              | none => simp [Value.ownBlock] at e
              | some p =>
                obtain ⟨cur, hcur⟩ := row_cells HO3.out p rfl
                exact ownsMap_apart HOM3.out hcur (Option.some.inj e))
             have hri4 : w4.rangeAt w2.heap.size 0 (U c.1) := dat_id (dat_rangeB (HBL3.out.gb hg4 (fun e => own_blk_ne HO3.out HBL3.out (by decide) e.symm)))
             have HRI4 := Lib.hid hri4
             have HSC := Lib.hid (id_size _ c.2)
             have hcs4 : w4.cell? ⟨w.heap.size, 0, none⟩ = some (.pointer (some ⟨a, 0, none⟩)) := (HSF.out.below HB4.out HSF.out.lt).cell 0
             obtain ⟨P, hP⟩ : ∃ P, P = prs S c := ⟨_, rfl⟩
             have HPA : Hid (Calls Tryz.prog 30 #[.pointer (some ⟨a, 0, none⟩), .agg (U c.1).toArray] w4 (ParP w4 P)) := by
              obtain ⟨l0, ls, hcl⟩ := HG.out.com c (HCH.out.com c HCC.out.2).1 (HCH.out.com c HCC.out.2).2
              have e : P = ls.map (·.1) := by rw [hP]; unfold prs; rw [hcl]; rfl
              rw [e]
              exact parents_any w w4 B0 m a S Ds c HE.out (HBF.out.trans (HB4.out.mono HBF.out.size)) (HCH.out.com c HCC.out.2).1 l0 ls hcl (by have := HG.out.wide c; rw [hcl] at this; simp at this; omega)
             have HPI : Hid (P = if k + 1 < ch.length then [ch.getD (k + 1) zeroId] else []) := by
              rw [hP, HCC.out.1]
              exact HCH.out.par k HLTK.out
             clear hown4 hg4 hn4 hri4 hP HO3 HBW3 HDQ3 HOM3 HAPP HONE HRI HSZI HBL3
             go_wp2_with (with_reducible refine wpList_load_mid rfl 30 (.tmp 120) rfl w2.heap.size 0 rfl (U c.1) _ HRI4.out hu30 rfl HSC.out ?_)
             refine HPA.out.mono ?_
             rintro e w5 ⟨PA, kp, rfl, hop, hb5⟩
             have HB5 : Hid (Below wf.heap.size wf w5) := HB4.out.trans (hb5.mono HB4.out.size)
             have HDQ5 : Hid (DQ w5 wf.heap.size nbx nq A2 n2 c2 []) := HDQ4.out.below hb5
             have HOM5 : Hid (OM w5 mb ws.length E) := HOM4.out.kept (gb_of_below hb5 none) (by simp)
             have HO5 : Hid (w5.ownsRow wf.heap.size 30 32 (.slice O2 (k + 1) oc2) (k + 1) (IdsU (ch.take (k + 1)))) := own_below HO4.out hb5
             have HOP := Lib.hid hop
             clear hb5 hop HPA HB4 HDQ4 HOM4 HO4 hcs4 HRI4 HSC
             by_cases hk1 : k + 1 < ch.length
             · obtain ⟨p, hp⟩ : ∃ p, p = ch.getD (k + 1) zeroId := ⟨_, rfl⟩
               have hPp : P = [p] := by rw [HPI.out, if_pos hk1, hp]
               subst hPp
               obtain ⟨q2, rfl, hq2, hrq2, hkp⟩ := own_ids HOP.out (by simp)
               have hkp1 : 1 ≤ kp := hkp
               have e1 : IdsU [p] = U p.1 := by simp [IdsU]
               rw [e1] at hrq2
               have HRP := Lib.hid hrq2
               have HSP := Lib.hid (id_size _ p.2)
               have HSP2 := Lib.hid (id_size' _ p.2)
               have HFP := Lib.hid (id_fit _ p.2)
               have HNP := id_new w5
               have HPC : Hid (p = ch.getD (k + 1) zeroId ∧ p ∈ ch ∧ k + 1 < ch.length) := ⟨hp, by rw [hp]; exact getD_mem hk1, hk1⟩
               have hpw : p ∈ ws := (HWS.out p).2 ⟨k + 1, by omega, hk1, hp⟩
               have hwl : ws.length ≤ 8000 := by
                have h2 := nodup_len HFM.out.nd (m := ch) (fun j hj => by
                 obtain ⟨t, _, ht, e⟩ := (HWS.out j).1 hj
                 rw [e]
                 exact getD_mem ht)
                have := HCL.out
                omega
               clear HPI HOP hq2 hrq2 hkp e1 hp hk1
               simp only [List.length_singleton]
               go_wp2_with fail
               refine wp_loop_rounds 2 ?_
               rw [rounds_succ]
               go_upto_region 35 with (first
                | (with_reducible refine wpList_load_mid rfl 30 (.tmp 126) rfl q2 0 rfl (U p.1) _ HRP.out hu30 rfl HSP.out ?_)
                | (with_reducible refine wpList_storeG rfl 30 (.tmp 26) (.tmp 127) rfl w5.heap.size 0 (U p.1) rfl rfl (U (List.replicate 32 0)) 30 HNP.out HFP.out (U_one _) HSP.out ?_; intro w6 HB6 HG6))
               have G6 : w5.grownBy w6 none := gb_fresh HG6.out
               have hb6 : Blk w6 w5.heap.size 30 (U p.1).toArray := by
                have h1 := HB6.out
                rw [splice_id _ p.2] at h1
                exact h1
               have HR6 : Hid (w6.heap[w5.heap.size]? = some (.cells (U p.1).toArray 30 (0, 0))) := hb6
               have HBW6 : Hid (Below wf.heap.size wf w6) := HB5.out.trans ((below_of_gb G6).mono HB5.out.size)
               have HDQ6 : Hid (DQ w6 wf.heap.size nbx nq A2 n2 c2 []) := HDQ5.out.below (below_of_gb G6)
               have HOM6 : Hid (OM w6 mb ws.length E) := HOM5.out.kept G6 (by simp)
               have HO6 : Hid (w6.ownsRow wf.heap.size 30 32 (.slice O2 (k + 1) oc2) (k + 1) (IdsU (ch.take (k + 1)))) := own_below HO5.out (below_of_gb G6)
               have hlk : (Instr.lookup 84 (.map (some mb)) (.agg (U p.1).toArray) false).run Tryz.prog w6 = .ok (.int .i64 1) w6 := FunM.look HOM6.out HFM.out p 1 (by rw [if_pos hpw])
               have HBL6 := Lib.hid hb6
               clear HB6 HG6 HNP HFP HRP G6 HOM5 HO5 HB5 HDQ5 hb6
               go_upto_region 36 with (with_reducible refine wpList_load_row rfl 30 (.tmp 26) rfl w5.heap.size rfl 30 (U p.1).toArray (0, 0) _ HR6.out hu30 rfl HSP2.out ?_)
               have hwr0 : IntKind.i64.wrap 0 = 0 := by decide
               have hrp : w6.drew.rangeAt w5.heap.size 0 (U p.1) := id_rangeB HBL6.out.drew
               obtain ⟨st, wm, wn, hme, htm, hlm, hes, hown7, ht7⟩ := FunM.entry (w := w6.drew) HOM6.out HFM.out (by unfold maxLen; omega) p 1 0 (by rw [if_pos hpw]) (by decide) (by decide)
               have hlw : (Instr.lookup 84 (.map (some mb)) (.agg (U p.1).toArray) false).run Tryz.prog w6.drew = .ok (.int .i64 1) w6.drew := FunM.look (w := w6.drew) HOM6.out HFM.out p 1 (by rw [if_pos hpw])
               have hne7 : mb ≠ w5.heap.size := ownsMap_apart HOM6.out HBL6.out
               have hb7 : Blk wn w5.heap.size 30 (U p.1).toArray := mapTurned_blk HBL6.out.drew ht7 hne7
               have hrp1 : wm.rangeAt w5.heap.size 0 (U p.1) := id_rangeB (mapTurned_blk HBL6.out.drew htm hne7)
               have hrp2 : wn.rangeAt w5.heap.size 0 (U p.1) := id_rangeB hb7
               have hme : (Instr.mapEntry 84 (.map (some mb)) (.agg (U p.1).toArray)).run Tryz.prog w6.drew = .ok (.tuple #[.int .i64 1, .int .i64 (st : Int)]) wm := hme
               have hlm : (Instr.lookup 84 (.map (some mb)) (.agg (U p.1).toArray) false).run Tryz.prog wm = .ok (.int .i64 1) wm := hlm
               have hes : (Instr.entryStore 84 (.map (some mb)) (.int .i64 (st : Int)) (.int .i64 0)).run Tryz.prog wm = .ok () wn := hes
               have hom6d : OM w6.drew mb ws.length E := HOM6.out
               have ho6d : w6.drew.ownsRow wf.heap.size 30 32 (.slice O2 (k + 1) oc2) (k + 1) (IdsU (ch.take (k + 1))) := HO6.out
               have hdq6d : DQ w6.drew wf.heap.size nbx nq A2 n2 c2 [] := ⟨HDQ6.out.box, ⟨HDQ6.out.dv.blk, HDQ6.out.dv.own⟩, HDQ6.out.bs, HDQ6.out.bA⟩
               have hmbw : wf.heap.size ≤ mb := HMBL.out.1
               have HB7 : Hid (Below wf.heap.size wf wn) := below_turned HBW6.out.drew ht7 hmbw HBW6.out.size
               have HDQ7 : Hid (DQ wn wf.heap.size nbx nq A2 n2 c2 []) := hdq6d.turned hom6d ht7
               have HO7 : Hid (wn.ownsRow wf.heap.size 30 32 (.slice O2 (k + 1) oc2) (k + 1) (IdsU (ch.take (k + 1)))) := mapTurned_own ho6d hom6d ht7
               obtain ⟨E2, hE2⟩ : ∃ E2, E2 = E.put (ik p) (.lit (.int .i64 ((0 : Nat) : Int))) := ⟨_, rfl⟩
               have HFM7 : Hid (FunM (fun j => if j = p then 0 else 1) ws E2) := by
                rw [hE2]
                exact HFM.out.turn (tidyM HOM6.out) p hpw 0 (by simp) (fun j _ hj => by simp [hj])
               have HOM7 : Hid (OM wn mb (ws.length + 1) E2) := by rw [hE2]; exact hown7
               have hlk7 : (Instr.lookup 84 (.map (some mb)) (.agg (U p.1).toArray) false).run Tryz.prog wn = .ok (.int .i64 0) wn := FunM.look HOM7.out HFM7.out p 0 (by rw [if_pos hpw]; simp)
               have HR7 : Hid (wn.heap[w5.heap.size]? = some (.cells (U p.1).toArray 30 (0, 0))) := hb7
               have HBL7 := Lib.hid hb7
               clear htm hown7 ht7 hne7 hb7 hom6d ho6d hdq6d hlk HR6 HBL6 HBW6 HDQ6 HOM6 HO6 hE2
               refine wp_region_noPanic ?_
               refine wp_region_held_drew (S := fun w' => w'.rangeAt w5.heap.size 0 (U p.1)) (by kernel_rfl) hrp (fun hHeld => ?_)
               refine wpAnyH_take (i := 0) (oi := { dst := some 132, op := Go.Op.move (Go.Operand.tmp 14), type := 84, pos := "walk.go:297", after := #[], guard := none }) (v := .map (some mb)) rfl (by kernel_rfl) ?_ ?_ ?_ ?_ hHeld ?_
               · kernel_rfl
               · kernel_rfl
               · exact fun _ _ _ h => h
               · exact Or.inl ⟨by rfl, fun w' _ => by go_simp⟩
               (try simp only [Act.put, List.setIfInBounds_toArray, List.set_cons_zero, List.set_cons_succ])
               refine wpAnyH_take (i := 1) (oi := { dst := some 133, op := Go.Op.load 30 (Go.Operand.tmp 26), type := 30, pos := "walk.go:297", after := #[], guard := none }) (v := .agg ((U p.1)).toArray) rfl (by kernel_rfl) ?_ ?_ ?_ ?_ hHeld ?_
               · kernel_rfl
               · kernel_rfl
               · exact fun _ _ _ h => h
               · exact yieldsIf_load_mid (by rfl) 30 (.tmp 26) rfl w5.heap.size 0 rfl (U p.1) _ (fun w' h => h) hu30 rfl HSP.out
               (try simp only [Act.put, List.setIfInBounds_toArray, List.set_cons_zero, List.set_cons_succ])
               refine wpAnyH_ready (rs := [2, 4]) (by kernel_rfl) (by simp) ?_
               refine AllReadyH.cons (o := { dst := some 134, op := Go.Op.lookup 84 (Go.Operand.tmp 132) (Go.Operand.tmp 133) false, type := 3, pos := "walk.go:297", after := #[{ on := 0, ground := Go.Ground.data }, { on := 1, ground := Go.Ground.data }], guard := none }) rfl (fun K hK => ?_) (AllReadyH.cons (o := { dst := some 136, op := Go.Op.mapEntry 84 (Go.Operand.tmp 132) (Go.Operand.tmp 133), type := 0, pos := "walk.go:297", after := #[{ on := 0, ground := Go.Ground.data }, { on := 1, ground := Go.Ground.data }, { on := 0, ground := Go.Ground.phase }, { on := 1, ground := Go.Ground.phase }, { on := 2, ground := Go.Ground.textOnly Go.Departure.mapOpAssignEntry }, { on := 3, ground := Go.Ground.textOnly Go.Departure.mapOpAssignEntry }], guard := none }) rfl (fun K hK => ?_) AllReadyH.nil)
               · go_simp
                 refine hK.out _ _ hrp (fun hHeld => ?_)
                 clear hK K
                 (try simp only [Act.put, List.setIfInBounds_toArray, List.set_cons_zero, List.set_cons_succ])
                 refine wpAnyH_take (i := 3) (oi := { dst := some 135, op := Go.Op.binOp Go.BinOp.sub 3 (Go.Operand.tmp 134) (Go.Operand.const (Go.Value.int Go.IntKind.i64 1)) 3, type := 3, pos := "walk.go:297", after := #[{ on := 2, ground := Go.Ground.data }], guard := none }) (v := .int .i64 0) rfl (by kernel_rfl) ?_ ?_ ?_ ?_ hHeld ?_
                 · kernel_rfl
                 · kernel_rfl
                 · exact fun _ _ _ h => h
                 · exact Or.inl ⟨by rfl, fun w' _ => by go_simp⟩
                 (try simp only [Act.put, List.setIfInBounds_toArray, List.set_cons_zero, List.set_cons_succ])
                 refine wpAnyH_ready (rs := [4]) (by kernel_rfl) (by simp) ?_
                 refine AllReadyH.cons (o := { dst := some 136, op := Go.Op.mapEntry 84 (Go.Operand.tmp 132) (Go.Operand.tmp 133), type := 0, pos := "walk.go:297", after := #[{ on := 0, ground := Go.Ground.data }, { on := 1, ground := Go.Ground.data }, { on := 0, ground := Go.Ground.phase }, { on := 1, ground := Go.Ground.phase }, { on := 2, ground := Go.Ground.textOnly Go.Departure.mapOpAssignEntry }, { on := 3, ground := Go.Ground.textOnly Go.Departure.mapOpAssignEntry }], guard := none }) rfl (fun K hK => ?_) AllReadyH.nil
                 go_simp
                 refine hK.out _ _ hrp1 (fun hHeld => ?_)
                 clear hK K
                 (try simp only [Act.put, List.setIfInBounds_toArray, List.set_cons_zero, List.set_cons_succ])
                 refine wpAnyH_take (i := 5) (oi := { dst := some 137, op := Go.Op.extract (Go.Operand.tmp 136) 1, type := 3, pos := "walk.go:297", after := #[{ on := 4, ground := Go.Ground.data }], guard := none }) (v := .int .i64 (st : Int)) rfl (by kernel_rfl) ?_ ?_ ?_ ?_ hHeld ?_
                 · kernel_rfl
                 · kernel_rfl
                 · exact fun _ _ _ h => h
                 · exact Or.inl ⟨by rfl, fun w' _ => by go_simp⟩
                 (try simp only [Act.put, List.setIfInBounds_toArray, List.set_cons_zero, List.set_cons_succ])
                 refine wpAnyH_ready (rs := [6]) (by kernel_rfl) (by simp) ?_
                 refine AllReadyH.cons (o := { dst := none, op := Go.Op.entryStore 84 (Go.Operand.tmp 132) (Go.Operand.tmp 137) (Go.Operand.tmp 135), type := 0, pos := "walk.go:297", after := #[{ on := 0, ground := Go.Ground.data }, { on := 5, ground := Go.Ground.data }, { on := 3, ground := Go.Ground.data }, { on := 4, ground := Go.Ground.chain }, { on := 0, ground := Go.Ground.phase }, { on := 1, ground := Go.Ground.phase }, { on := 2, ground := Go.Ground.phase }, { on := 3, ground := Go.Ground.phase }, { on := 4, ground := Go.Ground.phase }, { on := 5, ground := Go.Ground.phase }], guard := none }) rfl (fun K hK => ?_) AllReadyH.nil
                 go_simp
                 refine hK.out _ _ hrp2 (fun hHeld => ?_)
                 clear hK K
                 (try simp only [Act.put, List.setIfInBounds_toArray, List.set_cons_zero, List.set_cons_succ])
                 refine wpAnyH_done (by kernel_rfl) ?_ _
                 refine NoPanic.normal ?_
                 clear hrp hrp1 hrp2 hme hlm hes hlw
                 go_upto_region 38 with (with_reducible refine wpList_load_row rfl 30 (.tmp 26) rfl w5.heap.size rfl 30 (U p.1).toArray (0, 0) _ HR7.out hu30 rfl HSP2.out ?_)
                 clear hlk7
                 go_upto_region 39 with (first
                  | (with_reducible refine wpList_load_row rfl 30 (.tmp 26) rfl w5.heap.size rfl 30 (U p.1).toArray (0, 0) _ HR7.out hu30 rfl HSP2.out ?_)
                  | (at_delete; refine wpList_delete_own _ rfl (.tmp 142) (.tmp 143) 84 30 rfl 3 key_law Tryz.underlying84 _ mb (ws.length + 1) E2 rfl HOM7.out _ _ rfl (ik_key p) ?_; intro w8 hown8 ht8)
                  | fail)
                 have hb8 : Blk w8 w5.heap.size 30 (U p.1).toArray := mapTurned_blk HBL7.out ht8 (ownsMap_apart HOM7.out HBL7.out)
                 have HR8 : Hid (w8.heap[w5.heap.size]? = some (.cells (U p.1).toArray 30 (0, 0))) := hb8
                 have HB8 : Hid (Below wf.heap.size wf w8) := below_turned HB7.out ht8 hmbw HB7.out.size
                 have HDQ8 : Hid (DQ w8 wf.heap.size nbx nq A2 n2 c2 []) := HDQ7.out.turned HOM7.out ht8
                 have HO8 : Hid (w8.ownsRow wf.heap.size 30 32 (.slice O2 (k + 1) oc2) (k + 1) (IdsU (ch.take (k + 1)))) := mapTurned_own HO7.out HOM7.out ht8
                 have HFM8 : Hid (FunM (fun _ => 1) (ws.filter fun j => decide (j ≠ p)) (E2.del (ik p))) := HFM7.out.del (tidyM HOM7.out) p (fun j _ hj => by simp [hj])
                 have HOM8 : Hid (OM w8 mb (ws.filter fun j => decide (j ≠ p)).length (E2.del (ik p))) := OM.len_ hown8 HFM8.out
                 have HWS8 : Hid (∀ i, i ∈ (ws.filter fun j => decide (j ≠ p)) ↔ ∃ j, k + 1 < j ∧ j < ch.length ∧ i = ch.getD j zeroId) := fun i => by
                  rw [List.mem_filter, HWS.out]
                  constructor
                  · rintro ⟨⟨j, h1, h2, h3⟩, h4⟩
                    refine ⟨j, ?_, h2, h3⟩
                    rcases Nat.lt_or_ge (k + 1) j with h5 | h5
                    · exact h5
                    · have : j = k + 1 := by omega
                      subst this
                      rw [h3, ← HPC.out.1] at h4
                      simp at h4
                  · rintro ⟨j, h1, h2, h3⟩
                    refine ⟨⟨j, by omega, h2, h3⟩, ?_⟩
                    have hne : i ≠ p := fun e => by
                     rw [h3, HPC.out.1] at e
                     have := HCH.out.inj h2 HPC.out.2.2 e
                     omega
                    simpa using hne
                 have hcs8 : w8.cell? ⟨nbx, 0, none⟩ = some (.pointer (some ⟨nq, 0, none⟩)) := HDQ8.out.box.cell 0
                 have HRD := Lib.hid (ready_any w w8 B0 m a S Ds w.heap.size nbx nq n2 c2 A2 p HE.out (HBF.out.trans (HB8.out.mono HBF.out.size)) (HSF.out.below HB8.out HSF.out.lt) HDQ8.out.box HDQ8.out.dv (HCH.out.com p HPC.out.2.1).1 (HCH.out.com p HPC.out.2.1).2)
                 clear hown8 ht8 hb8 HR7 HBL7 HB7 HDQ7 HO7 HFM7 HOM7 HWS HFM hpw
                 go_wp2_with (with_reducible refine wpList_load_row rfl 30 (.tmp 26) rfl w5.heap.size rfl 30 (U p.1).toArray (0, 0) _ HR8.out hu30 rfl HSP2.out ?_)
                 refine HRD.out.mono ?_
                 rintro e w9 ⟨rfl, t9, hp9⟩
                 obtain ⟨⟨A9, n9, c9, hdq9⟩, hb9, _, hom9, _, hor9⟩ := HDQ8.out.post HB8.out.size hp9
                 have HDQ9 := Lib.hid hdq9
                 have HB9 : Hid (Below wf.heap.size wf w9) := HB8.out.trans hb9
                 have HOF9 : Hid (OM w9 mb (ws.filter fun j => decide (j ≠ p)).length (E2.del (ik p)) ∧ FunM (fun _ => 1) (ws.filter fun j => decide (j ≠ p)) (E2.del (ik p))) := ⟨hom9 _ _ _ HOM8.out, HFM8.out⟩
                 have HO9 : Hid (w9.ownsRow wf.heap.size 30 32 (.slice O2 (k + 1) oc2) (k + 1) (IdsU (ch.take (k + 1)))) := hor9 _ _ _ _ _ HO8.out
                 have HQ9 : Hid ((k + 1 < ch.length → ∃ t, [(p, t9)] = [(ch.getD (k + 1) zeroId, t)]) ∧ (k + 1 = ch.length → [(p, t9)] = ([] : List Dat))) := ⟨fun _ => ⟨t9, by rw [← HPC.out.1]⟩, fun h => by have := HPC.out.2.2; omega⟩
                 clear hp9 hdq9 hb9 hom9 hor9 HRD HB8 HDQ8 HO8 HFM8 HOM8 HR8 hcs8
                 go_wp2_with fail
                 rw [rounds_succ]
                 go_wp2_with fail
                 go_roundw
                 case rel => exact ⟨k + 1, O2, oc2, A9, n9, c9, _, _, _, HLTK.out, rfl, HO9, HOF9, HDQ9, HQ9, HWS8, HB9⟩
                 case measure => have := HLTK.out; simp [sliceLen]; omega
               · go_simp
                 refine hK.out _ _ hrp1 (fun hHeld => ?_)
                 clear hK K
                 (try simp only [Act.put, List.setIfInBounds_toArray, List.set_cons_zero, List.set_cons_succ])
                 refine wpAnyH_take (i := 5) (oi := { dst := some 137, op := Go.Op.extract (Go.Operand.tmp 136) 1, type := 3, pos := "walk.go:297", after := #[{ on := 4, ground := Go.Ground.data }], guard := none }) (v := .int .i64 (st : Int)) rfl (by kernel_rfl) ?_ ?_ ?_ ?_ hHeld ?_
                 · kernel_rfl
                 · kernel_rfl
                 · exact fun _ _ _ h => h
                 · exact Or.inl ⟨by rfl, fun w' _ => by go_simp⟩
                 (try simp only [Act.put, List.setIfInBounds_toArray, List.set_cons_zero, List.set_cons_succ])
                 refine wpAnyH_ready (rs := [2]) (by kernel_rfl) (by simp) ?_
                 refine AllReadyH.cons (o := { dst := some 134, op := Go.Op.lookup 84 (Go.Operand.tmp 132) (Go.Operand.tmp 133) false, type := 3, pos := "walk.go:297", after := #[{ on := 0, ground := Go.Ground.data }, { on := 1, ground := Go.Ground.data }], guard := none }) rfl (fun K hK => ?_) AllReadyH.nil
                 go_simp
                 refine hK.out _ _ hrp1 (fun hHeld => ?_)
                 clear hK K
                 (try simp only [Act.put, List.setIfInBounds_toArray, List.set_cons_zero, List.set_cons_succ])
                 refine wpAnyH_take (i := 3) (oi := { dst := some 135, op := Go.Op.binOp Go.BinOp.sub 3 (Go.Operand.tmp 134) (Go.Operand.const (Go.Value.int Go.IntKind.i64 1)) 3, type := 3, pos := "walk.go:297", after := #[{ on := 2, ground := Go.Ground.data }], guard := none }) (v := .int .i64 0) rfl (by kernel_rfl) ?_ ?_ ?_ ?_ hHeld ?_
                 · kernel_rfl
                 · kernel_rfl
                 · exact fun _ _ _ h => h
                 · exact Or.inl ⟨by rfl, fun w' _ => by go_simp⟩
                 (try simp only [Act.put, List.setIfInBounds_toArray, List.set_cons_zero, List.set_cons_succ])
                 refine wpAnyH_ready (rs := [6]) (by kernel_rfl) (by simp) ?_
                 refine AllReadyH.cons (o := { dst := none, op := Go.Op.entryStore 84 (Go.Operand.tmp 132) (Go.Operand.tmp 137) (Go.Operand.tmp 135), type := 0, pos := "walk.go:297", after := #[{ on := 0, ground := Go.Ground.data }, { on := 5, ground := Go.Ground.data }, { on := 3, ground := Go.Ground.data }, { on := 4, ground := Go.Ground.chain }, { on := 0, ground := Go.Ground.phase }, { on := 1, ground := Go.Ground.phase }, { on := 2, ground := Go.Ground.phase }, { on := 3, ground := Go.Ground.phase }, { on := 4, ground := Go.Ground.phase }, { on := 5, ground := Go.Ground.phase }], guard := none }) rfl (fun K hK => ?_) AllReadyH.nil
                 go_simp
                 refine hK.out _ _ hrp2 (fun hHeld => ?_)
                 clear hK K
                 (try simp only [Act.put, List.setIfInBounds_toArray, List.set_cons_zero, List.set_cons_succ])
                 refine wpAnyH_done (by kernel_rfl) ?_ _
                 refine NoPanic.normal ?_
                 clear hrp hrp1 hrp2 hme hlm hes hlw
                 go_upto_region 38 with (with_reducible refine wpList_load_row rfl 30 (.tmp 26) rfl w5.heap.size rfl 30 (U p.1).toArray (0, 0) _ HR7.out hu30 rfl HSP2.out ?_)
                 clear hlk7
                 go_upto_region 39 with (first
                  | (with_reducible refine wpList_load_row rfl 30 (.tmp 26) rfl w5.heap.size rfl 30 (U p.1).toArray (0, 0) _ HR7.out hu30 rfl HSP2.out ?_)
                  | (at_delete; refine wpList_delete_own _ rfl (.tmp 142) (.tmp 143) 84 30 rfl 3 key_law Tryz.underlying84 _ mb (ws.length + 1) E2 rfl HOM7.out _ _ rfl (ik_key p) ?_; intro w8 hown8 ht8)
                  | fail)
                 have hb8 : Blk w8 w5.heap.size 30 (U p.1).toArray := mapTurned_blk HBL7.out ht8 (ownsMap_apart HOM7.out HBL7.out)
                 have HR8 : Hid (w8.heap[w5.heap.size]? = some (.cells (U p.1).toArray 30 (0, 0))) := hb8
                 have HB8 : Hid (Below wf.heap.size wf w8) := below_turned HB7.out ht8 hmbw HB7.out.size
                 have HDQ8 : Hid (DQ w8 wf.heap.size nbx nq A2 n2 c2 []) := HDQ7.out.turned HOM7.out ht8
                 have HO8 : Hid (w8.ownsRow wf.heap.size 30 32 (.slice O2 (k + 1) oc2) (k + 1) (IdsU (ch.take (k + 1)))) := mapTurned_own HO7.out HOM7.out ht8
                 have HFM8 : Hid (FunM (fun _ => 1) (ws.filter fun j => decide (j ≠ p)) (E2.del (ik p))) := HFM7.out.del (tidyM HOM7.out) p (fun j _ hj => by simp [hj])
                 have HOM8 : Hid (OM w8 mb (ws.filter fun j => decide (j ≠ p)).length (E2.del (ik p))) := OM.len_ hown8 HFM8.out
                 have HWS8 : Hid (∀ i, i ∈ (ws.filter fun j => decide (j ≠ p)) ↔ ∃ j, k + 1 < j ∧ j < ch.length ∧ i = ch.getD j zeroId) := fun i => by
                  rw [List.mem_filter, HWS.out]
                  constructor
                  · rintro ⟨⟨j, h1, h2, h3⟩, h4⟩
                    refine ⟨j, ?_, h2, h3⟩
                    rcases Nat.lt_or_ge (k + 1) j with h5 | h5
                    · exact h5
                    · have : j = k + 1 := by omega
                      subst this
                      rw [h3, ← HPC.out.1] at h4
                      simp at h4
                  · rintro ⟨j, h1, h2, h3⟩
                    refine ⟨⟨j, by omega, h2, h3⟩, ?_⟩
                    have hne : i ≠ p := fun e => by
                     rw [h3, HPC.out.1] at e
                     have := HCH.out.inj h2 HPC.out.2.2 e
                     omega
                    simpa using hne
                 have hcs8 : w8.cell? ⟨nbx, 0, none⟩ = some (.pointer (some ⟨nq, 0, none⟩)) := HDQ8.out.box.cell 0
                 have HRD := Lib.hid (ready_any w w8 B0 m a S Ds w.heap.size nbx nq n2 c2 A2 p HE.out (HBF.out.trans (HB8.out.mono HBF.out.size)) (HSF.out.below HB8.out HSF.out.lt) HDQ8.out.box HDQ8.out.dv (HCH.out.com p HPC.out.2.1).1 (HCH.out.com p HPC.out.2.1).2)
                 clear hown8 ht8 hb8 HR7 HBL7 HB7 HDQ7 HO7 HFM7 HOM7 HWS HFM hpw
                 go_wp2_with (with_reducible refine wpList_load_row rfl 30 (.tmp 26) rfl w5.heap.size rfl 30 (U p.1).toArray (0, 0) _ HR8.out hu30 rfl HSP2.out ?_)
                 refine HRD.out.mono ?_
                 rintro e w9 ⟨rfl, t9, hp9⟩
                 obtain ⟨⟨A9, n9, c9, hdq9⟩, hb9, _, hom9, _, hor9⟩ := HDQ8.out.post HB8.out.size hp9
                 have HDQ9 := Lib.hid hdq9
                 have HB9 : Hid (Below wf.heap.size wf w9) := HB8.out.trans hb9
                 have HOF9 : Hid (OM w9 mb (ws.filter fun j => decide (j ≠ p)).length (E2.del (ik p)) ∧ FunM (fun _ => 1) (ws.filter fun j => decide (j ≠ p)) (E2.del (ik p))) := ⟨hom9 _ _ _ HOM8.out, HFM8.out⟩
                 have HO9 : Hid (w9.ownsRow wf.heap.size 30 32 (.slice O2 (k + 1) oc2) (k + 1) (IdsU (ch.take (k + 1)))) := hor9 _ _ _ _ _ HO8.out
                 have HQ9 : Hid ((k + 1 < ch.length → ∃ t, [(p, t9)] = [(ch.getD (k + 1) zeroId, t)]) ∧ (k + 1 = ch.length → [(p, t9)] = ([] : List Dat))) := ⟨fun _ => ⟨t9, by rw [← HPC.out.1]⟩, fun h => by have := HPC.out.2.2; omega⟩
                 clear hp9 hdq9 hb9 hom9 hor9 HRD HB8 HDQ8 HO8 HFM8 HOM8 HR8 hcs8
                 go_wp2_with fail
                 rw [rounds_succ]
                 go_wp2_with fail
                 go_roundw
                 case rel => exact ⟨k + 1, O2, oc2, A9, n9, c9, _, _, _, HLTK.out, rfl, HO9, HOF9, HDQ9, HQ9, HWS8, HB9⟩
                 case measure => have := HLTK.out; simp [sliceLen]; omega
             · have hPp : P = [] := by rw [HPI.out, if_neg hk1]
               subst hPp
               have hke : k + 1 = ch.length := by have := HLTK.out; omega
               have HWS5 : Hid (∀ p, p ∈ ws ↔ ∃ j, k + 1 < j ∧ j < ch.length ∧ p = ch.getD j zeroId) := fun p => by
                rw [HWS.out]
                exact ⟨fun ⟨j, h1, h2, _⟩ => by omega, fun ⟨j, h1, h2, _⟩ => by omega⟩
               have HKE := Lib.hid hke
               clear HWS HPI HOP hk1 hke
               simp only [List.length_nil]
               go_wp2_with fail
               refine wp_loop_rounds 1 ?_
               rw [rounds_succ]
               go_wp2_with fail
               go_roundw
               case rel => exact ⟨k + 1, O2, oc2, A2, n2, c2, [], ws, E, HLTK.out, rfl, HO5, ⟨HOM5.out, HFM.out⟩, HDQ5, ⟨fun h => by have := HKE.out; omega, fun _ => rfl⟩, HWS5, HB5⟩
               case measure => have := HLTK.out; simp [sliceLen]; omega
           · have hke : k = ch.length := by omega
             have hq : q = [] := HQ.out.2 hke
             subst hq
             have hqn : qn = 0 := HDQ.out.dv.len
             subst hqn
             have hws : ws = [] := List.eq_nil_iff_forall_not_mem.2 (fun p hp => by
              obtain ⟨j, h1, h2, _⟩ := (HWS.out p).1 hp
              omega)
             have hsz : Maps.size E = 0 := by rw [HOF.out.2.size, hws]; rfl
             have HOM : Hid (OM wr mb ws.length E) := HOF.out.1
             have HF : Hid (ReachP w ch (.returned (.tuple #[.slice O k oc, .int .i64 0])) wr) := by
              have ho := HO.out
              rw [List.take_of_length_le (by omega)] at ho
              obtain ⟨q3, e3, h3, h4, _⟩ := own_ids ho (by have := HC0.out.1; omega)
              refine ⟨O, oc, by rw [hke], ?_, HBF.out.trans (HB.out.mono HBF.out.size)⟩
              exact .inr ⟨q3, 0, e3, h3, h4⟩
             clear HO HOF HDQ HQ HWS HB hlt hk hke hws hcl0
             go_wp2_with (first
              | (at_len; refine wpList_len_own _ rfl (.tmp 148) 84 rfl 30 3 Tryz.underlying84 _ mb ws.length E rfl HOM.out ?_; rw [hsz])
              | fail)
             go_ret2
             exact HF.out
        · intro x cv kl y1 y2 w2 cnt2 hx hlx hy hat hrg2 hlt hg2 hs2 hen
          obtain ⟨i, hi, rfl, rfl⟩ := keys_out HK0.out.1 hx (HLF.out kl hlx)
          have HB2 : Hid (Below wf.heap.size wf w2) := HB.out.trans (below_of_gb_some hg2 HR4.out.2 HB.out.size)
          have HRG2 := Lib.hid hrg2
          have hm := HRG.out.left_eq
          have HLT := Lib.hid hlt
          have HI : Hid (i ∈ ch) := (HK0.out.2.2 i).1 hi
          have HLI : Hid (left (ik i) = true) := hlx
          have HN := id_new w2
          have HSZ := Lib.hid (id_size _ i.2)
          have HSZ2 := Lib.hid (id_size' _ i.2)
          have HFT := Lib.hid (id_fit _ i.2)
          have HOB2 : Hid (OM w2 mb ws.length E) := HOM.out.kept hg2 (by have := HR4.out.1; simp; omega)
          have HDQ2 : Hid (DQ w2 wf.heap.size nbx nq A qn qc q) := by
           have h := HDQ.out
           have hr := HRG.out
           have hrow := row_cells h.dv.own
           exact ⟨h.box.gb hg2 (fun e => iter_apart hr h.box (Option.some.inj e).symm), ⟨h.dv.blk.gb hg2 (fun e => iter_apart hr h.dv.blk (Option.some.inj e).symm), h.dv.own.kept hg2 (by
            cases A with
            | none => exact .inl rfl
            | some p =>
              obtain ⟨cur, hc⟩ := hrow p rfl
              exact .inr (fun e => iter_apart hr hc (Option.some.inj e).symm))⟩, h.bs, h.bA⟩
          clear hx hlx hy hat hrg2 hlt hg2 hs2 hi HRG HB HOM HDQ
          go_upto_region 26 with (with_reducible refine wpList_storeG rfl 30 (.tmp 22) (.tmp 98) rfl w2.heap.size 0 (U i.1) rfl rfl (U (List.replicate 32 0)) 30 HN.out HFT.out (U_one _) HSZ.out ?_; intro w3 HB3 HG3)
          have G3 : w2.grownBy w3 none := gb_fresh HG3.out
          have HR3 : Hid (w3.heap[w2.heap.size]? = some (.cells (U i.1).toArray 30 (0, 0))) := by
           have h1 := HB3.out
           rw [splice_id _ i.2] at h1
           exact h1
          have HBW3 : Hid (Below wf.heap.size wf w3) := HB2.out.trans ((below_of_gb G3).mono HB2.out.size)
          have HRG3 : Hid (RM w3 mk r4 ln D (fun z => left z && !z.sameKey (ik i)) cnt2) := HRG2.out.kept G3 (by simp) (by simp)
          have HOB3 : Hid (OM w3 mb ws.length E) := HOB2.out.kept G3 (by simp)
          have HDQ3 : Hid (DQ w3 wf.heap.size nbx nq A qn qc q) := HDQ2.out.below (below_of_gb G3)
          clear HB3 HG3 HN HB2 HRG2 G3 HFT HSZ HOB2 HDQ2
          by_cases hip : i = p0
          · subst hip
            have hq : q = [] := HQ.out.1 HLI.out
            subst hq
            have hnw : i ∉ ws := fun h => by
             obtain ⟨c, hc, hp⟩ := (HWA.out i).1 h
             have := (HCH.out.parent (k := 0) HC0.out.1 hc (by rw [HC0.out.2.1]; exact hp)).1
             omega
            have hlk : (Instr.lookup 84 (.map (some mb)) (.agg (U i.1).toArray) false).run Tryz.prog w3 = .ok (.int .i64 0) w3 := FunM.look HOB3.out HFW.out i 0 (by rw [if_neg hnw])
            have HRD := Lib.hid (ready_any w w3 B0 m a S Ds w.heap.size nbx nq qn qc A i HE.out (HBF.out.trans (HBW3.out.mono HBF.out.size)) (HSF.out.below HBW3.out HSF.out.lt) HDQ3.out.box HDQ3.out.dv (HCH.out.com i HI.out).1 (HCH.out.com i HI.out).2)
            clear hnw
            go_wp2_with (with_reducible refine wpList_load_row rfl 30 (.tmp 22) rfl w2.heap.size rfl 30 (U i.1).toArray (0, 0) _ HR3.out hu30 rfl HSZ2.out ?_)
            refine HRD.out.mono ?_
            rintro e w4 ⟨rfl, t, hp4⟩
            obtain ⟨⟨A', qn', qc', hdq4⟩, hb4, _, hom4, hrm4, _⟩ := HDQ3.out.post (Nat.le_trans HBW3.out.size (Nat.le_refl _)) hp4
            have HDQ4 := Lib.hid hdq4
            have HRG4 := Lib.hid (hrm4 _ _ _ _ _ _ HRG3.out)
            have HOM4 := Lib.hid (hom4 _ _ _ HOB3.out)
            have HB4 : Hid (Below wf.heap.size wf w4) := HBW3.out.trans hb4
            have HQ4 : Hid (((left (ik i) && !(ik i).sameKey (ik i)) = true → [(i, t)] = ([] : List Dat)) ∧ ((left (ik i) && !(ik i).sameKey (ik i)) = false → ∃ t', [(i, t)] = [(i, t')])) := by
             refine ⟨fun h => ?_, fun _ => ⟨t, rfl⟩⟩
             rw [left_at] at h
             simp at h
            clear hp4 hdq4 hb4 hom4 hrm4 HRD hlk HRG3 HOB3 HDQ3 HBW3 HQ
            go_wp2_with fail
            go_roundw
            case rel => exact ⟨_, cnt2, A', qn', qc', _, HRG4, left_in HLF.out, HOM4, HDQ4, HQ4, HB4⟩
            case measure => rw [HRG4.out.left_eq, hm]; exact HLT.out
          · have hiw : i ∈ ws := by
             rw [HWA.out, HCH.out.kids]
             obtain ⟨j, hj, e⟩ := at_D HI.out
             refine ⟨j, ?_, hj, e.symm⟩
             rcases Nat.eq_zero_or_pos j with h | h
             · subst h
               rw [HC0.out.2.1] at e
               exact absurd e.symm hip
             · exact h
            have hlk : (Instr.lookup 84 (.map (some mb)) (.agg (U i.1).toArray) false).run Tryz.prog w3 = .ok (.int .i64 1) w3 := FunM.look HOB3.out HFW.out i 1 (by rw [if_pos hiw])
            have HQ4 : Hid (((left (ik p0) && !(ik p0).sameKey (ik i)) = true → q = []) ∧ ((left (ik p0) && !(ik p0).sameKey (ik i)) = false → ∃ t', q = [(p0, t')])) := by
             unfold Hid
             rw [left_at, decide_eq_false (fun e => hip e.symm)]
             simpa using HQ.out
            clear hiw HQ hip
            go_wp2_with (with_reducible refine wpList_load_row rfl 30 (.tmp 22) rfl w2.heap.size rfl 30 (U i.1).toArray (0, 0) _ HR3.out hu30 rfl HSZ2.out ?_)
            go_roundw
            case rel => exact ⟨_, cnt2, A, qn, qc, q, HRG3, left_in HLF.out, HOB3, HDQ3, HQ4, HBW3⟩
            case measure => rw [HRG3.out.left_eq, hm]; exact HLT.out
     · intro x cv kl y1 y2 w2 cnt2 hx hlx hy hat hrg2 hlt hg2 hs2 hen
       obtain ⟨i, hi, rfl, rfl⟩ := keys_out HK0.out.1 hx (HLF.out kl hlx)
       have HB2 : Hid (Below wf.heap.size wf w2) := HB.out.trans (below_of_gb_some hg2 HRR.out.2 HB.out.size)
       have HRG2 := Lib.hid hrg2
       have hm := HRG.out.left_eq
       have HLT := Lib.hid hlt
       have HI : Hid (i ∈ ch) := (HK0.out.2.2 i).1 hi
       have HLI : Hid (left (ik i) = true) := hlx
       have HN := id_new w2
       have HSZ := Lib.hid (id_size _ i.2)
       have HSZ2 := Lib.hid (id_size' _ i.2)
       have HFT := Lib.hid (id_fit _ i.2)
       have HOB2 : Hid (OM w2 mb ws.length E) := HOB.out.1.kept hg2 (by have := HRR.out.1; simp; omega)
       have HFM : Hid (FunM (fun _ => 1) ws E) := HOB.out.2
       clear hx hlx hy hat hrg2 hlt hg2 hs2 hi HRG HB HOB
       go_upto_region 14 with (with_reducible refine wpList_storeG rfl 30 (.tmp 15) (.tmp 67) rfl w2.heap.size 0 (U i.1) rfl rfl (U (List.replicate 32 0)) 30 HN.out HFT.out (U_one _) HSZ.out ?_; intro w3 HB3 HG3)
       have G3 : w2.grownBy w3 none := gb_fresh HG3.out
       have HR3 : Hid (w3.heap[w2.heap.size]? = some (.cells (U i.1).toArray 30 (0, 0))) := by
        have h1 := HB3.out
        rw [splice_id _ i.2] at h1
        exact h1
       have HBW3 : Hid (Below wf.heap.size wf w3) := HB2.out.trans ((below_of_gb G3).mono HB2.out.size)
       have HRG3 : Hid (RM w3 mk rr ln D (fun z => left z && !z.sameKey (ik i)) cnt2) := HRG2.out.kept G3 (by simp) (by simp)
       have HOB3 : Hid (OM w3 mb ws.length E) := HOB2.out.kept G3 (by simp)
       have hcs3 : w3.cell? ⟨w.heap.size, 0, none⟩ = some (.pointer (some ⟨a, 0, none⟩)) := (HSF.out.below HBW3.out HSF.out.lt).cell 0
       obtain ⟨P, hP⟩ : ∃ P, P = prs S i := ⟨_, rfl⟩
       have HPA : Hid (Calls Tryz.prog 30 #[.pointer (some ⟨a, 0, none⟩), .agg (U i.1).toArray] w3 (ParP w3 P)) := by
        obtain ⟨l0, ls, hcl⟩ := HG.out.com i (HCH.out.com i HI.out).1 (HCH.out.com i HI.out).2
        have e : P = ls.map (·.1) := by rw [hP]; unfold prs; rw [hcl]; rfl
        rw [e]
        exact parents_any w w3 B0 m a S Ds i HE.out (HBF.out.trans (HBW3.out.mono HBF.out.size)) (HCH.out.com i HI.out).1 l0 ls hcl (by have := HG.out.wide i; rw [hcl] at this; simp at this; omega)
       have HPI : Hid (P = prs S i ∧ P.length ≤ 1) := ⟨hP, by rw [hP]; exact HCH.out.prs_le HI.out⟩
       have HNO : Hid (∀ p ∈ P, p ∉ ws ∧ p ∈ ks) := fun p hp => by
        rw [HPI.out.1] at hp
        refine ⟨fun h => ?_, (HK0.out.2.2 p).2 (HCH.out.prs_in HI.out hp)⟩
        obtain ⟨c, hc, hl, hpc⟩ := (HWS.out p).1 h
        have := HCH.out.one hc HI.out hpc hp
        rw [this, HLI.out] at hl
        cases hl
       have HWS3 : Hid (∀ j, j ∈ ws ++ P ↔ ∃ c ∈ ch, (left (ik c) && !(ik c).sameKey (ik i)) = false ∧ j ∈ prs S c) := fun j => by
        rw [List.mem_append, HWS.out]
        constructor
        · rintro (⟨c, hc, hl, hj⟩ | hj)
          · exact ⟨c, hc, by rw [hl]; rfl, hj⟩
          · exact ⟨i, HI.out, by rw [left_at]; simp, by rw [← HPI.out.1]; exact hj⟩
        · rintro ⟨c, hc, hl, hj⟩
          rw [left_at] at hl
          by_cases e : c = i
          · subst e
            exact .inr (by rw [HPI.out.1]; exact hj)
          · exact .inl ⟨c, hc, by simpa [e] using hl, hj⟩
       have hwl : ws.length ≤ 8000 := by
        have h2 := nodup_len HFM.out.nd (m := ks) (fun j hj => by
         obtain ⟨c, hc, _, hjc⟩ := (HWS.out j).1 hj
         exact (HK0.out.2.2 j).2 (HCH.out.prs_in hc hjc))
        have := HLN.out
        omega
       clear HB3 HG3 HN HB2 HRG2 G3 HFT HSZ HOB2 HWS hP
       go_wp2_with (with_reducible refine wpList_load_row rfl 30 (.tmp 15) rfl w2.heap.size rfl 30 (U i.1).toArray (0, 0) _ HR3.out hu30 rfl HSZ2.out ?_)
       refine HPA.out.mono ?_
       rintro e w4 ⟨A, kp, rfl, hop, hb4⟩
       have HB4 : Hid (Below wf.heap.size wf w4) := HBW3.out.trans (hb4.mono HBW3.out.size)
       have HRG4 : Hid (RM w4 mk rr ln D (fun z => left z && !z.sameKey (ik i)) cnt2) := HRG3.out.kept (gb_of_below hb4 none) (by simp) (by simp)
       have HOB4 : Hid (OM w4 mb ws.length E) := HOB3.out.kept (gb_of_below hb4 none) (by simp)
       have HOP := Lib.hid hop
       clear hb4 hop HPA HRG3 HOB3 HBW3 HR3 HSZ2 hcs3
       cases P with
       | nil =>
         have HWS4 := HWS3.out
         rw [List.append_nil] at HWS4
         replace HWS4 := Lib.hid HWS4
         clear HWS3 HPI HOP HNO
         simp only [List.length_nil]
         go_wp2_with fail
         refine wp_loop_rounds 1 ?_
         rw [rounds_succ]
         go_wp2_with fail
         go_roundw
         case rel => exact ⟨_, cnt2, ws, E, HRG4, left_in HLF.out, ⟨HOB4.out, HFM.out⟩, HWS4, HB4⟩
         case measure => rw [HRG4.out.left_eq, hm]; exact HLT.out
       | cons p P' =>
         cases P' with
         | cons p' P'' => exact absurd HPI.out.2 (by simp)
         | nil =>
           obtain ⟨q2, rfl, hq2, hrq2, hkp⟩ := own_ids HOP.out (by simp)
           have hkp1 : 1 ≤ kp := hkp
           have e1 : IdsU [p] = U p.1 := by simp [IdsU]
           rw [e1] at hrq2
           have HRP := Lib.hid hrq2
           have HSP := Lib.hid (id_size _ p.2)
           have HSP2 := Lib.hid (id_size' _ p.2)
           have HFP := Lib.hid (id_fit _ p.2)
           have HNP := id_new w4
           have HNI := Lib.hid (HNO.out p (by simp))
           clear HPI HOP hq2 hrq2 hkp e1 HNO
           simp only [List.length_singleton]
           go_wp2_with fail
           refine wp_loop_rounds 2 ?_
           rw [rounds_succ]
           go_upto_region 17 with (first
            | (with_reducible refine wpList_load_mid rfl 30 (.tmp 74) rfl q2 0 rfl (U p.1) _ HRP.out hu30 rfl HSP.out ?_)
            | (with_reducible refine wpList_storeG rfl 30 (.tmp 17) (.tmp 75) rfl w4.heap.size 0 (U p.1) rfl rfl (U (List.replicate 32 0)) 30 HNP.out HFP.out (U_one _) HSP.out ?_; intro w5 HB5 HG5))
           have G5 : w4.grownBy w5 none := gb_fresh HG5.out
           have hb5 : Blk w5 w4.heap.size 30 (U p.1).toArray := by
            have h1 := HB5.out
            rw [splice_id _ p.2] at h1
            exact h1
           have HR5 : Hid (w5.heap[w4.heap.size]? = some (.cells (U p.1).toArray 30 (0, 0))) := hb5
           have HBW5 : Hid (Below wf.heap.size wf w5) := HB4.out.trans ((below_of_gb G5).mono HB4.out.size)
           have HRG5 : Hid (RM w5 mk rr ln D (fun z => left z && !z.sameKey (ik i)) cnt2) := HRG4.out.kept G5 (by simp) (by simp)
           have HOB5 : Hid (OM w5 mb ws.length E) := HOB4.out.kept G5 (by simp)
           obtain ⟨vx, hlk⟩ := FunM.look2 HRG5.out.owns HK0.out.1 p
           rw [decide_eq_true HNI.out.2] at hlk
           have hrp : w5.drew.rangeAt w4.heap.size 0 (U p.1) := id_rangeB hb5.drew
           have hwr1 : IntKind.i64.wrap 1 = 1 := by decide
           obtain ⟨st, wm, wn, hme, htm, hlm, hes, hown6, ht6⟩ := FunM.entry (w := w5.drew) HOB5.out HFM.out (by unfold maxLen; omega) p 0 1 (by rw [if_neg HNI.out.1]) (by decide) (by decide)
           have hlw : (Instr.lookup 84 (.map (some mb)) (.agg (U p.1).toArray) false).run Tryz.prog w5.drew = .ok (.int .i64 0) w5.drew := FunM.look (w := w5.drew) HOB5.out HFM.out p 0 (by rw [if_neg HNI.out.1])
           have hne6 : mb ≠ w4.heap.size := ownsMap_apart HOB5.out hb5
           have hrp1 : wm.rangeAt w4.heap.size 0 (U p.1) := id_rangeB (mapTurned_blk hb5.drew htm hne6)
           have hrp2 : wn.rangeAt w4.heap.size 0 (U p.1) := id_rangeB (mapTurned_blk hb5.drew ht6 hne6)
           have hme : (Instr.mapEntry 84 (.map (some mb)) (.agg (U p.1).toArray)).run Tryz.prog w5.drew = .ok (.tuple #[.int .i64 0, .int .i64 (st : Int)]) wm := hme
           have hlm : (Instr.lookup 84 (.map (some mb)) (.agg (U p.1).toArray) false).run Tryz.prog wm = .ok (.int .i64 0) wm := hlm
           have hes : (Instr.entryStore 84 (.map (some mb)) (.int .i64 (st : Int)) (.int .i64 1)).run Tryz.prog wm = .ok () wn := hes
           have hrd : RM w5.drew mk rr ln D (fun z => left z && !z.sameKey (ik i)) cnt2 := HRG5.out
           have HRG6 : Hid (RM wn mk rr ln D (fun z => left z && !z.sameKey (ik i)) cnt2) := hrd.kept ht6.grown (by have := HMBL.out; have := HMK2.out; simp; omega) (by have := HRR.out; simp; omega)
           have HB6 : Hid (Below wf.heap.size wf wn) := below_turned HBW5.out.drew ht6 HMBL.out.1 HBW5.out.size
           have HO6 : Hid (OM wn mb (ws ++ [p]).length (E.put (ik p) (.lit (.int .i64 ((1 : Nat) : Int)))) ∧ FunM (fun _ => 1) (ws ++ [p]) (E.put (ik p) (.lit (.int .i64 ((1 : Nat) : Int))))) := ⟨by rw [List.length_append]; exact hown6, HFM.out.put (tidyM HOB5.out) p HNI.out.1 1 rfl⟩
           clear HB5 HG5 HNP HFP HRP G5 HRG4 HOB4 HB4 HRG5 HBW5 HOB5 hb5 htm hown6 ht6 hne6 hrd
           go_upto_region 19 with (with_reducible refine wpList_load_row rfl 30 (.tmp 17) rfl w4.heap.size rfl 30 (U p.1).toArray (0, 0) _ HR5.out hu30 rfl HSP2.out ?_)
           refine wp_region_noPanic ?_
           refine wp_region_held_drew (S := fun w' => w'.rangeAt w4.heap.size 0 (U p.1)) (by kernel_rfl) hrp (fun hHeld => ?_)
           refine wpAnyH_take (i := 0) (oi := { dst := some 83, op := Go.Op.move (Go.Operand.tmp 14), type := 84, pos := "walk.go:274", after := #[], guard := none }) (v := .map (some mb)) rfl (by kernel_rfl) ?_ ?_ ?_ ?_ hHeld ?_
           · kernel_rfl
           · kernel_rfl
           · exact fun _ _ _ h => h
           · exact Or.inl ⟨by rfl, fun w' _ => by go_simp⟩
           (try simp only [Act.put, List.setIfInBounds_toArray, List.set_cons_zero, List.set_cons_succ])
           refine wpAnyH_take (i := 1) (oi := { dst := some 84, op := Go.Op.load 30 (Go.Operand.tmp 17), type := 30, pos := "walk.go:274", after := #[], guard := none }) (v := .agg ((U p.1)).toArray) rfl (by kernel_rfl) ?_ ?_ ?_ ?_ hHeld ?_
           · kernel_rfl
           · kernel_rfl
           · exact fun _ _ _ h => h
           · exact yieldsIf_load_mid (by rfl) 30 (.tmp 17) rfl w4.heap.size 0 rfl (U p.1) _ (fun w' h => h) hu30 rfl HSP.out
           (try simp only [Act.put, List.setIfInBounds_toArray, List.set_cons_zero, List.set_cons_succ])
           refine wpAnyH_ready (rs := [2, 4]) (by kernel_rfl) (by simp) ?_
           refine AllReadyH.cons (o := { dst := some 85, op := Go.Op.lookup 84 (Go.Operand.tmp 83) (Go.Operand.tmp 84) false, type := 3, pos := "walk.go:274", after := #[{ on := 0, ground := Go.Ground.data }, { on := 1, ground := Go.Ground.data }], guard := none }) rfl (fun K hK => ?_) (AllReadyH.cons (o := { dst := some 87, op := Go.Op.mapEntry 84 (Go.Operand.tmp 83) (Go.Operand.tmp 84), type := 0, pos := "walk.go:274", after := #[{ on := 0, ground := Go.Ground.data }, { on := 1, ground := Go.Ground.data }, { on := 0, ground := Go.Ground.phase }, { on := 1, ground := Go.Ground.phase }, { on := 2, ground := Go.Ground.textOnly Go.Departure.mapOpAssignEntry }, { on := 3, ground := Go.Ground.textOnly Go.Departure.mapOpAssignEntry }], guard := none }) rfl (fun K hK => ?_) AllReadyH.nil)
           · go_simp
             refine hK.out _ _ hrp (fun hHeld => ?_)
             clear hK K
             (try simp only [Act.put, List.setIfInBounds_toArray, List.set_cons_zero, List.set_cons_succ])
             refine wpAnyH_take (i := 3) (oi := { dst := some 86, op := Go.Op.binOp Go.BinOp.add 3 (Go.Operand.tmp 85) (Go.Operand.const (Go.Value.int Go.IntKind.i64 1)) 3, type := 3, pos := "walk.go:274", after := #[{ on := 2, ground := Go.Ground.data }], guard := none }) (v := .int .i64 1) rfl (by kernel_rfl) ?_ ?_ ?_ ?_ hHeld ?_
             · kernel_rfl
             · kernel_rfl
             · exact fun _ _ _ h => h
             · exact Or.inl ⟨by rfl, fun w' _ => by go_simp⟩
             (try simp only [Act.put, List.setIfInBounds_toArray, List.set_cons_zero, List.set_cons_succ])
             refine wpAnyH_ready (rs := [4]) (by kernel_rfl) (by simp) ?_
             refine AllReadyH.cons (o := { dst := some 87, op := Go.Op.mapEntry 84 (Go.Operand.tmp 83) (Go.Operand.tmp 84), type := 0, pos := "walk.go:274", after := #[{ on := 0, ground := Go.Ground.data }, { on := 1, ground := Go.Ground.data }, { on := 0, ground := Go.Ground.phase }, { on := 1, ground := Go.Ground.phase }, { on := 2, ground := Go.Ground.textOnly Go.Departure.mapOpAssignEntry }, { on := 3, ground := Go.Ground.textOnly Go.Departure.mapOpAssignEntry }], guard := none }) rfl (fun K hK => ?_) AllReadyH.nil
             go_simp
             refine hK.out _ _ hrp1 (fun hHeld => ?_)
             clear hK K
             (try simp only [Act.put, List.setIfInBounds_toArray, List.set_cons_zero, List.set_cons_succ])
             refine wpAnyH_take (i := 5) (oi := { dst := some 88, op := Go.Op.extract (Go.Operand.tmp 87) 1, type := 3, pos := "walk.go:274", after := #[{ on := 4, ground := Go.Ground.data }], guard := none }) (v := .int .i64 (st : Int)) rfl (by kernel_rfl) ?_ ?_ ?_ ?_ hHeld ?_
             · kernel_rfl
             · kernel_rfl
             · exact fun _ _ _ h => h
             · exact Or.inl ⟨by rfl, fun w' _ => by go_simp⟩
             (try simp only [Act.put, List.setIfInBounds_toArray, List.set_cons_zero, List.set_cons_succ])
             refine wpAnyH_ready (rs := [6]) (by kernel_rfl) (by simp) ?_
             refine AllReadyH.cons (o := { dst := none, op := Go.Op.entryStore 84 (Go.Operand.tmp 83) (Go.Operand.tmp 88) (Go.Operand.tmp 86), type := 0, pos := "walk.go:274", after := #[{ on := 0, ground := Go.Ground.data }, { on := 5, ground := Go.Ground.data }, { on := 3, ground := Go.Ground.data }, { on := 4, ground := Go.Ground.chain }, { on := 0, ground := Go.Ground.phase }, { on := 1, ground := Go.Ground.phase }, { on := 2, ground := Go.Ground.phase }, { on := 3, ground := Go.Ground.phase }, { on := 4, ground := Go.Ground.phase }, { on := 5, ground := Go.Ground.phase }], guard := none }) rfl (fun K hK => ?_) AllReadyH.nil
             go_simp
             refine hK.out _ _ hrp2 (fun hHeld => ?_)
             clear hK K
             (try simp only [Act.put, List.setIfInBounds_toArray, List.set_cons_zero, List.set_cons_succ])
             refine wpAnyH_done (by kernel_rfl) ?_ _
             refine NoPanic.normal ?_
             clear hrp hrp1 hrp2 hme hlm hes hlw hlk HR5
             go_wp2_with fail
             rw [rounds_succ]
             go_wp2_with fail
             go_roundw
             case rel => exact ⟨_, cnt2, _, _, HRG6, left_in HLF.out, HO6, HWS3, HB6⟩
             case measure => rw [HRG6.out.left_eq, hm]; exact HLT.out
           · go_simp
             refine hK.out _ _ hrp1 (fun hHeld => ?_)
             clear hK K
             (try simp only [Act.put, List.setIfInBounds_toArray, List.set_cons_zero, List.set_cons_succ])
             refine wpAnyH_take (i := 5) (oi := { dst := some 88, op := Go.Op.extract (Go.Operand.tmp 87) 1, type := 3, pos := "walk.go:274", after := #[{ on := 4, ground := Go.Ground.data }], guard := none }) (v := .int .i64 (st : Int)) rfl (by kernel_rfl) ?_ ?_ ?_ ?_ hHeld ?_
             · kernel_rfl
             · kernel_rfl
             · exact fun _ _ _ h => h
             · exact Or.inl ⟨by rfl, fun w' _ => by go_simp⟩
             (try simp only [Act.put, List.setIfInBounds_toArray, List.set_cons_zero, List.set_cons_succ])
             refine wpAnyH_ready (rs := [2]) (by kernel_rfl) (by simp) ?_
             refine AllReadyH.cons (o := { dst := some 85, op := Go.Op.lookup 84 (Go.Operand.tmp 83) (Go.Operand.tmp 84) false, type := 3, pos := "walk.go:274", after := #[{ on := 0, ground := Go.Ground.data }, { on := 1, ground := Go.Ground.data }], guard := none }) rfl (fun K hK => ?_) AllReadyH.nil
             go_simp
             refine hK.out _ _ hrp1 (fun hHeld => ?_)
             clear hK K
             (try simp only [Act.put, List.setIfInBounds_toArray, List.set_cons_zero, List.set_cons_succ])
             refine wpAnyH_take (i := 3) (oi := { dst := some 86, op := Go.Op.binOp Go.BinOp.add 3 (Go.Operand.tmp 85) (Go.Operand.const (Go.Value.int Go.IntKind.i64 1)) 3, type := 3, pos := "walk.go:274", after := #[{ on := 2, ground := Go.Ground.data }], guard := none }) (v := .int .i64 1) rfl (by kernel_rfl) ?_ ?_ ?_ ?_ hHeld ?_
             · kernel_rfl
             · kernel_rfl
             · exact fun _ _ _ h => h
             · exact Or.inl ⟨by rfl, fun w' _ => by go_simp⟩
             (try simp only [Act.put, List.setIfInBounds_toArray, List.set_cons_zero, List.set_cons_succ])
             refine wpAnyH_ready (rs := [6]) (by kernel_rfl) (by simp) ?_
             refine AllReadyH.cons (o := { dst := none, op := Go.Op.entryStore 84 (Go.Operand.tmp 83) (Go.Operand.tmp 88) (Go.Operand.tmp 86), type := 0, pos := "walk.go:274", after := #[{ on := 0, ground := Go.Ground.data }, { on := 5, ground := Go.Ground.data }, { on := 3, ground := Go.Ground.data }, { on := 4, ground := Go.Ground.chain }, { on := 0, ground := Go.Ground.phase }, { on := 1, ground := Go.Ground.phase }, { on := 2, ground := Go.Ground.phase }, { on := 3, ground := Go.Ground.phase }, { on := 4, ground := Go.Ground.phase }, { on := 5, ground := Go.Ground.phase }], guard := none }) rfl (fun K hK => ?_) AllReadyH.nil
             go_simp
             refine hK.out _ _ hrp2 (fun hHeld => ?_)
             clear hK K
             (try simp only [Act.put, List.setIfInBounds_toArray, List.set_cons_zero, List.set_cons_succ])
             refine wpAnyH_done (by kernel_rfl) ?_ _
             refine NoPanic.normal ?_
             clear hrp hrp1 hrp2 hme hlm hes hlw hlk HR5
             go_wp2_with fail
             rw [rounds_succ]
             go_wp2_with fail
             go_roundw
             case rel => exact ⟨_, cnt2, _, _, HRG6, left_in HLF.out, HO6, HWS3, HB6⟩
             case measure => rw [HRG6.out.left_eq, hm]; exact HLT.out
  · intro x cv kl y1 y2 w2 cnt2 hx hlx hy hat hrg2 hlt hg2 hs2 hen
    exfalso
    obtain ⟨i, hi, _⟩ := keys_out HKO.out hx (HLF.out kl hlx)
    cases hi
end Go.Proofs.YtnjhjbmngoeobaaGreatDoor
