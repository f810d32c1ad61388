/- Laws towards WalkDeep: WhoA, SrtC. -/
import Derived.Test.YtnjhjbmngoeobaaGreatDoorMg20
import Derived.Laws.MakeOwn
namespace Go.Proofs.YtnjhjbmngoeobaaGreatDoor
open Go.RowKit Go.Maps
set_option maxRecDepth 100000
def Who1 (w : World) (mk r : Nat) (n : Nat) (D : DataW Value) (wr : World) : Prop :=
 ∃ (left : Lit → Bool) (cnt : Nat), Hid (wr.ranges Tryz.prog 30 (plainElem Tryz.prog 3) mk r n D left cnt) ∧ Hid (∀ kl, left kl = true → has D kl = true) ∧ Hid (Below w.heap.size w wr)
def Who2 (w : World) (n : Nat) (v : Value) (wr : World) : Prop := ∃ j : Nat, j ≤ n ∧ v = .int .i64 (j : Int) ∧ Hid (Below w.heap.size w wr)
structure SeenV (w : World) (B xs mk : Nat) (LA : Option Addr) (lc : Nat) (S : Sto) (c : Cst) (D : DataW Value) : Prop where
 seen : Blk w xs 87 #[.map (some mk), .slice LA c.ls.length lc]
 lks : w.ownsRow B 106 33 (.slice LA c.ls.length lc) c.ls.length (LnkU c.ls)
 mp : w.ownsMap Tryz.prog 30 (plainElem Tryz.prog 3) mk c.ks.length D
 km : KindM S c.ks D
theorem SeenV.below {w w' : World} {B xs mk : Nat} {LA : Option Addr} {lc : Nat} {S : Sto} {c : Cst} {D : DataW Value} (h : SeenV w B xs mk LA lc S c D) (hb : Below w.heap.size w w') : SeenV w' B xs mk LA lc S c D :=
 ⟨h.seen.below hb h.seen.lt, own_below h.lks hb, h.mp.kept (gb_of_below hb none) (by simp), h.km⟩
theorem int_inv (v : Value) (y : DataW Value × List MemPlace) (h : plainElem Tryz.prog 3 v = some y) : ∃ c : Int, v = .int .i64 c := by
 obtain ⟨x, rfl, _, _⟩ := plainElem_int_inv und3 h
 exact ⟨x, rfl⟩
theorem kind_out {S : Sto} {ks : List Id} {D : DataW Value} (h : KindM S ks D) {x : Value} {c : Int} {kl : Lit} {y : DataW Value × List MemPlace} (hx : keyOf Tryz.prog 30 x = some kl) (hk : has D kl = true) (hy : plainElem Tryz.prog 3 (.int .i64 c) = some y) (hat : ∀ zd, D.atKey kl zd = y.1) :
 ∃ i ∈ ks, kl = ik i ∧ x = .agg (U i.1).toArray ∧ c = (kindS S i : Int) := by
 obtain ⟨i, hi, rfl⟩ := h.only kl hk
 refine ⟨i, hi, rfl, ?_, ?_⟩
 · exact key_law.inj hx (ik_key i)
 · have h1 := hat (.lit (.int .i64 0))
   rw [h.at_ i hi] at h1
   obtain ⟨x, e, e2, _⟩ := plainElem_int_inv und3 hy
   injection e with _ e3
   subst e3
   rw [e2] at h1
   injection h1 with h1
   injection h1 with _ h2
   exact h2.symm
set_option maxHeartbeats 4000000 in
theorem whole_any (w : World) (B xs mk : Nat) (LA : Option Addr) (lc : Nat) (S : Sto) (c : Cst) (D : DataW Value) (h : SeenV w B xs mk LA lc S c D) (h0 : ∀ i ∈ c.ks, kindS S i ≠ 0) (h1 : ∀ l ∈ c.ls, l.1 ∈ c.ks ∧ kindS S l.1 = l.2) (hn : c.ls.length ≤ 1000000) :
 Calls Tryz.prog 26 #[.pointer (some ⟨xs, 0, none⟩)] w fun e w' => e = .returned (.int .i64 0) ∧ Below w.heap.size w w' := by
 have hcm : w.cell? ⟨xs, 0, none⟩ = some (.map (some mk)) := h.seen.cell 0
 have HV := Lib.hid h
 have H0 := Lib.hid h0
 have H1 := Lib.hid h1
 obtain ⟨ln, hln⟩ : ∃ ln, ln = c.ls.length := ⟨_, rfl⟩
 have hlnb : ln ≤ 1000000 := by omega
 have HLN := Lib.hid hln
 have hmap := h.mp
 clear h h0 h1 hn hln
 go_enter Tryz.func26, Tryz.ntmps26
 go_wp2_with (first
  | (at_range; refine wpList_range_own _ rfl (.tmp 10) 84 rfl 30 3 key_law Tryz.underlying84 _ mk c.ks.length D rfl hmap ?_; intro w1 hrg1 hg1 hs1)
  | fail)
 go_frame
 have HRG := Lib.hid hrg1
 have HB : Hid (Below w.heap.size w w1) := below_of_gb hg1
 clear hmap hrg1 hg1 hs1 hcm
 go_loopw [4] (fun _ wr => Who1 w mk w.heap.size c.ks.length D wr) (fun _ wr => wr.rangeLeft mk w.heap.size)
 case atStart => exact ⟨_, _, HRG, fun _ h => h, HB⟩
 case round =>
  clear HRG HB
  obtain ⟨left, cnt, HRG, HLF, HB⟩ := hrel
  go_wp2_with (first
   | (at_next; refine wpList_next_ranges wr rfl (.tmp 11) rfl 30 key_law (plainElem Tryz.prog 3) (fun v : Value => v) (fun c : Int => .int .i64 c) (fun key _ _ => ⟨key, rfl⟩) int_inv mk w.heap.size c.ks.length D left cnt rfl HRG.out ?_ ?_)
   | fail)
  · intro _ _
    have hcl : wr.cell? ⟨xs, 1, none⟩ = some (.slice LA ln lc) := by rw [HLN.out]; exact (HV.out.below HB.out).seen.cell 1
    clear HRG HLF
    go_wp2_with fail
    go_loopw [23] (fun v wr => Who2 w ln v wr) (fun v _ => ln - (intOf v).toNat)
    case atStart => exact ⟨0, by omega, rfl, HB⟩
    case round =>
     clear HB hcl
     obtain ⟨j, hj, rfl, HB⟩ := hrel
     have hjb : j ≤ 1000000 := by omega
     by_cases hlt : j < ln
     · have hd : decide ((j : Int) < (ln : Int)) = true := decide_eq_true (by omega)
       have hd' : decide (j < ln) = true := decide_eq_true hlt
       have hsv := HV.out.below HB.out
       obtain ⟨l, hl⟩ : ∃ l, l = c.ls.getD j (zeroId, 0) := ⟨_, rfl⟩
       have hjl : j < c.ls.length := by rw [← HLN.out]; exact hlt
       have hlm : l ∈ c.ls := by rw [hl, List.getD_eq_getElem?_getD, List.getElem?_eq_getElem hjl]; exact List.getElem_mem _
       obtain ⟨q, hLA, hqr⟩ : ∃ q, LA = some ⟨q, 0, none⟩ ∧ wr.rangeAt q (0 + j * 33) (lnkV l) := by
        obtain ⟨q, cap, hv, _, _⟩ := hsv.lks.form (by omega)
        injection hv with hv1
        refine ⟨q, hv1, fun k v hk => ?_⟩
        have := hsv.lks.cells (g := q) (by rw [hv1]; rfl) (j * 33 + k) v (LnkU_at c.ls j k v hjl (by rw [← hl]; exact hk))
        rw [addr_add, Nat.zero_add] at this
        rw [Nat.zero_add]
        exact this
       subst hLA
       have HRL := Lib.hid hqr
       have hqr0 : wr.rangeAt q (j * 33) (lnkV l) := by rw [Nat.zero_add] at hqr; exact hqr
       have HRL0 := Lib.hid hqr0
       have HSL2 := Lib.hid (lnkV_size l)
       have HFL := Lib.hid (lnk_fit l)
       have HNL := lnk_new wr
       have hb0 : (0 : Int) ≤ (j : Int) := by omega
       have hb2 : (j : Int) < (ln : Int) := by omega
       have hu157 := Tryz.underlying106
       have HK1 := Lib.hid (H1.out l hlm)
       have HJ := Lib.hid hlt
       clear hsv hl hlm hqr hqr0 hlt hjl
       go_upto_region 9 with (first
        | (with_reducible refine wpList_load_mid rfl 106 (.tmp 25) rfl q (j * 33) rfl (lnkV l) _ HRL0.out hu157 rfl HSL2.out ?_)
        | (with_reducible refine wpList_load_mid rfl 106 (.tmp 25) rfl q (0 + j * 33) rfl (lnkV l) _ HRL.out hu157 rfl HSL2.out ?_)
        | (with_reducible refine wpList_storeG rfl 106 (.tmp 6) (.tmp 26) rfl wr.heap.size 0 (lnkV l) rfl rfl (lnkV (zeroId, 0)) 106 HNL.out HFL.out (lnkV_one _) HSL2.out ?_; intro w8 HB8 HG8))
       have G8 : wr.grownBy w8 none := gb_fresh HG8.out
       have hbl8 : Blk w8 wr.heap.size 106 (lnkV l).toArray := by
        have h1 := HB8.out
        rw [splice_lnk] at h1
        exact h1
       have HB8' : Hid (Below w.heap.size w w8.drew) := (HB.out.trans ((below_of_gb G8).mono HB.out.size)).drew
       have hsv8 := HV.out.below HB8'.out
       have hr8 := lnk_range hbl8
       have hk8 : w8.drew.cell? ⟨wr.heap.size, 32, none⟩ = some (.int .i64 (l.2 : Int)) := by
        have := hr8 32 (.int .i64 (l.2 : Int)) (by unfold lnkV; rw [List.getElem?_append_right (by rw [U_length, l.1.2]; exact Nat.le_refl _), U_length, l.1.2]; rfl)
        rw [Nat.zero_add] at this
        exact this
       have HS9 : Hid (w8.drew.cell? ⟨xs, 0, none⟩ = some (.map (some mk)) ∧ w8.drew.rangeAt wr.heap.size 0 (U l.1.1) ∧ w8.drew.cell? ⟨wr.heap.size, 32, none⟩ = some (.int .i64 (l.2 : Int)) ∧ (Instr.lookup 84 (.map (some mk)) (.agg (U l.1.1).toArray) false).run Tryz.prog w8.drew = .ok (.int .i64 (kindS S l.1 : Int)) w8.drew) := ⟨hsv8.seen.cell 0, lnk_range_id hr8, hk8, KindM.look0 hsv8.mp hsv8.km l.1 HK1.out.1⟩
       have hu30 := Tryz.underlying30
       have HSZi := Lib.hid (id_size _ l.1.2)
       have hkk := HK1.out.2
       have hne : ((kindS S l.1 : Int) != (l.2 : Int)) = false := by rw [hkk]; simp
       have hne2 : decide ((kindS S l.1 : Int) = (l.2 : Int)) = true := by rw [hkk]; simp
       clear hsv8 hr8 hk8 hbl8 G8 HB8 HG8 HNL HFL HSL2 HRL HRL0 HB hkk
       refine wp_region_noPanic ?_
       refine wp_region_held_drew (S := fun w' => w'.cell? ⟨xs, 0, none⟩ = some (.map (some mk)) ∧ w'.rangeAt wr.heap.size 0 (U l.1.1) ∧ w'.cell? ⟨wr.heap.size, 32, none⟩ = some (.int .i64 (l.2 : Int)) ∧ (Instr.lookup 84 (.map (some mk)) (.agg (U l.1.1).toArray) false).run Tryz.prog w' = .ok (.int .i64 (kindS S l.1 : Int)) w') (by kernel_rfl) HS9.out (fun hHeld => ?_)
       refine wpAnyH_take (i := 0) (oi := { dst := some 27, op := Go.Op.move (Go.Operand.tmp 0), type := 79, pos := "walk.go:103", after := #[], guard := none }) (v := .pointer (some ⟨xs, 0, none⟩)) rfl (by kernel_rfl) ?_ ?_ ?_ ?_ hHeld ?_
       · kernel_rfl
       · kernel_rfl
       · exact fun _ _ _ h => h
       · exact Or.inl ⟨by rfl, fun w' _ => by go_simp⟩
       (try simp only [Act.put, List.setIfInBounds_toArray, List.set_cons_zero, List.set_cons_succ])
       refine wpAnyH_take (i := 1) (oi := { dst := some 28, op := Go.Op.nilCheck (Go.Operand.tmp 27), type := 0, pos := "walk.go:103", after := #[{ on := 0, ground := Go.Ground.data }], guard := none }) (v := .pointer (some ⟨xs, 0, none⟩)) rfl (by kernel_rfl) ?_ ?_ ?_ ?_ hHeld ?_
       · kernel_rfl
       · kernel_rfl
       · exact fun _ _ _ h => h
       · exact Or.inl ⟨by rfl, fun w' _ => by go_simp⟩
       (try simp only [Act.put, List.setIfInBounds_toArray, List.set_cons_zero, List.set_cons_succ])
       refine wpAnyH_take (i := 2) (oi := { dst := some 29, op := Go.Op.fieldAddr 87 (Go.Operand.tmp 28) 0, type := 0, pos := "walk.go:103", after := #[{ on := 1, ground := Go.Ground.data }], guard := none }) (v := .pointer (some ⟨xs, 0, none⟩)) rfl (by kernel_rfl) ?_ ?_ ?_ ?_ hHeld ?_
       · kernel_rfl
       · kernel_rfl
       · exact fun _ _ _ h => h
       · exact Or.inl ⟨by rfl, fun w' _ => by go_simp⟩
       (try simp only [Act.put, List.setIfInBounds_toArray, List.set_cons_zero, List.set_cons_succ])
       refine wpAnyH_take (i := 3) (oi := { dst := some 30, op := Go.Op.load 84 (Go.Operand.tmp 29), type := 84, pos := "walk.go:103", after := #[{ on := 2, ground := Go.Ground.data }], guard := none }) (v := .map (some mk)) rfl (by kernel_rfl) ?_ ?_ ?_ ?_ hHeld ?_
       · kernel_rfl
       · kernel_rfl
       · exact fun _ _ _ h => h
       · exact Or.inl ⟨by rfl, fun w' hSw => by (try dsimp only at hSw); go_simp⟩
       (try simp only [Act.put, List.setIfInBounds_toArray, List.set_cons_zero, List.set_cons_succ])
       refine wpAnyH_take (i := 4) (oi := { dst := some 31, op := Go.Op.fieldAddr 106 (Go.Operand.tmp 6) 0, type := 0, pos := "walk.go:103", after := #[], guard := none }) (v := .pointer (some ⟨wr.heap.size, 0, none⟩)) rfl (by kernel_rfl) ?_ ?_ ?_ ?_ hHeld ?_
       · kernel_rfl
       · kernel_rfl
       · exact fun _ _ _ h => h
       · exact Or.inl ⟨by rfl, fun w' _ => by go_simp⟩
       (try simp only [Act.put, List.setIfInBounds_toArray, List.set_cons_zero, List.set_cons_succ])
       refine wpAnyH_take (i := 5) (oi := { dst := some 32, op := Go.Op.load 30 (Go.Operand.tmp 31), type := 30, pos := "walk.go:103", after := #[{ on := 4, ground := Go.Ground.data }], guard := none }) (v := .agg ((U l.1.1)).toArray) rfl (by kernel_rfl) ?_ ?_ ?_ ?_ hHeld ?_
       · kernel_rfl
       · kernel_rfl
       · exact fun _ _ _ h => h
       · exact yieldsIf_load_mid (by rfl) 30 (.tmp 31) rfl wr.heap.size 0 rfl (U l.1.1) _ (fun w' h => h.2.1) hu30 rfl HSZi.out
       (try simp only [Act.put, List.setIfInBounds_toArray, List.set_cons_zero, List.set_cons_succ])
       refine wpAnyH_take (i := 6) (oi := { dst := some 33, op := Go.Op.lookup 84 (Go.Operand.tmp 30) (Go.Operand.tmp 32) false, type := 3, pos := "walk.go:103", after := #[{ on := 3, ground := Go.Ground.data }, { on := 5, ground := Go.Ground.data }], guard := none }) (v := .int .i64 (kindS S l.1 : Int)) rfl (by kernel_rfl) ?_ ?_ ?_ ?_ hHeld ?_
       · kernel_rfl
       · kernel_rfl
       · exact fun _ _ _ h => h
       · exact Or.inl ⟨by rfl, fun w' hSw => by (try dsimp only at hSw); go_simp⟩
       (try simp only [Act.put, List.setIfInBounds_toArray, List.set_cons_zero, List.set_cons_succ])
       refine wpAnyH_take (i := 7) (oi := { dst := some 34, op := Go.Op.fieldAddr 106 (Go.Operand.tmp 6) 1, type := 0, pos := "walk.go:103", after := #[], guard := none }) (v := .pointer (some ⟨wr.heap.size, 32, none⟩)) rfl (by kernel_rfl) ?_ ?_ ?_ ?_ hHeld ?_
       · kernel_rfl
       · kernel_rfl
       · exact fun _ _ _ h => h
       · exact Or.inl ⟨by rfl, fun w' _ => by go_simp⟩
       (try simp only [Act.put, List.setIfInBounds_toArray, List.set_cons_zero, List.set_cons_succ])
       refine wpAnyH_take (i := 8) (oi := { dst := some 35, op := Go.Op.load 3 (Go.Operand.tmp 34), type := 3, pos := "walk.go:103", after := #[{ on := 7, ground := Go.Ground.data }], guard := none }) (v := .int .i64 (l.2 : Int)) rfl (by kernel_rfl) ?_ ?_ ?_ ?_ hHeld ?_
       · kernel_rfl
       · kernel_rfl
       · exact fun _ _ _ h => h
       · exact Or.inl ⟨by rfl, fun w' hSw => by (try dsimp only at hSw); go_simp⟩
       (try simp only [Act.put, List.setIfInBounds_toArray, List.set_cons_zero, List.set_cons_succ])
       refine wpAnyH_take (i := 9) (oi := { dst := some 36, op := Go.Op.binOp Go.BinOp.neq 3 (Go.Operand.tmp 33) (Go.Operand.tmp 35) 3, type := 4, pos := "walk.go:103", after := #[{ on := 6, ground := Go.Ground.data }, { on := 8, ground := Go.Ground.data }], guard := none }) (v := .bool false) rfl (by kernel_rfl) ?_ ?_ ?_ ?_ hHeld ?_
       · kernel_rfl
       · kernel_rfl
       · exact fun _ _ _ h => h
       · exact Or.inl ⟨by rfl, fun w' _ => by go_simp⟩
       (try simp only [Act.put, List.setIfInBounds_toArray, List.set_cons_zero, List.set_cons_succ])
       refine wpAnyH_done (by kernel_rfl) ?_ _
       refine NoPanic.normal ?_
       clear HS9
       generalize w8.drew = w9 at *
       go_wp2_with fail
       go_roundw
       case rel => exact ⟨j + 1, by have := HJ.out; omega, by go_num, HB8'⟩
       case measure => simp [intOf]; omega
     · have hd : decide ((j : Int) < (ln : Int)) = false := decide_eq_false (by omega)
       have hd' : decide (j < ln) = false := decide_eq_false hlt
       go_wp2_with fail
       go_ret
       exact ⟨rfl, HB.out⟩
  · intro x cv kl y1 y2 w2 cnt2 hx hlx hy hat hrg2 hlt hg2 hs2 hen
    obtain ⟨i, hi, rfl, rfl, rfl⟩ := kind_out HV.out.km hx (HLF.out kl hlx) hy hat
    have hkn := H0.out i hi
    obtain ⟨k, hk⟩ : ∃ k, k = kindS S i := ⟨_, rfl⟩
    rw [← hk] at hkn hen
    have hd1 : ((k : Int) == 0) = false := by simp; omega
    have hd2 : decide ((k : Int) = 0) = false := by simp; omega
    have hd3 : decide (k = 0) = false := by simp; omega
    have HB2 : Hid (Below w.heap.size w w2) := HB.out.trans (below_of_gb_some hg2 (Nat.le_refl _) HB.out.size)
    have HRG2 := Lib.hid hrg2
    have HLT := Lib.hid hlt
    have hm := HRG.out.left_eq
    rw [← hk]
    clear hx hlx hy hat hrg2 hlt hg2 hs2 hk hkn HRG HB
    go_wp2_with fail
    go_roundw
    case rel => exact ⟨_, cnt2, HRG2, fun kl h => HLF.out kl (by simp at h; exact h.1), HB2⟩
    case measure => rw [HRG2.out.left_eq, hm]; exact HLT.out
structure KeysM (ks : List Id) (D : DataW Value) : Prop where
 hs : ∀ i, has D (ik i) = decide (i ∈ ks)
 size : Maps.size D = ks.length
 only : ∀ kl, has D kl = true → ∃ i ∈ ks, kl = ik i
theorem KindM.keys {S : Sto} {ks : List Id} {D : DataW Value} (h : KindM S ks D) : KeysM ks D := ⟨h.hs, h.size, h.only⟩
theorem ik_same (i j : Id) : (ik i).sameKey (ik j) = decide (i = j) := by
 by_cases h : i = j
 · subst h
   simp [ik, Lit.sameKey]
 · have h2 : ik i ≠ ik j := fun e => h (ik_inj e)
   rw [decide_eq_false h]
   cases h3 : (ik i).sameKey (ik j) with
   | false => rfl
   | true =>
     exfalso
     apply h2
     simp [ik, Lit.sameKey] at h3
     simp [ik, h3]
def SortP (B : Nat) : Prop := ∀ (W : World) (A : Option Addr) (k : Nat) (got : List Id), W.ownsRow B 30 32 (.slice A got.length k) got.length (IdsU got) → got.Nodup → got.length ≤ 100000 →
 Calls Tryz.prog 51 #[.slice A got.length k, .func (.func 52) #[] #[]] W fun e w' => e = .returned (.tuple #[]) ∧ IdsR w' (sortI got) A ∧ Below B W w'
def SortedP (w : World) (ks : List Id) (e : Ending) (w' : World) : Prop := ∃ A k, e = .returned (.slice A ks.length k) ∧ IdsR w' (sortI ks) A ∧ Below w.heap.size w w'
def Srt1 (w : World) (mk r n : Nat) (D : DataW Value) (ks : List Id) (v : Value) (wr : World) : Prop :=
 ∃ (left : Lit → Bool) (cnt : Nat) (got : List Id) (A : Option Addr) (k : Nat), v = .slice A got.length k ∧ got.length + cnt ≤ ks.length ∧ Hid (wr.ranges Tryz.prog 30 (plainElem Tryz.prog 3) mk r n D left cnt) ∧ Hid (∀ kl, left kl = true → has D kl = true) ∧
  Hid (wr.ownsRow w.heap.size 30 32 (.slice A got.length k) got.length (IdsU got)) ∧ Hid (got.Nodup ∧ (∀ i ∈ ks, i ∈ got ∨ left (ik i) = true) ∧ (∀ i ∈ got, i ∈ ks ∧ left (ik i) = false) ∧ ∀ p, A = some p → p.block ≠ r) ∧ Hid (Below w.heap.size w wr)
theorem keys_out {ks : List Id} {D : DataW Value} (h : KeysM ks D) {x : Value} {kl : Lit} (hx : keyOf Tryz.prog 30 x = some kl) (hk : has D kl = true) : ∃ i ∈ ks, kl = ik i ∧ x = .agg (U i.1).toArray := by
 obtain ⟨i, hi, rfl⟩ := h.only kl hk
 exact ⟨i, hi, rfl, key_law.inj hx (ik_key i)⟩
set_option maxHeartbeats 4000000 in
theorem sorted_of (w : World) (mk n : Nat) (D : DataW Value) (ks : List Id) (hm : w.ownsMap Tryz.prog 30 (plainElem Tryz.prog 3) mk n D) (km : KeysM ks D) (hnd : ks.Nodup) (hn : ks.length ≤ 100000) (hsort : SortP w.heap.size) :
 Calls Tryz.prog 27 #[.map (some mk)] w (SortedP w ks) := by
 obtain ⟨ie, hie, his, hib, ze, hiz, hzs⟩ := info_id
 have hl := fun ty => hm.len (t := 84) Tryz.underlying84 ty
 rw [km.size] at hl
 obtain ⟨ln, hln⟩ : ∃ ln, ln = ks.length := ⟨_, rfl⟩
 rw [← hln] at hl hn
 obtain ⟨w1, hms, hown1, hgb1⟩ := run_makeSlice_owned (P := Tryz.prog) w w.heap.size 28 30 ie ze 32 Tryz.underlying28 hie hiz his .i64 .i64 ln (by omega) (by rw [hib]; omega) (by unfold maxLen; omega) (Nat.le_refl _)
 have hm1 : w1.ownsMap Tryz.prog 30 (plainElem Tryz.prog 3) mk n D := hm.kept hgb1 (by simp)
 have hsz1 : w.heap.size < w1.heap.size := (hown1.lt w.heap.size rfl).2
 have HB1 := Lib.hid (below_of_gb hgb1)
 have HM := Lib.hid hm
 have HKM := Lib.hid km
 have HND := Lib.hid hnd
 have HSO := Lib.hid hsort
 have HLN := Lib.hid hln
 have HO1 := Lib.hid hown1
 have hu30 := Tryz.underlying30
 have HIE := Lib.hid (And.intro hie (And.intro his (And.intro hib (And.intro hiz hzs))))
 have HSZ1 := Lib.hid hsz1
 clear hm km hnd hsort hln hown1 hgb1 hie his hib hiz hzs hsz1
 go_enter Tryz.func27, Tryz.ntmps27
 go_wp2_with (first
  | (at_range; refine wpList_range_own _ rfl (.tmp 8) 84 rfl 30 3 key_law Tryz.underlying84 _ mk n D rfl hm1 ?_; intro w2 hrg2 hg2 hs2)
  | fail)
 go_frame
 have HRG := Lib.hid hrg2
 have HB : Hid (Below w.heap.size w w2) := HB1.out.trans ((below_of_gb hg2).mono HB1.out.size)
 have HO2 : Hid (w2.ownsRow w.heap.size 30 32 (.slice (some ⟨w.heap.size, 0, none⟩) 0 ln) 0 []) := own_below HO1.out (below_of_gb hg2)
 obtain ⟨rr, hrr⟩ : ∃ rr, rr = w1.heap.size := ⟨_, rfl⟩
 rw [← hrr] at HRG
 rw [← hrr]
 have HRR : Hid (w.heap.size < rr) := by rw [hrr]; exact HSZ1.out
 clear hrg2 hg2 hs2 hl hms hm1 HB1 HO1 hrr HSZ1
 go_loopw [3] (fun v wr => Srt1 w mk rr n D ks v wr) (fun _ wr => wr.rangeLeft mk rr)
 case atStart =>
  refine ⟨_, _, [], _, _, rfl, ?_, HRG, fun _ h => h, HO2, ⟨List.nodup_nil, fun i hi => .inr (by rw [HKM.out.hs]; simpa using hi), (by simp), fun p hp e => ?_⟩, HB⟩
  · rw [HKM.out.size]; simp
  · have := HRR.out
    have e2 : w.heap.size = rr := by
     rw [← Option.some.inj hp] at e
     exact e
    omega
 case round =>
  clear HRG HB HO2
  obtain ⟨left, cnt, got, A, k, rfl, hcnt, HRG, HLF, HO, HG, HB⟩ := hrel
  obtain ⟨gn, hgn⟩ : ∃ gn, gn = got.length := ⟨_, rfl⟩
  unfold Hid at HO
  rw [← hgn] at hcnt HO
  rw [← hgn]
  replace HO := Lib.hid HO
  have HGN := Lib.hid hgn
  clear hgn
  go_wp2_with (first
   | (at_next; refine wpList_next_ranges wr rfl (.tmp 9) rfl 30 key_law (plainElem Tryz.prog 3) (fun v : Value => v) (fun c : Int => .int .i64 c) (fun key _ _ => ⟨key, rfl⟩) int_inv mk rr n D left cnt rfl HRG.out ?_ ?_)
   | fail)
  · intro _ hl0
    have hperm : got.Perm ks := by
     refine (List.perm_ext_iff_of_nodup HG.out.1 HND.out).2 (fun i => ⟨fun hi => (HG.out.2.2.1 i hi).1, fun hi => ?_⟩)
     rcases HG.out.2.1 i hi with h | h
     · exact h
     · rw [hl0] at h; cases h
    have hsi : sortI got = sortI ks := (sortI_eq (sortI_rise ks) (fun i => by rw [mem_sortI]; exact (hperm.mem_iff).symm))
    have hlen : gn = ks.length := by rw [HGN.out]; exact hperm.length_eq
    have hs := HSO.out wr A k got (by rw [← HGN.out]; exact HO.out) HG.out.1 (by rw [← HGN.out, hlen, ← HLN.out]; exact hn)
    rw [hsi, ← HGN.out] at hs
    have HS := Lib.hid hs
    have HLEN := Lib.hid hlen
    clear hs hlen hsi hperm hl0 HRG HLF HO HG
    go_wp2_with fail
    refine HS.out.mono ?_
    rintro e w5 ⟨rfl, hr5, hb5⟩
    have HF : Hid (SortedP w ks (.returned (.slice A gn k)) w5) := ⟨A, k, by rw [HLEN.out], hr5, HB.out.trans hb5⟩
    clear HS hr5 hb5
    go_wp2_with fail
    go_ret
    exact HF.out
  · intro x cv kl y1 y2 w2 cnt2 hx hlx hy hat hrg2 hlt hg2 hs2 hen
    obtain ⟨i, hi, rfl, rfl⟩ := keys_out HKM.out hx (HLF.out kl hlx)
    have hri := hrg2.lt
    have HB2 : Hid (Below w.heap.size w w2) := HB.out.trans (below_of_gb_some hg2 (Nat.le_of_lt HRR.out) HB.out.size)
    have HRG2 := Lib.hid hrg2
    have HO2 : Hid (w2.ownsRow w.heap.size 30 32 (.slice A gn k) gn (IdsU got)) := HO.out.kept hg2 (by
     cases A with
     | none => exact .inl rfl
     | some p => exact .inr (fun e => HG.out.2.2.2 p rfl (Option.some.inj e)))
    have HN := id_new w2
    have HSZ := Lib.hid (id_size _ i.2)
    have HSZ2 := Lib.hid (id_size' _ i.2)
    have HFT := Lib.hid (id_fit _ i.2)
    have HLX := Lib.hid hlx
    have HI := Lib.hid hi
    have hm := HRG.out.left_eq
    have HLT := Lib.hid hlt
    have HONE : Hid (∀ u ∈ (U i.1).toArray.toList, u.oneCell' = true) := by unfold Hid; rw [List.toList_toArray]; exact U_one _
    clear hx hlx hy hat hrg2 hlt hg2 hs2 hi HRG HB HO hri
    go_upto_region 5 with (with_reducible refine wpList_storeG rfl 30 (.tmp 4) (.tmp 13) rfl w2.heap.size 0 (U i.1) rfl rfl (U (List.replicate 32 0)) 30 HN.out HFT.out (U_one _) HSZ.out ?_; intro w3 HB3 HG3)
    have G3 : w2.grownBy w3 none := gb_fresh HG3.out
    have HR3 : Hid (w3.heap[w2.heap.size]? = some (.cells (U i.1).toArray 30 (0, 0))) := by
     have h1 := HB3.out
     rw [splice_id _ i.2] at h1
     exact h1
    have HBW3 : Hid (Below w.heap.size w w3) := HB2.out.trans ((below_of_gb G3).mono HB2.out.size)
    have HRG3 : Hid (w3.ranges Tryz.prog 30 (plainElem Tryz.prog 3) mk rr n D (fun z => left z && !z.sameKey (ik i)) cnt2) := HRG2.out.kept G3 (by simp) (by simp)
    have HO3 : Hid (w3.ownsRow w.heap.size 30 32 (.slice A gn k) gn (IdsU got)) := own_below HO2.out (below_of_gb G3)
    obtain ⟨d0, d1, d2, d3, d4, d5, d6, d7, d8, d9, d10, d11, d12, d13, d14, d15, d16, d17, d18, d19, d20, d21, d22, d23, d24, d25, d26, d27, d28, d29, d30, d31, hU⟩ := id32 i
    have HAPP := Lib.hid (IdsU_snoc got i)
    unfold Hid at HAPP HONE HR3 HSZ2
    rw [hU] at HAPP HONE HR3 HSZ2
    replace HAPP := Lib.hid HAPP
    replace HONE := Lib.hid HONE
    replace HR3 := Lib.hid HR3
    replace HSZ2 := Lib.hid HSZ2
    have hgnb : gn ≤ 100000 := by have := HLN.out; omega
    clear HB3 HG3 HN HB2 HRG2 HO2 G3 hU HFT HSZ
    go_wp2_with (first
     | (with_reducible refine wpList_load_row rfl 30 (.tmp 4) rfl w2.heap.size rfl 30 #[d0, d1, d2, d3, d4, d5, d6, d7, d8, d9, d10, d11, d12, d13, d14, d15, d16, d17, d18, d19, d20, d21, d22, d23, d24, d25, d26, d27, d28, d29, d30, d31] (0, 0) _ HR3.out hu30 rfl HSZ2.out ?_)
     | (at_builtin
        refine wpList_pushN w3 rfl (.tmp 14) (.tmp 16) 28 rfl w.heap.size 30 ie ze 32 32 Tryz.underlying28 HIE.out.1 HIE.out.2.2.2.1 HIE.out.2.1 HIE.out.2.2.1 HIE.out.2.2.2.2 (by decide) A gn k (IdsU got) rfl HO3.out #[d0, d1, d2, d3, d4, d5, d6, d7, d8, d9, d10, d11, d12, d13, d14, d15, d16, d17, d18, d19, d20, d21, d22, d23, d24, d25, d26, d27, d28, d29, d30, d31] 1 _ rfl HONE.out rfl ?_ ?_ HBW3.out.size ?_
        · omega
        · unfold maxLen; omega
        intro A2 c2 w4 hown4 hg4 hn4)
     | fail)
    have hown5 : w4.ownsRow w.heap.size 30 32 (.slice A2 (got ++ [i]).length c2) (got ++ [i]).length (IdsU (got ++ [i])) := by
     rw [← HAPP.out, List.length_append, List.length_singleton, ← HGN.out]
     exact hown4
    have hbr : ∀ p, A = some p → p.block ≠ rr := HG.out.2.2.2
    have hmk : some mk ≠ (Value.slice A gn k).ownBlock := fun e => by
     rcases HO3.out.2 with ⟨hv, _⟩ | ⟨g, cap, cur, hv, _, hh, _⟩
     · rw [hv] at e; cases e
     · rw [hv] at e
       exact ownsMap_apart HRG3.out.owns (show Blk w3 g _ _ from hh) (show mk = g from Option.some.inj e)
    have hrk : some rr ≠ (Value.slice A gn k).ownBlock := fun e => by
     cases A with
     | none => simp [Value.ownBlock] at e
     | some p => exact hbr p rfl (Option.some.inj e).symm
    have HRG4 := Lib.hid (HRG3.out.kept hg4 hmk hrk)
    have HB4 : Hid (Below w.heap.size w w4) := HBW3.out.trans ⟨hg4.os, hg4.tape, hg4.output, hg4.size, fun q hq => hg4.block q (Nat.lt_of_lt_of_le hq HBW3.out.size) (fun e => by
     cases A with
     | none => simp [Value.ownBlock] at e
     | some p =>
       have h1 := (HO3.out.lt p.block rfl).1
       have h2 : q = p.block := Option.some.inj e
       omega)⟩
    have HO5 := Lib.hid hown5
    have HLT3 : Hid (rr < w3.heap.size) := HRG3.out.lt
    have HG5 : Hid ((got ++ [i]).Nodup ∧ (∀ j ∈ ks, j ∈ got ++ [i] ∨ (left (ik j) && !(ik j).sameKey (ik i)) = true) ∧ (∀ j ∈ got ++ [i], j ∈ ks ∧ (left (ik j) && !(ik j).sameKey (ik i)) = false) ∧ ∀ p, A2 = some p → p.block ≠ rr) := by
     have hin : i ∉ got := fun h => by
      have := (HG.out.2.2.1 i h).2
      rw [HLX.out] at this
      cases this
     refine ⟨?_, fun j hj => ?_, fun j hj => ?_, fun p hp e => ?_⟩
     · rw [List.nodup_append]
       exact ⟨HG.out.1, by simp, fun a ha b hb => by rw [List.mem_singleton] at hb; subst hb; exact fun e => hin (e ▸ ha)⟩
     · rcases HG.out.2.1 j hj with h | h
       · exact .inl (by simp [h])
       · by_cases e : j = i
         · exact .inl (by simp [e])
         · exact .inr (by rw [h, ik_same, decide_eq_false e]; rfl)
     · rcases List.mem_append.1 hj with h | h
       · have := HG.out.2.2.1 j h
         exact ⟨this.1, by rw [this.2]; rfl⟩
       · rw [List.mem_singleton] at h
         subst h
         exact ⟨HI.out, by rw [ik_same]; simp⟩
     · rcases hn4 p hp with ⟨p0, h0, e0⟩ | h1
       · exact hbr p0 h0 (e0 ▸ e)
       · have := HLT3.out
         omega
    have HLEN : Hid (gn + 1 = (got ++ [i]).length) := by
     unfold Hid
     rw [List.length_append, List.length_singleton, HGN.out]
    have HLF5 : Hid (∀ kl, (left kl && !kl.sameKey (ik i)) = true → has D kl = true) := fun kl h => HLF.out kl (by simp at h; exact h.1)
    clear hown4 hown5 hg4 hn4 hmk hrk hbr HO3 HRG3 HONE HR3 HAPP HG HLF HBW3
    try go_wp2_with fail
    go_roundw
    case rel => exact ⟨_, cnt2, got ++ [i], A2, c2, by rw [← HLEN.out], by have := HLT.out; have := HLEN.out; omega, HRG4, HLF5, HO5, HG5, HB4⟩
    case measure => rw [HRG4.out.left_eq, hm]; exact HLT.out
end Go.Proofs.YtnjhjbmngoeobaaGreatDoor
