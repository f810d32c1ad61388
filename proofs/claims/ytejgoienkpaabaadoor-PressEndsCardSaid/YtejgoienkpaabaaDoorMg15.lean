/- Lay (merged: one text behind the other). -/
import Derived.Test.YtejgoienkpaabaaDoorMg14
/- Contract: the reference's Lay at the chapter's own example. -/
namespace Go.Proofs.YtejgoienkpaabaaDoor
open Go.RowKit
set_option maxRecDepth 100000
theorem row_reads {w : World} {g : Nat} {row : List Nat} (h : Row w w.heap.size g 0 row) : Reads w w.heap.size 1 (some ⟨g, 0, none⟩) row.length (I row) := by
  refine ⟨by simp [I_length], fun _ => ⟨⟨g, 0, none⟩, rfl, h.1, fun j u hu => ?_⟩⟩
  rw [I_get] at hu
  cases hj : row[j]? with
  | none => rw [hj] at hu; cases hu
  | some x =>
    rw [hj] at hu
    obtain ⟨hlt, _⟩ := List.getElem?_eq_some_iff.1 hj
    rw [addr_add, h.2 j hlt, List.getD_eq_getElem?_getD, hj]
    exact hu
theorem Row.now {w w' : World} {b off : Nat} {row : List Nat} (h : Row w w.heap.size b off row) (hb : Below w.heap.size w w') : Row w' w'.heap.size b off row :=
  ⟨by have := h.1; have := hb.size; omega, (h.below hb).2⟩
theorem exRow_len : exRow.length = 296 := by simp [exRow, exSym, exDist]
theorem exRow_le (s : Nat) : exRow.getD s 0 ≤ 1 := by
  by_cases h : s < 296
  · exact (by decide +kernel : ∀ s, s < 296 → exRow.getD s 0 ≤ 1) s h
  · rw [List.getD_eq_getElem?_getD, List.getElem?_eq_none (by rw [exRow_len]; omega)]; decide
theorem pack_len (row : List Nat) (k : Nat) : (packTo row k).length = k := by induction k with
  | zero => rfl
  | succ k ih => simp [packTo, ih]
def PackRel (w : World) (gr : Nat) (cur : Array Value) (vb vi : Value) (wr : World) : Prop :=
  ∃ (k L c : Nat) (A : Option Addr), k ≤ 148 ∧ Hid (L = 2 + k) ∧ L ≤ 150 ∧ vi = .int .i64 (2 * (k : Int)) ∧ vb = .slice A L c ∧ Hid (wr.ownsRow w.heap.size 5 1 (.slice A L c) L (U ([1, 6] ++ packTo exRow k))) ∧ Hid (Blk wr gr 3 cur) ∧ Hid (Below w.heap.size w wr)
def tx (k : Nat) : List UInt8 := [48, 49, 48] ++ List.replicate k 48
theorem tx_succ (k : Nat) : tx (k + 1) = tx k ++ [48] := by simp [tx, List.replicate_succ']
theorem tx_size (k : Nat) : (⟨(tx k).toArray⟩ : ByteArray).size = k + 3 := by simp [ByteArray.size, tx]
theorem cat_str (a b : List UInt8) : (⟨a.toArray⟩ : ByteArray) ++ (⟨b.toArray⟩ : ByteArray) = ⟨(a ++ b).toArray⟩ := by
  apply ByteArray.ext
  rw [ByteArray.data_append]
  simp
def PadT (vt : Value) : Prop := ∃ k : Nat, k ≤ 5 ∧ vt = .string ⟨(tx k).toArray⟩
def strLen : Value → Nat
  | .string b => b.size
  | _ => 0
def LayPost (w : World) (e : Ending) (w' : World) : Prop :=
  ∃ A c, e = .returned (.slice A 151 c) ∧ w'.ownsRow w.heap.size 5 1 (.slice A 151 c) 151 (U exB) ∧ Below w.heap.size w w'
set_option maxHeartbeats 2000000 in
theorem lay_ex (gs cs gd cd gt : Nat) (w : World) (hs : Row w w.heap.size gs 0 exSym) (hd : Row w w.heap.size gd 0 exDist) (ht : Row w w.heap.size gt 0 [97, 0, 0, 0, 258, 0, 0, 0]) :
    Calls Tryd.prog 27 #[.int .i64 6, .slice (some ⟨gs, 0, none⟩) 277 cs, .slice (some ⟨gd, 0, none⟩) 18 cd, .slice (some ⟨gt, 0, none⟩) 2 2] w fun e w' => LayPost w e w' := by
  obtain ⟨i5, hi5, hz50, hz51, hz52⟩ := info_parts info5
  obtain ⟨i3, hi3, hz30, hz31, hz32⟩ := info_parts info3
  have HS := Lib.hid hs
  have HD := Lib.hid hd
  have HT := Lib.hid ht
  clear hs hd ht
  go_enter Tryd.func27, Tryd.ntmps27
  go_wp2_with fail
  have ho0 := Lib.hid (full_own (w := w.alloc (.cells #[.int .u8 1] 5)) (base := w.heap.size) (g := w.heap.size) (n := 1) (e := 5) (xs := [.int .u8 1]) (Nat.le_refl _) rfl (by unfold maxLen; omega) (Blk.new w 5 _))
  have hb0 := Lib.hid ((Below.refl w.heap.size w).alloc (Nat.le_refl _) (.cells #[.int .u8 1] 5))
  have hs0 := hb0.out.size
  generalize w.alloc (.cells #[.int .u8 1] 5) = w0 at *
  refine (numb_any 6 w0 (by omega)).mono ?_
  rintro e w1 ⟨A1, c1, rfl, ho1, hb1⟩
  have HO0 := Lib.hid (own_below ho0.out hb1)
  have HB1 := Lib.hid (hb0.out.trans (hb1.mono hs0))
  have hr1 := Lib.hid (Reads.of_own ho1)
  have hs1 := HB1.out.size
  clear ho0 hb0 ho1 hb1
  have HS1 := Lib.hid (row_reads (HS.out.now HB1.out))
  have HD1 := Lib.hid (row_reads (HD.out.now HB1.out))
  go_wp2_with (first
    | (at_builtin
       refine wpList_append_any w1 rfl (.tmp 19) (.tmp 21) 22 rfl w.heap.size 5 i5 (.int .u8 0) 1 1 Tryd.underlying22 hi5 hz50 hz51 hz52 rfl (by decide) (.slice (some ⟨w.heap.size, 0, none⟩) 1 1) 1 [.int .u8 1] rfl HO0.out _ A1 1 c1 [.int .u8 (6 : Int)] rfl hr1.out (by intro u hu; simp at hu; subst hu; rfl) (by unfold maxLen; omega) (by omega) hs1 ?_
       intro v2 w2 hown2 hg2 _
       obtain ⟨A2, c2, hv2⟩ := own_shape hown2
       subst hv2
       have HO2 := Lib.hid hown2
       have HB2 := Lib.hid (HB1.out.grown hg2 hs1 (fun q hq => (HO0.out.lt q hq).1))
       have hs2 := HB2.out.size
       have HS2 := Lib.hid (row_reads (HS.out.now HB2.out))
       rw [show exSym.length = 277 by simp [exSym]] at HS2
       clear hown2 hg2)
    | (at_builtin
       refine wpList_append_any w2 rfl (.tmp 23) (.tmp 24) 36 rfl w2.heap.size 3 i3 (.int .i64 0) 1 8 Tryd.underlying36 hi3 hz30 hz31 hz32 rfl (by decide) (.slice none 0 0) 0 [] rfl (World.ownsRow_nil _ _ _ _) _ (some ⟨gs, 0, none⟩) 277 cs (I exSym) rfl HS2.out (I_one _) (by unfold maxLen; omega) (by omega) (Nat.le_refl _) ?_
       intro v3 w3 hown3 hg3 _
       obtain ⟨A3, c3, hv3⟩ := own_shape hown3
       subst hv3
       have HO3 := Lib.hid hown3
       have HB3 := Lib.hid ((Below.refl w2.heap.size w2).grown hg3 (Nat.le_refl _) (fun q hq => by simp [Value.ownBlock] at hq))
       have hs3 := HB3.out.size
       have HD3 := Lib.hid (row_reads (HD.out.now (HB2.out.trans (HB3.out.mono hs2))))
       rw [show exDist.length = 18 by simp [exDist]] at HD3
       clear hown3 hg3)
    | (at_builtin
       refine wpList_append_any w3 rfl (.tmp 26) (.tmp 27) 36 rfl w2.heap.size 3 i3 (.int .i64 0) 1 8 Tryd.underlying36 hi3 hz30 hz31 hz32 rfl (by decide) (.slice A3 (0 + 277) c3) (0 + 277) ([] ++ I exSym) rfl HO3.out _ (some ⟨gd, 0, none⟩) 18 cd (I exDist) rfl HD3.out (I_one _) (by unfold maxLen; omega) (by omega) hs3 ?_
       intro v4 w4 hown4 hg4 _
       obtain ⟨A4, c4, hv4⟩ := own_shape hown4
       subst hv4
       have HO4 := Lib.hid hown4
       have HB4 := Lib.hid (HB3.out.grown hg4 hs3 (fun q hq => (HO3.out.lt q hq).1))
       have hs4 := HB4.out.size
       clear hown4 hg4)
    | (at_builtin
       refine wpList_pushK w4 rfl (.tmp 29) (.tmp 30) 36 rfl w2.heap.size 3 i3 (.int .i64 0) 1 8 Tryd.underlying36 hi3 hz30 hz31 hz32 rfl (by decide) A4 (0 + 277 + 18) c4 (([] ++ I exSym) ++ I exDist) rfl HO4.out #[.int .i64 0] 1 3 rfl ?_ rfl (by omega) (by unfold maxLen; omega) hs4 ?_
       · intro u hu
         simp at hu
         subst hu
         rfl
       intro A5 c5 w5 hown5 hg5
       have HO5 : Hid (w5.ownsRow w2.heap.size 3 1 (.slice A5 296 c5) 296 (I exRow)) := by
         show World.ownsRow _ _ _ _ _ _ _
         rw [exRow, I_append, I_append]
         exact hown5
       have HB5 := Lib.hid (HB4.out.grown hg5 hs4 (fun q hq => (HO4.out.lt q hq).1))
       clear hown5 hg5)
    | fail)
  have hs5 := HB5.out.size
  obtain ⟨gr, cr, hv1, hgb1, hglt⟩ := HO5.out.form (by omega)
  injection hv1 with hv1 hv2 hv3
  subst hv1 hv3
  obtain ⟨cur, hBlk, hcur⟩ : ∃ cur, Blk w5 gr 3 cur ∧ ∀ j, j < 296 → cur[j]? = some (.int .i64 (exRow.getD j 0 : Int)) := by
    rcases HO5.out.2 with ⟨h, _⟩ | ⟨g', cap', cur', hv', _, hh', _, _, _, ht'⟩
    · cases h
    · injection hv' with hv'
      injection hv' with hv'
      injection hv' with hv'
      subst hv'
      refine ⟨cur', hh', fun j hj => ?_⟩
      have : cur'[j]? = (I exRow)[j]? := by
        rw [← ht', List.getElem?_take, if_pos (by omega)]
        simp
      rw [this, I_get, List.getD_eq_getElem?_getD, List.getElem?_eq_getElem (by rw [exRow_len]; exact hj)]
      rfl
  have HK := Lib.hid hBlk
  have HCU := Lib.hid hcur
  have HOb := Lib.hid (own_below HO2.out HB5.out)
  have HBw := Lib.hid (HB2.out.trans (HB5.out.mono hs2))
  clear hBlk hcur HO2 HO3 HO4 HO5 HB1 HB2 HB3 HB4 HB5 HO0 hr1 HS1 HD1 HS2 HD3
  go_wp2_with fail
  go_loopw [9, 11] (fun vb vi wr => PackRel w gr cur vb vi wr) (fun _ vi _ => 296 - (intOf vi).toNat)
  case atStart => exact ⟨0, 2, c2, A2, by omega, rfl, by omega, rfl, rfl, HOb, HK, HBw⟩
  case round =>
    obtain ⟨k, L, c, A, hk, hL, hL150, rfl, rfl, ho, hbk, hb⟩ := hrel
    by_cases hlt : k < 148
    · obtain ⟨x, hx⟩ : ∃ x, x = exRow.getD (2 * k) 0 := ⟨_, rfl⟩
      obtain ⟨y, hy⟩ : ∃ y, y = exRow.getD (2 * k + 1) 0 := ⟨_, rfl⟩
      have hx1 : x ≤ 1 := by rw [hx]; exact exRow_le _
      have hy1 : y ≤ 1 := by rw [hy]; exact exRow_le _
      obtain ⟨j, hj⟩ : ∃ j, j = 2 * k := ⟨_, rfl⟩
      have ej : 2 * (k : Int) = (j : Int) := by omega
      have hcx : wr.cell? ⟨gr, j, none⟩ = some (.int .i64 (x : Int)) := by rw [hbk.out.cell, hx, hj]; exact HCU.out _ (by omega)
      have hcy : wr.cell? ⟨gr, j + 1, none⟩ = some (.int .i64 (y : Int)) := by rw [hbk.out.cell, hy, hj]; exact HCU.out _ (by omega)
      have hlt2 : decide ((j : Int) + 1 < 296) = true := decide_eq_true (by omega)
      have HX := Lib.hid hx
      have HY := Lib.hid hy
      have HJ := Lib.hid hj
      have hjb : j + 1 < 296 := by omega
      have hji : (j : Int) < 296 := by omega
      have hji1 : (j : Int) + 1 < 296 := by omega
      have hji0 : (0 : Int) ≤ (j : Int) + 1 := by omega
      obtain ⟨z, hz⟩ : ∃ z, z = 16 * x + y := ⟨_, rfl⟩
      have ez : 16 * (x : Int) + (y : Int) = (z : Int) := by omega
      have hz17 : z ≤ 17 := by omega
      have HZ := Lib.hid hz
      have hwz : IntKind.u8.wrap (z : Int) = (z : Int) := wraps_u8 _ (by omega) (by omega)
      have ew1 : IntKind.i64.wrap (16 * (x : Int)) = 16 * (x : Int) := wraps_i64 _ (by omega) (by omega)
      have ew2 : IntKind.i64.wrap (z : Int) = (z : Int) := wraps_i64 _ (by omega) (by omega)
      have ew3 : IntKind.i64.wrap ((j : Int) + 1) = (j : Int) + 1 := wraps_i64 _ (by omega) (by omega)
      have hsz := hb.out.size
      clear hx hy hj hz
      rw [ej]
      go_wp2_with fail
      go_region_law (first
        | (refine step_pushK wr.drew rfl (.tmp 39) (.tmp 52) 22 rfl w.heap.size 5 i5 (.int .u8 0) 1 1 Tryd.underlying22 hi5 hz50 hz51 hz52 rfl (by decide) A L c (U ([1, 6] ++ packTo exRow k)) (by simp [Act.eval]) ho.out #[.int .u8 (z : Int)] 1 _ rfl ?_ (by simp [Act.eval]) (by omega) (by unfold maxLen; omega) hsz ?_
           · intro u hu
             simp at hu
             subst hu
             rfl
           intro A7 c7 w7 hown7 hg7))
      all_goals
        have hne := own_blk_ne ho.out hbk.out (by decide)
        have hbk7 : Hid (Blk w7 gr 3 cur) := (show Blk wr.drew gr 3 cur from hbk.out).gb hg7 (fun e => hne e.symm)
        have hb' : Hid (Below w.heap.size w wr.drew) := hb.out.drew
        clear hcx hcy ez hwz ew1 ew2 ew3 hne
        go_wp2_with fail
        go_roundw
        case rel =>
          refine ⟨k + 1, L + 1, c7, A7, by omega, by show _ = _; rw [hL.out]; omega, by have := hL.out; omega, by have := HJ.out; congr 1; push_cast; omega, rfl, ?_, hbk7, hb'.out.grown hg7 hsz (fun q hq => (ho.out.lt q hq).1)⟩
          show World.ownsRow _ _ _ _ _ _ _
          have e1 : ((UInt8.ofNat z).toNat : Int) = (z : Int) := by simp; omega
          have e2 : (z : Int) % 256 = (z : Int) := by omega
          rw [packTo, ← HX.out, ← HY.out, ← HZ.out, ← List.append_assoc, U_append]
          simpa [U, e1, e2] using hown7
        case measure => have := HJ.out; simp [intOf]; omega
    · obtain rfl : k = 148 := by omega
      have hL2 : L = 150 := hL.out
      subst hL2
      have hs6 := hb.out.size
      go_wp2_with fail
      refine (codes_n gs 0 cs 277 exSym wr (by simp [exSym]) (HS.out.now hb.out) (by omega)).mono ?_
      rintro e w8 ⟨As, ks1, rfl, hcs⟩
      have HCS := Lib.hid (crow_of_own hcs.own)
      have HO8 := Lib.hid (own_below ho.out hcs.below)
      have HB8 := Lib.hid (hb.out.trans (hcs.below.mono hs6))
      have hs8 := HB8.out.size
      clear hcs
      go_wp2_with fail
      refine (codes_n gd 0 cd 18 exDist w8 (by simp [exDist]) (HD.out.now HB8.out) (by omega)).mono ?_
      rintro e w9 ⟨Ad, ks2, rfl, hcd⟩
      have HCD := Lib.hid (crow_of_own hcd.own)
      have HCS9 := Lib.hid (HCS.out.below hcd.below)
      have HO9 := Lib.hid (own_below HO8.out hcd.below)
      have HB9 := Lib.hid (HB8.out.trans (hcd.below.mono hs8))
      have hs9 := HB9.out.size
      have HT9 := Lib.hid (HT.out.now HB9.out)
      clear hcd HCS HO8 ho HB8 hb hbk
      rw [ex_codes] at HCS9
      rw [ex_codes2] at HCD
      rw [ex_codes, ex_codes2]
      have hl1 : ([(97, [48]), (258, [49])] : List (Nat × List UInt8)).length = 2 := rfl
      have hl2 : ([(0, [48])] : List (Nat × List UInt8)).length = 1 := rfl
      rw [hl1, hl2]
      have ht : ∀ j, j < 8 → w9.cell? ⟨gt, j, none⟩ = some (.int .i64 (([97, 0, 0, 0, 258, 0, 0, 0] : List Nat).getD j 0 : Int)) := fun j hj => by have := HT9.out.2 j hj; rwa [Nat.zero_add] at this
      have t0 : w9.cell? ⟨gt, 0, none⟩ = some (.int .i64 97) := ht 0 (by omega)
      have t1 : w9.cell? ⟨gt, 1, none⟩ = some (.int .i64 0) := ht 1 (by omega)
      have t2 : w9.cell? ⟨gt, 2, none⟩ = some (.int .i64 0) := ht 2 (by omega)
      have t3 : w9.cell? ⟨gt, 3, none⟩ = some (.int .i64 0) := ht 3 (by omega)
      have t4 : w9.cell? ⟨gt, 4, none⟩ = some (.int .i64 258) := ht 4 (by omega)
      have t5 : w9.cell? ⟨gt, 5, none⟩ = some (.int .i64 0) := ht 5 (by omega)
      have t6 : w9.cell? ⟨gt, 6, none⟩ = some (.int .i64 0) := ht 6 (by omega)
      have t7 : w9.cell? ⟨gt, 7, none⟩ = some (.int .i64 0) := ht 7 (by omega)
      have htl := HT9.out.1
      clear ht
      go_wp2_with fail
      refine wp_loop_rounds 3 ?_
      rw [rounds_succ]
      go_wp2_with fail
      have q1 := Lib.hid (HCS9.out.below ((Below.refl w9.heap.size w9).alloc (Nat.le_refl _) (.cells #[.int .i64 97, .int .i64 0, .int .i64 0, .int .i64 0] 67)))
      have q2 := Lib.hid (HCD.out.below ((Below.refl w9.heap.size w9).alloc (Nat.le_refl _) (.cells #[.int .i64 97, .int .i64 0, .int .i64 0, .int .i64 0] 67)))
      have hf1 := find_any ks1 97 As _ _ q1.out (by decide) (fun j => by rcases j with _ | _ | j <;> simp)
      rw [show findP [(97, [48]), (258, [49])] 97 = [48] from rfl] at hf1
      refine hf1.mono ?_
      rintro e w10 ⟨rfl, rfl⟩
      clear hf1
      go_wp2_with fail
      rw [rounds_succ]
      go_wp2_with fail
      have hbA := Lib.hid (((Below.refl w9.heap.size w9).alloc (Nat.le_refl _) (.cells #[.int .i64 97, .int .i64 0, .int .i64 0, .int .i64 0] 67)).alloc (by simp) (.cells #[.int .i64 258, .int .i64 0, .int .i64 0, .int .i64 0] 67))
      have hf2 := find_any ks1 258 As _ _ (HCS9.out.below hbA.out) (by decide) (fun j => by rcases j with _ | _ | j <;> simp)
      rw [show findP [(97, [48]), (258, [49])] 258 = [49] from rfl] at hf2
      refine hf2.mono ?_
      rintro e w11 ⟨rfl, rfl⟩
      clear hf2
      go_wp2_with fail
      have hf3 := find_any ks2 0 Ad _ _ (HCD.out.below hbA.out) (by decide) (fun j => by rcases j with _ | j <;> simp)
      rw [show findP [(0, [48])] 0 = [48] from rfl] at hf3
      refine hf3.mono ?_
      rintro e w12 ⟨rfl, rfl⟩
      clear hf3
      go_wp2_with fail
      rw [rounds_succ]
      go_wp2_with fail
      have hcat : ((({ data := #[] } : ByteArray) ++ { data := #[48] }) ++ { data := #[49] }) ++ { data := #[48] } = ⟨(tx 0).toArray⟩ := by rw [cat_str [] [48], cat_str _ [49], cat_str _ [48]]; rfl
      rw [hcat]
      have HO12 := Lib.hid (own_below HO9.out hbA.out)
      have HB12 := Lib.hid (HB9.out.trans (hbA.out.mono hs9))
      have hs12 := HB12.out.size
      clear hcat hbA q1 q2 HCD HCS9 HO9 HB9 t0 t1 t2 t3 t4 t5 t6 t7 HT9
      generalize (w9.alloc (.cells #[.int .i64 97, .int .i64 0, .int .i64 0, .int .i64 0] 67)).alloc (.cells #[.int .i64 258, .int .i64 0, .int .i64 0, .int .i64 0] 67) = w12 at *
      go_loop [14] (fun vt => PadT vt) (fun vt => 8 - strLen vt)
      case atStart => exact ⟨0, by omega, rfl⟩
      case round =>
        obtain ⟨k, hk, rfl⟩ := hrel
        have hsz := tx_size k
        by_cases hlt : k < 5
        · have hmod : (((k : Int) + 3) % 8 != 0) = true := by simp; omega
          have hadd : (⟨(tx k).toArray⟩ : ByteArray) ++ { data := #[48] } = ⟨(tx (k + 1)).toArray⟩ := by rw [tx_succ, ← cat_str]
          have HAD := Lib.hid hadd
          clear hadd
          go_wp2_with fail
          rw [HAD.out]
          go_round
          case rel => exact ⟨k + 1, by omega, rfl⟩
          case measure => simp only [strLen, tx_size]; omega
        · obtain rfl : k = 5 := by omega
          go_wp2_with fail
          refine wp_loop_rounds 2 ?_
          rw [rounds_succ]
          go_wp2_with fail
          have hext : (⟨(tx 5).toArray⟩ : ByteArray).extract 0 8 = ⟨(tx 5).toArray⟩ := by
            apply ByteArray.ext
            rw [ByteArray.data_extract]
            rfl
          rw [hext]
          clear hext
          have HL := Lib.hid (show Lk (w12.alloc (.cells #[.string ⟨(tx 5).toArray⟩, .bool false] 104)) w12.heap.size (tx 5) false from ⟨Blk.new w12 104 _⟩)
          have HO13 := Lib.hid (HO12.out.alloc (.cells #[.string ⟨(tx 5).toArray⟩, .bool false] 104))
          have HB13 := Lib.hid (HB12.out.alloc hs12 (.cells #[.string ⟨(tx 5).toArray⟩, .bool false] 104))
          have hs13 := HB13.out.size
          generalize w12.alloc (.cells #[.string ⟨(tx 5).toArray⟩, .bool false] 104) = w13 at *
          refine (value_any w12.heap.size 8 (tx 5) false w13 HL.out (by unfold Dig; decide) (by omega)).mono ?_
          have hval : valueP (tx 5) 8 = some (64, []) := by decide
          rintro e w14 ⟨hg14, ⟨hv, hlk, rfl⟩ | ⟨z, S3, hv, hlk, rfl⟩⟩
          · rw [hval] at hv; cases hv
          · rw [hval] at hv
            injection hv with hv
            injection hv with hv1 hv2
            subst hv1 hv2
            have hkept : w14.ownsRow w.heap.size 5 1 (.slice A 150 c) 150 (U ([1, 6] ++ packTo exRow 148)) := HO13.out.kept hg14 (.inr (own_blk_ne HO13.out HL.out.blk (by decide)))
            have HO14 := Lib.hid hkept
            have HB14 := Lib.hid (HB13.out.trans (below_of_gb_some hg14 hs12 hs13))
            have hs14 := HB14.out.size
            clear hkept hg14 hlk
            go_wp2_with (first
              | (at_builtin
                 refine wpList_push w14 rfl (.tmp 124) (.tmp 128) 22 rfl w.heap.size 5 i5 (.int .u8 0) 1 Tryd.underlying22 hi5 hz50 hz51 hz52 rfl A 150 c (U ([1, 6] ++ packTo exRow 148)) rfl HO14.out (.int .u8 (64 : Int)) _ rfl rfl (by omega) (by unfold maxLen; omega) hs14 ?_
                 intro A15 c15 w15 hown15 hg15)
              | fail)
            rw [rounds_succ]
            go_wp2_with fail
            go_ret
            refine ⟨A15, c15, rfl, ?_, HB14.out.grown hg15 hs14 (fun q hq => (HO14.out.lt q hq).1)⟩
            rw [exB, U_append]
            exact hown15
end Go.Proofs.YtejgoienkpaabaaDoor
