/- Laws towards WalkDeep: PrtA, GooP, ChnP. -/
import Derived.Test.YtnjhjbmngoeobaaGreatDoorMg25
import Derived.Test.YtnjhjbmngoeobaaGreatDoorMg24
import Derived.Test.YtnjhjbmngoeobaaGreatDoorMg27
import Derived.Test.YtnjhjbmngoeobaaGreatDoorMg14
namespace Go.Proofs.YtnjhjbmngoeobaaGreatDoor
open Go.RowKit Go.Maps
set_option maxRecDepth 100000
def ParP (w : World) (l : List Id) (e : Ending) (w' : World) : Prop := ∃ A k, e = .returned (.slice A l.length k) ∧ w'.ownsRow w.heap.size 30 32 (.slice A l.length k) l.length (IdsU l) ∧ Below w.heap.size w w'
def Par1 (w2 : World) (ls : List Lnk) (n : Nat) (v7 v19 : Value) (wr : World) : Prop :=
 ∃ (j : Nat) (A : Option Addr) (k : Nat), j ≤ n ∧ v19 = .int .i64 (j : Int) ∧ v7 = .slice A j k ∧ Hid (wr.ownsRow w2.heap.size 30 32 (.slice A j k) j (IdsU ((ls.map (·.1)).take j))) ∧ Hid (Below w2.heap.size w2 wr)
set_option maxHeartbeats 2000000 in
theorem parents_any (w0 w : World) (B0 m a : Nat) (S : Sto) (Ds : DataW Value) (i : Id) (he : Env w0 B0 a m S Ds) (hb : Below w0.heap.size w0 w) (hi : i ∈ idsS S) (l0 : Lnk) (ls : List Lnk) (hcl : childS S i = l0 :: ls) (hn : ls.length ≤ 20000) :
 Calls Tryz.prog 30 #[.pointer (some ⟨a, 0, none⟩), .agg (U i.1).toArray] w (ParP w (ls.map (·.1))) := by
 obtain ⟨wb, hwb⟩ : ∃ wb, wb = w.alloc (.cells (U i.1).toArray 30) := ⟨_, rfl⟩
 have hbb : Below w.heap.size w wb := by rw [hwb]; exact (Below.refl _ _).alloc (Nat.le_refl _) _
 have HR : Hid (wb.heap[w.heap.size]? = some (.cells (U i.1).toArray 30 (0, 0))) := by rw [hwb]; exact heap_alloc_new w _
 have hbw : Below w0.heap.size w0 wb := hb.trans (hbb.mono hb.size)
 have HK := Lib.hid (childrenK B0 a m S Ds i wb (he.at_ hbw).1 he.kn hi (he.at_ hbw).2)
 unfold Hid at HK
 rw [hcl] at HK
 replace HK := Lib.hid HK
 have HB := Lib.hid hbb
 have HWB := Lib.hid hwb
 have HSZ2 := Lib.hid (id_size' _ i.2)
 have hu30 := Tryz.underlying30
 have hu157 := Tryz.underlying106
 have hso : ∀ w : World, (Go.sizeOf 30).run Tryz.prog w = .ok 32 w := fun w => by kernel_rfl
 obtain ⟨ie, hie, his, hib, ze, hiz, hzs⟩ := info_id
 have HIE := Lib.hid (And.intro hie (And.intro his (And.intro hib (And.intro hiz hzs))))
 have HLN : Hid (∀ w : World, Hid ((w.alloc (.cells #[Value.int IntKind.u8 0, Value.int IntKind.u8 0, Value.int IntKind.u8 0, Value.int IntKind.u8 0, Value.int IntKind.u8 0, Value.int IntKind.u8 0, Value.int IntKind.u8 0, Value.int IntKind.u8 0, Value.int IntKind.u8 0, Value.int IntKind.u8 0, Value.int IntKind.u8 0, Value.int IntKind.u8 0, Value.int IntKind.u8 0, Value.int IntKind.u8 0, Value.int IntKind.u8 0, Value.int IntKind.u8 0, Value.int IntKind.u8 0, Value.int IntKind.u8 0, Value.int IntKind.u8 0, Value.int IntKind.u8 0, Value.int IntKind.u8 0, Value.int IntKind.u8 0, Value.int IntKind.u8 0, Value.int IntKind.u8 0, Value.int IntKind.u8 0, Value.int IntKind.u8 0, Value.int IntKind.u8 0, Value.int IntKind.u8 0, Value.int IntKind.u8 0, Value.int IntKind.u8 0, Value.int IntKind.u8 0, Value.int IntKind.u8 0, Value.int IntKind.i64 0] 106)).heap[w.heap.size]? = some (.cells (lnkV (zeroId, 0)).toArray 106 (0, 0)))) := lnk_new
 obtain ⟨n, hnn⟩ : ∃ n, n = ls.length := ⟨_, rfl⟩
 rw [← hnn] at hn
 have HN := Lib.hid hnn
 clear hwb hbb hbw he hb hi hcl hie his hib hiz hzs hnn
 go_enter Tryz.func30, Tryz.ntmps30
 go_upto_region 1 with fail
 rw [← HWB.out]
 clear HWB
 go_wp2_with (with_reducible refine wpList_load_row rfl 30 (.tmp 3) rfl w.heap.size rfl 30 (U i.1).toArray (0, 0) _ HR.out hu30 rfl HSZ2.out ?_)
 refine HK.out.mono ?_
 rintro e w2 ⟨v, rfl, hv, hb2⟩
 have hvr := hv.read (Nat.le_refl _)
 obtain ⟨A, k, rfl, hown⟩ := hv
 obtain ⟨q, o, cs, rfl, hle, hbq, hr⟩ := hvr.tail
 have hk1 : ls.length + 1 ≤ k := own_cap hown
 have hlen : (l0 :: ls).length = n + 1 := by simp [HN.out]
 rw [hlen]
 have e1 : ((n + 1 : Nat) : Int) - 1 = (n : Int) := by omega
 have e1' : (n : Int) + 1 - 1 = (n : Int) := by omega
 have hkn : n + 1 ≤ k := by rw [HN.out]; exact hk1
 have HB2 : Hid (Below w.heap.size w w2) := HB.out.trans (hb2.mono HB.out.size)
 have HQ := Lib.hid (And.intro hbq hr)
 have HO0 : Hid (w2.ownsRow w2.heap.size 30 32 (.slice none 0 0) 0 (IdsU ((ls.map (·.1)).take 0))) := own_nil _ _ _ _
 have HB0 : Hid (Below w2.heap.size w2 w2) := Below.refl _ _
 clear hb2 HK HB HR hvr hown hlen hk1 hle hbq hr
 have HQ1 : Hid (k = 1 → w2.rangeAt q o (LnkU ls)) := fun hk => by
  have h0 : ls = [] := List.eq_nil_of_length_eq_zero (by have := HN.out; omega)
  rw [h0]
  intro t v hv
  simp [LnkU] at hv
 have HQ2 : Hid (w2.rangeAt q (o + 33) (LnkU ls)) := HQ.out.2
 have HBQ : Hid (Blk w2 q 106 cs) := HQ.out.1
 clear HQ
 go_upto_region 4 with fail
 · have HRQ := Lib.hid (HQ1.out (by assumption))
   clear HQ1 HQ2
   go_loopw [7, 19] (fun v7 v19 wr => Par1 w2 ls n v7 v19 wr) (fun _ v19 _ => n - (intOf v19).toNat)
   case atStart => exact ⟨0, _, _, by omega, rfl, rfl, HO0, HB0⟩
   case round =>
    clear HO0 HB0
    obtain ⟨j, A, c, hj, rfl, rfl, HO, HB⟩ := hrel
    have hjb : j ≤ 20000 := by omega
    by_cases hlt : j < n
    · exfalso
      omega
    · have hd : decide ((j : Int) < (n : Int)) = false := decide_eq_false (by omega)
      have hd' : decide (j < n) = false := decide_eq_false hlt
      have hjn : j = n := by omega
      subst hjn
      have HF : Hid (ParP w (ls.map (·.1)) (.returned (.slice A j c)) wr) := by
       have ho := HO.out
       have e2 : (ls.map (·.1)).length = j := by rw [List.length_map, HN.out]
       rw [List.take_of_length_le (by rw [e2]; exact Nat.le_refl _)] at ho
       exact ⟨A, c, by rw [e2], by rw [e2]; exact own_base ho HB2.out.size, HB2.out.trans (HB.out.mono HB2.out.size)⟩
      clear HO HB
      go_wp2_with fail
      go_ret
      exact HF.out
 · have HRQ := Lib.hid HQ2.out
   clear HQ1 HQ2
   go_loopw [7, 19] (fun v7 v19 wr => Par1 w2 ls n v7 v19 wr) (fun _ v19 _ => n - (intOf v19).toNat)
   case atStart => exact ⟨0, _, _, by omega, rfl, rfl, HO0, HB0⟩
   case round =>
    clear HO0 HB0
    obtain ⟨j, A, c, hj, rfl, rfl, HO, HB⟩ := hrel
    have hjb : j ≤ 20000 := by omega
    by_cases hlt : j < n
    · have hd : decide ((j : Int) < (n : Int)) = true := decide_eq_true (by omega)
      have hd' : decide (j < n) = true := decide_eq_true hlt
      have hjl : j < ls.length := by rw [← HN.out]; exact hlt
      obtain ⟨l, hl⟩ : ∃ l, l = ls.getD j (zeroId, 0) := ⟨_, rfl⟩
      have hbq := HBQ.out.below HB.out HBQ.out.lt
      have hr2 := range_stay HRQ.out HBQ.out hbq
      have hrl : wr.rangeAt q (o + 33 + j * 33) (lnkV l) := fun k v hv => by
       have := hr2 (j * 33 + k) v (LnkU_at ls j k v hjl (by rw [← hl]; exact hv))
       rw [Nat.add_assoc]
       exact this
      have HTK : Hid (IdsU ((ls.map (·.1)).take j) ++ U l.1.1 = IdsU ((ls.map (·.1)).take (j + 1))) := by
       unfold Hid
       have e : l.1 = (ls.map (·.1)).getD j zeroId := by
        rw [hl, List.getD_eq_getElem?_getD, List.getD_eq_getElem?_getD, List.getElem?_map]
        rw [List.getElem?_eq_getElem hjl]
        rfl
       rw [List.take_add_one, e, List.getD_eq_getElem?_getD, List.getElem?_map, List.getElem?_eq_getElem hjl]
       exact IdsU_snoc _ _
      have HRL := Lib.hid hrl
      have HSL2 := Lib.hid (lnkV_size l)
      have HFL := Lib.hid (lnk_fit l)
      have HNL := HLN.out wr
      have hb0 : (0 : Int) ≤ (j : Int) := by omega
      have hb2 : (j : Int) < (n : Int) := by omega
      have HJ := Lib.hid hlt
      clear hl hbq hr2 hrl hjl hlt
      go_upto_region 6 with (first
       | (with_reducible refine wpList_load_mid rfl 106 (.tmp 21) rfl q (o + 33 + j * 33) rfl (lnkV l) _ HRL.out hu157 rfl HSL2.out ?_)
       | (with_reducible refine wpList_storeG rfl 106 (.tmp 9) (.tmp 22) rfl wr.heap.size 0 (lnkV l) rfl rfl (lnkV (zeroId, 0)) 106 HNL.out HFL.out (lnkV_one _) HSL2.out ?_; intro w8 HB8 HG8))
      have G8 : wr.grownBy w8 none := gb_fresh HG8.out
      have hbl8 : Blk w8 wr.heap.size 106 (lnkV l).toArray := by
       have h1 := HB8.out
       rw [splice_lnk] at h1
       exact h1
      have hri := lnk_range_id (lnk_range hbl8)
      have hc8 := (lnk_range hbl8) 32 (.int .i64 (l.2 : Int)) (by unfold lnkV; rw [List.getElem?_append_right (by rw [U_length, l.1.2]; exact Nat.le_refl _), U_length, l.1.2]; rfl)
      have HBW8 : Hid (Below w2.heap.size w2 w8) := HB.out.trans ((below_of_gb G8).mono HB.out.size)
      have HO8 : Hid (w8.ownsRow w2.heap.size 30 32 (.slice A j c) j (IdsU ((ls.map (·.1)).take j))) := own_below HO.out (below_of_gb G8)
      have HONE : Hid (∀ u ∈ (U l.1.1).toArray.toList, u.oneCell' = true) := by unfold Hid; rw [List.toList_toArray]; exact U_one _
      have hszi := id_size _ l.1.2
      obtain ⟨d0, d1, d2, d3, d4, d5, d6, d7, d8, d9, d10, d11, d12, d13, d14, d15, d16, d17, d18, d19, d20, d21, d22, d23, d24, d25, d26, d27, d28, d29, d30, d31, hU⟩ := id32 l.1
      unfold Hid at HTK HONE
      rw [hU] at HTK HONE hri hszi
      replace HTK := Lib.hid HTK
      replace HONE := Lib.hid HONE
      have HRI := Lib.hid hri
      have HSZI := Lib.hid hszi
      clear HB8 HG8 G8 HNL HRL HB HO hU hri hszi hbl8
      go_wp2_with (first
       | (with_reducible refine wpList_load_mid rfl 30 (.tmp 24) rfl wr.heap.size 0 rfl [d0, d1, d2, d3, d4, d5, d6, d7, d8, d9, d10, d11, d12, d13, d14, d15, d16, d17, d18, d19, d20, d21, d22, d23, d24, d25, d26, d27, d28, d29, d30, d31] _ HRI.out hu30 rfl HSZI.out ?_)
       | (at_builtin
          refine wpList_pushN w8 rfl (.tmp 23) (.tmp 26) 28 rfl w2.heap.size 30 ie ze 32 32 Tryz.underlying28 HIE.out.1 HIE.out.2.2.2.1 HIE.out.2.1 HIE.out.2.2.1 HIE.out.2.2.2.2 (by decide) A j c (IdsU ((ls.map (·.1)).take j)) rfl HO8.out #[d0, d1, d2, d3, d4, d5, d6, d7, d8, d9, d10, d11, d12, d13, d14, d15, d16, d17, d18, d19, d20, d21, d22, d23, d24, d25, d26, d27, d28, d29, d30, d31] 1 _ rfl HONE.out rfl ?_ ?_ HBW8.out.size ?_
          · omega
          · unfold maxLen; omega
          intro A2 c2 w11 hown11 hg11 hn11
          have HB11 : Hid (Below w2.heap.size w2 w11) := HBW8.out.trans ⟨hg11.os, hg11.tape, hg11.output, hg11.size, fun q hq => hg11.block q (Nat.lt_of_lt_of_le hq HBW8.out.size) (fun e => by
           cases A with
           | none => simp [Value.ownBlock] at e
           | some p =>
             have h1 := (HO8.out.lt p.block rfl).1
             have h2 : q = p.block := Option.some.inj e
             omega)⟩
          have HO11 : Hid (w11.ownsRow w2.heap.size 30 32 (.slice A2 (j + 1) c2) (j + 1) (IdsU ((ls.map (·.1)).take (j + 1)))) := by
           rw [← HTK.out]
           exact hown11
          clear hown11 hg11 hn11)
       | fail)
      go_roundw
      case rel => exact ⟨j + 1, A2, c2, by have := HJ.out; omega, by go_num, rfl, HO11, HB11⟩
      case measure => simp [intOf]; omega
    · have hd : decide ((j : Int) < (n : Int)) = false := decide_eq_false (by omega)
      have hd' : decide (j < n) = false := decide_eq_false hlt
      have hjn : j = n := by omega
      subst hjn
      have HF : Hid (ParP w (ls.map (·.1)) (.returned (.slice A j c)) wr) := by
       have ho := HO.out
       have e2 : (ls.map (·.1)).length = j := by rw [List.length_map, HN.out]
       rw [List.take_of_length_le (by rw [e2]; exact Nat.le_refl _)] at ho
       exact ⟨A, c, by rw [e2], by rw [e2]; exact own_base ho HB2.out.size, HB2.out.trans (HB.out.mono HB2.out.size)⟩
      clear HO HB
      go_wp2_with fail
      go_ret
      exact HF.out
end Go.Proofs.YtnjhjbmngoeobaaGreatDoor
namespace Go.Proofs.YtnjhjbmngoeobaaGreatDoor
set_option maxRecDepth 100000
theorem Deep.good {S : Sto} {n m : Nat} {B T C G : Nat → Bs} (D : Deep S n m B T C G) (hk : KnS S) (hl : 3 * n + m ≤ 8000) : Good S := by
 have hw : ∀ i, (childS S i).length ≤ 2 := fun i => by
  by_cases hi : i ∈ idsS S
  · rcases D.ids hi with ⟨t, ht, rfl | rfl | rfl⟩ | ⟨j, hj, rfl⟩
    · rw [(D.cB ht).2]; simp
    · rw [(D.cT ht).2]; simp
    · rw [(D.cC ht).2]
      by_cases h0 : t = 0
      · rw [if_pos h0]; simp
      · rw [if_neg h0]; simp
    · rw [(D.cG hj).2]; simp
  · rw [childS_absent hi]; simp
 refine ⟨D.ok, hk, fun i hi h4 => ?_, fun i hi => D.kids hi, hw, by rw [D.len]; exact hl, fun i hi h3 => ?_, fun i hi h3 l hl => ?_, fun i hi h4 l hl => ?_⟩
 · rcases D.ids hi with ⟨t, ht, rfl | rfl | rfl⟩ | ⟨j, hj, rfl⟩
   · rw [(D.cB ht).1] at h4; omega
   · rw [(D.cT ht).1] at h4; omega
   · rw [(D.cC ht).1] at h4; omega
   · exact ⟨_, (D.cG hj).2⟩
 · rcases D.ids hi with ⟨t, ht, rfl | rfl | rfl⟩ | ⟨j, hj, rfl⟩
   · rw [(D.cB ht).1] at h3; omega
   · rw [(D.cT ht).1] at h3; omega
   · exact ⟨_, _, (D.cC ht).2⟩
   · rw [(D.cG hj).1] at h3; omega
 · rcases D.ids hi with ⟨t, ht, rfl | rfl | rfl⟩ | ⟨j, hj, rfl⟩
   · rw [(D.cB ht).1] at h3; omega
   · rw [(D.cT ht).1] at h3; omega
   · rw [(D.cC ht).2] at hl
     by_cases h0 : t = 0
     · rw [if_pos h0] at hl; simp at hl
     · rw [if_neg h0] at hl
       simp at hl
       rw [hl]
   · rw [(D.cG hj).1] at h3; omega
 · rcases D.ids hi with ⟨t, ht, rfl | rfl | rfl⟩ | ⟨j, hj, rfl⟩
   · rw [(D.cB ht).1] at h4; omega
   · rw [(D.cT ht).1] at h4; omega
   · rw [(D.cC ht).1] at h4; omega
   · rw [(D.cG hj).2] at hl
     rw [List.mem_singleton] at hl
     rw [hl]
     by_cases h0 : j = 0
     · rw [if_pos h0]; exact .inl rfl
     · rw [if_neg h0]; exact .inr rfl
end Go.Proofs.YtnjhjbmngoeobaaGreatDoor
namespace Go.Proofs.YtnjhjbmngoeobaaGreatDoor
open Go.RowKit Go.Maps
set_option maxRecDepth 100000
def prs (S : Sto) (i : Id) : List Id := ((childS S i).drop 1).map (·.1)
structure Chn (S : Sto) (ch : List Id) : Prop where
 nd : ch.Nodup
 com : ∀ i ∈ ch, i ∈ idsS S ∧ kindS S i = 3
 par : ∀ k, k < ch.length → prs S (ch.getD k zeroId) = if k + 1 < ch.length then [ch.getD (k + 1) zeroId] else []
section
variable {S : Sto} {ch : List Id} (C : Chn S ch)
include C
omit C in
theorem at_D {ch : List Id} {i : Id} (h : i ∈ ch) : ∃ k, k < ch.length ∧ ch.getD k zeroId = i := by
 obtain ⟨k, hk, e⟩ := List.getElem_of_mem h
 exact ⟨k, hk, by rw [List.getD_eq_getElem?_getD, List.getElem?_eq_getElem hk, e]; rfl⟩
omit C in
theorem getD_mem {ch : List Id} {k : Nat} (hk : k < ch.length) : ch.getD k zeroId ∈ ch := by
 rw [List.getD_eq_getElem?_getD, List.getElem?_eq_getElem hk]
 exact List.getElem_mem _
theorem Chn.inj {j k : Nat} (hj : j < ch.length) (hk : k < ch.length) (e : ch.getD j zeroId = ch.getD k zeroId) : j = k := by
 rw [List.getD_eq_getElem?_getD, List.getD_eq_getElem?_getD, List.getElem?_eq_getElem hj, List.getElem?_eq_getElem hk] at e
 exact (List.getElem_inj C.nd).1 e
theorem Chn.prs_le {i : Id} (h : i ∈ ch) : (prs S i).length ≤ 1 := by
 obtain ⟨k, hk, rfl⟩ := at_D h
 rw [C.par k hk]
 split <;> simp
theorem Chn.prs_in {i j : Id} (h : i ∈ ch) (hj : j ∈ prs S i) : j ∈ ch := by
 obtain ⟨k, hk, rfl⟩ := at_D h
 rw [C.par k hk] at hj
 split at hj
 · rename_i h1
   rw [List.mem_singleton] at hj
   rw [hj]
   exact getD_mem h1
 · cases hj
theorem Chn.parent {c : Id} {k : Nat} (hk : k < ch.length) (h : c ∈ ch) (hj : ch.getD k zeroId ∈ prs S c) : 0 < k ∧ c = ch.getD (k - 1) zeroId := by
 obtain ⟨t, ht, rfl⟩ := at_D h
 rw [C.par t ht] at hj
 split at hj
 · rename_i h1
   rw [List.mem_singleton] at hj
   have := C.inj hk h1 hj
   subst this
   exact ⟨by omega, by simp⟩
 · cases hj
theorem Chn.one {c d p : Id} (hc : c ∈ ch) (hd : d ∈ ch) (h1 : p ∈ prs S c) (h2 : p ∈ prs S d) : c = d := by
 have hp := C.prs_in hc h1
 obtain ⟨k, hk, rfl⟩ := at_D hp
 rw [(C.parent hk hc h1).2, (C.parent hk hd h2).2]
end
theorem nxtH_prs {S : Sto} {i : Id} (h : kindS S i = 3) : nxt_ (lnkH S) i = prs S i := by
 unfold nxt_ prs
 rw [lnkH_com h]
theorem Chn.setH {S : Sto} {a : Id} {r : List Id} (C : Chn S (a :: r)) : ∀ i, i ∈ setP (lnkH S) [a] ↔ i ∈ a :: r := fun i => by
 rw [mem_setP (within_sub lnkH_child)]
 constructor
 · intro h
   refine h.sub (S := fun x => x ∈ a :: r) (fun i hi => by rw [List.mem_singleton] at hi; subst hi; simp) (fun i hi j hj => ?_)
   rw [nxtH_prs (C.com i hi).2] at hj
   exact C.prs_in hi hj
 · intro h
   obtain ⟨k, hk, rfl⟩ := at_D h
   clear h
   induction k with
   | zero => exact .root (by simp)
   | succ k ih =>
     refine .step (ih (by omega)) ?_
     rw [nxtH_prs (C.com _ (getD_mem (by omega))).2, C.par k (by omega), if_pos hk]
     simp
theorem Deep.chn {S : Sto} {n m : Nat} {B T C G : Nat → Bs} (D : Deep S n m B T C G) {k : Nat} (hk : k < n) : Chn S ((List.range (k + 1)).map fun j => shaI (C (k - j))) := by
 have hg : ∀ j, j < k + 1 → ((List.range (k + 1)).map fun j => shaI (C (k - j))).getD j zeroId = shaI (C (k - j)) := fun j hj => by
  rw [List.getD_eq_getElem?_getD, List.getElem?_map, List.getElem?_range hj]
  rfl
 refine ⟨?_, fun i hi => ?_, fun j hj => ?_⟩
 · rw [List.Nodup, List.pairwise_map]
   refine List.Pairwise.imp_of_mem ?_ (List.nodup_range (n := k + 1))
   intro a b ha hb hne e
   have h1 := List.mem_range.1 ha
   have h2 := List.mem_range.1 hb
   have := D.apart _ _ (by omega) (by omega) e
   omega
 · obtain ⟨j, hj, rfl⟩ := List.mem_map.1 hi
   have := List.mem_range.1 hj
   exact ⟨in_ids (D.gC _ (by omega)), (D.cC (by omega)).1⟩
 · simp only [List.length_map, List.length_range] at hj ⊢
   rw [hg j hj]
   unfold prs
   rw [(D.cC (i := k - j) (by omega)).2]
   by_cases h : j + 1 < k + 1
   · rw [if_pos h, if_neg (by omega), hg (j + 1) h]
     have e : k - j - 1 = k - (j + 1) := by omega
     simp [e]
   · rw [if_neg h, if_pos (by omega)]
     rfl
theorem chn0 : Chn s0 [iC] := by
 refine ⟨by simp, fun i hi => ?_, fun k hk => ?_⟩
 · rw [List.mem_singleton] at hi
   subst hi
   exact ⟨by decide +kernel, k_C⟩
 · have : k = 0 := by simp at hk; omega
   subst this
   decide +kernel
structure FunM (f : Id → Nat) (ks : List Id) (D : DataW Value) : Prop where
 nd : ks.Nodup
 hs : ∀ i, has D (ik i) = decide (i ∈ ks)
 at_ : ∀ i ∈ ks, ∀ z, D.atKey (ik i) z = .lit (.int .i64 (f i : Int))
 size : Maps.size D = ks.length
 only : ∀ kl, has D kl = true → ∃ i ∈ ks, kl = ik i
theorem FunM.start (f : Id → Nat) : FunM f [] (.map []) := ⟨List.nodup_nil, fun i => by simp [has], by simp, rfl, fun kl h => by simp [has] at h⟩
theorem FunM.keys {f : Id → Nat} {ks : List Id} {D : DataW Value} (h : FunM f ks D) : KeysM ks D := ⟨h.hs, h.size, h.only⟩
theorem FunM.put {f : Id → Nat} {ks : List Id} {D : DataW Value} (h : FunM f ks D) (hD : Tidy D) (i : Id) (hi : i ∉ ks) (v : Nat) (hf : f i = v) : FunM f (ks ++ [i]) (D.put (ik i) (.lit (.int .i64 (v : Int)))) := by
 have hh : has D (ik i) = false := by rw [h.hs]; simpa using hi
 refine ⟨?_, fun j => ?_, fun j hj z => ?_, ?_, fun kl hkl => ?_⟩
 · rw [List.nodup_append]
   exact ⟨h.nd, by simp, fun a ha b hb => by rw [List.mem_singleton] at hb; subst hb; exact fun e => hi (e ▸ ha)⟩
 · by_cases e : j = i
   · subst e
     rw [has_put_same hD.isMap (ik_isKey j)]
     simp
   · rw [has_put_other (fun e2 => e (ik_inj e2)), h.hs]
     simp [e]
 · by_cases e : j = i
   · subst e
     rw [atKey_put_same hD.isMap (ik_isKey j), hf]
   · rw [atKey_put_other (fun e2 => e (ik_inj e2))]
     refine h.at_ j ?_ z
     rcases List.mem_append.1 hj with h1 | h1
     · exact h1
     · exact absurd (List.mem_singleton.1 h1) e
 · rw [Maps.size_put hD, hh, List.length_append]
   simp [h.size]
 · by_cases e : kl = ik i
   · exact ⟨i, by simp, e⟩
   · rw [has_put_other e] at hkl
     obtain ⟨j, hj, e2⟩ := h.only kl hkl
     exact ⟨j, List.mem_append.2 (.inl hj), e2⟩
theorem FunM.del {f g : Id → Nat} {ks : List Id} {D : DataW Value} (h : FunM f ks D) (hD : Tidy D) (i : Id) (hg : ∀ j ∈ ks, j ≠ i → g j = f j) : FunM g (ks.filter fun j => decide (j ≠ i)) (D.del (ik i)) := by
 refine ⟨List.Pairwise.filter _ h.nd, fun j => ?_, fun j hj z => ?_, ?_, fun kl hkl => ?_⟩
 · by_cases e : j = i
   · subst e
     rw [has_del_same]
     simp
   · rw [has_del_other (fun e2 => e (ik_inj e2)), h.hs]
     simp [List.mem_filter, e]
 · rw [List.mem_filter] at hj
   have e : j ≠ i := by simpa using hj.2
   rw [atKey_del_other (fun e2 => e (ik_inj e2)), hg j hj.1 e]
   exact h.at_ j hj.1 z
 · have h1 := Maps.size_del (k := ik i) hD
   rw [h.hs, h.size] at h1
   by_cases e : i ∈ ks
   · rw [decide_eq_true e, if_pos rfl] at h1
     have h2 : (ks.filter fun j => decide (j ≠ i)).length + 1 = ks.length := by
      have h3 : ks.filter (fun j => decide (j ≠ i)) = ks.erase i := by
       rw [h.nd.erase_eq_filter]
       refine List.filter_congr (fun x _ => ?_)
       by_cases e : x = i <;> simp [e]
      rw [h3, List.length_erase_of_mem e]
      have := List.length_pos_of_mem e
      omega
     omega
   · rw [decide_eq_false e] at h1
     have h2 : ks.filter (fun j => decide (j ≠ i)) = ks := List.filter_eq_self.2 (fun x hx => by
      have : x ≠ i := fun e2 => e (e2 ▸ hx)
      simp [this])
     rw [h2]
     simpa using h1
 · have hne : kl ≠ ik i := fun e => by rw [e, has_del_same] at hkl; cases hkl
   rw [has_del_other hne] at hkl
   obtain ⟨j, hj, e2⟩ := h.only kl hkl
   exact ⟨j, List.mem_filter.2 ⟨hj, by simpa using fun e => hne (e2.trans (by rw [e]))⟩, e2⟩
theorem FunM.turn {f g : Id → Nat} {ks : List Id} {D : DataW Value} (h : FunM f ks D) (hD : Tidy D) (i : Id) (hi : i ∈ ks) (v : Nat) (hv : g i = v) (hg : ∀ j ∈ ks, j ≠ i → g j = f j) : FunM g ks (D.put (ik i) (.lit (.int .i64 (v : Int)))) := by
 have hh : has D (ik i) = true := by rw [h.hs]; simpa using hi
 refine ⟨h.nd, fun j => ?_, fun j hj z => ?_, ?_, fun kl hkl => ?_⟩
 · by_cases e : j = i
   · subst e
     rw [has_put_same hD.isMap (ik_isKey j)]
     simp [hi]
   · rw [has_put_other (fun e2 => e (ik_inj e2)), h.hs]
 · by_cases e : j = i
   · subst e
     rw [atKey_put_same hD.isMap (ik_isKey j), hv]
   · rw [atKey_put_other (fun e2 => e (ik_inj e2)), hg j hj e]
     exact h.at_ j hj z
 · rw [Maps.size_put hD, hh]
   simpa using h.size
 · by_cases e : kl = ik i
   · exact ⟨i, hi, e⟩
   · rw [has_put_other e] at hkl
     exact h.only kl hkl
section
variable {w : World} {f : Id → Nat} {ks : List Id} {D : DataW Value} {mk n : Nat}
theorem FunM.look (h : w.ownsMap Tryz.prog 30 (plainElem Tryz.prog 3) mk n D) (k : FunM f ks D) (i : Id) (c : Nat) (hc : c = if i ∈ ks then f i else 0) :
 (Instr.lookup 84 (.map (some mk)) (.agg (U i.1).toArray) false).run Tryz.prog w = .ok (.int .i64 (c : Int)) w := by
 have hz : (zeroValue 3).run Tryz.prog w = .ok (.int .i64 0) w := by kernel_rfl
 obtain ⟨x, h1, h2, _⟩ := h.lookup_int key_law (t := 84) Tryz.underlying84 und3 hz (ik_key i)
 by_cases hi : i ∈ ks
 · rw [if_pos hi] at hc
   rw [k.at_ i hi] at h2
   injection h2 with h3
   injection h3 with _ h4
   rw [hc, h4]
   exact h1
 · rw [if_neg hi] at hc
   rw [atKey_of_not_has (by rw [k.hs]; simpa using hi)] at h2
   injection h2 with h3
   injection h3 with _ h4
   rw [hc, Int.natCast_zero, h4]
   exact h1
theorem FunM.look2 (h : w.ownsMap Tryz.prog 30 (plainElem Tryz.prog 3) mk n D) (k : KeysM ks D) (i : Id) :
 ∃ v, (Instr.lookup 84 (.map (some mk)) (.agg (U i.1).toArray) true).run Tryz.prog w = .ok (.tuple #[v, .bool (decide (i ∈ ks))]) w := by
 have hz : (zeroValue 3).run Tryz.prog w = .ok (.int .i64 0) w := by kernel_rfl
 obtain ⟨v, ps, h1, _⟩ := h.look_ok key_law (t := 84) Tryz.underlying84 hz (plainElem_int und3 (a := 0) (by decide)) (ik_key i)
 rw [k.hs] at h1
 exact ⟨v, h1⟩
end
end Go.Proofs.YtnjhjbmngoeobaaGreatDoor
