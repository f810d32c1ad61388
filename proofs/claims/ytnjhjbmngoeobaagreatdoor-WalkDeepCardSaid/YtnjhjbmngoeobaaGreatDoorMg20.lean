/- Laws towards WalkDeep: QueE, QueF, QueG, SrtA, SrtB, CmeA. -/
import Derived.Test.YtnjhjbmngoeobaaGreatDoorMg19
import Derived.Lib.Bytealg
import Derived.Laws.Externs
import Derived.Deep.QuietTactic
import Derived.BigQuiet
import Derived.Test.YtnjhjbmngoeobaaGreatDoorMg15
namespace Go.Proofs.YtnjhjbmngoeobaaGreatDoor
open Go.RowKit Go.Maps
set_option maxRecDepth 100000
def LnkR (w : World) (B : Nat) (ls : List Lnk) (v : Value) : Prop := ∃ A k, v = .slice A ls.length k ∧ (ls = [] ∨ ∃ q o cs, A = some ⟨q, o, none⟩ ∧ B ≤ q ∧ Blk w q 106 cs ∧ w.rangeAt q o (LnkU ls))
def OfP (w : World) (ls : List Lnk) (e : Ending) (w' : World) : Prop := ∃ v, e = .returned v ∧ LnkR w' w.heap.size ls v ∧ Below w.heap.size w w'
theorem LinksV.read {w : World} {B B0 : Nat} {ls : List Lnk} {v : Value} (h : LinksV w B ls v) (hB : B0 ≤ B) : LnkR w B0 ls v := by
 obtain ⟨A, k, rfl, ho⟩ := h
 refine ⟨A, k, rfl, ?_⟩
 by_cases h0 : ls = []
 · exact .inl h0
 · have hp := List.length_pos_iff.2 h0
   obtain ⟨q, cap, hv, _, hlt⟩ := ho.form hp
   rcases ho.2 with ⟨hv2, _⟩ | ⟨g, cap2, cur, hv2, hb2, hh, _⟩
   · rw [hv2] at hv; cases hv
   · injection hv2 with hv1
     subst hv1
     injection hv with hv3
     have hqg : g = q := by injection hv3 with h4; injection h4
     subst hqg
     exact .inr ⟨g, 0, cur, rfl, by omega, hh, fun j v hj => by
      have := ho.cells (g := g) rfl j v hj
      rw [addr_add] at this
      exact this⟩
theorem range_stay {w w' : World} {q o : Nat} {cs : Array Value} {xs : List Value} {t : TypeId} (hr : w.rangeAt q o xs) (h : Blk w q t cs) (h' : Blk w' q t cs) : w'.rangeAt q o xs := fun j v hj =>
 (World.cell?_of_block (a := ⟨q, o + j, none⟩) ((show w'.heap[q]? = _ from h').trans (show w.heap[q]? = _ from h).symm)).trans (hr j v hj)
theorem lnkV_length (l : Lnk) : (lnkV l).length = 33 := by simp [lnkV, U_length, l.1.2]
theorem LnkU_at : ∀ (ls : List Lnk) (j k : Nat) (v : Value), j < ls.length → (lnkV (ls.getD j (zeroId, 0)))[k]? = some v → (LnkU ls)[j * 33 + k]? = some v
 | [], j, k, v, h, _ => by simp at h
 | l :: ls, 0, k, v, _, hv => by
   have e : LnkU (l :: ls) = lnkV l ++ LnkU ls := by simp [LnkU]
   have hv : (lnkV l)[k]? = some v := hv
   have hk := (List.getElem?_eq_some_iff.1 hv).1
   rw [e, Nat.zero_mul, Nat.zero_add, List.getElem?_append_left hk]
   exact hv
 | l :: ls, j + 1, k, v, h, hv => by
   have e : LnkU (l :: ls) = lnkV l ++ LnkU ls := by simp [LnkU]
   rw [e, List.getElem?_append_right (by rw [lnkV_length]; omega), lnkV_length, show (j + 1) * 33 + k - 33 = j * 33 + k by omega]
   exact LnkU_at ls j k v (by simpa using h) (by simpa using hv)
set_option maxHeartbeats 2000000 in
theorem kidsA (w0 w : World) (B0 m a sb : Nat) (S : Sto) (Ds : DataW Value) (i : Id) (kv : Value) (he : Env w0 B0 a m S Ds) (hb : Below w0.heap.size w0 w) (hs : Blk w sb 25 #[.pointer (some ⟨a, 0, none⟩)]) (hi : i ∈ idsS S) :
 Calls Tryz.prog 49 #[.agg (U i.1).toArray, kv, .pointer (some ⟨sb, 0, none⟩)] w (OfP w (childS S i)) := by
 obtain ⟨wb, hwb⟩ : ∃ wb, wb = w.alloc (.cells (U i.1).toArray 30) := ⟨_, rfl⟩
 have hbb : Below w.heap.size w wb := by rw [hwb]; exact (Below.refl _ _).alloc (Nat.le_refl _) _
 have HR : Hid (wb.heap[w.heap.size]? = some (.cells (U i.1).toArray 30 (0, 0))) := by rw [hwb]; exact heap_alloc_new w _
 have hcs : wb.cell? ⟨sb, 0, none⟩ = some (.pointer (some ⟨a, 0, none⟩)) := (hs.below hbb hs.lt).cell 0
 have hbw : Below w0.heap.size w0 wb := hb.trans (hbb.mono hb.size)
 have HK := Lib.hid (childrenK B0 a m S Ds i wb (he.at_ hbw).1 he.kn hi (he.at_ hbw).2)
 have HB := Lib.hid hbb
 have HWB := Lib.hid hwb
 have HSZ2 := Lib.hid (id_size' _ i.2)
 have hu30 := Tryz.underlying30
 clear hwb hbb hbw he hb hs hi
 go_enter Tryz.func49, Tryz.ntmps49
 go_upto_region 1 with fail
 rw [← HWB.out]
 clear HWB
 go_wp2_with (with_reducible refine wpList_load_row rfl 30 (.tmp 3) rfl w.heap.size rfl 30 (U i.1).toArray (0, 0) _ HR.out hu30 rfl HSZ2.out ?_)
 refine HK.out.mono ?_
 rintro e w1 ⟨v, rfl, hv, hb1⟩
 have HF : Hid (OfP w (childS S i) (.returned v) w1) := ⟨v, rfl, hv.read HB.out.size, HB.out.trans (hb1.mono HB.out.size)⟩
 clear hv hb1 HK HB HR
 go_wp2_with fail
 go_ret
 exact HF.out
theorem LnkR.tail {w : World} {B : Nat} {l : Lnk} {ls : List Lnk} {A : Option Addr} {k : Nat} (h : LnkR w B (l :: ls) (.slice A (ls.length + 1) k)) : ∃ q o cs, A = some ⟨q, o, none⟩ ∧ B ≤ q ∧ Blk w q 106 cs ∧ w.rangeAt q (o + 33) (LnkU ls) := by
 obtain ⟨A', k', e, h2⟩ := h
 injection e with e1 e2 e3
 subst e1
 rcases h2 with h2 | ⟨q, o, cs, rfl, hlt, hb, hr⟩
 · cases h2
 · refine ⟨q, o, cs, rfl, hlt, hb, fun j v hj => ?_⟩
   have e : LnkU (l :: ls) = lnkV l ++ LnkU ls := by simp [LnkU]
   have := hr (33 + j) v (by rw [e, List.getElem?_append_right (by rw [lnkV_length]; omega), lnkV_length, show 33 + j - 33 = j by omega]; exact hj)
   rw [Nat.add_assoc]
   exact this
set_option maxHeartbeats 2000000 in
theorem lineL (w0 w : World) (B0 m a sb : Nat) (S : Sto) (Ds : DataW Value) (i : Id) (kv : Value) (he : Env w0 B0 a m S Ds) (hb : Below w0.heap.size w0 w) (hs : Blk w sb 25 #[.pointer (some ⟨a, 0, none⟩)]) (hi : i ∈ idsS S) (l0 : Lnk) (ls : List Lnk) (hcl : childS S i = l0 :: ls) :
 Calls Tryz.prog 55 #[.agg (U i.1).toArray, kv, .pointer (some ⟨sb, 0, none⟩)] w (OfP w ls) := by
 obtain ⟨wb, hwb⟩ : ∃ wb, wb = w.alloc (.cells (U i.1).toArray 30) := ⟨_, rfl⟩
 have hbb : Below w.heap.size w wb := by rw [hwb]; exact (Below.refl _ _).alloc (Nat.le_refl _) _
 have HR : Hid (wb.heap[w.heap.size]? = some (.cells (U i.1).toArray 30 (0, 0))) := by rw [hwb]; exact heap_alloc_new w _
 have hcs : wb.cell? ⟨sb, 0, none⟩ = some (.pointer (some ⟨a, 0, none⟩)) := (hs.below hbb hs.lt).cell 0
 have hbw : Below w0.heap.size w0 wb := hb.trans (hbb.mono hb.size)
 have HK := Lib.hid (childrenK B0 a m S Ds i wb (he.at_ hbw).1 he.kn hi (he.at_ hbw).2)
 have HB := Lib.hid hbb
 have HWB := Lib.hid hwb
 have HSZ2 := Lib.hid (id_size' _ i.2)
 have hu30 := Tryz.underlying30
 unfold Hid KidsPost at HK
 rw [hcl] at HK
 replace HK := Lib.hid HK
 clear hwb hbb hbw he hb hs hi hcl
 go_enter Tryz.func55, Tryz.ntmps55
 go_upto_region 1 with fail
 rw [← HWB.out]
 clear HWB
 go_wp2_with (with_reducible refine wpList_load_row rfl 30 (.tmp 3) rfl w.heap.size rfl 30 (U i.1).toArray (0, 0) _ HR.out hu30 rfl HSZ2.out ?_)
 refine HK.out.mono ?_
 rintro e w1 ⟨v, rfl, hv, hb1⟩
 have hvr := hv.read HB.out.size
 obtain ⟨A, k, rfl, hown⟩ := hv
 obtain ⟨q, o, cs, rfl, hlt, hbq, hr⟩ := hvr.tail
 have hk1 : ls.length + 1 ≤ k := own_cap hown
 have HB1 : Hid (Below w.heap.size w w1) := HB.out.trans (hb1.mono HB.out.size)
 obtain ⟨n, hn⟩ : ∃ n, n = ls.length := ⟨_, rfl⟩
 have hlen : (l0 :: ls).length = n + 1 := by simp [hn]
 rw [hlen]
 have e1 : ((n + 1 : Nat) : Int) - 1 = (n : Int) := by omega
 have HN := Lib.hid hn
 have hkn : n + 1 ≤ k := by omega
 have HT := Lib.hid (And.intro hlt (And.intro hbq hr))
 clear hb1 HK HB HR hvr hown hlen hn hk1 hlt hbq hr
 have HF1 : Hid (∀ (A : Option Addr) (k' : Nat), n = 0 → OfP w ls (.returned (.slice A n k')) w1) := by
  intro A k' h0
  have hn := HN.out
  subst hn
  exact ⟨_, rfl, ⟨A, k', rfl, .inl (List.eq_nil_of_length_eq_zero h0)⟩, HB1.out⟩
 have HF2 : Hid (∀ (k' : Nat), OfP w ls (.returned (.slice (some ⟨q, o + 33, none⟩) n k')) w1) := by
  intro k'
  have hn := HN.out
  subst hn
  exact ⟨_, rfl, ⟨_, k', rfl, .inr ⟨q, o + 33, cs, rfl, HT.out.1, HT.out.2.1, HT.out.2.2⟩⟩, HB1.out⟩
 clear HT HN HB1
 go_wp2_with fail
 · go_ret
   exact HF1.out _ _ (by omega)
 · go_ret
   exact HF2.out _
set_option maxHeartbeats 2000000 in
theorem histC (w0 w : World) (B0 m a sb : Nat) (S : Sto) (Ds : DataW Value) (i : Id) (he : Env w0 B0 a m S Ds) (hb : Below w0.heap.size w0 w) (hs : Blk w sb 25 #[.pointer (some ⟨a, 0, none⟩)]) (hi : i ∈ idsS S) (l0 : Lnk) (ls : List Lnk) (hcl : childS S i = l0 :: ls) :
 Calls Tryz.prog 54 #[.agg (U i.1).toArray, .int .i64 3, .pointer (some ⟨sb, 0, none⟩)] w (OfP w ls) := by
 obtain ⟨wb, hwb⟩ : ∃ wb, wb = w.alloc (.cells (U i.1).toArray 30) := ⟨_, rfl⟩
 have hbb : Below w.heap.size w wb := by rw [hwb]; exact (Below.refl _ _).alloc (Nat.le_refl _) _
 have HR : Hid (wb.heap[w.heap.size]? = some (.cells (U i.1).toArray 30 (0, 0))) := by rw [hwb]; exact heap_alloc_new w _
 have hcs : wb.cell? ⟨sb, 0, none⟩ = some (.pointer (some ⟨a, 0, none⟩)) := (hs.below hbb hs.lt).cell 0
 have hbw : Below w0.heap.size w0 wb := hb.trans (hbb.mono hb.size)
 have HK := Lib.hid (childrenK B0 a m S Ds i wb (he.at_ hbw).1 he.kn hi (he.at_ hbw).2)
 have HB := Lib.hid hbb
 have HWB := Lib.hid hwb
 have HSZ2 := Lib.hid (id_size' _ i.2)
 have hu30 := Tryz.underlying30
 unfold Hid KidsPost at HK
 rw [hcl] at HK
 replace HK := Lib.hid HK
 clear hwb hbb hbw he hb hs hi hcl
 go_enter Tryz.func54, Tryz.ntmps54
 go_upto_region 1 with fail
 rw [← HWB.out]
 clear HWB
 go_wp2_with (with_reducible refine wpList_load_row rfl 30 (.tmp 3) rfl w.heap.size rfl 30 (U i.1).toArray (0, 0) _ HR.out hu30 rfl HSZ2.out ?_)
 refine HK.out.mono ?_
 rintro e w1 ⟨v, rfl, hv, hb1⟩
 have hvr := hv.read HB.out.size
 obtain ⟨A, k, rfl, hown⟩ := hv
 obtain ⟨q, o, cs, rfl, hlt, hbq, hr⟩ := hvr.tail
 have hk1 : ls.length + 1 ≤ k := own_cap hown
 have HB1 : Hid (Below w.heap.size w w1) := HB.out.trans (hb1.mono HB.out.size)
 obtain ⟨n, hn⟩ : ∃ n, n = ls.length := ⟨_, rfl⟩
 have hlen : (l0 :: ls).length = n + 1 := by simp [hn]
 rw [hlen]
 have e1 : ((n + 1 : Nat) : Int) - 1 = (n : Int) := by omega
 have HN := Lib.hid hn
 have hkn : n + 1 ≤ k := by omega
 have HT := Lib.hid (And.intro hlt (And.intro hbq hr))
 clear hb1 HK HB HR hvr hown hlen hn hk1 hlt hbq hr
 have HF1 : Hid (∀ (A : Option Addr) (k' : Nat), n = 0 → OfP w ls (.returned (.slice A n k')) w1) := by
  intro A k' h0
  have hn := HN.out
  subst hn
  exact ⟨_, rfl, ⟨A, k', rfl, .inl (List.eq_nil_of_length_eq_zero h0)⟩, HB1.out⟩
 have HF2 : Hid (∀ (k' : Nat), OfP w ls (.returned (.slice (some ⟨q, o + 33, none⟩) n k')) w1) := by
  intro k'
  have hn := HN.out
  subst hn
  exact ⟨_, rfl, ⟨_, k', rfl, .inr ⟨q, o + 33, cs, rfl, HT.out.1, HT.out.2.1, HT.out.2.2⟩⟩, HB1.out⟩
 clear HT HN HB1
 go_wp2_with fail
 · go_ret
   exact HF1.out _ _ (by omega)
 · go_ret
   exact HF2.out _
set_option maxHeartbeats 2000000 in
theorem histG (w0 w : World) (B0 m a sb : Nat) (S : Sto) (Ds : DataW Value) (i : Id) (he : Env w0 B0 a m S Ds) (hb : Below w0.heap.size w0 w) (hs : Blk w sb 25 #[.pointer (some ⟨a, 0, none⟩)]) (hi : i ∈ idsS S) :
 Calls Tryz.prog 54 #[.agg (U i.1).toArray, .int .i64 4, .pointer (some ⟨sb, 0, none⟩)] w (OfP w (childS S i)) := by
 obtain ⟨wb, hwb⟩ : ∃ wb, wb = w.alloc (.cells (U i.1).toArray 30) := ⟨_, rfl⟩
 have hbb : Below w.heap.size w wb := by rw [hwb]; exact (Below.refl _ _).alloc (Nat.le_refl _) _
 have HR : Hid (wb.heap[w.heap.size]? = some (.cells (U i.1).toArray 30 (0, 0))) := by rw [hwb]; exact heap_alloc_new w _
 have hcs : wb.cell? ⟨sb, 0, none⟩ = some (.pointer (some ⟨a, 0, none⟩)) := (hs.below hbb hs.lt).cell 0
 have hbw : Below w0.heap.size w0 wb := hb.trans (hbb.mono hb.size)
 have HK := Lib.hid (childrenK B0 a m S Ds i wb (he.at_ hbw).1 he.kn hi (he.at_ hbw).2)
 have HB := Lib.hid hbb
 have HWB := Lib.hid hwb
 have HSZ2 := Lib.hid (id_size' _ i.2)
 have hu30 := Tryz.underlying30
 clear hwb hbb hbw he hb hs hi
 go_enter Tryz.func54, Tryz.ntmps54
 go_upto_region 1 with fail
 rw [← HWB.out]
 clear HWB
 go_wp2_with (with_reducible refine wpList_load_row rfl 30 (.tmp 3) rfl w.heap.size rfl 30 (U i.1).toArray (0, 0) _ HR.out hu30 rfl HSZ2.out ?_)
 refine HK.out.mono ?_
 rintro e w1 ⟨v, rfl, hv, hb1⟩
 have HF : Hid (OfP w (childS S i) (.returned v) w1) := ⟨v, rfl, hv.read HB.out.size, HB.out.trans (hb1.mono HB.out.size)⟩
 clear hv hb1 HK HB HR
 go_wp2_with fail
 go_ret
 exact HF.out
theorem KindM.look0 {w : World} {S : Sto} {ks : List Id} {D : DataW Value} {mk n : Nat} (h : w.ownsMap Tryz.prog 30 (plainElem Tryz.prog 3) mk n D) (k : KindM S ks D) (i : Id) (hi : i ∈ ks) :
 (Instr.lookup 84 (.map (some mk)) (.agg (U i.1).toArray) false).run Tryz.prog w = .ok (.int .i64 (kindS S i : Int)) w := by
 have hz : (zeroValue 3).run Tryz.prog w = .ok (.int .i64 0) w := by kernel_rfl
 obtain ⟨x, h1, h2, _⟩ := h.lookup_int key_law (t := 84) Tryz.underlying84 und3 hz (ik_key i)
 rw [k.at_ i hi] at h2
 injection h2 with h3
 injection h3 with _ h4
 rw [h4]
 exact h1
theorem lnk33 (l : Lnk) : ∃ d0 d1 d2 d3 d4 d5 d6 d7 d8 d9 d10 d11 d12 d13 d14 d15 d16 d17 d18 d19 d20 d21 d22 d23 d24 d25 d26 d27 d28 d29 d30 d31 d32 : Value, lnkV l = [d0, d1, d2, d3, d4, d5, d6, d7, d8, d9, d10, d11, d12, d13, d14, d15, d16, d17, d18, d19, d20, d21, d22, d23, d24, d25, d26, d27, d28, d29, d30, d31, d32] := by
 obtain ⟨d0, d1, d2, d3, d4, d5, d6, d7, d8, d9, d10, d11, d12, d13, d14, d15, d16, d17, d18, d19, d20, d21, d22, d23, d24, d25, d26, d27, d28, d29, d30, d31, hU⟩ := id32 l.1
 exact ⟨_, _, _, _, _, _, _, _, _, _, _, _, _, _, _, _, _, _, _, _, _, _, _, _, _, _, _, _, _, _, _, _, .int .i64 (l.2 : Int), by unfold lnkV; rw [hU]; rfl⟩
theorem lnkV_one (l : Lnk) : ∀ v ∈ lnkV l, v.oneCell' = true := fun v hv => by
 unfold lnkV at hv
 rcases List.mem_append.1 hv with h | h
 · exact U_one _ v h
 · rw [List.mem_singleton.1 h]; rfl
theorem lnkV_size (l : Lnk) : (Tryz.prog.info? 106).map (·.size) = some (lnkV l).length := by
 rw [lnkV_length]
 kernel_rfl
theorem lnk_new (w : World) : Hid ((w.alloc (.cells #[Value.int IntKind.u8 0, Value.int IntKind.u8 0, Value.int IntKind.u8 0, Value.int IntKind.u8 0, Value.int IntKind.u8 0, Value.int IntKind.u8 0, Value.int IntKind.u8 0, Value.int IntKind.u8 0, Value.int IntKind.u8 0, Value.int IntKind.u8 0, Value.int IntKind.u8 0, Value.int IntKind.u8 0, Value.int IntKind.u8 0, Value.int IntKind.u8 0, Value.int IntKind.u8 0, Value.int IntKind.u8 0, Value.int IntKind.u8 0, Value.int IntKind.u8 0, Value.int IntKind.u8 0, Value.int IntKind.u8 0, Value.int IntKind.u8 0, Value.int IntKind.u8 0, Value.int IntKind.u8 0, Value.int IntKind.u8 0, Value.int IntKind.u8 0, Value.int IntKind.u8 0, Value.int IntKind.u8 0, Value.int IntKind.u8 0, Value.int IntKind.u8 0, Value.int IntKind.u8 0, Value.int IntKind.u8 0, Value.int IntKind.u8 0, Value.int IntKind.i64 0] 106)).heap[w.heap.size]? = some (.cells (lnkV (zeroId, 0)).toArray 106 (0, 0))) := by
 show _ = _
 rw [show lnkV (zeroId, 0) = [Value.int IntKind.u8 0, Value.int IntKind.u8 0, Value.int IntKind.u8 0, Value.int IntKind.u8 0, Value.int IntKind.u8 0, Value.int IntKind.u8 0, Value.int IntKind.u8 0, Value.int IntKind.u8 0, Value.int IntKind.u8 0, Value.int IntKind.u8 0, Value.int IntKind.u8 0, Value.int IntKind.u8 0, Value.int IntKind.u8 0, Value.int IntKind.u8 0, Value.int IntKind.u8 0, Value.int IntKind.u8 0, Value.int IntKind.u8 0, Value.int IntKind.u8 0, Value.int IntKind.u8 0, Value.int IntKind.u8 0, Value.int IntKind.u8 0, Value.int IntKind.u8 0, Value.int IntKind.u8 0, Value.int IntKind.u8 0, Value.int IntKind.u8 0, Value.int IntKind.u8 0, Value.int IntKind.u8 0, Value.int IntKind.u8 0, Value.int IntKind.u8 0, Value.int IntKind.u8 0, Value.int IntKind.u8 0, Value.int IntKind.u8 0, Value.int IntKind.i64 0] from rfl]
 exact heap_alloc_new w _
theorem splice_lnk (l : Lnk) : splice (lnkV (zeroId, 0)) 0 (lnkV l) = lnkV l := splice_all _ _ (by rw [lnkV_length, lnkV_length])
theorem lnk_fit (l : Lnk) : 0 + (lnkV l).length ≤ (lnkV (zeroId, 0)).length := by rw [lnkV_length, lnkV_length]; decide
section
variable {w w2 : World} {B sb xb nb xs nq mk a : Nat} {QA : Option Addr} {qn qc : Nat} {LA : Option Addr} {lc : Nat} {S : Sto} {c : Cst} {D : DataW Value}
theorem CV.note (h : CV w B sb xb nb xs nq mk a QA qn qc LA lc S c D) (l : Lnk) {A2 : Option Addr} {c2 : Nat} (h2 : w2.ownsRow B 106 33 (.slice A2 (c.ls.length + 1) c2) (c.ls.length + 1) (LnkU c.ls ++ lnkV l)) (hg : w.grownBy w2 (Value.slice LA c.ls.length lc).ownBlock) :
 CV (w2.setCell ⟨xs, 1, none⟩ (.slice A2 (c.ls.length + 1) c2)) B sb xb nb xs nq mk a QA qn qc A2 c2 S (noteC l c) D ∧ Below B w (w2.setCell ⟨xs, 1, none⟩ (.slice A2 (c.ls.length + 1) c2)) := by
 have keep : ∀ {g : Nat} {t : TypeId} {cs : Array Value}, Blk w g t cs → t ≠ 106 → Blk w2 g t cs := fun hb ht => hb.gb hg (fun e => own_blk_ne h.lks hb (Ne.symm ht) e.symm)
 have keep2 : ∀ {g : Nat} {t : TypeId} {cs : Array Value}, Blk w g t cs → t ≠ 106 → t ≠ 87 → Blk (w2.setCell ⟨xs, 1, none⟩ (.slice A2 (c.ls.length + 1) c2)) g t cs := fun hb ht ht2 =>
  (keep hb ht).far (p := ⟨xs, 1, none⟩) (by show _ ≠ xs; exact Blk.ne_ hb h.seen ht2) _
 have hn : (noteC l c).ls.length = c.ls.length + 1 := by simp [noteC]
 have hq : w2.ownsRow 0 30 32 (.slice QA qn qc) qn (IdsU c.q) := h.que.own.kept hg (by
  rcases own_apart h.que.own h.lks (by decide) with h1 | h1
  · exact .inl h1
  · exact .inr h1)
 have hm : w2.ownsMap Tryz.prog 30 (plainElem Tryz.prog 3) mk c.ks.length D := h.mp.kept hg (fun e => by
  rcases h.lks.2 with ⟨hv, _⟩ | ⟨g, cap, cur, hv, _, hh, _⟩
  · rw [hv] at e; cases e
  · rw [hv] at e
    exact ownsMap_apart h.mp (show Blk w g _ _ from hh) (show mk = g from Option.some.inj e))
 have hs2 := keep h.seen (by decide)
 refine ⟨⟨keep2 h.sB (by decide) (by decide), keep2 h.xB (by decide) (by decide), keep2 h.nB (by decide) (by decide), ?_, ⟨keep2 h.que.blk (by decide) (by decide), own_set_other hq (a := ⟨xs, 1, none⟩) (own_blk_ne hq hs2 (by decide)) _⟩, ?_, ?_, h.km, h.qB, h.base⟩, ?_⟩
 · have := hs2.set_ 1 (.slice A2 (c.ls.length + 1) c2)
   rw [hn]
   simpa using this
 · rw [hn]
   have e : LnkU (noteC l c).ls = LnkU c.ls ++ lnkV l := by simp [LnkU, noteC]
   rw [e]
   exact own_set_other h2 (a := ⟨xs, 1, none⟩) (own_blk_ne h2 hs2 (by decide)) _
 · exact hm.kept (gb_set (gb_refl w2 (some xs)) (p := ⟨xs, 1, none⟩) (.inl rfl) _) (fun e => ownsMap_apart hm hs2 (Option.some.inj e))
 · refine ((Kpt.of_gb (g := xs) hg).set_ _).below h.le h.base.2.2.2.1 (fun p hp => ?_)
   subst hp
   exact (h.lks.lt p.block rfl).1
theorem CV.note_keep (h : CV w B sb xb nb xs nq mk a QA qn qc LA lc S c D) {A2 : Option Addr} {c2 : Nat} (hg : w.grownBy w2 (Value.slice LA c.ls.length lc).ownBlock) {q : Nat} {cs : Array Value} (hb : Blk w q 106 cs) (hne : ∀ p, LA = some p → p.block ≠ q) (hnw : Nw w LA A2) :
 Blk (w2.setCell ⟨xs, 1, none⟩ (.slice A2 (c.ls.length + 1) c2)) q 106 cs ∧ ∀ p, A2 = some p → p.block ≠ q := by
 refine ⟨(hb.gb hg (fun e => ?_)).far (p := ⟨xs, 1, none⟩) (by show _ ≠ xs; exact Blk.ne_ hb h.seen (by decide)) _, fun p hp e => ?_⟩
 · cases LA with
   | none => simp [Value.ownBlock] at e
   | some p => exact hne p rfl (Option.some.inj e).symm
 · rcases hnw p hp with ⟨p0, h0, e0⟩ | h1
   · exact hne p0 h0 (e0 ▸ e)
   · have := hb.lt
     omega
end
theorem load_bytes {w : World} : ∀ (l : List UInt8) (a : Addr) (acc : ByteArray), (∀ j x, l[j]? = some x → w.cell? (a.add j) = some (.int .u8 (x.toNat : Int))) →
 (Extern.Bytes.loadBytes a l.length acc).run Tryz.prog w = .ok ⟨acc.data ++ l.toArray⟩ w
 | [], a, acc, _ => by simp [Extern.Bytes.loadBytes]
 | x :: l, a, acc, h => by
   have h0 : w.cell? a = some (.int .u8 (x.toNat : Int)) := by
    have := h 0 x rfl
    simpa [Addr.add] using this
   have ih := load_bytes l (a.add 1) (acc.push x) (fun j y hy => by
    have := h (j + 1) y (by simpa using hy)
    have e : (a.add 1).add j = a.add (j + 1) := by
     unfold Addr.add
     by_cases hj : j = 0
     · subst hj; simp
     · simp [hj]; omega
    rw [e]; exact this)
   have hx : ((x.toNat : Int).toNat).toUInt8 = x := by simp
   simp only [List.length_cons, Extern.Bytes.loadBytes, Sem.run_bind, run_load, h0, Result.andThen, hx]
   rw [ih]
   congr 1
   apply ByteArray.ext
   simp
theorem bytes_slice {w : World} {q o : Nat} {l : List UInt8} (h : w.rangeAt q o (U l)) (c : Nat) : (Extern.Bytes.bytesOf (.slice (some ⟨q, o, none⟩) l.length c)).run Tryz.prog w = .ok ⟨l.toArray⟩ w := by
 have := load_bytes l ⟨q, o, none⟩ .empty (fun j x hj => by
  rw [addr_add]
  exact h j (.int .u8 (x.toNat : Int)) (by unfold U; rw [List.getElem?_map, hj]; rfl))
 unfold Extern.Bytes.bytesOf
 rw [this]
 simp
theorem ext_cmp (q1 o1 q2 o2 : Nat) (l1 l2 : List UInt8) (n c1 c2 : Nat) (w : World) (h1 : w.rangeAt q1 o1 (U l1)) (h2 : w.rangeAt q2 o2 (U l2)) (e1 : l1.length = n) (e2 : l2.length = n) :
 (callFunc 72 #[.slice (some ⟨q1, o1, none⟩) n c1, .slice (some ⟨q2, o2, none⟩) n c2]).run Tryz.prog w = .ok (.value (.int .i64 (Lib.compareBytes l1 l2))) w := by
 have k1 := bytes_slice h1 c1
 have k2 := bytes_slice h2 c2
 rw [e1] at k1
 rw [e2] at k2
 rw [run_callFunc_extern Tryz.func72 (by kernel_rfl) (by kernel_rfl) (by kernel_rfl) (e := Extern.BytealgCompare.compare) (by kernel_rfl)]
 have e : (Extern.BytealgCompare.compare #[.slice (some ⟨q1, o1, none⟩) n c1, .slice (some ⟨q2, o2, none⟩) n c2]).run Tryz.prog w = .ok (.int .i64 (Lib.compareBytes l1 l2)) w := by
  change Sem.run Tryz.prog (do pure (goInt (Extern.BytealgCompare.cmp (← Extern.Bytes.bytesOf (.slice (some ⟨q1, o1, none⟩) n c1)) (← Extern.Bytes.bytesOf (.slice (some ⟨q2, o2, none⟩) n c2))))) w = _
  simp only [Sem.run_bind, k1, k2, Result.andThen_ok, Sem.run_pure, Lib.cmp_eq]
  rfl
 rw [e]
 rfl
set_option maxHeartbeats 1000000 in
theorem cmp_any (q1 o1 q2 o2 : Nat) (l1 l2 : List UInt8) (n c1 c2 : Nat) (w : World) (h1 : w.rangeAt q1 o1 (U l1)) (h2 : w.rangeAt q2 o2 (U l2)) (e1 : l1.length = n) (e2 : l2.length = n) :
 Calls Tryz.prog 53 #[.slice (some ⟨q1, o1, none⟩) n c1, .slice (some ⟨q2, o2, none⟩) n c2] w fun e w' => e = .returned (.int .i64 (Lib.compareBytes l1 l2)) ∧ w = w' := by
 have hx := ext_cmp q1 o1 q2 o2 l1 l2 n c1 c2 w h1 h2 e1 e2
 clear h1 h2 e1 e2
 go_enter Tryz.func53, Tryz.ntmps53
 go_wp2_with fail
 go_ret
 exact ⟨rfl, rfl⟩
set_option maxHeartbeats 2000000 in
theorem sortC (x y : Id) (w : World) : Calls Tryz.prog 52 #[.agg (U x.1).toArray, .agg (U y.1).toArray] w fun e w' => e = .returned (.int .i64 (Lib.compareBytes x.1 y.1)) ∧
 ∃ q, w' = ((w.alloc (.cells (U x.1).toArray 30)).alloc (.cells (U y.1).toArray 30)).drewN q := by
 obtain ⟨wa, hwa⟩ : ∃ wa, wa = (w.alloc (.cells (U x.1).toArray 30)) := ⟨_, rfl⟩
 obtain ⟨wb, hwb⟩ : ∃ wb, wb = wa.alloc (.cells (U y.1).toArray 30) := ⟨_, rfl⟩
 have hsa : wa.heap.size = w.heap.size + 1 := by rw [hwa]; simp
 have hx : Blk wb w.heap.size 30 (U x.1).toArray := by
  have h1 : Blk wa w.heap.size 30 (U x.1).toArray := by rw [hwa]; exact Blk.new _ _ _
  rw [hwb]
  exact h1.alloc _
 have hy : Blk wb (w.heap.size + 1) 30 (U y.1).toArray := by
  have h1 := Blk.new wa 30 (U y.1).toArray
  rw [hsa, ← hwb] at h1
  exact h1
 have HC : Hid (∀ n, Calls Tryz.prog 53 #[.slice (some ⟨w.heap.size, 0, none⟩) 32 32, .slice (some ⟨w.heap.size + 1, 0, none⟩) 32 32] (wb.drewN n) fun e w' => e = .returned (.int .i64 (Lib.compareBytes x.1 y.1)) ∧ w' = wb.drewN n) := fun n =>
  (cmp_any w.heap.size 0 (w.heap.size + 1) 0 x.1 y.1 32 32 32 (wb.drewN n) (id_rangeB hx) (id_rangeB hy) x.2 y.2).mono fun _ _ ⟨a, b⟩ => ⟨a, b.symm⟩
 rw [← hwa, ← hwb]
 generalize Lib.compareBytes x.1 y.1 = r at *
 have HWA := Lib.hid hwa
 have HWB := Lib.hid hwb
 have hu30 := Tryz.underlying30
 clear hwa hwb hx hy hsa
 go_enter Tryz.func52, Tryz.ntmps52
 go_upto_region 1 with fail
 rw [← HWA.out, ← HWB.out]
 go_quiet ((go_at_call 53; exact Calls.quiet_of_same (HC.out _)))
 go_wp2_with fail
 go_ret
 exact ⟨rfl, _, rfl⟩
end Go.Proofs.YtnjhjbmngoeobaaGreatDoor
namespace Go.Proofs.YtnjhjbmngoeobaaGreatDoor
set_option maxRecDepth 20000
theorem compare_lt : ∀ a b : Bs, decide (Lib.compareBytes a b < 0) = ltB a b
 | [], [] => rfl
 | [], _ :: _ => rfl
 | _ :: _, [] => rfl
 | a :: r, b :: s => by
   unfold Lib.compareBytes ltB
   by_cases h1 : a < b
   · rw [if_pos h1]
     have : a.toNat < b.toNat := h1
     simp [this]
   · rw [if_neg h1]
     have h1' : ¬a.toNat < b.toNat := h1
     by_cases h2 : b < a
     · rw [if_pos h2]
       have : b.toNat < a.toNat := h2
       have hne : a ≠ b := fun e => by subst e; omega
       simp [h1', hne]
     · rw [if_neg h2]
       have h2' : ¬b.toNat < a.toNat := h2
       have e : a = b := UInt8.toNat_inj.1 (by omega)
       subst e
       rw [compare_lt r s]
       simp
def cmpI (x y : Id) : Int := Lib.compareBytes x.1 y.1
theorem cmpI_lt (x y : Id) : decide (cmpI x y < 0) = Id.lt x y := compare_lt x.1 y.1
theorem Id.lt_asymm {a b : Id} (h : Id.lt a b = true) : Id.lt b a = false := ltB_asymm _ _ h
theorem Id.lt_ntrans {x y z : Id} (h1 : Id.lt x y = false) (h2 : Id.lt y z = false) : Id.lt x z = false := by
 cases h : Id.lt x z with
 | false => rfl
 | true =>
   exfalso
   rcases Id.lt_total x y with h3 | h3 | h3
   · rw [h1] at h3; cases h3
   · subst h3; rw [h2] at h; cases h
   · have := Id.lt_trans h3 h
     rw [h2] at this; cases this
theorem merge_sortI {l : List Id} (h : l.Nodup) : (l.mergeSort fun x y => !Id.lt y x) = sortI l := by
 refine (sortI_eq ?_ (fun i => List.mem_mergeSort)).symm
 have hs := List.pairwise_mergeSort (le := fun x y => !Id.lt y x) (fun a b c h1 h2 => by
  simp only [Bool.not_eq_true'] at h1 h2 ⊢
  exact Id.lt_ntrans h2 h1) (fun a b => by
  cases h1 : Id.lt b a with
  | false => simp
  | true => simp [Id.lt_asymm h1]) l
 have hn : (l.mergeSort fun x y => !Id.lt y x).Nodup := (List.mergeSort_perm l _).nodup_iff.2 h
 unfold Rise
 have hboth := List.pairwise_and_iff.2 ⟨hs, hn⟩
 refine hboth.imp (fun {a b} hab => ?_)
 obtain ⟨h1, h2⟩ := hab
 simp only [Bool.not_eq_true'] at h1
 rcases Id.lt_total a b with h3 | h3 | h3
 · exact h3
 · exact absurd h3 h2
 · rw [h1] at h3; cases h3
end Go.Proofs.YtnjhjbmngoeobaaGreatDoor
namespace Go.Proofs.YtnjhjbmngoeobaaGreatDoor
open Go.RowKit Go.Maps
set_option maxRecDepth 100000
def IdsR (w : World) (rs : List Id) (A : Option Addr) : Prop := rs = [] ∨ ∃ q o, A = some ⟨q, o, none⟩ ∧ q < w.heap.size ∧ w.rangeAt q o (IdsU rs)
theorem IdsR.below {w w' : World} {rs : List Id} {A : Option Addr} (h : IdsR w rs A) (hb : Below w.heap.size w w') : IdsR w' rs A := by
 rcases h with h | ⟨q, o, rfl, hlt, hr⟩
 · exact .inl h
 · exact .inr ⟨q, o, rfl, Nat.lt_of_lt_of_le hlt hb.size, rangeAt_below hr hb hlt⟩
theorem IdsR.at_ {w : World} {rs : List Id} {q o : Nat} (h : w.rangeAt q o (IdsU rs)) {j : Nat} (hj : j < rs.length) : w.rangeAt q (o + j * 32) (U (rs.getD j zeroId).1) := fun k v hv => by
 have := h (j * 32 + k) v (IdsU_at rs j k v hj hv)
 rw [Nat.add_assoc]
 exact this
def ComeP (w0 : World) (S : Sto) (f : Id → List Lnk) (rs : List Id) (e : Ending) (w' : World) : Prop :=
 ∃ xs mk LA lc c D, e = .returned (.pointer (some ⟨xs, 0, none⟩)) ∧ Blk w' xs 87 #[.map (some mk), .slice LA (List.length (Cst.ls c)) lc] ∧ w'.ownsRow w0.heap.size 106 33 (.slice LA c.ls.length lc) c.ls.length (LnkU c.ls) ∧
  w'.ownsMap Tryz.prog 30 (plainElem Tryz.prog 3) mk c.ks.length D ∧ KindM S c.ks D ∧ CEnd S f rs c ∧ Below w0.heap.size w0 w' ∧ w0.heap.size ≤ xs ∧ w0.heap.size ≤ mk ∧ c.ls.length ≤ 900000 ∧ c.ks.length ≤ 900000
theorem CV.start (w0 : World) (a : Nat) (S : Sto) (w1 : World) (hw1 : w1 = ((((((w0.alloc (.cells #[.pointer (some ⟨a, 0, none⟩)] 25)).alloc (.map #[] 0)).alloc (.cells #[.map (some (w0.heap.size + 1)), .slice none 0 0] 87)).alloc (.cells #[.pointer (some ⟨w0.heap.size + 1 + 1, 0, none⟩)] 79)).alloc (.cells #[.slice none 0 0, fv0] 119)).alloc (.cells #[.pointer (some ⟨w0.heap.size + 1 + 1 + 1 + 1, 0, none⟩)] 117))) :
 CV w1 w0.heap.size w0.heap.size (w0.heap.size + 1 + 1 + 1) (w0.heap.size + 1 + 1 + 1 + 1 + 1) (w0.heap.size + 1 + 1) (w0.heap.size + 1 + 1 + 1 + 1) (w0.heap.size + 1) a none 0 0 none 0 S ⟨[], [], []⟩ (.map []) ∧ Below w0.heap.size w0 w1 := by
 obtain ⟨x1, h1⟩ : ∃ x1, x1 = w0.alloc (.cells #[.pointer (some ⟨a, 0, none⟩)] 25) := ⟨_, rfl⟩
 have s1 : x1.heap.size = w0.heap.size + 1 := by rw [h1]; simp
 obtain ⟨x2, h2⟩ : ∃ x2, x2 = x1.alloc (.map #[] 0) := ⟨_, rfl⟩
 have s2 : x2.heap.size = w0.heap.size + 1 + 1 := by rw [h2]; simp [s1]
 obtain ⟨x3, h3⟩ : ∃ x3, x3 = x2.alloc (.cells #[.map (some (w0.heap.size + 1)), .slice none 0 0] 87) := ⟨_, rfl⟩
 have s3 : x3.heap.size = w0.heap.size + 1 + 1 + 1 := by rw [h3]; simp [s2]
 obtain ⟨x4, h4⟩ : ∃ x4, x4 = x3.alloc (.cells #[.pointer (some ⟨w0.heap.size + 1 + 1, 0, none⟩)] 79) := ⟨_, rfl⟩
 have s4 : x4.heap.size = w0.heap.size + 1 + 1 + 1 + 1 := by rw [h4]; simp [s3]
 obtain ⟨x5, h5⟩ : ∃ x5, x5 = x4.alloc (.cells #[.slice none 0 0, fv0] 119) := ⟨_, rfl⟩
 have s5 : x5.heap.size = w0.heap.size + 1 + 1 + 1 + 1 + 1 := by rw [h5]; simp [s4]
 have hw : w1 = x5.alloc (.cells #[.pointer (some ⟨w0.heap.size + 1 + 1 + 1 + 1, 0, none⟩)] 117) := by rw [hw1, h5, h4, h3, h2, h1]
 have b1 : Blk x1 w0.heap.size 25 #[.pointer (some ⟨a, 0, none⟩)] := by rw [h1]; exact Blk.new _ _ _
 have b3 : Blk x3 (w0.heap.size + 1 + 1) 87 #[.map (some (w0.heap.size + 1)), .slice none 0 0] := by have := Blk.new x2 87 #[.map (some (w0.heap.size + 1)), .slice none 0 0]; rw [s2, ← h3] at this; exact this
 have b4 : Blk x4 (w0.heap.size + 1 + 1 + 1) 79 #[.pointer (some ⟨w0.heap.size + 1 + 1, 0, none⟩)] := by have := Blk.new x3 79 #[.pointer (some ⟨w0.heap.size + 1 + 1, 0, none⟩)]; rw [s3, ← h4] at this; exact this
 have b5 : Blk x5 (w0.heap.size + 1 + 1 + 1 + 1) 119 #[.slice none 0 0, fv0] := by have := Blk.new x4 119 #[.slice none 0 0, fv0]; rw [s4, ← h5] at this; exact this
 have b6 : Blk w1 (w0.heap.size + 1 + 1 + 1 + 1 + 1) 117 #[.pointer (some ⟨w0.heap.size + 1 + 1 + 1 + 1, 0, none⟩)] := by have := Blk.new x5 117 #[.pointer (some ⟨w0.heap.size + 1 + 1 + 1 + 1, 0, none⟩)]; rw [s5, ← hw] at this; exact this
 have m2 : x2.ownsMap Tryz.prog 30 (plainElem (H := Value) Tryz.prog 3) (w0.heap.size + 1) 0 (.map []) := by have := World.ownsMap_made x1 Tryz.prog 30 (plainElem (H := Value) Tryz.prog 3); rw [s1, ← h2] at this; exact this
 have g56 : x5.grownBy w1 none := by rw [hw]; exact gb_alloc (gb_refl _ _) _
 have g45 : x4.grownBy w1 none := gb_trans (by rw [h5]; exact gb_alloc (gb_refl _ _) _) g56
 have g34 : x3.grownBy w1 none := gb_trans (by rw [h4]; exact gb_alloc (gb_refl _ _) _) g45
 have g23 : x2.grownBy w1 none := gb_trans (by rw [h3]; exact gb_alloc (gb_refl _ _) _) g34
 have g12 : x1.grownBy w1 none := gb_trans (by rw [h2]; exact gb_alloc (gb_refl _ _) _) g23
 have g01 : w0.grownBy w1 none := gb_trans (by rw [h1]; exact gb_alloc (gb_refl _ _) _) g12
 exact ⟨⟨b1.gb g12 (by simp), b4.gb g45 (by simp), b6, b3.gb g34 (by simp), ⟨b5.gb g56 (by simp), own_nil _ _ _ _⟩, own_nil _ _ _ _, m2.kept g23 (by simp), .start S, fun p hp => (by cases hp), (by omega)⟩, below_of_gb g01⟩
def Come2 (w0 : World) (sb xb nb xs nq mk a : Nat) (S : Sto) (f : Id → List Lnk) (rs : List Id) (W : Nat) (k : Nat) (wr : World) : Prop :=
 ∃ c, muC S c ≤ k ∧ Hid (CVE wr w0.heap.size sb xb nb xs nq mk a S c) ∧ Hid (CInv S f rs [] c ∧ Fits S W rs.length c ∧ (∀ i ∈ rs, i ∈ c.ks) ∧ muC S c ≤ 2 * S.length) ∧ Hid (Below w0.heap.size w0 wr)
def Come1 (w0 : World) (sb xb nb xs nq mk a : Nat) (S : Sto) (rs : List Id) (v : Value) (wr : World) : Prop :=
 ∃ j : Nat, j ≤ rs.length ∧ v = .int .i64 (j : Int) ∧ Hid (CVE wr w0.heap.size sb xb nb xs nq mk a S (rootsC S (rs.take j) ⟨[], [], []⟩)) ∧ Hid (Below w0.heap.size w0 wr)
def Apart (wr : World) (L : List Lnk) (A5 LA : Option Addr) : Prop := L = [] ∨ ∃ q o cs, A5 = some ⟨q, o, none⟩ ∧ (∀ p, LA = some p → p.block ≠ q) ∧ Blk wr q 106 cs ∧ wr.rangeAt q o (LnkU L)
theorem Apart.keep {w w' : World} {L : List Lnk} {A5 LA : Option Addr} (h : Apart w L A5 LA) (hk : LKeep w w') : Apart w' L A5 LA := by
 rcases h with h | ⟨q, o, cs, h1, h2, h3, h4⟩
 · exact .inl h
 · exact .inr ⟨q, o, cs, h1, h2, hk _ _ h3, range_stay h4 h3 (hk _ _ h3)⟩
def Come3 (w0 : World) (sb xb nb xs nq mk a : Nat) (S : Sto) (c : Cst) (L : List Lnk) (A5 : Option Addr) (v : Value) (wr : World) : Prop :=
 ∃ j : Nat, j ≤ L.length ∧ v = .int .i64 (j : Int) ∧ Hid (∃ LA lc, CVL wr w0.heap.size sb xb nb xs nq mk a S (procC S (L.take j) c) LA lc ∧ Apart wr L A5 LA) ∧ Hid (Below w0.heap.size w0 wr)
def NoteP (w0 : World) (sb xb nb xs nq mk a : Nat) (S : Sto) (c3 : Cst) (l : Lnk) (lb : Nat) (L : List Lnk) (A5 A2 : Option Addr) (c2 : Nat) (w' : World) : Prop :=
 CVL w' w0.heap.size sb xb nb xs nq mk a S (noteC l c3) A2 c2 ∧ Below w0.heap.size w0 w' ∧ w'.rangeAt lb 0 (U l.1.1) ∧ Apart w' L A5 A2
theorem lnk_range {w : World} {q : Nat} {l : Lnk} (h : Blk w q 106 (lnkV l).toArray) : w.rangeAt q 0 (lnkV l) := range_of_blk h (fun j v hj => by rw [Nat.zero_add, List.getElem?_toArray]; exact hj)
theorem lnk_range_id {w : World} {q : Nat} {l : Lnk} (h : w.rangeAt q 0 (lnkV l)) : w.rangeAt q 0 (U l.1.1) := fun j v hj => h j v (by
 unfold lnkV
 rw [List.getElem?_append_left (List.getElem?_eq_some_iff.1 hj).1]
 exact hj)
theorem note_fin {w0 w w9 : World} {sb xb nb xs nq mk a lb : Nat} {QA : Option Addr} {qn qc : Nat} {LA : Option Addr} {lc : Nat} {S : Sto} {c3 : Cst} {D : DataW Value} {l : Lnk} {L : List Lnk} {A5 A2 : Option Addr} {c2 ln : Nat}
 (h : CV w w0.heap.size sb xb nb xs nq mk a QA qn qc LA lc S c3 D) (hb : Below w0.heap.size w0 w) (hl : Blk w lb 106 (lnkV l).toArray) (hlb : ∀ p, LA = some p → p.block ≠ lb) (hap : Apart w L A5 LA) (hln : ln = c3.ls.length)
 (h2 : w9.ownsRow w0.heap.size 106 33 (.slice A2 (ln + 1) c2) (ln + 1) (LnkU c3.ls ++ lnkV l)) (hg : w.grownBy w9 (Value.slice LA ln lc).ownBlock) (hnw : Nw w LA A2) :
 w9.cell? ⟨xs, 1, none⟩ = some (.slice LA ln lc) ∧ w9.frozen? ⟨xs, 1, none⟩ = false ∧ (w9.cell? ⟨xb, 0, none⟩ = some (.pointer (some ⟨xs, 0, none⟩)) ∧ w9.rangeAt lb 0 (lnkV l)) ∧
  ((w9.setCell ⟨xs, 1, none⟩ (.slice A2 (ln + 1) c2)).cell? ⟨xb, 0, none⟩ = some (.pointer (some ⟨xs, 0, none⟩)) ∧ (w9.setCell ⟨xs, 1, none⟩ (.slice A2 (ln + 1) c2)).rangeAt lb 0 (lnkV l)) ∧
  NoteP w0 sb xb nb xs nq mk a S c3 l lb L A5 A2 c2 (w9.setCell ⟨xs, 1, none⟩ (.slice A2 (ln + 1) c2)) := by
 subst hln
 have h5 := h.note l h2 hg
 have h6 := h.note_keep (c2 := c2) hg hl hlb hnw
 have keep : ∀ {g : Nat} {t : TypeId} {cs : Array Value}, Blk w g t cs → t ≠ 106 → Blk w9 g t cs := fun hb ht => hb.gb hg (fun e => own_blk_ne h.lks hb (Ne.symm ht) e.symm)
 have hl9 : Blk w9 lb 106 (lnkV l).toArray := hl.gb hg (fun e => by
  cases LA with
  | none => simp [Value.ownBlock] at e
  | some p => exact hlb p rfl (Option.some.inj e).symm)
 refine ⟨(keep h.seen (by decide)).cell 1, (keep h.seen (by decide)).frozen 1, ⟨(keep h.xB (by decide)).cell 0, lnk_range hl9⟩, ⟨h5.1.xB.cell 0, lnk_range h6.1⟩, ⟨QA, qn, qc, D, h5.1⟩, hb.trans h5.2, lnk_range_id (lnk_range h6.1), ?_⟩
 rcases hap with h7 | ⟨q, o, cs, e1, e2, e3, e4⟩
 · exact .inl h7
 · have h8 := h.note_keep (c2 := c2) hg e3 e2 hnw
   exact .inr ⟨q, o, cs, e1, h8.2, h8.1, range_stay e4 e3 h8.1⟩
end Go.Proofs.YtnjhjbmngoeobaaGreatDoor
