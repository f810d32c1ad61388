/- Laws towards WalkDeep: CloA, StrE, StrF, StrG, WalP, OrdP, BegP, BegQ, ClsP, RngP, BasP, DeeP. -/
import Derived.Test.YtnjhjbmngoeobaaGreatDoorMg13
import Derived.Lib.SliceRun
import Derived.Test.YtnjhjbmngoeobaaGreatDoorMg12
namespace Go.Proofs.YtnjhjbmngoeobaaGreatDoor
open Go.RowKit Go.Maps
set_option maxRecDepth 100000
set_option maxHeartbeats 1000000 in
theorem clone_any (p : Addr) (n c : Nat) (l : Bs) (w : World) (h : Sl w (some p) l) (hn : n = l.length) (hl : n ≤ 65536) :
 Calls Tryz.prog 18 #[.slice (some p) n c] w fun e w' => ∃ A' c', e = .returned (.slice A' n c') ∧ w'.ownsRow w.heap.size 5 1 (.slice A' n c') n (U l) ∧ Below w.heap.size w w' := by
 have q22 : ∀ (w : World) (a : Option Addr) (n c n' c' : Nat), (binOp .eql 35 (.slice a n c) (.slice none n' c')).run Tryz.prog w = .ok (.bool a.isNone) w := fun w a n c n' c' => Lib.run_eql_slice_nil w _ _ a n c n' c' Tryz.underlying35
 obtain ⟨i5, hi5, hz50, hz51, hz52⟩ := info_parts info5
 have HR := Lib.hid ((h.alloc (.cells #[] 5)).reads' hn)
 have HO := Lib.hid (own_built (w := w) (base := w.heap.size) (e := 5) (size := 1) (n := 0) (cs := #[]) (Nat.le_refl _) rfl (by decide))
 have HB := Lib.hid ((Below.refl w.heap.size w).alloc (Nat.le_refl _) (.cells #[] 5))
 have HZ : Hid (w.heap.size ≤ (w.alloc (.cells #[] 5)).heap.size) := HB.out.size
 clear h hn
 have HT := fun (ops : Array Oper) (rest : List Oper) (o : Oper) (a : Act) (Q : Exit → Act → World → Prop) (hgd : o.guard = none) (ho : o.op = .call { callee := .builtin .append, args := #[.tmp 5, .tmp 6], argTypes := #[35, 35] }) (hs : a.eval (.tmp 5) = .slice (some ⟨w.heap.size, 0, none⟩) 0 0) (hx : a.eval (.tmp 6) = .slice (some p) n c) => wpList_append_any (P := Tryz.prog) (w := w.alloc (.cells #[] 5)) (ops := ops) (rest := rest) (o := o) (a := a) (Q := Q) hgd (.tmp 5) (.tmp 6) 35 ho w.heap.size 5 i5 (.int .u8 0) 1 1 Tryz.underlying35 hi5 hz50 hz51 hz52 rfl (by decide) _ 0 [] hs HO.out _ (some p) n c (U l) hx HR.out (U_one _) (by unfold maxLen; omega) (by omega) HZ.out
 have HT := Lib.hid HT
 go_enter Tryz.func18, Tryz.ntmps18
 go_wp2_with (first
  | (at_builtin; refine HT.out _ _ _ _ _ rfl rfl rfl rfl ?_; intro v' w' ho' hg' hk'))
 obtain ⟨A', c', rfl⟩ := own_shape ho'
 rw [Nat.zero_add, List.nil_append] at ho'
 have hb := HB.out.trans ((below_of_gb_some (k := w.heap.size) hg' (Nat.le_refl _) HZ.out))
 have HF : Hid (∃ A1 c1, Ending.returned (.slice A' (0 + n) c') = Ending.returned (.slice A1 n c1) ∧ w'.ownsRow w.heap.size 5 1 (.slice A1 n c1) n (U l) ∧ Below w.heap.size w w') := ⟨A', c', by rw [Nat.zero_add], ho', hb⟩
 clear hb ho' hg' hk' HR HO HB
 go_wp2_with fail
 go_ret
 exact HF.out
set_option maxHeartbeats 2000000 in
theorem get_store (B a m : Nat) (S : Sto) (D : DataW Value) (i : Id) (w : World) (h : StV w B a m S D) (b : Bs) (hb : getS S i = some b) (hb0 : b ≠ []) (hbl : b.length ≤ 65536) :
 Calls Tryz.prog 34 #[.pointer (some ⟨a, 0, none⟩), .agg (U i.1).toArray] w fun e w' => ∃ A' c', e = .returned (.tuple #[.slice A' b.length c', .int .i64 0]) ∧ w'.ownsRow w.heap.size 5 1 (.slice A' b.length c') b.length (U b) ∧ Below w.heap.size w w' := by
 obtain ⟨wb, hwb⟩ : ∃ wb, wb = w.alloc (.cells (U i.1).toArray 30) := ⟨_, rfl⟩
 have hbb : Below w.heap.size w wb := by rw [hwb]; exact (Below.refl _ _).alloc (Nat.le_refl _) _
 have hR : wb.heap[w.heap.size]? = some (.cells (U i.1).toArray 30 (0, 0)) := by rw [hwb]; exact heap_alloc_new w _
 have hgb : w.grownBy wb none := by rw [hwb]; exact gb_alloc (gb_refl w none) _
 have h1 : StV wb.drew B a m S D := h.below hbb.drew
 obtain ⟨v, hlk, hv⟩ := look_store h1 i
 obtain ⟨A, c, rfl, hsl, hlc, _⟩ := hv b hb
 rw [hb] at hlk
 simp only [Option.isSome_some] at hlk
 have hc := h1.cell
 have HR : Hid (wb.drew.heap[w.heap.size]? = some (.cells (U i.1).toArray 30 (0, 0))) := hR
 have HSZ2 := Lib.hid (id_size' _ i.2)
 have HB := Lib.hid hbb.drew
 obtain ⟨p, rfl⟩ : ∃ p, A = some p := by
  rcases hsl with rfl | ⟨q, o, rfl, _⟩
  · exact absurd rfl hb0
  · exact ⟨_, rfl⟩
 have HK := Lib.hid (clone_any p b.length c b wb.drew hsl rfl hbl)
 clear h h1 hv hsl hlc hb hR hbb hgb hb0 hbl
 go_enter Tryz.func34, Tryz.ntmps34
 go_upto_region 1 with fail
 rw [← hwb]
 clear hwb
 refine wp_region_still_lit (by kernel_rfl) (by kernel_rfl) ?_
 change wpStill _ _ wb.drew (fun a' => Exit.then _ _ Exit.normal a' wb.drew) _ _
 generalize wb.drew = w2 at *
 still_step
 still_step
 still_step
 still_step
 refine wpStill_step (fun K hK => ?_)
 rw [if_pos (by rfl)]
 refine still_load_row 30 (.tmp 3) rfl w.heap.size rfl 30 (U i.1).toArray (0, 0) _ HR.out Tryz.underlying30 rfl HSZ2.out ?_
 refine hK _ ?_
 clear hK K
 repeat still_step
 refine wpStill_nil ?_
 go_wp2_with fail
 refine HK.out.mono ?_
 rintro e w3 ⟨A3, k3, rfl, ho3, h3⟩
 have HF : Hid (w3.ownsRow w.heap.size 5 1 (.slice A3 b.length k3) b.length (U b) ∧ Below w.heap.size w w3) := ⟨own_base ho3 HB.out.size, HB.out.trans (h3.mono HB.out.size)⟩
 clear h3 ho3 HK HB HR hlk hc
 go_wp2_with fail
 go_ret2
 exact ⟨A3, k3, rfl, HF.out.1, HF.out.2⟩
theorem results_cell_row_tmp2 {P : Program} {fn : Func} {p u u2 : Tmp} {ty : TypeId} (h : fn.results = #[.cell p ty, .tmp u, .tmp u2]) (tmps : Array Value) (w : World) (g : Nat) (t : TypeId) (cs : Array Value) (fr : Nat × Nat) (d : TypeDesc)
 (hp : tmps.getD p undef = .pointer (some ⟨g, 0, none⟩)) (hg : w.heap[g]? = some (.cells cs t fr))
 (hu : P.underlying ty = some d) (hd : (match d with | .struct _ | .array _ _ => true | _ => false) = true) (hi : (P.info? ty).map (·.size) = some cs.size) :
 (results fn tmps).run P w = .ok (.tuple #[.agg cs, tmps.getD u undef, tmps.getD u2 undef]) w := by
 have hp' : tmps[p]?.getD undef = .pointer (some ⟨g, 0, none⟩) := by simpa using hp
 simp [results, h, hp', asAddr, run_loadVar_row w g t ty cs fr d hg hu hd hi]
theorem conv_sl {w : World} {p : Addr} {l : Bs} {n c : Nat} (h : Sl w (some p) l) (hn : n = l.length) (h0 : l ≠ []) : (convert 35 9 (.slice (some p) n c)).run Tryz.prog w = .ok (.string ⟨l.toArray⟩) w := by
 rcases h with rfl | ⟨q, o, hp, hlt, hc⟩
 · exact absurd rfl h0
 · injection hp with hp
   subst hp
   subst hn
   refine run_convert_bytes_back (P := Tryz.prog) w 35 9 5 ⟨q, o, none⟩ c l Tryz.underlying35 Tryz.underlying5 Tryz.underlying9 (fun j hj => ?_)
   rw [addr_add, hc j hj, List.getD_eq_getElem?_getD, List.getElem?_eq_getElem hj]
   rfl
theorem equal_any (p1 p2 : Addr) (n1 c1 n2 c2 : Nat) (l1 l2 : Bs) (w : World) (h1 : Sl w (some p1) l1) (h2 : Sl w (some p2) l2) (hn1 : n1 = l1.length) (hn2 : n2 = l2.length) (hz1 : l1 ≠ []) (hz2 : l2 ≠ []) :
 Calls Tryz.prog 17 #[.slice (some p1) n1 c1, .slice (some p2) n2 c2] w fun e w' => e = .returned (.bool (l1 == l2)) ∧ w = w' := by
 have k1 := conv_sl (c := c1) h1 hn1 hz1
 have k2 := conv_sl (c := c2) h2 hn2 hz2
 clear h1 h2 hn1 hn2 hz1 hz2
 go_enter Tryz.func17, Tryz.ntmps17
 go_wp2_with fail
 go_ret
 exact ⟨rfl, rfl⟩
theorem ownsMap_apart {w : World} {k : TypeId} {R : Value → Option (DataW Value × List MemPlace)} {bm m g : Nat} {D : DataW Value} {t : TypeId} {cs : Array Value} (h : w.ownsMap Tryz.prog k R bm m D) (hb : Blk w g t cs) : bm ≠ g := by
 obtain ⟨es, clock, h1, _⟩ := h
 intro e
 subst e
 unfold Blk at hb
 rw [hb] at h1
 cases h1
theorem mapTurned_blk {w w' : World} {bm g : Nat} {t : TypeId} {cs : Array Value} (hb : Blk w g t cs) (ht : w.mapTurned w' bm) (hne : bm ≠ g) : Blk w' g t cs := hb.gb ht.grown (fun e => hne (Option.some.inj e).symm)
theorem Sl.turned {w w' : World} {A : Option Addr} {l : Bs} {m : Nat} (h : Sl w A l) (ht : w.mapTurned w' m) : Sl w' A l := by
 rcases h with rfl | ⟨g, o, rfl, hlt, hc⟩
 · exact .inl rfl
 · by_cases h0 : l = []
   · exact .inl h0
   · have hp := List.length_pos_iff.2 h0
     have hne : g ≠ m := by
      rintro rfl
      obtain ⟨es, clock, es', clock', hb, _⟩ := ht
      have h1 := hc 0 hp
      unfold World.cell? at h1
      rw [hb] at h1
      cases h1
     refine .inr ⟨g, o, rfl, Nat.lt_of_lt_of_le hlt ht.grown.size, fun j hj => ?_⟩
     exact (World.cell?_of_block (a := ⟨g, o + j, none⟩) (ht.grown.block g hlt (by simpa using hne))).trans (hc j hj)
theorem range_of_blk {w : World} {q o : Nat} {t : TypeId} {cs : Array Value} {xs : List Value} (h : Blk w q t cs) (hx : ∀ j v, xs[j]? = some v → cs[o + j]? = some v) : w.rangeAt q o xs := fun j v hj => by
 rw [h.cell]; exact hx j v hj
theorem id_rangeB {w : World} {q : Nat} {t : TypeId} {i : Id} (h : Blk w q t (U i.1).toArray) : w.rangeAt q 0 (U i.1) := range_of_blk h (fun j v hj => by rw [Nat.zero_add, List.getElem?_toArray]; exact hj)
theorem StV.put {w w' : World} {B a m : Nat} {S : Sto} {D : DataW Value} (h : StV w B a m S D) (i : Id) (b : Bs) (hr : Rise (idsS S)) (hn : getS S i = none) {A : Option Addr} {c : Nat}
 (hs : Sl w A b) (hc : b.length ≤ c) (hA : ∀ p, A = some p → B ≤ p.block ∧ ∃ cs, Blk w' p.block 5 cs)
 (hmp : w'.ownsMap Tryz.prog 30 elemR m (S.length + 1) (D.put (ik i) (.held (.slice A b.length c)))) (ht : w.mapTurned w' m) :
 StV w' B a m (insS i b S) (D.put (ik i) (.held (.slice A b.length c))) := by
 have hni := getS_none.1 hn
 have hD := h.mp.tidy key_law
 have hh : has D (ik i) = false := by rw [h.hs, hn]; rfl
 refine ⟨mapTurned_blk h.blk ht (ownsMap_apart h.mp h.blk), by rw [insS_length]; exact hmp, ?_, fun j => ?_, fun j bj hj => ?_, h.ha, h.hm⟩
 · rw [Maps.size_put hD, hh, insS_length]
   simp [h.size]
 · rw [getS_insS hr hni]
   by_cases e : j = i
   · subst e
     rw [if_pos rfl, has_put_same hD.isMap (ik_isKey j)]
     rfl
   · rw [if_neg e, has_put_other (fun e2 => e (ik_inj e2)), h.hs]
 · rw [getS_insS hr hni] at hj
   by_cases e : j = i
   · subst e
     rw [if_pos rfl] at hj
     have hj := Option.some.inj hj
     subst hj
     exact ⟨A, c, atKey_put_same hD.isMap (ik_isKey j) _ _, hs.turned ht, hc, hA⟩
   · rw [if_neg e] at hj
     obtain ⟨A2, c2, e1, h2, h3, h4⟩ := h.at_ j bj hj
     refine ⟨A2, c2, ?_, h2.turned ht, h3, fun p hp => ⟨(h4 p hp).1, by
      obtain ⟨cs, hc⟩ := (h4 p hp).2
      exact ⟨cs, mapTurned_blk hc ht (ownsMap_apart h.mp hc)⟩⟩⟩
     rw [atKey_put_other (fun e2 => e (ik_inj e2))]
     exact e1
theorem Sl.besideMap {w w' : World} {A : Option Addr} {l : Bs} {m : Nat} {es : Array MapEntry} {clock : Nat} (h : Sl w A l) (hm : w.heap[m]? = some (.map es clock)) (hg : w.grownBy w' (some m)) : Sl w' A l := by
 rcases h with rfl | ⟨g, o, rfl, hlt, hc⟩
 · exact .inl rfl
 · by_cases h0 : l = []
   · exact .inl h0
   · have hp := List.length_pos_iff.2 h0
     have hne : g ≠ m := by
      rintro rfl
      have h1 := hc 0 hp
      unfold World.cell? at h1
      rw [hm] at h1
      cases h1
     refine .inr ⟨g, o, rfl, Nat.lt_of_lt_of_le hlt hg.size, fun j hj => ?_⟩
     exact (World.cell?_of_block (a := ⟨g, o + j, none⟩) (hg.block g hlt (by simpa using hne))).trans (hc j hj)
theorem StV.put2 {w w' : World} {B a m : Nat} {S : Sto} {D : DataW Value} (h : StV w B a m S D) (hw : w.grownBy w' (some m)) (i : Id) (b : Bs) (hr : Rise (idsS S)) (hn : getS S i = none) {A : Option Addr} {c : Nat}
 (hs : Sl w' A b) (hc : b.length ≤ c) (hA : ∀ p, A = some p → B ≤ p.block ∧ ∃ cs, Blk w' p.block 5 cs)
 (hmp : w'.ownsMap Tryz.prog 30 elemR m (S.length + 1) (D.put (ik i) (.held (.slice A b.length c)))) :
 StV w' B a m (insS i b S) (D.put (ik i) (.held (.slice A b.length c))) := by
 have hni := getS_none.1 hn
 have hD := h.mp.tidy key_law
 have hh : has D (ik i) = false := by rw [h.hs, hn]; rfl
 have hne := ownsMap_apart h.mp h.blk
 refine ⟨h.blk.gb hw (fun e => hne (Option.some.inj e).symm), by rw [insS_length]; exact hmp, ?_, fun j => ?_, fun j bj hj => ?_, h.ha, h.hm⟩
 · rw [Maps.size_put hD, hh, insS_length]
   simp [h.size]
 · rw [getS_insS hr hni]
   by_cases e : j = i
   · subst e
     rw [if_pos rfl, has_put_same hD.isMap (ik_isKey j)]
     rfl
   · rw [if_neg e, has_put_other (fun e2 => e (ik_inj e2)), h.hs]
 · rw [getS_insS hr hni] at hj
   by_cases e : j = i
   · subst e
     rw [if_pos rfl] at hj
     have hj := Option.some.inj hj
     subst hj
     exact ⟨A, c, atKey_put_same hD.isMap (ik_isKey j) _ _, hs, hc, hA⟩
   · rw [if_neg e] at hj
     obtain ⟨A2, c2, e1, h2, h3, h4⟩ := h.at_ j bj hj
     obtain ⟨es, clock, hm, _⟩ := h.mp
     refine ⟨A2, c2, ?_, h2.besideMap hm hw, h3, fun p hp => ⟨(h4 p hp).1, by
      obtain ⟨cs, hc⟩ := (h4 p hp).2
      exact ⟨cs, hc.gb hw (fun e => ownsMap_apart h.mp hc (Option.some.inj e).symm)⟩⟩⟩
     rw [atKey_put_other (fun e2 => e (ik_inj e2))]
     exact e1
end Go.Proofs.YtnjhjbmngoeobaaGreatDoor
namespace Go.Proofs.YtnjhjbmngoeobaaGreatDoor
set_option maxRecDepth 20000
def lnkA (s : Sto) (i : Id) : List Lnk := childS s i
def lnkT (s : Sto) (i : Id) : List Lnk := if kindS s i = 4 then childS s i else []
def lnkH (s : Sto) (i : Id) : List Lnk := if kindS s i = 4 then childS s i else if kindS s i = 3 then (childS s i).drop 1 else []
def nxt_ (f : Id → List Lnk) (i : Id) : List Id := (f i).map (·.1)
noncomputable def setP (f : Id → List Lnk) (rs : List Id) : List Id := comeP (nxt_ f) rs
theorem childS_absent {s : Sto} {i : Id} (h : i ∉ idsS s) : childS s i = [] := by
 unfold childS
 rw [getS_none.2 h]
theorem kindS_absent {s : Sto} {i : Id} (h : i ∉ idsS s) : kindS s i = 0 := by
 unfold kindS
 rw [getS_none.2 h]
def Within (s : Sto) (f : Id → List Lnk) : Prop := ∀ i, i ∉ idsS s → f i = []
theorem within_A (s : Sto) : Within s (lnkA s) := fun _ h => childS_absent h
theorem mem_setP {s : Sto} {f : Id → List Lnk} (h : Within s f) (rs : List Id) (i : Id) : i ∈ setP f rs ↔ Rch (nxt_ f) rs i :=
 mem_comeP _ _ (idsS s) (fun i hi => by unfold nxt_; rw [h i hi]; rfl) i
theorem setP_rise (f : Id → List Lnk) (rs : List Id) : Rise (setP f rs) := comeP_rise _ _
noncomputable def wholeP (s : Sto) (f : Id → List Lnk) (rs : List Id) : Nat :=
 if (setP f rs).any (fun i => decide (kindS s i = 0)) then 50
 else if (setP f rs).any (fun i => (f i).any fun l => decide (kindS s l.1 ≠ l.2)) then 51 else 0
noncomputable def reachP (s : Sto) (rs : List Id) : List Id × Nat :=
 if wholeP s (lnkA s) rs = 0 then (setP (lnkA s) rs, 0) else ([], wholeP s (lnkA s) rs)
def endGo (s : Sto) : Nat → Id → Option Id
 | 0, _ => none
 | n + 1, i => match lnkT s i with | [] => some i | l :: _ => endGo s n l.1
def endP (s : Sto) (i : Id) : Option Id := endGo s (s.length + 1) i
def endsP (s : Sto) : List Id → Option (List Id)
 | [] => some []
 | i :: r => match endP s i with | none => none | some p => (endsP s r).map (p :: ·)
end Go.Proofs.YtnjhjbmngoeobaaGreatDoor
namespace Go.Proofs.YtnjhjbmngoeobaaGreatDoor
set_option maxRecDepth 100000
def b0T : Bs := [2, 0]
def b0hT : Bs := [153, 190, 94, 251, 136, 202, 32, 19, 189, 142, 78, 176, 53, 253, 66, 213, 36, 84, 104, 254, 154, 250, 112, 216, 186, 156, 28, 65, 154, 72, 196, 232]
def b0C : Bs := 3 :: (b0hT ++ [0, 0, 0, 0, 0, 0, 0, 0, 0, 0, 0])
def b0hC : Bs := [182, 121, 239, 17, 154, 115, 205, 52, 10, 220, 223, 142, 117, 215, 142, 145, 157, 238, 112, 14, 180, 24, 244, 117, 185, 116, 203, 85, 162, 145, 179, 195]
def b0G : Bs := 4 :: (b0hC ++ [3, 1, 116, 0, 0, 0, 0, 0, 0, 0, 0, 0, 0])
def b0hG : Bs := [246, 246, 3, 239, 251, 245, 158, 1, 188, 227, 144, 247, 156, 55, 167, 198, 203, 126, 45, 120, 167, 155, 48, 131, 132, 206, 157, 26, 143, 33, 127, 7]
theorem sha_T : Dg.sha b0T = b0hT := by decide +kernel
theorem sha_C : Dg.sha b0C = b0hC := by decide +kernel
theorem sha_G : Dg.sha b0G = b0hG := by decide +kernel
def iT : Id := ⟨b0hT, by decide⟩
def iC : Id := ⟨b0hC, by decide⟩
def iG : Id := ⟨b0hG, by decide⟩
def s0 : Sto := [(iT, b0T), (iC, b0C), (iG, b0G)]
theorem setP_of {f : Id → List Lnk} {rs l : List Id} (h1 : ∀ i ∈ rs, i ∈ l) (h2 : ∀ i ∈ l, ∀ j ∈ nxt_ f i, j ∈ l) (h3 : ∀ i ∈ l, Rch (nxt_ f) rs i) (hl : Rise l) : setP f rs = l :=
 comeP_eq hl (fun i => ⟨h3 i, fun h => h.sub h1 h2⟩)
theorem rise3 : Rise [iT, iC, iG] := by
 unfold Rise
 decide +kernel
theorem rise1 (i : Id) : Rise [i] := by simp [Rise]
theorem lA_T : lnkA s0 iT = [] := by decide +kernel
theorem lA_C : lnkA s0 iC = [(iT, 2)] := by decide +kernel
theorem lA_G : lnkA s0 iG = [(iC, 3)] := by decide +kernel
theorem lH_C : lnkH s0 iC = [] := by decide +kernel
theorem k_T : kindS s0 iT = 2 := by decide +kernel
theorem k_C : kindS s0 iC = 3 := by decide +kernel
theorem k_G : kindS s0 iG = 4 := by decide +kernel
theorem set_A : setP (lnkA s0) [iG] = [iT, iC, iG] := by
 have hG : Rch (nxt_ (lnkA s0)) [iG] iG := .root (by simp)
 have hC : Rch (nxt_ (lnkA s0)) [iG] iC := .step hG (by simp [nxt_, lA_G])
 have hT : Rch (nxt_ (lnkA s0)) [iG] iT := .step hC (by simp [nxt_, lA_C])
 refine setP_of (by simp) ?_ ?_ rise3
 · intro i hi j hj
   simp only [List.mem_cons, List.not_mem_nil, or_false] at hi
   rcases hi with rfl | rfl | rfl
   · simp [nxt_, lA_T] at hj
   · simp [nxt_, lA_C] at hj; simp [hj]
   · simp [nxt_, lA_G] at hj; simp [hj]
 · intro i hi
   simp only [List.mem_cons, List.not_mem_nil, or_false] at hi
   rcases hi with rfl | rfl | rfl
   · exact hT
   · exact hC
   · exact hG
theorem set_HC : setP (lnkH s0) [iC] = [iC] := by
 refine setP_of (by simp) ?_ (fun i hi => .root hi) (rise1 _)
 intro i hi j hj
 simp only [List.mem_cons, List.not_mem_nil, or_false] at hi
 subst hi
 simp [nxt_, lH_C] at hj
theorem end_G : endP s0 iG = some iC := by decide +kernel
theorem end_C : endP s0 iC = some iC := by decide +kernel
end Go.Proofs.YtnjhjbmngoeobaaGreatDoor
namespace Go.Proofs.YtnjhjbmngoeobaaGreatDoor
set_option maxRecDepth 20000
theorem kind_has {s : Sto} (h : StoOk s) (i : Id) : kindS s i ≠ 0 ↔ hasS s i = true := by
 have := h.kind i
 cases hh : hasS s i <;> rw [hh] at this <;> simp at this ⊢ <;> exact this
theorem whole_0 {s : Sto} {f : Id → List Lnk} {rs : List Id} : wholeP s f rs = 0 ↔ (∀ i ∈ setP f rs, kindS s i ≠ 0) ∧ ∀ i ∈ setP f rs, ∀ l ∈ f i, kindS s l.1 = l.2 := by
 unfold wholeP
 split
 · rename_i h
   rw [List.any_eq_true] at h
   obtain ⟨i, hi, h2⟩ := h
   simp only [decide_eq_true_eq] at h2
   refine ⟨fun h => by omega, fun h => absurd h2 (h.1 i hi)⟩
 · rename_i h
   rw [List.any_eq_true] at h
   have h2 : ∀ i ∈ setP f rs, kindS s i ≠ 0 := fun i hi e => h ⟨i, hi, by simpa using e⟩
   split
   · rename_i h3
     rw [List.any_eq_true] at h3
     obtain ⟨i, hi, h4⟩ := h3
     rw [List.any_eq_true] at h4
     obtain ⟨l, hl, h5⟩ := h4
     simp only [decide_eq_true_eq] at h5
     refine ⟨fun h => by omega, fun h => absurd (h.2 i hi l hl) h5⟩
   · rename_i h3
     rw [List.any_eq_true] at h3
     refine ⟨fun _ => ⟨h2, fun i hi l hl => ?_⟩, fun _ => rfl⟩
     rcases Nat.decEq (kindS s l.1) l.2 with e | e
     · exact absurd ⟨i, hi, by rw [List.any_eq_true]; exact ⟨l, hl, by simpa using e⟩⟩ h3
     · exact e
theorem has_ids (s : Sto) (i : Id) : hasS s i = true ↔ i ∈ idsS s := by
 unfold hasS
 cases h : getS s i with
 | none =>
   rw [getS_none] at h
   simp [h]
 | some b =>
   simp only [Option.isSome_some, true_iff]
   exact List.mem_map.2 ⟨_, getS_mem h, rfl⟩
theorem endP_commit {s : Sto} {p : Id} (h : kindS s p = 3) : endP s p = some p := by
 unfold endP
 rw [endGo]
 have : lnkT s p = [] := by unfold lnkT; rw [if_neg (by omega)]
 rw [this]
structure Deep (S : Sto) (n m : Nat) (B T C G : Nat → Bs) : Prop where
 ok : StoOk S
 pos : 0 < n
 gB : ∀ i, i < n → getS S (shaI (B i)) = some (B i)
 gT : ∀ i, i < n → getS S (shaI (T i)) = some (T i)
 gC : ∀ i, i < n → getS S (shaI (C i)) = some (C i)
 gG : ∀ j, j < m → getS S (shaI (G j)) = some (G j)
 all : ∀ x ∈ S, (∃ i, i < n ∧ (x.2 = B i ∨ x.2 = T i ∨ x.2 = C i)) ∨ ∃ j, j < m ∧ x.2 = G j
 len : S.length = 3 * n + m
 oB : ∀ i, i < n → kindB (B i) = 1 ∧ childB (B i) = []
 oT : ∀ i, i < n → kindB (T i) = 2 ∧ childB (T i) = [(shaI (B i), 1)]
 oC : ∀ i, i < n → kindB (C i) = 3 ∧ childB (C i) = (shaI (T i), 2) :: (if i = 0 then [] else [(shaI (C (i - 1)), 3)])
 oG : ∀ j, j < m → kindB (G j) = 4 ∧ childB (G j) = [if j = 0 then (shaI (C (n - 1)), 3) else (shaI (G (j - 1)), 4)]
 apart : ∀ i j, i < n → j < n → shaI (C i) = shaI (C j) → i = j
section
variable {S : Sto} {n m : Nat} {B T C G : Nat → Bs} (D : Deep S n m B T C G)
include D
theorem Deep.cB {i : Nat} (h : i < n) : kindS S (shaI (B i)) = 1 ∧ childS S (shaI (B i)) = [] := by
 unfold kindS childS; rw [D.gB i h]; exact D.oB i h
theorem Deep.cT {i : Nat} (h : i < n) : kindS S (shaI (T i)) = 2 ∧ childS S (shaI (T i)) = [(shaI (B i), 1)] := by
 unfold kindS childS; rw [D.gT i h]; exact D.oT i h
theorem Deep.cC {i : Nat} (h : i < n) : kindS S (shaI (C i)) = 3 ∧ childS S (shaI (C i)) = (shaI (T i), 2) :: (if i = 0 then [] else [(shaI (C (i - 1)), 3)]) := by
 unfold kindS childS; rw [D.gC i h]; exact D.oC i h
theorem Deep.cG {j : Nat} (h : j < m) : kindS S (shaI (G j)) = 4 ∧ childS S (shaI (G j)) = [if j = 0 then (shaI (C (n - 1)), 3) else (shaI (G (j - 1)), 4)] := by
 unfold kindS childS; rw [D.gG j h]; exact D.oG j h
theorem Deep.ids {x : Id} (h : x ∈ idsS S) : (∃ i, i < n ∧ (x = shaI (B i) ∨ x = shaI (T i) ∨ x = shaI (C i))) ∨ ∃ j, j < m ∧ x = shaI (G j) := by
 obtain ⟨y, hy, rfl⟩ := List.mem_map.1 h
 have hi := (D.ok.ok y hy).2
 rcases D.all y hy with ⟨i, hl, h | h | h⟩ | ⟨j, hl, h⟩
 · exact .inl ⟨i, hl, .inl (by rw [hi, h])⟩
 · exact .inl ⟨i, hl, .inr (.inl (by rw [hi, h]))⟩
 · exact .inl ⟨i, hl, .inr (.inr (by rw [hi, h]))⟩
 · exact .inr ⟨j, hl, by rw [hi, h]⟩
omit D in
theorem in_ids {S : Sto} {i : Id} {b : Bs} (h : getS S i = some b) : i ∈ idsS S := List.mem_map.2 ⟨_, getS_mem h, rfl⟩
def topP (n m : Nat) (C G : Nat → Bs) : Id := if m = 0 then shaI (C (n - 1)) else shaI (G (m - 1))
theorem Deep.rchG : ∀ k, k < m → Rch (nxt_ (lnkA S)) [topP n m C G] (shaI (G (m - 1 - k))) := by
 intro k
 induction k with
 | zero =>
   intro h
   refine .root ?_
   unfold topP
   rw [if_neg (by omega)]
   simp
 | succ k ih =>
   intro h
   refine .step (ih (by omega)) ?_
   unfold nxt_ lnkA
   rw [(D.cG (j := m - 1 - k) (by omega)).2, if_neg (by omega)]
   have e : m - 1 - k - 1 = m - 1 - (k + 1) := by omega
   simp [e]
theorem Deep.rchC0 : Rch (nxt_ (lnkA S)) [topP n m C G] (shaI (C (n - 1))) := by
 by_cases hm : m = 0
 · refine .root ?_
   unfold topP
   rw [if_pos hm]
   simp
 · have h0 := D.rchG (m - 1) (by omega)
   have e : m - 1 - (m - 1) = 0 := by omega
   rw [e] at h0
   refine .step h0 ?_
   unfold nxt_ lnkA
   rw [(D.cG (j := 0) (by omega)).2]
   simp
theorem Deep.rchC : ∀ k, k < n → Rch (nxt_ (lnkA S)) [topP n m C G] (shaI (C (n - 1 - k))) := by
 intro k
 induction k with
 | zero => intro _; exact D.rchC0
 | succ k ih =>
   intro h
   refine .step (ih (by omega)) ?_
   unfold nxt_ lnkA
   rw [(D.cC (i := n - 1 - k) (by omega)).2, if_neg (by omega)]
   have e : n - 1 - k - 1 = n - 1 - (k + 1) := by omega
   simp [e]
theorem Deep.reached {x : Id} (h : x ∈ idsS S) : Rch (nxt_ (lnkA S)) [topP n m C G] x := by
 have hC : ∀ i, i < n → Rch (nxt_ (lnkA S)) [topP n m C G] (shaI (C i)) := fun i hi => by
  have := D.rchC (n - 1 - i) (by omega)
  have e : n - 1 - (n - 1 - i) = i := by omega
  rwa [e] at this
 have hT : ∀ i, i < n → Rch (nxt_ (lnkA S)) [topP n m C G] (shaI (T i)) := fun i hi => by
  refine .step (hC i hi) ?_
  unfold nxt_ lnkA
  rw [(D.cC hi).2]
  simp
 rcases D.ids h with ⟨i, hi, rfl | rfl | rfl⟩ | ⟨j, hj, rfl⟩
 · refine .step (hT i hi) ?_
   unfold nxt_ lnkA
   rw [(D.cT hi).2]
   simp
 · exact hT i hi
 · exact hC i hi
 · have := D.rchG (m - 1 - j) (by omega)
   have e : m - 1 - (m - 1 - j) = j := by omega
   rwa [e] at this
theorem Deep.top_in : topP n m C G ∈ idsS S := by
 unfold topP
 by_cases hm : m = 0
 · rw [if_pos hm]; exact in_ids (D.gC _ (by have := D.pos; omega))
 · rw [if_neg hm]; exact in_ids (D.gG _ (by omega))
theorem Deep.kids {x : Id} (h : x ∈ idsS S) : ∀ l ∈ childS S x, l.1 ∈ idsS S ∧ kindS S l.1 = l.2 := by
 intro l hl
 rcases D.ids h with ⟨i, hi, rfl | rfl | rfl⟩ | ⟨j, hj, rfl⟩
 · rw [(D.cB hi).2] at hl; cases hl
 · rw [(D.cT hi).2, List.mem_singleton] at hl
   subst hl
   exact ⟨in_ids (D.gB i hi), (D.cB hi).1⟩
 · rw [(D.cC hi).2] at hl
   rcases List.mem_cons.1 hl with rfl | hl
   · exact ⟨in_ids (D.gT i hi), (D.cT hi).1⟩
   · by_cases h0 : i = 0
     · rw [if_pos h0] at hl; cases hl
     · rw [if_neg h0, List.mem_singleton] at hl
       subst hl
       exact ⟨in_ids (D.gC _ (by omega)), (D.cC (by omega)).1⟩
 · rw [(D.cG hj).2, List.mem_singleton] at hl
   subst hl
   by_cases h0 : j = 0
   · rw [if_pos h0]
     have := D.pos
     exact ⟨in_ids (D.gC _ (by omega)), (D.cC (by omega)).1⟩
   · rw [if_neg h0]
     exact ⟨in_ids (D.gG _ (by omega)), (D.cG (by omega)).1⟩
theorem Deep.setA : setP (lnkA S) [topP n m C G] = idsS S := by
 refine comeP_eq D.ok.rise (fun x => ⟨fun h => D.reached h, fun h => ?_⟩)
 refine h.sub (S := fun x => x ∈ idsS S) (fun i hi => ?_) (fun i hi j hj => ?_)
 · rw [List.mem_singleton] at hi
   subst hi
   exact D.top_in
 · obtain ⟨l, hl, rfl⟩ := List.mem_map.1 hj
   exact (D.kids hi l hl).1
theorem Deep.kind_in {x : Id} (h : x ∈ idsS S) : kindS S x ≠ 0 := (kind_has D.ok x).2 ((has_ids S x).2 h)
theorem Deep.whole {f : Id → List Lnk} (hf : ∀ i l, l ∈ f i → l ∈ childS S i) {rs : List Id} (hr : ∀ i ∈ rs, i ∈ idsS S) : wholeP S f rs = 0 := by
 have hw : Within S f := fun i hi => by
  cases h : f i with
  | nil => rfl
  | cons l r =>
    have := hf i l (by rw [h]; simp)
    rw [childS_absent hi] at this
    cases this
 have hin : ∀ x ∈ setP f rs, x ∈ idsS S := fun x hx => by
  rw [mem_setP hw] at hx
  refine hx.sub (S := fun x => x ∈ idsS S) hr (fun i hi j hj => ?_)
  obtain ⟨l, hl, rfl⟩ := List.mem_map.1 hj
  exact (D.kids hi l (hf i l hl)).1
 rw [whole_0]
 exact ⟨fun i hi => D.kind_in (hin i hi), fun i hi l hl => (D.kids (hin i hi) l (hf i l hl)).2⟩
theorem Deep.reach : reachP S [topP n m C G] = (idsS S, 0) := by
 unfold reachP
 rw [if_pos (D.whole (f := lnkA S) (fun _ _ h => h) (fun i hi => by rw [List.mem_singleton] at hi; subst hi; exact D.top_in)), D.setA]
theorem Deep.lnkHC {i : Nat} (h : i < n) : lnkH S (shaI (C i)) = if i = 0 then [] else [(shaI (C (i - 1)), 3)] := by
 unfold lnkH
 rw [(D.cC h).1, (D.cC h).2]
 rfl
def upto (C : Nat → Bs) (k : Nat) : List Id := (List.range (k + 1)).map fun i => shaI (C i)
omit D in
theorem mem_upto {C : Nat → Bs} {k : Nat} {x : Id} : x ∈ upto C k ↔ ∃ i, i ≤ k ∧ x = shaI (C i) := by
 unfold upto
 rw [List.mem_map]
 constructor
 · rintro ⟨i, hi, rfl⟩; exact ⟨i, by have := List.mem_range.1 hi; omega, rfl⟩
 · rintro ⟨i, hi, rfl⟩; exact ⟨i, List.mem_range.2 (by omega), rfl⟩
theorem Deep.setH {k : Nat} (hk : k < n) : setP (lnkH S) [shaI (C k)] = sortI (upto C k) := by
 refine comeP_of (fun x => ?_)
 rw [mem_upto]
 constructor
 · rintro ⟨i, hi, rfl⟩
   have : ∀ d, d ≤ k → Rch (nxt_ (lnkH S)) [shaI (C k)] (shaI (C (k - d))) := by
    intro d
    induction d with
    | zero => intro _; exact .root (by simp)
    | succ d ih =>
      intro hd
      refine .step (ih (by omega)) ?_
      unfold nxt_
      rw [D.lnkHC (by omega), if_neg (by omega)]
      have e : k - d - 1 = k - (d + 1) := by omega
      simp [e]
   have h := this (k - i) (by omega)
   have e : k - (k - i) = i := by omega
   rwa [e] at h
 · intro h
   refine h.sub (S := fun x => ∃ i, i ≤ k ∧ x = shaI (C i)) (fun i hi => ?_) (fun i hi j hj => ?_)
   · rw [List.mem_singleton] at hi
     exact ⟨k, Nat.le_refl _, hi⟩
   · obtain ⟨a, ha, rfl⟩ := hi
     unfold nxt_ at hj
     rw [D.lnkHC (by omega)] at hj
     by_cases h0 : a = 0
     · rw [if_pos h0] at hj; cases hj
     · rw [if_neg h0] at hj
       simp at hj
       exact ⟨a - 1, by omega, hj⟩
theorem Deep.end_top : endP S (topP n m C G) = some (shaI (C (n - 1))) := by
 have hp := D.pos
 have hC : ∀ f, endGo S (f + 1) (shaI (C (n - 1))) = some (shaI (C (n - 1))) := fun f => by
  rw [endGo]
  have : lnkT S (shaI (C (n - 1))) = [] := by unfold lnkT; rw [(D.cC (by omega)).1]; rfl
  rw [this]
 have hG : ∀ (k f : Nat), k < m → k + 1 < f + 1 → endGo S (f + 1) (shaI (G k)) = some (shaI (C (n - 1))) := by
  intro k
  induction k with
  | zero =>
    intro f h1 h2
    obtain ⟨f, rfl⟩ : ∃ f', f = f' + 1 := ⟨f - 1, by omega⟩
    rw [endGo]
    have : lnkT S (shaI (G 0)) = [(shaI (C (n - 1)), 3)] := by unfold lnkT; rw [(D.cG h1).1, (D.cG h1).2]; rfl
    rw [this]
    exact hC f
  | succ k ih =>
    intro f h1 h2
    obtain ⟨f, rfl⟩ : ∃ f', f = f' + 1 := ⟨f - 1, by omega⟩
    rw [endGo]
    have : lnkT S (shaI (G (k + 1))) = [(shaI (G k), 4)] := by unfold lnkT; rw [(D.cG h1).1, (D.cG h1).2]; rfl
    rw [this]
    exact ih f (by omega) (by omega)
 unfold endP topP
 by_cases hm : m = 0
 · rw [if_pos hm]; exact hC _
 · rw [if_neg hm]; exact hG (m - 1) S.length (by omega) (by have := D.len; omega)
end
end Go.Proofs.YtnjhjbmngoeobaaGreatDoor
