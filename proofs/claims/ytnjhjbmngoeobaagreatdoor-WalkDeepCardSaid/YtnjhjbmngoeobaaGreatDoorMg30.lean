/- Laws towards WalkDeep: EntA, PduA. -/
import Derived.Test.YtnjhjbmngoeobaaGreatDoorMg29
import Derived.WideKeyEntry
import Derived.Test.YtnjhjbmngoeobaaGreatDoorMg19
import Derived.Test.YtnjhjbmngoeobaaGreatDoorMg20
namespace Go.Proofs.YtnjhjbmngoeobaaGreatDoor
open Go.RowKit Go.Maps Go.ChangeMaps
set_option maxRecDepth 100000
theorem key_law0 : WideMaps.KeyLaw Tryz.prog 30 := deep_law_laid (by kernel_rfl) (m := 2) (by omega) rowKey (by kernel_rfl) (by kernel_rfl)
theorem setBlock_twice (w : World) (b : Nat) (x y : Obj) : setBlock (setBlock w b x) b y = setBlock w b y := by simp [setBlock]
section
variable {P : Program} {w : World} {t k e : TypeId} {R : Value → Option (DataW Value × List MemPlace)} {b : Nat} {es : Array MapEntry} {clock : Nat}
theorem entry_is_update (K : WideMaps.KeyLaw P k) (ht : P.underlying t = some (.map k e)) {z : Value} (hz : ∀ u : World, (zeroValue e).run P u = .ok z u) (hb : w.heap[b]? = some (.map es clock)) (F : WideElems.Fit P k R es clock)
 {key : Value} {kl : Lit} (hkey : keyOf P k key = some kl) {v : Value} {w1 : World} (h : (Instr.mapEntry t (.map (some b)) key).run P w = .ok v w1) :
 ∃ v0 st, v = .tuple #[v0, goInt st] ∧ (Instr.lookup t (.map (some b)) key false).run P w = .ok v0 w ∧ (Instr.mapUpdate t (.map (some b)) key v0).run P w = .ok () w1 := by
 rcases K.find w hkey es.toList F.keys with ⟨h1, h2⟩ | ⟨j, e0, h1, h2, h3⟩
 · simp [Instr.mapEntry, run_underlying ht, MapKept.run_getObj_map hb, K.check w false hkey, h1, hz, MapKept.run_setObj_map _ hb, Result.andThen] at h
   obtain ⟨h4, h5⟩ := h
   refine ⟨z, _, h4.symm, ?_, ?_⟩
   · simp [Instr.lookup, run_underlying ht, MapKept.run_getObj_map hb, K.check w _ hkey, h1, hz, Result.andThen]
   · simp [Instr.mapUpdate, run_underlying ht, MapKept.run_getObj_map hb, K.check w false hkey, h1, MapKept.run_setObj_map _ hb, Result.andThen, ← h5]
 · have hj : es[j]? = some e0 := by simpa using h2
   have hsame : ∀ f : MapEntry → MapEntry, f e0 = e0 → es.modify j f = es := fun f hf => by
    apply Array.ext'
    rw [Array.toList_modify]
    refine List.ext_getElem? (fun i => ?_)
    rw [List.getElem?_modify]
    by_cases e1 : j = i
    · subst e1
      simp [h2, hf]
    · simp [e1]
   simp [Instr.mapEntry, run_underlying ht, MapKept.run_getObj_map hb, K.check w false hkey, h1, hj, h3, K.stays w hkey, MapKept.run_setObj_map _ hb, Result.andThen] at h
   obtain ⟨h4, h5⟩ := h
   refine ⟨e0.val, _, h4.symm, ?_, ?_⟩
   · simp [Instr.lookup, run_underlying ht, MapKept.run_getObj_map hb, K.check w _ hkey, h1, Result.andThen]
   · rw [hsame _ (by rw [← h3])] at h5
     simp [Instr.mapUpdate, run_underlying ht, MapKept.run_getObj_map hb, K.check w false hkey, h1, hj, h3, K.stays w hkey, MapKept.run_setObj_map _ hb, Result.andThen]
     rw [hsame _ (by rw [← h3])]
     exact h5
end
section
variable {w : World} {f : Id → Nat} {ks : List Id} {E : DataW Value} {mb n : Nat}
theorem FunM.entry (h : OM w mb n E) (k : FunM f ks E) (hn : n < maxLen) (i : Id) (v nv : Nat) (hv : v = if i ∈ ks then f i else 0) (hvb : v ≤ 9000000000000000000) (hnv : nv ≤ 9000000000000000000) :
 ∃ (st : Nat) (w1 w2 : World), (Instr.mapEntry 84 (.map (some mb)) (.agg (U i.1).toArray)).run Tryz.prog w = .ok (.tuple #[.int .i64 (v : Int), .int .i64 (st : Int)]) w1 ∧ w.mapTurned w1 mb ∧
  (Instr.lookup 84 (.map (some mb)) (.agg (U i.1).toArray) false).run Tryz.prog w1 = .ok (.int .i64 (v : Int)) w1 ∧
  (Instr.entryStore 84 (.map (some mb)) (.int .i64 (st : Int)) (.int .i64 (nv : Int))).run Tryz.prog w1 = .ok () w2 ∧ OM w2 mb (n + 1) (E.put (ik i) (.lit (.int .i64 (nv : Int)))) ∧ w.mapTurned w2 mb := by
 have hz : ∀ u : World, (zeroValue 3).run Tryz.prog u = .ok (.int .i64 0) u := fun u => by kernel_rfl
 have hlk := FunM.look h k i v hv
 have hw0 : ∀ y : Nat, y ≤ 9223372036854775807 → (Lit.int .i64 (y : Int)).wf = true := fun y hy => WalkArith.wf_i64 (by omega)
 obtain ⟨wu, hru, hou, htu⟩ := h.store key_law (t := 84) Tryz.underlying84 hn (ik_key i) (plainElem_int und3 (a := (v : Int)) (hw0 v (by omega)))
 obtain ⟨wv, hrv, hov, htv⟩ := h.store key_law (t := 84) Tryz.underlying84 hn (ik_key i) (plainElem_int und3 (a := (nv : Int)) (hw0 nv (by omega)))
 obtain ⟨es, clock, hb, F, hs, hE⟩ := h
 obtain ⟨v0, st, es1, clock1, hme, _, hst⟩ := WideElems.entry_then_store key_law0 Tryz.underlying84 hz hb F (ik_key i)
 obtain ⟨v1, st1, e1, hl1, hu1⟩ := entry_is_update key_law0 Tryz.underlying84 hz hb F (ik_key i) hme
 have hlk0 : (Instr.lookup 84 (.map (some mb)) (idVal i) false).run Tryz.prog w = .ok (.int .i64 (v : Int)) w := hlk
 have ev : v1 = .int .i64 (v : Int) := by
  rw [hlk0] at hl1
  injection hl1 with h1 _
  exact h1.symm
 have ev0 : v0 = v1 := by
  injection e1 with e2
  have := congrArg (fun a : Array Value => a[0]?) e2
  simpa using this
 subst ev
 subst ev0
 rw [hu1] at hru
 injection hru with _ ew
 subst ew
 obtain ⟨es2, clock2, hs1, hs2⟩ := hst (setBlock w mb (.map es1 clock1)) (.int .i64 (nv : Int)) (by simp [setBlock, (Array.getElem?_eq_some_iff.1 hb).1])
 rw [hs2] at hrv
 injection hrv with _ ew2
 rw [setBlock_twice, ew2] at hs1
 have hfm : FunM (fun j => if j = i then v else f j) (if i ∈ ks then ks else ks ++ [i]) (E.put (ik i) (.lit (.int .i64 (v : Int)))) := by
  have hT : Tidy E := tidyM ⟨es, clock, hb, F, hs, hE⟩
  by_cases hi : i ∈ ks
  · rw [if_pos hi]
    exact k.turn hT i hi v (by simp) (fun j _ hj => by simp [hj])
  · rw [if_neg hi]
    have k2 : FunM (fun j => if j = i then v else f j) ks E := ⟨k.nd, k.hs, fun j hj z => by
     have hne : j ≠ i := by rintro rfl; exact hi hj
     rw [k.at_ j hj z]
     simp [hne], k.size, k.only⟩
    exact k2.put hT i hi v (by simp)
 refine ⟨st, _, wv, hme, htu, ?_, hs1, hov, htv⟩
 exact FunM.look hou hfm i v (by
  by_cases hi : i ∈ ks
  · rw [if_pos hi, if_pos hi]; simp
  · rw [if_neg hi, if_pos (by simp)]; simp)
end
theorem setP_none {S : Sto} {f : Id → List Lnk} (h : Within S f) (i : Id) : i ∉ setP f [] := fun hi => by
 rw [mem_setP h] at hi
 exact hi.sub (S := fun _ => False) (fun i hi => by cases hi) (fun i hi => hi.elim)
end Go.Proofs.YtnjhjbmngoeobaaGreatDoor
namespace Go.Proofs.YtnjhjbmngoeobaaGreatDoor
open Go.RowKit Go.Maps
set_option maxRecDepth 100000
abbrev Dat := Id × Nat
def datV (x : Dat) : List Value := U x.1.1 ++ [.int .u64 (x.2 : Int)]
theorem datV_length (x : Dat) : (datV x).length = 33 := by unfold datV; rw [List.length_append, U_length, x.1.2]; rfl
abbrev fvD : Value := .func (.func 31) #[] #[]
def DatU (q : List Dat) : List Value := q.flatMap datV
theorem DatU_snoc (q : List Dat) (i : Dat) : DatU q ++ datV i = DatU (q ++ [i]) := by simp [DatU]
theorem DatU_length (q : List Dat) : (DatU q).length = q.length * 33 := by
 induction q with
 | nil => rfl
 | cons i q ih =>
   have : DatU (i :: q) = datV i ++ DatU q := by simp [DatU]
   rw [this, List.length_append, datV_length, ih, List.length_cons]
   omega
theorem datV_one (x : Dat) : ∀ v ∈ datV x, v.oneCell' = true := fun v hv => by
 unfold datV at hv
 rcases List.mem_append.1 hv with h | h
 · exact U_one _ v h
 · rw [List.mem_singleton.1 h]; rfl
theorem dat_size (x : Dat) : (Tryz.prog.info? 95).map (·.size) = some (datV x).length := by
 rw [datV_length]
 kernel_rfl
theorem dat_size' (x : Dat) : (Tryz.prog.info? 95).map (·.size) = some (datV x).toArray.size := by
 rw [List.size_toArray]
 exact dat_size x
theorem dat33 (x : Dat) : ∃ d0 d1 d2 d3 d4 d5 d6 d7 d8 d9 d10 d11 d12 d13 d14 d15 d16 d17 d18 d19 d20 d21 d22 d23 d24 d25 d26 d27 d28 d29 d30 d31 d32 : Value, datV x = [d0, d1, d2, d3, d4, d5, d6, d7, d8, d9, d10, d11, d12, d13, d14, d15, d16, d17, d18, d19, d20, d21, d22, d23, d24, d25, d26, d27, d28, d29, d30, d31, d32] := by
 obtain ⟨d0, d1, d2, d3, d4, d5, d6, d7, d8, d9, d10, d11, d12, d13, d14, d15, d16, d17, d18, d19, d20, d21, d22, d23, d24, d25, d26, d27, d28, d29, d30, d31, hU⟩ := id32 x.1
 exact ⟨_, _, _, _, _, _, _, _, _, _, _, _, _, _, _, _, _, _, _, _, _, _, _, _, _, _, _, _, _, _, _, _, .int .u64 (x.2 : Int), by unfold datV; rw [hU]; rfl⟩
theorem info_dat : ∃ i : TypeInfo, Tryz.prog.info? 95 = some i ∧ i.size = 33 ∧ i.bytes = 40 ∧ ∃ z, i.zero = some z ∧ z.cells.size = 33 := by
 have h : (Tryz.prog.info? 95).map (fun i => (i.size, i.bytes, i.zero.map (fun z => z.cells.size))) = some (33, 40, some 33) := by kernel_rfl
 cases hi : Tryz.prog.info? 95 with
 | none => rw [hi] at h; cases h
 | some i =>
   rw [hi] at h
   simp only [Option.map_some, Option.some.injEq, Prod.mk.injEq] at h
   obtain ⟨h1, h2, h3⟩ := h
   cases hz : i.zero with
   | none => rw [hz] at h3; cases h3
   | some z =>
     rw [hz] at h3
     exact ⟨i, rfl, h1, h2, z, hz, Option.some.inj h3⟩
theorem dat_rangeB {w : World} {q : Nat} {t : TypeId} {i : Dat} (h : Blk w q t (datV i).toArray) : w.rangeAt q 0 (datV i) := range_of_blk h (fun j v hj => by rw [Nat.zero_add, List.getElem?_toArray]; exact hj)
structure DV (w : World) (g : Nat) (A : Option Addr) (n c : Nat) (q : List Dat) : Prop where
 blk : Blk w g 100 #[.slice A n c, fvD]
 own : w.ownsRow 0 95 33 (.slice A n c) n (DatU q)
theorem DV.len {w : World} {g n c : Nat} {A : Option Addr} {q : List Dat} (h : DV w g A n c q) : n = q.length := by
 have := h.own.1
 rw [DatU_length] at this
 omega
theorem DV.below {w w' : World} {g n c : Nat} {A : Option Addr} {q : List Dat} (h : DV w g A n c q) (hb : Below w.heap.size w w') : DV w' g A n c q := ⟨h.blk.below hb h.blk.lt, own_below h.own hb⟩
def DPost (w : World) (g : Nat) (A : Option Addr) (q : List Dat) (w' : World) : Prop := ∃ A' n' c', DV w' g A' n' c' q ∧ Nw w A A' ∧ Kpt w w' g A
theorem DPost.drewN {w w' : World} {g : Nat} {A : Option Addr} {q : List Dat} (h : DPost w g A q w') (k : Nat) : DPost w g A q (w'.drewN k) := by
 obtain ⟨A', n', c', h1, h2, h3⟩ := h
 exact ⟨A', n', c', ⟨h1.blk, h1.own⟩, h2, h3.drewN k⟩
set_option maxHeartbeats 4000000 in
theorem push_d (g n c : Nat) (A : Option Addr) (q : List Dat) (i : Dat) (w : World) (h : DV w g A n c q) (hq0 : q = []) :
 Calls Tryz.prog 35 #[.pointer (some ⟨g, 0, none⟩), .agg (datV i).toArray] w fun e w' => e = .returned (.tuple #[]) ∧ DPost w g A (q ++ [i]) w' := by
 obtain ⟨wb, hwb⟩ : ∃ wb, wb = w.alloc (.cells (datV i).toArray 95) := ⟨_, rfl⟩
 have hgb : w.grownBy wb none := by rw [hwb]; exact gb_alloc (gb_refl w none) _
 have HB : Hid (Blk wb.drew w.heap.size 95 (datV i).toArray) := by rw [hwb]; exact Blk.new _ _ _
 have HQ : Hid (DV wb.drew g A n c q) := ⟨(h.blk.gb hgb (by simp)).drew, own_below h.own (below_of_gb hgb).drew⟩
 have HK : Hid (Kpt w wb.drew g A) := ⟨hgb.os, hgb.tape, hgb.output, hgb.size, fun k hk _ _ => hgb.block k hk (by simp)⟩
 have HN0 : Hid (n = 0) := by show n = 0; rw [h.len, hq0]; rfl
 have hq0l : q.length = 0 := by rw [hq0]; rfl
 have hsz30 := dat_size i
 have hrg : wb.drew.rangeAt w.heap.size 0 (datV i) := dat_rangeB HB.out
 have hc0 := HQ.out.blk.cell 0
 have hf0 := HQ.out.blk.frozen 0
 simp at hc0
 have HONE : Hid (∀ u ∈ (datV i).toArray.toList, u.oneCell' = true) := by unfold Hid; rw [List.toList_toArray]; exact datV_one _
 have HLN : Hid (datV i = datV i) := rfl
 have HAPP := Lib.hid (DatU_snoc q i)
 have hu30 := Tryz.underlying95
 obtain ⟨d0, d1, d2, d3, d4, d5, d6, d7, d8, d9, d10, d11, d12, d13, d14, d15, d16, d17, d18, d19, d20, d21, d22, d23, d24, d25, d26, d27, d28, d29, d30, d31, d32, hU⟩ := dat33 i
 unfold Hid at HAPP HONE
 have HWB := Lib.hid hwb
 unfold Hid at HWB
 rw [hU] at HAPP HONE hrg hsz30 HWB
 rw [hU]
 replace HAPP := Lib.hid HAPP
 replace HONE := Lib.hid HONE
 replace HWB := Lib.hid HWB
 obtain ⟨ie, hie, his, hib, ze, hiz, hzs⟩ := info_dat
 have HBL : Hid (wb.drew.heap[w.heap.size]? = some (.cells #[d0, d1, d2, d3, d4, d5, d6, d7, d8, d9, d10, d11, d12, d13, d14, d15, d16, d17, d18, d19, d20, d21, d22, d23, d24, d25, d26, d27, d28, d29, d30, d31, d32] 95 (0, 0))) := by
  have h1 := HB.out
  unfold Blk at h1
  rw [hU] at h1
  exact h1
 have KAL : Hid ((wb.alloc (.cells #[d0, d1, d2, d3, d4, d5, d6, d7, d8, d9, d10, d11, d12, d13, d14, d15, d16, d17, d18, d19, d20, d21, d22, d23, d24, d25, d26, d27, d28, d29, d30, d31, d32] 95)).drew.cell? ⟨g, 0, none⟩ = some (.slice A n c) ∧ (wb.alloc (.cells #[d0, d1, d2, d3, d4, d5, d6, d7, d8, d9, d10, d11, d12, d13, d14, d15, d16, d17, d18, d19, d20, d21, d22, d23, d24, d25, d26, d27, d28, d29, d30, d31, d32] 95)).drew.frozen? ⟨g, 0, none⟩ = false ∧ (wb.alloc (.cells #[d0, d1, d2, d3, d4, d5, d6, d7, d8, d9, d10, d11, d12, d13, d14, d15, d16, d17, d18, d19, d20, d21, d22, d23, d24, d25, d26, d27, d28, d29, d30, d31, d32] 95)).drew.rangeAt w.heap.size 0 [d0, d1, d2, d3, d4, d5, d6, d7, d8, d9, d10, d11, d12, d13, d14, d15, d16, d17, d18, d19, d20, d21, d22, d23, d24, d25, d26, d27, d28, d29, d30, d31, d32]) := by
  have h1 := (show Blk wb g _ _ from HQ.out.blk).alloc (.cells #[d0, d1, d2, d3, d4, d5, d6, d7, d8, d9, d10, d11, d12, d13, d14, d15, d16, d17, d18, d19, d20, d21, d22, d23, d24, d25, d26, d27, d28, d29, d30, d31, d32] 95)
  have h2 := dat_rangeB (i := i) ((show Blk wb w.heap.size _ _ from HB.out).alloc (.cells #[d0, d1, d2, d3, d4, d5, d6, d7, d8, d9, d10, d11, d12, d13, d14, d15, d16, d17, d18, d19, d20, d21, d22, d23, d24, d25, d26, d27, d28, d29, d30, d31, d32] 95))
  rw [hU] at h2
  exact ⟨by have := h1.cell 0; simpa using this, h1.frozen 0, h2⟩
 have FIN : Hid (∀ A2 c2 w2, w2.ownsRow 0 95 33 (.slice A2 (n + 1) c2) (n + 1) (DatU q ++ #[d0, d1, d2, d3, d4, d5, d6, d7, d8, d9, d10, d11, d12, d13, d14, d15, d16, d17, d18, d19, d20, d21, d22, d23, d24, d25, d26, d27, d28, d29, d30, d31, d32].toList) → wb.drew.grownBy w2 (Value.slice A n c).ownBlock → Nw wb.drew A A2 →
  w2.cell? ⟨g, 0, none⟩ = some (.slice A n c) ∧ w2.frozen? ⟨g, 0, none⟩ = false ∧ w2.rangeAt w.heap.size 0 [d0, d1, d2, d3, d4, d5, d6, d7, d8, d9, d10, d11, d12, d13, d14, d15, d16, d17, d18, d19, d20, d21, d22, d23, d24, d25, d26, d27, d28, d29, d30, d31, d32] ∧ (w2.setCell ⟨g, 0, none⟩ (.slice A2 (n + 1) c2)).rangeAt w.heap.size 0 [d0, d1, d2, d3, d4, d5, d6, d7, d8, d9, d10, d11, d12, d13, d14, d15, d16, d17, d18, d19, d20, d21, d22, d23, d24, d25, d26, d27, d28, d29, d30, d31, d32] ∧ DPost w g A (q ++ [i]) (w2.setCell ⟨g, 0, none⟩ (.slice A2 (n + 1) c2))) := by
  intro A2 c2 w2 hown2 hg2 hn2
  have hb2 : Blk w2 g 100 #[.slice A n c, fvD] := HQ.out.blk.gb hg2 (fun e => own_blk_ne HQ.out.own HQ.out.blk (by decide) e.symm)
  have hi2 : Blk w2 w.heap.size 95 (datV i).toArray := HB.out.gb hg2 (fun e => by
   cases A with
   | none => simp [Value.ownBlock] at e
   | some p =>
     have := (h.own.lt p.block rfl).2
     have e2 : some w.heap.size = some p.block := e
     have := Option.some.inj e2
     omega)
  have h3 := dat_rangeB hi2
  rw [hU] at h3
  have hgl := h.blk.lt
  have h4 := dat_rangeB (hi2.far (p := ⟨g, 0, none⟩) (by show w.heap.size ≠ g; omega) (.slice A2 (n + 1) c2))
  rw [hU] at h4
  refine ⟨by have := hb2.cell 0; simpa using this, hb2.frozen 0, h3, h4, A2, n + 1, c2, ⟨?_, ?_⟩, ?_, ?_⟩
  · have := hb2.set_ 0 (.slice A2 (n + 1) c2)
    simpa using this
  · have e1 : DatU (q ++ [i]) = DatU q ++ #[d0, d1, d2, d3, d4, d5, d6, d7, d8, d9, d10, d11, d12, d13, d14, d15, d16, d17, d18, d19, d20, d21, d22, d23, d24, d25, d26, d27, d28, d29, d30, d31, d32].toList := by rw [← DatU_snoc, hU]
    rw [e1]
    exact own_set_other hown2 (a := ⟨g, 0, none⟩) (own_blk_ne hown2 hb2 (by decide)) _
  · exact (Nw.refl w A).trans HK.out.size hn2
  · exact HK.out.trans (Nw.refl w A) ((Kpt.of_gb hg2).set_ _)
 clear h hgb hwb hU
 go_enter Tryz.func35, Tryz.ntmps35
 go_upto_region 1 with fail
 rw [← HWB.out]
 obtain ⟨hca, hfa, hra⟩ := KAL.out
 clear HWB
 refine wp_region_noPanic ?_
 refine wp_region_held_drew (S := fun w' => w'.rangeAt w.heap.size 0 [d0, d1, d2, d3, d4, d5, d6, d7, d8, d9, d10, d11, d12, d13, d14, d15, d16, d17, d18, d19, d20, d21, d22, d23, d24, d25, d26, d27, d28, d29, d30, d31, d32]) (by kernel_rfl) hrg (fun hHeld => ?_)
 refine wpAnyH_take (i := 0) (oi := { dst := some 5, op := Go.Op.move (Go.Operand.tmp 0), type := 93, pos := "walk.go:20", after := #[], guard := none }) (v := .pointer (some ⟨g, 0, none⟩)) rfl (by kernel_rfl) ?_ ?_ ?_ ?_ hHeld ?_
 · kernel_rfl
 · kernel_rfl
 · exact fun _ _ _ h => h
 · exact Or.inl ⟨by rfl, fun w' _ => by go_simp⟩
 (try simp only [Act.put, List.setIfInBounds_toArray, List.set_cons_zero, List.set_cons_succ])
 refine wpAnyH_take (i := 1) (oi := { dst := some 6, op := Go.Op.move (Go.Operand.tmp 0), type := 93, pos := "walk.go:20", after := #[], guard := none }) (v := .pointer (some ⟨g, 0, none⟩)) rfl (by kernel_rfl) ?_ ?_ ?_ ?_ hHeld ?_
 · kernel_rfl
 · kernel_rfl
 · exact fun _ _ _ h => h
 · exact Or.inl ⟨by rfl, fun w' _ => by go_simp⟩
 (try simp only [Act.put, List.setIfInBounds_toArray, List.set_cons_zero, List.set_cons_succ])
 refine wpAnyH_take (i := 2) (oi := { dst := some 7, op := Go.Op.nilCheck (Go.Operand.tmp 6), type := 0, pos := "walk.go:20", after := #[{ on := 1, ground := Go.Ground.data }], guard := none }) (v := .pointer (some ⟨g, 0, none⟩)) rfl (by kernel_rfl) ?_ ?_ ?_ ?_ hHeld ?_
 · kernel_rfl
 · kernel_rfl
 · exact fun _ _ _ h => h
 · exact Or.inl ⟨by rfl, fun w' _ => by go_simp⟩
 (try simp only [Act.put, List.setIfInBounds_toArray, List.set_cons_zero, List.set_cons_succ])
 refine wpAnyH_take (i := 3) (oi := { dst := some 8, op := Go.Op.fieldAddr 100 (Go.Operand.tmp 7) 0, type := 0, pos := "walk.go:20", after := #[{ on := 2, ground := Go.Ground.data }], guard := none }) (v := .pointer (some ⟨g, 0, none⟩)) rfl (by kernel_rfl) ?_ ?_ ?_ ?_ hHeld ?_
 · kernel_rfl
 · kernel_rfl
 · exact fun _ _ _ h => h
 · exact Or.inl ⟨by rfl, fun w' _ => by go_simp⟩
 (try simp only [Act.put, List.setIfInBounds_toArray, List.set_cons_zero, List.set_cons_succ])
 refine wpAnyH_take (i := 5) (oi := { dst := some 10, op := Go.Op.load 95 (Go.Operand.tmp 3), type := 95, pos := "walk.go:20", after := #[], guard := none }) (v := .agg ([d0, d1, d2, d3, d4, d5, d6, d7, d8, d9, d10, d11, d12, d13, d14, d15, d16, d17, d18, d19, d20, d21, d22, d23, d24, d25, d26, d27, d28, d29, d30, d31, d32]).toArray) rfl (by kernel_rfl) ?_ ?_ ?_ ?_ hHeld ?_
 · kernel_rfl
 · kernel_rfl
 · exact fun _ _ _ h => h
 · exact yieldsIf_load_mid (by rfl) 95 (.tmp 3) rfl w.heap.size 0 rfl [d0, d1, d2, d3, d4, d5, d6, d7, d8, d9, d10, d11, d12, d13, d14, d15, d16, d17, d18, d19, d20, d21, d22, d23, d24, d25, d26, d27, d28, d29, d30, d31, d32] _ (fun w' h => h) hu30 rfl hsz30
 (try simp only [Act.put, List.setIfInBounds_toArray, List.set_cons_zero, List.set_cons_succ])
 refine wpAnyH_ready (rs := [4, 6]) (by kernel_rfl) (by simp) ?_
 refine AllReadyH.cons (o := { dst := some 9, op := Go.Op.load 98 (Go.Operand.tmp 8), type := 98, pos := "walk.go:20", after := #[{ on := 3, ground := Go.Ground.data }], guard := none }) rfl (fun K hK => ?_) (AllReadyH.cons (o := { dst := some 11, op := Go.Op.buildSlice 98 1 #[(0, Go.Operand.tmp 10)], type := 98, pos := "walk.go:20", after := #[{ on := 5, ground := Go.Ground.data }], guard := none }) rfl (fun K hK => ?_) AllReadyH.nil)
 · go_simp
   refine hK.out _ _ hrg (fun hHeld => ?_)
   clear hK K
   (try simp only [Act.put, List.setIfInBounds_toArray, List.set_cons_zero, List.set_cons_succ])
   refine wpAnyH_ready (rs := [6]) (by kernel_rfl) (by simp) ?_
   refine AllReadyH.cons (o := { dst := some 11, op := Go.Op.buildSlice 98 1 #[(0, Go.Operand.tmp 10)], type := 98, pos := "walk.go:20", after := #[{ on := 5, ground := Go.Ground.data }], guard := none }) rfl (fun K hK => ?_) AllReadyH.nil
   go_simp
   refine hK.out _ _ hra (fun hHeld => ?_)
   clear hK K
   (try simp only [Act.put, List.setIfInBounds_toArray, List.set_cons_zero, List.set_cons_succ])
   refine wpAnyH_ready (rs := [7]) (by kernel_rfl) (by simp) ?_
   refine AllReadyH.cons (o := { dst := some 12, op := Go.Op.call { callee := Go.Callee.builtin Go.Builtin.append, args := #[Go.Operand.tmp 9, Go.Operand.tmp 11], argTypes := #[98, 98] }, type := 98, pos := "walk.go:20", after := #[{ on := 4, ground := Go.Ground.data }, { on := 6, ground := Go.Ground.data }], guard := none }) rfl (fun K hK => ?_) AllReadyH.nil
   refine step_pushN wb.drew rfl (.tmp 9) (.tmp 11) 98 rfl 0 95 ie ze 33 40 Tryz.underlying98 hie hiz his hib hzs (by decide) A n c (DatU q) rfl HQ.out.own #[d0, d1, d2, d3, d4, d5, d6, d7, d8, d9, d10, d11, d12, d13, d14, d15, d16, d17, d18, d19, d20, d21, d22, d23, d24, d25, d26, d27, d28, d29, d30, d31, d32] 1 _ rfl HONE.out rfl (by have := HN0.out; omega) (by have := HN0.out; unfold maxLen; omega) (Nat.zero_le _) ?_
   intro A2 c2 w2 hown2 hg2 hn2
   obtain ⟨k1, k2, k3, k4, hpost⟩ := FIN.out A2 c2 w2 hown2 hg2 hn2
   refine hK.out _ _ k3 (fun hHeld => ?_)
   clear hK K
   (try simp only [Act.put, List.setIfInBounds_toArray, List.set_cons_zero, List.set_cons_succ])
   refine wpAnyH_take (i := 8) (oi := { dst := some 13, op := Go.Op.nilCheck (Go.Operand.tmp 5), type := 0, pos := "walk.go:20", after := #[{ on := 0, ground := Go.Ground.data }, { on := 0, ground := Go.Ground.phase }, { on := 1, ground := Go.Ground.phase }, { on := 2, ground := Go.Ground.phase }, { on := 3, ground := Go.Ground.phase }, { on := 4, ground := Go.Ground.phase }, { on := 5, ground := Go.Ground.phase }, { on := 6, ground := Go.Ground.phase }, { on := 7, ground := Go.Ground.phase }], guard := none }) (v := .pointer (some ⟨g, 0, none⟩)) rfl (by kernel_rfl) ?_ ?_ ?_ ?_ hHeld ?_
   · kernel_rfl
   · kernel_rfl
   · exact fun _ _ _ h => h
   · exact Or.inl ⟨by rfl, fun w' _ => by go_simp⟩
   (try simp only [Act.put, List.setIfInBounds_toArray, List.set_cons_zero, List.set_cons_succ])
   refine wpAnyH_take (i := 9) (oi := { dst := some 14, op := Go.Op.fieldAddr 100 (Go.Operand.tmp 13) 0, type := 0, pos := "walk.go:20", after := #[{ on := 8, ground := Go.Ground.data }, { on := 0, ground := Go.Ground.phase }, { on := 1, ground := Go.Ground.phase }, { on := 2, ground := Go.Ground.phase }, { on := 3, ground := Go.Ground.phase }, { on := 4, ground := Go.Ground.phase }, { on := 5, ground := Go.Ground.phase }, { on := 6, ground := Go.Ground.phase }, { on := 7, ground := Go.Ground.phase }], guard := none }) (v := .pointer (some ⟨g, 0, none⟩)) rfl (by kernel_rfl) ?_ ?_ ?_ ?_ hHeld ?_
   · kernel_rfl
   · kernel_rfl
   · exact fun _ _ _ h => h
   · exact Or.inl ⟨by rfl, fun w' _ => by go_simp⟩
   (try simp only [Act.put, List.setIfInBounds_toArray, List.set_cons_zero, List.set_cons_succ])
   refine wpAnyH_ready (rs := [10]) (by kernel_rfl) (by simp) ?_
   refine AllReadyH.cons (o := { dst := none, op := Go.Op.store 98 (Go.Operand.tmp 14) (Go.Operand.tmp 12), type := 0, pos := "walk.go:20", after := #[{ on := 9, ground := Go.Ground.data }, { on := 7, ground := Go.Ground.data }, { on := 7, ground := Go.Ground.chain }, { on := 0, ground := Go.Ground.phase }, { on := 1, ground := Go.Ground.phase }, { on := 2, ground := Go.Ground.phase }, { on := 3, ground := Go.Ground.phase }, { on := 4, ground := Go.Ground.phase }, { on := 5, ground := Go.Ground.phase }, { on := 6, ground := Go.Ground.phase }, { on := 7, ground := Go.Ground.phase }], guard := none }) rfl (fun K hK => ?_) AllReadyH.nil
   go_simp
   refine hK.out _ _ k4 (fun hHeld => ?_)
   clear hK K
   (try simp only [Act.put, List.setIfInBounds_toArray, List.set_cons_zero, List.set_cons_succ])
   refine wpAnyH_done (by kernel_rfl) ?_ _
   refine NoPanic.normal ?_
   generalize w2.setCell ⟨g, 0, none⟩ (.slice A2 (n + 1) c2) = w9 at *
   obtain ⟨A3, n3, c3, hq3, hn3, hk3⟩ := hpost
   have hl3 := hq3.len
   rw [List.length_append, List.length_singleton] at hl3
   have HP := Lib.hid (And.intro hq3 (And.intro hn3 hk3))
   have HL3 := Lib.hid hl3
   obtain ⟨j1, hj1⟩ : ∃ j1, j1 = n3 - 1 := ⟨_, rfl⟩
   have ej1 : (n3 : Int) - 1 = (j1 : Int) := by omega
   obtain ⟨qa, hqa⟩ : ∃ qa, A3 = some ⟨qa, 0, none⟩ := by
    obtain ⟨qa, cap, hv, _, _⟩ := hq3.own.form (by omega)
    injection hv with hv1
    exact ⟨qa, hv1⟩
   subst hqa
   have hc0' := hq3.blk.cell 0
   have hc1' := hq3.blk.cell 1
   simp at hc0' hc1'
   have HJ1 := Lib.hid hj1
   have hj1b : j1 = 0 := by omega
   clear hca hfa hra hrg hc0 hf0 HAPP HONE KAL FIN HBL HB HQ HK hl3 hj1 hn3 hk3 k1 k2 k3 k4 hown2 hg2 hn2 hsz30
   have h0 : j1 = 0 := hj1b
   subst h0
   go_wp2_with fail
   refine wp_loop_rounds 1 ?_
   rw [rounds_succ]
   go_wp2_with fail
   go_quiet (fail)
   go_wp2_with fail
   go_end0
   exact ⟨rfl, DPost.drewN ⟨_, n3, c3, HP.out.1, HP.out.2.1, HP.out.2.2⟩ nq⟩
 · go_simp
   refine hK.out _ _ hra (fun hHeld => ?_)
   clear hK K
   (try simp only [Act.put, List.setIfInBounds_toArray, List.set_cons_zero, List.set_cons_succ])
   refine wpAnyH_ready (rs := [4]) (by kernel_rfl) (by simp) ?_
   refine AllReadyH.cons (o := { dst := some 9, op := Go.Op.load 98 (Go.Operand.tmp 8), type := 98, pos := "walk.go:20", after := #[{ on := 3, ground := Go.Ground.data }], guard := none }) rfl (fun K hK => ?_) AllReadyH.nil
   go_simp
   refine hK.out _ _ hra (fun hHeld => ?_)
   clear hK K
   (try simp only [Act.put, List.setIfInBounds_toArray, List.set_cons_zero, List.set_cons_succ])
   refine wpAnyH_ready (rs := [7]) (by kernel_rfl) (by simp) ?_
   refine AllReadyH.cons (o := { dst := some 12, op := Go.Op.call { callee := Go.Callee.builtin Go.Builtin.append, args := #[Go.Operand.tmp 9, Go.Operand.tmp 11], argTypes := #[98, 98] }, type := 98, pos := "walk.go:20", after := #[{ on := 4, ground := Go.Ground.data }, { on := 6, ground := Go.Ground.data }], guard := none }) rfl (fun K hK => ?_) AllReadyH.nil
   refine step_pushN wb.drew rfl (.tmp 9) (.tmp 11) 98 rfl 0 95 ie ze 33 40 Tryz.underlying98 hie hiz his hib hzs (by decide) A n c (DatU q) rfl HQ.out.own #[d0, d1, d2, d3, d4, d5, d6, d7, d8, d9, d10, d11, d12, d13, d14, d15, d16, d17, d18, d19, d20, d21, d22, d23, d24, d25, d26, d27, d28, d29, d30, d31, d32] 1 _ rfl HONE.out rfl (by have := HN0.out; omega) (by have := HN0.out; unfold maxLen; omega) (Nat.zero_le _) ?_
   intro A2 c2 w2 hown2 hg2 hn2
   obtain ⟨k1, k2, k3, k4, hpost⟩ := FIN.out A2 c2 w2 hown2 hg2 hn2
   refine hK.out _ _ k3 (fun hHeld => ?_)
   clear hK K
   (try simp only [Act.put, List.setIfInBounds_toArray, List.set_cons_zero, List.set_cons_succ])
   refine wpAnyH_take (i := 8) (oi := { dst := some 13, op := Go.Op.nilCheck (Go.Operand.tmp 5), type := 0, pos := "walk.go:20", after := #[{ on := 0, ground := Go.Ground.data }, { on := 0, ground := Go.Ground.phase }, { on := 1, ground := Go.Ground.phase }, { on := 2, ground := Go.Ground.phase }, { on := 3, ground := Go.Ground.phase }, { on := 4, ground := Go.Ground.phase }, { on := 5, ground := Go.Ground.phase }, { on := 6, ground := Go.Ground.phase }, { on := 7, ground := Go.Ground.phase }], guard := none }) (v := .pointer (some ⟨g, 0, none⟩)) rfl (by kernel_rfl) ?_ ?_ ?_ ?_ hHeld ?_
   · kernel_rfl
   · kernel_rfl
   · exact fun _ _ _ h => h
   · exact Or.inl ⟨by rfl, fun w' _ => by go_simp⟩
   (try simp only [Act.put, List.setIfInBounds_toArray, List.set_cons_zero, List.set_cons_succ])
   refine wpAnyH_take (i := 9) (oi := { dst := some 14, op := Go.Op.fieldAddr 100 (Go.Operand.tmp 13) 0, type := 0, pos := "walk.go:20", after := #[{ on := 8, ground := Go.Ground.data }, { on := 0, ground := Go.Ground.phase }, { on := 1, ground := Go.Ground.phase }, { on := 2, ground := Go.Ground.phase }, { on := 3, ground := Go.Ground.phase }, { on := 4, ground := Go.Ground.phase }, { on := 5, ground := Go.Ground.phase }, { on := 6, ground := Go.Ground.phase }, { on := 7, ground := Go.Ground.phase }], guard := none }) (v := .pointer (some ⟨g, 0, none⟩)) rfl (by kernel_rfl) ?_ ?_ ?_ ?_ hHeld ?_
   · kernel_rfl
   · kernel_rfl
   · exact fun _ _ _ h => h
   · exact Or.inl ⟨by rfl, fun w' _ => by go_simp⟩
   (try simp only [Act.put, List.setIfInBounds_toArray, List.set_cons_zero, List.set_cons_succ])
   refine wpAnyH_ready (rs := [10]) (by kernel_rfl) (by simp) ?_
   refine AllReadyH.cons (o := { dst := none, op := Go.Op.store 98 (Go.Operand.tmp 14) (Go.Operand.tmp 12), type := 0, pos := "walk.go:20", after := #[{ on := 9, ground := Go.Ground.data }, { on := 7, ground := Go.Ground.data }, { on := 7, ground := Go.Ground.chain }, { on := 0, ground := Go.Ground.phase }, { on := 1, ground := Go.Ground.phase }, { on := 2, ground := Go.Ground.phase }, { on := 3, ground := Go.Ground.phase }, { on := 4, ground := Go.Ground.phase }, { on := 5, ground := Go.Ground.phase }, { on := 6, ground := Go.Ground.phase }, { on := 7, ground := Go.Ground.phase }], guard := none }) rfl (fun K hK => ?_) AllReadyH.nil
   go_simp
   refine hK.out _ _ k4 (fun hHeld => ?_)
   clear hK K
   (try simp only [Act.put, List.setIfInBounds_toArray, List.set_cons_zero, List.set_cons_succ])
   refine wpAnyH_done (by kernel_rfl) ?_ _
   refine NoPanic.normal ?_
   generalize w2.setCell ⟨g, 0, none⟩ (.slice A2 (n + 1) c2) = w9 at *
   obtain ⟨A3, n3, c3, hq3, hn3, hk3⟩ := hpost
   have hl3 := hq3.len
   rw [List.length_append, List.length_singleton] at hl3
   have HP := Lib.hid (And.intro hq3 (And.intro hn3 hk3))
   have HL3 := Lib.hid hl3
   obtain ⟨j1, hj1⟩ : ∃ j1, j1 = n3 - 1 := ⟨_, rfl⟩
   have ej1 : (n3 : Int) - 1 = (j1 : Int) := by omega
   obtain ⟨qa, hqa⟩ : ∃ qa, A3 = some ⟨qa, 0, none⟩ := by
    obtain ⟨qa, cap, hv, _, _⟩ := hq3.own.form (by omega)
    injection hv with hv1
    exact ⟨qa, hv1⟩
   subst hqa
   have hc0' := hq3.blk.cell 0
   have hc1' := hq3.blk.cell 1
   simp at hc0' hc1'
   have HJ1 := Lib.hid hj1
   have hj1b : j1 = 0 := by omega
   clear hca hfa hra hrg hc0 hf0 HAPP HONE KAL FIN HBL HB HQ HK hl3 hj1 hn3 hk3 k1 k2 k3 k4 hown2 hg2 hn2 hsz30
   have h0 : j1 = 0 := hj1b
   subst h0
   go_wp2_with fail
   refine wp_loop_rounds 1 ?_
   rw [rounds_succ]
   go_wp2_with fail
   go_quiet (fail)
   go_wp2_with fail
   go_end0
   exact ⟨rfl, DPost.drewN ⟨_, n3, c3, HP.out.1, HP.out.2.1, HP.out.2.2⟩ nq⟩
end Go.Proofs.YtnjhjbmngoeobaaGreatDoor
