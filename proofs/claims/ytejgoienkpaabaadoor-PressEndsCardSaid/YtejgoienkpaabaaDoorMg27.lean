/- MeasB (merged: one text behind the other). -/
import Derived.Test.YtejgoienkpaabaaDoorMg24
import Derived.Deep.LoopGhost
import Derived.Deep.RegionLaw
/- The contract of press.measure. -/
namespace Go.Proofs.YtejgoienkpaabaaDoor
open Go.RowKit
set_option maxRecDepth 100000
theorem zero3 (w : World) : (zeroValue 3).run Tryd.prog w = .ok (.int .i64 0) w := by kernel_rfl
theorem info169 : (Tryd.prog.info? 170).map (fun i => (i.zero, i.size, i.bytes)) = some (some (.pointer none), 1, 8) := by kernel_rfl
/-- the outer loop -/
def MRel (w : World) (gl N : Nat) (pre post used0 : List Nat) (goal : List Nat) (f : Nat) (vu : Value) (wr : World) : Prop :=
  ∃ (gu cu : Nat) (used row : List Nat), vu = .slice (some ⟨gu, 0, none⟩) N cu ∧ N ≤ cu ∧ cu ≤ 1000000 ∧ used.length = N ∧ row.length = N ∧ used.sum < f ∧ used.sum ≤ 100000 ∧ Hid (measP srtP f used row = goal) ∧ Hid (UsedAt wr gu used) ∧
    Hid (Blk wr gl 85 (IA (pre ++ row ++ post))) ∧ Hid (w.grownBy wr (some gl)) ∧ Hid (∀ s, used.getD s 0 = 0 → row.getD s 0 = 0) ∧ Hid (∀ s, used.getD s 0 = 0 ↔ used0.getD s 0 = 0) ∧ w.heap.size ≤ wr.heap.size ∧ gl < w.heap.size
theorem OkRow.of_iff {u0 u row : List Nat} (h : OkRow u row) (hl : u.length = u0.length) (hz : ∀ s, u.getD s 0 = 0 ↔ u0.getD s 0 = 0) : OkRow u0 row := by
  refine ⟨by rw [h.len, hl], fun s => (h.zero s).trans (hz s), h.le, fun nn hn => h.ok nn ?_⟩
  rcases hn with hn | ⟨s, hs⟩
  · exact .inl hn
  · refine .inr ⟨s, ?_⟩
    have := hz s
    omega
/-- the leaves so far -/
def LvRel (w1 : World) (T bl : Nat) (used : List Nat) (v17 : Value) (wr : World) : Prop :=
  ∃ (s n : Nat) (vl : Value) (pl : List Nat), s ≤ used.length ∧ v17 = .int .i64 s ∧ n = (lvs used s).length ∧ Hid (Blk wr bl 169 #[vl]) ∧ Hid (wr.ownsRow T 170 1 vl n (PP pl)) ∧ Hid (Roots wr (lvs used s) pl) ∧ Hid (KeepF w1 wr) ∧ Hid (Below T w1 wr) ∧ T ≤ wr.heap.size
theorem KeepF.own {a b c : World} {T n : Nat} {v : Value} {xs : List Value} (h : KeepF a b) (ho : b.ownsRow T 170 1 v n xs) (hg : b.grownBy c v.ownBlock) : KeepF a c :=
  fun g t cs h1 h2 x => (h g t cs h1 h2 x).gb hg (fun e => own_blk_ne ho (h g t cs h1 h2 x) (fun e2 => h2 e2.symm) e.symm)
theorem lv_step {w1 wl w3 : World} {T bl s n x c c2 : Nat} {A A2 : Option Addr} {ud pl : List Nat} (hx : x = ud.getD s 0) (hx0 : 0 < x) (hn : n = (lvs ud s).length)
    (HL : Blk wl bl 169 #[.slice A n c]) (HO : wl.ownsRow T 170 1 (.slice A n c) n (PP pl)) (HR : Roots wl (lvs ud s) pl) (HK : KeepF w1 wl) (HS : Below T w1 wl) (hT : T ≤ wl.heap.size) (hbl : T ≤ bl)
    (hown : w3.ownsRow T 170 1 (.slice A2 (n + 1) c2) (n + 1) (PP pl ++ [Ptr wl.heap.size])) (hg : (wl.alloc (.cells #[.int .i64 (x : Int), .int .i64 (s : Int), .pointer none, .pointer none] 172)).grownBy w3 (Value.slice A n c).ownBlock) :
    w3.cell? ⟨bl, 0, none⟩ = some (.slice A n c) ∧ w3.frozen? ⟨bl, 0, none⟩ = false ∧ (s < ud.length → LvRel w1 T bl ud (.int .i64 ((s + 1 : Nat) : Int)) (w3.setCell ⟨bl, 0, none⟩ (.slice A2 (n + 1) c2))) := by
  have hoa := HO.alloc (.cells #[.int .i64 (x : Int), .int .i64 (s : Int), .pointer none, .pointer none] 172)
  have hla := HL.alloc (.cells #[.int .i64 (x : Int), .int .i64 (s : Int), .pointer none, .pointer none] 172)
  have hb3 : Blk w3 bl 169 #[.slice A n c] := hla.gb hg (fun e => own_blk_ne hoa hla (by decide) e.symm)
  have hk3 : KeepF wl w3 := ((KeepF.refl wl).alloc _).own hoa hg
  have hne : (Value.slice A2 (n + 1) c2).ownBlock ≠ some bl := own_blk_ne hown hb3 (by decide)
  have hk4 : KeepF wl (w3.setCell ⟨bl, 0, none⟩ (.slice A2 (n + 1) c2)) := hk3.set_ hb3 _
  refine ⟨by rw [hb3.cell]; rfl, hb3.frozen 0, fun hs => ?_⟩
  have e : lvs ud (s + 1) = lvs ud s ++ [.leaf x s] := by rw [lvs, ← hx, if_pos hx0]
  have hnode : Blk w3 wl.heap.size 172 #[.int .i64 (x : Int), .int .i64 (s : Int), .pointer none, .pointer none] := by
    refine (Blk.new wl 172 _).gb hg (fun e => own_blk_ne hoa (Blk.new wl 172 _) (by decide) e.symm)
  refine ⟨s + 1, n + 1, .slice A2 (n + 1) c2, pl ++ [wl.heap.size], hs, rfl, by rw [e]; simp [hn], ?_, ?_, ?_, ?_, ?_, ?_⟩
  · have := hb3.set_ 0 (.slice A2 (n + 1) c2)
    unfold Hid
    simpa using this
  · have := own_set_other hown (a := ⟨bl, 0, none⟩) hne (.slice A2 (n + 1) c2)
    have e2 : PP (pl ++ [wl.heap.size]) = PP pl ++ [Ptr wl.heap.size] := by simp [PP]
    rw [e2]
    exact this
  · rw [e]
    refine Roots.snoc ?_ (HR.keep hk4.n)
    exact hnode.far (p := ⟨bl, 0, none⟩) (fun e => Blk.ne_ hnode hb3 (by decide) e) _
  · exact HK.trans hk4
  · have h3 : Below T w1 w3 := by
      have h4 : Below T w1 (wl.alloc (.cells #[.int .i64 (x : Int), .int .i64 (s : Int), .pointer none, .pointer none] 172)) := HS.alloc hT _
      exact h4.grown hg (by simp; omega) (fun q hq => (hoa.lt q hq).1)
    exact h3.setCell (p := ⟨bl, 0, none⟩) hbl _
  · have := hg.size
    simp at this ⊢
    omega
theorem getD_le_sum (l : List Nat) (i : Nat) : l.getD i 0 ≤ l.sum := by
  induction l generalizing i with
  | nil => simp
  | cons a l ih =>
    cases i with
    | zero => simp
    | succ i => have := ih i; simp only [List.getD_cons_succ, List.sum_cons]; omega
theorem lv_skip {w1 wl : World} {T bl s n : Nat} {vl : Value} {ud pl : List Nat} (hx0 : ¬ 0 < ud.getD s 0) (hn : n = (lvs ud s).length) (hs : s < ud.length)
    (HL : Blk wl bl 169 #[vl]) (HO : wl.ownsRow T 170 1 vl n (PP pl)) (HR : Roots wl (lvs ud s) pl) (HK : KeepF w1 wl) (HS : Below T w1 wl) (hT : T ≤ wl.heap.size) : LvRel w1 T bl ud (.int .i64 ((s + 1 : Nat) : Int)) wl := by
  have e : lvs ud (s + 1) = lvs ud s := by rw [lvs, if_neg hx0, List.append_nil]
  exact ⟨s + 1, n, vl, pl, hs, rfl, by rw [e]; exact hn, HL, HO, by rw [e]; exact HR, HK, HS, hT⟩
/-- the sort's state at its start -/
theorem sr_start {wl : World} {T n c g : Nat} {ts : List HT} {pl : List Nat} (hn : n = ts.length) (HO : wl.ownsRow T 170 1 (.slice (some ⟨g, 0, none⟩) n c) n (PP pl)) (HR : Roots wl ts pl) (hw : ∀ t ∈ ts, t.w ≤ 1000000) :
    SR wl wl T g c n n (fun i => pl.getD i 0) (fun i => (ts.getD i default).w) (List.range n) (List.range n) := by
  have hl := HR.len
  refine ⟨?_, gb_refl _ _, fun i hi => ?_, fun i hi => List.mem_range.1 hi, List.Perm.refl _, by simp⟩
  · rw [PV_pick, map_getD_range pl n (by omega)]
    exact HO
  · have hna := HR.get i (by omega)
    obtain ⟨cs, hb⟩ := hna.w.2
    refine ⟨hna.w.1, fun e => own_blk_ne HO hb (by decide) (by rw [← e]; rfl), ?_⟩
    apply hw
    rw [List.getD_eq_getElem?_getD, List.getElem?_eq_getElem (by omega)]
    exact List.getElem_mem _
/-- .. and at its end -/
theorem sr_end {wl w3 : World} {T n c g : Nat} {ts : List HT} {pl σ : List Nat} (hn : n = ts.length) (HO : wl.ownsRow T 170 1 (.slice (some ⟨g, 0, none⟩) n c) n (PP pl)) (HR : Roots wl ts pl)
    (h : SR wl w3 T g c n n (fun i => pl.getD i 0) (fun i => (ts.getD i default).w) (List.range n) σ) (hTl : T ≤ wl.heap.size) :
    Fs w3 T 170 (.slice (some ⟨g, 0, none⟩) (pick ts σ).length c) (pick ts σ).length (PP (σ.map fun i => pl.getD i 0)) ∧ Roots w3 (pick ts σ) (σ.map fun i => pl.getD i 0) ∧ KeepF wl w3 ∧ Below T wl w3 ∧ (pick ts σ).Perm ts := by
  have hk : KeepF wl w3 := (KeepF.refl wl).own HO (v := .slice (some ⟨g, 0, none⟩) n c) h.gb
  have hlen : (pick ts σ).length = n := by simp [pick, h.dlen]
  refine ⟨?_, (HR.keep hk.n).pick σ (fun i hi => by rw [← hn]; exact h.mem i (h.perm.mem_iff.1 hi)), hk, ?_, pick_perm ts σ (by rw [← hn]; exact h.perm)⟩
  · rw [hlen, ← PV_pick]
    exact Fs.of_own h.own
  · exact (Below.refl T wl).grown h.gb hTl (fun q hq => (HO.lt q hq).1)
theorem set_zeros {u row : List Nat} {s0 v : Nat} (hl : row.length = u.length) (hz : ∀ s, s ≠ s0 → row.getD s 0 = 0) : row.set s0 v = (List.replicate u.length 0).set s0 v := by
  refine list_ext_getD (by simp [hl]) fun i => ?_
  rw [List.getD_eq_getElem?_getD, List.getD_eq_getElem?_getD, List.getElem?_set, List.getElem?_set]
  by_cases h : s0 = i
  · rw [if_pos h, if_pos h, hl]; simp
  · rw [if_neg h, if_neg h, ← List.getD_eq_getElem?_getD, ← List.getD_eq_getElem?_getD, getD_replicate0, hz i (fun e => h e.symm)]
theorem one_leaf {ud : List Nat} {n : Nat} (h : n = (lvs ud ud.length).length) (h1 : n = 1) : ∃ s0, s0 < ud.length ∧ lvs ud ud.length = [.leaf (ud.getD s0 0) s0] ∧ ∀ s, s ≠ s0 → ud.getD s 0 = 0 := by
  obtain ⟨t, ht⟩ := List.length_eq_one_iff.1 (h.symm.trans h1)
  obtain ⟨i, hi, hp, rfl⟩ := lvs_mem ud ud.length t (by rw [ht]; simp)
  refine ⟨i, hi, ht, fun s hs => ?_⟩
  rcases Nat.eq_zero_or_pos (ud.getD s 0) with h0 | h0
  · exact h0
  · by_cases hl : s < ud.length
    · have := ((lvs_syms ud ud.length).2 s).2 ⟨hl, h0⟩
      rw [ht] at this
      simp [symsL, HT.syms] at this
      exact absurd this hs
    · exact getD_big _ _ (by omega)
/-- the two queues while trees are made -/
def QRel (wo : World) (T bm : Nat) (top : HT) (f : Nat) (wr : World) : Prop :=
  ∃ (l made : List HT), Hid (Qs wr T T bm l made) ∧ Hid (mergeQ f l made = [top]) ∧ l.length + made.length ≤ f + 1 ∧ l.length + made.length ≤ 1000 ∧ Hid (wsum (l ++ made) ≤ 100000) ∧ Hid (KeepF wo wr) ∧ Hid (Below T wo wr) ∧ T ≤ wr.heap.size
/-- a node more -/
theorem mk_step {w6 w7 : World} {T bm cm c2 : Nat} {l made : List HT} {vl : Value} {Am A2 : Option Addr} {pl pm : List Nat} {ta tb : HT} {pa pb : Nat}
    (h : QS w6 T T bm l made vl (.slice Am made.length cm) pl pm) (hna : NodeAt w6 ta pa) (hnb : NodeAt w6 tb pb) (hT : T ≤ w6.heap.size)
    (hf : Fs w7 T 170 (.slice A2 (made.length + 1) c2) (made.length + 1) (PP pm ++ [Ptr w6.heap.size]))
    (hg : (w6.drew.alloc (.cells #[.int .i64 ((ta.w + tb.w : Nat) : Int), .int .i64 0, Ptr pa, Ptr pb] 172)).grownBy w7 (Value.slice Am made.length cm).ownBlock)
    (hnew : (Value.slice A2 (made.length + 1) c2).ownBlock = (Value.slice Am made.length cm).ownBlock ∨ ∀ q, (Value.slice A2 (made.length + 1) c2).ownBlock = some q → (w6.drew.alloc (.cells #[.int .i64 ((ta.w + tb.w : Nat) : Int), .int .i64 0, Ptr pa, Ptr pb] 172)).heap.size ≤ q) :
    (w7.cell? ⟨bm, 0, none⟩ = some (.slice Am made.length cm) ∧ w7.frozen? ⟨bm, 0, none⟩ = false ∧ KeepF w6 w7) ∧
      ∀ k, Qs ((w7.setCell ⟨bm, 0, none⟩ (.slice A2 (made.length + 1) c2)).drewN k) T T bm l (made ++ [.node (ta.w + tb.w) ta tb]) ∧ KeepF w6 ((w7.setCell ⟨bm, 0, none⟩ (.slice A2 (made.length + 1) c2)).drewN k) ∧
        Below T w6 ((w7.setCell ⟨bm, 0, none⟩ (.slice A2 (made.length + 1) c2)).drewN k) := by
  generalize hcs : #[Value.int .i64 ((ta.w + tb.w : Nat) : Int), .int .i64 0, Ptr pa, Ptr pb] = cs at *
  have hka : KeepF w6 (w6.drew.alloc (.cells cs 172)) := ((KeepF.refl w6).drewN 1).alloc _
  have hfa : Fs (w6.drew.alloc (.cells cs 172)) T 170 (.slice Am made.length cm) made.length (PP pm) := (h.fm.drewN 1).alloc _
  have hfl : Fs (w6.drew.alloc (.cells cs 172)) T 170 vl l.length (PP pl) := (h.fl.drewN 1).alloc _
  have hma : Blk (w6.drew.alloc (.cells cs 172)) bm 169 #[.slice Am made.length cm] := (show Blk w6.drew bm 169 _ from h.hm).alloc _
  have hla : Blk (w6.drew.alloc (.cells cs 172)) T 169 #[vl] := (show Blk w6.drew T 169 _ from h.hl).alloc _
  have hnode : Blk (w6.drew.alloc (.cells cs 172)) w6.heap.size 172 cs := Blk.new w6.drew 172 cs
  have hk7 : KeepF w6 w7 := fun g t cs' h1 h2 x => (hka g t cs' h1 h2 x).gb hg (fun e => hfa.ne_ (hka g t cs' h1 h2 x) h2 e.symm)
  have hm7 : Blk w7 bm 169 #[.slice Am made.length cm] := hma.gb hg (fun e => hfa.ne_ hma (by decide) e.symm)
  have hl7 : Blk w7 T 169 #[vl] := hla.gb hg (fun e => hfa.ne_ hla (by decide) e.symm)
  have hn7 : Blk w7 w6.heap.size 172 cs := hnode.gb hg (fun e => hfa.ne_ hnode (by decide) e.symm)
  have hk8 : KeepF w6 (w7.setCell ⟨bm, 0, none⟩ (.slice A2 (made.length + 1) c2)) := hk7.set_ hm7 _
  refine ⟨⟨by rw [hm7.cell]; rfl, hm7.frozen 0, hk7⟩, fun k => ⟨?_, hk8, ?_⟩⟩
  · have hnd : NodeAt (w7.setCell ⟨bm, 0, none⟩ (.slice A2 (made.length + 1) c2)) (.node (ta.w + tb.w) ta tb) w6.heap.size := by
      refine ⟨pa, pb, ?_, hna.keep hk8.n, hnb.keep hk8.n⟩
      rw [hcs]
      exact hn7.far (p := ⟨bm, 0, none⟩) (fun e => Blk.ne_ hn7 hm7 (by decide) e) _
    have hfl7 : Fs w7 T 170 vl l.length (PP pl) := hfl.gb hg h.ap
    refine ⟨vl, .slice A2 (made.length + 1) c2, pl, pm ++ [w6.heap.size], QS.drewN ⟨hl7.far (p := ⟨bm, 0, none⟩) h.ne _, ?_, h.ne, hfl7.set_ hm7 (by decide) _, ?_, ?_, h.rl.keep hk8.n, ?_, h.tl, h.tm⟩ k⟩
    · have := hm7.set_ 0 (.slice A2 (made.length + 1) c2)
      simpa using this
    · have e1 : (made ++ [HT.node (ta.w + tb.w) ta tb]).length = made.length + 1 := by simp
      have e2 : PP (pm ++ [w6.heap.size]) = PP pm ++ [Ptr w6.heap.size] := by simp [PP]
      rw [e1, e2]
      exact hf.set_ hm7 (by decide) _
    · rcases hnew with hnew | hnew
      · rw [hnew]; exact h.ap
      · cases hv : vl.ownBlock with
        | none => exact .inl rfl
        | some q =>
          refine .inr fun e => ?_
          have h1 := hnew q e.symm
          have h2 := (h.fl.lt q hv).2
          simp at h1
          omega
    · exact Roots.snoc hnd (h.rm.keep hk8.n)
  · have hb : Below T w6 (w6.drew.alloc (.cells cs 172)) := ((Below.refl T w6).drew).alloc (show T ≤ w6.drew.heap.size from hT) _
    have hb7 : Below T w6 w7 := hb.grown hg (by simp; omega) (fun q hq => (hfa.lt q hq).1)
    exact ⟨hb7.os, hb7.tape, hb7.output, by have := hb7.size; simpa using this, fun k' hk' => (Below.heap_setCell _ _ _ _ (by have := h.tm; simp; omega)).trans (hb7.block k' hk')⟩
theorem high_lt (t : HT) : t.high < t.syms.length := by
  induction t with
  | leaf w s => simp [HT.high, HT.syms]
  | node w l r il ir => simp only [HT.high, HT.syms, List.length_append]; omega
/-- the halves, so far -/
def FlRel (w8 : World) (gf N : Nat) (hf : List Nat) (v : Value) (wr : World) : Prop :=
  ∃ (s : Nat), s ≤ N ∧ v = .int .i64 s ∧ Hid (wr.ownsRow gf 3 1 (.slice (some ⟨gf, 0, none⟩) N N) N (I (hf.take s ++ List.replicate (N - s) 0))) ∧ Hid (w8.grownBy wr (some gf))
theorem fl_step {w8 wr : World} {gf N s y : Nat} {hf : List Nat} (hs : s < N) (hl : hf.length = N) (hy : y = hf.getD s 0) (ho : wr.ownsRow gf 3 1 (.slice (some ⟨gf, 0, none⟩) N N) N (I (hf.take s ++ List.replicate (N - s) 0)))
    (hg : w8.grownBy wr (some gf)) : FlRel w8 gf N hf (.int .i64 ((s + 1 : Nat) : Int)) (wr.setCell ⟨gf, s, none⟩ (.int .i64 (y : Int))) := by
  refine ⟨s + 1, hs, rfl, ?_, gb_set hg (.inl rfl) _⟩
  have h := own_set (i := s) ho (.int .i64 (y : Int))
  have e : (I (hf.take s ++ List.replicate (N - s) 0)).set s (.int .i64 (y : Int)) = I (hf.take (s + 1) ++ List.replicate (N - (s + 1)) 0) := by
    have e1 : (hf.take s ++ List.replicate (N - s) 0).set s y = hf.take (s + 1) ++ List.replicate (N - (s + 1)) 0 := by
      obtain ⟨k, hk⟩ : ∃ k, N - s = k + 1 := ⟨N - s - 1, by omega⟩
      have hk2 : N - (s + 1) = k := by omega
      rw [hk, hk2, List.replicate_succ, List.set_append_right _ _ (by simp; omega)]
      have hlen : (hf.take s).length = s := by simp; omega
      rw [hlen, Nat.sub_self, List.set_cons_zero, List.take_succ_eq_append_getElem (by omega), List.append_assoc, hy]
      simp [List.getD_eq_getElem?_getD, List.getElem?_eq_getElem (show s < hf.length by omega)]
    rw [← e1]
    simp [I, List.map_set]
  rw [e] at h
  exact h
theorem fl_end {wr : World} {gf N : Nat} {hf : List Nat} (hl : hf.length = N) (ho : wr.ownsRow gf 3 1 (.slice (some ⟨gf, 0, none⟩) N N) N (I (hf.take N ++ List.replicate (N - N) 0))) : UsedAt wr gf hf := by
  rcases ho.2 with ⟨h, _⟩ | ⟨g, cap, cur, hv, h1, h2, h3, h4, h5, h6⟩
  · cases h
  · injection hv with hv1 hv2 hv3
    injection hv1 with hv1
    injection hv1 with hv1
    subst hv1
    refine ⟨3, cur, by decide, by decide, by decide, h2, fun j hj => ?_⟩
    have h7 : (cur.toList.take (N * 1))[j]? = cur[j]? := by
      rw [List.getElem?_take, if_pos (by omega)]
      simp
    rw [← h7, h6, Nat.sub_self, List.replicate_zero, List.append_nil, List.take_of_length_le (by omega), I_get, List.getElem?_eq_getElem hj]
    simp [List.getD_eq_getElem?_getD, List.getElem?_eq_getElem hj]
theorem m_next {w w9 : World} {gl gf N f : Nat} {pre post used0 goal ud row : List Nat} {tr : List HT} (hN2 : N ≤ 300) (q3 : ud.length = N) (q4 : row.length = N) (q5 : ud.sum < f + 1) (q6 : ud.sum ≤ 100000) (q8 : gl < w.heap.size)
    (HE : measP srtP (f + 1) ud row = goal) (HZ : ∀ s, ud.getD s 0 = 0 → row.getD s 0 = 0) (HI : ∀ s, ud.getD s 0 = 0 ↔ used0.getD s 0 = 0) (hl2 : 2 ≤ tr.length) (HTS : pick (lvs ud ud.length) (srtP (lvs ud ud.length)) = tr) (HPM : tr.Perm (lvs ud ud.length))
    (hd : ¬ (topOf tr).deep 0 ≤ 15) (hU : UsedAt w9 gf (half ud)) (hB : Blk w9 gl 85 (IA (pre ++ (topOf tr).put 0 row ++ post))) (hG : w.grownBy w9 (some gl)) :
    MRel w gl N pre post used0 goal f (.slice (some ⟨gf, 0, none⟩) N N) w9 := by
  have hs := (half_sum ud).2 (deep_two ud tr HPM hl2 (by omega) hd)
  have hlen := HPM.length_eq
  refine ⟨gf, N, half ud, (topOf tr).put 0 row, rfl, Nat.le_refl _, by omega, by rw [half_length, q3], by rw [put_length, q4], by omega, by omega, ?_, hU, hB, hG, fun s h0 => ?_, fun s => ?_, hG.size, q8⟩
  · rw [measP, HTS, if_neg (by omega), if_neg (by omega), if_neg hd] at HE
    exact HE
  · rw [half_get] at h0
    have h1 : ud.getD s 0 = 0 := by omega
    rw [put_other _ _ _ _ (fun hm => ?_)]
    · exact HZ s h1
    · have h2 := (topOf_syms tr hl2).2.symm.mem_iff.1 hm
      have h3 := ((lvs_syms ud ud.length).2 s).1 ((symsL_perm HPM).mem_iff.1 h2)
      omega
  · rw [half_get, ← HI s]
    omega
theorem qs_start {wl w3 : World} {T n c g : Nat} {ts : List HT} {pl σ : List Nat} (hn : n = ts.length) (HL : Blk wl T 169 #[.slice (some ⟨g, 0, none⟩) n c]) (HO : wl.ownsRow T 170 1 (.slice (some ⟨g, 0, none⟩) n c) n (PP pl)) (HR : Roots wl ts pl)
    (h : SR wl w3 T g c n n (fun i => pl.getD i 0) (fun i => (ts.getD i default).w) (List.range n) σ) (hTl : T ≤ wl.heap.size) (hlt : T < wl.heap.size) :
    Qs (w3.alloc (.cells #[.slice none 0 0] 169)) T T w3.heap.size (pick ts σ) [] ∧ KeepF wl (w3.alloc (.cells #[.slice none 0 0] 169)) ∧ Below T wl (w3.alloc (.cells #[.slice none 0 0] 169)) ∧ (pick ts σ).Perm ts := by
  obtain ⟨f1, f2, f3, f4, f5⟩ := sr_end hn HO HR h hTl
  have hlen : (pick ts σ).length = n := by simp [pick, h.dlen]
  have hb3 : Blk w3 T 169 #[.slice (some ⟨g, 0, none⟩) n c] := HL.gb h.gb (fun e => own_blk_ne HO HL (by decide) e.symm)
  have h3 := h.gb.size
  refine ⟨⟨.slice (some ⟨g, 0, none⟩) (pick ts σ).length c, .slice none 0 0, _, [], ⟨?_, Blk.new _ _ _, by omega, f1.alloc _, ⟨rfl, .inl ⟨rfl, rfl⟩⟩, .inr (by simp [Value.ownBlock]), f2.keep ((KeepF.refl w3).alloc _).n, trivial, Nat.le_refl _, by omega⟩⟩, f3.alloc _, f4.alloc (by omega) _, f5⟩
  rw [hlen]
  exact hb3.alloc _
def MeasPost (w : World) (gl : Nat) (pre post used0 : List Nat) (goal : List Nat) (e : Ending) (w' : World) : Prop :=
  e = .returned (.tuple #[]) ∧ Blk w' gl 85 (IA (pre ++ goal ++ post)) ∧ w.grownBy w' (some gl) ∧ OkRow used0 goal
set_option maxHeartbeats 4000000 in
theorem measure_any (w : World) (gu cu gl cr N : Nat) (used pre row post : List Nat) (hN : 1 ≤ N) (hN2 : N ≤ 300) (hu : used.length = N) (hr : row.length = N) (hcu : N ≤ cu) (hcu2 : cu ≤ 1000000) (hsum : used.sum ≤ 100000)
    (hU : UsedAt w gu used) (hB : Blk w gl 85 (IA (pre ++ row ++ post))) :
    Calls Tryd.prog 76 #[.slice (some ⟨gu, 0, none⟩) N cu, .slice (some ⟨gl, pre.length, none⟩) N cr] w fun e w' =>
      MeasPost w gl pre post used (measP srtP (used.sum + 1) used (List.replicate N 0)) e w' := by
  obtain ⟨i5, hi5, hz50, hz51, hz52⟩ := info_parts info169
  have hclr : ∀ ty, (Builtin.clear_ #[36] ty #[.slice (some ⟨gl, pre.length, none⟩) N cr]).run Tryd.prog w = .ok (.tuple #[]) (w.setCells gl pre.length (List.replicate N (.int .i64 0))) :=
    fun ty => Lib.run_clear_slice w 36 3 ty (.int .i64 0) Tryd.underlying36 zero3 rfl rfl gl pre.length N cr (by omega) (fun j hj => by rw [hB.cell, IA_at _ _ _ _ (by omega)]; rfl) (fun j _ => hB.frozen _)
  have HB1 : Hid (Blk (w.setCells gl pre.length (List.replicate N (.int .i64 0))) gl 85 (IA (pre ++ List.replicate N 0 ++ post))) := by
    have := blk_setCells gl 85 row (List.replicate N 0) pre post w (by simp [hr]) hB
    rw [I_zeros] at this
    exact this
  have HG1 : Hid (w.grownBy (w.setCells gl pre.length (List.replicate N (.int .i64 0))) (some gl)) := below_setCells2 gl _ _ _
  have HU1 : Hid (UsedAt (w.setCells gl pre.length (List.replicate N (.int .i64 0))) gu used) := by
    refine hU.keep fun t cs _ _ h3 hb => hb.gb HG1.out (fun e => ?_)
    exact Blk.ne_ hb hB h3 (Option.some.inj e)
  have HGo : Hid (measP srtP (used.sum + 1) used (List.replicate N 0) = measP srtP (used.sum + 1) used (List.replicate N 0)) := rfl
  generalize hgo : measP srtP (used.sum + 1) used (List.replicate N 0) = goal at *
  have HGOAL := Lib.hid hgo
  generalize hw1 : w.setCells gl pre.length (List.replicate N (.int .i64 0)) = w1 at *
  have hs1 : w.heap.size ≤ w1.heap.size := HG1.out.size
  clear hgo hw1 HGo hU
  go_enter Tryd.func76, Tryd.ntmps76
  go_wp2_with fail
  have hglt : gl < w.heap.size := hB.lt
  have hu0 := Lib.hid hu
  go_loopg [0] (used.sum + 1) (fun f vu wr => MRel w gl N pre post used goal f vu wr)
  case atStart => exact ⟨gu, cu, used, List.replicate N 0, rfl, hcu, hcu2, hu, by simp, by omega, hsum, HGOAL, HU1, HB1, HG1, (fun s _ => getD_replicate0 _ _), (fun _ => Iff.rfl), hs1, hglt⟩
  case round =>
    clear HU1 HB1 HG1 hs1 hclr HGOAL hu hcu hcu2 hsum hr hB hglt
    obtain ⟨gu, cu, ud, row, rfl, q1, q2, q3, q4, q5, q6, HE, HU, HB, HG, HZ, HI, q7, q8⟩ := hrel
    obtain ⟨f, rfl⟩ : ∃ k, gk = k + 1 := ⟨gk - 1, by omega⟩
    obtain ⟨wo, rfl⟩ : ∃ z : World, z = wr := ⟨_, rfl⟩
    obtain ⟨T, hT⟩ : ∃ T, T = wo.heap.size := ⟨_, rfl⟩
    have HTT := Lib.hid hT
    go_wp2_with fail
    have HL0 : Hid (Blk (wo.alloc (.cells #[.slice none 0 0] 169)) T 169 #[.slice none 0 0]) := by unfold Hid; rw [HTT.out]; exact Blk.new _ _ _
    have HK0 : Hid (KeepF wo (wo.alloc (.cells #[.slice none 0 0] 169))) := (KeepF.refl _).alloc _
    have HS0 : Hid (Below T wo (wo.alloc (.cells #[.slice none 0 0] 169))) := by unfold Hid; rw [HTT.out]; exact (Below.refl _ _).alloc (Nat.le_refl _) _
    have hs0 : T ≤ (wo.alloc (.cells #[.slice none 0 0] 169)).heap.size := by rw [HTT.out]; simp
    rw [← hT]
    clear hT
    generalize wo.alloc (.cells #[.slice none 0 0] 169) = w2 at *
    go_loopw [17] (fun v17 wl => LvRel wo T T ud v17 wl) (fun v17 _ => N - (intOf v17).toNat)
    case atStart => exact ⟨0, 0, _, [], by omega, rfl, rfl, HL0, World.ownsRow_nil _ _ _ _, trivial, HK0, HS0, hs0⟩
    case round =>
      clear HL0 HK0 HS0 hs0
      obtain ⟨s, n, vl, pl, p1, rfl, p3, HL, HO, HR, HK, HS, p4⟩ := hrel
      obtain ⟨A, c, rfl⟩ := own_shape HO.out
      have hcl := HL.out.cell 0
      simp at hcl
      have hfl := HL.out.frozen 0
      have P3 := Lib.hid p3
      have hn300 : n ≤ 300 := by have := lvs_len ud s; omega
      by_cases hs : s < N
      · have hd : decide ((s : Int) < (N : Int)) = true := decide_eq_true (by omega)
        obtain ⟨x, hx⟩ : ∃ x, x = ud.getD s 0 := ⟨_, rfl⟩
        have hcu := (HU.out.keepF HK.out).cell (j := s) (by omega)
        rw [← hx] at hcu
        have HX := Lib.hid hx
        have hxb : x ≤ 100000 := by rw [hx]; exact Nat.le_trans (getD_le_sum ud s) q6
        clear hx p3
        by_cases hx0 : 0 < x
        · have hdx : decide ((x : Int) > 0) = true := decide_eq_true (by omega)
          go_wp2_with (first
            | (at_builtin
               refine wpList_push (wr.alloc (.cells #[.int .i64 (x : Int), .int .i64 (s : Int), .pointer none, .pointer none] 172)) rfl (.tmp 24) (.tmp 29) 169 rfl T 170 i5 (.pointer none) 8 Tryd.underlying169 hi5 hz50 hz51 hz52 rfl A n c (PP pl) rfl (HO.out.alloc _) (Ptr wr.heap.size) _ rfl (by simp [Act.eval]) (by omega) (by unfold maxLen; omega) (by simp; omega) ?_
               intro A2 c2 w3 hown2 hg2
               obtain ⟨k1, k2, k3⟩ := lv_step HX.out hx0 P3.out HL.out HO.out HR.out HK.out HS.out p4 (Nat.le_refl T) hown2 hg2
               have K3 := Lib.hid k3
               clear hown2 hg2 k3)
            | fail)
          go_roundw
          case rel => exact K3.out (by omega)
          case measure => simp [intOf]; omega
        · have hdx : decide ((x : Int) > 0) = false := decide_eq_false (by omega)
          have K3 : Hid (LvRel wo T T ud (.int .i64 ((s + 1 : Nat) : Int)) wr) := lv_skip (by rw [← HX.out]; exact hx0) P3.out (by omega) HL.out HO.out HR.out HK.out HS.out p4
          go_wp2_with fail
          go_roundw
          case rel => exact K3.out
          case measure => simp [intOf]; omega
      · have hd : decide ((s : Int) < (N : Int)) = false := decide_eq_false (by omega)
        have hsN : s = ud.length := by omega
        rw [hsN] at HR P3
        clear p3 hsN
        have HF : Hid (∀ w', Blk w' gl 85 (IA (pre ++ goal ++ post)) → w.grownBy w' (some gl) → OkRow ud goal → MeasPost w gl pre post used goal (.returned (.tuple #[])) w') :=
          fun w' h1 h2 h3 => ⟨rfl, h1, h2, h3.of_iff (by rw [q3, hu0.out]) HI.out⟩
        have hGw : Hid (∀ w', Below T wo w' → w.grownBy w' (some gl)) := by
          intro w' hb
          have hb2 : Below wo.heap.size wo w' := by rw [← HTT.out]; exact hb
          exact gb_trans HG.out (gb_of_below hb2 _)
        by_cases hn0 : n = 0
        · subst hn0
          have he : Hid (row = goal ∧ OkRow ud goal) := by
            have hz : lvs ud ud.length = [] := List.eq_nil_of_length_eq_zero P3.out.symm
            have e1 : row = goal := by
              have := HE.out
              rw [measP, hz, if_pos (show ([] : List HT).length = 0 from rfl)] at this
              exact this
            have e2 : row = List.replicate ud.length 0 := by
              refine list_ext_getD (by simp; omega) fun i => ?_
              rw [getD_replicate0]
              exact HZ.out i ((okRow_none ud hz).zero i |>.1 (getD_replicate0 _ _))
            refine ⟨e1, ?_⟩
            rw [← e1, e2]
            exact okRow_none ud hz
          have HB2 : Hid (Blk wr gl 85 (IA (pre ++ goal ++ post))) := by
            have := HK.out gl 85 _ (by decide) (by decide) HB.out
            rw [he.out.1] at this
            exact this
          go_wp2_with fail
          (try simp only [Exit.inBlock, Exit.then])
          refine bodyPost_ret (results_none rfl _ _ _) rfl ?_
          exact HF.out _ HB2.out (hGw.out _ HS.out) he.out.2
        · have hn0b : ((n : Int) == 0) = false := beq_eq_false_iff_ne.2 (by omega)
          have HO2 := HO.out.2
          rcases HO2 with ⟨hv, h0⟩ | ⟨g, c', cur, hv, hg1, hg2, hnc, hcm, hcs, hct⟩
          · omega
          · injection hv with hv1 hv2 hv3
            subst hv1 hv3
            clear hg1 hg2 hcs hct hv2
            by_cases hn1 : n = 1
            · subst hn1
              obtain ⟨s0, hs0, hlv, hoth⟩ := one_leaf P3.out rfl
              rw [hlv] at HR
              match pl, HR.out.len, HR.out, HO with
              | [p0], _, hR, HO =>
                have hnode : Blk wr p0 172 #[.int .i64 (ud.getD s0 0 : Int), .int .i64 (s0 : Int), .pointer none, .pointer none] := hR.1
                have hc0 := HO.out.cellAt 0 (by omega)
                have hp1 := hnode.cell 1
                simp [PP] at hc0 hp1
                have hrl : s0 < row.length := by omega
                have HBn := HK.out gl 85 _ (by decide) (by decide) HB.out
                have hcr := HBn.cell (pre.length + s0)
                rw [IA_at _ _ _ _ hrl] at hcr
                have hfr := HBn.frozen (pre.length + s0)
                have HB2 : Hid (Blk (wr.setCell ⟨gl, pre.length + s0, none⟩ (.int .i64 1)) gl 85 (IA (pre ++ row.set s0 1 ++ post))) := by
                  unfold Hid
                  rw [← IA_set _ _ _ _ _ hrl]
                  exact HBn.set_ _ _
                have hs0N : s0 < N := by omega
                have he : Hid (row.set s0 1 = goal ∧ OkRow ud goal) := by
                  have e1 : row.set s0 1 = goal := by
                    have := HE.out
                    rw [measP, hlv, if_neg (by simp), if_pos (show [HT.leaf (ud.getD s0 0) s0].length = 1 from rfl)] at this
                    exact this
                  refine ⟨e1, ?_⟩
                  rw [← e1, set_zeros (u := ud) (by omega) (fun s hs => HZ.out s (hoth s hs))]
                  exact okRow_one ud _ s0 hlv
                have HGG : Hid (w.grownBy (wr.setCell ⟨gl, pre.length + s0, none⟩ (.int .i64 1)) (some gl)) := gb_set (hGw.out _ HS.out) (.inl rfl) _
                clear hR hnode HBn hrl
                go_wp2_with fail
                (try simp only [Exit.inBlock, Exit.then])
                refine bodyPost_ret (results_none rfl _ _ _) rfl ?_
                exact HF.out _ (by rw [← he.out.1]; exact HB2.out) HGG.out he.out.2
            · have hn1b : ((n : Int) == 1) = false := beq_eq_false_iff_ne.2 (by omega)
              have hn2 : 2 ≤ n := by omega
              have HSR : Hid (SR wr wr T g c n n (fun i => pl.getD i 0) (fun i => ((lvs ud ud.length).getD i default).w) (List.range n) (List.range n)) :=
                sr_start P3.out HO.out HR.out (fun t ht => Nat.le_trans (w_le_wsum _ t ht) (Nat.le_trans (lvs_w ud _) (by omega)))
              clear hn0 hn1
              go_wp2_with fail
              refine (sort_any wr wr T g c n n _ _ _ _ HSR.out (by omega)).mono ?_
              rintro e w3 ⟨rfl, hS3⟩
              have HE3 : Hid (stableP (fun i => ((lvs ud ud.length).getD i default).w) n (List.range n) = srtP (lvs ud ud.length)) := by unfold Hid srtP; rw [← P3.out]
              rw [HE3.out] at hS3
              obtain ⟨g1, g2, g3, g4⟩ := qs_start P3.out HL.out HO.out HR.out hS3 p4 HL.out.lt
              have HQ0 := Lib.hid g1
              have HK0 := Lib.hid (HK.out.trans g2)
              have HS0 := Lib.hid (HS.out.trans g3)
              have HPM := Lib.hid g4
              clear g1 g2 g3 g4 hS3 HSR HO HR HL
              go_wp2_with fail
              obtain ⟨bm, hbm⟩ : ∃ b, b = w3.heap.size := ⟨_, rfl⟩
              rw [← hbm] at HQ0 ⊢
              clear hbm
              generalize hw4 : w3.alloc (.cells #[.slice none 0 0] 169) = w4 at *
              have hs4 : T ≤ w4.heap.size := by have := HS0.out.size; rw [← HTT.out] at this; exact this
              clear hw4
              generalize hts : pick (lvs ud ud.length) (srtP (lvs ud ud.length)) = ts at *
              have hl2 : 2 ≤ ts.length := by rw [HPM.out.length_eq, ← P3.out]; exact hn2
              have hl3 : ts.length ≤ 300 := by rw [HPM.out.length_eq, ← P3.out]; exact hn300
              have HTS := Lib.hid hts
              clear hts
              obtain ⟨htop, _⟩ := topOf_syms ts hl2
              have HTOP := Lib.hid htop
              have HW0 : Hid (wsum (ts ++ []) ≤ 100000) := by
                unfold Hid
                rw [List.append_nil, wsum_perm HPM.out]
                exact Nat.le_trans (lvs_w ud _) q6
              clear htop
              go_loopg [] ts.length (fun f wr => QRel wo T bm (topOf ts) f wr)
              case atStart => exact ⟨ts, [], HQ0, HTOP, by simp, by simp; omega, HW0, HK0, HS0, hs4⟩
              case round =>
                clear HQ0 HTOP HW0 HK0 HS0 hs4
                obtain ⟨l, made, HQ, HM, m1, m2, HW, HK, HS, m3⟩ := hrel
                obtain ⟨vl, vm, pl, pm, hq⟩ := HQ.out
                obtain ⟨Al, cl, rfl⟩ := hq.fl.shape
                obtain ⟨Am, cm, rfl⟩ := hq.fm.shape
                have hcl := hq.hl.cell 0
                have hcm := hq.hm.cell 0
                simp at hcl hcm
                obtain ⟨n1, hn1⟩ : ∃ n, n = l.length := ⟨_, rfl⟩
                obtain ⟨n2, hn2'⟩ : ∃ n, n = made.length := ⟨_, rfl⟩
                rw [← hn1] at hcl
                rw [← hn2'] at hcm
                by_cases h1 : 1 < l.length + made.length
                · have hsd : decide ((n1 : Int) + (n2 : Int) > 1) = true := decide_eq_true (by omega)
                  have hsd2 : (1 : Int) < (n1 : Int) + (n2 : Int) := by omega
                  obtain ⟨f2, rfl⟩ : ∃ k, gk = k + 1 := ⟨gk - 1, by omega⟩
                  have hM := HM.out
                  rw [mergeQ, if_pos h1] at hM
                  have lx := least_len l made (by omega)
                  have sx := least_wsum l made (by omega)
                  have hW := HW.out
                  rw [sx] at hW
                  have HWA : Hid (∀ t ∈ l ++ made, t.w ≤ 100000000) := fun t ht => Nat.le_trans (w_le_wsum _ t ht) (by have := HW.out; omega)
                  have hb1 : n1 ≤ 1000 ∧ n2 ≤ 1000 := by omega
                  clear hq hM
                  have HM2 : Hid (mergeQ f2 (least (least l made).2.1 (least l made).2.2).2.1 ((least (least l made).2.1 (least l made).2.2).2.2 ++ [.node ((least l made).1.w + (least (least l made).2.1 (least l made).2.2).1.w) (least l made).1 (least (least l made).2.1 (least l made).2.2).1]) = [topOf ts]) := by
                    have hM := HM.out
                    rw [mergeQ, if_pos h1] at hM
                    exact hM
                  go_wp2_with fail
                  refine (least_any wr T T bm l made HQ.out (by omega) HWA.out m2).mono ?_
                  rintro e w5 ⟨pa, rfl, hna, hq5, hk5, hs5⟩
                  have HNA := Lib.hid hna
                  have HQ5 := Lib.hid hq5
                  have HK5 := Lib.hid (HK.out.trans hk5)
                  have HS5 := Lib.hid (HS.out.trans hs5)
                  have m5 : T ≤ w5.heap.size := Nat.le_trans m3 hs5.size
                  clear hna hq5 hk5 hs5 HQ HM HK HS
                  generalize least l made = x at *
                  have ly := least_len x.2.1 x.2.2 (by omega)
                  have sy := least_wsum x.2.1 x.2.2 (by omega)
                  rw [sy] at hW
                  have hwx : x.1.w ≤ 100000 := by omega
                  have HWB : Hid (∀ t ∈ x.2.1 ++ x.2.2, t.w ≤ 100000000) := fun t ht => Nat.le_trans (w_le_wsum _ t ht) (by omega)
                  go_wp2_with fail
                  refine (least_any w5 T T bm x.2.1 x.2.2 HQ5.out (by omega) HWB.out (by omega)).mono ?_
                  rintro e w6 ⟨pb, rfl, hnb, hq6, hk6, hs6⟩
                  have HNA6 := Lib.hid (HNA.out.keep hk6.n)
                  have HNB := Lib.hid hnb
                  have HQ6 := Lib.hid hq6
                  have HK6 := Lib.hid (HK5.out.trans hk6)
                  have HS6 := Lib.hid (HS5.out.trans hs6)
                  have m6 : T ≤ w6.heap.size := Nat.le_trans m5 hs6.size
                  clear hnb hq6 hk6 hs6 HQ5 HNA HK5 HS5
                  generalize least x.2.1 x.2.2 = y at *
                  have hwy : y.1.w ≤ 100000 := by omega
                  obtain ⟨vl, vm, pl6, pm6, hq⟩ := HQ6.out
                  obtain ⟨Am, cm, rfl⟩ := hq.fm.shape
                  have hca := HNA6.out.w.1
                  have hcb := HNB.out.w.1
                  have hcm := hq.hm.cell 0
                  simp at hcm
                  have HQ7 := Lib.hid hq
                  clear hq
                  obtain ⟨wa, hwa⟩ : ∃ z, z = x.1.w := ⟨_, rfl⟩
                  obtain ⟨wb, hwb⟩ : ∃ z, z = y.1.w := ⟨_, rfl⟩
                  obtain ⟨n3, hn3⟩ : ∃ z, z = y.2.2.length := ⟨_, rfl⟩
                  obtain ⟨wz, hwz⟩ : ∃ z, z = wa + wb := ⟨_, rfl⟩
                  rw [← hwa] at hca
                  rw [← hwb] at hcb
                  rw [← hn3] at hcm
                  have ewz : (wa : Int) + (wb : Int) = (wz : Int) := by omega
                  have hwzw : IntKind.i64.wrap (wz : Int) = (wz : Int) := wraps_i64 _ (by omega) (by omega)
                  have hn3b : n3 ≤ 1000 := by omega
                  have HF7 : Hid (Fs (w6.drew.alloc (.cells #[.int .i64 (wz : Int), .int .i64 0, .pointer (some ⟨pa, 0, none⟩), .pointer (some ⟨pb, 0, none⟩)] 172)) T 170 (.slice Am n3 cm) n3 (PP pm6)) := by
                    rw [hn3]
                    exact (HQ7.out.fm.drewN 1).alloc _
                  have HMK : Hid (∀ A2 c2 w7, Fs w7 T 170 (.slice A2 (n3 + 1) c2) (n3 + 1) (PP pm6 ++ [Ptr w6.heap.size]) →
                      (w6.drew.alloc (.cells #[.int .i64 (wz : Int), .int .i64 0, .pointer (some ⟨pa, 0, none⟩), .pointer (some ⟨pb, 0, none⟩)] 172)).grownBy w7 (Value.slice Am n3 cm).ownBlock →
                      ((Value.slice A2 (n3 + 1) c2).ownBlock = (Value.slice Am n3 cm).ownBlock ∨ ∀ q, (Value.slice A2 (n3 + 1) c2).ownBlock = some q → (w6.drew.alloc (.cells #[.int .i64 (wz : Int), .int .i64 0, .pointer (some ⟨pa, 0, none⟩), .pointer (some ⟨pb, 0, none⟩)] 172)).heap.size ≤ q) →
                      w7.cell? ⟨bm, 0, none⟩ = some (.slice Am n3 cm) ∧ w7.frozen? ⟨bm, 0, none⟩ = false ∧
                        (0 ≤ f2 → QRel wo T bm (topOf ts) f2 (w7.setCell ⟨bm, 0, none⟩ (.slice A2 (n3 + 1) c2)))) := by
                    intro A2 c2 w7 e1 e2 e3
                    subst hn3 hwz
                    rw [hwa, hwb] at e2 e3
                    obtain ⟨⟨a1, a2, _⟩, a4⟩ := mk_step HQ7.out HNA6.out HNB.out m6 e1 e2 e3
                    obtain ⟨b1, b2, b3⟩ := a4 0
                    refine ⟨a1, a2, fun _ => ?_⟩
                    refine ⟨_, _, b1, HM2.out, by simp; omega, by simp; omega, ?_, HK6.out.trans b2, HS6.out.trans b3, Nat.le_trans m6 b3.size⟩
                    unfold Hid
                    have e5 : wsum (y.2.1 ++ (y.2.2 ++ [HT.node (x.1.w + y.1.w) x.1 y.1])) = wsum (y.2.1 ++ y.2.2) + (x.1.w + y.1.w) := by simp [wsum, HT.w]; omega
                    rw [e5]
                    omega
                  have k1c : (w6.alloc (.cells #[.int .i64 (wz : Int), .int .i64 0, .pointer (some ⟨pa, 0, none⟩), .pointer (some ⟨pb, 0, none⟩)] 172)).cell? ⟨bm, 0, none⟩ = some (.slice Am n3 cm) := Lib.cell?_alloc_some _ hcm
                  have k2c : ((w6.alloc (.cells #[.int .i64 (wz : Int), .int .i64 0, .pointer (some ⟨pa, 0, none⟩), .pointer (some ⟨pb, 0, none⟩)] 172)).alloc (.cells #[.pointer (some ⟨w6.heap.size, 0, none⟩)] 170)).cell? ⟨bm, 0, none⟩ = some (.slice Am n3 cm) := Lib.cell?_alloc_some _ k1c
                  have k1b : (w6.drew.alloc (.cells #[.int .i64 (wz : Int), .int .i64 0, .pointer (some ⟨pa, 0, none⟩), .pointer (some ⟨pb, 0, none⟩)] 172)).cell? ⟨bm, 0, none⟩ = some (.slice Am n3 cm) := Lib.cell?_alloc_some _ hcm
                  have k2b : ((w6.drew.alloc (.cells #[.int .i64 (wz : Int), .int .i64 0, .pointer (some ⟨pa, 0, none⟩), .pointer (some ⟨pb, 0, none⟩)] 172)).alloc (.cells #[.pointer (some ⟨w6.heap.size, 0, none⟩)] 170)).cell? ⟨bm, 0, none⟩ = some (.slice Am n3 cm) := Lib.cell?_alloc_some _ k1b
                  clear hwa hwb hn3 hwz
                  go_wp2_with fail
                  go_region_law (first
                    | (refine step_pushF (w6.drew.alloc (.cells #[.int .i64 (wz : Int), .int .i64 0, .pointer (some ⟨pa, 0, none⟩), .pointer (some ⟨pb, 0, none⟩)] 172)) (by rfl) (.tmp 59) (.tmp 73) 169 (by rfl) T 170 i5 (.pointer none) 8 Tryd.underlying169 hi5 hz50 hz51 hz52 rfl Am n3 cm (PP pm6) (by rfl) HF7.out (Ptr w6.heap.size) 170 rfl (by simp [Act.eval]) (by omega) (by unfold maxLen; omega) (by simp; omega) ?_
                       intro A2 c2 w7 hf7 hg7 hnew7
                       obtain ⟨k3b, k4, k5⟩ := HMK.out A2 c2 w7 hf7 hg7 hnew7
                       have K5 := Lib.hid k5
                       clear hf7 hg7 hnew7 k5))
                  all_goals
                    go_wp2_with fail
                    go_roundg f2
                    case rel => exact K5.out (Nat.zero_le _)
                    case measure => omega
                · have hsd : decide ((n1 : Int) + (n2 : Int) > 1) = false := decide_eq_false (by omega)
                  have hsd2 : ¬ (1 : Int) < (n1 : Int) + (n2 : Int) := by omega
                  have hmd : made = [topOf ts] := by
                    have hM := HM.out
                    cases gk with
                    | zero => exact hM
                    | succ k => rw [mergeQ, if_neg h1] at hM; exact hM
                  subst hmd
                  have hn21 : n2 = 1 := by simp at hn2'; exact hn2'
                  subst hn21
                  match pm, hq.rm.len, hq with
                  | [p0], _, hq =>
                    have hnt := hq.rm.1
                    have hfm := hq.fm
                    obtain ⟨gm, om, rfl, hc0, _, hmc, _⟩ := hfm.head
                    have hmc1 : 1 ≤ cm := by simpa using hmc
                    have HB3 := Lib.hid (HK.out gl 85 _ (by decide) (by decide) HB.out)
                    have HD : Hid (Calls Tryd.prog 98 #[Ptr p0, .int .i64 0, .slice (some ⟨gl, pre.length, none⟩) N cr] wr fun e w' => DepthPost wr gl pre row post (topOf ts) 0 e w') := by
                      have hsy : ∀ s ∈ (topOf ts).syms, s < ud.length := by
                        intro s hs
                        have h2 := (topOf_syms ts hl2).2.symm.mem_iff.1 hs
                        exact (((lvs_syms ud ud.length).2 s).1 ((symsL_perm HPM.out).mem_iff.1 h2)).1
                      have hhi := high_lt (topOf ts)
                      have hsl := (topOf_syms ts hl2).2.length_eq
                      have hsl2 := symsL_leaf ts (fun t ht => by obtain ⟨i, _, _, e⟩ := lvs_mem _ _ t (HPM.out.mem_iff.1 ht); exact ⟨_, _, e⟩)
                      have := depth_any (topOf ts) wr p0 0 gl cr pre row post hnt HB3.out (fun s hs => by have := hsy s hs; omega) (by omega)
                      rw [q4] at this
                      exact this
                    have HDP := Lib.hid (show ∀ e w', DepthPost wr gl pre row post (topOf ts) 0 e w' → e = .returned (.int .i64 ((topOf ts).deep 0 : Int)) ∧ Blk w' gl 85 (IA (pre ++ (topOf ts).put 0 row ++ post)) ∧ wr.grownBy w' (some gl) from fun _ _ h => h)
                    generalize hdp : (topOf ts).deep 0 = dp at *
                    have hdpb : dp ≤ 1000000 := by
                      have hhi := high_lt (topOf ts)
                      have hsl := (topOf_syms ts hl2).2.length_eq
                      have hsl2 := symsL_leaf ts (fun t ht => by obtain ⟨i, _, _, e⟩ := lvs_mem _ _ t (HPM.out.mem_iff.1 ht); exact ⟨_, _, e⟩)
                      rw [← hdp, deep_high]
                      omega
                    have HDPV := Lib.hid hdp
                    have hn10 : n1 = 0 := by simp at h1; omega
                    subst hn10
                    clear hq hnt hfm hdp h1 m1 m2 hn1 hn2' hmc HM HQ HW hsd hsd2
                    go_wp2_with fail
                    refine HD.out.mono ?_
                    intro e w7 hdpost
                    obtain ⟨rfl, hB7, hG7⟩ := HDP.out _ _ hdpost
                    have HB7 := Lib.hid hB7
                    have HG7w := Lib.hid hG7
                    have HG7 : Hid (w.grownBy w7 (some gl)) := gb_trans (hGw.out _ HS.out) hG7
                    clear hdpost hB7 hG7
                    by_cases hd15 : dp ≤ 15
                    · have hdd : decide ((dp : Int) ≤ 15) = true := decide_eq_true (by omega)
                      have he : Hid ((topOf ts).put 0 row = goal ∧ OkRow ud goal) := by
                        have e1 : (topOf ts).put 0 row = goal := by
                          have := HE.out
                          have hlen := HPM.out.length_eq
                          rw [measP, HTS.out, if_neg (by omega), if_neg (by omega), if_pos (by rw [HDPV.out]; exact hd15)] at this
                          exact this
                        refine ⟨e1, ?_⟩
                        rw [← e1]
                        exact okRow_tree ud row ts HPM.out hl2 (by rw [HDPV.out]; exact hd15) (by omega) HZ.out
                      go_wp2_with fail
                      (try simp only [Exit.inBlock, Exit.then])
                      refine bodyPost_ret (results_none rfl _ _ _) rfl ?_
                      exact HF.out _ (by rw [← he.out.1]; exact HB7.out) HG7.out he.out.2
                    · have hdd : decide ((dp : Int) ≤ 15) = false := decide_eq_false (by omega)
                      have HD15 : Hid (¬ (topOf ts).deep 0 ≤ 15) := by unfold Hid; rw [HDPV.out]; exact hd15
                      obtain ⟨i3, hi3, hz30, hz31, hz32⟩ := info_parts info3
                      have hglw : gl < w7.heap.size := HB7.out.lt
                      go_wp2_with (first
                        | (refine wpList_make_full w7 rfl (.tmp 82) (.tmp 82) 36 rfl w7.heap.size 3 i3 _ 1 Tryd.underlying36 hi3 hz30 hz31 .i64 .i64 N N N rfl rfl rfl rfl (by rw [hz32]; omega) (by unfold maxLen; omega) (Nat.le_refl _) ?_
                           intro w8 hown8 hg8
                           have HO8 := Lib.hid hown8
                           have HG8 := Lib.hid hg8
                           clear hown8 hg8)
                        | fail)
                      obtain ⟨gf, hgf⟩ : ∃ g, g = w7.heap.size := ⟨_, rfl⟩
                      have HO8' : Hid (w8.ownsRow gf 3 1 (.slice (some ⟨gf, 0, none⟩) N N) N (I ((half ud).take 0 ++ List.replicate (N - 0) 0))) := by
                        have := HO8.out
                        rw [← hgf] at this
                        have e : (madeCells (Value.cells (.int .i64 0)) (N * 1)).toList = I ((half ud).take 0 ++ List.replicate (N - 0) 0) := by
                          simp [madeCells, I, Value.cells]
                          apply List.ext_getElem (by simp)
                          intro i h1 h2
                          simp [Nat.mod_one]
                        rw [e] at this
                        exact this
                      have HU7 : Hid (UsedAt w7 gu ud ∧ gu < w7.heap.size) := by
                        have h1 := HU.out.keepF HK.out
                        have h2 : UsedAt w7 gu ud := h1.keep fun t cs _ _ h3 hb => hb.gb HG7w.out (fun e => Blk.ne_ hb HB3.out h3 (Option.some.inj e))
                        have h3 := h2
                        obtain ⟨t, cs, _, _, _, hb, _⟩ := h3
                        exact ⟨h2, hb.lt⟩
                      have HU8 : Hid (UsedAt w8 gu ud) := HU7.out.1.keep fun t cs _ _ _ hb => hb.gb HG8.out (by simp)
                      have HB8 : Hid (Blk w8 gl 85 (IA (pre ++ (topOf ts).put 0 row ++ post))) := HB7.out.gb HG8.out (by simp)
                      have HG8w : Hid (w.grownBy w8 (some gl)) := gb_trans HG7.out (gb_none HG8.out)
                      have hne1 : gu ≠ gf := by have := HU7.out.2; omega
                      have hne2 : gl ≠ gf := by omega
                      have hgw : w.heap.size ≤ gf := by have := HG7.out.size; omega
                      rw [← hgf]
                      clear hgf
                      have hcu2 : N ≤ cu := q1
                      go_wp2_with fail
                      go_loopw [86] (fun v wl => FlRel w8 gf N (half ud) v wl) (fun v _ => N - (intOf v).toNat)
                      case atStart => exact ⟨0, by omega, rfl, HO8', gb_refl _ _⟩
                      case round =>
                        obtain ⟨k, p5, rfl, HOk, HGk⟩ := hrel
                        have HUk : Hid (UsedAt wr gu ud) := HU8.out.keep fun t cs _ _ _ hb => hb.gb HGk.out (fun e => hne1 (Option.some.inj e))
                        by_cases hkN : k < N
                        · have hkd : decide ((k : Int) < (N : Int)) = true := decide_eq_true (by omega)
                          obtain ⟨x, hx⟩ : ∃ x, x = ud.getD k 0 := ⟨_, rfl⟩
                          have hxb : x ≤ 100000 := by rw [hx]; exact Nat.le_trans (getD_le_sum ud k) q6
                          have hcx := HUk.out.cell (j := k) (by omega)
                          rw [← hx] at hcx
                          obtain ⟨y, hy⟩ : ∃ y, y = (x + 1) / 2 := ⟨_, rfl⟩
                          have ey : ((x : Int) + 1) / 2 = (y : Int) := by omega
                          have ey2 : ((x : Int) + 1).tdiv 2 = (y : Int) := by rw [Int.tdiv_eq_ediv_of_nonneg (by omega)]; omega
                          obtain ⟨uc, huc, hfc, _⟩ := own_cell HOk.out hkN
                          have HST := Lib.hid (fl_step (y := y) hkN (by rw [half_length, q3]) (by rw [half_get, ← hx, hy]) HOk.out HGk.out)
                          clear hx hy
                          go_wp2_with fail
                          go_roundw
                          case rel => exact HST.out
                          case measure => simp [intOf]; omega
                        · have hkd : decide ((k : Int) < (N : Int)) = false := decide_eq_false (by omega)
                          have hkN2 : k = N := by omega
                          rw [hkN2] at HOk
                          have HUF : Hid (UsedAt wr gf (half ud)) := fl_end (by rw [half_length, q3]) HOk.out
                          have HBk : Hid (Blk wr gl 85 (IA (pre ++ (topOf ts).put 0 row ++ post))) := HB8.out.gb HGk.out (fun e => hne2 (Option.some.inj e))
                          have HGw : Hid (w.grownBy wr (some gl)) :=
                            ⟨HGk.out.os.trans HG8w.out.os, HGk.out.tape.trans HG8w.out.tape, HGk.out.output.trans HG8w.out.output, Nat.le_trans HG8w.out.size HGk.out.size, fun i hi hn =>
                              (HGk.out.block i (Nat.lt_of_lt_of_le hi HG8w.out.size) (by simp; omega)).trans (HG8w.out.block i hi hn)⟩
                          have HNX := Lib.hid (m_next hN2 q3 q4 q5 q6 q8 HE.out HZ.out HI.out hl2 HTS.out HPM.out HD15.out HUF.out HBk.out HGw.out)
                          clear hkN2
                          go_wp2_with fail
                          go_roundg f
                          case rel => exact HNX.out
                          case measure => omega
end Go.Proofs.YtejgoienkpaabaaDoor
