/- FndC (merged: one text behind the other). -/
import Derived.Test.YtejgoienkpaabaaDoorMg25
import Derived.Deep.Cut
import Derived.Deep.CutRange
/- The contract of press.found. -/
namespace Go.Proofs.YtejgoienkpaabaaDoor
open Go.RowKit Go.Maps
set_option maxRecDepth 100000
theorem info118 : (Tryd.prog.info? 118).map (fun i => (i.zero, i.size, i.bytes)) = some (some (.agg #[.int .i64 0, .int .i64 0, .int .i64 0, .int .i64 0, .bool false]), 5, 40) := by kernel_rfl
@[go_sem] theorem build118 (s : Int) (w : World) : (Instr.build 118 #[(0, .int .i64 s)]).run Tryd.prog w = .ok (.agg #[.int .i64 s, .int .i64 0, .int .i64 0, .int .i64 0, .bool false]) w := run_build w 118 _ _ (by kernel_rfl)
/-- tokens as cells -/
def TK (ts : List Tok) : List Value := ts.flatMap fun t => (tokV t).toList
theorem TK_length (ts : List Tok) : (TK ts).length = ts.length * 5 := by
  induction ts with
  | nil => rfl
  | cons t ts ih => simp only [TK, List.flatMap_cons, List.length_append] at *; rw [ih]; simp [tokV]; omega
theorem TK_append (a b : List Tok) : TK (a ++ b) = TK a ++ TK b := by simp [TK]
theorem TK_one (t : Tok) : TK [t] = (tokV t).toList := by simp [TK]
theorem tokV_one (t : Tok) : ∀ u ∈ (tokV t).toList, u.oneCell' = true := by
  intro u hu
  simp [tokV] at hu
  rcases hu with rfl | rfl | rfl | rfl | rfl <;> rfl
/-- the world between two tokens -/
def FdRel (w1 : World) (T pb pp pl pk bm gp h o cap : Nat) (b : List UInt8) (vo vi : Value) (wr : World) : Prop :=
  ∃ (i f c n : Nat) (A : Option Addr) (ts : List Tok), i ≤ b.length ∧ vi = .int .i64 i ∧ vo = .slice A n c ∧ n ≤ i ∧ Hid (n = ts.length) ∧ b.length ≤ i + f ∧ Hid (Fst wr T pb pp pl pk bm gp h o cap b i) ∧ Hid (ts ++ fndP b f i = foundP b) ∧
    Hid (wr.ownsRow T 118 5 (.slice A n c) n (TK ts)) ∧ Hid (Below T w1 wr)
def TrRel (b : List UInt8) (i : Nat) (goal : Nat × Nat) (vl vk vp vt : Value) : Prop :=
  ∃ (k l kk : Nat) (p : Option Nat), k ≤ 64 ∧ vl = .int .i64 l ∧ vk = .int .i64 kk ∧ vp = .int .i64 (optI p) ∧ vt = .int .i64 k ∧ Hid (∀ q, p = some q → q < i ∧ q + 3 ≤ b.length) ∧ Hid (chn b i (64 - k) p l kk = goal) ∧ l ≤ 1000000
def CmRel (b : List UInt8) (q i c : Nat) (v : Value) : Prop := ∃ (n f : Nat), i + n ≤ b.length ∧ v = .int .i64 n ∧ b.length ≤ n + f ∧ Hid (cmn b q i f n = c)
def NtRel (w2 : World) (T pb pp pl pk bm gp h o cap : Nat) (b : List UInt8) (i cnt : Nat) (v : Value) (wr : World) : Prop :=
  ∃ (k : Nat), k ≤ cnt ∧ v = .int .i64 k ∧ Hid (Fst wr T pb pp pl pk bm gp h o cap b (i + k)) ∧ Hid (NB T w2 wr)
theorem found_start {w w1 : World} {h o cap n : Nat} {b : List UInt8} (hn : n = b.length) (hr : ∀ j, j < b.length → w.cell? ⟨h, o + j, none⟩ = some (.int .u8 ((b.getD j 0).toNat : Int))) (hh : h < w.heap.size)
    (ho : w1.ownsRow w.heap.size 3 1 (.slice (some ⟨(((w.alloc (.cells #[.slice (some ⟨h, o, none⟩) n cap] 22)).alloc (.map #[] 0)).alloc (.cells #[.map (some (w.heap.size + 1))] 164)).heap.size, 0, none⟩) n n) n (madeCells (Value.int .i64 0).cells (n * 1)).toList)
    (hg : (((w.alloc (.cells #[.slice (some ⟨h, o, none⟩) n cap] 22)).alloc (.map #[] 0)).alloc (.cells #[.map (some (w.heap.size + 1))] 164)).grownBy w1 none) :
    Fst ((w1.alloc (.cells #[.slice (some ⟨w.heap.size + 1 + 1 + 1, 0, none⟩) n n] 36)).alloc (.cells #[.func (.func 92) #[] #[.pointer (some ⟨w.heap.size, 0, none⟩)]] 166)) w.heap.size w.heap.size w1.heap.size (w.heap.size + 1 + 1) (w1.heap.size + 1) (w.heap.size + 1) (w.heap.size + 1 + 1 + 1) h o cap b 0 ∧
      Below w.heap.size w ((w1.alloc (.cells #[.slice (some ⟨w.heap.size + 1 + 1 + 1, 0, none⟩) n n] 36)).alloc (.cells #[.func (.func 92) #[] #[.pointer (some ⟨w.heap.size, 0, none⟩)]] 166)) := by
  subst hn
  have hb0 : Below w.heap.size w (((w.alloc (.cells #[.slice (some ⟨h, o, none⟩) b.length cap] 22)).alloc (.map #[] 0)).alloc (.cells #[.map (some (w.heap.size + 1))] 164)) :=
    (((Below.refl _ w).alloc (Nat.le_refl _) _).alloc (by simp) _).alloc (by simp; omega) _
  have hb1 : Below w.heap.size w w1 := hb0.grown hg (by simp; omega) (fun q hq => by cases hq)
  have hs1 : w.heap.size + 1 + 1 + 1 ≤ w1.heap.size := by have := hg.size; simp at this; omega
  have hb2 : Below w.heap.size w ((w1.alloc (.cells #[.slice (some ⟨w.heap.size + 1 + 1 + 1, 0, none⟩) b.length b.length] 36)).alloc (.cells #[.func (.func 92) #[] #[.pointer (some ⟨w.heap.size, 0, none⟩)]] 166)) :=
    (hb1.alloc (by omega) _).alloc (by simp; omega) _
  refine ⟨⟨List.replicate b.length 0, .map [], 0, ⟨?_, ?_, ?_, ?_, fun j hj => (hb2.cell (p := ⟨h, o + j, none⟩) hh).trans (hr j hj), ?_, ?_, MInv.start b, Nat.le_refl _, fun j hj => by omega, ⟨Nat.le_refl _, by omega, by omega, by omega, by omega⟩, by simp; omega, hh⟩⟩, hb2⟩
  · exact ((((Blk.new w 22 _).alloc _).alloc _).gb hg (by simp) |>.alloc _).alloc _
  · exact (Blk.new w1 36 _).alloc _
  · have h1 := Blk.new ((w.alloc (.cells #[.slice (some ⟨h, o, none⟩) b.length cap] 22)).alloc (.map #[] 0)) 164 #[.map (some (w.heap.size + 1))]
    have e : ((w.alloc (.cells #[.slice (some ⟨h, o, none⟩) b.length cap] 22)).alloc (.map #[] 0)).heap.size = w.heap.size + 1 + 1 := by simp
    rw [e] at h1
    exact ((h1.gb hg (by simp)).alloc _).alloc _
  · have h1 := Blk.new (w1.alloc (.cells #[.slice (some ⟨w.heap.size + 1 + 1 + 1, 0, none⟩) b.length b.length] 36)) 166 #[.func (.func 92) #[] #[.pointer (some ⟨w.heap.size, 0, none⟩)]]
    have e : (w1.alloc (.cells #[.slice (some ⟨w.heap.size + 1 + 1 + 1, 0, none⟩) b.length b.length] 36)).heap.size = w1.heap.size + 1 := by simp
    rw [e] at h1
    exact h1
  · have e : (((w.alloc (.cells #[.slice (some ⟨h, o, none⟩) b.length cap] 22)).alloc (.map #[] 0)).alloc (.cells #[.map (some (w.heap.size + 1))] 164)).heap.size = w.heap.size + 1 + 1 + 1 := by simp
    rw [e] at ho
    have e2 : (madeCells (Value.int .i64 0).cells (b.length * 1)).toList = PI (List.replicate b.length 0) := by
      simp [madeCells, PI, Value.cells]
      apply List.ext_getElem (by simp)
      intro i h1 h2
      simp [Nat.mod_one]
    rw [e2] at ho
    exact (ho.alloc _).alloc _
  · have h1 := World.ownsMap_made (w.alloc (.cells #[.slice (some ⟨h, o, none⟩) b.length cap] 22)) Tryd.prog 165 (plainElem (H := Unit) Tryd.prog 3)
    have e : (w.alloc (.cells #[.slice (some ⟨h, o, none⟩) b.length cap] 22)).heap.size = w.heap.size + 1 := by simp
    rw [e] at h1
    exact (((h1.alloc _).kept hg (by simp)).alloc _).alloc _
theorem FS.rdN {w : World} {T pb pp pl pk bm gp h o cap m i : Nat} {b : List UInt8} {pv : List Int} {D : DataW Unit} (s : FS w T pb pp pl pk bm gp h o cap b pv D m i) (k : Nat) : FS (w.drewN k) T pb pp pl pk bm gp h o cap b pv D m i := by
  have := s.grow k #[]
  rwa [Sort.grow_empty] at this
theorem FS.prev {w : World} {T pb pp pl pk bm gp h o cap m i q : Nat} {b : List UInt8} {pv : List Int} {D : DataW Unit} (s : FS w T pb pp pl pk bm gp h o cap b pv D m i) (hq : q < i) (h3 : q + 3 ≤ b.length) :
    w.cell? ⟨gp, q, none⟩ = some (.int .i64 (optI (lastB b q q))) := by
  have hl : q < pv.length := by rw [s.plen]; omega
  have h1 := s.own.cellAt q (by omega)
  rw [h1]
  have h2 := s.pvi q hq h3
  rw [← h2]
  simp [PI, List.getElem?_map, List.getElem?_eq_getElem hl, List.getD_eq_getElem?_getD]
theorem NB.drewN {T : Nat} {a b : World} (h : NB T a b) (n : Nat) : NB T a (b.drewN n) := ⟨⟨h.b.os, h.b.tape, h.b.output, h.b.size, h.b.block⟩, h.k⟩
theorem cmn_full (b : List UInt8) (p i n f : Nat) (h : b.length ≤ n + f) (hi : ¬ (i + n < b.length ∧ b.getD (p + n) 0 = b.getD (i + n) 0)) : cmn b p i f n = n := by
  cases f with
  | zero => rfl
  | succ f => rw [cmn, if_neg hi]
theorem FS.gbr {w w' : World} {T pb pp pl pk bm gp h o cap m i : Nat} {b : List UInt8} {pv : List Int} {D : DataW Unit} {row : Option Nat} (s : FS w T pb pp pl pk bm gp h o cap b pv D m i) (hg : w.grownBy w' row)
    (hr : ∀ g, row = some g → T ≤ g ∧ ∃ cur, Blk w g 118 cur) : FS w' T pb pp pl pk bm gp h o cap b pv D m i := by
  have hb : ∀ g t cs, t ≠ 118 → Blk w g t cs → Blk w' g t cs := fun g t cs ht x => x.gb hg (fun e => by
    obtain ⟨_, cur, hc⟩ := hr g e.symm
    exact Blk.ne_ x hc ht rfl)
  refine ⟨hb _ _ _ (by decide) s.bB, hb _ _ _ (by decide) s.bP, hb _ _ _ (by decide) s.bL, hb _ _ _ (by decide) s.bK, fun j hj => ?_, ?_, ?_, s.inv, s.hm, s.pvi, s.t1, Nat.le_trans s.hT hg.size, s.hlt⟩
  · have h1 := s.rd j hj
    rw [← h1]
    exact World.cell?_of_block (hg.block h (block_lt_of_cell h1) (fun e => by have := (hr h e.symm).1; have := s.hlt; omega))
  · refine s.own.kept hg ?_
    cases row with
    | none => exact .inr (by simp [Value.ownBlock])
    | some g =>
      obtain ⟨_, cur, hc⟩ := hr g rfl
      exact .inr (own_blk_ne s.own hc (by decide))
  · refine s.mp.kept hg (fun e => ?_)
    obtain ⟨_, cur, hc⟩ := hr bm e.symm
    exact ownsMap_blk s.mp hc rfl
theorem own_nb {w w' : World} {T base n : Nat} {v : Value} {xs : List Value} (h : w.ownsRow base 118 5 v n xs) (hb : NB T w w') : w'.ownsRow base 118 5 v n xs := by
  obtain ⟨h1, h2⟩ := h
  refine ⟨h1, ?_⟩
  rcases h2 with h2 | ⟨g, cap, cur, hv, hg, hh, r⟩
  · exact .inl h2
  · exact .inr ⟨g, cap, cur, hv, hg, hb.k g 118 cur (by decide) hh, r⟩
theorem own_row {w : World} {base n : Nat} {v : Value} {xs : List Value} (h : w.ownsRow base 118 5 v n xs) : ∀ g, v.ownBlock = some g → base ≤ g ∧ ∃ cur, Blk w g 118 cur := by
  intro g hg
  rcases h.2 with ⟨rfl, _⟩ | ⟨g', cap, cur, rfl, hg', hh, _⟩
  · simp [Value.ownBlock] at hg
  · simp only [Value.ownBlock, Option.some.injEq] at hg
    subst hg
    exact ⟨hg', cur, hh⟩
def TkPost (w : World) (T pb pp pl pk bm gp h o cap : Nat) (b : List UInt8) (i nt cnt : Nat) (ts : List Tok) (vo v15 : Value) (wx : World) : Prop :=
  ∃ A2 c2, vo = .slice A2 (nt + 1) c2 ∧ v15 = .int .i64 cnt ∧ Hid (wx.ownsRow T 118 5 (.slice A2 (nt + 1) c2) (nt + 1) (TK ts)) ∧ Hid (Fst wx T pb pp pl pk bm gp h o cap b i) ∧ Hid (Below T w wx)
/-- behind the append of a token -/
theorem tk_step {w w7 w8 : World} {T pb pp pl pk bm gp h o cap i nt c c2 : Nat} {b : List UInt8} {A A2 : Option Addr} {ts : List Tok} {t : Tok} (hF : Fst w7 T pb pp pl pk bm gp h o cap b i) (ho : w7.ownsRow T 118 5 (.slice A nt c) nt (TK ts)) (hb : Below T w w7)
    (hown : w8.ownsRow T 118 5 (.slice A2 (nt + 1) c2) (nt + 1) (TK ts ++ (tokV t).toList)) (hg : w7.grownBy w8 (Value.slice A nt c).ownBlock) (cnt : Nat) :
    TkPost w T pb pp pl pk bm gp h o cap b i nt cnt (ts ++ [t]) (.slice A2 (nt + 1) c2) (.int .i64 cnt) w8 := by
  obtain ⟨pv, D, m, s⟩ := hF
  refine ⟨A2, c2, rfl, rfl, ?_, ⟨pv, D, m, s.gbr hg (own_row ho)⟩, hb.grown hg s.hT (fun q hq => (own_row ho q hq).1)⟩
  unfold Hid
  rw [TK_append, TK_one]
  exact hown
def LkPost (T pb pp pl pk bm gp h o cap : Nat) (b : List UInt8) (i l k : Nat) (wr : World) (vl vk : Value) (wx : World) : Prop :=
  vl = .int .i64 l ∧ vk = .int .i64 k ∧ Fst wx T pb pp pl pk bm gp h o cap b i ∧ NB T wr wx
def FoundPost (w : World) (b : List UInt8) (e : Ending) (w' : World) : Prop :=
  ∃ A n c, e = .returned (.slice A n c) ∧ n = (foundP b).length ∧ w'.ownsRow w.heap.size 118 5 (.slice A n c) n (TK (foundP b)) ∧ Below w.heap.size w w'
set_option maxHeartbeats 4000000 in
theorem found_any (h o cap : Nat) (b : List UInt8) (w : World) (hr : ∀ j, j < b.length → w.cell? ⟨h, o + j, none⟩ = some (.int .u8 ((b.getD j 0).toNat : Int))) (hh : h < w.heap.size) (hl1 : 1 ≤ b.length) (hl : b.length ≤ 65536) :
    Calls Tryd.prog 75 #[.slice (some ⟨h, o, none⟩) b.length cap] w fun e w' => FoundPost w b e w' := by
  have hmm := @run_makeMap Tryd.prog
  obtain ⟨i3, hi3, hz30, hz31, hz32⟩ := info_parts info3
  obtain ⟨i8, hi8, hz80, hz81, hz82⟩ := info_parts info118
  have hmix : Tryd.prog.follows Departure.mixedOrders = true := by kernel_rfl
  obtain ⟨n, hn⟩ : ∃ n, n = b.length := ⟨_, rfl⟩
  have HN := Lib.hid hn
  have HR := Lib.hid hr
  have HFO : Hid (([] : List Tok) ++ fndP b b.length 0 = foundP b) := rfl
  rw [← hn] at hl1 hl ⊢
  clear hr hn
  go_enter Tryd.func75, Tryd.ntmps75
  go_wp2_with (first
    | (refine wpList_make_full _ rfl (.tmp 19) (.tmp 19) 36 rfl w.heap.size 3 i3 _ 1 Tryd.underlying36 hi3 hz30 hz31 .i64 .i64 n n n rfl rfl rfl rfl (by rw [hz32]; omega) (by unfold maxLen; omega) (by simp; omega) ?_
       intro w1 hown1 hg1
       have HO1 := Lib.hid hown1
       have HG1 := Lib.hid hg1
       clear hown1 hg1)
    | fail)
  obtain ⟨hst, hbl⟩ := found_start HN.out HR.out hh HO1.out HG1.out
  have HST := Lib.hid hst
  have HBL := Lib.hid hbl
  clear hst hbl
  obtain ⟨gp, hgp⟩ : ∃ g, g = w.heap.size + 1 + 1 + 1 := ⟨_, rfl⟩
  obtain ⟨pl, hpl⟩ : ∃ g, g = w.heap.size + 1 + 1 := ⟨_, rfl⟩
  obtain ⟨bm, hbm⟩ : ∃ g, g = w.heap.size + 1 := ⟨_, rfl⟩
  obtain ⟨pb, hpb⟩ : ∃ g, g = w.heap.size := ⟨_, rfl⟩
  obtain ⟨pp, hpp⟩ : ∃ g, g = w1.heap.size := ⟨_, rfl⟩
  obtain ⟨pk, hpk⟩ : ∃ g, g = w1.heap.size + 1 := ⟨_, rfl⟩
  rw [← hgp] at HST HBL ⊢
  rw [← hpl] at HST ⊢
  rw [← hbm] at HST
  try rw [← hbm]
  rw [← hpk] at HST ⊢
  rw [← hpp] at HST ⊢
  rw [← hpb] at HST HBL ⊢
  have HPB := Lib.hid hpb
  generalize (w1.alloc (.cells #[.slice (some ⟨gp, 0, none⟩) n n] 36)).alloc (.cells #[.func (.func 92) #[] #[.pointer (some ⟨pb, 0, none⟩)]] 166) = w2 at *
  clear hgp hpl hbm hpp hpk hpb HO1 HG1 hmm
  go_loopw [3, 8] (fun vo vi wr => FdRel w pb pb pp pl pk bm gp h o cap b vo vi wr) (fun _ vi _ => n - (intOf vi).toNat)
  case atStart => exact ⟨0, b.length, 0, 0, none, [], by omega, rfl, rfl, by omega, rfl, by omega, HST, HFO, World.ownsRow_nil _ _ _ _, HBL⟩
  case round =>
    clear HST HFO HBL
    obtain ⟨i, f, c, nt, A, ts, q1, rfl, rfl, q2, HNT, q3, HF, HC, HO, HB⟩ := hrel
    obtain ⟨pv, D, m, s⟩ := HF.out
    have hcb := s.bB.cell 0
    simp at hcb
    rw [← HN.out] at hcb
    by_cases hin : i < n
    · have hd : decide ((i : Int) < (n : Int)) = true := decide_eq_true (by omega)
      obtain ⟨f, rfl⟩ : ∃ k, f = k + 1 := ⟨f - 1, by have := HN.out; omega⟩
      obtain ⟨i3, hi3'⟩ : ∃ k, k = i + 3 := ⟨_, rfl⟩
      have e3 : (i : Int) + 3 = (i3 : Int) := by omega
      obtain ⟨l, hl'⟩ : ∃ l, l = (look b i).1 := ⟨_, rfl⟩
      obtain ⟨k, hk'⟩ : ∃ l, l = (look b i).2 := ⟨_, rfl⟩
      have HL := Lib.hid hl'
      have HK := Lib.hid hk'
      have HI3 := Lib.hid hi3'
      have HS := Lib.hid s
      clear s hl' hk' hi3'
      go_upto_if 31 with fail
      go_cut [9, 10] from 23 to 122 (fun vl vk wx => LkPost pb pb pp pl pk bm gp h o cap b i l k wr vl vk wx)
      case first =>
        by_cases h3 : i3 ≤ n
        · have hd3 : decide ((i3 : Int) ≤ (n : Int)) = true := decide_eq_true (by omega)
          have HIB : Hid (i + 3 ≤ b.length) := by unfold Hid; have := HI3.out; have := HN.out; omega
          have HLB : Hid (b.length ≤ 1000000) := by unfold Hid; have := HN.out; omega
          have HLK : Hid (chn b i 64 (lastB b i i) 0 0 = (l, k)) := by unfold Hid; rw [HL.out, HK.out, look, if_pos HIB.out]
          obtain ⟨cv, hc1, hc2, hlk⟩ := fs_look HS.out
          have hcl : wr.cell? ⟨pl, 0, none⟩ = some (.map (some bm)) := by rw [HS.out.bL.cell]; rfl
          have hck : wr.cell? ⟨pk, 0, none⟩ = some (.func (.func 92) #[] #[.pointer (some ⟨pb, 0, none⟩)]) := by rw [HS.out.bK.cell]; rfl
          have kl := fun n os => cell_grown HS.out.bL.lt hcl n os
          have kk := fun n os => cell_grown HS.out.bK.lt hck n os
          have HK1 : Hid (∀ n os, Calls Tryd.prog 92 #[.int .i64 i, .pointer (some ⟨pb, 0, none⟩)] (Sort.grow (wr.drewN n) os) fun e w' => e = .returned (VK b i) ∧ ∃ q os', w' = Sort.grow ((Sort.grow (wr.drewN n) os).drewN q) os') :=
            fun n os => (HS.out.grow n os).key HIB.out HLB.out
          have HIV := Lib.hid (HS.out.inv.2 i HIB.out)
          clear hcl hck
          cases hlb2 : lastB b i i with
          | none =>
            have hh := (HIV.out).1 hlb2
            rw [hh] at hlk
            rw [hlb2] at HLK
            have HLE : Hid (l = 0 ∧ k = 0) := by
              have := HLK.out
              simp only [chn, Prod.mk.injEq] at this
              exact ⟨this.1.symm, this.2.symm⟩
            clear hc1 hh HIV
            go_wp2_with fail
            go_quiet_grown (first | (go_at_call 92; refine Calls.grown_of (HK1.out _ _)))
            have S2 := Lib.hid (HS.out.grow nq osq)
            have B2 := Lib.hid (grow_below pb wr nq osq HS.out.hT)
            clear kl kk hlk HK1
            generalize Sort.grow (wr.drewN nq) osq = w5 at *
            go_wp2_with fail
            refine wp_loop_rounds 1 ?_
            rw [rounds_succ]
            go_wp2_with fail
            go_meet
            case rel => exact ⟨by rw [HLE.out.1]; rfl, by rw [HLE.out.2]; rfl, ⟨pv, D, m, S2.out⟩, B2.out⟩
          | some p =>
            obtain ⟨hh, ha⟩ := (HIV.out).2 p hlb2
            rw [hh] at hlk
            rw [hc1] at ha
            injection ha with ha
            injection ha with _ ha
            subst ha
            rw [hlb2] at HLK
            have HPI := Lib.hid (lastB_lt b i i p hlb2)
            clear hc1 hh HIV
            go_wp2_with fail
            go_quiet_grown (first | (go_at_call 92; refine Calls.grown_of (HK1.out _ _)))
            have S2 := Lib.hid (HS.out.grow nq osq)
            have B2 := Lib.hid (grow_below pb wr nq osq HS.out.hT)
            clear kl kk hlk HK1 hcb
            obtain ⟨wo, rfl⟩ : ∃ z : World, z = wr := ⟨_, rfl⟩
            generalize Sort.grow (wo.drewN nq) osq = w5 at *
            go_wp2_with fail
            go_loopw [9, 10, 11, 13] (fun vl vk vp vt wl => TrRel b i (l, k) vl vk vp vt ∧ Hid (FS wl pb pb pp pl pk bm gp h o cap b pv D m i) ∧ Hid (NB pb wo wl)) (fun _ _ _ vt _ => 64 - (intOf vt).toNat)
            case atStart => exact ⟨⟨0, 0, 0, some p, by omega, rfl, rfl, rfl, rfl, (fun q hq => by injection hq with hq; subst hq; exact HPI.out), HLK, by omega⟩, S2, B2⟩
            case round =>
              clear S2 B2 HLK HPI
              obtain ⟨⟨tk, lx, kx, px, t1, rfl, rfl, rfl, rfl, HPX, HCH, t2⟩, S2, B2⟩ := hrel
              have hcb := S2.out.bB.cell 0
              have hcp := S2.out.bP.cell 0
              simp at hcb hcp
              rw [← HN.out] at hcb hcp
              match px, HPX, HCH with
              | none, HPX, HCH =>
                have ho : optI none = -1 := rfl
                have hle : Hid (lx = l ∧ kx = k) := by
                  have h := HCH.out
                  cases hg : 64 - tk with
                  | zero => rw [hg] at h; simp only [chn, Prod.mk.injEq] at h; exact h
                  | succ g => rw [hg] at h; simp only [chn, Prod.mk.injEq] at h; exact h
                go_wp2_with fail
                go_meet
                case rel => exact ⟨by rw [hle.out.1], by rw [hle.out.2], ⟨pv, D, m, S2.out⟩, B2.out⟩
              | some q, HPX, HCH =>
                have ho : optI (some q) = (q : Int) := rfl
                have hqi := HPX.out q rfl
                obtain ⟨dq, hdq⟩ : ∃ z, z = i - q := ⟨_, rfl⟩
                have edq : (i : Int) - (q : Int) = (dq : Int) := by omega
                have hq0 : decide ((q : Int) ≥ 0) = true := decide_eq_true (by omega)
                have hq0' : (0 : Int) ≤ (q : Int) := by omega
                have hdqb : decide ((dq : Int) ≤ 65536) = true := decide_eq_true (by omega)
                have hdqb' : dq ≤ 65536 := by omega
                have HDQ := Lib.hid hdq
                by_cases htk : tk < 64
                · have htd : decide ((tk : Int) < 64) = true := decide_eq_true (by omega)
                  obtain ⟨g, hg⟩ : ∃ g, 64 - tk = g + 1 := ⟨63 - tk, by omega⟩
                  have hg2 : Hid (64 - (tk + 1) = g) := by unfold Hid; omega
                  obtain ⟨cm, hcm⟩ : ∃ c, c = cmn b q i b.length 0 := ⟨_, rfl⟩
                  have hcok := cmn_ok b q i b.length 0 (by have := HN.out; omega) (fun t ht => by omega)
                  rw [← hcm] at hcok
                  have hcmb : i + cm ≤ n := by have := HN.out; omega
                  have HCH2 : Hid ((if lx < cm then chn b i g (lastB b q q) cm dq else chn b i g (lastB b q q) lx kx) = (l, k)) := by
                    have h := HCH.out
                    rw [hg, chn, ← hcm, ← hdq] at h
                    exact h
                  have hprev := S2.out.prev hqi.1 hqi.2
                  have hqn : q < n := by omega
                  have HCM := Lib.hid hcm
                  clear hcm hdq hg hcok
                  go_wp2_with fail
                  go_loopw [14] (fun v wl => CmRel b q i cm v ∧ Hid (FS wl pb pb pp pl pk bm gp h o cap b pv D m i) ∧ Hid (NB pb wo wl)) (fun v _ => n - i - (intOf v).toNat)
                  case atStart => exact ⟨⟨0, b.length, by have := HN.out; omega, rfl, by omega, HCM.out.symm⟩, S2, B2⟩
                  case round =>
                    clear S2 B2 hcb hcp hprev HCM
                    obtain ⟨⟨n1, f1, s1, rfl, s2, HC1⟩, S2, B2⟩ := hrel
                    have hcb := S2.out.bB.cell 0
                    simp at hcb
                    rw [← HN.out] at hcb
                    obtain ⟨j1, hj1⟩ : ∃ z, z = i + n1 := ⟨_, rfl⟩
                    obtain ⟨j2, hj2⟩ : ∃ z, z = q + n1 := ⟨_, rfl⟩
                    have ej1 : (i : Int) + (n1 : Int) = (j1 : Int) := by omega
                    have ej2 : (q : Int) + (n1 : Int) = (j2 : Int) := by omega
                    have hn1b : n1 ≤ n := by have := HN.out; omega
                    by_cases hj : j1 < n
                    · have hjd : decide ((j1 : Int) < (n : Int)) = true := decide_eq_true (by omega)
                      have hj2n : j2 < n := by omega
                      have hx := S2.out.rd j1 (by rw [← HN.out]; exact hj)
                      have hy := S2.out.rd j2 (by rw [← HN.out]; exact hj2n)
                      obtain ⟨f1, rfl⟩ : ∃ z, f1 = z + 1 := ⟨f1 - 1, by have := HN.out; omega⟩
                      have hC1 := HC1.out
                      rw [cmn, ← hj1, ← hj2] at hC1
                      have HJ1 := Lib.hid hj1
                      obtain ⟨x, hxe⟩ : ∃ x, x = (b.getD j1 0).toNat := ⟨_, rfl⟩
                      obtain ⟨y, hye⟩ : ∃ x, x = (b.getD j2 0).toNat := ⟨_, rfl⟩
                      rw [← hxe] at hx
                      rw [← hye] at hy
                      by_cases hxy : y = x
                      · have hxyb : ((y : Int) == (x : Int)) = true := beq_iff_eq.2 (by omega)
                        have he : b.getD j2 0 = b.getD j1 0 := UInt8.toNat_inj.1 (by omega)
                        rw [if_pos ⟨by have := HN.out; omega, he⟩] at hC1
                        have HC2 := Lib.hid hC1
                        clear hC1 HC1 hxe hye hxy he hj1 hj2
                        go_wp2_with fail
                        go_quiet (fail)
                        have S3 := Lib.hid (S2.out.rdN nq)
                        have B3 := Lib.hid (B2.out.drewN nq)
                        clear S2 B2 hx hy hcb
                        generalize wr.drewN nq = w6 at *
                        go_wp2_with fail
                        go_roundw
                        case rel => exact ⟨⟨n1 + 1, f1, by have := HJ1.out; have := HN.out; omega, by go_num, by omega, HC2⟩, S3, B3⟩
                        case measure => have := HJ1.out; simp [intOf]; omega
                      · have hxyb : ((y : Int) == (x : Int)) = false := beq_eq_false_iff_ne.2 (by omega)
                        have he : ¬ b.getD j2 0 = b.getD j1 0 := fun e => hxy (by rw [hye, hxe, e])
                        rw [if_neg (fun h => he h.2)] at hC1
                        have HC2 := Lib.hid hC1
                        clear hC1 HC1 hxe hye hxy he hj1 hj2
                        go_wp2_with fail
                        go_quiet (fail)
                        have S3 := Lib.hid (S2.out.rdN nq)
                        have B3 := Lib.hid (B2.out.drewN nq)
                        clear S2 B2 hx hy hcb
                        generalize wr.drewN nq = w6 at *
                        have hprev := S3.out.prev hqi.1 hqi.2
                        have hcp := S3.out.bP.cell 0
                        simp at hcp
                        rw [← HN.out] at hcp
                        obtain ⟨pn, hpn⟩ : ∃ z, z = lastB b q q := ⟨_, rfl⟩
                        have HPN : Hid (∀ r, pn = some r → r < i ∧ r + 3 ≤ b.length) := fun r hr => by
                          have := lastB_lt b q q r (by rw [← hpn]; exact hr)
                          exact ⟨by omega, this.2⟩
                        rw [← hpn] at hprev
                        have hC2 := HC2.out
                        by_cases hlc : lx < cm
                        · have hlcd : decide ((n1 : Int) > (lx : Int)) = true := decide_eq_true (by omega)
                          have hlcd' : (lx : Int) < (n1 : Int) := by omega
                          have HG : Hid (chn b i (64 - (tk + 1)) pn n1 dq = (l, k)) := by
                            have h := HCH2.out
                            rw [if_pos hlc, ← hpn] at h
                            unfold Hid
                            rw [hg2.out, hC2]
                            exact h
                          clear hpn hC2
                          go_wp2_with fail
                          go_roundw
                          case rel => exact ⟨⟨tk + 1, n1, dq, pn, by omega, rfl, rfl, rfl, by go_num, HPN, HG, by omega⟩, S3, B3⟩
                          case measure => simp [intOf]; omega
                        · have hlcd : decide ((n1 : Int) > (lx : Int)) = false := decide_eq_false (by omega)
                          have hlcd' : ¬ (lx : Int) < (n1 : Int) := by omega
                          have HG : Hid (chn b i (64 - (tk + 1)) pn lx kx = (l, k)) := by
                            have h := HCH2.out
                            rw [if_neg hlc, ← hpn] at h
                            unfold Hid
                            rw [hg2.out]
                            exact h
                          clear hpn hC2
                          go_wp2_with fail
                          go_roundw
                          case rel => exact ⟨⟨tk + 1, lx, kx, pn, by omega, rfl, rfl, rfl, by go_num, HPN, HG, by omega⟩, S3, B3⟩
                          case measure => simp [intOf]; omega
                    · have hjd : decide ((j1 : Int) < (n : Int)) = false := decide_eq_false (by omega)
                      have HC2 : Hid (n1 = cm) := by
                        have h := HC1.out
                        rw [cmn_full b q i n1 f1 s2 (fun hh => by have := HN.out; omega)] at h
                        exact h
                      clear hj1 hj2 HC1
                      go_wp2_with fail
                      go_quiet (fail)
                      have S3 := Lib.hid (S2.out.rdN nq)
                      have B3 := Lib.hid (B2.out.drewN nq)
                      clear S2 B2 hcb
                      generalize wr.drewN nq = w6 at *
                      have hprev := S3.out.prev hqi.1 hqi.2
                      have hcp := S3.out.bP.cell 0
                      simp at hcp
                      rw [← HN.out] at hcp
                      obtain ⟨pn, hpn⟩ : ∃ z, z = lastB b q q := ⟨_, rfl⟩
                      have HPN : Hid (∀ r, pn = some r → r < i ∧ r + 3 ≤ b.length) := fun r hr => by
                        have := lastB_lt b q q r (by rw [← hpn]; exact hr)
                        exact ⟨by omega, this.2⟩
                      rw [← hpn] at hprev
                      have hC2 := HC2.out
                      by_cases hlc : lx < cm
                      · have hlcd : decide ((n1 : Int) > (lx : Int)) = true := decide_eq_true (by omega)
                        have hlcd' : (lx : Int) < (n1 : Int) := by omega
                        have HG : Hid (chn b i (64 - (tk + 1)) pn n1 dq = (l, k)) := by
                          have h := HCH2.out
                          rw [if_pos hlc, ← hpn] at h
                          unfold Hid
                          rw [hg2.out, hC2]
                          exact h
                        clear hpn hC2
                        go_wp2_with fail
                        go_roundw
                        case rel => exact ⟨⟨tk + 1, n1, dq, pn, by omega, rfl, rfl, rfl, by go_num, HPN, HG, by omega⟩, S3, B3⟩
                        case measure => simp [intOf]; omega
                      · have hlcd : decide ((n1 : Int) > (lx : Int)) = false := decide_eq_false (by omega)
                        have hlcd' : ¬ (lx : Int) < (n1 : Int) := by omega
                        have HG : Hid (chn b i (64 - (tk + 1)) pn lx kx = (l, k)) := by
                          have h := HCH2.out
                          rw [if_neg hlc, ← hpn] at h
                          unfold Hid
                          rw [hg2.out]
                          exact h
                        clear hpn hC2
                        go_wp2_with fail
                        go_roundw
                        case rel => exact ⟨⟨tk + 1, lx, kx, pn, by omega, rfl, rfl, rfl, by go_num, HPN, HG, by omega⟩, S3, B3⟩
                        case measure => simp [intOf]; omega
                · have htd : decide ((tk : Int) < 64) = false := decide_eq_false (by omega)
                  have hle : Hid (lx = l ∧ kx = k) := by
                    have h := HCH.out
                    rw [show 64 - tk = 0 by omega] at h
                    simp only [chn, Prod.mk.injEq] at h
                    exact h
                  clear hdq
                  go_wp2_with fail
                  go_meet
                  case rel => exact ⟨by rw [hle.out.1], by rw [hle.out.2], ⟨pv, D, m, S2.out⟩, B2.out⟩
        · have hd3 : decide ((i3 : Int) ≤ (n : Int)) = false := decide_eq_false (by omega)
          have HLE : Hid (l = 0 ∧ k = 0) := by
            unfold Hid
            rw [HL.out, HK.out, look, if_neg (by have := HI3.out; have := HN.out; omega)]
            exact ⟨rfl, rfl⟩
          go_wp2_with fail
          go_meet
          case rel => exact ⟨by rw [HLE.out.1]; rfl, by rw [HLE.out.2]; rfl, HF.out, NB.refl _ _⟩
      case rest =>
        obtain ⟨rfl, rfl, hF2, hB2⟩ := hcut
        have HF2 := Lib.hid hF2
        have HO2 := Lib.hid (own_nb HO.out hB2)
        have HB2 := Lib.hid (HB.out.trans hB2.b)
        clear hF2 hB2 HF HO HB HS hcb
        have hlok := look_ok b i q1
        rw [← HL.out, ← HK.out] at hlok
        obtain ⟨cnt, hcnt⟩ : ∃ c, c = if 3 ≤ l then l else 1 := ⟨_, rfl⟩
        obtain ⟨tok, htok⟩ : ∃ t, t = if 3 ≤ l then copyTok l k else litTok (b.getD i 0).toNat := ⟨_, rfl⟩
        have hcn : 1 ≤ cnt ∧ i + cnt ≤ n ∧ l ≤ n := by
          have := HN.out
          rcases hlok with h0 | ⟨a1, a2, a3, _⟩
          · rw [hcnt, if_neg (by omega)]; omega
          · rw [hcnt]; split <;> omega
        have HNX : Hid ((ts ++ [tok]) ++ fndP b f (i + cnt) = foundP b) := by
          have h := HC.out
          rw [fndP, if_pos (by rw [← HN.out]; exact hin), ← HL.out, ← HK.out] at h
          unfold Hid
          rw [← h, htok, hcnt, List.append_assoc]
          split <;> rfl
        have HCNT := Lib.hid hcnt
        have HTOK := Lib.hid htok
        have HLOK := Lib.hid hlok
        have hntb : nt ≤ 65536 := by omega
        clear HC hcnt htok hlok HL HK HI3
        go_upto_region 20 with fail
        go_cut [15] from 23 to 122 (fun v wx => v = .int .i64 ((max 1 l : Nat) : Int) ∧ wx = wc)
        case first =>
          by_cases hl1' : l ≤ 1
          · have h1 : (l : Int) ≤ 1 := by omega
            have h2 : ¬ (1 : Int) < (l : Int) := by omega
            have hm : Hid (max 1 l = 1) := by unfold Hid; omega
            go_wp2_with fail
            go_meet
            case rel => exact ⟨by rw [hm.out]; rfl, rfl⟩
          · have h1 : ¬ (l : Int) ≤ 1 := by omega
            have h2 : (1 : Int) < (l : Int) := by omega
            have hm : Hid (max 1 l = l) := by unfold Hid; omega
            go_wp2_with fail
            go_meet
            case rel => exact ⟨by rw [hm.out], rfl⟩
        case rest =>
          obtain ⟨rfl, rfl⟩ := hcut
          go_upto_if 94 with fail
          go_cut [3, 15] from 23 to 122 (fun vo v15 wx => TkPost w pb pb pp pl pk bm gp h o cap b i nt cnt (ts ++ [tok]) vo v15 wx)
          case first =>
            by_cases hl3 : 3 ≤ l
            · have hld : decide ((l : Int) ≥ 3) = true := decide_eq_true (by omega)
              have hld' : (3 : Int) ≤ (l : Int) := by omega
              have hcl : Hid (max 1 l = cnt) := by unfold Hid; rw [HCNT.out, if_pos hl3]; omega
              have hkb : 1 ≤ k ∧ k ≤ 65536 := by
                rcases HLOK.out with h0 | ⟨a1, a2, a3, _⟩
                · omega
                · omega
              have HCP := Lib.hid (copyOf_any l k wc hl3 (by omega) hkb.1 hkb.2)
              have HTE : Hid (tok = copyTok l k) := by unfold Hid; rw [HTOK.out, if_pos hl3]
              obtain ⟨s1, s2, s3, s4, hte⟩ : ∃ s1 s2 s3 s4, copyTok l k = ⟨s1, s2, s3, s4, true⟩ := ⟨_, _, _, _, rfl⟩
              rw [hte] at HCP HTE
              clear hte
              go_wp2_with fail
              refine HCP.out.mono ?_
              rintro e w7 ⟨rfl, hb7⟩
              have HO7 := Lib.hid (own_below HO2.out hb7)
              have HF7 : Hid (Fst w7 pb pb pp pl pk bm gp h o cap b i) := by
                obtain ⟨pv, D, m, s⟩ := HF2.out
                exact ⟨pv, D, m, s.gbr (row := none) (gb_of_below hb7 none) (fun g hg => by cases hg)⟩
              have hT7 : pb ≤ wc.heap.size := by
                obtain ⟨pv, D, m, s⟩ := HF2.out
                exact s.hT
              have HB7 := Lib.hid (HB2.out.trans (hb7.mono hT7))
              have hs7 : pb ≤ w7.heap.size := Nat.le_trans hT7 hb7.size
              clear hb7 HO2 HF2 HB2
              simp only [tokV]
              go_wp2_with (first
                | (at_builtin
                   refine wpList_pushK w7 rfl (.tmp 95) (.tmp 99) 115 rfl pb 118 i8 _ 5 40 Tryd.underlying115 hi8 hz80 hz81 hz82 rfl (by decide) A nt c (TK ts) rfl HO7.out #[.int .i64 (s1 : Int), .int .i64 (s2 : Int), .int .i64 (s3 : Int), .int .i64 (s4 : Int), .bool true] 1 118 rfl (tokV_one ⟨s1, s2, s3, s4, true⟩) rfl (by omega) (by unfold maxLen; omega) hs7 ?_
                   intro A2 c2 w8 hown8 hg8
                   have HP := Lib.hid (tk_step (t := ⟨s1, s2, s3, s4, true⟩) HF7.out HO7.out HB7.out hown8 hg8 cnt)
                   clear hown8 hg8)
                | fail)
              go_meet
              case rel =>
                rw [hcl.out, HTE.out]
                exact HP.out
            · have hld : decide ((l : Int) ≥ 3) = false := decide_eq_false (by omega)
              have hld' : ¬ (3 : Int) ≤ (l : Int) := by omega
              have hcl : Hid (cnt = 1) := by unfold Hid; rw [HCNT.out, if_neg hl3]
              obtain ⟨x, hx⟩ : ∃ x, x = (b.getD i 0).toNat := ⟨_, rfl⟩
              have hxb : x < 256 := by rw [hx]; exact UInt8.toNat_lt _
              have HTE : Hid (tok = litTok x) := by unfold Hid; rw [HTOK.out, if_neg hl3, hx]
              obtain ⟨pv2, D2, m2, s2⟩ := HF2.out
              have hcb := s2.bB.cell 0
              simp at hcb
              rw [← HN.out] at hcb
              have hcx := s2.rd i (by rw [← HN.out]; exact hin)
              rw [← hx] at hcx
              have hs7 := s2.hT
              clear hx s2
              go_wp2_with (first
                | (at_builtin
                   refine wpList_pushK wc rfl (.tmp 101) (.tmp 108) 115 rfl pb 118 i8 _ 5 40 Tryd.underlying115 hi8 hz80 hz81 hz82 rfl (by decide) A nt c (TK ts) rfl HO2.out #[.int .i64 (x : Int), .int .i64 0, .int .i64 0, .int .i64 0, .bool false] 1 118 rfl (tokV_one ⟨x, 0, 0, 0, false⟩) rfl (by omega) (by unfold maxLen; omega) hs7 ?_
                   intro A2 c2 w8 hown8 hg8
                   have HP := Lib.hid (tk_step (t := ⟨x, 0, 0, 0, false⟩) HF2.out HO2.out HB2.out hown8 hg8 cnt)
                   clear hown8 hg8)
                | fail)
              go_meet
              case rel =>
                rw [HTE.out, hcl.out]
                have h := HP.out
                rw [hcl.out] at h
                exact h
          case rest =>
            obtain ⟨A2, c2, rfl, rfl, hO3, hF3, hB3⟩ := hcut
            have HO3 := Lib.hid hO3.out
            have HF3 := Lib.hid hF3.out
            have HB3 := Lib.hid hB3.out
            obtain ⟨cnb1, cnb2, _⟩ := hcn
            clear hO3 hF3 hB3 HO2 HF2 HB2
            obtain ⟨wo, rfl⟩ : ∃ z : World, z = wc := ⟨_, rfl⟩
            go_wp2_with fail
            go_loopw [111] (fun v wl => NtRel wo pb pb pp pl pk bm gp h o cap b i cnt v wl) (fun v _ => cnt - (intOf v).toNat)
            case atStart => exact ⟨0, by omega, rfl, HF3, NB.refl _ _⟩
            case round =>
              clear HF3
              obtain ⟨k2, t1, rfl, HF4, HB4⟩ := hrel
              by_cases hk2 : k2 < cnt
              · have hkd : decide ((k2 : Int) < (cnt : Int)) = true := decide_eq_true (by omega)
                obtain ⟨j, hj⟩ : ∃ j, j = i + k2 := ⟨_, rfl⟩
                have ej : (i : Int) + (k2 : Int) = (j : Int) := by omega
                have hF4 := HF4.out
                rw [← hj] at hF4
                have HNT2 := Lib.hid (note_any wr pb pb pp pl pk bm gp h o cap j n b hF4 HN.out (by omega) (by omega))
                have HJ := Lib.hid hj
                clear hF4 hj
                go_wp2_with fail
                refine HNT2.out.mono ?_
                rintro e w9 ⟨rfl, hf9, hb9⟩
                have HF9 : Hid (Fst w9 pb pb pp pl pk bm gp h o cap b (i + (k2 + 1))) := by
                  unfold Hid
                  rw [← Nat.add_assoc, ← HJ.out]
                  exact hf9
                have HB9 := Lib.hid (HB4.out.trans hb9)
                clear hf9 hb9 HF4 HB4
                go_wp2_with fail
                go_roundw
                case rel => exact ⟨k2 + 1, by omega, by go_num, HF9, HB9⟩
                case measure => simp [intOf]; omega
              · have hkd : decide ((k2 : Int) < (cnt : Int)) = false := decide_eq_false (by omega)
                have hke : k2 = cnt := by omega
                rw [hke] at HF4
                obtain ⟨j, hj⟩ : ∃ j, j = i + cnt := ⟨_, rfl⟩
                have ej : (i : Int) + (cnt : Int) = (j : Int) := by omega
                have HJ := Lib.hid hj
                have hjn : j ≤ n ∧ i < j := by omega
                have HO5 := Lib.hid (own_nb HO3.out HB4.out)
                have HB5 := Lib.hid (HB3.out.trans HB4.out.b)
                clear hj hke
                go_wp2_with fail
                go_roundw
                case rel =>
                  have e1 := HNT.out
                  have e2 := HN.out
                  have e3 := HJ.out
                  exact ⟨j, f, c2, nt + 1, A2, ts ++ [tok], by omega, by go_num, rfl, by omega, by unfold Hid; simp [e1], by omega, by rw [e3]; exact HF4, by rw [e3]; exact HNX, HO5, HB5⟩
                case measure => simp [intOf]; omega
    · have hd : decide ((i : Int) < (n : Int)) = false := decide_eq_false (by omega)
      have HTS : Hid (ts = foundP b) := by
        have h := HC.out
        have : fndP b f i = [] := by
          cases f with
          | zero => rfl
          | succ f => rw [fndP, if_neg (by rw [← HN.out]; omega)]
        rw [this, List.append_nil] at h
        exact h
      have HFP : Hid (FoundPost w b (.returned (.slice A nt c)) wr) := by
        refine ⟨A, nt, c, rfl, by rw [← HTS.out]; exact HNT.out, ?_, ?_⟩
        · rw [← HTS.out, ← HPB.out]; exact HO.out
        · rw [← HPB.out]; exact HB.out
      clear s
      go_wp2_with fail
      go_ret
      exact HFP.out
end Go.Proofs.YtejgoienkpaabaaDoor
