/- FndA, FndB (merged: one text behind the other). -/
import Derived.Test.YtejgoienkpaabaaDoorMg21
import Derived.Maps.OwnSet
import Derived.Lib.SliceRun
import Derived.Laws.Rows
import Derived.DeepKeys4
import Derived.Shelf.SlSortCmp.QuietGrown
import Derived.Deep.RegionHeld3
/- press.found: its keys, and the contract of its closure key. -/
namespace Go.Proofs.YtejgoienkpaabaaDoor
open Go.RowKit Go.Maps
set_option maxRecDepth 100000
theorem row165 : (165 : TypeId) < Tryd.prog.types.size := of_decide_eq_true (by kernel_rfl)
theorem key_law : Keyed Tryd.prog 165 := Keyed.of_law (deep_law_laid (by kernel_rfl) (m := 2) (by omega) row165 (by kernel_rfl) (by kernel_rfl))
def V3 (x y z : Nat) : Value := .agg #[.int .u8 (x : Int), .int .u8 (y : Int), .int .u8 (z : Int)]
theorem wf_u8 (x : Nat) (h : x < 256) : (Lit.int .u8 (x : Int)).wf = true := (by decide +kernel : ∀ x : Nat, x < 256 → (Lit.int .u8 (x : Int)).wf = true) x h
theorem size165 : ∃ n, Tryd.prog.types.size + 1 = n + 2 := ⟨Tryd.prog.types.size - 1, by
  have h : (165 : Nat) < Tryd.prog.types.size := row165
  omega⟩
theorem cells165 : Tryd.prog.cellsOf 165 = 3 := by kernel_rfl
theorem cells5 : Tryd.prog.cellsOf 5 = 1 := by kernel_rfl
theorem keyt165 : Tryd.prog.keyType 165 = true := by kernel_rfl
theorem key_some (x y z : Nat) (hx : x < 256) (hy : y < 256) (hz : z < 256) : ∃ l, keyOf Tryd.prog 165 (V3 x y z) = some l := by
  obtain ⟨n, hn⟩ := size165
  have h5 : Tryd.prog.underlying 5 = some (.int .u8) := by kernel_rfl
  have hl : Tryd.prog.keyLits (n + 2) 165 (V3 x y z).cells.toList = some [.int .u8 (x : Int), .int .u8 (y : Int), .int .u8 (z : Int)] := by
    simp [Program.keyLits, Tryd.underlying165, cells165, cells5, h5, V3, Value.cells, wf_u8 x hx, wf_u8 y hy, wf_u8 z hz, List.range, List.range.loop, List.mapM_cons]
  refine ⟨.string (keyBytes [.int .u8 (x : Int), .int .u8 (y : Int), .int .u8 (z : Int)]), ?_⟩
  unfold keyOf
  rw [Tryd.underlying165]
  simp only [keyt165, Bool.true_and]
  rw [if_pos (by simp [Value.formed, Tryd.underlying165, cells165, V3]), hn, hl]
  rfl
/-- what a key of three bytes reads as -/
noncomputable def kl (x y z : Nat) : Lit := (keyOf Tryd.prog 165 (V3 x y z)).getD (.int .i64 0)
theorem kl_key {x y z : Nat} (hx : x < 256) (hy : y < 256) (hz : z < 256) : keyOf Tryd.prog 165 (V3 x y z) = some (kl x y z) := by
  obtain ⟨l, h⟩ := key_some x y z hx hy hz
  unfold kl
  rw [h]
  rfl
theorem kl_inj {x y z x' y' z' : Nat} (hx : x < 256) (hy : y < 256) (hz : z < 256) (hx' : x' < 256) (hy' : y' < 256) (hz' : z' < 256) (h : kl x y z = kl x' y' z') : x = x' ∧ y = y' ∧ z = z' := by
  have h1 := kl_key hx hy hz
  rw [h] at h1
  have h2 := key_law.inj h1 (kl_key hx' hy' hz')
  simp [V3] at h2
  omega
/-- the key at place j of b -/
noncomputable def kb (b : List UInt8) (j : Nat) : Lit := kl (b.getD j 0).toNat (b.getD (j + 1) 0).toNat (b.getD (j + 2) 0).toNat
theorem kb_key (b : List UInt8) (j : Nat) : keyOf Tryd.prog 165 (V3 (b.getD j 0).toNat (b.getD (j + 1) 0).toNat (b.getD (j + 2) 0).toNat) = some (kb b j) :=
  kl_key (UInt8.toNat_lt _) (UInt8.toNat_lt _) (UInt8.toNat_lt _)
theorem kb_same {b : List UInt8} {i j : Nat} (hi : i + 3 ≤ b.length) : kb b i = kb b j ↔ same3 b i j = true := by
  unfold kb same3
  constructor
  · intro h
    obtain ⟨h1, h2, h3⟩ := kl_inj (UInt8.toNat_lt _) (UInt8.toNat_lt _) (UInt8.toNat_lt _) (UInt8.toNat_lt _) (UInt8.toNat_lt _) (UInt8.toNat_lt _) h
    simp only [Bool.and_eq_true, decide_eq_true_eq]
    exact ⟨⟨⟨hi, UInt8.toNat_inj.1 h1⟩, UInt8.toNat_inj.1 h2⟩, UInt8.toNat_inj.1 h3⟩
  · intro h
    simp only [Bool.and_eq_true, decide_eq_true_eq] at h
    rw [h.1.1.2, h.1.2, h.2]
theorem kb_isKey (b : List UInt8) (j : Nat) : WideAt.IsKeyLit (kb b j) := key_law.key (kb_key b j)
/-- what the map holds when the places below i have been noted -/
def MInv (D : DataW Unit) (b : List UInt8) (i : Nat) : Prop :=
  IsMap D ∧ ∀ j, j + 3 ≤ b.length → (lastB b i j = none → has D (kb b j) = false) ∧ (∀ p, lastB b i j = some p → has D (kb b j) = true ∧ D.atKey (kb b j) (.lit (.int .i64 0)) = .lit (.int .i64 (p : Int)))
theorem MInv.start (b : List UInt8) : MInv (.map []) b 0 := ⟨⟨_, rfl⟩, fun j _ => ⟨fun _ => by simp [has], fun p h => by cases h⟩⟩
theorem MInv.put {D : DataW Unit} {b : List UInt8} {i : Nat} (h : MInv D b i) (hi : i + 3 ≤ b.length) : MInv (D.put (kb b i) (.lit (.int .i64 (i : Int)))) b (i + 1) := by
  refine ⟨h.1.put _ _, fun j hj => ?_⟩
  obtain ⟨h1, h2⟩ := h.2 j hj
  by_cases hs : same3 b i j = true
  · have e := (kb_same hi).2 hs
    have hl : lastB b (i + 1) j = some i := by rw [lastB, if_pos hs]
    rw [hl, ← e]
    refine ⟨fun h => (by cases h), fun p hp => ?_⟩
    injection hp with hp
    subst hp
    exact ⟨has_put_same h.1 (kb_isKey b i) _, atKey_put_same h.1 (kb_isKey b i) _ _⟩
  · have hne : kb b j ≠ kb b i := fun e => hs ((kb_same hi).1 e.symm)
    have hl : lastB b (i + 1) j = lastB b i j := by rw [lastB, if_neg hs]
    rw [hl, has_put_other hne, atKey_put_other hne]
    exact ⟨h1, h2⟩
theorem MInv.skip {D : DataW Unit} {b : List UInt8} {i : Nat} (h : MInv D b i) (hi : ¬ i + 3 ≤ b.length) : MInv D b (i + 1) := by
  refine ⟨h.1, fun j hj => ?_⟩
  have hs : same3 b i j = false := by unfold same3; simp [hi]
  have hl : lastB b (i + 1) j = lastB b i j := by rw [lastB, hs]; rfl
  rw [hl]
  exact h.2 j hj
theorem alloc_drew (w : World) (o : Obj) : (w.alloc o).drew = Sort.grow (w.drewN 1) #[o] := by
  rw [Sort.alloc_eq_grow]
  rfl
theorem key_any (pb h o n cap i : Nat) (b : List UInt8) (w : World) (hb : w.cell? ⟨pb, 0, none⟩ = some (.slice (some ⟨h, o, none⟩) n cap)) (hn : n = b.length) (hr : ∀ j, j < b.length → w.cell? ⟨h, o + j, none⟩ = some (.int .u8 ((b.getD j 0).toNat : Int))) (hi : i + 3 ≤ n) (hl : n ≤ 1000000) :
    Calls Tryd.prog 92 #[.int .i64 i, .pointer (some ⟨pb, 0, none⟩)] w fun e w' => e = .returned (V3 (b.getD i 0).toNat (b.getD (i + 1) 0).toNat (b.getD (i + 2) 0).toNat) ∧ ∃ q os', w' = Sort.grow (w.drewN q) os' := by
  have c0 := hr i (by omega)
  have c1 := hr (i + 1) (by omega)
  have c2 := hr (i + 2) (by omega)
  have x0 := UInt8.toNat_lt (b.getD i 0)
  have x1 := UInt8.toNat_lt (b.getD (i + 1) 0)
  have x2 := UInt8.toNat_lt (b.getD (i + 2) 0)
  generalize (b.getD i 0).toNat = y0 at *
  generalize (b.getD (i + 1) 0).toNat = y1 at *
  generalize (b.getD (i + 2) 0).toNat = y2 at *
  obtain ⟨i1, hi1⟩ : ∃ k, k = i + 1 := ⟨_, rfl⟩
  obtain ⟨i2, hi2⟩ : ∃ k, k = i + 2 := ⟨_, rfl⟩
  have e1 : (i : Int) + 1 = (i1 : Int) := by omega
  have e2 : (i : Int) + 2 = (i2 : Int) := by omega
  rw [← hi1] at c1
  rw [← hi2] at c2
  have hb1 : i < n ∧ i1 < n ∧ i2 < n := by omega
  obtain ⟨hb1, hb2, hb3⟩ := hb1
  clear hi1 hi2 hr hn hi
  have ka := Lib.cell?_alloc_some (.cells #[.int .u8 0, .int .u8 0, .int .u8 0] 165) hb
  have k0 := Lib.cell?_alloc_some (.cells #[.int .u8 0, .int .u8 0, .int .u8 0] 165) c0
  have k1 := Lib.cell?_alloc_some (.cells #[.int .u8 0, .int .u8 0, .int .u8 0] 165) c1
  have k2 := Lib.cell?_alloc_some (.cells #[.int .u8 0, .int .u8 0, .int .u8 0] 165) c2
  go_enter Tryd.func92, Tryd.ntmps92
  go_wp2_with fail
  go_region
  go_wp2_with fail
  (try simp only [Exit.inBlock, Exit.then])
  refine bodyPost_ret (results_cell_row rfl _ _ w.heap.size 165 #[.int .u8 (y0 : Int), .int .u8 (y1 : Int), .int .u8 (y2 : Int)] (0, 0) _ rfl (Blk.new w 165 _) Tryd.underlying165 rfl (by kernel_rfl)) rfl ?_
  exact ⟨rfl, 1, #[.cells #[.int .u8 (y0 : Int), .int .u8 (y1 : Int), .int .u8 (y2 : Int)] 165], alloc_drew _ _⟩
end Go.Proofs.YtejgoienkpaabaaDoor

/- press.found: the contract of its closure note. -/
namespace Go.Proofs.YtejgoienkpaabaaDoor
open Go.RowKit Go.Maps
set_option maxRecDepth 100000
theorem grow_blk {w : World} {g : Nat} {t : TypeId} {cs : Array Value} (h : Blk w g t cs) (n : Nat) (os : Array Obj) : Blk (Sort.grow (w.drewN n) os) g t cs := by
  unfold Blk at *
  have hlt : g < w.heap.size := Blk.lt h
  show (w.heap ++ os)[g]? = _
  rw [Array.getElem?_append_left hlt]
  exact h
theorem grow_gb (w : World) (n : Nat) (os : Array Obj) : w.grownBy (Sort.grow (w.drewN n) os) none :=
  ⟨rfl, rfl, rfl, by show w.heap.size ≤ (w.heap ++ os).size; simp, fun k hk _ => by
    show (w.heap ++ os)[k]? = _
    rw [Array.getElem?_append_left hk]⟩
theorem ownsMap_blk {w : World} {bm m g : Nat} {D : DataW Unit} {t : TypeId} {cs : Array Value} (h : w.ownsMap Tryd.prog 165 (plainElem Tryd.prog 3) bm m D) (hb : Blk w g t cs) : bm ≠ g := by
  obtain ⟨es, clock, h1, _⟩ := h
  intro e
  subst e
  unfold Blk at hb
  rw [hb] at h1
  cases h1
def optI : Option Nat → Int
  | none => -1
  | some p => (p : Int)
def PI (pv : List Int) : List Value := pv.map fun x => .int .i64 x
/-- found's memory, when the places below i have been noted -/
structure FS (w : World) (T pb pp pl pk bm gp h o cap : Nat) (b : List UInt8) (pv : List Int) (D : DataW Unit) (m i : Nat) : Prop where
  bB : Blk w pb 22 #[.slice (some ⟨h, o, none⟩) b.length cap]
  bP : Blk w pp 36 #[.slice (some ⟨gp, 0, none⟩) b.length b.length]
  bL : Blk w pl 164 #[.map (some bm)]
  bK : Blk w pk 166 #[.func (.func 92) #[] #[.pointer (some ⟨pb, 0, none⟩)]]
  rd : ∀ j, j < b.length → w.cell? ⟨h, o + j, none⟩ = some (.int .u8 ((b.getD j 0).toNat : Int))
  own : w.ownsRow T 3 1 (.slice (some ⟨gp, 0, none⟩) b.length b.length) b.length (PI pv)
  mp : w.ownsMap Tryd.prog 165 (plainElem Tryd.prog 3) bm m D
  inv : MInv D b i
  hm : m ≤ i
  pvi : ∀ j, j < i → j + 3 ≤ b.length → pv.getD j 0 = optI (lastB b j j)
  t1 : T ≤ pb ∧ T ≤ pp ∧ T ≤ pl ∧ T ≤ pk ∧ T ≤ bm
  hT : T ≤ w.heap.size
  hlt : h < T
section
variable {w w' : World} {T pb pp pl pk bm gp h o cap m i : Nat} {b : List UInt8} {pv : List Int} {D : DataW Unit}
theorem FS.grow (s : FS w T pb pp pl pk bm gp h o cap b pv D m i) (n : Nat) (os : Array Obj) : FS (Sort.grow (w.drewN n) os) T pb pp pl pk bm gp h o cap b pv D m i :=
  ⟨grow_blk s.bB n os, grow_blk s.bP n os, grow_blk s.bL n os, grow_blk s.bK n os, fun j hj => cell_grown (block_lt_of_cell (s.rd j hj)) (s.rd j hj) n os, s.own.kept (grow_gb w n os) (by simp [Value.ownBlock]),
    s.mp.kept (grow_gb w n os) (by simp), s.inv, s.hm, s.pvi, s.t1, Nat.le_trans s.hT (grow_gb w n os).size, s.hlt⟩
theorem FS.plen (s : FS w T pb pp pl pk bm gp h o cap b pv D m i) : pv.length = b.length := by
  have := s.own.1
  simpa [PI] using this
/-- a place of prev is written -/
theorem FS.set_ (s : FS w T pb pp pl pk bm gp h o cap b pv D m i) (x : Int) : FS (w.setCell ⟨gp, i, none⟩ (.int .i64 x)) T pb pp pl pk bm gp h o cap b (pv.set i x) D m i := by
  have hgp := (s.own.lt gp rfl).1
  refine ⟨s.bB.far (p := ⟨gp, i, none⟩) (fun e => own_blk_ne s.own s.bB (by decide) (by rw [e]; rfl)) _, s.bP.far (p := ⟨gp, i, none⟩) (fun e => own_blk_ne s.own s.bP (by decide) (by rw [e]; rfl)) _,
    s.bL.far (p := ⟨gp, i, none⟩) (fun e => own_blk_ne s.own s.bL (by decide) (by rw [e]; rfl)) _, s.bK.far (p := ⟨gp, i, none⟩) (fun e => own_blk_ne s.own s.bK (by decide) (by rw [e]; rfl)) _, fun j hj => ?_, ?_, ?_, s.inv, s.hm, fun j hj h3 => ?_, s.t1, by simpa using s.hT, s.hlt⟩
  · have hne : gp ≠ h := by have := s.hlt; omega
    rw [World.cell?_setCell_other _ _ _ _ (by first | exact (fun e => hne (congrArg Addr.block e)) | exact (fun e => hne (congrArg Addr.block e).symm))]
    exact s.rd j hj
  · have := own_set (i := i) s.own (.int .i64 x)
    have e : (PI pv).set i (.int .i64 x) = PI (pv.set i x) := by simp [PI, List.map_set]
    rw [e] at this
    exact this
  · rcases s.own.2 with ⟨hv, _⟩ | ⟨g, c, cur, hv, _, hb, _⟩
    · cases hv
    · injection hv with h1 h2 h3
      injection h1 with h1
      injection h1 with h1
      subst h1
      exact s.mp.setCell (a := ⟨gp, i, none⟩) (ownsMap_blk s.mp (show Blk w gp 3 cur from hb)) _
  · rw [List.getD_eq_getElem?_getD, List.getElem?_set, if_neg (by omega), ← List.getD_eq_getElem?_getD]
    exact s.pvi j hj h3
theorem mapTurned_blk {g : Nat} {t : TypeId} {cs : Array Value} (hb : Blk w g t cs) (ht : w.mapTurned w' bm) (hne : bm ≠ g) : Blk w' g t cs := hb.gb ht.grown (fun e => hne (Option.some.inj e).symm)
/-- the map has taken place i -/
theorem FS.put (s : FS w T pb pp pl pk bm gp h o cap b pv D m i) (hi : i + 3 ≤ b.length) (hp : pv.getD i 0 = optI (lastB b i i)) (hmp : w'.ownsMap Tryd.prog 165 (plainElem Tryd.prog 3) bm (m + 1) (D.put (kb b i) (.lit (.int .i64 (i : Int))))) (ht : w.mapTurned w' bm) :
    FS w' T pb pp pl pk bm gp h o cap b pv (D.put (kb b i) (.lit (.int .i64 (i : Int)))) (m + 1) (i + 1) := by
  refine ⟨mapTurned_blk s.bB ht (ownsMap_blk s.mp s.bB), mapTurned_blk s.bP ht (ownsMap_blk s.mp s.bP), mapTurned_blk s.bL ht (ownsMap_blk s.mp s.bL), mapTurned_blk s.bK ht (ownsMap_blk s.mp s.bK), fun j hj => ?_, ?_, hmp, s.inv.put hi, by have := s.hm; omega, fun j hj h3 => ?_, s.t1, Nat.le_trans s.hT ht.grown.size, s.hlt⟩
  · have := s.rd j hj
    rw [← this]
    exact World.cell?_of_block (ht.grown.block h (block_lt_of_cell (s.rd j hj)) (fun e => by have h1 := Option.some.inj e; have := s.t1; have := s.hlt; omega))
  · refine s.own.kept ht.grown ?_
    rcases s.own.2 with ⟨hv, _⟩ | ⟨g, c, cur, hv, _, hb, _⟩
    · cases hv
    · injection hv with h1 h2 h3
      injection h1 with h1
      injection h1 with h1
      subst h1
      exact .inr (fun e => ownsMap_blk s.mp (show Blk w gp 3 cur from hb) (Option.some.inj e).symm)
  · by_cases e : j = i
    · subst e; exact hp
    · exact s.pvi j (by omega) h3
theorem FS.skip (s : FS w T pb pp pl pk bm gp h o cap b pv D m i) (hi : ¬ i + 3 ≤ b.length) : FS w T pb pp pl pk bm gp h o cap b pv D m (i + 1) :=
  ⟨s.bB, s.bP, s.bL, s.bK, s.rd, s.own, s.mp, s.inv.skip hi, by have := s.hm; omega, fun j hj h3 => s.pvi j (by omega) h3, s.t1, s.hT, s.hlt⟩
end
theorem zero3f (w : World) : (zeroValue 3).run Tryd.prog w = .ok (.int .i64 0) w := by kernel_rfl
abbrev VK (b : List UInt8) (i : Nat) : Value := V3 (b.getD i 0).toNat (b.getD (i + 1) 0).toNat (b.getD (i + 2) 0).toNat
theorem fs_look {w : World} {T pb pp pl pk bm gp h o cap m i : Nat} {b : List UInt8} {pv : List Int} {D : DataW Unit} (s : FS w T pb pp pl pk bm gp h o cap b pv D m i) :
    ∃ c : Int, D.atKey (kb b i) (.lit (.int .i64 0)) = .lit (.int .i64 c) ∧ (Lit.int .i64 c).wf = true ∧
      ∀ n os, (Instr.lookup 164 (.map (some bm)) (VK b i) true).run Tryd.prog (Sort.grow (w.drewN n) os) = .ok (.tuple #[.int .i64 c, .bool (has D (kb b i))]) (Sort.grow (w.drewN n) os) := by
  have h3 : Tryd.prog.underlying 3 = some (.int .i64) := by kernel_rfl
  have gen : ∀ n os, ∃ c : Int, D.atKey (kb b i) (.lit (.int .i64 0)) = .lit (.int .i64 c) ∧ (Lit.int .i64 c).wf = true ∧
      (Instr.lookup 164 (.map (some bm)) (VK b i) true).run Tryd.prog (Sort.grow (w.drewN n) os) = .ok (.tuple #[.int .i64 c, .bool (has D (kb b i))]) (Sort.grow (w.drewN n) os) := by
    intro n os
    obtain ⟨v, ps, hrun, hv⟩ := (s.grow n os).mp.look_ok key_law Tryd.underlying164 (zero3f _) (plainElem_int h3 (by decide)) (kb_key b i)
    obtain ⟨c, rfl, hc, hwc⟩ := plainElem_int_inv h3 hv
    exact ⟨c, congrArg Prod.fst hc, hwc, hrun⟩
  obtain ⟨c, h1, h2, _⟩ := gen 0 #[]
  refine ⟨c, h1, h2, fun n os => ?_⟩
  obtain ⟨c', h1', _, h3'⟩ := gen n os
  rw [h1] at h1'
  injection h1' with h1'
  injection h1' with _ h1'
  subst h1'
  exact h3'
theorem fs_store {w : World} {T pb pp pl pk bm gp h o cap m i : Nat} {b : List UInt8} {pv : List Int} {D : DataW Unit} (s : FS w T pb pp pl pk bm gp h o cap b pv D m i) (hi : i + 3 ≤ b.length) (hl : b.length ≤ 1000000) (hp : pv.getD i 0 = optI (lastB b i i)) :
    ∃ w', (Instr.mapUpdate 164 (.map (some bm)) (VK b i) (.int .i64 (i : Int))).run Tryd.prog w = .ok () w' ∧
      FS w' T pb pp pl pk bm gp h o cap b pv (D.put (kb b i) (.lit (.int .i64 (i : Int)))) (m + 1) (i + 1) ∧ w.mapTurned w' bm := by
  have h3 : Tryd.prog.underlying 3 = some (.int .i64) := by kernel_rfl
  have hm := s.hm
  obtain ⟨w', h1, h2, h4⟩ := s.mp.store key_law Tryd.underlying164 (by unfold maxLen; omega) (kb_key b i) (plainElem_int h3 (a := (i : Int)) (WalkArith.wf_i64 (by omega)))
  exact ⟨w', h1, s.put hi hp h2 h4, h4⟩
def Fst (w : World) (T pb pp pl pk bm gp h o cap : Nat) (b : List UInt8) (i : Nat) : Prop := ∃ pv D m, FS w T pb pp pl pk bm gp h o cap b pv D m i
/-- old memory stays, and every block of cells that are no ints -/
structure NB (T : Nat) (w w' : World) : Prop where
  b : Below T w w'
  k : ∀ g t cs, t ≠ 3 → Blk w g t cs → Blk w' g t cs
theorem NB.refl (T : Nat) (w : World) : NB T w w := ⟨Below.refl _ _, fun _ _ _ _ h => h⟩
theorem NB.trans {T : Nat} {a b c : World} (h : NB T a b) (k : NB T b c) : NB T a c := ⟨h.b.trans k.b, fun g t cs ht x => k.k g t cs ht (h.k g t cs ht x)⟩
theorem NB.setP {T g i n c : Nat} {a b : World} {xs : List Value} (h : NB T a b) (ho : b.ownsRow T 3 1 (.slice (some ⟨g, 0, none⟩) n c) n xs) (v : Value) : NB T a (b.setCell ⟨g, i, none⟩ v) :=
  ⟨h.b.setCell (p := ⟨g, i, none⟩) (ho.lt g rfl).1 _, fun g' t cs ht x => (h.k g' t cs ht x).far (p := ⟨g, i, none⟩) (fun e => own_blk_ne ho (h.k g' t cs ht x) (fun e2 => ht e2.symm) (by rw [e]; rfl)) v⟩
theorem NB.drew {T : Nat} {a b : World} (h : NB T a b) : NB T a b.drew := ⟨h.b.drew, h.k⟩
def NotePost (w : World) (T pb pp pl pk bm gp h o cap : Nat) (b : List UInt8) (i : Nat) (e : Ending) (w' : World) : Prop :=
  e = .returned (.tuple #[]) ∧ Fst w' T pb pp pl pk bm gp h o cap b (i + 1) ∧ NB T w w'
theorem FS.key {w : World} {T pb pp pl pk bm gp h o cap m i : Nat} {b : List UInt8} {pv : List Int} {D : DataW Unit} (s : FS w T pb pp pl pk bm gp h o cap b pv D m i) (hi : i + 3 ≤ b.length) (hl : b.length ≤ 1000000) :
    Calls Tryd.prog 92 #[.int .i64 i, .pointer (some ⟨pb, 0, none⟩)] w fun e w' => e = .returned (VK b i) ∧ ∃ q os', w' = Sort.grow (w.drewN q) os' :=
  key_any pb h o b.length cap i b w (by rw [s.bB.cell]; rfl) rfl s.rd hi hl
theorem grow_below (T : Nat) (w : World) (n : Nat) (os : Array Obj) (hT : T ≤ w.heap.size) : NB T w (Sort.grow (w.drewN n) os) :=
  ⟨⟨rfl, rfl, rfl, (grow_gb w n os).size, fun k hk => (grow_gb w n os).block k (by omega) (by simp)⟩, fun _ _ _ _ h => grow_blk h n os⟩
set_option maxHeartbeats 2000000 in
theorem note_any (w : World) (T pb pp pl pk bm gp h o cap i n : Nat) (b : List UInt8) (hs : Fst w T pb pp pl pk bm gp h o cap b i) (hn : n = b.length) (hi : i < n) (hl : n ≤ 1000000) :
    Calls Tryd.prog 93 #[.int .i64 i, .pointer (some ⟨pb, 0, none⟩), .pointer (some ⟨pp, 0, none⟩), .pointer (some ⟨pl, 0, none⟩), .pointer (some ⟨pk, 0, none⟩)] w fun e w' => NotePost w T pb pp pl pk bm gp h o cap b i e w' := by
  obtain ⟨pv, D, m, s⟩ := hs
  have HS := Lib.hid s
  have HN := Lib.hid hn
  have hcb := s.bB.cell 0
  have hcp := s.bP.cell 0
  simp at hcb hcp
  rw [← hn] at hcb hcp
  obtain ⟨i3, hi3⟩ : ∃ k, k = i + 3 := ⟨_, rfl⟩
  have e3 : (i : Int) + 3 = (i3 : Int) := by omega
  by_cases h3 : i3 ≤ n
  · have hd : decide ((i3 : Int) ≤ (n : Int)) = true := decide_eq_true (by omega)
    have hib : Hid (i + 3 ≤ b.length) := by unfold Hid; omega
    have hlb : Hid (b.length ≤ 1000000) := by unfold Hid; omega
    have hpl := s.plen
    obtain ⟨uc, huc, hfc, _⟩ := own_cell s.own (i := i) (by omega)
    have HS1 := Lib.hid (s.set_ (-1))
    have HB1 : Hid (NB T w (w.setCell ⟨gp, i, none⟩ (.int .i64 (-1)))) := (NB.refl T w).setP s.own _
    have HGP : Hid (T ≤ gp) := (s.own.lt gp rfl).1
    have hpv1 : Hid ((pv.set i (-1)).getD i 0 = -1) := by
      unfold Hid
      rw [List.getD_eq_getElem?_getD, List.getElem?_set, if_pos rfl, if_pos (by omega)]
      rfl
    have HPL : Hid (pv.length = b.length) := hpl
    clear s hi3 hn hpl HS
    go_enter Tryd.func93, Tryd.ntmps93
    go_wp2_with fail
    generalize w.setCell ⟨gp, i, none⟩ (.int .i64 (-1)) = w1 at *
    generalize pv.set i (-1) = pv1 at *
    obtain ⟨c, hc1, hc2, hlk⟩ := fs_look HS1.out
    have hcl : w1.cell? ⟨pl, 0, none⟩ = some (.map (some bm)) := by rw [HS1.out.bL.cell]; rfl
    have hck : w1.cell? ⟨pk, 0, none⟩ = some (.func (.func 92) #[] #[.pointer (some ⟨pb, 0, none⟩)]) := by rw [HS1.out.bK.cell]; rfl
    have kl := fun n os => cell_grown HS1.out.bL.lt hcl n os
    have kk := fun n os => cell_grown HS1.out.bK.lt hck n os
    have HK1 : Hid (∀ n os, Calls Tryd.prog 92 #[.int .i64 i, .pointer (some ⟨pb, 0, none⟩)] (Sort.grow (w1.drewN n) os) fun e w' => e = .returned (VK b i) ∧ ∃ q os', w' = Sort.grow ((Sort.grow (w1.drewN n) os).drewN q) os') :=
      fun n os => (HS1.out.grow n os).key hib.out hlb.out
    have HIV := Lib.hid (HS1.out.inv.2 i hib.out)
    have hmi := HS1.out.t1
    clear hcl hck huc hfc
    -- what is done behind the look-up
    have FIN : Hid (∀ (w2 : World) pv2, FS w2 T pb pp pl pk bm gp h o cap b pv2 D m i → pv2.getD i 0 = optI (lastB b i i) → NB T w w2 →
        ∀ q os, ∃ w4, (Instr.mapUpdate 164 (.map (some bm)) (VK b i) (.int .i64 (i : Int))).run Tryd.prog (Sort.grow (w2.drewN (1 + q)) os) = .ok () w4 ∧ (w4.cell? ⟨pl, 0, none⟩ = some (.map (some bm)) ∧ w4.cell? ⟨pk, 0, none⟩ = some (.func (.func 92) #[] #[.pointer (some ⟨pb, 0, none⟩)])) ∧
          ((Sort.grow ((w2.drew).drewN q) os).cell? ⟨pl, 0, none⟩ = some (.map (some bm)) ∧ (Sort.grow ((w2.drew).drewN q) os).cell? ⟨pk, 0, none⟩ = some (.func (.func 92) #[] #[.pointer (some ⟨pb, 0, none⟩)])) ∧ NotePost w T pb pp pl pk bm gp h o cap b i (.returned (.tuple #[])) w4) := by
      intro w2 pv2 s2 hp2 hb2 q os
      have s3 : FS (Sort.grow ((w2.drew).drewN q) os) T pb pp pl pk bm gp h o cap b pv2 D m i := by
        have := s2.grow (1 + q) os
        rwa [← World.drewN_drewN] at this
      obtain ⟨w4, hrun, hS4, hT4⟩ := fs_store s3 hib.out hlb.out hp2
      have hrun2 : (Instr.mapUpdate 164 (.map (some bm)) (VK b i) (.int .i64 (i : Int))).run Tryd.prog (Sort.grow (w2.drewN (1 + q)) os) = .ok () w4 := by
        rw [← World.drewN_drewN]
        exact hrun
      refine ⟨w4, hrun2, ⟨by rw [hS4.bL.cell]; rfl, by rw [hS4.bK.cell]; rfl⟩, ⟨by rw [s3.bL.cell]; rfl, by rw [s3.bK.cell]; rfl⟩, rfl, ⟨_, _, _, hS4⟩, ?_⟩
      have h5 : NB T w (Sort.grow ((w2.drew).drewN q) os) := hb2.drew.trans (grow_below T w2.drew q os s2.hT)
      exact h5.trans ⟨⟨hT4.grown.os, hT4.grown.tape, hT4.grown.output, hT4.grown.size, fun k hk => hT4.grown.block k (by have := s3.hT; omega) (fun e => by have := Option.some.inj e; omega)⟩, fun g t cs _ x => mapTurned_blk x hT4 (ownsMap_blk s3.mp x)⟩
    cases hlb2 : lastB b i i with
    | none =>
      have hh := (HIV.out).1 hlb2
      rw [hh] at hlk
      have hmix : Tryd.prog.follows Departure.mixedOrders = true := by kernel_rfl
      clear hc1 hh HIV
      go_wp2_with fail
      go_quiet_grown (first | (go_at_call 92; refine Calls.grown_of (HK1.out _ _)))
      have S2 := Lib.hid (HS1.out.grow nq osq)
      have B2 := Lib.hid (HB1.out.trans (grow_below T w1 nq osq HS1.out.hT))
      clear kl kk hlk HK1 HS1 HB1
      generalize Sort.grow (w1.drewN nq) osq = w2 at *
      have HF := Lib.hid (FIN.out w2 pv1 S2.out (by rw [hlb2]; exact hpv1.out) B2.out)
      have hcl : w2.cell? ⟨pl, 0, none⟩ = some (.map (some bm)) := by rw [S2.out.bL.cell]; rfl
      have hck : w2.cell? ⟨pk, 0, none⟩ = some (.func (.func 92) #[] #[.pointer (some ⟨pb, 0, none⟩)]) := by rw [S2.out.bK.cell]; rfl
      have HK2 : Hid (Calls Tryd.prog 92 #[.int .i64 i, .pointer (some ⟨pb, 0, none⟩)] w2.drew fun e w' => e = .returned (VK b i) ∧ ∃ q os', w' = Sort.grow (w2.drew.drewN q) os') := (S2.out.grow 1 #[] |> fun s => by
        have : Sort.grow (w2.drewN 1) #[] = w2.drew := Sort.grow_empty _
        rw [this] at s
        exact s.key hib.out hlb.out)
      go_wp2_with fail
      go_region_held3 (fun w' => w'.cell? ⟨pl, 0, none⟩ = some (.map (some bm)) ∧ w'.cell? ⟨pk, 0, none⟩ = some (.func (.func 92) #[] #[.pointer (some ⟨pb, 0, none⟩)])) (first | exact k4 | exact k3 | exact ⟨hcl, hck⟩)
        (first
          | (go_at_call 92; refine HK2.out.mono ?_; rintro e w3 ⟨rfl, q, os, rfl⟩; obtain ⟨w4, hrun, k4, k3, hpost⟩ := HF.out q os))
      all_goals
        go_wp2_with fail
        go_end0
        exact hpost
    | some p =>
      obtain ⟨hh, ha⟩ := (HIV.out).2 p hlb2
      rw [hh] at hlk
      rw [hc1] at ha
      injection ha with ha
      injection ha with _ ha
      subst ha
      have hpi := (lastB_lt b i i p hlb2).1
      have hmix : Tryd.prog.follows Departure.mixedOrders = true := by kernel_rfl
      clear hc1 hh HIV
      go_wp2_with fail
      go_quiet_grown (first | (go_at_call 92; refine Calls.grown_of (HK1.out _ _)))
      have S1 := Lib.hid (HS1.out.grow nq osq)
      have B1 := Lib.hid (HB1.out.trans (grow_below T w1 nq osq HS1.out.hT))
      clear kl kk hlk HK1 HS1 HB1
      generalize Sort.grow (w1.drewN nq) osq = w1' at *
      have hcp1 : w1'.cell? ⟨pp, 0, none⟩ = some (.slice (some ⟨gp, 0, none⟩) n n) := by rw [S1.out.bP.cell, HN.out]; rfl
      obtain ⟨uc1, huc1, hfc1, _⟩ := own_cell S1.out.own (i := i) (by rw [← HN.out]; exact hi)
      have S2 := Lib.hid (S1.out.set_ (p : Int))
      have B2 : Hid (NB T w (w1'.setCell ⟨gp, i, none⟩ (.int .i64 (p : Int)))) := B1.out.setP S1.out.own _
      have hpv2 : Hid ((pv1.set i (p : Int)).getD i 0 = (p : Int)) := by
        unfold Hid
        rw [List.getD_eq_getElem?_getD, List.getElem?_set, if_pos rfl, if_pos (by rw [S1.out.plen, ← HN.out]; exact hi)]
        rfl
      clear hcb hcp
      go_wp2_with fail
      clear hcp1 huc1 hfc1 S1 B1
      generalize w1'.setCell ⟨gp, i, none⟩ (.int .i64 (p : Int)) = w2 at *
      generalize pv1.set i (p : Int) = pv2 at *
      have HF := Lib.hid (FIN.out w2 pv2 S2.out (by rw [hlb2]; exact hpv2.out) B2.out)
      have hcl : w2.cell? ⟨pl, 0, none⟩ = some (.map (some bm)) := by rw [S2.out.bL.cell]; rfl
      have hck : w2.cell? ⟨pk, 0, none⟩ = some (.func (.func 92) #[] #[.pointer (some ⟨pb, 0, none⟩)]) := by rw [S2.out.bK.cell]; rfl
      have HK2 : Hid (Calls Tryd.prog 92 #[.int .i64 i, .pointer (some ⟨pb, 0, none⟩)] w2.drew fun e w' => e = .returned (VK b i) ∧ ∃ q os', w' = Sort.grow (w2.drew.drewN q) os') := (S2.out.grow 1 #[] |> fun s => by
        have : Sort.grow (w2.drewN 1) #[] = w2.drew := Sort.grow_empty _
        rw [this] at s
        exact s.key hib.out hlb.out)
      go_wp2_with fail
      go_region_held3 (fun w' => w'.cell? ⟨pl, 0, none⟩ = some (.map (some bm)) ∧ w'.cell? ⟨pk, 0, none⟩ = some (.func (.func 92) #[] #[.pointer (some ⟨pb, 0, none⟩)])) (first | exact k4 | exact k3 | exact ⟨hcl, hck⟩)
        (first
          | (go_at_call 92; refine HK2.out.mono ?_; rintro e w3 ⟨rfl, q, os, rfl⟩; obtain ⟨w4, hrun, k4, k3, hpost⟩ := HF.out q os))
      all_goals
        go_wp2_with fail
        go_end0
        exact hpost
  · have hd : decide ((i3 : Int) ≤ (n : Int)) = false := decide_eq_false (by omega)
    have HP : Hid (NotePost w T pb pp pl pk bm gp h o cap b i (.returned (.tuple #[])) w) := ⟨rfl, ⟨pv, D, m, HS.out.skip (by omega)⟩, NB.refl _ _⟩
    clear s hi3 hn HS
    go_enter Tryd.func93, Tryd.ntmps93
    go_wp2_with fail
    go_end0
    exact HP.out
end Go.Proofs.YtejgoienkpaabaaDoor
