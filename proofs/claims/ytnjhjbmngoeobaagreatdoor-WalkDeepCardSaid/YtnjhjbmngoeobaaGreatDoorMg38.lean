/- Laws towards WalkDeep: BegB, WdP, WdQ. -/
import Derived.Test.YtnjhjbmngoeobaaGreatDoorMg37
namespace Go.Proofs.YtnjhjbmngoeobaaGreatDoor
open Go.RowKit Go.Maps
set_option maxRecDepth 100000
theorem beg0 : Beg0 iT iC iG b0T b0C b0G [(iT, b0T), (iC, b0C)] s0 :=
 ⟨rfl, sha0T, sha0C, sha0G, kn_0T, kn0C, kn0G, enc0C, enc0G, get0C, get0G, ins0C, ins0G, by simp, s0_good, ⟨by decide +kernel, .inr k_G⟩, ⟨by decide +kernel, k_C⟩, by simp [endsP, end_G], by simp [endsP, end_G, end_C], end_G, by rw [set_A]; rfl, set_HC, chn0⟩
theorem begun_any (w : World) (he : ErrTab w) (hd : DigTab w) (hsort : ∀ B, SortP B) : Calls Tryz.prog 9 #[] w (BegP w) := begun_core w iT iC iG b0T b0C b0G _ s0 beg0 he hd hsort
def wi (x : Int) (m : Nat) : Nat := ((x.tmod (m : Int) + (m : Int)).tmod (m : Int)).toNat
theorem wi_lt (x : Int) {m : Nat} (hm : 0 < m) : wi x m < m := by
 have h1 := Int.tmod_lt_of_pos x (show (0 : Int) < (m : Int) by omega)
 have h2 : -(m : Int) < x.tmod (m : Int) := Int.lt_tmod_of_pos x (by omega)
 have h3 := Int.tmod_lt_of_pos (x.tmod (m : Int) + (m : Int)) (show (0 : Int) < (m : Int) by omega)
 have h4 : 0 ≤ (x.tmod (m : Int) + (m : Int)).tmod (m : Int) := Int.tmod_nonneg _ (by omega)
 unfold wi
 omega
theorem wi_eq (x : Int) {m : Nat} (hm : 0 < m) : (x.tmod (m : Int) + (m : Int)).tmod (m : Int) = (wi x m : Int) := by
 have h2 : -(m : Int) < x.tmod (m : Int) := Int.lt_tmod_of_pos x (by omega)
 have h4 : 0 ≤ (x.tmod (m : Int) + (m : Int)).tmod (m : Int) := Int.tmod_nonneg _ (by omega)
 unfold wi
 omega
theorem within_any (x : Int) (m : Nat) (hm : 0 < m) (hm2 : m ≤ 5000) (w : World) : Calls Tryz.prog 5 #[.int .i64 x, .int .i64 (m : Int)] w fun e w' => e = .returned (.int .i64 (wi x m : Int)) ∧ w = w' := by
 have h1 := Int.tmod_lt_of_pos x (show (0 : Int) < (m : Int) by omega)
 have h2 : -(m : Int) < x.tmod (m : Int) := Int.lt_tmod_of_pos x (by omega)
 have h3 := wi_lt x hm
 have e1 : IntKind.i64.wrap (x.tmod (m : Int)) = x.tmod (m : Int) := by rw [IntKind.wrap_i64]; omega
 have e2 : IntKind.i64.wrap (x.tmod (m : Int) + (m : Int)) = x.tmod (m : Int) + (m : Int) := wraps_i64 _ (by omega) (by omega)
 have e3 := wi_eq x hm
 have e4 : IntKind.i64.wrap (wi x m : Int) = (wi x m : Int) := wraps_i64 _ (by omega) (by omega)
 have e5 : ¬(m : Int) = 0 := by omega
 have e6 : ¬m = 0 := by omega
 go_enter Tryz.func5, Tryz.ntmps5
 go_wp2_with fail
 go_ret
 exact ⟨rfl, rfl⟩
def Ti (w : World) (A : Option Addr) (l : List Int) : Prop := l = [] ∨ ∃ q o, A = some ⟨q, o, none⟩ ∧ q < w.heap.size ∧ ∀ j, j < l.length → w.cell? ⟨q, o + j, none⟩ = some (.int .i64 (l.getD j 0))
theorem Ti.below {w w' : World} {A : Option Addr} {l : List Int} (h : Ti w A l) (hb : Below w.heap.size w w') : Ti w' A l := by
 rcases h with h | ⟨q, o, h1, h2, h3⟩
 · exact .inl h
 · exact .inr ⟨q, o, h1, Nat.lt_of_lt_of_le h2 hb.size, fun j hj => (hb.cell (p := ⟨q, o + j, none⟩) h2).trans (h3 j hj)⟩
def tmF (l : List Int) (i : Nat) : Nat := if l = [] then 0 else wi (l.getD (i % l.length) 0) 1000
theorem tmF_ok (l : List Int) : Tms (tmF l) := fun i => by
 unfold tmF
 split
 · omega
 · have := wi_lt (l.getD (i % l.length) 0) (m := 1000) (by omega)
   omega
theorem Bq_eq (i : Nat) : Bq i = [1, UInt8.ofNat i, UInt8.ofNat (i / 256)] := rfl
theorem sl_three (w : World) (t : TypeId) (x y z : UInt8) : Sl (w.alloc (.cells #[.int .u8 (x.toNat : Int), .int .u8 (y.toNat : Int), .int .u8 (z.toNat : Int)] t)) (some ⟨w.heap.size, 0, none⟩) [x, y, z] :=
 sl_of_blk (Blk.new w t _) (fun j hj => by
  have : j = 0 ∨ j = 1 ∨ j = 2 := by simp at hj; omega
  rcases this with rfl | rfl | rfl <;> rfl)
theorem lay_obT (b : Id) : layOb (obT b) = 2 :: 1 :: layEnt ⟨1, [102], b⟩ := by
 rw [lay_T]
 simp only [layEnt, layB_one]
 rfl
def ParV (w : World) (P : Value) (ps : List Id) : Prop := (ps = [] ∧ P = .slice none 0 0) ∨ ∃ p q, ps = [p] ∧ P = .slice (some ⟨q, 0, none⟩) 1 1 ∧ q < w.heap.size ∧ w.rangeAt q 0 (U p.1)
theorem ParV.below {w w' : World} {P : Value} {ps : List Id} (h : ParV w P ps) (hb : Below w.heap.size w w') : ParV w' P ps := by
 rcases h with h | ⟨p, q, h1, h2, h3, h4⟩
 · exact .inl h
 · exact .inr ⟨p, q, h1, h2, Nat.lt_of_lt_of_le h3 hb.size, rangeAt_below h4 hb h3⟩
def comQ (i : Id) (P : Value) (tm : Nat) : List Value := comL i P (.string ⟨#[]⟩) (.int .u64 (tm : Int)) (.string ⟨#[]⟩)
theorem enc_com (w : World) (i : Id) (P : Value) (ps : List Id) (tm : Nat) (ht : tm ≤ 1099511627776) (hp : ParV w P ps) :
 Calls Tryz.prog 7 #[.agg (obL (.int .i64 3) (.slice none 0 0) (.slice none 0 0) (comQ i P tm) zTag).toArray] w (EncPost w (layOb (obC i ps tm))) := by
 rcases hp with ⟨rfl, rfl⟩ | ⟨p, q, rfl, rfl, hq, hr⟩
 · exact enc_com0 w i tm _ _ ht
 · exact enc_com1 w i p q 1 tm _ _ ht hr hq
theorem kn_com (i : Id) (ps : List Id) (tm : Nat) (w : World) (P : Value) (hp : ParV w P ps) (ht : tm ≤ 1099511627776) : Kn (layOb (obC i ps tm)) (obC i ps tm) :=
 kn_obC i ps tm (by
  rcases hp with ⟨h, _⟩ | ⟨p, q, h, _⟩
  · exact .inl h
  · exact .inr ⟨p, h⟩) ht
def Cids (tm : Nat → Nat) (i : Nat) : List Id := (List.range i).map fun j => shaI (Cq tm j)
theorem Cids_len (tm : Nat → Nat) (i : Nat) : (Cids tm i).length = i := by simp [Cids]
theorem Cids_succ (tm : Nat → Nat) (i : Nat) : Cids tm (i + 1) = Cids tm i ++ [shaI (Cq tm i)] := by simp [Cids, List.range_succ]
theorem Cids_at (tm : Nat → Nat) {i j : Nat} (h : j < i) : (Cids tm i).getD j zeroId = shaI (Cq tm j) := by
 unfold Cids
 rw [List.getD_eq_getElem?_getD, List.getElem?_map, List.getElem?_range h]
 rfl
theorem own_at {w : World} {B n k q : Nat} {l : List Id} (h : w.ownsRow B 30 32 (.slice (some ⟨q, 0, none⟩) n k) n (IdsU l)) {j : Nat} (hj : j < l.length) : w.rangeAt q (j * 32) (U (l.getD j zeroId).1) := fun t v hv => by
 have := h.cells (g := q) rfl (j * 32 + t) v (IdsU_at l j t v hj hv)
 rw [addr_add, Nat.zero_add] at this
 exact this
theorem u8m (i : Nat) : ((UInt8.ofNat i).toNat : Int) = (i : Int) % 256 := by
 rw [UInt8.toNat_ofNat']
 omega
theorem sl_B (w : World) (i ih : Nat) (h : ih = i / 256) (hi : i ≤ 1500) : Sl (w.alloc (.cells #[.int .u8 1, .int .u8 ((i : Int) % 256), .int .u8 (ih : Int)] 5)) (some ⟨w.heap.size, 0, none⟩) (Bq i) := by
 have h1 := sl_three w 5 1 (UInt8.ofNat i) (UInt8.ofNat ih)
 rw [u8m, u8m, show (ih : Int) % 256 = (ih : Int) from by omega] at h1
 rw [Bq_eq, ← h]
 exact h1
theorem StA.rowk {w w' : World} {B a m : Nat} {S : Sto} (h : StA w B a m S) {base e size n c : Nat} {A : Option Addr} {xs : List Value} (ho : w.ownsRow base e size (.slice A n c) n xs) (hg : w.grownBy w' (some m)) : w'.ownsRow base e size (.slice A n c) n xs := by
 obtain ⟨D, hD⟩ := h.st
 have hr := row_cells ho
 refine ho.kept hg ?_
 cases A with
 | none => exact .inl rfl
 | some p =>
   obtain ⟨cur, hc⟩ := hr p rfl
   exact .inr (fun e => ownsMap_apart hD.mp hc (Option.some.inj e).symm)
theorem StA.blkk {w w' : World} {B a m : Nat} {S : Sto} (h : StA w B a m S) {g : Nat} {t : TypeId} {cs : Array Value} (hb : Blk w g t cs) (hg : w.grownBy w' (some m)) : Blk w' g t cs := by
 obtain ⟨D, hD⟩ := h.st
 exact hb.gb hg (fun e => ownsMap_apart hD.mp hb (Option.some.inj e).symm)
theorem StA.blkw {w w' : World} {B a m : Nat} {S : Sto} (h : StA w B a m S) {g : Nat} {t : TypeId} {cs : Array Value} (hc : Blk w g t cs) (ht : t ≠ 5) (ht2 : t ≠ 61) (hge : B ≤ g) (hg' : w.grownBy w' (some g)) : StA w' B a m S := by
 obtain ⟨D, hD⟩ := h.st
 refine ⟨⟨D, hD.blk.gb hg' (fun e => Blk.ne_ hD.blk hc (Ne.symm ht2) (Option.some.inj e)), hD.mp.kept hg' (fun e => ownsMap_apart hD.mp hc (Option.some.inj e)), hD.size, hD.hs, fun i b hi => ?_, hD.ha, hD.hm⟩, h.ok, h.kn, h.er.gb hg' h.er.lt (by have := h.lo.1; omega), ⟨RndTab.gb h.dg.rnd hg' (by have := h.lo.2.2; omega), BegTab.gb h.dg.beg hg' (by have := h.lo.2.1; omega)⟩, h.lo⟩
 obtain ⟨A, c, e1, h2, h3, h4⟩ := hD.at_ i b hi
 have hne : ∀ q, A = some q → q.block ≠ g := fun q hq => by
  obtain ⟨cs2, hcs⟩ := (h4 q hq).2
  exact Blk.ne_ hcs hc (Ne.symm ht)
 refine ⟨A, c, e1, ?_, h3, fun q hq => ⟨(h4 q hq).1, ?_⟩⟩
 · rcases h2 with h5 | ⟨q, o, rfl, hlt, hcl⟩
   · exact .inl h5
   · exact .inr ⟨q, o, rfl, Nat.lt_of_lt_of_le hlt hg'.size, fun j hj => (World.cell?_of_block (a := ⟨q, o + j, none⟩) (hg'.block q hlt (fun e => hne ⟨q, o, none⟩ rfl (Option.some.inj e)))).trans (hcl j hj)⟩
 · obtain ⟨cs2, hcs⟩ := (h4 q hq).2
   exact ⟨cs2, hcs.gb hg' (fun e => hne q hq (Option.some.inj e))⟩
theorem StA.push {w w' : World} {B a m : Nat} {S : Sto} (h : StA w B a m S) {base n k : Nat} {L : Option Addr} {xs : List Value} (ho : w.ownsRow base 30 32 (.slice L n k) n xs) (hB : B ≤ base) (hg : w.grownBy w' (Value.slice L n k).ownBlock) : StA w' B a m S := by
 cases L with
 | none => exact h.below (below_of_gb hg)
 | some p =>
   obtain ⟨cur, hc⟩ := row_cells ho p rfl
   have hge := (ho.lt p.block rfl).1
   exact h.blkw hc (by decide) (by decide) (by omega) hg
theorem StA.hm_ {w : World} {B a m : Nat} {S : Sto} (h : StA w B a m S) : B ≤ m := by
 obtain ⟨D, hD⟩ := h.st
 exact hD.hm
def PutC (S : Sto) (b : Bs) (i : Id) (n : Nat) (S' : Sto) : Prop := (n = 0 ∧ i = shaI b ∧ getS S (shaI b) = none ∧ S' = insS (shaI b) b S) ∨ (n = 0 ∧ i = shaI b ∧ getS S (shaI b) = some b ∧ S' = S) ∨ (n = 45 ∧ S' = S)
theorem PutC.len {S S' : Sto} {b : Bs} {i : Id} {n : Nat} (h : PutC S b i n S') : S'.length ≤ S.length + 1 := by
 rcases h with ⟨_, _, _, rfl⟩ | ⟨_, _, _, rfl⟩ | ⟨_, rfl⟩
 · rw [insS_length]; omega
 · omega
 · omega
theorem PutC.n {S S' : Sto} {b : Bs} {i : Id} {n : Nat} (h : PutC S b i n S') : n = 0 ∨ n = 45 := by
 rcases h with ⟨h, _⟩ | ⟨h, _⟩ | ⟨h, _⟩
 · exact .inl h
 · exact .inl h
 · exact .inr h
theorem PutC.new {S S' : Sto} {b : Bs} {i : Id} {n : Nat} (h : PutC S b i n S') (h0 : n = 0) (hne : ∀ old, getS S (shaI b) = some old → old ≠ b) : i = shaI b ∧ getS S (shaI b) = none ∧ S' = insS (shaI b) b S := by
 rcases h with ⟨_, h1, h2, h3⟩ | ⟨_, _, h2, _⟩ | ⟨h1, _⟩
 · exact ⟨h1, h2, h3⟩
 · exact absurd rfl (hne b h2)
 · omega
theorem entV_lit (i : Id) (d0 d1 d2 d3 d4 d5 d6 d7 d8 d9 d10 d11 d12 d13 d14 d15 d16 d17 d18 d19 d20 d21 d22 d23 d24 d25 d26 d27 d28 d29 d30 d31 : Value) (hU : U i.1 = [d0, d1, d2, d3, d4, d5, d6, d7, d8, d9, d10, d11, d12, d13, d14, d15, d16, d17, d18, d19, d20, d21, d22, d23, d24, d25, d26, d27, d28, d29, d30, d31]) : entV ⟨1, [102], i⟩ = [Value.int .i64 1, .string ⟨#[102]⟩, d0, d1, d2, d3, d4, d5, d6, d7, d8, d9, d10, d11, d12, d13, d14, d15, d16, d17, d18, d19, d20, d21, d22, d23, d24, d25, d26, d27, d28, d29, d30, d31] := by
 unfold entV
 rw [hU]
 rfl
theorem acom_new (w : World) : Hid ((w.alloc (.cells #[Value.int IntKind.u8 0, Value.int IntKind.u8 0, Value.int IntKind.u8 0, Value.int IntKind.u8 0, Value.int IntKind.u8 0, Value.int IntKind.u8 0, Value.int IntKind.u8 0, Value.int IntKind.u8 0, Value.int IntKind.u8 0, Value.int IntKind.u8 0, Value.int IntKind.u8 0, Value.int IntKind.u8 0, Value.int IntKind.u8 0, Value.int IntKind.u8 0, Value.int IntKind.u8 0, Value.int IntKind.u8 0, Value.int IntKind.u8 0, Value.int IntKind.u8 0, Value.int IntKind.u8 0, Value.int IntKind.u8 0, Value.int IntKind.u8 0, Value.int IntKind.u8 0, Value.int IntKind.u8 0, Value.int IntKind.u8 0, Value.int IntKind.u8 0, Value.int IntKind.u8 0, Value.int IntKind.u8 0, Value.int IntKind.u8 0, Value.int IntKind.u8 0, Value.int IntKind.u8 0, Value.int IntKind.u8 0, Value.int IntKind.u8 0, Value.slice none 0 0, Value.string ⟨#[]⟩, Value.int IntKind.u64 0, Value.string ⟨#[]⟩] 43)).heap[w.heap.size]? = some (.cells zCom.toArray 43 (0, 0))) := by
 show _ = _
 rw [show (#[Value.int IntKind.u8 0, Value.int IntKind.u8 0, Value.int IntKind.u8 0, Value.int IntKind.u8 0, Value.int IntKind.u8 0, Value.int IntKind.u8 0, Value.int IntKind.u8 0, Value.int IntKind.u8 0, Value.int IntKind.u8 0, Value.int IntKind.u8 0, Value.int IntKind.u8 0, Value.int IntKind.u8 0, Value.int IntKind.u8 0, Value.int IntKind.u8 0, Value.int IntKind.u8 0, Value.int IntKind.u8 0, Value.int IntKind.u8 0, Value.int IntKind.u8 0, Value.int IntKind.u8 0, Value.int IntKind.u8 0, Value.int IntKind.u8 0, Value.int IntKind.u8 0, Value.int IntKind.u8 0, Value.int IntKind.u8 0, Value.int IntKind.u8 0, Value.int IntKind.u8 0, Value.int IntKind.u8 0, Value.int IntKind.u8 0, Value.int IntKind.u8 0, Value.int IntKind.u8 0, Value.int IntKind.u8 0, Value.int IntKind.u8 0, Value.slice none 0 0, Value.string ⟨#[]⟩, Value.int IntKind.u64 0, Value.string ⟨#[]⟩] : Array Value) = zCom.toArray from by rfl]
 exact heap_alloc_new w _
theorem comQ_len (i : Id) (P : Value) (tm : Nat) : (comQ i P tm).length = 36 := comL_length _ _ _ _ _
theorem comQ_size (i : Id) (P : Value) (tm : Nat) : (Tryz.prog.info? 43).map (·.size) = some (comQ i P tm).length := by
 rw [comQ_len]
 kernel_rfl
theorem comQ_fit (i : Id) (P : Value) (tm : Nat) : 0 + (comQ i P tm).length ≤ zCom.length := by rw [comQ_len]; decide
theorem comQ_splice (i : Id) (P : Value) (tm : Nat) : splice zCom 0 (comQ i P tm) = comQ i P tm := splice_com _ _ _ _ _
theorem comQ_set32 (i : Id) (P Q : Value) (tm : Nat) : (comQ i P tm).toArray.setIfInBounds 32 Q = (comQ i Q tm).toArray := by
 have h : (U i.1).length = 32 := by rw [U_length]; exact i.2
 unfold comQ comL
 rw [List.setIfInBounds_toArray, List.set_append_right _ _ (by rw [h]; exact Nat.le_refl _), h]
 rfl
theorem comQ_set34 (i : Id) (P : Value) (tm t2 : Nat) : (comQ i P tm).toArray.setIfInBounds 34 (.int .u64 (t2 : Int)) = (comQ i P t2).toArray := by
 have h : (U i.1).length = 32 := by rw [U_length]; exact i.2
 unfold comQ comL
 rw [List.setIfInBounds_toArray, List.set_append_right _ _ (by rw [h]; decide), h]
 rfl
def ParW (w : World) (cb : Nat) (P : Value) (ps : List Id) : Prop := (ps = [] ∧ P = .slice none 0 0) ∨ ∃ p q, ps = [p] ∧ P = .slice (some ⟨q, 0, none⟩) 1 1 ∧ cb < q ∧ q < w.heap.size ∧ w.rangeAt q 0 (U p.1)
theorem ParW.v {w : World} {cb : Nat} {P : Value} {ps : List Id} (h : ParW w cb P ps) : ParV w P ps := by
 rcases h with h | ⟨p, q, h1, h2, _, h3, h4⟩
 · exact .inl h
 · exact .inr ⟨p, q, h1, h2, h3, h4⟩
theorem ParW.set {w : World} {cb : Nat} {P : Value} {ps : List Id} (h : ParW w cb P ps) (j : Nat) (v : Value) : ParW (w.setCell ⟨cb, j, none⟩ v) cb P ps := by
 rcases h with h | ⟨p, q, h1, h2, h5, h3, h4⟩
 · exact .inl h
 · refine .inr ⟨p, q, h1, h2, h5, by simpa [World.setCell] using h3, fun k u hu => ?_⟩
   have e : (w.setCell ⟨cb, j, none⟩ v).heap[q]? = w.heap[q]? := Below.heap_setCell w ⟨cb, j, none⟩ v q (by show q ≠ cb; omega)
   exact (World.cell?_of_block (a := ⟨q, 0 + k, none⟩) e).trans (h4 k u hu)
def Wd1 (W1 : World) (tm : Nat → Nat) (a m n : Nat) (v5 v6 v7 : Value) (wr : World) : Prop :=
 ∃ (i c : Nat) (S : Sto) (L : Option Addr) (lc : Nat), i ≤ n ∧ v7 = .int .i64 (i : Int) ∧ v6 = .int .i64 (c : Int) ∧ v5 = .slice L i lc ∧ Hid (c = 3 * i) ∧ Hid (wr.ownsRow W1.heap.size 30 32 (.slice L i lc) i (IdsU (Cids tm i))) ∧ Hid (Line S tm i) ∧ Hid (StA wr W1.heap.size a m S) ∧ Hid (Below W1.heap.size W1 wr)
def WdPost (W : World) (e : Ending) (w' : World) : Prop := e = .returned (.bool true) ∧ Below W.heap.size W w'
structure Boxed (P : Prop) : Prop where
 out : P
structure Split (C : Prop) : Type where
 P : Prop
 h : Boxed P → C
structure DeepF (S : Sto) (top cn cm : Id) (lin rN rH : List Id) (n cnt : Nat) : Prop where
 good : Good S
 len : lin.length = n
 hT : top ∈ idsS S ∧ (kindS S top = 3 ∨ kindS S top = 4)
 h0 : lin.getD 0 zeroId ∈ idsS S ∧ kindS S (lin.getD 0 zeroId) = 3
 hn : cn ∈ idsS S ∧ kindS S cn = 3
 hh : cm ∈ idsS S ∧ kindS S cm = 3
 eT : endsP S [top] = some [cn]
 e0 : endsP S [lin.getD 0 zeroId, top] = some [lin.getD 0 zeroId, cn]
 eh : endsP S [cm, top] = some [cm, cn]
 eP : endP S top = some cn
 aA : (setP (lnkA S) [top]).length = cnt
 b0 : lin.getD 0 zeroId ∈ setP (lnkH S) [cn]
 cN : Chn S (cn :: rN)
 cH : Chn S (cm :: rH)
 iH : ∀ i ∈ cm :: rH, i ∈ setP (lnkH S) [cn]
 mid : cm = lin.getD (n / 2) zeroId
 last : cn = lin.getD (n - 1) zeroId
 lN : (cn :: rN).length = n
 rev : ∀ j, j < n → (cn :: rN).getD j zeroId = lin.getD (n - 1 - j) zeroId
def Wd2 (W1 : World) (tm : Nat → Nat) (a m n mT tb : Nat) (L : Option Addr) (lc : Nat) (v6 v23 v24 : Value) (wr : World) : Prop :=
 ∃ (j c kd : Nat) (S : Sto), j ≤ mT ∧ v24 = .int .i64 (j : Int) ∧ v6 = .int .i64 (c : Int) ∧ v23 = .int .i64 (kd : Int) ∧ Hid (c = 3 * n + j) ∧ Hid (kd = (tgtQ tm n j).2) ∧ Hid (wr.ownsRow W1.heap.size 30 32 (.slice L n lc) n (IdsU (Cids tm n))) ∧ Hid (Tagd S tm n j) ∧ Hid (StA wr W1.heap.size a m S) ∧ Hid (Blk wr tb 30 (U (tgtQ tm n j).1.1).toArray) ∧ Hid (Below W1.heap.size W1 wr)
def Wd3 (w0 : World) (n : Nat) (v : Value) (wr : World) : Prop := ∃ j : Nat, j ≤ n ∧ v = .int .i64 (j : Int) ∧ Hid (Below w0.heap.size w0 wr)
theorem ob_tag_litK (i : Id) (kd : Nat) (d0 d1 d2 d3 d4 d5 d6 d7 d8 d9 d10 d11 d12 d13 d14 d15 d16 d17 d18 d19 d20 d21 d22 d23 d24 d25 d26 d27 d28 d29 d30 d31 : Value) (hU : U i.1 = [d0, d1, d2, d3, d4, d5, d6, d7, d8, d9, d10, d11, d12, d13, d14, d15, d16, d17, d18, d19, d20, d21, d22, d23, d24, d25, d26, d27, d28, d29, d30, d31]) : (obL (.int .i64 4) (.slice none 0 0) (.slice none 0 0) zCom (tagL i (.int .i64 (kd : Int)) (.string ⟨#[116]⟩) (.string ⟨#[]⟩) (.int .u64 0) (.string ⟨#[]⟩))).toArray = #[Value.int IntKind.i64 4, .slice none 0 0, .slice none 0 0, Value.int IntKind.u8 0, Value.int IntKind.u8 0, Value.int IntKind.u8 0, Value.int IntKind.u8 0, Value.int IntKind.u8 0, Value.int IntKind.u8 0, Value.int IntKind.u8 0, Value.int IntKind.u8 0, Value.int IntKind.u8 0, Value.int IntKind.u8 0, Value.int IntKind.u8 0, Value.int IntKind.u8 0, Value.int IntKind.u8 0, Value.int IntKind.u8 0, Value.int IntKind.u8 0, Value.int IntKind.u8 0, Value.int IntKind.u8 0, Value.int IntKind.u8 0, Value.int IntKind.u8 0, Value.int IntKind.u8 0, Value.int IntKind.u8 0, Value.int IntKind.u8 0, Value.int IntKind.u8 0, Value.int IntKind.u8 0, Value.int IntKind.u8 0, Value.int IntKind.u8 0, Value.int IntKind.u8 0, Value.int IntKind.u8 0, Value.int IntKind.u8 0, Value.int IntKind.u8 0, Value.int IntKind.u8 0, Value.int IntKind.u8 0, .slice none 0 0, .string ⟨#[]⟩, .int .u64 0, .string ⟨#[]⟩, d0, d1, d2, d3, d4, d5, d6, d7, d8, d9, d10, d11, d12, d13, d14, d15, d16, d17, d18, d19, d20, d21, d22, d23, d24, d25, d26, d27, d28, d29, d30, d31, .int .i64 (kd : Int), .string ⟨#[116]⟩, .string ⟨#[]⟩, .int .u64 0, .string ⟨#[]⟩] := by
 unfold obL tagL
 rw [hU]
 rfl
theorem rev_cons {k : Nat} (f : Nat → Id) : ∃ r, (List.range (k + 1)).map (fun j => f (k - j)) = f k :: r := by
 refine ⟨((List.range (k + 1)).map (fun j => f (k - j))).tail, ?_⟩
 rw [List.range_succ_eq_map]
 simp
theorem deepF {S : Sto} {tm : Nat → Nat} {n m : Nat} (h : Tagd S tm n m) (ht : Tms tm) (hk : KnS S) (hn : 1 ≤ n) (hn2 : n ≤ 1500) (hm : m ≤ 200) :
 ∃ rN rH, DeepF S (tgtQ tm n m).1 (shaI (Cq tm (n - 1))) (shaI (Cq tm (n / 2))) (Cids tm n) rN rH n (3 * n + m) := by
 have D := h.deep ht (by omega) (by omega)
 have hg : Good S := D.good hk (by omega)
 have htop : (tgtQ tm n m).1 = topP n m (Cq tm) (Gq tm n) := by
  unfold tgtQ topP
  split <;> rfl
 have hC : ∀ k, k < n → shaI (Cq tm k) ∈ idsS S ∧ kindS S (shaI (Cq tm k)) = 3 := fun k hk => ⟨in_ids (D.gC k hk), (D.cC hk).1⟩
 obtain ⟨rN, hrN⟩ := rev_cons (k := n - 1) (fun j => shaI (Cq tm j))
 obtain ⟨rH, hrH⟩ := rev_cons (k := n / 2) (fun j => shaI (Cq tm j))
 have hl : (Cids tm n).getD 0 zeroId = shaI (Cq tm 0) := Cids_at tm (by omega)
 have hsub : ∀ k, k < n → shaI (Cq tm k) ∈ setP (lnkH S) [shaI (Cq tm (n - 1))] := fun k hk => by
  rw [D.setH (by omega), mem_sortI, mem_upto]
  exact ⟨k, by omega, rfl⟩
 have hcN := D.chn (k := n - 1) (by omega)
 have hcH := D.chn (k := n / 2) (by omega)
 have hlN : ((List.range (n - 1 + 1)).map fun j => shaI (Cq tm (n - 1 - j))).length = n := by simp; omega
 have hiH : ∀ i ∈ ((List.range (n / 2 + 1)).map fun j => shaI (Cq tm (n / 2 - j))), i ∈ setP (lnkH S) [shaI (Cq tm (n - 1))] := fun i hi => by
  obtain ⟨j, hj, rfl⟩ := List.mem_map.1 hi
  exact hsub _ (by omega)
 have hrev : ∀ j, j < n → ((List.range (n - 1 + 1)).map fun j => shaI (Cq tm (n - 1 - j))).getD j zeroId = (Cids tm n).getD (n - 1 - j) zeroId := fun j hj => by
  rw [Cids_at tm (by omega), List.getD_eq_getElem?_getD, List.getElem?_map, List.getElem?_range (by omega)]
  rfl
 rw [hrN] at hcN hlN hrev
 rw [hrH] at hcH hiH
 have eC : ∀ k, k < n → endP S (shaI (Cq tm k)) = some (shaI (Cq tm k)) := fun k hk => endP_commit (hC k hk).2
 have eT : endP S (topP n m (Cq tm) (Gq tm n)) = some (shaI (Cq tm (n - 1))) := D.end_top
 refine ⟨rN, rH, hg, Cids_len tm n, ?_, by rw [hl]; exact hC 0 (by omega), hC _ (by omega), hC _ (by omega), ?_, ?_, ?_, by rw [htop]; exact eT, ?_, by rw [hl]; exact hsub 0 (by omega), hcN, hcH, hiH, (Cids_at tm (by omega)).symm, (Cids_at tm (by omega)).symm, hlN, hrev⟩
 · rw [htop]
   refine ⟨D.top_in, ?_⟩
   unfold topP
   by_cases h0 : m = 0
   · rw [if_pos h0]; exact .inl (hC _ (by omega)).2
   · rw [if_neg h0]; exact .inr (D.cG (by omega)).1
 · rw [htop]
   simp [endsP, eT]
 · rw [hl, htop]
   simp [endsP, eT, eC 0 (by omega)]
 · rw [htop]
   simp [endsP, eT, eC (n / 2) (by omega)]
 · rw [htop, D.setA]
   have : (idsS S).length = S.length := by simp [idsS]
   rw [this, D.len]
end Go.Proofs.YtnjhjbmngoeobaaGreatDoor
