/- Laws towards WalkDeep: DigB. -/
import Derived.Test.YtnjhjbmngoeobaaGreatDoorMg03
import Derived.Deep.Cut
import Derived.Deep.CutRange
import Derived.Deep.CutBlock
import Derived.StillTailTactics
namespace Go.Proofs.YtnjhjbmngoeobaaGreatDoor
open Go.RowKit
set_option maxRecDepth 100000
def wC (ws : List Nat) : Array Value := ((ws.map fun x : Nat => Value.int .u32 (x : Int)) ++ List.replicate (64 - ws.length) (Value.int .u32 0)).toArray
def n32 (l : List Nat) : List Value := l.map fun x : Nat => Value.int .u32 (x : Int)
def hC (s : List Nat) (tl : List UInt8) (hv al : Nat) : Array Value := (n32 s ++ (U tl ++ [Value.int .i64 (hv : Int), Value.int .u64 (al : Int)])).toArray
theorem hC_tail {s : List Nat} {tl : List UInt8} {hv al : Nat} (hs : s.length = 8) {j : Nat} (hj : j < tl.length) : (hC s tl hv al)[8 + j]? = some (.int .u8 ((tl.getD j 0).toNat : Int)) := by
 unfold hC
 rw [List.getElem?_toArray, List.getElem?_append_right (by simp [n32, hs]), List.getElem?_append_left (by simp [n32, hs, U_length]; omega)]
 have : 8 + j - (n32 s).length = j := by simp [n32, hs]
 rw [this, U_get, List.getElem?_eq_getElem hj, List.getD_eq_getElem?_getD, List.getElem?_eq_getElem hj]
 rfl
theorem wC_set (ws : List Nat) (x : Nat) (h : ws.length < 64) : (wC ws).setIfInBounds ws.length (.int .u32 (x : Int)) = wC (ws ++ [x]) := by
 apply Array.ext'
 unfold wC
 obtain ⟨k, hk⟩ : ∃ k, 64 - ws.length = k + 1 := ⟨64 - ws.length - 1, by omega⟩
 have hk2 : 64 - (ws ++ [x]).length = k := by simp; omega
 rw [hk2, hk, List.replicate_succ]
 simp only [List.setIfInBounds_toArray, List.toList_toArray, List.map_append, List.map_cons, List.map_nil]
 have e : ws.length = (ws.map fun x : Nat => Value.int .u32 (x : Int)).length := by simp
 rw [e, List.set_append_right _ _ (Nat.le_refl _), Nat.sub_self]
 simp
theorem wC_get {ws : List Nat} {j : Nat} (h : j < ws.length) : (wC ws)[j]? = some (.int .u32 ((ws.getD j 0 : Nat) : Int)) := by
 unfold wC
 rw [List.getElem?_toArray, List.getElem?_append_left (by simpa using h), List.getElem?_map, List.getElem?_eq_getElem h, List.getD_eq_getElem?_getD, List.getElem?_eq_getElem h]
 rfl
theorem wC_size (ws : List Nat) (h : ws.length ≤ 64) : (wC ws).size = 64 := by simp [wC]; omega
theorem wC_nil : #[Value.int IntKind.u32 0, Value.int IntKind.u32 0, Value.int IntKind.u32 0, Value.int IntKind.u32 0, Value.int IntKind.u32 0, Value.int IntKind.u32 0, Value.int IntKind.u32 0, Value.int IntKind.u32 0, Value.int IntKind.u32 0, Value.int IntKind.u32 0, Value.int IntKind.u32 0, Value.int IntKind.u32 0, Value.int IntKind.u32 0, Value.int IntKind.u32 0, Value.int IntKind.u32 0, Value.int IntKind.u32 0, Value.int IntKind.u32 0, Value.int IntKind.u32 0, Value.int IntKind.u32 0, Value.int IntKind.u32 0, Value.int IntKind.u32 0, Value.int IntKind.u32 0, Value.int IntKind.u32 0, Value.int IntKind.u32 0, Value.int IntKind.u32 0, Value.int IntKind.u32 0, Value.int IntKind.u32 0, Value.int IntKind.u32 0, Value.int IntKind.u32 0, Value.int IntKind.u32 0, Value.int IntKind.u32 0, Value.int IntKind.u32 0, Value.int IntKind.u32 0, Value.int IntKind.u32 0, Value.int IntKind.u32 0, Value.int IntKind.u32 0, Value.int IntKind.u32 0, Value.int IntKind.u32 0, Value.int IntKind.u32 0, Value.int IntKind.u32 0, Value.int IntKind.u32 0, Value.int IntKind.u32 0, Value.int IntKind.u32 0, Value.int IntKind.u32 0, Value.int IntKind.u32 0, Value.int IntKind.u32 0, Value.int IntKind.u32 0, Value.int IntKind.u32 0, Value.int IntKind.u32 0, Value.int IntKind.u32 0, Value.int IntKind.u32 0, Value.int IntKind.u32 0, Value.int IntKind.u32 0, Value.int IntKind.u32 0, Value.int IntKind.u32 0, Value.int IntKind.u32 0, Value.int IntKind.u32 0, Value.int IntKind.u32 0, Value.int IntKind.u32 0, Value.int IntKind.u32 0, Value.int IntKind.u32 0, Value.int IntKind.u32 0, Value.int IntKind.u32 0, Value.int IntKind.u32 0] = wC [] := rfl
def wds (tl : List UInt8) (i : Nat) : List Nat := (List.range i).map (Dg.word tl)
theorem wds_length (tl : List UInt8) (i : Nat) : (wds tl i).length = i := by simp [wds]
theorem wds_succ (tl : List UInt8) (i : Nat) : wds tl (i + 1) = wds tl i ++ [Dg.word tl i] := by simp [wds, List.range_succ]
theorem word_val (a b c d : Nat) (ha : a < 256) (hb : b < 256) (hc : c < 256) (hd : d < 256) :
 bits .or .u32 (bits .or .u32 (bits .or .u32 ((a : Int) * 16777216) ((b : Int) * 65536)) ((c : Int) * 256)) (d : Int) = ((a * 16777216 + b * 65536 + c * 256 + d : Nat) : Int) := by
 have e1 : (a : Int) * 16777216 = ((a * 16777216 : Nat) : Int) := by simp
 have e2 : (b : Int) * 65536 = ((b * 65536 : Nat) : Int) := by simp
 have e3 : (c : Int) * 256 = ((c * 256 : Nat) : Int) := by simp
 have o1 : a * 16777216 ||| b * 65536 = a * 16777216 + b * 65536 := by
  have := Nat.two_pow_add_eq_or_of_lt (i := 24) (b := b * 65536) (by omega) a
  rw [Nat.mul_comm a]
  exact this.symm
 have o2 : (a * 16777216 + b * 65536) ||| c * 256 = a * 16777216 + b * 65536 + c * 256 := by
  have h := Nat.two_pow_add_eq_or_of_lt (i := 16) (b := c * 256) (by omega) (a * 256 + b)
  have e : a * 16777216 + b * 65536 = 2 ^ 16 * (a * 256 + b) := by omega
  rw [e]
  exact h.symm
 have o3 : (a * 16777216 + b * 65536 + c * 256) ||| d = a * 16777216 + b * 65536 + c * 256 + d := by
  have h := Nat.two_pow_add_eq_or_of_lt (i := 8) (b := d) (by omega) (a * 65536 + b * 256 + c)
  have e : a * 16777216 + b * 65536 + c * 256 = 2 ^ 8 * (a * 65536 + b * 256 + c) := by omega
  rw [e]
  exact h.symm
 rw [e1, e2, e3, u32_or_nat _ _ (by omega) (by omega), o1, u32_or_nat _ _ (by omega) (by omega), o2, u32_or_nat _ _ (by omega) (by omega), o3]
theorem size_u32 : (Tryz.prog.info? 147).map (·.size) = some 1 := by kernel_rfl
theorem wraps_u32 (n : Int) (h0 : 0 ≤ n) (h1 : n < 4294967296) : IntKind.u32.wrap n = n := by
 rw [IntKind.wrap_u32]; omega
theorem sm0_val (x : Nat) (h : x < 4294967296) : bits .xor .u32 (bits .xor .u32 ((Dg.rotr x 7 : Nat) : Int) ((Dg.rotr x 18 : Nat) : Int)) ((x : Int) / 8) = ((Dg.sm0 x : Nat) : Int) := by
 have e : (x : Int) / (8 : Int) = ((x >>> 3 : Nat) : Int) := by rw [Nat.shiftRight_eq_div_pow]; simp
 rw [e, u32_xor_nat _ _ (Dg.rotr_lt x 7 h) (Dg.rotr_lt x 18 h), u32_xor_nat _ _ (Dg.xor_lt _ _ (Dg.rotr_lt x 7 h) (Dg.rotr_lt x 18 h)) (Dg.shr_lt x 3 h)]
 rfl
theorem sm1_val (x : Nat) (h : x < 4294967296) : bits .xor .u32 (bits .xor .u32 ((Dg.rotr x 17 : Nat) : Int) ((Dg.rotr x 19 : Nat) : Int)) ((x : Int) / 1024) = ((Dg.sm1 x : Nat) : Int) := by
 have e : (x : Int) / (1024 : Int) = ((x >>> 10 : Nat) : Int) := by rw [Nat.shiftRight_eq_div_pow]; simp
 rw [e, u32_xor_nat _ _ (Dg.rotr_lt x 17 h) (Dg.rotr_lt x 19 h), u32_xor_nat _ _ (Dg.xor_lt _ _ (Dg.rotr_lt x 17 h) (Dg.rotr_lt x 19 h)) (Dg.shr_lt x 10 h)]
 rfl
structure RndTab (w : World) : Prop where
 lt : 3 < w.heap.size
 cell : ∀ t, t < 64 → w.cell? ⟨3, t, none⟩ = some (.int .u32 ((Dg.roundW.getD t 0 : Nat) : Int))
theorem RndTab.below {w w' : World} (h : RndTab w) (hb : Below w.heap.size w w') : RndTab w' :=
 ⟨Nat.lt_of_lt_of_le h.lt hb.size, fun t ht => (hb.cell (p := ⟨3, t, none⟩) h.lt).trans (h.cell t ht)⟩
structure _root_.Go.Proofs.YtnjhjbmngoeobaaGreatDoor.Dg.St.Ok (s : Dg.St) : Prop where
 a : s.a < 4294967296
 b : s.b < 4294967296
 c : s.c < 4294967296
 d : s.d < 4294967296
 e : s.e < 4294967296
 f : s.f < 4294967296
 g : s.g < 4294967296
 h : s.h < 4294967296
theorem rnds_ok (s : Dg.St) (h : s.Ok) (ws : List Nat) : ∀ t, (Dg.rnds s ws t).Ok
 | 0 => h
 | t + 1 => by
   have i := rnds_ok s h ws t
   exact ⟨Nat.mod_lt _ (by decide), i.a, i.b, i.c, Nat.mod_lt _ (by decide), i.e, i.f, i.g⟩
theorem comp_ok (s : Dg.St) (tl : List UInt8) : (Dg.comp s tl).Ok :=
 ⟨Nat.mod_lt _ (by decide), Nat.mod_lt _ (by decide), Nat.mod_lt _ (by decide), Nat.mod_lt _ (by decide), Nat.mod_lt _ (by decide), Nat.mod_lt _ (by decide), Nat.mod_lt _ (by decide), Nat.mod_lt _ (by decide)⟩
theorem not_val (e : Nat) (h : e < 4294967296) : bits .xor .u32 (if IntKind.u32.signed = true then -1 else IntKind.u32.max) (e : Int) = ((4294967295 - e : Nat) : Int) := by
 have e1 : (if IntKind.u32.signed = true then -1 else IntKind.u32.max) = ((4294967295 : Nat) : Int) := by decide
 rw [e1, u32_xor_nat _ _ (by decide) h, Dg.not_xor e h]
theorem rndP_val (sa sb sc sd se sf sg sh K X : Nat) (le : se < 4294967296) (lf : sf < 4294967296) (lg : sg < 4294967296) :
 (((sh : Int) + bits .xor .u32 (bits .xor .u32 ((Dg.rotr se 6 : Nat) : Int) ((Dg.rotr se 11 : Nat) : Int)) ((Dg.rotr se 25 : Nat) : Int) + bits .xor .u32 (bits .and .u32 (se : Int) (sf : Int)) (bits .and .u32 (bits .xor .u32 (if IntKind.u32.signed = true then -1 else IntKind.u32.max) (se : Int)) (sg : Int)) + (K : Int)) % 4294967296 + (X : Int)) % 4294967296 = ((Dg.rndP ⟨sa, sb, sc, sd, se, sf, sg, sh⟩ K X : Nat) : Int) := by
 rw [not_val se le, u32_and_nat _ _ le lf, u32_and_nat _ _ (by omega) lg, u32_xor_nat _ _ (Dg.and_lt _ _ lf) (Dg.and_lt _ _ lg), u32_xor_nat _ _ (Dg.rotr_lt se 6 le) (Dg.rotr_lt se 11 le), u32_xor_nat _ _ (Dg.xor_lt _ _ (Dg.rotr_lt se 6 le) (Dg.rotr_lt se 11 le)) (Dg.rotr_lt se 25 le)]
 unfold Dg.rndP Dg.bg1 Dg.chs
 simp only
 omega
theorem rndQ_val (sa sb sc sd se sf sg sh : Nat) (la : sa < 4294967296) (lb : sb < 4294967296) (lc : sc < 4294967296) :
 (bits .xor .u32 (bits .xor .u32 ((Dg.rotr sa 2 : Nat) : Int) ((Dg.rotr sa 13 : Nat) : Int)) ((Dg.rotr sa 22 : Nat) : Int) + bits .xor .u32 (bits .xor .u32 (bits .and .u32 (sa : Int) (sb : Int)) (bits .and .u32 (sa : Int) (sc : Int))) (bits .and .u32 (sb : Int) (sc : Int))) % 4294967296 = ((Dg.rndQ ⟨sa, sb, sc, sd, se, sf, sg, sh⟩ : Nat) : Int) := by
 rw [u32_and_nat _ _ la lb, u32_and_nat _ _ la lc, u32_and_nat _ _ lb lc, u32_xor_nat _ _ (Dg.and_lt _ _ lb) (Dg.and_lt _ _ lc), u32_xor_nat _ _ (Dg.xor_lt _ _ (Dg.and_lt _ _ lb) (Dg.and_lt _ _ lc)) (Dg.and_lt _ _ lc), u32_xor_nat _ _ (Dg.rotr_lt sa 2 la) (Dg.rotr_lt sa 13 la), u32_xor_nat _ _ (Dg.xor_lt _ _ (Dg.rotr_lt sa 2 la) (Dg.rotr_lt sa 13 la)) (Dg.rotr_lt sa 22 la)]
 unfold Dg.rndQ Dg.bg0 Dg.maj
 simp only
 omega
def Drawn (w w' : World) : Prop := ∃ k, w' = w.drewN k
def M3Rel (w : World) (T g V : Nat) (st : Dg.St) (s : List Nat) (tl : List UInt8) (hv al : Nat) (vi : Value) (wr : World) : Prop :=
 ∃ t : Nat, t ≤ 64 ∧ vi = .int .i64 (t : Int) ∧ Hid (Blk wr V 148 (n32 (Dg.rnds st (Dg.schd (Dg.words16 tl) 48) t).list).toArray) ∧ Hid (Blk wr T 165 (wC (Dg.schd (Dg.words16 tl) 48))) ∧ Hid (Blk wr g 151 (hC s tl hv al)) ∧ Hid (Below T w wr)
theorem below_drewN {B : Nat} {a w : World} (h : Below B a w) (n : Nat) : Below B a (w.drewN n) := ⟨h.os, h.tape, h.output, h.size, h.block⟩
def addW (s v : List Nat) (i : Nat) : List Nat := (List.range 8).map fun j => if j < i then (s.getD j 0 + v.getD j 0) % 4294967296 else s.getD j 0
theorem addW_length (s v : List Nat) (i : Nat) : (addW s v i).length = 8 := by simp [addW]
theorem addW_zero (s v : List Nat) (h : s.length = 8) : addW s v 0 = s := by
 apply List.ext_getElem (by rw [addW_length, h])
 intro j h1 h2
 simp [addW, List.getD_eq_getElem?_getD, List.getElem?_eq_getElem h2]
theorem addW_get (s v : List Nat) (i j : Nat) (hj : i ≤ j ∧ j < 8) : (addW s v i)[j]? = some (s.getD j 0) := by
 simp [addW, List.getElem?_range hj.2]
 omega
theorem addW_set (s v : List Nat) (i : Nat) : (addW s v i).set i ((s.getD i 0 + v.getD i 0) % 4294967296) = addW s v (i + 1) := by
 apply List.ext_getElem (by simp [addW])
 intro j h1 h2
 have hj : j < 8 := by rw [addW_length] at h2; exact h2
 rw [List.getElem_set]
 by_cases e : i = j
 · subst e
   simp [addW]
 · rw [if_neg e]
   simp only [addW, List.getElem_map, List.getElem_range]
   by_cases h3 : j < i
   · rw [if_pos h3, if_pos (by omega)]
   · rw [if_neg h3, if_neg (by omega)]
theorem hC_word {s : List Nat} {tl : List UInt8} {hv al j x : Nat} (h : s[j]? = some x) : (hC s tl hv al)[j]? = some (.int .u32 (x : Int)) := by
 unfold hC n32
 have hl := (List.getElem?_eq_some_iff.1 h).1
 rw [List.getElem?_toArray, List.getElem?_append_left (by simpa using hl), List.getElem?_map, h]
 rfl
theorem hC_set (s : List Nat) (tl : List UInt8) (hv al j x : Nat) (h : j < s.length) : (hC s tl hv al).setIfInBounds j (.int .u32 (x : Int)) = hC (s.set j x) tl hv al := by
 unfold hC n32
 apply Array.ext'
 simp only [List.setIfInBounds_toArray, List.toList_toArray]
 rw [List.set_append_left _ _ (by simpa using h), List.map_set]
theorem n32_get {l : List Nat} {j : Nat} (h : j < l.length) : (n32 l)[j]? = some (.int .u32 ((l.getD j 0 : Nat) : Int)) := by
 unfold n32
 rw [List.getElem?_map, List.getElem?_eq_getElem h, List.getD_eq_getElem?_getD, List.getElem?_eq_getElem h]
 rfl
theorem st_lt {s : Dg.St} (h : s.Ok) (i : Nat) : s.list.getD i 0 < 4294967296 := by
 match i with
 | 0 => exact h.a
 | 1 => exact h.b
 | 2 => exact h.c
 | 3 => exact h.d
 | 4 => exact h.e
 | 5 => exact h.f
 | 6 => exact h.g
 | 7 => exact h.h
 | n + 8 => exact (by decide : (0 : Nat) < 4294967296)
theorem addW_eight (s v : Dg.St) : addW s.list v.list 8 = (Dg.addS s v).list := by
 obtain ⟨a, b, c, d, e, f, g, h⟩ := s
 obtain ⟨a', b', c', d', e', f', g', h'⟩ := v
 rfl
def M4Rel (w : World) (g V : Nat) (rt : Dg.St) (s : List Nat) (tl : List UInt8) (hv al : Nat) (vi : Value) (wr : World) : Prop :=
 ∃ i : Nat, i ≤ 8 ∧ vi = .int .i64 (i : Int) ∧ Hid (Blk wr V 148 (n32 rt.list).toArray) ∧ Hid (Blk wr g 151 (hC (addW s rt.list i) tl hv al)) ∧ Hid (w.grownBy wr (some g))
def M2Rel (w : World) (T g : Nat) (s : List Nat) (tl : List UInt8) (hv al : Nat) (vi : Value) (wr : World) : Prop :=
 ∃ k : Nat, k ≤ 48 ∧ vi = .int .i64 ((16 + k : Nat) : Int) ∧ Hid (Blk wr T 165 (wC (Dg.schd (Dg.words16 tl) k))) ∧ Hid (Blk wr g 151 (hC s tl hv al)) ∧ Hid (Below T w wr)
theorem schd_length (ws : List Nat) (h : ws.length = 16) : ∀ k, (Dg.schd ws k).length = 16 + k
 | 0 => h
 | k + 1 => by rw [Dg.schd, List.length_append, schd_length ws h k]; rfl
theorem schd_lt (ws : List Nat) (h : ∀ x ∈ ws, x < 4294967296) : ∀ k, ∀ x ∈ Dg.schd ws k, x < 4294967296
 | 0 => h
 | k + 1 => fun x hx => by
   rw [Dg.schd, List.mem_append] at hx
   rcases hx with hx | hx
   · exact schd_lt ws h k x hx
   · rw [List.mem_singleton] at hx
     subst hx
     exact Nat.mod_lt _ (by decide)
theorem getD_lt {l : List Nat} (h : ∀ x ∈ l, x < 4294967296) (i : Nat) : l.getD i 0 < 4294967296 := by
 rw [List.getD_eq_getElem?_getD]
 cases hx : l[i]? with
 | none => decide
 | some x => exact h x (List.mem_of_getElem? hx)
theorem words16_lt (tl : List UInt8) : ∀ x ∈ Dg.words16 tl, x < 4294967296 := fun x hx => by
 obtain ⟨t, _, rfl⟩ := List.mem_map.1 hx
 unfold Dg.word
 have h0 := (tl.getD (4 * t) 0).toNat_lt
 have h1 := (tl.getD (4 * t + 1) 0).toNat_lt
 have h2 := (tl.getD (4 * t + 2) 0).toNat_lt
 have h3 := (tl.getD (4 * t + 3) 0).toNat_lt
 omega
def M1Rel (w : World) (T g : Nat) (s : List Nat) (tl : List UInt8) (hv al : Nat) (vi : Value) (wr : World) : Prop :=
 ∃ i : Nat, i ≤ 16 ∧ vi = .int .i64 i ∧ Hid (Blk wr T 165 (wC (wds tl i))) ∧ Hid (Blk wr g 151 (hC s tl hv al)) ∧ Hid (Below T w wr)
set_option maxHeartbeats 8000000 in
theorem mix_any (g : Nat) (st : Dg.St) (tl : List UInt8) (hv al : Nat) (w : World) (ht : tl.length = 64) (hok : st.Ok) (htab : RndTab w) (h : Blk w g 151 (hC st.list tl hv al)) :
 Calls Tryz.prog 81 #[.pointer (some ⟨g, 0, none⟩), .pointer (some ⟨g, 8, none⟩)] w fun e w' => e = .returned (.tuple #[]) ∧ Blk w' g 151 (hC (Dg.comp st tl).list tl hv al) ∧ w.grownBy w' (some g) := by
 obtain ⟨s, hss⟩ : ∃ s, s = st.list := ⟨_, rfl⟩
 have hs : s.length = 8 := by rw [hss]; rfl
 rw [← hss] at h
 have HSS := Lib.hid hss
 obtain ⟨FL, hFL⟩ : ∃ z, z = (Dg.comp st tl).list := ⟨_, rfl⟩
 rw [← hFL]
 have HFL := Lib.hid hFL
 have HTAB := Lib.hid htab
 have HOK := Lib.hid hok
 clear hss htab hok hFL
 have H := Lib.hid h
 have hgl := h.lt
 have HS := Lib.hid hs
 have HTL := Lib.hid ht
 clear h hs ht
 go_enter Tryz.func81, Tryz.ntmps81
 go_upto_block 0 with fail
 rw [wC_nil]
 have BT0 := Lib.hid (Blk.new w 165 (wC []))
 have BG0 := Lib.hid (H.out.alloc (.cells (wC []) 165))
 have B0 := Lib.hid ((Below.refl w.heap.size w).alloc (Nat.le_refl _) (.cells (wC []) 165))
 obtain ⟨T, hT⟩ : ∃ T, T = w.heap.size := ⟨_, rfl⟩
 rw [← hT] at BT0 B0 hgl
 rw [← hT]
 have HT := Lib.hid hT
 clear hT
 generalize w.alloc (.cells (wC []) 165) = w0 at *
 go_cut [] from 18 (fun wx => Hid (Blk wx T 165 (wC (Dg.schd (Dg.words16 tl) 0))) ∧ Hid (Blk wx g 151 (hC s tl hv al)) ∧ Hid (Below T w wx))
 case first => as_aux_lemma =>
  go_wp2_with fail
  go_loopw [18] (fun vi wr => M1Rel w T g s tl hv al vi wr) (fun vi _ => 16 - (intOf vi).toNat)
  case atStart => exact ⟨0, by omega, rfl, BT0, BG0, B0⟩
  case round =>
   clear BT0 BG0 B0
   obtain ⟨i, hi, rfl, HB, HG, HW⟩ := hrel
   by_cases hlt : i < 16
   · as_aux_lemma =>
     have hltd : decide ((i : Int) < 16) = true := decide_eq_true (by omega)
     obtain ⟨j, hj⟩ : ∃ j, j = 4 * i := ⟨_, rfl⟩
     have ej : 4 * (i : Int) = (j : Int) := by omega
     have hj60 : j ≤ 60 := by omega
     have hjl := HTL.out
     have cj : ∀ k, k < 4 → wr.cell? ⟨g, 8 + (j + k), none⟩ = some (.int .u8 ((tl.getD (j + k) 0).toNat : Int)) := fun k hk => by
      rw [HG.out.cell]
      exact hC_tail HS.out (by omega)
     have c0 := cj 0 (by omega)
     have c1 := cj 1 (by omega)
     have c2 := cj 2 (by omega)
     have c3 := cj 3 (by omega)
     have k0 : (tl.getD (j + 0) 0).toNat < 256 := UInt8.toNat_lt _
     have k1 : (tl.getD (j + 1) 0).toNat < 256 := UInt8.toNat_lt _
     have k2 : (tl.getD (j + 2) 0).toNat < 256 := UInt8.toNat_lt _
     have k3 : (tl.getD (j + 3) 0).toNat < 256 := UInt8.toNat_lt _
     have hval := word_val _ _ _ _ k0 k1 k2 k3
     have HWD : Hid (Dg.word tl i = (tl.getD (j + 0) 0).toNat * 16777216 + (tl.getD (j + 1) 0).toNat * 65536 + (tl.getD (j + 2) 0).toNat * 256 + (tl.getD (j + 3) 0).toNat) := by
      unfold Hid Dg.word
      rw [hj]
      rfl
     generalize (tl.getD (j + 0) 0).toNat = x0 at *
     generalize (tl.getD (j + 1) 0).toNat = x1 at *
     generalize (tl.getD (j + 2) 0).toNat = x2 at *
     generalize (tl.getD (j + 3) 0).toNat = x3 at *
     obtain ⟨y, hy⟩ : ∃ y, y = x0 * 16777216 + x1 * 65536 + x2 * 256 + x3 := ⟨_, rfl⟩
     rw [← hy] at hval HWD
     have hy32 : y < 4294967296 := by omega
     simp only [Nat.add_zero] at c0
     obtain ⟨j1, hj1⟩ : ∃ z, z = j + 1 := ⟨_, rfl⟩
     obtain ⟨j2, hj2⟩ : ∃ z, z = j + 2 := ⟨_, rfl⟩
     obtain ⟨j3, hj3⟩ : ∃ z, z = j + 3 := ⟨_, rfl⟩
     rw [← hj1] at c1
     rw [← hj2] at c2
     rw [← hj3] at c3
     have ej1 : (j : Int) + 1 = (j1 : Int) := by omega
     have ej2 : (j : Int) + 2 = (j2 : Int) := by omega
     have ej3 : (j : Int) + 3 = (j3 : Int) := by omega
     have ew0 : IntKind.i64.wrap (j : Int) = (j : Int) := wraps_i64 _ (by omega) (by omega)
     have ew1 : IntKind.i64.wrap (j1 : Int) = (j1 : Int) := wraps_i64 _ (by omega) (by omega)
     have ew2 : IntKind.i64.wrap (j2 : Int) = (j2 : Int) := wraps_i64 _ (by omega) (by omega)
     have ew3 : IntKind.i64.wrap (j3 : Int) = (j3 : Int) := wraps_i64 _ (by omega) (by omega)
     have b0 : (j : Int) < 64 := by omega
     have b1 : (j1 : Int) < 64 := by omega
     have b2 : (j2 : Int) < 64 := by omega
     have b3 : (j3 : Int) < 64 := by omega
     have b4 : (i : Int) < 64 := by omega
     have wx0 : IntKind.u32.wrap (x0 : Int) = (x0 : Int) := wraps_u32 _ (by omega) (by omega)
     have wx1 : IntKind.u32.wrap (x1 : Int) = (x1 : Int) := wraps_u32 _ (by omega) (by omega)
     have wx2 : IntKind.u32.wrap (x2 : Int) = (x2 : Int) := wraps_u32 _ (by omega) (by omega)
     have wx3 : IntKind.u32.wrap (x3 : Int) = (x3 : Int) := wraps_u32 _ (by omega) (by omega)
     have wy0 : IntKind.u32.wrap ((x0 : Int) * 16777216) = (x0 : Int) * 16777216 := wraps_u32 _ (by omega) (by omega)
     have wy1 : IntKind.u32.wrap ((x1 : Int) * 65536) = (x1 : Int) * 65536 := wraps_u32 _ (by omega) (by omega)
     have wy2 : IntKind.u32.wrap ((x2 : Int) * 256) = (x2 : Int) * 256 := wraps_u32 _ (by omega) (by omega)
     have hgT : g ≠ T := by have := HW.out.size; have := HT.out; omega
     have KS : Hid (∀ v, (wr.setCell ⟨T, i, none⟩ v).drew.cell? ⟨g, 8 + j, none⟩ = some (.int .u8 (x0 : Int)) ∧ (wr.setCell ⟨T, i, none⟩ v).drew.cell? ⟨g, 8 + j1, none⟩ = some (.int .u8 (x1 : Int)) ∧ (wr.setCell ⟨T, i, none⟩ v).drew.cell? ⟨g, 8 + j2, none⟩ = some (.int .u8 (x2 : Int)) ∧ (wr.setCell ⟨T, i, none⟩ v).drew.cell? ⟨g, 8 + j3, none⟩ = some (.int .u8 (x3 : Int))) := by
      intro v
      have e : ∀ k, (wr.setCell ⟨T, i, none⟩ v).drew.cell? ⟨g, k, none⟩ = wr.cell? ⟨g, k, none⟩ := fun k => World.cell?_setCell_other wr ⟨T, i, none⟩ ⟨g, k, none⟩ v (fun e => hgT (congrArg Addr.block e).symm)
      exact ⟨(e _).trans c0, (e _).trans c1, (e _).trans c2, (e _).trans c3⟩
     clear hy hj cj hjl hj1 hj2 hj3
     have hfz := HB.out.frozen i
     have hcw : ∃ v, wr.cell? ⟨T, i, none⟩ = some v := ⟨_, by rw [HB.out.cell]; exact Array.getElem?_eq_getElem (by rw [wC_size _ (by rw [wds_length]; omega)]; omega)⟩
     obtain ⟨vw, hcw⟩ := hcw
     go_wp2_with fail
     go_region_held3 (fun w' => w'.cell? ⟨g, 8 + j, none⟩ = some (.int .u8 (x0 : Int)) ∧ w'.cell? ⟨g, 8 + j1, none⟩ = some (.int .u8 (x1 : Int)) ∧ w'.cell? ⟨g, 8 + j2, none⟩ = some (.int .u8 (x2 : Int)) ∧ w'.cell? ⟨g, 8 + j3, none⟩ = some (.int .u8 (x3 : Int))) (first | exact ⟨c0, c1, c2, c3⟩ | exact KS.out _) (first | fail)
     clear c0 c1 c2 c3 KS ej ej1 ej2 ej3 ew0 ew1 ew2 ew3 wx0 wx1 wx2 wx3 wy0 wy1 wy2 hval
     have hB2 : Hid (Blk (wr.setCell ⟨T, i, none⟩ (.int .u32 (y : Int))) T 165 (wC (wds tl (i + 1)))) := by
      have := HB.out.set_ i (.int .u32 (y : Int))
      rw [wds_succ, HWD.out, ← wC_set _ _ (by rw [wds_length]; omega), wds_length]
      exact this
     have hG2 : Hid (Blk (wr.setCell ⟨T, i, none⟩ (.int .u32 (y : Int))) g 151 (hC s tl hv al)) := HG.out.far (p := ⟨T, i, none⟩) hgT _
     have hW2 : Hid (Below T w (wr.setCell ⟨T, i, none⟩ (.int .u32 (y : Int))).drew) := (HW.out.setCell (p := ⟨T, i, none⟩) (Nat.le_refl _) _).drew
     go_wp2_with fail
     go_roundw
     case rel => exact ⟨i + 1, by omega, by go_num, hB2, hG2, hW2⟩
     case measure => simp [intOf]; omega
   · have hi16 : i = 16 := by omega
     have hltd : decide ((i : Int) < 16) = false := decide_eq_false (by omega)
     have HB1 : Hid (Blk wr T 165 (wC (Dg.schd (Dg.words16 tl) 0))) := by rw [hi16] at HB; exact HB
     clear hi hlt HB hi16
     go_wp2_with fail
     go_meet
     case rel => exact ⟨HB1, HG, HW⟩
 case rest =>
 clear BT0 BG0 B0
 obtain ⟨w1, rfl⟩ : ∃ z : World, z = wc := ⟨_, rfl⟩
 obtain ⟨HB1, HG1, HW1⟩ := hcut
 go_upto_block 2 with fail
 go_cut [] from 18 (fun wx => Hid (Blk wx T 165 (wC (Dg.schd (Dg.words16 tl) 48))) ∧ Hid (Blk wx g 151 (hC s tl hv al)) ∧ Hid (Below T w wx))
 case first => as_aux_lemma =>
  go_wp2_with fail
  go_loopw [6] (fun vi wr => M2Rel w T g s tl hv al vi wr) (fun vi _ => 64 - (intOf vi).toNat)
  case atStart => exact ⟨0, by omega, rfl, HB1, HG1, HW1⟩
  case round =>
   clear HB1 HG1 HW1
   obtain ⟨k, hk, rfl, HB, HG, HW⟩ := hrel
   have HTl := Lib.hid (schd_length (Dg.words16 tl) (by simp [Dg.words16]) k)
   have HLT := Lib.hid (schd_lt _ (words16_lt tl) k)
   by_cases hlt : k < 48
   · as_aux_lemma =>
     obtain ⟨i, hi⟩ : ∃ i, i = 16 + k := ⟨_, rfl⟩
     rw [← hi]
     have hltd : decide ((i : Int) < 64) = true := decide_eq_true (by omega)
     obtain ⟨a1, ha1⟩ : ∃ z, z = i - 15 := ⟨_, rfl⟩
     obtain ⟨a2, ha2⟩ : ∃ z, z = i - 2 := ⟨_, rfl⟩
     obtain ⟨a3, ha3⟩ : ∃ z, z = i - 7 := ⟨_, rfl⟩
     have ea1 : (i : Int) - 15 = (a1 : Int) := by omega
     have ea2 : (i : Int) - 2 = (a2 : Int) := by omega
     have ea3 : (i : Int) - 7 = (a3 : Int) := by omega
     have ea4 : (i : Int) - 16 = (k : Int) := by omega
     have cells : ∀ j, j < i → wr.cell? ⟨T, j, none⟩ = some (.int .u32 (((Dg.schd (Dg.words16 tl) k).getD j 0 : Nat) : Int)) := fun j hj => by
      rw [HB.out.cell]
      exact wC_get (by rw [HTl.out]; omega)
     have c1 := cells a1 (by omega)
     have c2 := cells a2 (by omega)
     have c3 := cells a3 (by omega)
     have c4 := cells k (by omega)
     have l1 := getD_lt HLT.out a1
     have l2 := getD_lt HLT.out a2
     have l3 := getD_lt HLT.out a3
     have l4 := getD_lt HLT.out k
     have HNX : Hid (Dg.nxtW (Dg.schd (Dg.words16 tl) k) (16 + k) = (Dg.sm1 ((Dg.schd (Dg.words16 tl) k).getD a2 0) + (Dg.schd (Dg.words16 tl) k).getD a3 0 + Dg.sm0 ((Dg.schd (Dg.words16 tl) k).getD a1 0) + (Dg.schd (Dg.words16 tl) k).getD k 0) % 4294967296) := by
      unfold Hid Dg.nxtW
      rw [← hi, ← ha1, ← ha2, ← ha3, show i - 16 = k by omega]
     generalize (Dg.schd (Dg.words16 tl) k).getD a1 0 = x1 at *
     generalize (Dg.schd (Dg.words16 tl) k).getD a2 0 = x2 at *
     generalize (Dg.schd (Dg.words16 tl) k).getD a3 0 = x3 at *
     generalize (Dg.schd (Dg.words16 tl) k).getD k 0 = x4 at *
     have HC := Lib.hid (And.intro c3 c4)
     have b1 : (a1 : Int) < 64 := by omega
     have b2 : (a2 : Int) < 64 := by omega
     have b3 : (a3 : Int) < 64 := by omega
     have b4 : (k : Int) < 64 := by omega
     have b5 : (i : Int) < 64 := by omega
     have HI := Lib.hid hi
     have ew1 : IntKind.i64.wrap (a1 : Int) = (a1 : Int) := wraps_i64 _ (by omega) (by omega)
     have ew2 : IntKind.i64.wrap (a2 : Int) = (a2 : Int) := wraps_i64 _ (by omega) (by omega)
     have ew3 : IntKind.i64.wrap (a3 : Int) = (a3 : Int) := wraps_i64 _ (by omega) (by omega)
     have ew4 : IntKind.i64.wrap (k : Int) = (k : Int) := wraps_i64 _ (by omega) (by omega)
     clear cells ha1 ha2 ha3 hi c3 c4
     go_wp2_with fail
     go_quiet (fail)
     go_wp2_with fail
     have hv0 := sm0_val x1 l1
     have hv1 := sm1_val x2 l2
     have hs0 := Dg.sm0_lt x1 l1
     have hs1 := Dg.sm1_lt x2 l2
     have T1 := Lib.hid (fun w' => turn_c x1 7 7 rfl w' l1 (by omega) (by omega))
     have T2 := Lib.hid (fun w' => turn_c x1 18 18 rfl w' l1 (by omega) (by omega))
     have T3 := Lib.hid (fun w' => turn_c x2 17 17 rfl w' l2 (by omega) (by omega))
     have T4 := Lib.hid (fun w' => turn_c x2 19 19 rfl w' l2 (by omega) (by omega))
     generalize Dg.sm0 x1 = S0 at *
     generalize Dg.sm1 x2 = S1 at *
     generalize Dg.rotr x1 7 = r1 at *
     generalize Dg.rotr x1 18 = r2 at *
     generalize Dg.rotr x2 17 = r3 at *
     generalize Dg.rotr x2 19 = r4 at *
     refine (T1.out _).mono ?_
     rintro e w2 ⟨rfl, q1, rfl⟩
     go_wp2_with fail
     refine (T2.out _).mono ?_
     rintro e w2 ⟨rfl, q2, rfl⟩
     go_wp2_with fail
     refine (T3.out _).mono ?_
     rintro e w2 ⟨rfl, q3, rfl⟩
     go_wp2_with fail
     refine (T4.out _).mono ?_
     rintro e w2 ⟨rfl, q4, rfl⟩
     clear T1 T2 T3 T4 c1 c2
     obtain ⟨p1, hp1⟩ : ∃ z, z = (S1 + x3) % 4294967296 := ⟨_, rfl⟩
     obtain ⟨p2, hp2⟩ : ∃ z, z = (p1 + S0) % 4294967296 := ⟨_, rfl⟩
     obtain ⟨y, hy⟩ : ∃ z, z = (p2 + x4) % 4294967296 := ⟨_, rfl⟩
     have wp1 : IntKind.u32.wrap ((S1 : Int) + (x3 : Int)) = (p1 : Int) := by rw [IntKind.wrap_u32]; omega
     have wp2 : IntKind.u32.wrap ((p1 : Int) + (S0 : Int)) = (p2 : Int) := by rw [IntKind.wrap_u32]; omega
     have wp3 : IntKind.u32.wrap ((p2 : Int) + (x4 : Int)) = (y : Int) := by rw [IntKind.wrap_u32]; omega
     have HY : Hid (Dg.nxtW (Dg.schd (Dg.words16 tl) k) (16 + k) = y) := by
      unfold Hid
      rw [HNX.out]
      omega
     have c3 := HC.out.1
     have c4 := HC.out.2
     have hgT : g ≠ T := by have := HW.out.size; have := HT.out; omega
     have hk3 : a3 ≠ i := by have := HI.out; omega
     have hk4 : k ≠ i := by have := HI.out; omega
     have KS : Hid (∀ n v, ((wr.setCell ⟨T, i, none⟩ v).drewN n).cell? ⟨T, a3, none⟩ = some (.int .u32 (x3 : Int)) ∧ ((wr.setCell ⟨T, i, none⟩ v).drewN n).cell? ⟨T, k, none⟩ = some (.int .u32 (x4 : Int))) := fun n v =>
      ⟨(World.cell?_setCell_other wr ⟨T, i, none⟩ ⟨T, a3, none⟩ v (fun e => hk3 (congrArg Addr.off e).symm)).trans c3, (World.cell?_setCell_other wr ⟨T, i, none⟩ ⟨T, k, none⟩ v (fun e => hk4 (congrArg Addr.off e).symm)).trans c4⟩
     have KS2 : Hid (∀ n v, (((wr.drewN n).setCell ⟨T, i, none⟩ v).drew).cell? ⟨T, a3, none⟩ = some (.int .u32 (x3 : Int)) ∧ (((wr.drewN n).setCell ⟨T, i, none⟩ v).drew).cell? ⟨T, k, none⟩ = some (.int .u32 (x4 : Int))) := fun n v => KS.out 0 v
     have hfz := HB.out.frozen i
     obtain ⟨vw, hcw⟩ : ∃ v, wr.cell? ⟨T, i, none⟩ = some v := ⟨_, by rw [HB.out.cell]; exact Array.getElem?_eq_getElem (by rw [wC_size _ (by rw [HTl.out]; omega)]; omega)⟩
     clear hp1 hp2 hy HNX hk3 hk4
     go_wp2_with fail
     generalize nq + q1 + q2 + q3 + q4 = N
     go_region_held3 (fun w' => w'.cell? ⟨T, a3, none⟩ = some (.int .u32 (x3 : Int)) ∧ w'.cell? ⟨T, k, none⟩ = some (.int .u32 (x4 : Int))) (first | exact ⟨c3, c4⟩ | exact KS.out _ _ | exact KS2.out _ _) (first | fail)
     clear c3 c4 KS KS2 hfz hcw
     have hB2 : Hid (Blk ((wr.drewN (N + 1)).setCell ⟨T, i, none⟩ (.int .u32 (y : Int))) T 165 (wC (Dg.schd (Dg.words16 tl) (k + 1)))) := by
      have h1 : Blk ((wr.drewN (N + 1)).setCell ⟨T, i, none⟩ (.int .u32 (y : Int))) T 165 ((wC (Dg.schd (Dg.words16 tl) k)).setIfInBounds i (.int .u32 (y : Int))) := (HB.out.drewN (N + 1)).set_ i (.int .u32 (y : Int))
      have hl := HTl.out
      rw [Dg.schd, HY.out, ← wC_set _ _ (by rw [hl]; omega), hl, ← HI.out]
      exact h1
     have hG2 : Hid (Blk ((wr.drewN (N + 1)).setCell ⟨T, i, none⟩ (.int .u32 (y : Int))) g 151 (hC s tl hv al)) := (HG.out.drewN (N + 1)).far (p := ⟨T, i, none⟩) hgT _
     have hW2 : Hid (Below T w ((wr.drewN (N + 1)).setCell ⟨T, i, none⟩ (.int .u32 (y : Int)))) := (below_drewN HW.out (N + 1)).setCell (p := ⟨T, i, none⟩) (Nat.le_refl _) _
     have ei1 : (i : Int) + 1 = ((16 + (k + 1) : Nat) : Int) := by have := HI.out; omega
     go_wp2_with fail
     go_roundw
     case rel => exact ⟨k + 1, by omega, rfl, hB2, hG2, hW2⟩
     case measure => simp [intOf]; omega
   · obtain ⟨i2, hi2⟩ : ∃ i2, i2 = 16 + k := ⟨_, rfl⟩
     have hk48 : k = 48 := by omega
     have hltd : decide ((i2 : Int) < 64) = false := decide_eq_false (by omega)
     have HB2 : Hid (Blk wr T 165 (wC (Dg.schd (Dg.words16 tl) 48))) := by rw [hk48] at HB; exact HB
     rw [← hi2]
     clear hk hlt HB hi2 hk48 HTl HLT
     go_wp2_with fail
     go_meet
     case rel => exact ⟨HB2, HG, HW⟩
 case rest =>
 clear HB1 HG1 HW1
 obtain ⟨w2, rfl⟩ : ∃ z : World, z = wc := ⟨_, rfl⟩
 obtain ⟨HB2, HG, HW⟩ := hcut
 obtain ⟨sa, sb, sc, sd, se, sf, sg, sh⟩ := st
 have hc : ∀ j, j < 8 → w2.cell? ⟨g, j, none⟩ = some (.int .u32 (((Dg.St.mk sa sb sc sd se sf sg sh).list.getD j 0 : Nat) : Int)) := fun j hj => by
  rw [HG.out.cell, HSS.out]
  unfold hC n32
  rw [List.getElem?_toArray, List.getElem?_append_left (by simp [Dg.St.list]; omega), List.getElem?_map, List.getElem?_eq_getElem (by simp [Dg.St.list]; omega), List.getD_eq_getElem?_getD, List.getElem?_eq_getElem (by simp [Dg.St.list]; omega)]
  rfl
 have d0 : w2.cell? ⟨g, 0, none⟩ = some (.int .u32 (sa : Int)) := hc 0 (by omega)
 have d1 : w2.cell? ⟨g, 1, none⟩ = some (.int .u32 (sb : Int)) := hc 1 (by omega)
 have d2 : w2.cell? ⟨g, 2, none⟩ = some (.int .u32 (sc : Int)) := hc 2 (by omega)
 have d3 : w2.cell? ⟨g, 3, none⟩ = some (.int .u32 (sd : Int)) := hc 3 (by omega)
 have d4 : w2.cell? ⟨g, 4, none⟩ = some (.int .u32 (se : Int)) := hc 4 (by omega)
 have d5 : w2.cell? ⟨g, 5, none⟩ = some (.int .u32 (sf : Int)) := hc 5 (by omega)
 have d6 : w2.cell? ⟨g, 6, none⟩ = some (.int .u32 (sg : Int)) := hc 6 (by omega)
 have d7 : w2.cell? ⟨g, 7, none⟩ = some (.int .u32 (sh : Int)) := hc 7 (by omega)
 clear hc
 go_upto_block 4 with fail
 have hsw := HW.out.size
 have hst := HT.out
 obtain ⟨V, hV⟩ : ∃ V, V = w2.heap.size := ⟨_, rfl⟩
 have BV0 : Hid (Blk (w2.alloc (.cells #[.int .u32 (sa : Int), .int .u32 (sb : Int), .int .u32 (sc : Int), .int .u32 (sd : Int), .int .u32 (se : Int), .int .u32 (sf : Int), .int .u32 (sg : Int), .int .u32 (sh : Int)] 148)) V 148 (n32 (Dg.rnds ⟨sa, sb, sc, sd, se, sf, sg, sh⟩ (Dg.schd (Dg.words16 tl) 48) 0).list).toArray) := by
  rw [hV]
  exact Blk.new w2 _ _
 have hTV : T < V := by have := HB2.out.lt; omega
 have hgV : g < V := by omega
 have BT3 := Lib.hid (HB2.out.alloc (.cells #[.int .u32 (sa : Int), .int .u32 (sb : Int), .int .u32 (sc : Int), .int .u32 (sd : Int), .int .u32 (se : Int), .int .u32 (sf : Int), .int .u32 (sg : Int), .int .u32 (sh : Int)] 148))
 have BG3 := Lib.hid (HG.out.alloc (.cells #[.int .u32 (sa : Int), .int .u32 (sb : Int), .int .u32 (sc : Int), .int .u32 (sd : Int), .int .u32 (se : Int), .int .u32 (sf : Int), .int .u32 (sg : Int), .int .u32 (sh : Int)] 148))
 have BW3 := Lib.hid (HW.out.alloc (by omega) (.cells #[.int .u32 (sa : Int), .int .u32 (sb : Int), .int .u32 (sc : Int), .int .u32 (sd : Int), .int .u32 (se : Int), .int .u32 (sf : Int), .int .u32 (sg : Int), .int .u32 (sh : Int)] 148))
 rw [← hV]
 clear hV d0 d1 d2 d3 d4 d5 d6 d7 HB2 HG HW hsw hst
 generalize w2.alloc (.cells #[.int .u32 (sa : Int), .int .u32 (sb : Int), .int .u32 (sc : Int), .int .u32 (sd : Int), .int .u32 (se : Int), .int .u32 (sf : Int), .int .u32 (sg : Int), .int .u32 (sh : Int)] 148) = w3 at *
 generalize (Dg.St.mk sa sb sc sd se sf sg sh) = st at *
 have hWL := Lib.hid (schd_length (Dg.words16 tl) (by simp [Dg.words16]) 48)
 have hWT := Lib.hid (schd_lt _ (words16_lt tl) 48)
 go_cut [] from 18 (fun wx => Hid (Blk wx V 148 (n32 (Dg.rnds st (Dg.schd (Dg.words16 tl) 48) 64).list).toArray) ∧ Hid (Blk wx g 151 (hC s tl hv al)) ∧ Hid (Below T w wx))
 case first => as_aux_lemma =>
  go_wp2_with fail
  go_loopw [108] (fun vi wr => M3Rel w T g V st s tl hv al vi wr) (fun vi _ => 64 - (intOf vi).toNat)
  case atStart => exact ⟨0, by omega, rfl, BV0, BT3, BG3, BW3⟩
  case round =>
   clear BV0 BT3 BG3 BW3
   obtain ⟨t, ht, rfl, HV, HB, HG, HW⟩ := hrel
   by_cases hlt : t < 64
   · as_aux_lemma =>
     have hltd : decide ((t : Int) < 64) = true := decide_eq_true (by omega)
     have hlt2 : (t : Int) < 64 := by omega
     have HROK := Lib.hid (rnds_ok st HOK.out (Dg.schd (Dg.words16 tl) 48) t)
     have HNX : Hid (Dg.rnds st (Dg.schd (Dg.words16 tl) 48) (t + 1) = Dg.rnd (Dg.rnds st (Dg.schd (Dg.words16 tl) 48) t) (Dg.roundW.getD t 0) ((Dg.schd (Dg.words16 tl) 48).getD t 0)) := rfl
     have ck : wr.cell? ⟨3, t, none⟩ = some (.int .u32 ((Dg.roundW.getD t 0 : Nat) : Int)) := (HW.out.cell (p := ⟨3, t, none⟩) (by show 3 < T; have := HTAB.out.lt; have := HT.out; omega)).trans (HTAB.out.cell t hlt)
     have cw : wr.cell? ⟨T, t, none⟩ = some (.int .u32 (((Dg.schd (Dg.words16 tl) 48).getD t 0 : Nat) : Int)) := by
      rw [HB.out.cell]
      exact wC_get (by rw [hWL.out]; omega)
     have lk : Dg.roundW.getD t 0 < 4294967296 := getD_lt (by decide) t
     have lw := getD_lt hWT.out t
     generalize Dg.rnds st (Dg.schd (Dg.words16 tl) 48) t = r at *
     obtain ⟨r', hr'⟩ : ∃ z, z = Dg.rnds st (Dg.schd (Dg.words16 tl) 48) (t + 1) := ⟨_, rfl⟩
     rw [← hr'] at HNX
     have HRR := Lib.hid hr'
     clear hr'
     generalize Dg.roundW.getD t 0 = K at *
     generalize (Dg.schd (Dg.words16 tl) 48).getD t 0 = X at *
     obtain ⟨sa, sb, sc, sd, se, sf, sg, sh⟩ := r
     obtain ⟨la, lb, lc, ld, le, lf, lg, lh⟩ := HROK.out
     simp only at la lb lc ld le lf lg lh
     have hc : ∀ j, wr.cell? ⟨V, j, none⟩ = (n32 (Dg.St.mk sa sb sc sd se sf sg sh).list)[j]? := fun j => by
      rw [HV.out.cell, List.getElem?_toArray]
     have d0 : wr.cell? ⟨V, 0, none⟩ = some (.int .u32 (sa : Int)) := hc 0
     have d1 : wr.cell? ⟨V, 1, none⟩ = some (.int .u32 (sb : Int)) := hc 1
     have d2 : wr.cell? ⟨V, 2, none⟩ = some (.int .u32 (sc : Int)) := hc 2
     have d3 : wr.cell? ⟨V, 3, none⟩ = some (.int .u32 (sd : Int)) := hc 3
     have d4 : wr.cell? ⟨V, 4, none⟩ = some (.int .u32 (se : Int)) := hc 4
     have d5 : wr.cell? ⟨V, 5, none⟩ = some (.int .u32 (sf : Int)) := hc 5
     have d6 : wr.cell? ⟨V, 6, none⟩ = some (.int .u32 (sg : Int)) := hc 6
     have d7 : wr.cell? ⟨V, 7, none⟩ = some (.int .u32 (sh : Int)) := hc 7
     have T1 := Lib.hid (fun w' => turn_c se 6 6 rfl w' le (by omega) (by omega))
     have T2 := Lib.hid (fun w' => turn_c se 11 11 rfl w' le (by omega) (by omega))
     have T3 := Lib.hid (fun w' => turn_c se 25 25 rfl w' le (by omega) (by omega))
     clear hc
     go_upto_region 17 with fail
     go_cut [13, 14] from 111 to 114 (fun va ve wx => va = .int .u32 (sa : Int) ∧ ve = .int .u32 (se : Int) ∧ Drawn wr wx)
     case first =>
      go_quiet (fail)
      go_wp2_with fail
      go_meet
      case rel => exact ⟨rfl, rfl, _, rfl⟩
     case rest =>
      obtain ⟨rfl, rfl, q1, rfl⟩ := hcut
      replace ck : (wr.drewN q1).cell? ⟨3, t, none⟩ = _ := ck
      replace cw : (wr.drewN q1).cell? ⟨T, t, none⟩ = _ := cw
      replace d5 : (wr.drewN q1).cell? ⟨V, 5, none⟩ = _ := d5
      replace d6 : (wr.drewN q1).cell? ⟨V, 6, none⟩ = _ := d6
      replace d7 : (wr.drewN q1).cell? ⟨V, 7, none⟩ = _ := d7
      replace HV := Lib.hid (HV.out.drewN q1)
      replace HB := Lib.hid (HB.out.drewN q1)
      replace HG := Lib.hid (HG.out.drewN q1)
      replace HW := Lib.hid (below_drewN HW.out q1)
      clear d0 d1 d2 d3 d4
      generalize wr.drewN q1 = wa at *
      have HPV := Lib.hid (rndP_val sa sb sc sd se sf sg sh K X le lf lg)
      have hP : Dg.rndP ⟨sa, sb, sc, sd, se, sf, sg, sh⟩ K X < 4294967296 := Nat.mod_lt _ (by decide)
      have hQ : Dg.rndQ ⟨sa, sb, sc, sd, se, sf, sg, sh⟩ < 4294967296 := Nat.mod_lt _ (by decide)
      have HQV := Lib.hid (rndQ_val sa sb sc sd se sf sg sh la lb lc)
      have HR2 : Hid (r' = ⟨(Dg.rndP ⟨sa, sb, sc, sd, se, sf, sg, sh⟩ K X + Dg.rndQ ⟨sa, sb, sc, sd, se, sf, sg, sh⟩) % 4294967296, sa, sb, sc, (sd + Dg.rndP ⟨sa, sb, sc, sd, se, sf, sg, sh⟩ K X) % 4294967296, se, sf, sg⟩) := HNX.out
      clear HNX
      generalize Dg.rndP ⟨sa, sb, sc, sd, se, sf, sg, sh⟩ K X = Pv at *
      generalize Dg.rndQ ⟨sa, sb, sc, sd, se, sf, sg, sh⟩ = Qv at *
      go_upto_region 18 with fail
      go_cut [15] from 115 to 144 (fun v wx => v = .int .u32 (Pv : Int) ∧ Drawn wa wx)
      case first => as_aux_lemma =>
       go_quiet ((go_at_call 92; first | with_reducible exact Calls.quiet_of (T1.out _) | with_reducible exact Calls.quiet_of (T2.out _) | with_reducible exact Calls.quiet_of (T3.out _)))
       rw [HPV.out]
       (repeat go_step)
       go_meet
       case rel => exact ⟨rfl, _, rfl⟩
      case rest =>
       obtain ⟨rfl, q2, rfl⟩ := hcut
       have d1 : (wa.drewN q2).cell? ⟨V, 1, none⟩ = some (.int .u32 (sb : Int)) := HV.out.cell 1
       have d2 : (wa.drewN q2).cell? ⟨V, 2, none⟩ = some (.int .u32 (sc : Int)) := HV.out.cell 2
       replace HV := Lib.hid (HV.out.drewN q2)
       replace HB := Lib.hid (HB.out.drewN q2)
       replace HG := Lib.hid (HG.out.drewN q2)
       replace HW := Lib.hid (below_drewN HW.out q2)
       clear d5 d6 d7 ck cw T1 T2 T3 HPV
       generalize wa.drewN q2 = wb at *
       have T4 := Lib.hid (fun w' => turn_c sa 2 2 rfl w' la (by omega) (by omega))
       have T5 := Lib.hid (fun w' => turn_c sa 13 13 rfl w' la (by omega) (by omega))
       have T6 := Lib.hid (fun w' => turn_c sa 22 22 rfl w' la (by omega) (by omega))
       go_upto_region 19 with fail
       go_cut [16] from 145 to 168 (fun v wx => v = .int .u32 (Qv : Int) ∧ Drawn wb wx)
       case first => as_aux_lemma =>
        go_quiet ((go_at_call 92; first | with_reducible exact Calls.quiet_of (T4.out _) | with_reducible exact Calls.quiet_of (T5.out _) | with_reducible exact Calls.quiet_of (T6.out _)))
        rw [HQV.out]
        (repeat go_step)
        go_meet
        case rel => exact ⟨rfl, _, rfl⟩
       case rest =>
        obtain ⟨rfl, q3, rfl⟩ := hcut
        replace HV := Lib.hid (HV.out.drewN q3)
        replace HB := Lib.hid (HB.out.drewN q3)
        replace HG := Lib.hid (HG.out.drewN q3)
        replace HW := Lib.hid (below_drewN HW.out q3)
        clear d1 d2 T4 T5 T6 HQV
        generalize wb.drewN q3 = wc at *
        go_upto_region 20 with fail
        go_cut [] from 169 to 171 (fun wx => Hid (Blk wx V 148 (n32 [sa, sa, sb, sc, sd, se, sf, sg]).toArray) ∧ Hid (Below V wc wx))
        case first => as_aux_lemma =>
         have HCC : Hid (∀ j v, (n32 [sa, sb, sc, sd, se, sf, sg])[j]? = some v → wc.drew.cell? ((⟨V, 0, none⟩ : Addr).add j) = some v) := fun j v hj => by
          rw [addr_add, Nat.zero_add]
          refine (HV.out.cell j).trans ?_
          rw [List.getElem?_toArray]
          have e : n32 (Dg.St.mk sa sb sc sd se sf sg sh).list = n32 [sa, sb, sc, sd, se, sf, sg] ++ [.int .u32 (sh : Int)] := rfl
          rw [e, List.getElem?_append_left (List.getElem?_eq_some_iff.1 hj).1]
          exact hj
         have H1 : Hid (∀ v ∈ n32 [sa, sb, sc, sd, se, sf, sg], v.oneCell' = true) := by
          intro v hv
          simp [n32] at hv
          rcases hv with rfl | rfl | rfl | rfl | rfl | rfl | rfl <;> rfl
         go_region_law ((refine step_copy_splice rfl (.tmp 169) (.tmp 170) 167 167 rfl 147 Tryz.underlying167 size_u32 (some ⟨V, 1, none⟩) (some ⟨V, 0, none⟩) 7 7 7 8 rfl rfl V 1 (n32 [sa, sb, sc, sd, se, sf, sg, sh]) 148 (Blk.drew HV.out) (n32 [sa, sb, sc, sd, se, sf, sg]) rfl (fun _ => ⟨rfl, _, rfl, HCC.out⟩) (Nat.le_refl 8) H1.out V wc (Below.drew (Below.refl V wc)) (Nat.le_refl _) ?_; intro w8 hV8 hB8))
         go_wp2_with fail
         go_meet
         case rel => exact ⟨hV8, hB8⟩
        case rest =>
         obtain ⟨HV2, hB2⟩ := hcut
         replace HB := Lib.hid (HB.out.below hB2.out hTV)
         replace HG := Lib.hid (HG.out.below hB2.out hgV)
         replace HW := Lib.hid (HW.out.trans (hB2.out.mono (Nat.le_of_lt hTV)))
         clear hB2 HV
         obtain ⟨wd, rfl⟩ : ∃ z : World, z = wc := ⟨_, rfl⟩
         have HB3 : Hid (Blk ((wd.setCell ⟨V, 4, none⟩ (.int .u32 (((sd + Pv) % 4294967296 : Nat) : Int))).setCell ⟨V, 0, none⟩ (.int .u32 (((Pv + Qv) % 4294967296 : Nat) : Int))) T 165 (wC (Dg.schd (Dg.words16 tl) 48))) := (HB.out.far (p := ⟨V, 4, none⟩) (Nat.ne_of_lt hTV) _).far (p := ⟨V, 0, none⟩) (Nat.ne_of_lt hTV) _
         have HG3 : Hid (Blk ((wd.setCell ⟨V, 4, none⟩ (.int .u32 (((sd + Pv) % 4294967296 : Nat) : Int))).setCell ⟨V, 0, none⟩ (.int .u32 (((Pv + Qv) % 4294967296 : Nat) : Int))) g 151 (hC s tl hv al)) := (HG.out.far (p := ⟨V, 4, none⟩) (Nat.ne_of_lt hgV) _).far (p := ⟨V, 0, none⟩) (Nat.ne_of_lt hgV) _
         have HW3 : Hid (Below T w ((wd.setCell ⟨V, 4, none⟩ (.int .u32 (((sd + Pv) % 4294967296 : Nat) : Int))).setCell ⟨V, 0, none⟩ (.int .u32 (((Pv + Qv) % 4294967296 : Nat) : Int)))) := (HW.out.setCell (p := ⟨V, 4, none⟩) (Nat.le_of_lt hTV) _).setCell (p := ⟨V, 0, none⟩) (Nat.le_of_lt hTV) _
         have HV3 : Hid (Blk ((wd.setCell ⟨V, 4, none⟩ (.int .u32 (((sd + Pv) % 4294967296 : Nat) : Int))).setCell ⟨V, 0, none⟩ (.int .u32 (((Pv + Qv) % 4294967296 : Nat) : Int))) V 148 (n32 (Dg.St.mk ((Pv + Qv) % 4294967296) sa sb sc ((sd + Pv) % 4294967296) se sf sg).list).toArray) := (HV2.out.set_ 4 _).set_ 0 _
         have k4 : wd.cell? ⟨V, 4, none⟩ = some (.int .u32 (sd : Int)) := HV2.out.cell 4
         have k0 : ∀ v, (wd.setCell ⟨V, 4, none⟩ v).cell? ⟨V, 0, none⟩ = some (.int .u32 (sa : Int)) := fun v => (World.cell?_setCell_other wd ⟨V, 4, none⟩ ⟨V, 0, none⟩ v (by simp)).trans (HV2.out.cell 0)
         have f4 := HV2.out.frozen 4
         have f0 := HV2.out.frozen 0
         obtain ⟨z1, hz1⟩ : ∃ z, z = (sd + Pv) % 4294967296 := ⟨_, rfl⟩
         obtain ⟨z2, hz2⟩ : ∃ z, z = (Pv + Qv) % 4294967296 := ⟨_, rfl⟩
         have w1e : IntKind.u32.wrap ((sd : Int) + (Pv : Int)) = (z1 : Int) := by rw [IntKind.wrap_u32]; omega
         have w2e : IntKind.u32.wrap ((Pv : Int) + (Qv : Int)) = (z2 : Int) := by rw [IntKind.wrap_u32]; omega
         rw [← hz1, ← hz2] at HR2 HB3 HG3 HW3 HV3
         have HRF := Lib.hid HR2.out
         clear hz1 hz2
         obtain ⟨t1, ht1⟩ : ∃ z, z = t + 1 := ⟨_, rfl⟩
         have et1 : (t : Int) + 1 = (t1 : Int) := by omega
         have HT1 := Lib.hid ht1
         clear ht1
         go_wp2_with fail
         refine ⟨⟨t + 1, by omega, by rw [HT1.out], ?_, HB3, HG3, HW3⟩, by have := HT1.out; simp [intOf]; omega⟩
         show Hid (Blk _ _ _ _)
         rw [← HRR.out, HRF.out]
         exact HV3
   · have ht64 : t = 64 := by omega
     have hltd : decide ((t : Int) < 64) = false := decide_eq_false (by omega)
     have HV0 : Hid (Blk wr V 148 (n32 (Dg.rnds st (Dg.schd (Dg.words16 tl) 48) 64).list).toArray) := by rw [← ht64]; exact HV
     clear ht64 ht hlt HV
     go_wp2_with fail
     go_meet
     case rel => exact ⟨HV0, HG, HW⟩
 case rest =>
 clear BV0 BT3 BG3 BW3 hWL hWT
 obtain ⟨w4, rfl⟩ : ∃ z : World, z = wc := ⟨_, rfl⟩
 obtain ⟨HV0, HG, HW⟩ := hcut
 have HGB : Hid (Blk w4 g 151 (hC (addW s (Dg.rnds st (Dg.schd (Dg.words16 tl) 48) 64).list 0) tl hv al)) := by
  have e : addW s (Dg.rnds st (Dg.schd (Dg.words16 tl) 48) 64).list 0 = s := addW_zero _ _ HS.out
  unfold Hid
  rw [e]
  exact HG
 have HRT := Lib.hid (rnds_ok st HOK.out (Dg.schd (Dg.words16 tl) 48) 64)
 have HFIN : Hid (addW s (Dg.rnds st (Dg.schd (Dg.words16 tl) 48) 64).list 8 = (Dg.comp st tl).list) := by
  unfold Hid Dg.comp
  rw [HSS.out]
  exact addW_eight _ _
 generalize Dg.rnds st (Dg.schd (Dg.words16 tl) 48) 64 = rt at *
 have HW4 : Hid (w.grownBy w4 (some g)) := gb_of_below (by have := HW.out; rw [HT.out] at this; exact this) _
 clear HG HW
 go_wp2_with fail
 go_loopw [182] (fun vi wr => M4Rel w g V rt s tl hv al vi wr) (fun vi _ => 8 - (intOf vi).toNat)
 case atStart => exact ⟨0, by omega, rfl, HV0, HGB, HW4⟩
 case round =>
  clear HV0 HGB HW4
  obtain ⟨i, hi, rfl, HV, HG, HW⟩ := hrel
  by_cases hlt : i < 8
  · as_aux_lemma =>
    have hltd : decide ((i : Int) < 8) = true := decide_eq_true (by omega)
    have hlt2 : (i : Int) < 8 := by omega
    have hgV2 : g ≠ V := by omega
    have cg : wr.cell? ⟨g, i, none⟩ = some (.int .u32 ((s.getD i 0 : Nat) : Int)) := by
     rw [HG.out.cell]
     exact hC_word (addW_get _ _ _ _ (by omega))
    have cv : wr.cell? ⟨V, i, none⟩ = some (.int .u32 ((rt.list.getD i 0 : Nat) : Int)) := by
     rw [HV.out.cell, List.getElem?_toArray]
     exact n32_get (by simp [Dg.St.list]; omega)
    have lsi : s.getD i 0 < 4294967296 := by rw [HSS.out]; exact st_lt HOK.out i
    have lvi : rt.list.getD i 0 < 4294967296 := st_lt HRT.out i
    have HAW := Lib.hid (addW_set s rt.list i)
    generalize s.getD i 0 = xs at *
    generalize rt.list.getD i 0 = xv at *
    obtain ⟨z, hz⟩ : ∃ z, z = (xs + xv) % 4294967296 := ⟨_, rfl⟩
    have wz : IntKind.u32.wrap ((xs : Int) + (xv : Int)) = (z : Int) := by rw [IntKind.wrap_u32]; omega
    rw [← hz] at HAW
    have fg := HG.out.frozen i
    obtain ⟨i1, hi1⟩ : ∃ z, z = i + 1 := ⟨_, rfl⟩
    have ei1 : (i : Int) + 1 = (i1 : Int) := by omega
    have HI1 := Lib.hid hi1
    clear hz hi1
    go_wp2_with fail
    go_still_tail 13, (by kernel_rfl)
    change wpList _ _ _ _ _ (wr.drewN 1)
    have KG : Hid (Blk ((wr.drewN 1).setCell ⟨g, i, none⟩ (.int .u32 (z : Int))) g 151 (hC (addW s rt.list (i + 1)) tl hv al)) := by
     have h1 := (HG.out.drewN 1).set_ i (.int .u32 (z : Int))
     rw [hC_set _ _ _ _ _ _ (by rw [addW_length]; exact hlt), HAW.out] at h1
     exact h1
    have KV : Hid (Blk ((wr.drewN 1).setCell ⟨g, i, none⟩ (.int .u32 (z : Int))) V 148 (n32 rt.list).toArray) := (HV.out.drewN 1).far (p := ⟨g, i, none⟩) (fun e => hgV2 e.symm) _
    have KW : Hid (w.grownBy ((wr.drewN 1).setCell ⟨g, i, none⟩ (.int .u32 (z : Int))) (some g)) := gb_set (p := ⟨g, i, none⟩) (gb_drewN HW.out 1) (.inl rfl) _
    go_wp2_with fail
    exact ⟨⟨i + 1, by omega, by rw [HI1.out], KV, KG, KW⟩, by have := HI1.out; simp [intOf]; omega⟩
  · have hi8 : i = 8 := by omega
    have hltd : decide ((i : Int) < 8) = false := decide_eq_false (by omega)
    have KG : Hid (Blk wr g 151 (hC FL tl hv al)) := by
     have h1 := HG.out
     rw [hi8, HFIN.out, ← HFL.out] at h1
     exact h1
    clear hi hlt hi8 HG
    go_wp2_with fail
    go_end0
    exact ⟨rfl, KG.out, HW.out⟩
end Go.Proofs.YtnjhjbmngoeobaaGreatDoor
