/- Laws towards WalkDeep: DigE. -/
import Derived.Test.YtnjhjbmngoeobaaGreatDoorMg05
namespace Go.Proofs.YtnjhjbmngoeobaaGreatDoor
open Go.RowKit
set_option maxRecDepth 100000
def idC (l : List UInt8) : Array Value := (U (l ++ List.replicate (32 - l.length) 0)).toArray
theorem idC_size (l : List UInt8) (h : l.length ≤ 32) : (idC l).size = 32 := by simp [idC, U]; omega
theorem idC_full (l : List UInt8) (h : l.length = 32) : idC l = (U l).toArray := by simp [idC, h]
theorem idC_set (l : List UInt8) (x : UInt8) (h : l.length < 32) : (idC l).setIfInBounds l.length (.int .u8 (x.toNat : Int)) = idC (l ++ [x]) := by
 apply Array.ext'
 unfold idC
 obtain ⟨k, hk⟩ : ∃ k, 32 - l.length = k + 1 := ⟨32 - l.length - 1, by omega⟩
 have hk2 : 32 - (l ++ [x]).length = k := by simp; omega
 rw [hk2, hk, List.replicate_succ, List.append_assoc, U_append, U_append]
 simp only [List.setIfInBounds_toArray, List.toList_toArray]
 rw [List.set_append_right _ _ (by simp [U_length]), U_length, Nat.sub_self]
 rfl
def padk (k : Nat) : List UInt8 := 0x80 :: List.replicate k 0
theorem padk_length (k : Nat) : (padk k).length = k + 1 := by simp [padk]
theorem padk_succ (k : Nat) : padk (k + 1) = padk k ++ [0] := by simp [padk, List.replicate_succ']
def PadRel (w : World) (T : Nat) (tx : List UInt8) (st : Dg.St) (tl : List UInt8) (hv : Nat) (v5 : Value) (wr : World) : Prop :=
 ∃ (k n c : Nat) (A : Option Addr), k ≤ Dg.padz tx.length ∧ v5 = .slice A n c ∧ Hid (n = k + 1) ∧ Hid (wr.ownsRow (T + 2) 5 1 (.slice A n c) n (U (padk k))) ∧
  Hid (Hsh wr (T + 1) tx tx.length st tl hv) ∧ Hid (Blk wr T 30 (idC [])) ∧ Hid (Below T w wr) ∧ Hid (T + 2 ≤ wr.heap.size)
def PadEnd (w : World) (T : Nat) (tx : List UInt8) (st : Dg.St) (tl : List UInt8) (hv : Nat) (v5 : Value) (wr : World) : Prop :=
 ∃ (n c : Nat) (A : Option Addr), v5 = .slice A n c ∧ Hid (n = Dg.padz tx.length + 1) ∧ Hid (wr.ownsRow (T + 2) 5 1 (.slice A n c) n (U (padk (Dg.padz tx.length)))) ∧
  Hid (Hsh wr (T + 1) tx tx.length st tl hv) ∧ Hid (Blk wr T 30 (idC [])) ∧ Hid (Below T w wr) ∧ Hid (T + 2 ≤ wr.heap.size)
theorem pad_keep {w wr w2 : World} {T n c : Nat} {A : Option Addr} {xs : List Value} {tx : List UInt8} {al : Nat} {st : Dg.St} {tl : List UInt8} {hv : Nat} {cs : Array Value} (ho : wr.ownsRow (T + 2) 5 1 (.slice A n c) n xs) (hg : wr.grownBy w2 (Value.slice A n c).ownBlock)
 (h1 : Hsh wr (T + 1) tx al st tl hv) (h2 : Blk wr T 30 cs) (h3 : Below T w wr) (h4 : T + 2 ≤ wr.heap.size) :
 Hid (Hsh w2 (T + 1) tx al st tl hv) ∧ Hid (Blk w2 T 30 cs) ∧ Hid (Below T w w2) ∧ Hid (T + 2 ≤ w2.heap.size) := by
 have hne : ∀ q, q < T + 2 → (Value.slice A n c).ownBlock ≠ some q := fun q hq e => by have := ho.lt q e; omega
 refine ⟨⟨h1.inv, h1.ok, h1.blk.gb hg (fun e => hne (T + 1) (by omega) e.symm)⟩, h2.gb hg (fun e => hne T (by omega) e.symm), ?_, Nat.le_trans h4 hg.size⟩
 exact h3.trans ⟨hg.os, hg.tape, hg.output, hg.size, fun i hi => hg.block i (by omega) (fun e => hne i (by omega) e.symm)⟩
theorem be8_get (x j : Nat) (hj : j < 8) : (Dg.be8 x)[j]? = some (UInt8.ofNat (x / 2 ^ (8 * (7 - j)))) := by
 match j, hj with
 | 0, _ => rfl
 | 1, _ => rfl
 | 2, _ => rfl
 | 3, _ => rfl
 | 4, _ => rfl
 | 5, _ => rfl
 | 6, _ => rfl
 | 7, _ => simp [Dg.be8]
theorem be8_take (x i : Nat) (hi : i < 8) : (Dg.be8 x).take (8 - i) = (Dg.be8 x).take (7 - i) ++ [UInt8.ofNat (x / 2 ^ (8 * i))] := by
 have h := be8_get x (7 - i) (by omega)
 rw [show 8 - i = 7 - i + 1 by omega, List.take_add_one, h, show 7 - (7 - i) = i by omega]
 rfl
def BitRel (w : World) (T B8 : Nat) (tx : List UInt8) (st : Dg.St) (tl : List UInt8) (hv : Nat) (v5 v6 : Value) (wr : World) : Prop :=
 ∃ (m n c : Nat) (x : Int) (A : Option Addr), m ≤ 8 ∧ v6 = .int .i64 x ∧ v5 = .slice A n c ∧ Hid (x = (m : Int) - 1) ∧ Hid (n = Dg.padz tx.length + 1 + (8 - m)) ∧
  Hid (wr.ownsRow (T + 2) 5 1 (.slice A n c) n (U (padk (Dg.padz tx.length) ++ (Dg.be8 B8).take (8 - m)))) ∧
  Hid (Hsh wr (T + 1) tx tx.length st tl hv) ∧ Hid (Blk wr T 30 (idC [])) ∧ Hid (Below T w wr) ∧ Hid (T + 2 ≤ wr.heap.size)
def BitEnd (w : World) (T B8 : Nat) (tx : List UInt8) (st : Dg.St) (tl : List UInt8) (hv : Nat) (v5 : Value) (wr : World) : Prop :=
 ∃ (n c : Nat) (A : Option Addr), v5 = .slice A n c ∧ Hid (n = Dg.padz tx.length + 1 + 8) ∧
  Hid (wr.ownsRow (T + 2) 5 1 (.slice A n c) n (U (padk (Dg.padz tx.length) ++ Dg.be8 B8))) ∧
  Hid (Hsh wr (T + 1) tx tx.length st tl hv) ∧ Hid (Blk wr T 30 (idC [])) ∧ Hid (Below T w wr) ∧ Hid (T + 2 ≤ wr.heap.size)
theorem wraps64 (n : Int) (h0 : -9223372036854775808 ≤ n) (h1 : n < 9223372036854775808) : IntKind.i64.wrap n = n := by rw [IntKind.wrap_i64]; omega
theorem idx8 (s : Dg.St) (j : Nat) (hj : j < 8) (w : World) : (Instr.index 148 (.agg #[.int .u32 (s.a : Int), .int .u32 (s.b : Int), .int .u32 (s.c : Int), .int .u32 (s.d : Int), .int .u32 (s.e : Int), .int .u32 (s.f : Int), .int .u32 (s.g : Int), .int .u32 (s.h : Int)]) (.int .i64 (j : Int))).run Tryz.prog w = .ok (.int .u32 ((s.list.getD j 0 : Nat) : Int)) w := by
 match j, hj with
 | 0, _ => rfl
 | 1, _ => rfl
 | 2, _ => rfl
 | 3, _ => rfl
 | 4, _ => rfl
 | 5, _ => rfl
 | 6, _ => rfl
 | 7, _ => rfl
def IdO (w : World) (T I : Nat) (st : Dg.St) (v : Value) (wr : World) : Prop :=
 ∃ i : Nat, i ≤ 8 ∧ v = .int .i64 (i : Int) ∧ Hid (Blk wr I 30 (idC ((Dg.outS st).take (4 * i)))) ∧ Hid (Blk wr T 30 (idC [])) ∧ Hid (Below T w wr)
def IdI (w : World) (T I : Nat) (st : Dg.St) (i : Nat) (v : Value) (wr : World) : Prop :=
 ∃ k : Nat, k ≤ 4 ∧ v = .int .i64 (k : Int) ∧ Hid (Blk wr I 30 (idC ((Dg.outS st).take (4 * i + k)))) ∧ Hid (Blk wr T 30 (idC [])) ∧ Hid (Below T w wr)
theorem outS_step (s : Dg.St) (i k : Nat) (hi : i < 8) (hk : k < 4) : (idC ((Dg.outS s).take (4 * i + k))).setIfInBounds (4 * i + k) (.int .u8 ((s.list.getD i 0 / 2 ^ (24 - 8 * k) % 256 : Nat) : Int)) = idC ((Dg.outS s).take (4 * i + k + 1)) := by
 have hl : ((Dg.outS s).take (4 * i + k)).length = 4 * i + k := by
  rw [List.length_take]
  have : (Dg.outS s).length = 32 := rfl
  omega
 have h := idC_set ((Dg.outS s).take (4 * i + k)) (UInt8.ofNat (s.list.getD i 0 / 2 ^ (24 - 8 * k))) (by rw [hl]; omega)
 rw [hl] at h
 rw [List.take_add_one, outS_get s i k hi hk]
 have e : ((UInt8.ofNat (s.list.getD i 0 / 2 ^ (24 - 8 * k))).toNat : Int) = ((s.list.getD i 0 / 2 ^ (24 - 8 * k) % 256 : Nat) : Int) := by simp
 rw [e] at h
 exact h
theorem infoID : (Tryz.prog.info? 30).map (·.size) = some 32 := by kernel_rfl
theorem hC_size {s : List Nat} {tl : List UInt8} (hv al : Nat) (hs : s.length = 8) (ht : tl.length = 64) : (hC s tl hv al).size = 74 := by simp [hC, n32, U_length, hs, ht]
theorem infoHash74 : (Tryz.prog.info? 151).map (·.size) = some 74 := by kernel_rfl
theorem infoHash (s : List Nat) (tl : List UInt8) (hv al : Nat) (hs : s.length = 8) (ht : tl.length = 64) : (Tryz.prog.info? 151).map (·.size) = some (hC s tl hv al).size := by
 rw [hC_size hv al hs ht]
 exact infoHash74
theorem zero74' : (Tryz.zeroCells151).size = 74 := by kernel_rfl
theorem zero74 : 0 + 74 ≤ (Tryz.zeroCells151).toList.length := by rw [Array.length_toList, zero74']; omega
theorem hC_one (s : List Nat) (tl : List UInt8) (hv al : Nat) : ∀ v ∈ (hC s tl hv al).toList, v.oneCell' = true := by
 intro v hv
 simp [hC, n32, U] at hv
 rcases hv with ⟨a, _, rfl⟩ | ⟨a, _, rfl⟩ | rfl | rfl <;> rfl
def z72 : Array Value := (U (List.replicate 72 0)).toArray
theorem mk72 (w : World) : (Instr.makeSlice 35 (.int .i64 1) (.int .i64 72)).run Tryz.prog w = .ok (.slice (some ⟨w.heap.size, 0, none⟩) 1 72) (w.alloc (.cells z72 5)) := by kernel_rfl
theorem row72 (w : World) (base : Nat) (hb : base ≤ w.heap.size) : (w.alloc (.cells (z72.setIfInBounds 0 (.int .u8 128)) 5)).ownsRow base 5 1 (.slice (some ⟨w.heap.size, 0, none⟩) 1 72) 1 (U (padk 0)) := by
 have h1 := Blk.new w 5 (z72.setIfInBounds 0 (.int .u8 128))
 exact ⟨rfl, .inr ⟨w.heap.size, 72, _, rfl, hb, h1, by decide, by decide, rfl, rfl⟩⟩
set_option maxHeartbeats 4000000 in
theorem sum_any (g : Nat) (tx : List UInt8) (st : Dg.St) (tl : List UInt8) (hv : Nat) (w : World) (h : Hsh w g tx tx.length st tl hv) (htab : RndTab w) (hb : tx.length ≤ 1152921504606840000) :
 Calls Tryz.prog 67 #[.pointer (some ⟨g, 0, none⟩)] w fun e w' => e = .returned (.agg (U (Dg.sha tx)).toArray) ∧ Below w.heap.size w w' := by
 have HH := Lib.hid h
 have HTAB := Lib.hid htab
 have hgl := h.blk.lt
 have HB := Lib.hid h.blk
 clear h htab
 go_enter Tryz.func67, Tryz.ntmps67
 go_upto_region 1 with fail
 rw [show (#[Value.int IntKind.u8 0, Value.int IntKind.u8 0, Value.int IntKind.u8 0, Value.int IntKind.u8 0, Value.int IntKind.u8 0, Value.int IntKind.u8 0, Value.int IntKind.u8 0, Value.int IntKind.u8 0, Value.int IntKind.u8 0, Value.int IntKind.u8 0, Value.int IntKind.u8 0, Value.int IntKind.u8 0, Value.int IntKind.u8 0, Value.int IntKind.u8 0, Value.int IntKind.u8 0, Value.int IntKind.u8 0, Value.int IntKind.u8 0, Value.int IntKind.u8 0, Value.int IntKind.u8 0, Value.int IntKind.u8 0, Value.int IntKind.u8 0, Value.int IntKind.u8 0, Value.int IntKind.u8 0, Value.int IntKind.u8 0, Value.int IntKind.u8 0, Value.int IntKind.u8 0, Value.int IntKind.u8 0, Value.int IntKind.u8 0, Value.int IntKind.u8 0, Value.int IntKind.u8 0, Value.int IntKind.u8 0, Value.int IntKind.u8 0] : Array Value) = idC [] from rfl]
 have BI0 := Lib.hid (Blk.new w 30 (idC []))
 have BH0 := Lib.hid (HB.out.alloc (.cells (idC []) 30))
 have BW0 := Lib.hid ((Below.refl w.heap.size w).alloc (Nat.le_refl _) (.cells (idC []) 30))
 obtain ⟨T, hT⟩ : ∃ T, T = w.heap.size := ⟨_, rfl⟩
 rw [← hT] at BI0 BW0 hgl
 rw [← hT]
 have HZ0 : Hid ((w.alloc (.cells (idC []) 30)).heap.size = T + 1) := by show _ = _; rw [hT]; simp
 have HT := Lib.hid hT
 clear hT HB
 generalize w.alloc (.cells (idC []) 30) = w0 at *
 have BH1 : Hid (w0.heap[g]? = some (.cells (hC st.list tl hv tx.length) 151 (0, 0))) := BH0.out
 have HIN := Lib.hid (infoHash st.list tl hv tx.length rfl HH.out.inv.len)
 have HZB : Hid (((w0.alloc (.cells Tryz.zeroCells151 151)).heap[T + 1]? = some (.cells (Tryz.zeroCells151.toList).toArray 151 (0, 0)))) := by
  have h1 := Blk.new w0 151 Tryz.zeroCells151
  rw [HZ0.out] at h1
  show _ = some (Obj.cells (Tryz.zeroCells151.toList).toArray 151 (0, 0))
  rw [Array.toArray_toList]
  exact h1
 have HFI : Hid (0 + (hC st.list tl hv tx.length).toList.length ≤ (Tryz.zeroCells151).toList.length) := by
  show _ ≤ _
  rw [Array.length_toList, hC_size _ _ rfl HH.out.inv.len]
  exact zero74
 have HI2 : Hid ((Tryz.prog.info? 151).map (·.size) = some (hC st.list tl hv tx.length).toList.length) := by
  show _ = some _
  rw [Array.length_toList]
  exact HIN.out
 have HO : Hid (∀ v ∈ (hC st.list tl hv tx.length).toList, v.oneCell' = true) := hC_one _ _ _ _
 go_upto_region 2 with (first
  | (with_reducible refine wpList_load_row rfl 151 (.tmp 12) rfl g rfl 151 (hC st.list tl hv tx.length) (0, 0) _ BH1.out Tryz.underlying151 rfl HIN.out ?_)
  | (rw [HZ0.out]; with_reducible refine wpList_storeG rfl 151 (.tmp 3) (.tmp 13) rfl (T + 1) 0 (hC st.list tl hv tx.length).toList rfl rfl (Tryz.zeroCells151).toList 151 HZB.out HFI.out HO.out HI2.out ?_; intro w1 HC1 HG1))
 have HC1' : Hid (Hsh w1 (T + 1) tx tx.length st tl hv) := by
  refine ⟨HH.out.inv, HH.out.ok, ?_⟩
  have h1 := HC1.out
  rw [splice_all _ _ (by rw [Array.length_toList, Array.length_toList, hC_size _ _ rfl HH.out.inv.len]; exact zero74'), Array.toArray_toList] at h1
  exact h1
 have HW0 : Hid (w0.grownBy w1 (some (T + 1))) := gb_trans (gb_alloc (gb_refl _ _) _) HG1.out
 have BI1 : Hid (Blk w1 T 30 (idC [])) := BI0.out.gb HW0.out (by simp)
 have BW1 : Hid (Below T w w1) := BW0.out.trans (below_of_gb_some HW0.out (by omega) (by have := HZ0.out; omega))
 have HZ1 : Hid (T + 2 ≤ w1.heap.size) := by
  have h1 := HG1.out.size
  have h2 := HZ0.out
  simp at h1
  show _ ≤ _
  omega
 clear HC1 HG1 HW0 BI0 BW0 BH0 BH1 HZ0 HZB HFI HI2 HO HIN HH
 have c73 : w1.cell? ⟨T + 1, 73, none⟩ = some (.int .u64 ((tx.length : Nat) : Int)) := by rw [HC1'.out.blk.cell]; exact hC_all rfl HC1'.out.inv.len
 obtain ⟨L0, hL0⟩ : ∃ z, z = tx.length := ⟨_, rfl⟩
 obtain ⟨B8, hB8⟩ : ∃ z, z = 8 * tx.length := ⟨_, rfl⟩
 rw [← hL0] at c73
 have e8 : IntKind.u64.wrap (8 * (L0 : Int)) = (B8 : Int) := by rw [wraps_u64 _ (by omega) (by omega)]; omega
 have HB8 := Lib.hid hB8
 have HL0 := Lib.hid hL0
 clear hB8 hL0
 have hmk := fun w' => mk72 w'
 have f0 : (w1.alloc (.cells z72 5)).frozen? ⟨w1.heap.size, 0, none⟩ = false := (Blk.new w1 5 _).frozen 0
 have c0 : (w1.alloc (.cells z72 5)).cell? ⟨w1.heap.size, 0, none⟩ = some (.int .u8 0) := (Blk.new w1 5 _).cell 0
 go_upto_block 0 with fail
 clear c73 e8 hmk f0 c0
 have HO2 := Lib.hid (row72 w1 (T + 2) HZ1.out)
 have HC2 : Hid (Hsh (w1.alloc (.cells (z72.setIfInBounds 0 (.int .u8 128)) 5)) (T + 1) tx tx.length st tl hv) := ⟨HC1'.out.inv, HC1'.out.ok, HC1'.out.blk.alloc _⟩
 have BI2 := Lib.hid (BI1.out.alloc (.cells (z72.setIfInBounds 0 (.int .u8 128)) 5))
 have BW2 := Lib.hid (BW1.out.alloc (by have := HZ1.out; omega) (.cells (z72.setIfInBounds 0 (.int .u8 128)) 5))
 have HZ2 : Hid (T + 2 ≤ (w1.alloc (.cells (z72.setIfInBounds 0 (.int .u8 128)) 5)).heap.size) := by have := HZ1.out; show _ ≤ _; simp; omega
 clear HC1' BI1 BW1
 generalize w1.alloc (.cells (z72.setIfInBounds 0 (.int .u8 128)) 5) = w2 at *
 generalize w1.heap.size = M at *
 clear HZ1
 obtain ⟨i5, hi5, hz50, hz51, hz52⟩ := info_parts info5
 go_cut [5] from 20 (fun v wx => PadEnd w T tx st tl hv v wx)
 case first =>
  go_wp2_with fail
  go_loopw [5] (fun v wr => PadRel w T tx st tl hv v wr) (fun v _ => 200 - rowLen v)
  case atStart => exact ⟨0, 1, 72, some ⟨M, 0, none⟩, Nat.zero_le _, rfl, rfl, HO2, HC2, BI2, BW2, HZ2⟩
  case round =>
   clear HO2 HC2 BI2 BW2 HZ2
   obtain ⟨k, n, c, A, hk, rfl, HN, HO, HC, HI, HW, HZ⟩ := hrel
   have hv64 := HInv_lt HC.out.inv
   have c72 : wr.cell? ⟨T + 1, 72, none⟩ = some (.int .i64 (hv : Int)) := by rw [HC.out.blk.cell]; exact hC_have rfl HC.out.inv.len
   have hz := HC.out.inv.zeros
   have hpz := (Dg.padz_eq tx.length).2
   have hn := HN.out
   obtain ⟨y, hy⟩ : ∃ y, y = hv + n := ⟨_, rfl⟩
   obtain ⟨z, hzz⟩ : ∃ z, z = y % 64 := ⟨_, rfl⟩
   have ey : IntKind.i64.wrap ((hv : Int) + (n : Int)) = (y : Int) := by rw [wraps_i64 _ (by omega) (by omega)]; omega
   have ez : (y : Int) % 64 = (z : Int) := by omega
   have ez2 : (y : Int).tmod 64 = (z : Int) := by rw [Int.tmod_eq_emod_of_nonneg (by omega)]; exact ez
   by_cases hkk : k < Dg.padz tx.length
   · have hne : ((z : Int) != 56) = true := by
      have := hz.2 k hkk
      simp
      omega
     have HKK := Lib.hid hkk
     have hl64 : n ≤ 64 := by omega
     clear hz hpz hn hy hzz hk hkk
     have hsz : T + 2 ≤ wr.heap.size := HZ.out
     go_wp2_with (first
      | (at_builtin
         refine wpList_push wr rfl (.tmp 27) (.tmp 28) 35 rfl (T + 2) 5 i5 (.int .u8 0) 1 Tryz.underlying35 hi5 hz50 hz51 hz52 rfl A n c (U (padk k)) rfl HO.out (.int .u8 0) _ rfl rfl (by omega) (by unfold maxLen; omega) hsz ?_
         intro A2 c2 w2 hown2 hg2
         have HP := Lib.hid (pad_keep HO.out hg2 HC.out HI.out HW.out HZ.out)
         have HO2 := Lib.hid hown2
         clear hown2 hg2)
      | fail)
     go_roundw
     case rel =>
      obtain ⟨p1, p2, p3, p4⟩ := HP.out
      refine ⟨k + 1, n + 1, c2, A2, HKK.out, rfl, by have := HN.out; show _ = _; omega, ?_, p1, p2, p3, p4⟩
      show World.ownsRow _ _ _ _ _ _ _
      rw [padk_succ, U_append]
      exact HO2.out
     case measure => simp [rowLen]; omega
   · have hke : k = Dg.padz tx.length := by omega
     have hne : ((z : Int) != 56) = false := by
      have := hz.1
      simp
      omega
     have HE : Hid (PadEnd w T tx st tl hv (.slice A n c) wr) := ⟨n, c, A, rfl, by rw [← hke]; exact HN, by rw [← hke]; exact HO, HC, HI, HW, HZ⟩
     clear hz hpz hn hy hzz hk hkk hke HN HO HC HI HW HZ
     go_wp2_with fail
     go_meet
     case rel => exact HE.out
 case rest =>
 clear HO2 HC2 BI2 BW2 HZ2
 obtain ⟨w3, rfl⟩ : ∃ z : World, z = wc := ⟨_, rfl⟩
 obtain ⟨n, c, A, rfl, HN, HO, HC, HI, HW, HZ⟩ := hcut
 have hB63 : B8 < 18446744073709551616 := by have := HB8.out; omega
 go_upto_block 2 with fail
 go_cut [5] from 20 (fun v wx => BitEnd w T B8 tx st tl hv v wx)
 case first =>
  go_wp2_with fail
  go_loopw [5, 6] (fun v v6 wr => BitRel w T B8 tx st tl hv v v6 wr) (fun _ v6 _ => (intOf v6 + 1).toNat)
  case atStart => exact ⟨8, n, c, 7, A, Nat.le_refl _, rfl, rfl, rfl, HN, by show World.ownsRow _ _ _ _ _ _ _; simpa using HO.out, HC, HI, HW, HZ⟩
  case round =>
   obtain ⟨n0, rfl⟩ : ∃ z, z = n := ⟨_, rfl⟩
   clear HN HO HC HI HW HZ
   obtain ⟨m, n, c, x, A, hm, rfl, rfl, HX, HN, HO, HC, HI, HW, HZ⟩ := hrel
   by_cases hm0 : m = 0
   · subst hm0
     have hx : x = -1 := by rw [HX.out]; rfl
     subst hx
     have HE : Hid (BitEnd w T B8 tx st tl hv (.slice A n c) wr) := ⟨n, c, A, rfl, HN, by show World.ownsRow _ _ _ _ _ _ _; simpa [Dg.be8] using HO.out, HC, HI, HW, HZ⟩
     clear HN HO HC HI HW HZ HX
     go_wp2_with fail
     go_meet
     case rel => exact HE.out
   · obtain ⟨i, hi⟩ : ∃ i, m = i + 1 := ⟨m - 1, by omega⟩
     have hx : x = (i : Int) := by rw [HX.out]; omega
     subst hx
     have hi8 : i < 8 := by omega
     obtain ⟨s, hs⟩ : ∃ s, s = 8 * i := ⟨_, rfl⟩
     have es : IntKind.i64.wrap (8 * (i : Int)) = (s : Int) := by rw [wraps_i64 _ (by omega) (by omega)]; omega
     obtain ⟨b, hbb⟩ : ∃ b, b = B8 / 2 ^ s % 256 := ⟨_, rfl⟩
     have eb : IntKind.u8.wrap ((B8 : Int) / 2 ^ s) = (b : Int) := by
      rw [hbb]
      have e : (B8 : Int) / 2 ^ s = ((B8 / 2 ^ s : Nat) : Int) := by simp
      rw [e, IntKind.wrap_u8]
      omega
     have hge : decide ((0 : Int) ≤ (i : Int)) = true := decide_eq_true (by omega)
     have hl64 : n ≤ 80 := by have := HN.out; have := (Dg.padz_eq tx.length).2; omega
     have hsz : T + 2 ≤ wr.heap.size := HZ.out
     have HTKE := Lib.hid (be8_take B8 i hi8)
     have HS := Lib.hid hs
     have HBB := Lib.hid hbb
     have hs64 : s < 64 := by omega
     have hb256 : b < 256 := by omega
     have ei1 : IntKind.i64.wrap ((i : Int) - 1) = (i : Int) - 1 := wraps64 _ (by omega) (by omega)
     have HM := Lib.hid hi
     clear hbb hs hi hm0 hm HX
     go_wp2_with (first
      | (at_builtin
         refine wpList_push wr rfl (.tmp 34) (.tmp 40) 35 rfl (T + 2) 5 i5 (.int .u8 0) 1 Tryz.underlying35 hi5 hz50 hz51 hz52 rfl A n c (U (padk (Dg.padz tx.length) ++ (Dg.be8 B8).take (8 - m))) rfl HO.out (.int .u8 (b : Int)) _ rfl rfl (by omega) (by unfold maxLen; omega) hsz ?_
         intro A2 c2 w2 hown2 hg2
         have HP := Lib.hid (pad_keep HO.out hg2 HC.out HI.out HW.out HZ.out)
         have HO2 := Lib.hid hown2
         clear hown2 hg2)
      | fail)
     obtain ⟨p1, p2, p3, p4⟩ := HP.out
     refine ⟨⟨i, n + 1, c2, _, A2, by omega, rfl, rfl, rfl, ?_, ?_, p1, p2, p3, p4⟩, by simp [intOf]⟩
     · have h1 := HN.out
       have h2 := HM.out
       show _ = _
       omega
     · show World.ownsRow _ _ _ _ _ _ _
       have h1 := HO2.out
       have h2 : 8 - m = 7 - i := by have := HM.out; omega
       rw [h2] at h1
       rw [HTKE.out, ← List.append_assoc, U_append, ← HS.out]
       have h3 : U [UInt8.ofNat (B8 / 2 ^ s)] = [Value.int .u8 (b : Int)] := by
        rw [HBB.out]
        simp [U]
       rw [h3]
       exact h1
 case rest =>
 clear HN HO HC HI HW HZ
 obtain ⟨w4, rfl⟩ : ∃ z : World, z = wc := ⟨_, rfl⟩
 obtain ⟨n, c, A, rfl, HN, HO, HC, HI, HW, HZ⟩ := hcut
 have HBW : Hid (Below w.heap.size w w4) := by have := HW.out; rw [HT.out] at this; exact this
 have hgr : 3 < T + 1 := by have := HTAB.out.lt; have := HT.out; omega
 have hlb : (padk (Dg.padz tx.length) ++ Dg.be8 B8).length = n := by
  rw [List.length_append, padk_length, HN.out]
  rfl
 have hpd : tx ++ (padk (Dg.padz tx.length) ++ Dg.be8 B8) = Dg.padded tx := by
  rw [HB8.out]
  rfl
 have hpz := (Dg.padz_eq tx.length).2
 have HSX : Hid (Sx w4 (T + 1) A (padk (Dg.padz tx.length) ++ Dg.be8 B8)) := by
  refine Sx.of_sl (Sl.of_own HO.out) (fun p hp => ?_)
  subst hp
  have hz1 : 0 < n := by have := HN.out; omega
  obtain ⟨q, cap, hv1, _, _⟩ := HO.out.form hz1
  have hob : (Value.slice (some p) n c).ownBlock = some q := by rw [hv1]; rfl
  injection hv1 with hv2
  injection hv2 with hv2
  have := (HO.out.lt q hob).1
  rw [hv2]
  show q ≠ T + 1
  omega
 have HWC := Lib.hid (write_any (T + 1) tx (padk (Dg.padz tx.length) ++ Dg.be8 B8) st tl hv n c A w4 HC.out (HTAB.out.below HBW.out) hgr hlb (own_cap HO.out) HSX.out (by rw [hlb, HN.out]; omega))
 have HPD := Lib.hid hpd
 clear HBW hlb hpd hpz HSX
 go_wp2_with fail
 refine HWC.out.mono ?_
 rintro e w5 ⟨rfl, st5, tl5, hv5, hH5, hG5⟩
 rw [HPD.out] at hH5
 have HSH : Hid (Dg.outS st5 = Dg.sha tx) := hH5.inv.sha
 have HOK5 := Lib.hid hH5.ok
 have HB5 := Lib.hid hH5.blk
 have HI5 := Lib.hid (HI.out.gb hG5 (by simp))
 have HW5 := Lib.hid (HW.out.trans (below_of_gb_some hG5 (by omega) (by have := HZ.out; omega)))
 have HZ5 : Hid (T + 2 ≤ w5.heap.size) := Nat.le_trans HZ.out hG5.size
 clear hH5 hG5 HWC HPD HN HO HC HI HW HZ
 obtain ⟨I, hI⟩ : ∃ I, I = w5.heap.size := ⟨_, rfl⟩
 have HBI : Hid (Blk (w5.alloc (.cells (idC []) 30)) I 30 (idC ((Dg.outS st5).take (4 * 0)))) := by
  rw [hI]
  exact Blk.new w5 _ _
 have HB6 := Lib.hid (HB5.out.alloc (.cells (idC []) 30))
 have HI6 := Lib.hid (HI5.out.alloc (.cells (idC []) 30))
 have HW6 := Lib.hid (HW5.out.alloc (by have := HZ5.out; omega) (.cells (idC []) 30))
 have hIT : T + 2 ≤ I := by have := HZ5.out; omega
 clear HB5 HI5 HW5 HZ5
 have hz32 : (#[Value.int IntKind.u8 0, Value.int IntKind.u8 0, Value.int IntKind.u8 0, Value.int IntKind.u8 0, Value.int IntKind.u8 0, Value.int IntKind.u8 0, Value.int IntKind.u8 0, Value.int IntKind.u8 0, Value.int IntKind.u8 0, Value.int IntKind.u8 0, Value.int IntKind.u8 0, Value.int IntKind.u8 0, Value.int IntKind.u8 0, Value.int IntKind.u8 0, Value.int IntKind.u8 0, Value.int IntKind.u8 0, Value.int IntKind.u8 0, Value.int IntKind.u8 0, Value.int IntKind.u8 0, Value.int IntKind.u8 0, Value.int IntKind.u8 0, Value.int IntKind.u8 0, Value.int IntKind.u8 0, Value.int IntKind.u8 0, Value.int IntKind.u8 0, Value.int IntKind.u8 0, Value.int IntKind.u8 0, Value.int IntKind.u8 0, Value.int IntKind.u8 0, Value.int IntKind.u8 0, Value.int IntKind.u8 0, Value.int IntKind.u8 0] : Array Value) = idC [] := rfl
 have HZ32 := Lib.hid hz32
 clear hz32
 go_upto_region 13 with fail
 rw [HZ32.out, ← hI]
 clear HZ32
 have HI' := Lib.hid hI
 clear hI
 generalize w5.alloc (.cells (idC []) 30) = w6 at *
 have dw : ∀ j, j < 8 → w6.cell? ⟨T + 1, j, none⟩ = some (.int .u32 ((st5.list.getD j 0 : Nat) : Int)) := fun j hj => by
  rw [HB6.out.cell]
  exact hC_word (by rw [List.getD_eq_getElem?_getD, List.getElem?_eq_getElem (by simpa [Dg.St.list] using hj)]; rfl)
 have d0 : w6.cell? ⟨T + 1, 0, none⟩ = some (.int .u32 (st5.a : Int)) := dw 0 (by omega)
 have d1 : w6.cell? ⟨T + 1, 1, none⟩ = some (.int .u32 (st5.b : Int)) := dw 1 (by omega)
 have d2 : w6.cell? ⟨T + 1, 2, none⟩ = some (.int .u32 (st5.c : Int)) := dw 2 (by omega)
 have d3 : w6.cell? ⟨T + 1, 3, none⟩ = some (.int .u32 (st5.d : Int)) := dw 3 (by omega)
 have d4 : w6.cell? ⟨T + 1, 4, none⟩ = some (.int .u32 (st5.e : Int)) := dw 4 (by omega)
 have d5 : w6.cell? ⟨T + 1, 5, none⟩ = some (.int .u32 (st5.f : Int)) := dw 5 (by omega)
 have d6 : w6.cell? ⟨T + 1, 6, none⟩ = some (.int .u32 (st5.g : Int)) := dw 6 (by omega)
 have d7 : w6.cell? ⟨T + 1, 7, none⟩ = some (.int .u32 (st5.h : Int)) := dw 7 (by omega)
 clear dw
 go_wp2_with fail
 clear d0 d1 d2 d3 d4 d5 d6 d7
 go_loopw [46] (fun v wr => IdO w T I st5 v wr) (fun v _ => 8 - (intOf v).toNat)
 case atStart => exact ⟨0, by omega, rfl, HBI, HI6, HW6⟩
 case round =>
  clear HBI HI6 HW6 HB6
  obtain ⟨i, hi, rfl, HBI, HIT, HW⟩ := hrel
  by_cases hlt : i < 8
  · have hltd : decide ((i : Int) < 8) = true := decide_eq_true (by omega)
    have hix := idx8 st5 i hlt
    have hX : st5.list.getD i 0 < 4294967296 := st_lt HOK5.out i
    have HST := Lib.hid (fun k hk => outS_step st5 i k hlt hk)
    generalize st5.list.getD i 0 = X at *
    go_wp2_with fail
    clear hix hltd
    obtain ⟨wo, rfl⟩ : ∃ z : World, z = wr := ⟨_, rfl⟩
    go_loopw [50] (fun v wr => IdI w T I st5 i v wr) (fun v _ => 4 - (intOf v).toNat)
    case atStart => exact ⟨0, by omega, rfl, HBI, HIT, HW⟩
    case round =>
     clear HBI HIT HW
     obtain ⟨k, hk, rfl, HBI, HIT, HW⟩ := hrel
     by_cases hk4 : k < 4
     · have hkd : decide ((k : Int) < 4) = true := decide_eq_true (by omega)
       obtain ⟨j, hj⟩ : ∃ j, j = 4 * i + k := ⟨_, rfl⟩
       obtain ⟨s, hs⟩ : ∃ s, s = 24 - 8 * k := ⟨_, rfl⟩
       obtain ⟨b, hbb⟩ : ∃ b, b = X / 2 ^ s % 256 := ⟨_, rfl⟩
       have HS1 := Lib.hid (HST.out k hk4)
       have HSB : Hid ((idC ((Dg.outS st5).take j)).setIfInBounds j (.int .u8 (b : Int)) = idC ((Dg.outS st5).take (j + 1))) := by
        show _ = _
        rw [hbb, hs, hj]
        exact HS1.out
       have ej0 : IntKind.i64.wrap (4 * (i : Int)) = 4 * (i : Int) := wraps_i64 _ (by omega) (by omega)
       have ej : IntKind.i64.wrap (4 * (i : Int) + (k : Int)) = (j : Int) := by rw [wraps_i64 _ (by omega) (by omega)]; omega
       have es0 : IntKind.i64.wrap (8 * (k : Int)) = 8 * (k : Int) := wraps_i64 _ (by omega) (by omega)
       have es : IntKind.i64.wrap (24 - 8 * (k : Int)) = (s : Int) := by rw [wraps_i64 _ (by omega) (by omega)]; omega
       have eb : IntKind.u8.wrap ((X : Int) / 2 ^ s) = (b : Int) := by
        rw [hbb]
        have e : (X : Int) / 2 ^ s = ((X / 2 ^ s : Nat) : Int) := by simp
        rw [e, IntKind.wrap_u8]
        omega
       have hj32 : (j : Int) < 32 := by omega
       have hs32 : s < 32 := by omega
       have fI := HBI.out.frozen j
       have cI : ∃ v, wr.cell? ⟨I, j, none⟩ = some v := ⟨_, by rw [HBI.out.cell]; exact Array.getElem?_eq_getElem (by rw [idC_size _ (by rw [List.length_take]; omega)]; omega)⟩
       obtain ⟨vI, cI⟩ := cI
       have HJ := Lib.hid hj
       have K1 : Hid (Blk (wr.setCell ⟨I, j, none⟩ (.int .u8 (b : Int))) I 30 (idC ((Dg.outS st5).take (4 * i + (k + 1))))) := by
        have h1 := HBI.out.set_ j (.int .u8 (b : Int))
        rw [← hj, HSB.out] at h1
        show Blk _ _ _ _
        rw [← Nat.add_assoc, ← hj]
        exact h1
       have K2 : Hid (Blk (wr.setCell ⟨I, j, none⟩ (.int .u8 (b : Int))) T 30 (idC [])) := HIT.out.far (p := ⟨I, j, none⟩) (by show T ≠ I; omega) _
       have K3 : Hid (Below T w (wr.setCell ⟨I, j, none⟩ (.int .u8 (b : Int)))) := HW.out.setCell (p := ⟨I, j, none⟩) (by show T ≤ I; omega) _
       clear hj hs hbb HS1 HSB HBI HIT HW
       go_wp2_with fail
       exact ⟨⟨k + 1, by omega, by go_num, K1, K2, K3⟩, by simp [intOf]; omega⟩
     · have hk4' : k = 4 := by omega
       have hkd : decide ((k : Int) < 4) = false := decide_eq_false (by omega)
       have HB4 : Hid (Blk wr I 30 (idC ((Dg.outS st5).take (4 * (i + 1))))) := by
        have h1 := HBI.out
        rw [hk4'] at h1
        exact h1
       clear hk4 hk4' HBI hk
       go_wp2_with fail
       go_roundw
       case rel => exact ⟨i + 1, by omega, by go_num, HB4, HIT, HW⟩
       case measure => simp [intOf]; omega
  · have hi8 : i = 8 := by omega
    have hltd : decide ((i : Int) < 8) = false := decide_eq_false (by omega)
    have HBF : Hid (wr.heap[I]? = some (.cells (U (Dg.sha tx)).toArray 30 (0, 0))) := by
     have h1 := HBI.out
     rw [hi8, HSH.out, List.take_of_length_le (by rw [Dg.sha_length]; omega), idC_full _ (Dg.sha_length tx)] at h1
     exact h1
    have HTF : Hid (wr.heap[T]? = some (.cells (U (List.replicate 32 0)).toArray 30 (0, 0))) := HIT.out
    have HSZ : Hid ((Tryz.prog.info? 30).map (·.size) = some (U (Dg.sha tx)).length) := by
     show _ = some _
     rw [U_length, Dg.sha_length]
     exact infoID
    have HSZ2 : Hid ((Tryz.prog.info? 30).map (·.size) = some (U (Dg.sha tx)).toArray.size) := by
     show _ = some _
     rw [List.size_toArray]
     exact HSZ.out
    have HFT : Hid (0 + (U (Dg.sha tx)).length ≤ (U (List.replicate 32 (0 : UInt8))).length) := by
     show _ ≤ _
     rw [U_length, U_length, Dg.sha_length]
     decide
    clear hi hlt hi8 HBI HIT
    go_wp2_with (first
     | (with_reducible refine wpList_load_row rfl 30 (.tmp 7) rfl I rfl 30 (U (Dg.sha tx)).toArray (0, 0) _ HBF.out Tryz.underlying30 rfl HSZ2.out ?_)
     | (with_reducible refine wpList_storeG rfl 30 (.tmp 2) (.tmp 66) rfl T 0 (U (Dg.sha tx)) rfl rfl (U (List.replicate 32 0)) 30 HTF.out HFT.out (U_one _) HSZ.out ?_; intro w9 HT9 HG9))
    have HRW : Hid (w9.heap[T]? = some (.cells (U (Dg.sha tx)).toArray 30 (0, 0))) := by
     have h1 := HT9.out
     rw [splice_all _ _ (by rw [U_length, U_length, Dg.sha_length]; rfl)] at h1
     exact h1
    have hsT : T ≤ wr.heap.size := by
     have h1 := HW.out.size
     have h2 := HT.out
     omega
    have HBF9 : Hid (Below w.heap.size w w9) := by
     have h1 := HW.out.trans (below_of_gb_some HG9.out (Nat.le_refl _) hsT)
     rw [HT.out] at h1
     exact h1
    exact bodyPost_ret (v := .agg (U (Dg.sha tx)).toArray) (results_cell_row Tryz.results67 _ w9 T 30 (U (Dg.sha tx)).toArray (0, 0) _ rfl HRW.out Tryz.underlying30 rfl HSZ2.out) rfl ⟨rfl, HBF9.out⟩
end Go.Proofs.YtnjhjbmngoeobaaGreatDoor
