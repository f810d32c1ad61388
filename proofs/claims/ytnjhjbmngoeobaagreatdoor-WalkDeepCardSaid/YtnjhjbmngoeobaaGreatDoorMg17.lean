/- Laws towards WalkDeep: WrH. -/
import Derived.Test.YtnjhjbmngoeobaaGreatDoorMg16
namespace Go.Proofs.YtnjhjbmngoeobaaGreatDoor
open Go.RowKit
set_option maxRecDepth 100000
theorem be8_at (x k : Nat) (hk : k < 8) : (be8 x).take (k + 1) = (be8 x).take k ++ [UInt8.ofNat (x / 2 ^ (8 * (7 - k)))] := by
 have h : k = 0 ∨ k = 1 ∨ k = 2 ∨ k = 3 ∨ k = 4 ∨ k = 5 ∨ k = 6 ∨ k = 7 := by omega
 rcases h with rfl | rfl | rfl | rfl | rfl | rfl | rfl | rfl <;> simp [be8]
def Fix8R (w : World) (g : Nat) (l : List UInt8) (A : Option Addr) (n0 x : Nat) (v : Value) (wr : World) : Prop :=
 ∃ (k n c : Nat) (A' : Option Addr), k ≤ 8 ∧ v = .int .i64 (k : Int) ∧ Hid (n = n0 + k) ∧ Hid (Wr wr 0 g (l ++ (be8 x).take k) A' n c) ∧ Hid (Nw w A A') ∧ Hid (Kpt w wr g A)
theorem U_snoc (l : Bs) (y b : Nat) (hb : b = y % 256) : U l ++ [Value.int .u8 (b : Int)] = U (l ++ [UInt8.ofNat y]) := by
 rw [U_append]
 have e1 : ((UInt8.ofNat y).toNat : Int) = (b : Int) := by rw [UInt8.toNat_ofNat']; omega
 simp only [U, List.map_cons, List.map_nil, e1]
set_option maxHeartbeats 2000000 in
theorem fixed8k (g n c x : Nat) (A : Option Addr) (l : List UInt8) (w : World) (h : Wr w 0 g l A n c) (_hx : x < 18446744073709551616) (hl : n ≤ 1000000) :
 Calls Tryz.prog 121 #[.pointer (some ⟨g, 0, none⟩), .int .u64 x, .int .i64 8] w fun e w' => e = .returned (.tuple #[]) ∧ WrQ w g (l ++ be8 x) A w' := by
 have H := Lib.hid h
 obtain ⟨i5, hi5, hz50, hz51, hz52⟩ := info_parts info5
 clear h
 go_enter Tryz.func121, Tryz.ntmps121
 go_wp2_with fail
 go_loopw [8] (fun v wr => Fix8R w g l A n x v wr) (fun v _ => 8 - (intOf v).toNat)
 case atStart => exact ⟨0, n, c, A, by omega, rfl, rfl, by unfold Hid; simpa using H.out, Nw.refl w A, Kpt.refl w g A⟩
 case round =>
  obtain ⟨k, n1, c1, A1, hk, rfl, HN, HW, HNW, HK⟩ := hrel
  by_cases hlt : k < 8
  · have hd : decide ((k : Int) < 8) = true := decide_eq_true (by omega)
    obtain ⟨y, hy⟩ : ∃ y, y = x / 2 ^ (8 * (7 - k)) := ⟨_, rfl⟩
    obtain ⟨b, hb⟩ : ∃ b, b = y % 256 := ⟨_, rfl⟩
    have hsh : ∀ w, (Op.shift .shr .u64 (x : Int) .i64 (IntKind.i64.wrap (8 * IntKind.i64.wrap (IntKind.i64.wrap 7 - (k : Int))))).run Tryz.prog w = .ok (.int .u64 (y : Int)) w := by
     intro w
     have e1 : IntKind.i64.wrap (8 * IntKind.i64.wrap (IntKind.i64.wrap 7 - (k : Int))) = ((8 * (7 - k) : Nat) : Int) := by
      simp only [IntKind.wrap_i64]
      omega
     rw [e1, shift_shr_any _ _ _ _ (by omega), Int.toNat_natCast, Nat.min_eq_left (by show 8 * (7 - k) ≤ 64; omega), hy]
     rfl
    have ew : IntKind.u8.wrap (y : Int) = (b : Int) := by simp [IntKind.wrap, IntKind.bits, IntKind.signed]; omega
    have HX := Lib.hid (U_snoc (l ++ (be8 x).take k) y b hb)
    unfold Hid at HX
    rw [List.append_assoc, hy, ← be8_at x k hlt] at HX
    have HX := Lib.hid HX
    obtain ⟨k1, hk1⟩ : ∃ k1, k1 = k + 1 := ⟨_, rfl⟩
    rw [← hk1] at HX
    have ek : (k : Int) + 1 = (k1 : Int) := by omega
    have hc := HW.out.blk.cell 0
    simp at hc
    have hca : (wr.alloc (.cells #[.int .u8 (b : Int)] 5)).cell? ⟨g, 0, none⟩ = some (.slice A1 n1 c1) := by rw [(HW.out.blk.alloc _).cell]; rfl
    have hfa : (wr.alloc (.cells #[.int .u8 (b : Int)] 5)).frozen? ⟨g, 0, none⟩ = false := (HW.out.blk.alloc _).frozen 0
    have hn1 : n1 ≤ 1000008 := by have := HN.out; omega
    have HN2 : Hid (n1 + 1 = n + k1) := by have := HN.out; unfold Hid; omega
    have HK1 : Hid (k1 ≤ 8 ∧ (8 - k1) < 8 - k) := by unfold Hid; omega
    clear hy hb hk1
    go_wp2_with fail
    go_region_law (first
     | (refine step_pushN wr.drew rfl (.tmp 15) (.tmp 24) 35 rfl 0 5 i5 (.int .u8 0) 1 1 Tryz.underlying35 hi5 hz50 hz51 hz52 rfl (by decide) A1 n1 c1 (U (l ++ (be8 x).take k)) (by simp [Act.eval]) HW.out.own #[.int .u8 (b : Int)] 1 _ rfl ?_ (by simp [Act.eval]) (by omega) (by unfold maxLen; omega) (Nat.zero_le _) ?_
        · intro u hu
          simp at hu
          subst hu
          rfl
        intro A2 c2 w2 hown2 hg2 hn2
        have hown3 : w2.ownsRow 0 5 1 (.slice A2 (n1 + 1) c2) (n1 + 1) (U (l ++ (be8 x).take k1)) := by rw [← HX.out]; exact hown2
        obtain ⟨⟨hc2, hf2⟩, hq2⟩ := wrq_set2 (w0 := w) (w := wr.drew) (g := g) (A0 := A) HW.out.drew hown3 hg2 hn2 HK.out.drew HNW.out
        have HF := Lib.hid hq2
        clear hown2 hown3 hg2 hn2 hq2))
    all_goals
     go_wp2_with fail
     go_roundw
     case rel =>
      obtain ⟨A3, n3, c3, h1, h2, h3⟩ := HF.out
      refine ⟨k1, n3, c3, A3, HK1.out.1, rfl, ?_, h1, h2, h3⟩
      have e1 := h1.len
      have e2 := H.out.len
      unfold Hid
      rw [List.length_append, List.length_take, show (be8 x).length = 8 from rfl] at e1
      have := HK1.out.1
      omega
     case measure =>
      have := HK1.out.2
      simp [intOf]
      omega
  · have hd : decide ((k : Int) < 8) = false := decide_eq_false (by omega)
    have e8 : (be8 x).take k = be8 x := List.take_of_length_le (by show 8 ≤ k; omega)
    have HF : Hid (WrQ w g (l ++ be8 x) A wr) := ⟨A1, n1, c1, by rw [← e8]; exact HW.out, HNW.out, HK.out⟩
    clear HW HK
    go_wp2_with fail
    go_end0
    exact ⟨rfl, HF.out⟩
theorem u64k (g n c x : Nat) (A : Option Addr) (l : List UInt8) (w : World) (h : Wr w 0 g l A n c) (hx : x < 18446744073709551616) (hl : n ≤ 1000000) :
 Calls Tryz.prog 138 #[.pointer (some ⟨g, 0, none⟩), .int .u64 x] w fun e w' => e = .returned (.tuple #[]) ∧ WrQ w g (l ++ be8 x) A w' := by
 go_enter Tryz.func138, Tryz.ntmps138
 go_wp2_with fail
 refine (fixed8k g n c x A l w h hx hl).mono ?_
 rintro e w1 ⟨rfl, hp⟩
 go_wp2_with fail
 go_end0
 exact ⟨rfl, hp⟩
theorem wpList_pushN {P : Program} (W : World) {ops : Array Oper} {rest : List Oper} {o : Oper} {a : Act} {Q : Exit → Act → World → Prop} (hgd : o.guard = none) (s x : Operand) (t : TypeId)
 (ho : o.op = .call { callee := .builtin .append, args := #[s, x], argTypes := #[t, t] })
 (base : Nat) (e : TypeId) (i : TypeInfo) (z : Value) (size bytes : Nat) (ht : P.underlying t = some (.slice e)) (hi : P.info? e = some i) (hz : i.zero = some z)
 (hsize : i.size = size) (hby : i.bytes = bytes) (hzs : z.cells.size = size) (hsz : 0 < size)
 (A : Option Addr) (n c : Nat) (xs : List Value) (hs : a.eval s = .slice A n c) (hown : W.ownsRow base e size (.slice A n c) n xs)
 (us : Array Value) (m : Nat) (te : TypeId) (hus : us.size = m * size) (h1 : ∀ u ∈ us.toList, u.oneCell' = true) (hx : a.eval x = .slice (some ⟨W.heap.size, 0, none⟩) m m)
 (hbytes : (n + m) * bytes ≤ 140737488355328) (h63 : n + m ≤ maxLen) (hbase : base ≤ W.heap.size)
 (h : ∀ A' c' w', w'.ownsRow base e size (.slice A' (n + m) c') (n + m) (xs ++ us.toList) → W.grownBy w' (Value.slice A n c).ownBlock → Nw W A A' → wpList P ops Q rest (a.put o.dst (.slice A' (n + m) c')) w') :
 wpList P ops Q (o :: rest) a (W.alloc (.cells us te)) := by
 refine wpList_append_own_at (W.alloc (.cells us te)) hgd s x t ho base e i z size bytes ht hi hz hsize hby hzs hsz (.slice A n c) n xs hs (hown.alloc _) ⟨W.heap.size, 0, none⟩ m m us.toList hx (by simpa using hus) (by
  intro j v hj
  have := (Blk.new W te us).cell j
  rw [addr_add, Nat.zero_add, this]
  simpa using hj) h1 h63 hbytes (by simp; omega) ?_
 intro v' w' h2 h3 _ h5
 obtain ⟨A', c', rfl⟩ := own_shape h2
 refine h A' c' w' h2 (gb_trans (gb_alloc (gb_refl _ _) _) h3) ?_
 rcases h5 with h5 | h5
 · exact nw_of (.inl h5)
 · intro p' hp
   subst hp
   have e2 : some p'.block = some (W.alloc (.cells us te)).heap.size := h5
   have e3 := Option.some.inj e2
   simp at e3
   exact .inr (by omega)
set_option maxHeartbeats 1000000 in
theorem vark (g n c x : Nat) (A : Option Addr) (l : List UInt8) (w : World) (h : Wr w 0 g l A n c) (hx : x < 128) (hl : n ≤ 1000000) :
 Calls Tryz.prog 126 #[.pointer (some ⟨g, 0, none⟩), .int .u64 x] w fun e w' => e = .returned (.tuple #[]) ∧ WrQ w g (l ++ [UInt8.ofNat x]) A w' := by
 have hbits : bitsN x ≤ 7 := bitsN_le (n := x) (k := 7) (by omega)
 obtain ⟨bn, hbn⟩ : ∃ bn, bn = bitsN x := ⟨_, rfl⟩
 have HB := Lib.hid (len64_any x w (by omega))
 unfold Hid at HB
 rw [← hbn] at HB
 have HB := Lib.hid HB
 have hb7 : bn ≤ 7 := by omega
 have HX := Lib.hid (U_snoc l x x (by omega))
 have HW := Lib.hid h
 obtain ⟨i5, hi5, hz50, hz51, hz52⟩ := info_parts info5
 have hc := h.blk.cell 0
 simp at hc
 have hwx : IntKind.u8.wrap (x : Int) = (x : Int) := wraps_u8 _ (by omega) (by omega)
 clear h hbn hbits
 have er : bn ≤ 1 ∨ (1 : Int) < (bn : Int) ∧ ¬ (bn : Int) ≤ 1 ∧ ((bn : Int) - 1) / 7 = 0 ∧ ((bn : Int) - 1).tdiv 7 = 0 := by
  by_cases h1 : bn ≤ 1
  · exact .inl h1
  · refine .inr ⟨by omega, by omega, by omega, ?_⟩
    rw [Int.tdiv_eq_ediv_of_nonneg (by omega)]
    omega
 rcases er with h1 | ⟨q1, q2, q3, q4⟩
 · have hbi : ¬ (1 : Int) < (bn : Int) := by omega
   have hbi2 : (bn : Int) ≤ 1 := by omega
   go_enter Tryz.func126, Tryz.ntmps126
   go_wp2_with fail
   refine HB.out.mono ?_
   rintro e w1 ⟨rfl, rfl⟩
   go_wp2_with fail
   refine wp_loop_rounds 1 ?_
   rw [rounds_succ]
   go_wp2_with (first
    | (at_builtin
       refine wpList_pushN w1 rfl (.tmp 30) (.tmp 33) 35 rfl 0 5 i5 (.int .u8 0) 1 1 Tryz.underlying35 hi5 hz50 hz51 hz52 rfl (by decide) A n c (U l) rfl HW.out.own #[.int .u8 (x : Int)] 1 _ rfl ?_ rfl (by omega) (by unfold maxLen; omega) (Nat.zero_le _) ?_
       · intro u hu
         simp at hu
         subst hu
         rfl
       intro A2 c2 w2 hown2 hg2 hn2
       have hown3 : w2.ownsRow 0 5 1 (.slice A2 (n + 1) c2) (n + 1) (U (l ++ [UInt8.ofNat x])) := by rw [← HX.out]; exact hown2
       obtain ⟨⟨hc2, hf2⟩, hq2⟩ := wrq_set2 (w0 := w1) (w := w1) (g := g) (A0 := A) HW.out hown3 hg2 hn2 (Kpt.refl w1 g A) (Nw.refl w1 A)
       have HF := Lib.hid hq2
       clear hown2 hown3 hg2 hn2 hq2)
    | fail)
   go_end0
   exact ⟨rfl, HF.out⟩
 · go_enter Tryz.func126, Tryz.ntmps126
   go_wp2_with fail
   refine HB.out.mono ?_
   rintro e w1 ⟨rfl, rfl⟩
   go_wp2_with fail
   refine wp_loop_rounds 1 ?_
   rw [rounds_succ]
   go_wp2_with (first
    | (at_builtin
       refine wpList_pushN w1 rfl (.tmp 30) (.tmp 33) 35 rfl 0 5 i5 (.int .u8 0) 1 1 Tryz.underlying35 hi5 hz50 hz51 hz52 rfl (by decide) A n c (U l) rfl HW.out.own #[.int .u8 (x : Int)] 1 _ rfl ?_ rfl (by omega) (by unfold maxLen; omega) (Nat.zero_le _) ?_
       · intro u hu
         simp at hu
         subst hu
         rfl
       intro A2 c2 w2 hown2 hg2 hn2
       have hown3 : w2.ownsRow 0 5 1 (.slice A2 (n + 1) c2) (n + 1) (U (l ++ [UInt8.ofNat x])) := by rw [← HX.out]; exact hown2
       obtain ⟨⟨hc2, hf2⟩, hq2⟩ := wrq_set2 (w0 := w1) (w := w1) (g := g) (A0 := A) HW.out hown3 hg2 hn2 (Kpt.refl w1 g A) (Nw.refl w1 A)
       have HF := Lib.hid hq2
       clear hown2 hown3 hg2 hn2 hq2)
    | fail)
   go_end0
   exact ⟨rfl, HF.out⟩
end Go.Proofs.YtnjhjbmngoeobaaGreatDoor
