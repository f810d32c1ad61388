/- Walk1, WrA, WrB, WrC, WrD, PrsA, PrsB (merged: one text behind the other). -/
import Derived.Test.YtejgoienkpaabaaDoorMg18
import Derived.Lib.Tables
import Derived.Lib.BitFns
import Derived.Test.YtejgoienkpaabaaDoorMg12
/- PressExact: the walk's words. -/
namespace Go.Proofs.YtejgoienkpaabaaDoor
open Go.RowKit
set_option maxRecDepth 100000
theorem decP_len (S D : BS) (bs : List UInt8) (n f : Nat) : ∀ (out : List UInt8) (p : Nat) (o : List UInt8) (q : Nat), out.length ≤ n → decP S D bs n f out p = some (o, q) → o.length ≤ n := by
  induction f with
  | zero => intro out p o q _ h; cases h
  | succ f ih =>
    intro out p o q hl h
    rw [decP] at h
    by_cases hn : n ≤ out.length
    · rw [if_pos hn] at h
      have h' := Option.some.inj h
      have h1 := congrArg Prod.fst h'
      simp only at h1
      rw [← h1]; exact hl
    · rw [if_neg hn] at h
      cases hx : nxt S.C bs 15 1 0 0 0 p with
      | none => rw [hx] at h; cases h
      | some a =>
        rw [hx, Option.bind_some] at h
        by_cases hy : S.ln.getD a.1 0 < 256
        · rw [if_pos hy] at h
          exact ih _ _ o q (by simp; omega) h
        · rw [if_neg hy] at h
          cases hc : copiedP D.C D.ln bs n (S.ln.getD a.1 0 - 256) out a.2 with
          | none => rw [hc] at h; cases h
          | some b =>
            rw [hc, Option.bind_some] at h
            exact ih _ _ o q (copiedP_len (p2 := b.2) (out2 := b.1) hl hc).2 h
theorem codedP_len (b : List UInt8) (n : Nat) (o : List UInt8) (h : codedP b n = some o) : o.length ≤ n := by
  unfold codedP at h
  split at h
  · cases h
  · cases hd : decP (bOut (symRow b) 15) (bOut (distRow b) 15) (b.drop 148) n (n + 1) [] 0 with
    | none => rw [hd] at h; cases h
    | some a =>
      rw [hd, Option.bind_some] at h
      split at h
      · have h' := Option.some.inj h
        rw [← h']
        exact decP_len _ _ _ _ _ [] 0 a.1 a.2 (Nat.zero_le _) hd
      · cases h
theorem unp_len (b : List UInt8) (max : Int) : (unpP b max).1.length ≤ 65536 ∧ ((unpP b max).2 ≠ 0 → (unpP b max).1 = []) ∧ (unpP b max).2 ≤ 81 := by
  unfold unpP
  split
  · exact ⟨by simp, fun _ => rfl, by simp⟩
  · split
    · exact ⟨by simp, fun _ => rfl, by simp⟩
    · split
      · exact ⟨by simp, fun _ => rfl, by simp⟩
      · rename_i n s _
        split
        · exact ⟨by simp, fun _ => rfl, by simp⟩
        · rename_i hb
          split
          · split
            · rename_i hl
              exact ⟨by simp only; omega, fun h => absurd rfl h, by simp⟩
            · exact ⟨by simp, fun _ => rfl, by simp⟩
          · split
            · split
              · rename_i o ho
                exact ⟨by have := codedP_len _ _ _ ho; simp only; omega, fun h => absurd rfl h, by simp⟩
              · exact ⟨by simp, fun _ => rfl, by simp⟩
            · exact ⟨by simp, fun _ => rfl, by simp⟩
theorem refUnp_eq (b : List UInt8) (max : Int) : refUnpP b max = unpP b max := by
  unfold refUnpP unpP
  simp only [refCoded_eq]
  rfl
def OwnPost (w : World) (out : List UInt8) (k : Nat) (e : Ending) (w' : World) : Prop :=
  ∃ A c, e = .returned (.tuple #[.slice A out.length c, .int .i64 (k : Int)]) ∧ w'.ownsRow w.heap.size 5 1 (.slice A out.length c) out.length (U out) ∧ Below w.heap.size w w'
theorem unp_own (A : Option Addr) (n c : Nat) (l : List UInt8) (max : Int) (w : World) (hn : l.length = n) (h : Sl w A l) (hc : n ≤ c) (hl : l.length ≤ Lim) (he : ErrTab w) (hmx : max ≤ 9223372036854775807) :
    Calls Tryd.prog 10 #[.slice A n c, .int .i64 max] w fun e w' => OwnPost w (unpP l max).1 (unpP l max).2 e w' := by
  refine (unp_any A n c l max w hn h hc hl he hmx).mono ?_
  rintro e w' ⟨hb, A', c', he', ho, hf⟩
  refine ⟨A', c', he', ?_, hb⟩
  by_cases hk : (unpP l max).2 = 0
  · exact ho hk
  · obtain ⟨rfl, rfl⟩ := hf hk
    rw [(unp_len l max).2.1 hk]
    exact World.ownsRow_nil _ _ _ _
theorem runp_own (A : Option Addr) (n c : Nat) (l : List UInt8) (max : Int) (w : World) (hn : l.length = n) (h : Sl w A l) (hc : n ≤ c) (hl : l.length ≤ Lim) (hmx : max ≤ 9223372036854775807) :
    Calls Tryd.prog 13 #[.slice A n c, .int .i64 max] w fun e w' => OwnPost w (unpP l max).1 (unpP l max).2 e w' := by
  refine (runp_any A n c l max w hn h hc hl hmx).mono ?_
  rintro e w' ⟨hb, A', c', he', ho, hf⟩
  rw [refUnp_eq] at he' ho hf
  refine ⟨A', c', he', ?_, hb⟩
  by_cases hk : (unpP l max).2 = 0
  · exact ho hk
  · obtain ⟨rfl, rfl⟩ := hf hk
    rw [(unp_len l max).2.1 hk]
    exact World.ownsRow_nil _ _ _ _
theorem sl_pre {w : World} {base g c : Nat} {l : List UInt8} (ho : w.ownsRow base 5 1 (.slice (some ⟨g, 0, none⟩) (l.length + 3) c) (l.length + 3) (U (l ++ mk3))) : Sl w (some ⟨g, 0, none⟩) l := by
  rcases Sl.of_own ho with h0 | ⟨b, o, he, hb, hcell⟩
  · simp [mk3] at h0
  · injection he with he; injection he with he1 he2
    subst he1 he2
    refine .inr ⟨g, 0, rfl, hb, fun j hj => ?_⟩
    rw [hcell j (by simp; omega), List.getD_eq_getElem?_getD, List.getD_eq_getElem?_getD, List.getElem?_append_left hj]
theorem Sl.gbrow {w w' : World} {A : Option Addr} {l : List UInt8} (h : Sl w A l) {g : Nat} (hg : w.grownBy w' (some g)) (hA : ∀ a, A = some a → a.block ≠ g) : Sl w' A l := by
  rcases h with rfl | ⟨h, o, rfl, hlt, hc⟩
  · exact .inl rfl
  · refine .inr ⟨h, o, rfl, by have := hg.size; omega, fun j hj => ?_⟩
    rw [← hc j hj]
    exact World.cell?_of_block (hg.block h hlt (fun e => hA _ rfl (by injection e)))
end Go.Proofs.YtejgoienkpaabaaDoor

/- Contracts of package code's Writer. -/
namespace Go.Proofs.YtejgoienkpaabaaDoor
open Go.RowKit
set_option maxRecDepth 100000
/-- a writer: block g, its bytes the call's own -/
structure Wr (w : World) (T g : Nat) (l : List UInt8) (A : Option Addr) (n c : Nat) : Prop where
  blk : Blk w g 114 #[.slice A n c]
  own : w.ownsRow T 5 1 (.slice A n c) n (U l)
  hg : T ≤ g
theorem build114 (w : World) : (Instr.build 114 #[]).run Tryd.prog w = .ok (.agg #[.slice none 0 0]) w := run_build w 114 _ _ (by kernel_rfl)
theorem wp_build114 {o : Oper} {a : Act} {w : World} {K : Act → World → Prop} {Q : Exit → Act → World → Prop} (ho : o.op = Op.build 114 #[]) (h : K (a.put o.dst (.agg #[.slice none 0 0])) w) : Oper.wp Tryd.prog o a w K Q := by
  unfold Oper.wp
  simp [execOp, ho, build114]
  exact h
theorem new_any (w : World) : Calls Tryd.prog 72 #[] w fun e w' => e = .returned (.pointer (some ⟨w.heap.size, 0, none⟩)) ∧ w' = w.alloc (.cells #[.slice none 0 0] 114) := by
  go_enter Tryd.func72, Tryd.ntmps72
  go_wp2_with fail
  first
    | (refine wp_build114 rfl ?_
       go_wp2_with fail)
    | skip
  go_ret
  exact ⟨rfl, rfl⟩
def WrPost (w : World) (T g : Nat) (l : List UInt8) (w' : World) : Prop :=
  ∃ A n c, Wr w' T g l A n c ∧ Below T w w'
theorem raw_any (T g n c m c2 : Nat) (A B : Option Addr) (l r : List UInt8) (w : World) (h : Wr w T g l A n c) (hT : T ≤ w.heap.size) (hm : r.length = m) (hr : Sl w B r) (hl : n + m ≤ 1000000) :
    Calls Tryd.prog 36 #[.pointer (some ⟨g, 0, none⟩), .slice B m c2] w fun e w' => e = .returned (.tuple #[]) ∧ WrPost w T g (l ++ r) w' := by
  subst hm
  have H := Lib.hid h
  have HR := Lib.hid hr.reads
  have hc := h.blk.cell 0
  simp at hc
  obtain ⟨i5, hi5, hz50, hz51, hz52⟩ := info_parts info5
  clear h hr
  go_enter Tryd.func36, Tryd.ntmps36
  go_wp2_with (first
    | (at_builtin
       refine wpList_append_any w rfl (.tmp 8) (.tmp 9) 22 rfl T 5 i5 (.int .u8 0) 1 1 Tryd.underlying22 hi5 hz50 hz51 hz52 rfl (by decide) (.slice A n c) n (U l) rfl H.out.own _ B r.length c2 (U r) rfl HR.out (U_one r) (by unfold maxLen; omega) (by omega) hT ?_
       intro v2 w2 hown2 hg2 _
       obtain ⟨A2, c2', hv2⟩ := own_shape hown2
       subst hv2
       have blk2 : Blk w2 g 114 #[.slice A n c] := H.out.blk.gb hg2 (fun e => own_blk_ne H.out.own H.out.blk (by decide) e.symm)
       have hc2 := blk2.cell 0
       simp at hc2
       have hf2 := blk2.frozen 0
       have HF : Hid (WrPost w T g (l ++ r) (w2.setCell ⟨g, 0, none⟩ (.slice A2 (n + r.length) c2'))) := by
         refine ⟨A2, n + r.length, c2', ⟨blk2.set_ 0 _, ?_, H.out.hg⟩, ((Below.refl T w).grown hg2 hT (fun q hq => (H.out.own.lt q hq).1)).setCell (p := ⟨g, 0, none⟩) H.out.hg _⟩
         rw [U_append]
         exact own_set_other hown2 (a := ⟨g, 0, none⟩) (own_blk_ne hown2 blk2 (by decide)) _
       clear blk2 hown2 hg2)
    | fail)
  go_end0
  exact ⟨rfl, HF.out⟩
theorem out_any (T g n c : Nat) (A : Option Addr) (l : List UInt8) (w : World) (h : Wr w T g l A n c) (hl : n ≤ Lim) :
    Calls Tryd.prog 37 #[.pointer (some ⟨g, 0, none⟩)] w fun e w' => e = .returned (.slice (some ⟨w.heap.size, 0, none⟩) n n) ∧ w'.ownsRow w.heap.size 5 1 (.slice (some ⟨w.heap.size, 0, none⟩) n n) n (U l) ∧ Below w.heap.size w w' := by
  have hr := Reads.of_own h.own
  have hc := h.blk.cell 0
  simp at hc
  clear h
  go_enter Tryd.func37, Tryd.ntmps37
  go_wp2_with fail
  refine (taken_any A n c l w hr hl).mono ?_
  rintro e w1 ⟨rfl, ho, hb⟩
  go_wp2_with fail
  go_ret
  exact ⟨rfl, ho, hb⟩
end Go.Proofs.YtejgoienkpaabaaDoor

/- Contracts of package code's Writer: fixed of one byte, U8. -/
namespace Go.Proofs.YtejgoienkpaabaaDoor
open Go.RowKit
set_option maxRecDepth 100000
set_option maxHeartbeats 1000000 in
theorem fixed1_any (T g n c x : Nat) (A : Option Addr) (l : List UInt8) (w : World) (h : Wr w T g l A n c) (hT : T ≤ w.heap.size) (hx : x < 256) (hl : n ≤ 1000000) :
    Calls Tryd.prog 90 #[.pointer (some ⟨g, 0, none⟩), .int .u64 x, .int .i64 1] w fun e w' => e = .returned (.tuple #[]) ∧ WrPost w T g (l ++ [UInt8.ofNat x]) w' := by
  have H := Lib.hid h
  have hc := h.blk.cell 0
  simp at hc
  have hf := h.blk.frozen 0
  obtain ⟨i5, hi5, hz50, hz51, hz52⟩ := info_parts info5
  have hwx : IntKind.u8.wrap (x : Int) = (x : Int) := wraps_u8 _ (by omega) (by omega)
  have ew : IntKind.i64.wrap 0 = 0 := by decide
  have hca : (w.alloc (.cells #[.int .u8 (x : Int)] 5)).cell? ⟨g, 0, none⟩ = some (.slice A n c) := by rw [(h.blk.alloc _).cell]; rfl
  have hfa : (w.alloc (.cells #[.int .u8 (x : Int)] 5)).frozen? ⟨g, 0, none⟩ = false := (h.blk.alloc _).frozen 0
  clear h
  go_enter Tryd.func90, Tryd.ntmps90
  go_wp2_with fail
  refine wp_loop_rounds 2 ?_
  rw [rounds_succ]
  go_wp2_with fail
  go_region_law (first
    | (refine step_pushK w.drew rfl (.tmp 15) (.tmp 24) 22 rfl T 5 i5 (.int .u8 0) 1 1 Tryd.underlying22 hi5 hz50 hz51 hz52 rfl (by decide) A n c (U l) (by simp [Act.eval]) H.out.own #[.int .u8 (x : Int)] 1 _ rfl ?_ (by simp [Act.eval]) (by omega) (by unfold maxLen; omega) hT ?_
       · intro u hu
         simp at hu
         subst hu
         rfl
       intro A2 c2 w2 hown2 hg2
       have blk2 : Blk w2 g 114 #[.slice A n c] := (show Blk w.drew g 114 _ from H.out.blk).gb hg2 (fun e => own_blk_ne H.out.own H.out.blk (by decide) e.symm)
       have hc2 := blk2.cell 0
       simp at hc2
       have hf2 := blk2.frozen 0
       have HF : Hid (WrPost w T g (l ++ [UInt8.ofNat x]) (w2.setCell ⟨g, 0, none⟩ (.slice A2 (n + 1) c2))) := by
         refine ⟨A2, n + 1, c2, ⟨blk2.set_ 0 _, ?_, H.out.hg⟩, (((Below.refl T w).drew).grown hg2 hT (fun q hq => (H.out.own.lt q hq).1)).setCell (p := ⟨g, 0, none⟩) H.out.hg _⟩
         have e1 : ((UInt8.ofNat x).toNat : Int) = (x : Int) := by simp; omega
         have e2 : (x : Int) % 256 = (x : Int) := by omega
         rw [U_append]
         have := own_set_other hown2 (a := ⟨g, 0, none⟩) (own_blk_ne hown2 blk2 (by decide)) (.slice A2 (n + 1) c2)
         simpa [U, e1, e2] using this
       clear blk2 hown2 hg2))
  all_goals
    go_wp2_with fail
    rw [rounds_succ]
    go_wp2_with fail
    go_end0
    exact ⟨rfl, HF.out⟩
theorem u8w_any (T g n c x : Nat) (A : Option Addr) (l : List UInt8) (w : World) (h : Wr w T g l A n c) (hT : T ≤ w.heap.size) (hx : x < 256) (hl : n ≤ 1000000) :
    Calls Tryd.prog 73 #[.pointer (some ⟨g, 0, none⟩), .int .u8 x] w fun e w' => e = .returned (.tuple #[]) ∧ WrPost w T g (l ++ [UInt8.ofNat x]) w' := by
  go_enter Tryd.func73, Tryd.ntmps73
  go_wp2_with fail
  refine (fixed1_any T g n c x A l w h hT hx hl).mono ?_
  rintro e w1 ⟨rfl, hp⟩
  go_wp2_with fail
  go_end0
  exact ⟨rfl, hp⟩
end Go.Proofs.YtejgoienkpaabaaDoor

/- Contract: bits.Len64 of a small number. -/
namespace Go.Proofs.YtejgoienkpaabaaDoor
open Go.RowKit
set_option maxRecDepth 100000
theorem len8_bits (n : Nat) (hn : n < 256) : Lib.len8 (n : Int) = (Lib.bitLen n : Int) := (by decide +kernel : ∀ m : Nat, m < 256 → Lib.len8 (m : Int) = (Lib.bitLen m : Int)) n hn
theorem len64_lt256 (n : Nat) (w : World) (hn : n < 256) : Calls Tryd.prog 91 #[.int .u64 n] w fun e w' => e = .returned (.int .i64 (Lib.bitLen n : Int)) ∧ w' = w := by
  have h1 : decide ((4294967296 : Int) ≤ (n : Int)) = false := decide_eq_false (by omega)
  have h2 : decide ((65536 : Int) ≤ (n : Int)) = false := decide_eq_false (by omega)
  have h3 : decide ((256 : Int) ≤ (n : Int)) = false := decide_eq_false (by omega)
  have h8 := len8_bits n hn
  have h9 : Lib.bitLen n ≤ 8 := (by decide +kernel : ∀ n, n < 256 → Lib.bitLen n ≤ 8) n hn
  have hw : IntKind.u8.wrap (n : Int) = (n : Int) := wraps_u8 _ (by omega) (by omega)
  go_enter Tryd.func91, Tryd.ntmps91
  go_wp2_with fail
  go_ret
  have hh : n < Lib.len8tab.size := by rw [Lib.len8tab_size]; exact hn
  have e : (Lib.len8tab[n]'hh).toNat = Lib.bitLen n := by
    have h10 := h8
    simp only [Lib.len8, Int.toNat_natCast, ByteArray.getElem?_lt' _ _ hh, Option.getD_some] at h10
    omega
  have e2 : wrap64 (wrap64 ((Lib.bitLen n : Nat) : Int)) = ((Lib.bitLen n : Nat) : Int) := by
    simp only [wrap64]
    omega
  refine ⟨?_, rfl⟩
  show Ending.returned (.int .i64 (wrap64 (wrap64 ((Lib.len8tab[n]'hh).toNat : Int)))) = _
  rw [e, e2]
theorem len64_mid (n : Nat) (w : World) (h256 : 256 ≤ n) (hn : n < 65536) : Calls Tryd.prog 91 #[.int .u64 n] w fun e w' => e = .returned (.int .i64 ((8 + Lib.bitLen (n / 256) : Nat) : Int)) ∧ w' = w := by
  have h1 : decide ((4294967296 : Int) ≤ (n : Int)) = false := decide_eq_false (by omega)
  have h2 : decide ((65536 : Int) ≤ (n : Int)) = false := decide_eq_false (by omega)
  have h3 : decide ((256 : Int) ≤ (n : Int)) = true := decide_eq_true (by omega)
  obtain ⟨m, hm⟩ : ∃ m, m = n / 256 := ⟨_, rfl⟩
  have hm256 : m < 256 := by omega
  have em : (n : Int) / 256 = (m : Int) := by omega
  have h8 := len8_bits m hm256
  have h9 : Lib.bitLen m ≤ 8 := (by decide +kernel : ∀ m, m < 256 → Lib.bitLen m ≤ 8) m hm256
  have hw : IntKind.u8.wrap (m : Int) = (m : Int) := wraps_u8 _ (by omega) (by omega)
  rw [← hm]
  clear hm
  go_enter Tryd.func91, Tryd.ntmps91
  go_wp2_with fail
  go_ret
  have hh : m < Lib.len8tab.size := by rw [Lib.len8tab_size]; exact hm256
  have e : (Lib.len8tab[m]'hh).toNat = Lib.bitLen m := by
    have h10 := h8
    simp only [Lib.len8, Int.toNat_natCast, ByteArray.getElem?_lt' _ _ hh, Option.getD_some] at h10
    omega
  have e2 : wrap64 (8 + wrap64 ((Lib.bitLen m : Nat) : Int)) = ((8 + Lib.bitLen m : Nat) : Int) := by
    simp only [wrap64]
    omega
  refine ⟨?_, rfl⟩
  show Ending.returned (.int .i64 (wrap64 (8 + wrap64 ((Lib.len8tab[m]'hh).toNat : Int)))) = _
  rw [e, e2]
end Go.Proofs.YtejgoienkpaabaaDoor

/- Contracts: bits.Len64 up to 65536, bits.Len, above. -/
namespace Go.Proofs.YtejgoienkpaabaaDoor
open Go.RowKit
set_option maxRecDepth 100000
/-- how many bits n takes -/
def bitsN (n : Nat) : Nat := if n = 0 then 0 else Nat.log2 n + 1
theorem bitsN_eq {n L : Nat} (h1 : 1 ≤ n) (h2 : 2 ^ (L - 1) ≤ n) (h3 : n < 2 ^ L) (hL : 1 ≤ L) : bitsN n = L := by
  have e : Nat.log2 n = L - 1 := (Nat.log2_eq_iff (by omega)).2 ⟨h2, by rw [Nat.sub_add_cancel hL]; exact h3⟩
  unfold bitsN
  rw [if_neg (by omega), e]
  omega
theorem bitLen_256 (n : Nat) (h : n < 256) : (n = 0 → Lib.bitLen n = 0) ∧ (1 ≤ n → 2 ^ (Lib.bitLen n - 1) ≤ n ∧ n < 2 ^ Lib.bitLen n ∧ 1 ≤ Lib.bitLen n ∧ Lib.bitLen n ≤ 8) :=
  (by decide +kernel : ∀ n, n < 256 → (n = 0 → Lib.bitLen n = 0) ∧ (1 ≤ n → 2 ^ (Lib.bitLen n - 1) ≤ n ∧ n < 2 ^ Lib.bitLen n ∧ 1 ≤ Lib.bitLen n ∧ Lib.bitLen n ≤ 8)) n h
theorem bitsN_small (n : Nat) (h : n < 256) : Lib.bitLen n = bitsN n := by
  obtain ⟨a, b⟩ := bitLen_256 n h
  rcases Nat.eq_zero_or_pos n with rfl | hp
  · exact a rfl
  · obtain ⟨b1, b2, b3, _⟩ := b hp
    exact (bitsN_eq hp b1 b2 b3).symm
theorem bitsN_mid (n : Nat) (h1 : 256 ≤ n) (h2 : n < 65536) : 8 + Lib.bitLen (n / 256) = bitsN n := by
  obtain ⟨_, b⟩ := bitLen_256 (n / 256) (by omega)
  obtain ⟨b1, b2, b3, b4⟩ := b (by omega)
  generalize Lib.bitLen (n / 256) = L at *
  refine (bitsN_eq (by omega) ?_ ?_ (by omega)).symm
  · obtain ⟨k, rfl⟩ : ∃ k, L = k + 1 := ⟨L - 1, by omega⟩
    rw [show 8 + (k + 1) - 1 = k + 8 by omega, Nat.pow_add]
    have b5 : 2 ^ k ≤ n / 256 := by simpa using b1
    have : (2 : Nat) ^ 8 = 256 := rfl
    rw [this]
    omega
  · rw [Nat.pow_add]
    have : (2 : Nat) ^ 8 = 256 := rfl
    rw [this]
    omega
theorem len64_top (w : World) : Calls Tryd.prog 91 #[.int .u64 65536] w fun e w' => e = .returned (.int .i64 17) ∧ w' = w := by
  have h8 : Lib.len8 1 = 1 := len8_bits 1 (by decide)
  go_enter Tryd.func91, Tryd.ntmps91
  go_wp2_with fail
  go_ret
  exact ⟨rfl, rfl⟩
theorem len64_any (n : Nat) (w : World) (h : n ≤ 65536) : Calls Tryd.prog 91 #[.int .u64 n] w fun e w' => e = .returned (.int .i64 (bitsN n : Int)) ∧ w' = w := by
  by_cases h1 : n < 256
  · rw [← bitsN_small n h1]
    exact len64_lt256 n w h1
  · by_cases h2 : n < 65536
    · rw [← bitsN_mid n (by omega) h2]
      exact len64_mid n w (by omega) h2
    · obtain rfl : n = 65536 := by omega
      have e : bitsN 65536 = 17 := bitsN_eq (by decide) (by decide) (by decide) (by decide)
      rw [e]
      exact len64_top w
theorem len_any (n : Nat) (w : World) (h : n ≤ 65536) : Calls Tryd.prog 101 #[.int .u64 n] w fun e w' => e = .returned (.int .i64 (bitsN n : Int)) ∧ w' = w := by
  go_enter Tryd.func101, Tryd.ntmps101
  go_wp2_with fail
  refine (len64_any n w h).mono ?_
  rintro e w1 ⟨rfl, rfl⟩
  go_wp2_with fail
  go_ret
  exact ⟨rfl, rfl⟩
theorem above_any (n : Nat) (w : World) (h1 : 1 ≤ n) (h : n ≤ 65536) : Calls Tryd.prog 99 #[.int .i64 n] w fun e w' => e = .returned (.int .i64 (Nat.log2 n : Int)) ∧ w' = w := by
  have hl : Hid (bitsN n = Nat.log2 n + 1) := by unfold Hid bitsN; rw [if_neg (by omega)]
  have hlog : Nat.log2 n ≤ 20 := by
    have := (Nat.log2_lt (n := n) (k := 17) (by omega)).2 (by omega)
    omega
  have hc := len_any n w h
  rw [hl.out] at hc
  generalize Nat.log2 n = e at *
  clear hl
  go_enter Tryd.func99, Tryd.ntmps99
  go_wp2_with fail
  refine hc.mono ?_
  rintro x w1 ⟨rfl, rfl⟩
  go_wp2_with fail
  go_ret
  refine ⟨?_, rfl⟩
  congr 2
  first | omega | (rw [IntKind.wrap_i64]; omega) | simp only [wrap64] | trace_state
end Go.Proofs.YtejgoienkpaabaaDoor

/- Plain: bits packed into bytes, the highest of a byte first. -/
namespace Go.Proofs.YtejgoienkpaabaaDoor
/-- v as n bits -/
def bits (v : Nat) : Nat → List Nat
  | 0 => []
  | n + 1 => (v / 2 ^ n % 2) :: bits v n
theorem bits_length (v n : Nat) : (bits v n).length = n := by
  induction n with
  | zero => rfl
  | succ n ih => rw [bits, List.length_cons, ih]
theorem bits_le (v n : Nat) : ∀ x ∈ bits v n, x ≤ 1 := by
  induction n with
  | zero => intro x h; cases h
  | succ n ih =>
    intro x h
    rw [bits, List.mem_cons] at h
    rcases h with rfl | h
    · omega
    · exact ih x h
theorem bits_get (v n : Nat) : ∀ j, j < n → (bits v n).getD j 0 = v / 2 ^ (n - 1 - j) % 2 := by
  induction n with
  | zero => intro j h; omega
  | succ n ih =>
    intro j h
    cases j with
    | zero => rfl
    | succ j =>
      rw [bits, List.getD_cons_succ, ih j (by omega)]
      congr 3
      omega
def val8 (f : Nat → Nat) : Nat := f 0 * 128 + f 1 * 64 + f 2 * 32 + f 3 * 16 + f 4 * 8 + f 5 * 4 + f 6 * 2 + f 7
def byteAt (L : List Nat) (k : Nat) : Nat := val8 fun j => L.getD (8 * k + j) 0
def pack (L : List Nat) : List UInt8 := (List.range ((L.length + 7) / 8)).map fun k => UInt8.ofNat (byteAt L k)
theorem pack_length (L : List Nat) : (pack L).length = (L.length + 7) / 8 := by simp [pack]
theorem getD_le1 (L : List Nat) (h : ∀ x ∈ L, x ≤ 1) (i : Nat) : L.getD i 0 ≤ 1 := by
  rw [List.getD_eq_getElem?_getD]
  cases hi : L[i]? with
  | none => simp
  | some x => exact h x (List.mem_of_getElem? hi)
theorem byteAt_lt (L : List Nat) (h : ∀ x ∈ L, x ≤ 1) (k : Nat) : byteAt L k < 256 := by
  unfold byteAt val8
  have h0 := getD_le1 L h (8 * k + 0)
  have h1 := getD_le1 L h (8 * k + 1)
  have h2 := getD_le1 L h (8 * k + 2)
  have h3 := getD_le1 L h (8 * k + 3)
  have h4 := getD_le1 L h (8 * k + 4)
  have h5 := getD_le1 L h (8 * k + 5)
  have h6 := getD_le1 L h (8 * k + 6)
  have h7 := getD_le1 L h (8 * k + 7)
  show L.getD (8 * k + 0) 0 * 128 + L.getD (8 * k + 1) 0 * 64 + L.getD (8 * k + 2) 0 * 32 + L.getD (8 * k + 3) 0 * 16 + L.getD (8 * k + 4) 0 * 8 + L.getD (8 * k + 5) 0 * 4 + L.getD (8 * k + 6) 0 * 2 + L.getD (8 * k + 7) 0 < 256
  omega
theorem pack_get (L : List Nat) (h : ∀ x ∈ L, x ≤ 1) (k : Nat) (hk : k < (pack L).length) : ((pack L).getD k 0).toNat = byteAt L k := by
  rw [pack_length] at hk
  unfold pack
  rw [List.getD_eq_getElem?_getD, List.getElem?_map, List.getElem?_range hk]
  simp
  have := byteAt_lt L h k
  omega
theorem pack_bit (L : List Nat) (h : ∀ x ∈ L, x ≤ 1) (p : Nat) (hp : p < 8 * (pack L).length) : bitOf (pack L) p = L.getD p 0 := by
  unfold bitOf
  rw [pack_get L h (p / 8) (by omega)]
  obtain ⟨k, j, hj, rfl⟩ : ∃ k j, j < 8 ∧ p = 8 * k + j := ⟨p / 8, p % 8, by omega, by omega⟩
  have e1 : (8 * k + j) / 8 = k := by omega
  have e2 : (8 * k + j) % 8 = j := by omega
  rw [e1, e2]
  unfold byteAt val8
  have h0 := getD_le1 L h (8 * k + 0)
  have h1 := getD_le1 L h (8 * k + 1)
  have h2 := getD_le1 L h (8 * k + 2)
  have h3 := getD_le1 L h (8 * k + 3)
  have h4 := getD_le1 L h (8 * k + 4)
  have h5 := getD_le1 L h (8 * k + 5)
  have h6 := getD_le1 L h (8 * k + 6)
  have h7 := getD_le1 L h (8 * k + 7)
  show (L.getD (8 * k + 0) 0 * 128 + L.getD (8 * k + 1) 0 * 64 + L.getD (8 * k + 2) 0 * 32 + L.getD (8 * k + 3) 0 * 16 + L.getD (8 * k + 4) 0 * 8 + L.getD (8 * k + 5) 0 * 4 + L.getD (8 * k + 6) 0 * 2 + L.getD (8 * k + 7) 0) / 2 ^ (7 - j) % 2 = _
  match j, hj with
  | 0, _ => show _ / 128 % 2 = _; omega
  | 1, _ => show _ / 64 % 2 = _; omega
  | 2, _ => show _ / 32 % 2 = _; omega
  | 3, _ => show _ / 16 % 2 = _; omega
  | 4, _ => show _ / 8 % 2 = _; omega
  | 5, _ => show _ / 4 % 2 = _; omega
  | 6, _ => show _ / 2 % 2 = _; omega
  | 7, _ => show _ / 1 % 2 = _; omega
theorem getD_append_left (L M : List Nat) (i : Nat) (h : i < L.length) : (L ++ M).getD i 0 = L.getD i 0 := by
  rw [List.getD_eq_getElem?_getD, List.getD_eq_getElem?_getD, List.getElem?_append_left h]
theorem getD_append_at (L : List Nat) (x : Nat) : (L ++ [x]).getD L.length 0 = x := by
  rw [List.getD_eq_getElem?_getD, List.getElem?_append_right (Nat.le_refl _)]; simp
theorem getD_beyond (L : List Nat) (i : Nat) (h : L.length ≤ i) : L.getD i 0 = 0 := by
  rw [List.getD_eq_getElem?_getD, List.getElem?_eq_none h]; rfl
theorem byteAt_old (L : List Nat) (x k : Nat) (h : 8 * k + 7 < L.length) : byteAt (L ++ [x]) k = byteAt L k := by
  unfold byteAt val8
  show (L ++ [x]).getD (8 * k + 0) 0 * 128 + (L ++ [x]).getD (8 * k + 1) 0 * 64 + (L ++ [x]).getD (8 * k + 2) 0 * 32 + (L ++ [x]).getD (8 * k + 3) 0 * 16 + (L ++ [x]).getD (8 * k + 4) 0 * 8 + (L ++ [x]).getD (8 * k + 5) 0 * 4 + (L ++ [x]).getD (8 * k + 6) 0 * 2 + (L ++ [x]).getD (8 * k + 7) 0 = _
  rw [getD_append_left _ _ (8 * k + 0) (by omega), getD_append_left _ _ (8 * k + 1) (by omega), getD_append_left _ _ (8 * k + 2) (by omega), getD_append_left _ _ (8 * k + 3) (by omega), getD_append_left _ _ (8 * k + 4) (by omega), getD_append_left _ _ (8 * k + 5) (by omega), getD_append_left _ _ (8 * k + 6) (by omega), getD_append_left _ _ (8 * k + 7) (by omega)]
theorem getD_snoc (L : List Nat) (x i : Nat) : (L ++ [x]).getD i 0 = L.getD i 0 + if i = L.length then x else 0 := by
  rcases Nat.lt_trichotomy i L.length with h | h | h
  · rw [getD_append_left _ _ _ h, if_neg (by omega)]; rfl
  · subst h; rw [getD_append_at, getD_beyond _ _ (Nat.le_refl _), if_pos rfl]; omega
  · rw [getD_beyond _ _ (by simp; omega), getD_beyond _ _ (by omega), if_neg (by omega)]
/-- the byte that is being filled: its low bits are free, and how one more bit changes it -/
theorem byteAt_new (L : List Nat) (x : Nat) (j : Nat) (hj : j < 8) (k : Nat) (hl : L.length = 8 * k + j) : byteAt (L ++ [x]) k = byteAt L k + x * 2 ^ (7 - j) ∧ byteAt L k % 2 ^ (8 - j) = 0 := by
  unfold byteAt val8
  have b : ∀ i, j ≤ i → L.getD (8 * k + i) 0 = 0 := fun i hi => getD_beyond _ _ (by omega)
  show ((L ++ [x]).getD (8 * k + 0) 0 * 128 + (L ++ [x]).getD (8 * k + 1) 0 * 64 + (L ++ [x]).getD (8 * k + 2) 0 * 32 + (L ++ [x]).getD (8 * k + 3) 0 * 16 + (L ++ [x]).getD (8 * k + 4) 0 * 8 + (L ++ [x]).getD (8 * k + 5) 0 * 4 + (L ++ [x]).getD (8 * k + 6) 0 * 2 + (L ++ [x]).getD (8 * k + 7) 0 = L.getD (8 * k + 0) 0 * 128 + L.getD (8 * k + 1) 0 * 64 + L.getD (8 * k + 2) 0 * 32 + L.getD (8 * k + 3) 0 * 16 + L.getD (8 * k + 4) 0 * 8 + L.getD (8 * k + 5) 0 * 4 + L.getD (8 * k + 6) 0 * 2 + L.getD (8 * k + 7) 0 + x * 2 ^ (7 - j)) ∧ (L.getD (8 * k + 0) 0 * 128 + L.getD (8 * k + 1) 0 * 64 + L.getD (8 * k + 2) 0 * 32 + L.getD (8 * k + 3) 0 * 16 + L.getD (8 * k + 4) 0 * 8 + L.getD (8 * k + 5) 0 * 4 + L.getD (8 * k + 6) 0 * 2 + L.getD (8 * k + 7) 0) % 2 ^ (8 - j) = 0
  simp only [getD_snoc, hl]
  match j, hj with
  | 0, _ =>
    have := b 0 (by omega); have := b 1 (by omega); have := b 2 (by omega); have := b 3 (by omega); have := b 4 (by omega); have := b 5 (by omega); have := b 6 (by omega); have := b 7 (by omega)
    simp only [Nat.add_left_cancel_iff, Nat.reduceEqDiff, if_true, if_false]
    refine ⟨?_, ?_⟩
    · show _ = _ + x * 128; omega
    · show _ % 256 = 0; omega
  | 1, _ =>
    have := b 1 (by omega); have := b 2 (by omega); have := b 3 (by omega); have := b 4 (by omega); have := b 5 (by omega); have := b 6 (by omega); have := b 7 (by omega)
    simp only [Nat.add_left_cancel_iff, Nat.reduceEqDiff, if_true, if_false]
    refine ⟨?_, ?_⟩
    · show _ = _ + x * 64; omega
    · show _ % 128 = 0; omega
  | 2, _ =>
    have := b 2 (by omega); have := b 3 (by omega); have := b 4 (by omega); have := b 5 (by omega); have := b 6 (by omega); have := b 7 (by omega)
    simp only [Nat.add_left_cancel_iff, Nat.reduceEqDiff, if_true, if_false]
    refine ⟨?_, ?_⟩
    · show _ = _ + x * 32; omega
    · show _ % 64 = 0; omega
  | 3, _ =>
    have := b 3 (by omega); have := b 4 (by omega); have := b 5 (by omega); have := b 6 (by omega); have := b 7 (by omega)
    simp only [Nat.add_left_cancel_iff, Nat.reduceEqDiff, if_true, if_false]
    refine ⟨?_, ?_⟩
    · show _ = _ + x * 16; omega
    · show _ % 32 = 0; omega
  | 4, _ =>
    have := b 4 (by omega); have := b 5 (by omega); have := b 6 (by omega); have := b 7 (by omega)
    simp only [Nat.add_left_cancel_iff, Nat.reduceEqDiff, if_true, if_false]
    refine ⟨?_, ?_⟩
    · show _ = _ + x * 8; omega
    · show _ % 16 = 0; omega
  | 5, _ =>
    have := b 5 (by omega); have := b 6 (by omega); have := b 7 (by omega)
    simp only [Nat.add_left_cancel_iff, Nat.reduceEqDiff, if_true, if_false]
    refine ⟨?_, ?_⟩
    · show _ = _ + x * 4; omega
    · show _ % 8 = 0; omega
  | 6, _ =>
    have := b 6 (by omega); have := b 7 (by omega)
    simp only [Nat.add_left_cancel_iff, Nat.reduceEqDiff, if_true, if_false]
    refine ⟨?_, ?_⟩
    · show _ = _ + x * 2; omega
    · show _ % 4 = 0; omega
  | 7, _ =>
    have := b 7 (by omega)
    simp only [Nat.add_left_cancel_iff, Nat.reduceEqDiff, if_true, if_false]
    refine ⟨?_, ?_⟩
    · show _ = _ + x * 1; omega
    · show _ % 2 = 0; omega
/-- one more bit: a new byte, or the last one is filled up -/
theorem pack_snoc (L : List Nat) (x : Nat) :
    pack (L ++ [x]) = (if L.length % 8 = 0 then pack L else (pack L).dropLast) ++ [UInt8.ofNat (byteAt (L ++ [x]) (L.length / 8))] := by
  have hq : ((L ++ [x]).length + 7) / 8 = L.length / 8 + 1 := by simp; omega
  have e : pack (L ++ [x]) = (List.range (L.length / 8)).map (fun k => UInt8.ofNat (byteAt L k)) ++ [UInt8.ofNat (byteAt (L ++ [x]) (L.length / 8))] := by
    unfold pack
    rw [hq, List.range_succ, List.map_append]
    congr 1
    apply List.map_congr_left
    intro k hk
    rw [List.mem_range] at hk
    rw [byteAt_old L x k (by omega)]
  rw [e]
  congr 1
  unfold pack
  by_cases h : L.length % 8 = 0
  · rw [if_pos h, show (L.length + 7) / 8 = L.length / 8 by omega]
  · rw [if_neg h, show (L.length + 7) / 8 = L.length / 8 + 1 by omega, List.range_succ, List.map_append]
    simp
theorem bv_bits (bs : List UInt8) (p n v : Nat) (hv : v < 2 ^ n) (h : ∀ j, j < n → bitOf bs (p + j) = (bits v n).getD j 0) : ∀ k, k ≤ n → bv bs p k = v / 2 ^ (n - k) := by
  intro k
  induction k with
  | zero => intro _; rw [bv, Nat.sub_zero, Nat.div_eq_of_lt hv]
  | succ k ih =>
    intro hk
    rw [bv, ih (by omega), h k (by omega), bits_get v n k (by omega)]
    have e : n - k = (n - (k + 1)) + 1 := by omega
    have e2 : n - 1 - k = n - (k + 1) := by omega
    rw [e, e2, Nat.pow_succ, ← Nat.div_div_eq_div_mul]
    omega
end Go.Proofs.YtejgoienkpaabaaDoor

/- Plain: the codes of a row, and that a code written is the code read. -/
namespace Go.Proofs.YtejgoienkpaabaaDoor
/-- the line of a row: those of length 1, then of 2, .. -/
theorem bIn_ln (row : List Nat) (n s : Nat) (st : BS) : (bIn row n s st).ln = st.ln ++ (List.range s).filter (fun x => decide (row.getD x 0 = n)) := by
  induction s with
  | zero => simp [bIn]
  | succ s ih =>
    rw [bIn, bStep, List.range_succ, List.filter_append]
    by_cases h : row.getD s 0 = n
    · rw [if_pos h, ih]
      have e : List.filter (fun x => decide (row.getD x 0 = n)) [s] = [s] := by rw [List.filter_cons_of_pos (by simpa using h), List.filter_nil]
      rw [e, List.append_assoc]
    · rw [if_neg h, ih]
      have e : List.filter (fun x => decide (row.getD x 0 = n)) [s] = [] := by rw [List.filter_cons_of_neg (by simpa using h), List.filter_nil]
      rw [e, List.append_nil]
theorem bOut_ln (row : List Nat) (k : Nat) : (bOut row (k + 1)).ln = (bOut row k).ln ++ (List.range row.length).filter (fun x => decide (row.getD x 0 = k + 1)) := bIn_ln row (k + 1) row.length (bOut row k)
theorem bOut_ln_pre (row : List Nat) {k m : Nat} (h : k ≤ m) : ∃ r, (bOut row m).ln = (bOut row k).ln ++ r := by
  induction m with
  | zero => obtain rfl : k = 0 := by omega
            exact ⟨[], by simp⟩
  | succ m ih =>
    by_cases hk : k = m + 1
    · subst hk; exact ⟨[], by simp⟩
    · obtain ⟨r, hr⟩ := ih (by omega)
      exact ⟨r ++ _, by rw [bOut_ln, hr, List.append_assoc]⟩
theorem bOut_ln_row (row : List Nat) (k : Nat) : ∀ x ∈ (bOut row k).ln, x < row.length ∧ 1 ≤ row.getD x 0 ∧ row.getD x 0 ≤ k := by
  induction k with
  | zero => intro x h; simp [bOut] at h
  | succ k ih =>
    intro x h
    rw [bOut_ln, List.mem_append] at h
    rcases h with h | h
    · obtain ⟨a, b, c⟩ := ih x h; exact ⟨a, b, by omega⟩
    · simp only [List.mem_filter, List.mem_range, decide_eq_true_eq] at h
      exact ⟨h.1, by omega, by omega⟩
theorem bOut_ln_nodup (row : List Nat) (k : Nat) : (bOut row k).ln.Nodup := by
  induction k with
  | zero => simp [bOut]
  | succ k ih =>
    rw [bOut_ln, List.nodup_append]
    refine ⟨ih, List.nodup_range.filter _, fun a ha b hb => ?_⟩
    have := (bOut_ln_row row k a ha).2.2
    simp only [List.mem_filter, List.mem_range, decide_eq_true_eq] at hb
    intro e
    subst e
    omega
theorem bOut_len (row : List Nat) (k : Nat) (hk : k ≤ 15) : (bOut row k).ln.length = isum (bOut row 15).C k := by
  rw [← (bOut_isum row k).1]
  exact isum_congr fun j _ h2 => (bOut_C row k 15 hk j h2).symm
/-- who has length n stands in the line at n's part -/
theorem bOut_place (row : List Nat) (s n : Nat) (h1 : 1 ≤ n) (h2 : n ≤ 15) (hs : s < row.length) (hn : row.getD s 0 = n) :
    ∃ c, c < (bOut row 15).C n ∧ (bOut row 15).ln[isum (bOut row 15).C (n - 1) + c]? = some s := by
  obtain ⟨m, rfl⟩ : ∃ m, n = m + 1 := ⟨n - 1, by omega⟩
  have hm : s ∈ (List.range row.length).filter (fun x => decide (row.getD x 0 = m + 1)) := by
    simp only [List.mem_filter, List.mem_range, decide_eq_true_eq]
    exact ⟨hs, hn⟩
  obtain ⟨c, hc⟩ := List.getElem?_of_mem hm
  have hl := bOut_len row m (by omega)
  have hl2 := bOut_len row (m + 1) h2
  have hcl : c < ((List.range row.length).filter (fun x => decide (row.getD x 0 = m + 1))).length := by
    obtain ⟨h, _⟩ := List.getElem?_eq_some_iff.1 hc
    exact h
  have hlen : ((bOut row m).ln ++ (List.range row.length).filter (fun x => decide (row.getD x 0 = m + 1))).length = (bOut row (m + 1)).ln.length := by rw [bOut_ln]
  rw [List.length_append] at hlen
  have e : isum (bOut row 15).C (m + 1) = isum (bOut row 15).C m + (bOut row 15).C (m + 1) := rfl
  refine ⟨c, by omega, ?_⟩
  obtain ⟨r, hr⟩ := bOut_ln_pre row (show m + 1 ≤ 15 from h2)
  rw [Nat.add_sub_cancel, hr, List.getElem?_append_left (by omega), bOut_ln, ← hl, List.getElem?_append_right (by omega)]
  rw [Nat.add_sub_cancel_left]
  exact hc
/-- the codes' numbers in line -/
def vals (C : Nat → Nat) : Nat → List Nat
  | 0 => []
  | k + 1 => vals C k ++ (List.range (C (k + 1))).map fun i => fst_ C (k + 1) + i
theorem vals_length (C : Nat → Nat) (k : Nat) : (vals C k).length = isum C k := by
  induction k with
  | zero => rfl
  | succ k ih => simp [vals, ih, isum]
theorem vals_of (C : Nat → Nat) (k n c : Nat) (h1 : 1 ≤ n) (h2 : n ≤ k) (hc : c < C n) : (vals C k)[isum C (n - 1) + c]? = some (fst_ C n + c) := by
  induction k with
  | zero => omega
  | succ k ih =>
    by_cases hn : n = k + 1
    · subst hn
      rw [vals, Nat.add_sub_cancel, List.getElem?_append_right (by rw [vals_length]; omega), vals_length, List.getElem?_map, Nat.add_sub_cancel_left, List.getElem?_range hc]
      rfl
    · have hlt : isum C (n - 1) + c < isum C k := by
        have h3 := isum_mono C (show n ≤ k by omega)
        obtain ⟨m, rfl⟩ : ∃ m, n = m + 1 := ⟨n - 1, by omega⟩
        simp only [isum] at h3
        rw [Nat.add_sub_cancel]
        omega
      rw [vals, List.getElem?_append_left (by rw [vals_length]; exact hlt)]
      exact ih (by omega)
/-- the first a of the line have their codes -/
def cdW (ln v : List Nat) : Nat → List Nat → List Nat
  | 0, out => out
  | a + 1, out => (cdW ln v a out).set (ln.getD a 0) (v.getD a 0)
theorem cdW_length (ln v : List Nat) (a : Nat) (out : List Nat) : (cdW ln v a out).length = out.length := by
  induction a with
  | zero => rfl
  | succ a ih => simp [cdW, ih]
theorem cdW_get (ln v : List Nat) (hn : ln.Nodup) (out : List Nat) (hl : ∀ x ∈ ln, x < out.length) (a : Nat) : a ≤ ln.length → ∀ i, i < a → (cdW ln v a out).getD (ln.getD i 0) 0 = v.getD i 0 := by
  induction a with
  | zero => intro _ i h; omega
  | succ a ih =>
    intro ha i hi
    rw [cdW, List.getD_eq_getElem?_getD, List.getElem?_set]
    have hx : ln.getD a 0 < out.length := by
      apply hl
      rw [List.getD_eq_getElem?_getD, List.getElem?_eq_getElem (show a < ln.length by omega)]
      exact List.getElem_mem _
    by_cases hia : i = a
    · subst hia
      rw [if_pos rfl, cdW_length, if_pos hx]
      rfl
    · have hne : ln.getD a 0 ≠ ln.getD i 0 := by
        rw [List.getD_eq_getElem?_getD, List.getD_eq_getElem?_getD, List.getElem?_eq_getElem (show a < ln.length by omega), List.getElem?_eq_getElem (show i < ln.length by omega)]
        intro e
        exact hia ((List.getElem_inj hn).1 e).symm
      rw [if_neg hne, ← List.getD_eq_getElem?_getD]
      exact ih (by omega) i (by omega)
/-- the codes of a row -/
def codP (row : List Nat) : List Nat := cdW (bOut row 15).ln (vals (bOut row 15).C 15) (bOut row 15).ln.length (List.replicate row.length 0)
theorem codP_length (row : List Nat) : (codP row).length = row.length := by rw [codP, cdW_length]; simp
theorem codP_get (row : List Nat) (s n : Nat) (h1 : 1 ≤ n) (h2 : n ≤ 15) (hs : s < row.length) (hn : row.getD s 0 = n) :
    ∃ c, c < (bOut row 15).C n ∧ (bOut row 15).ln.getD (isum (bOut row 15).C (n - 1) + c) 0 = s ∧ (codP row).getD s 0 = fst_ (bOut row 15).C n + c := by
  obtain ⟨c, hc, hp⟩ := bOut_place row s n h1 h2 hs hn
  have e1 : (bOut row 15).ln.getD (isum (bOut row 15).C (n - 1) + c) 0 = s := by rw [List.getD_eq_getElem?_getD, hp]; rfl
  refine ⟨c, hc, e1, ?_⟩
  have hlt : isum (bOut row 15).C (n - 1) + c < (bOut row 15).ln.length := by
    obtain ⟨h, _⟩ := List.getElem?_eq_some_iff.1 hp
    exact h
  have := cdW_get (bOut row 15).ln (vals (bOut row 15).C 15) (bOut_ln_nodup row 15) (List.replicate row.length 0) (fun x hx => by simpa using (bOut_ln_row row 15 x hx).1) _ (Nat.le_refl _) _ hlt
  rw [e1] at this
  unfold codP
  rw [this, List.getD_eq_getElem?_getD, vals_of _ 15 n c h1 h2 hc]
  rfl
theorem fst_mono (C : Nat → Nat) (m : Nat) : ∀ d, (fst_ C m + C m) * 2 ^ (d + 1) ≤ fst_ C (m + d + 1) := by
  intro d
  induction d with
  | zero => simp only [fst_]; omega
  | succ d ih =>
    have e : fst_ C (m + (d + 1) + 1) = 2 * (fst_ C (m + d + 1) + C (m + d + 1)) := rfl
    rw [e, Nat.pow_succ, ← Nat.mul_assoc]
    omega
theorem bv_split (bs : List UInt8) (p m : Nat) : ∀ d, bv bs p m * 2 ^ d ≤ bv bs p (m + d) ∧ bv bs p (m + d) < (bv bs p m + 1) * 2 ^ d := by
  intro d
  induction d with
  | zero => simp
  | succ d ih =>
    have e : bv bs p (m + (d + 1)) = 2 * bv bs p (m + d) + bitOf bs (p + (m + d)) := rfl
    have hb := bitOf_le bs (p + (m + d))
    rw [e, Nat.pow_succ, ← Nat.mul_assoc, ← Nat.mul_assoc]
    omega
/-- a code that is written is the code that is read -/
theorem nxt_code (row : List Nat) (nn : Bool) (hok : bOk row nn = true) (bs : List UInt8) (p s n : Nat) (h1 : 1 ≤ n) (h2 : n ≤ 15) (hs : s < row.length) (hn : row.getD s 0 = n) (hp : p + n ≤ 8 * bs.length)
    (hb : ∀ j, j < n → bitOf bs (p + j) = (bits ((codP row).getD s 0) n).getD j 0) :
    ∃ i, nxt (bOut row 15).C bs 15 1 0 0 0 p = some (i, p + n) ∧ (bOut row 15).ln.getD i 0 = s := by
  obtain ⟨c, hc, hl, hv⟩ := codP_get row s n h1 h2 hs hn
  have htw := twin_of row nn hok
  have hK := htw.kraft n h1 h2
  have h0 := htw.zero
  rw [hv] at hb
  have hbv := bv_bits bs p n _ (show fst_ (bOut row 15).C n + c < 2 ^ n by omega) hb n (Nat.le_refl _)
  rw [Nat.sub_self, Nat.pow_zero, Nat.div_one] at hbv
  generalize (bOut row 15).C = C at *
  have hsp := nxt_spec C bs p 15 0 0 (by omega) (by simp [fst_, h0]) (by simp) (by omega)
  have hz : nxt C bs 15 (0 + 1) (bv bs p 0) 0 (isum C 0) (p + 0) = nxt C bs 15 1 0 0 0 p := rfl
  rw [hz] at hsp
  rcases hsp with ⟨m, c', a1, a2, a3, a4, a5, a6, a7⟩ | ⟨_, a2⟩
  · rcases Nat.lt_trichotomy m n with h | h | h
    · obtain ⟨d, rfl⟩ : ∃ d, n = m + d + 1 := ⟨n - m - 1, by omega⟩
      have b1 := (bv_split bs p m (d + 1)).2
      have b2 := fst_mono C m d
      have b3 : (bv bs p m + 1) * 2 ^ (d + 1) ≤ (fst_ C m + C m) * 2 ^ (d + 1) := Nat.mul_le_mul_right _ (by omega)
      have e : m + (d + 1) = m + d + 1 := by omega
      rw [e] at b1
      omega
    · subst h
      have hcc : c' = c := by omega
      subst hcc
      exact ⟨_, a7, hl⟩
    · have := a6 n (by omega) h
      omega
  · have := a2 n (by omega) h2 hp
    omega
end Go.Proofs.YtejgoienkpaabaaDoor
