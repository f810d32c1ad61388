/- PrsC, WrE, WrF (merged: one text behind the other). -/
import Derived.Test.YtejgoienkpaabaaDoorMg19
import Derived.Laws.Rows
/- Plain: tokens, their bits, and that reading them tells the bytes. -/
namespace Go.Proofs.YtejgoienkpaabaaDoor
set_option maxRecDepth 20000
structure Tok where
  sym : Nat
  extra : Nat
  dist : Nat
  far : Nat
  cp : Bool
def Tok.long (t : Tok) : Nat := if t.sym - 256 < 8 then 3 + (t.sym - 256) else 3 + 2 ^ (t.sym - 256 - 5) + t.extra
def Tok.back (t : Tok) : Nat := if t.dist < 4 then 1 + t.dist else 1 + 2 ^ (t.dist - 2) + t.far
/-- t tells what follows out -/
def Tells (t : Tok) (out out' : List UInt8) : Prop :=
  (t.cp = false ∧ t.sym < 256 ∧ out' = out ++ [UInt8.ofNat t.sym]) ∨
  (t.cp = true ∧ 256 ≤ t.sym ∧ t.sym < 277 ∧ t.dist < 18 ∧ (8 ≤ t.sym - 256 → t.extra < 2 ^ (t.sym - 256 - 5)) ∧ (4 ≤ t.dist → t.far < 2 ^ (t.dist - 2)) ∧ t.back ≤ out.length ∧ out' = copyOut t.long t.back out)
def Chain : List Tok → List UInt8 → List UInt8 → Prop
  | [], out, b => out = b
  | t :: ts, out, b => ∃ out', Tells t out out' ∧ Chain ts out' b
theorem long_ge (t : Tok) : 3 ≤ t.long := by
  unfold Tok.long
  split
  · exact Nat.le_add_right _ _
  · rw [Nat.add_assoc]; exact Nat.le_add_right _ _
theorem tells_len {t : Tok} {out out' : List UInt8} (h : Tells t out out') : out.length < out'.length := by
  rcases h with ⟨_, _, rfl⟩ | ⟨_, _, _, _, _, _, _, rfl⟩
  · rw [List.length_append]; exact Nat.lt_succ_self _
  · rw [copyOut_length]; have := long_ge t; omega
theorem chain_len : ∀ (ts : List Tok) (out b : List UInt8), Chain ts out b → out.length + ts.length ≤ b.length := by
  intro ts
  induction ts with
  | nil => intro out b h; rw [show out = b from h]; simp
  | cons t ts ih =>
    intro out b h
    obtain ⟨o, h1, h2⟩ := h
    have := tells_len h1
    have := ih o b h2
    simp only [List.length_cons]
    omega
theorem chain_append : ∀ (ts us : List Tok) (a b c : List UInt8), Chain ts a b → Chain us b c → Chain (ts ++ us) a c := by
  intro ts
  induction ts with
  | nil => intro us a b c h1 h2; rw [show a = b from h1]; exact h2
  | cons t ts ih =>
    intro us a b c h1 h2
    obtain ⟨o, h3, h4⟩ := h1
    exact ⟨o, h3, ih us o b c h4 h2⟩
/-- the bits of a token -/
def tokBits (sl dl : List Nat) (t : Tok) : List Nat :=
  bits ((codP sl).getD t.sym 0) (sl.getD t.sym 0) ++
    if t.cp then (if 8 ≤ t.sym - 256 then bits t.extra (t.sym - 256 - 5) else []) ++ (bits ((codP dl).getD t.dist 0) (dl.getD t.dist 0) ++ if 4 ≤ t.dist then bits t.far (t.dist - 2) else []) else []
def toksBits (sl dl : List Nat) (ts : List Tok) : List Nat := ts.flatMap (tokBits sl dl)
theorem tokBits_le (sl dl : List Nat) (t : Tok) : ∀ x ∈ tokBits sl dl t, x ≤ 1 := by
  intro x h
  unfold tokBits at h
  rw [List.mem_append] at h
  rcases h with h | h
  · exact bits_le _ _ x h
  · split at h
    · rw [List.mem_append, List.mem_append] at h
      rcases h with h | h | h
      · split at h
        · exact bits_le _ _ x h
        · cases h
      · exact bits_le _ _ x h
      · split at h
        · exact bits_le _ _ x h
        · cases h
    · cases h
theorem toksBits_le (sl dl : List Nat) (ts : List Tok) : ∀ x ∈ toksBits sl dl ts, x ≤ 1 := by
  intro x h
  unfold toksBits at h
  rw [List.mem_flatMap] at h
  obtain ⟨t, _, h⟩ := h
  exact tokBits_le _ _ _ x h
/-- those bits stand at p -/
def Stand (bs : List UInt8) (p : Nat) (l : List Nat) : Prop := p + l.length ≤ 8 * bs.length ∧ ∀ j, j < l.length → bitOf bs (p + j) = l.getD j 0
theorem Stand.left {bs : List UInt8} {p : Nat} {l m : List Nat} (h : Stand bs p (l ++ m)) : Stand bs p l := by
  obtain ⟨h1, h2⟩ := h
  rw [List.length_append] at h1 h2
  refine ⟨by omega, fun j hj => ?_⟩
  rw [h2 j (by omega), getD_append_left _ _ _ hj]
theorem Stand.right {bs : List UInt8} {p : Nat} {l m : List Nat} (h : Stand bs p (l ++ m)) : Stand bs (p + l.length) m := by
  obtain ⟨h1, h2⟩ := h
  rw [List.length_append] at h1 h2
  refine ⟨by omega, fun j hj => ?_⟩
  have := h2 (l.length + j) (by omega)
  rw [List.getD_eq_getElem?_getD, List.getElem?_append_right (by omega), Nat.add_sub_cancel_left, ← List.getD_eq_getElem?_getD] at this
  rw [← this, Nat.add_assoc]
theorem extra_stand (bs : List UInt8) (free sub low k p e : Nat) (he : free ≤ k → e < 2 ^ (k - sub)) (hp : p ≤ 8 * bs.length) (h : Stand bs p (if free ≤ k then bits e (k - sub) else [])) :
    extra bs free sub low k p = some (if k < free then low + k else low + 2 ^ (k - sub) + e, p + (if free ≤ k then bits e (k - sub) else []).length) := by
  unfold extra
  by_cases hk : k < free
  · rw [if_pos hk, if_pos hk, if_neg (by omega)]
    rfl
  · rw [if_pos (by omega)] at h
    rw [if_neg hk, if_neg hk, if_pos (by omega), nbits_bv bs _ 0 p hp]
    obtain ⟨h1, h2⟩ := h
    rw [bits_length] at h1 h2 ⊢
    rw [if_neg (by omega)]
    have := bv_bits bs p (k - sub) e (he (by omega)) h2 (k - sub) (Nat.le_refl _)
    rw [Nat.sub_self, Nat.pow_zero, Nat.div_one] at this
    rw [this]
    simp
theorem dec_tok (sl dl : List Nat) (hS : bOk sl false = true) (hD : bOk dl true = true) (hs : sl.length = 277) (hd : dl.length = 18) (hsl : ∀ i, sl.getD i 0 ≤ 15) (hdl : ∀ i, dl.getD i 0 ≤ 15)
    (bs : List UInt8) (n f p : Nat) (t : Tok) (out out' : List UInt8) (ht : Tells t out out') (hn : out'.length ≤ n) (h1 : 1 ≤ sl.getD t.sym 0) (h2 : t.cp = true → 1 ≤ dl.getD t.dist 0) (hst : Stand bs p (tokBits sl dl t)) :
    decP (bOut sl 15) (bOut dl 15) bs n (f + 1) out p = decP (bOut sl 15) (bOut dl 15) bs n f out' (p + (tokBits sl dl t).length) := by
  have hlt := tells_len ht
  have hsym : t.sym < sl.length := by
    rw [hs]
    rcases ht with ⟨_, a, _⟩ | ⟨_, _, a, _⟩
    · exact Nat.lt_of_lt_of_le a (by decide)
    · exact a
  rw [decP, if_neg (by omega)]
  have a1 := hst.left (l := bits ((codP sl).getD t.sym 0) (sl.getD t.sym 0))
  have a2 := hst.right (l := bits ((codP sl).getD t.sym 0) (sl.getD t.sym 0))
  obtain ⟨b1, b2⟩ := a1
  rw [bits_length] at b1 b2 a2
  obtain ⟨i, c1, c2⟩ := nxt_code sl false hS bs p t.sym (sl.getD t.sym 0) h1 (hsl _) hsym rfl b1 b2
  rw [c1, Option.bind_some]
  simp only [c2]
  rcases ht with ⟨g1, g2, rfl⟩ | ⟨g1, g2, g3, g4, g5, g6, g7, rfl⟩
  · rw [if_pos g2]
    have : (tokBits sl dl t).length = sl.getD t.sym 0 := by
      unfold tokBits
      rw [g1, List.length_append, bits_length]
      simp
    rw [this]
  · rw [if_neg (by omega)]
    rw [g1, if_pos rfl] at a2
    have d1 := a2.left
    have d2 := a2.right
    have e1 := d2.left (l := bits ((codP dl).getD t.dist 0) (dl.getD t.dist 0))
    have e2 := d2.right (l := bits ((codP dl).getD t.dist 0) (dl.getD t.dist 0))
    obtain ⟨f1, f2⟩ := e1
    rw [bits_length] at f1 f2 e2
    have hx := extra_stand bs 8 5 3 (t.sym - 256) (p + sl.getD t.sym 0) t.extra g5 b1 d1
    obtain ⟨i2, k1, k2⟩ := nxt_code dl true hD bs _ t.dist (dl.getD t.dist 0) (h2 g1) (hdl _) (by rw [hd]; exact g4) rfl f1 f2
    have hy := extra_stand bs 4 2 1 t.dist _ t.far g6 f1 e2
    have hlen : (bOut dl 15).ln.length ≠ 0 := by
      intro e
      have e0 := List.eq_nil_of_length_eq_zero e
      obtain ⟨c, _, hp⟩ := bOut_place dl t.dist (dl.getD t.dist 0) (h2 g1) (hdl _) (by rw [hd]; exact g4) rfl
      rw [e0] at hp
      cases hp
    have el : (if t.sym - 256 < 8 then 3 + (t.sym - 256) else 3 + 2 ^ (t.sym - 256 - 5) + t.extra) = t.long := rfl
    have eb : (if t.dist < 4 then 1 + t.dist else 1 + 2 ^ (t.dist - 2) + t.far) = t.back := rfl
    rw [el] at hx
    rw [eb] at hy
    have hlong : out.length + t.long ≤ n := by rw [copyOut_length] at hn; exact hn
    have hcop : copiedP (bOut dl 15).C (bOut dl 15).ln bs n (t.sym - 256) out (p + sl.getD t.sym 0) = some (copyOut t.long t.back out, p + (tokBits sl dl t).length) := by
      unfold copiedP
      rw [hx, Option.bind_some, if_neg hlen]
      simp only
      rw [k1, Option.bind_some]
      simp only [k2]
      rw [hy, Option.bind_some]
      simp only
      rw [if_neg (by omega)]
      have : (tokBits sl dl t).length = sl.getD t.sym 0 + ((if 8 ≤ t.sym - 256 then bits t.extra (t.sym - 256 - 5) else []).length + (dl.getD t.dist 0 + (if 4 ≤ t.dist then bits t.far (t.dist - 2) else []).length)) := by
        unfold tokBits
        rw [g1, if_pos rfl, List.length_append, List.length_append, List.length_append, bits_length, bits_length]
      rw [this]
      simp only [Nat.add_assoc]
    rw [hcop, Option.bind_some]
/-- all the tokens -/
theorem dec_toks (sl dl : List Nat) (hS : bOk sl false = true) (hD : bOk dl true = true) (hs : sl.length = 277) (hd : dl.length = 18) (hsl : ∀ i, sl.getD i 0 ≤ 15) (hdl : ∀ i, dl.getD i 0 ≤ 15) (bs : List UInt8) (b : List UInt8) :
    ∀ (ts : List Tok) (f p : Nat) (out : List UInt8), Chain ts out b → (∀ t ∈ ts, 1 ≤ sl.getD t.sym 0) → (∀ t ∈ ts, t.cp = true → 1 ≤ dl.getD t.dist 0) → Stand bs p (toksBits sl dl ts) → ts.length < f →
      decP (bOut sl 15) (bOut dl 15) bs b.length f out p = some (b, p + (toksBits sl dl ts).length) := by
  intro ts
  induction ts with
  | nil =>
    intro f p out hc _ _ _ hf
    obtain ⟨f, rfl⟩ : ∃ g, f = g + 1 := ⟨f - 1, by simp at hf; omega⟩
    rw [show out = b from hc, decP, if_pos (Nat.le_refl _)]
    rfl
  | cons t ts ih =>
    intro f p out hc h1 h2 hst hf
    simp only [List.length_cons] at hf
    obtain ⟨f, rfl⟩ : ∃ g, f = g + 1 := ⟨f - 1, by omega⟩
    obtain ⟨o, c1, c2⟩ := hc
    have e : toksBits sl dl (t :: ts) = tokBits sl dl t ++ toksBits sl dl ts := rfl
    rw [e] at hst ⊢
    have hl := chain_len ts o b c2
    rw [dec_tok sl dl hS hD hs hd hsl hdl bs b.length f p t out o c1 (by omega) (h1 t (List.mem_cons_self ..)) (h2 t (List.mem_cons_self ..)) hst.left]
    rw [ih f _ o c2 (fun u hu => h1 u (List.mem_cons_of_mem _ hu)) (fun u hu => h2 u (List.mem_cons_of_mem _ hu)) hst.right (by omega), List.length_append, Nat.add_assoc]
end Go.Proofs.YtejgoienkpaabaaDoor

/- Contracts: Writer.Var, head, copyOf. -/
namespace Go.Proofs.YtejgoienkpaabaaDoor
open Go.RowKit
set_option maxRecDepth 100000
/-- how many bytes stand ahead of a number's last -/
def vr (n : Nat) : Nat := if n < 128 then 0 else if n < 16384 then 1 else 2
theorem bitsN_le {n k : Nat} (h : n < 2 ^ k) : bitsN n ≤ k := by
  unfold bitsN
  split
  · omega
  · have := (Nat.log2_lt (n := n) (k := k) (by omega)).2 h
    omega
theorem bitsN_ge {n k : Nat} (h : 2 ^ k ≤ n) : k < bitsN n := by
  have hp : 1 ≤ n := Nat.le_trans Nat.one_le_two_pow h
  unfold bitsN
  rw [if_neg (by omega)]
  rcases Nat.lt_or_ge (Nat.log2 n) k with h1 | h1
  · have := (Nat.log2_lt (n := n) (k := k) (by omega)).1 h1
    omega
  · omega
theorem vr_eq (n : Nat) (h : n ≤ 65536) : (max 1 (bitsN n) - 1) / 7 = vr n := by
  unfold vr
  by_cases h1 : n < 128
  · rw [if_pos h1]
    have := bitsN_le (n := n) (k := 7) h1
    omega
  · rw [if_neg h1]
    have a := bitsN_ge (n := n) (k := 7) (by omega)
    by_cases h2 : n < 16384
    · rw [if_pos h2]
      have := bitsN_le (n := n) (k := 14) h2
      omega
    · rw [if_neg h2]
      have := bitsN_ge (n := n) (k := 14) (by omega)
      have := bitsN_le (n := n) (k := 17) (by omega)
      omega
/-- a number in its shortest form -/
def varPre (n : Nat) : Nat → List UInt8
  | 0 => []
  | k + 1 => varPre n k ++ [UInt8.ofNat (n / 128 ^ k % 128 + 128)]
def varP (n : Nat) : List UInt8 := varPre n (vr n) ++ [UInt8.ofNat (n / 128 ^ vr n)]
theorem or128 (m : Nat) (h : m < 256) : m ||| 128 = m % 128 + 128 := (by decide +kernel : ∀ m : Nat, m < 256 → m ||| 128 = m % 128 + 128) m h
theorem wr_step {w wr w2 : World} {T g L c c2 x : Nat} {A A2 : Option Addr} {l : List UInt8} (h : Wr wr T g l A L c) (hb : Below T w wr) (hT : T ≤ wr.heap.size) (hx : x < 256)
    (hown : w2.ownsRow T 5 1 (.slice A2 (L + 1) c2) (L + 1) (U l ++ [.int .u8 (x : Int)])) (hg : wr.grownBy w2 (Value.slice A L c).ownBlock) :
    w2.cell? ⟨g, 0, none⟩ = some (.slice A L c) ∧ w2.frozen? ⟨g, 0, none⟩ = false ∧ Wr (w2.setCell ⟨g, 0, none⟩ (.slice A2 (L + 1) c2)) T g (l ++ [UInt8.ofNat x]) A2 (L + 1) c2 ∧
      Below T w (w2.setCell ⟨g, 0, none⟩ (.slice A2 (L + 1) c2)) ∧ T ≤ (w2.setCell ⟨g, 0, none⟩ (.slice A2 (L + 1) c2)).heap.size := by
  have blk2 : Blk w2 g 114 #[.slice A L c] := h.blk.gb hg (fun e => own_blk_ne h.own h.blk (by decide) e.symm)
  have e1 : ((UInt8.ofNat x).toNat : Int) = (x : Int) := by simp; omega
  refine ⟨by rw [blk2.cell]; rfl, blk2.frozen 0, ⟨?_, ?_, h.hg⟩, (hb.grown hg hT (fun q hq => (h.own.lt q hq).1)).setCell (p := ⟨g, 0, none⟩) h.hg _, ?_⟩
  · have := blk2.set_ 0 (.slice A2 (L + 1) c2)
    simpa using this
  · rw [U_append]
    have := own_set_other hown (a := ⟨g, 0, none⟩) (own_blk_ne hown blk2 (by decide)) (.slice A2 (L + 1) c2)
    have e2 : U [UInt8.ofNat x] = [.int .u8 (x : Int)] := by simp only [U, List.map_cons, List.map_nil, e1]
    rw [e2]
    exact this
  · have := hg.size
    simp
    omega
def VarRel (w : World) (T g n0 n : Nat) (l : List UInt8) (vn vk : Value) (wr : World) : Prop :=
  ∃ (k x L c : Nat) (A : Option Addr), k ≤ vr n ∧ vk = .int .i64 k ∧ vn = .int .u64 x ∧ Hid (x = n / 128 ^ k) ∧ Hid (L = n0 + k) ∧ Hid (Wr wr T g (l ++ varPre n k) A L c) ∧ Hid (Below T w wr) ∧ T ≤ wr.heap.size
set_option maxHeartbeats 1000000 in
theorem wvar_any (T g n0 c n : Nat) (A : Option Addr) (l : List UInt8) (w : World) (h : Wr w T g l A n0 c) (hT : T ≤ w.heap.size) (hn : n ≤ 65536) (hl : n0 ≤ 1000000) :
    Calls Tryd.prog 74 #[.pointer (some ⟨g, 0, none⟩), .int .u64 n] w fun e w' => e = .returned (.tuple #[]) ∧ WrPost w T g (l ++ varP n) w' := by
  have H := Lib.hid h
  obtain ⟨i5, hi5, hz50, hz51, hz52⟩ := info_parts info5
  clear h
  obtain ⟨L, hL⟩ : ∃ L, L = max 1 (bitsN n) := ⟨_, rfl⟩
  obtain ⟨r, hr⟩ : ∃ r, r = vr n := ⟨_, rfl⟩
  have hLr : (L - 1) / 7 = r := by rw [hL, hr]; exact vr_eq n hn
  have hb17 : bitsN n ≤ 17 := bitsN_le (by omega)
  have hr2 : r ≤ 2 := by rw [hr]; unfold vr; split; omega; split <;> omega
  have hc := len64_any n w hn
  have emax : max (1 : Int) (bitsN n : Int) = (L : Int) := by omega
  have HRR := Lib.hid hr
  clear hr
  generalize bitsN n = bn at *
  by_cases hbn : bn ≤ 1
  · have hbi : ¬ (1 : Int) < (bn : Int) := by omega
    have hbi2 : (bn : Int) ≤ 1 := by omega
    have hr0 : r = 0 := by omega
    clear emax hL hLr
    go_enter Tryd.func74, Tryd.ntmps74
    go_wp2_with fail
    refine hc.mono ?_
    rintro e w1 ⟨rfl, rfl⟩
    go_wp2_with fail
    go_loopw [1, 9] (fun vn vk wr => VarRel w1 T g n0 n l vn vk wr) (fun _ vk _ => r - (intOf vk).toNat)
    case atStart => exact ⟨0, n, n0, c, A, by omega, rfl, rfl, by unfold Hid; simp, rfl, by unfold Hid; simpa [varPre] using H.out, Below.refl _ _, hT⟩
    case round =>
      obtain ⟨k, x, L2, c2', A2', q1, rfl, rfl, HX, q4, HW, HB, q5⟩ := hrel
      have hxb : x ≤ 65536 := by rw [HX.out]; exact Nat.le_trans (Nat.div_le_self _ _) hn
      have hk2 : k ≤ 2 := by rw [← HRR.out] at q1; omega
      have hd : decide ((k : Int) < 0) = false := decide_eq_false (by omega)
      have hkr : k = vr n := by have := HRR.out; omega
      obtain ⟨m, hm⟩ : ∃ m, m = x % 256 := ⟨_, rfl⟩
      have ew1 : IntKind.u8.wrap (x : Int) = (m : Int) := by simp [IntKind.wrap, IntKind.bits, IntKind.signed]; omega
      have hxv := HX.out
      have hxs : x < 128 := by
        rw [hxv, hkr]
        unfold vr
        split
        · simpa using ‹n < 128›
        · split <;> omega
      have hmx : m = x := by omega
      subst hmx
      have hcw := HW.out.blk.cell 0
      simp at hcw
      have HF : Hid (∀ A2 c2 w2, w2.ownsRow T 5 1 (.slice A2 (L2 + 1) c2) (L2 + 1) (U (l ++ varPre n k) ++ [.int .u8 (m : Int)]) → wr.grownBy w2 (Value.slice A2' L2 c2').ownBlock →
          (w2.cell? ⟨g, 0, none⟩ = some (.slice A2' L2 c2') ∧ w2.frozen? ⟨g, 0, none⟩ = false) ∧ WrPost w1 T g (l ++ varP n) (w2.setCell ⟨g, 0, none⟩ (.slice A2 (L2 + 1) c2))) := by
        intro A2 c2 w2 hown2 hg2
        have e : l ++ varP n = (l ++ varPre n k) ++ [UInt8.ofNat m] := by unfold varP; rw [← hkr, hxv, List.append_assoc]
        obtain ⟨b1, b2, b3⟩ := wr_step (x := m) HW.out HB.out q5 (by omega) hown2 hg2
        refine ⟨⟨b1, b2⟩, ?_⟩
        rw [e]
        exact ⟨A2, L2 + 1, c2, b3.1, b3.2.1⟩
      have hL2b : L2 ≤ 1000010 := by have := q4.out; omega
      clear hxv hm hkr
      go_wp2_with (first
        | (at_builtin
           refine wpList_push wr rfl (.tmp 30) (.tmp 33) 22 rfl T 5 i5 (.int .u8 0) 1 Tryd.underlying22 hi5 hz50 hz51 hz52 rfl A2' L2 c2' (U (l ++ varPre n k)) rfl HW.out.own (.int .u8 (m : Int)) _ rfl rfl (by omega) (by unfold maxLen; omega) q5 ?_
           intro A2 c2 w2 hown2 hg2
           obtain ⟨⟨b1, b2⟩, b3⟩ := HF.out A2 c2 w2 hown2 hg2
           have B3 := Lib.hid b3
           clear hown2 hg2 b3)
        | fail)
      all_goals
        go_end0
        exact ⟨rfl, B3.out⟩
  · have hbi : (1 : Int) < (bn : Int) := by omega
    have hbi2 : ¬ (bn : Int) ≤ 1 := by omega
    have er : ((bn : Int) - 1) / 7 = (r : Int) := by omega
    have er2 : ((bn : Int) - 1).tdiv 7 = (r : Int) := by rw [Int.tdiv_eq_ediv_of_nonneg (by omega)]; exact er
    clear emax hL hLr
    go_enter Tryd.func74, Tryd.ntmps74
    go_wp2_with fail
    refine hc.mono ?_
    rintro e w1 ⟨rfl, rfl⟩
    go_wp2_with fail
    go_loopw [1, 9] (fun vn vk wr => VarRel w1 T g n0 n l vn vk wr) (fun _ vk _ => r - (intOf vk).toNat)
    case atStart => exact ⟨0, n, n0, c, A, by omega, rfl, rfl, by unfold Hid; simp, rfl, by unfold Hid; simpa [varPre] using H.out, Below.refl _ _, hT⟩
    case round =>
      obtain ⟨k, x, L2, c2', A2', q1, rfl, rfl, HX, q4, HW, HB, q5⟩ := hrel
      have hxb : x ≤ 65536 := by rw [HX.out]; exact Nat.le_trans (Nat.div_le_self _ _) hn
      have hk2 : k ≤ 2 := by rw [← HRR.out] at q1; omega
      by_cases hk : k < r
      · have hd : decide ((k : Int) < (r : Int)) = true := decide_eq_true (by omega)
        obtain ⟨m, hm⟩ : ∃ m, m = x % 256 := ⟨_, rfl⟩
        have ew1 : IntKind.u8.wrap (x : Int) = (m : Int) := by simp [IntKind.wrap, IntKind.bits, IntKind.signed]; omega
        obtain ⟨y, hy⟩ : ∃ y, y = x % 128 + 128 := ⟨_, rfl⟩
        have eor : Go.bits .or .u8 (m : Int) 128 = (y : Int) := by
          have := or_u8 m 128 (by omega) (by omega)
          rw [or128 m (by omega)] at this
          have e2 : m % 128 + 128 = y := by omega
          rw [e2] at this
          exact this
        obtain ⟨z, hz⟩ : ∃ z, z = x / 128 := ⟨_, rfl⟩
        have ez : (x : Int) / 128 = (z : Int) := by omega
        have hcw := HW.out.blk.cell 0
        simp at hcw
        have HZ : Hid (z = n / 128 ^ (k + 1)) := by
          unfold Hid
          rw [hz, HX.out, Nat.pow_succ, Nat.div_div_eq_div_mul]
        have HF : Hid (∀ A2 c2 w2, w2.ownsRow T 5 1 (.slice A2 (L2 + 1) c2) (L2 + 1) (U (l ++ varPre n k) ++ [.int .u8 (y : Int)]) → wr.grownBy w2 (Value.slice A2' L2 c2').ownBlock →
            (w2.cell? ⟨g, 0, none⟩ = some (.slice A2' L2 c2') ∧ w2.frozen? ⟨g, 0, none⟩ = false) ∧ (k < vr n → VarRel w1 T g n0 n l (.int .u64 (z : Int)) (.int .i64 ((k + 1 : Nat) : Int)) (w2.setCell ⟨g, 0, none⟩ (.slice A2 (L2 + 1) c2)))) := by
          intro A2 c2 w2 hown2 hg2
          have e : l ++ varPre n (k + 1) = (l ++ varPre n k) ++ [UInt8.ofNat y] := by rw [varPre, ← HX.out, hy, List.append_assoc]
          obtain ⟨b1, b2, b3⟩ := wr_step (x := y) HW.out HB.out q5 (by omega) hown2 hg2
          exact ⟨⟨b1, b2⟩, fun hk => ⟨k + 1, z, L2 + 1, c2, A2, hk, rfl, rfl, HZ.out, (by unfold Hid; have := q4.out; omega), by rw [e]; exact b3.1, b3.2.1, b3.2.2⟩⟩
        have hL2b : L2 ≤ 1000010 := by have := q4.out; omega
        clear hm hy hz
        go_wp2_with (first
          | (at_builtin
             refine wpList_push wr rfl (.tmp 15) (.tmp 19) 22 rfl T 5 i5 (.int .u8 0) 1 Tryd.underlying22 hi5 hz50 hz51 hz52 rfl A2' L2 c2' (U (l ++ varPre n k)) rfl HW.out.own (.int .u8 (y : Int)) _ rfl rfl (by omega) (by unfold maxLen; omega) q5 ?_
             intro A2 c2 w2 hown2 hg2
             obtain ⟨⟨b1, b2⟩, b3⟩ := HF.out A2 c2 w2 hown2 hg2
             have B3 := Lib.hid b3
             clear hown2 hg2 b3)
          | fail)
        all_goals
          go_roundw
          case rel => exact B3.out (by have := HRR.out; omega)
          case measure => simp [intOf]; omega
      · have hd : decide ((k : Int) < (r : Int)) = false := decide_eq_false (by omega)
        have hkr : k = vr n := by have := HRR.out; omega
        obtain ⟨m, hm⟩ : ∃ m, m = x % 256 := ⟨_, rfl⟩
        have ew1 : IntKind.u8.wrap (x : Int) = (m : Int) := by simp [IntKind.wrap, IntKind.bits, IntKind.signed]; omega
        have hxv := HX.out
        have hxs : x < 128 := by
          rw [hxv, hkr]
          unfold vr
          split
          · simpa using ‹n < 128›
          · split <;> omega
        have hmx : m = x := by omega
        subst hmx
        have hcw := HW.out.blk.cell 0
        simp at hcw
        have HF : Hid (∀ A2 c2 w2, w2.ownsRow T 5 1 (.slice A2 (L2 + 1) c2) (L2 + 1) (U (l ++ varPre n k) ++ [.int .u8 (m : Int)]) → wr.grownBy w2 (Value.slice A2' L2 c2').ownBlock →
            (w2.cell? ⟨g, 0, none⟩ = some (.slice A2' L2 c2') ∧ w2.frozen? ⟨g, 0, none⟩ = false) ∧ WrPost w1 T g (l ++ varP n) (w2.setCell ⟨g, 0, none⟩ (.slice A2 (L2 + 1) c2))) := by
          intro A2 c2 w2 hown2 hg2
          have e : l ++ varP n = (l ++ varPre n k) ++ [UInt8.ofNat m] := by unfold varP; rw [← hkr, hxv, List.append_assoc]
          obtain ⟨b1, b2, b3⟩ := wr_step (x := m) HW.out HB.out q5 (by omega) hown2 hg2
          refine ⟨⟨b1, b2⟩, ?_⟩
          rw [e]
          exact ⟨A2, L2 + 1, c2, b3.1, b3.2.1⟩
        have hL2b : L2 ≤ 1000010 := by have := q4.out; omega
        clear hxv hm hkr
        go_wp2_with (first
          | (at_builtin
             refine wpList_push wr rfl (.tmp 30) (.tmp 33) 22 rfl T 5 i5 (.int .u8 0) 1 Tryd.underlying22 hi5 hz50 hz51 hz52 rfl A2' L2 c2' (U (l ++ varPre n k)) rfl HW.out.own (.int .u8 (m : Int)) _ rfl rfl (by omega) (by unfold maxLen; omega) q5 ?_
             intro A2 c2 w2 hown2 hg2
             obtain ⟨⟨b1, b2⟩, b3⟩ := HF.out A2 c2 w2 hown2 hg2
             have B3 := Lib.hid b3
             clear hown2 hg2 b3)
          | fail)
        all_goals
          go_end0
          exact ⟨rfl, B3.out⟩
end Go.Proofs.YtejgoienkpaabaaDoor

/- Contracts: head, copyOf. -/
namespace Go.Proofs.YtejgoienkpaabaaDoor
open Go.RowKit
set_option maxRecDepth 100000
theorem Wr.len {w : World} {T g n c : Nat} {l : List UInt8} {A : Option Addr} (h : Wr w T g l A n c) : n = l.length := by
  have := h.own.1
  simp [U] at this
  omega
theorem vr_le (n : Nat) : vr n ≤ 2 := by unfold vr; split; omega; split <;> omega
theorem varPre_length (n k : Nat) : (varPre n k).length = k := by
  induction k with
  | zero => rfl
  | succ k ih => simp [varPre, ih]
theorem varP_length (n : Nat) : (varP n).length = vr n + 1 := by simp [varP, varPre_length]
theorem head_any (m n : Nat) (w : World) (hm : m < 256) (hn : n ≤ 65536) :
    Calls Tryd.prog 35 #[.int .u8 m, .int .i64 n] w fun e w' => e = .returned (.pointer (some ⟨w.heap.size, 0, none⟩)) ∧ WrPost w w.heap.size w.heap.size (UInt8.ofNat m :: varP n) w' := by
  have hw0 : Wr (w.alloc (.cells #[.slice none 0 0] 114)) w.heap.size w.heap.size [] none 0 0 := ⟨Blk.new _ _ _, World.ownsRow_nil _ _ _ _, Nat.le_refl _⟩
  have HW0 := Lib.hid hw0
  have HB0 : Hid (Below w.heap.size w (w.alloc (.cells #[.slice none 0 0] 114))) := (Below.refl _ _).alloc (Nat.le_refl _) _
  have hs0 : w.heap.size ≤ (w.alloc (.cells #[.slice none 0 0] 114)).heap.size := by simp
  clear hw0
  go_enter Tryd.func35, Tryd.ntmps35
  go_wp2_with fail
  refine (new_any w).mono ?_
  rintro e w1 ⟨rfl, rfl⟩
  generalize w.alloc (.cells #[.slice none 0 0] 114) = w1 at *
  generalize hg : w.heap.size = g at *
  go_wp2_with fail
  refine (u8w_any g g 0 0 m none [] w1 HW0.out hs0 hm (by omega)).mono ?_
  rintro e w2 ⟨rfl, A2, n2, c2, hW2, hB2⟩
  have hl2 := hW2.len
  have HW2 := Lib.hid hW2
  have HB2 := Lib.hid (HB0.out.trans hB2)
  have hs2 : g ≤ w2.heap.size := Nat.le_trans hs0 hB2.size
  have hn2 : n2 = 1 := by simpa using hl2
  clear hW2 hB2 hl2
  subst hn2
  go_wp2_with fail
  refine (wvar_any g g 1 c2 n A2 _ w2 HW2.out hs2 hn (by omega)).mono ?_
  rintro e w3 ⟨rfl, A3, n3, c3, hW3, hB3⟩
  have HW3 := Lib.hid hW3
  have HB3 := Lib.hid (HB2.out.trans hB3)
  clear hW3 hB3
  go_wp2_with fail
  go_ret
  have hg2 := hg
  subst hg2
  exact ⟨rfl, A3, n3, c3, HW3.out, HB3.out⟩
/-- a copy's token -/
def copyTok (long back : Nat) : Tok :=
  ⟨if long - 3 < 8 then 256 + (long - 3) else 256 + Nat.log2 (long - 3) + 5, if long - 3 < 8 then 0 else long - 3 - 2 ^ Nat.log2 (long - 3),
    if back - 1 < 4 then back - 1 else Nat.log2 (back - 1) + 2, if back - 1 < 4 then 0 else back - 1 - 2 ^ Nat.log2 (back - 1), true⟩
theorem log2_two {v : Nat} (h : 1 ≤ v) : 2 ^ Nat.log2 v ≤ v ∧ v < 2 ^ (Nat.log2 v + 1) := (Nat.log2_eq_iff (by omega)).1 rfl
theorem log2_le15 {v : Nat} (h1 : 1 ≤ v) (h : v < 65536) : Nat.log2 v ≤ 15 := by
  have := (Nat.log2_lt (n := v) (k := 16) (by omega)).2 h
  omega
theorem log2_ge {v k : Nat} (h : 2 ^ k ≤ v) : k ≤ Nat.log2 v := by
  have hp : 1 ≤ v := Nat.le_trans Nat.one_le_two_pow h
  rcases Nat.lt_or_ge (Nat.log2 v) k with h1 | h1
  · have := (Nat.log2_lt (n := v) (k := k) (by omega)).1 h1
    omega
  · exact h1
/-- the token tells the length and the way back -/
theorem copyTok_ok {long back : Nat} (h1 : 3 ≤ long) (h2 : long ≤ 65536) (h3 : 1 ≤ back) (h4 : back ≤ 65536) :
    (copyTok long back).long = long ∧ (copyTok long back).back = back ∧ 256 ≤ (copyTok long back).sym ∧ (copyTok long back).sym < 277 ∧ (copyTok long back).dist < 18 ∧
      (8 ≤ (copyTok long back).sym - 256 → (copyTok long back).extra < 2 ^ ((copyTok long back).sym - 256 - 5)) ∧ (4 ≤ (copyTok long back).dist → (copyTok long back).far < 2 ^ ((copyTok long back).dist - 2)) := by
  unfold copyTok Tok.long Tok.back
  simp only
  have A : long - 3 < 8 ∨ (8 ≤ long - 3 ∧ 3 ≤ Nat.log2 (long - 3) ∧ Nat.log2 (long - 3) ≤ 15 ∧ 2 ^ Nat.log2 (long - 3) ≤ long - 3 ∧ long - 3 < 2 ^ Nat.log2 (long - 3) * 2) := by
    by_cases h : long - 3 < 8
    · exact .inl h
    · have := log2_two (v := long - 3) (by omega)
      rw [Nat.pow_succ] at this
      exact .inr ⟨by omega, log2_ge (k := 3) (by omega), log2_le15 (by omega) (by omega), this.1, this.2⟩
  have B : back - 1 < 4 ∨ (4 ≤ back - 1 ∧ 2 ≤ Nat.log2 (back - 1) ∧ Nat.log2 (back - 1) ≤ 15 ∧ 2 ^ Nat.log2 (back - 1) ≤ back - 1 ∧ back - 1 < 2 ^ Nat.log2 (back - 1) * 2) := by
    by_cases h : back - 1 < 4
    · exact .inl h
    · have := log2_two (v := back - 1) (by omega)
      rw [Nat.pow_succ] at this
      exact .inr ⟨by omega, log2_ge (k := 2) (by omega), log2_le15 (by omega) (by omega), this.1, this.2⟩
  have P : (if (if long - 3 < 8 then 256 + (long - 3) else 256 + Nat.log2 (long - 3) + 5) - 256 < 8 then 3 + ((if long - 3 < 8 then 256 + (long - 3) else 256 + Nat.log2 (long - 3) + 5) - 256)
      else 3 + 2 ^ ((if long - 3 < 8 then 256 + (long - 3) else 256 + Nat.log2 (long - 3) + 5) - 256 - 5) + (if long - 3 < 8 then 0 else long - 3 - 2 ^ Nat.log2 (long - 3))) = long ∧
      256 ≤ (if long - 3 < 8 then 256 + (long - 3) else 256 + Nat.log2 (long - 3) + 5) ∧ (if long - 3 < 8 then 256 + (long - 3) else 256 + Nat.log2 (long - 3) + 5) < 277 ∧
      (8 ≤ (if long - 3 < 8 then 256 + (long - 3) else 256 + Nat.log2 (long - 3) + 5) - 256 → (if long - 3 < 8 then 0 else long - 3 - 2 ^ Nat.log2 (long - 3)) < 2 ^ ((if long - 3 < 8 then 256 + (long - 3) else 256 + Nat.log2 (long - 3) + 5) - 256 - 5)) := by
    rcases A with h | ⟨h, a1, a2, a3, a4⟩
    · simp only [if_pos h]
      rw [if_pos (by omega)]
      exact ⟨by omega, by omega, by omega, fun hh => by omega⟩
    · have hn : ¬ long - 3 < 8 := by omega
      simp only [if_neg hn]
      generalize Nat.log2 (long - 3) = e at *
      have e1 : 256 + e + 5 - 256 - 5 = e := by omega
      rw [if_neg (by omega), e1]
      generalize 2 ^ e = z at *
      exact ⟨by omega, by omega, by omega, fun _ => by omega⟩
  have R : (if (if back - 1 < 4 then back - 1 else Nat.log2 (back - 1) + 2) < 4 then 1 + (if back - 1 < 4 then back - 1 else Nat.log2 (back - 1) + 2)
      else 1 + 2 ^ ((if back - 1 < 4 then back - 1 else Nat.log2 (back - 1) + 2) - 2) + (if back - 1 < 4 then 0 else back - 1 - 2 ^ Nat.log2 (back - 1))) = back ∧ (if back - 1 < 4 then back - 1 else Nat.log2 (back - 1) + 2) < 18 ∧
      (4 ≤ (if back - 1 < 4 then back - 1 else Nat.log2 (back - 1) + 2) → (if back - 1 < 4 then 0 else back - 1 - 2 ^ Nat.log2 (back - 1)) < 2 ^ ((if back - 1 < 4 then back - 1 else Nat.log2 (back - 1) + 2) - 2)) := by
    rcases B with h | ⟨h, a1, a2, a3, a4⟩
    · simp only [if_pos h]
      exact ⟨by omega, by omega, fun hh => by omega⟩
    · have hn : ¬ back - 1 < 4 := by omega
      simp only [if_neg hn]
      generalize Nat.log2 (back - 1) = e at *
      have e1 : e + 2 - 2 = e := by omega
      rw [if_neg (by omega), e1]
      generalize 2 ^ e = z at *
      exact ⟨by omega, by omega, fun _ => by omega⟩
  exact ⟨P.1, R.1, P.2.1, P.2.2.1, R.2.1, P.2.2.2, R.2.2⟩
def tokV (t : Tok) : Array Value := #[.int .i64 (t.sym : Int), .int .i64 (t.extra : Int), .int .i64 (t.dist : Int), .int .i64 (t.far : Int), .bool t.cp]
theorem two_blocks (w : World) (o1 o2 : Obj) : Below w.heap.size w ((w.alloc o1).alloc o2) := ((Below.refl _ _).alloc (Nat.le_refl _) _).alloc (by simp) _
theorem tok_ret {s e d f : Nat} {os oe od of : Int} (h1 : os = (s : Int)) (h2 : oe = (e : Int)) (h3 : od = (d : Int)) (h4 : of = (f : Int)) :
    Ending.returned (Value.agg #[.int .i64 os, .int .i64 oe, .int .i64 od, .int .i64 of, .bool true]) = .returned (.agg (tokV ⟨s, e, d, f, true⟩)) ∧ True := by
  subst h1 h2 h3 h4
  exact ⟨rfl, trivial⟩
set_option maxHeartbeats 1000000 in
theorem copyOf_any (long back : Nat) (w : World) (h1 : 3 ≤ long) (h2 : long ≤ 65536) (h3 : 1 ≤ back) (h4 : back ≤ 65536) :
    Calls Tryd.prog 94 #[.int .i64 long, .int .i64 back] w fun e w' => e = .returned (.agg (tokV (copyTok long back))) ∧ Below w.heap.size w w' := by
  obtain ⟨v, hv⟩ : ∃ v, v = long - 3 := ⟨_, rfl⟩
  obtain ⟨x, hx⟩ : ∃ x, x = back - 1 := ⟨_, rfl⟩
  have ev : (long : Int) - 3 = (v : Int) := by omega
  have ex : (back : Int) - 1 = (x : Int) := by omega
  have hvb : v ≤ 65533 := by omega
  have hxb : x ≤ 65535 := by omega
  have HT : Hid (copyTok long back = ⟨if v < 8 then 256 + v else 256 + Nat.log2 v + 5, if v < 8 then 0 else v - 2 ^ Nat.log2 v, if x < 4 then x else Nat.log2 x + 2, if x < 4 then 0 else x - 2 ^ Nat.log2 x, true⟩) := by unfold Hid copyTok; rw [hv, hx]
  rw [HT.out]
  clear HT hv hx
  by_cases hv8 : v < 8
  · have hdv : decide ((v : Int) ≥ 8) = false := decide_eq_false (by omega)
    have hdv2 : ¬ (8 : Int) ≤ (v : Int) := by omega
    simp only [if_pos hv8]
    by_cases hx4 : x < 4
    · have hdx : decide ((x : Int) ≥ 4) = false := decide_eq_false (by omega)
      have hdx2 : ¬ (4 : Int) ≤ (x : Int) := by omega
      simp only [if_pos hx4]
      go_enter Tryd.func94, Tryd.ntmps94
      go_wp2_with fail
      (try simp only [Exit.inBlock, Exit.then])
      refine bodyPost_ret (results_cell_row rfl _ _ w.heap.size 118 _ (0, 0) _ rfl (by first | exact (Blk.new w 118 _).alloc _ | exact heap_alloc2_old _ _ _) Tryd.underlying118 rfl (by kernel_rfl)) rfl ?_
      refine ⟨(tok_ret (by omega) (by omega) (by omega) (by omega)).1, by first | exact two_blocks _ _ _ | exact (two_blocks _ _ _).drew | exact ((two_blocks _ _ _).drew).drew⟩
    · have hdx : decide ((x : Int) ≥ 4) = true := decide_eq_true (by omega)
      have hdx2 : (4 : Int) ≤ (x : Int) := by omega
      simp only [if_neg hx4]
      have hx15 := log2_le15 (v := x) (by omega) (by omega)
      have hx2 := (log2_two (v := x) (by omega)).1
      have hcx := fun w' => above_any x w' (by omega) (by omega)
      generalize Nat.log2 x = ex_ at *
      have hpx := pow_cast ex_ (by omega)
      obtain ⟨px, hpxe⟩ : ∃ p, p = 2 ^ ex_ := ⟨_, rfl⟩
      rw [← hpxe] at hpx hx2 ⊢
      obtain ⟨fx, hfx⟩ : ∃ f, f = x - px := ⟨_, rfl⟩
      have efx : (x : Int) - (px : Int) = (fx : Int) := by omega
      rw [← hfx]
      clear hpxe hfx
      go_enter Tryd.func94, Tryd.ntmps94
      go_wp2_with fail
      refine (hcx _).mono ?_
      rintro e w1 ⟨rfl, rfl⟩
      go_wp2_with fail
      go_region
      go_wp2_with fail
      (try simp only [Exit.inBlock, Exit.then])
      refine bodyPost_ret (results_cell_row rfl _ _ w.heap.size 118 _ (0, 0) _ rfl (by first | exact (Blk.new w 118 _).alloc _ | exact heap_alloc2_old _ _ _) Tryd.underlying118 rfl (by kernel_rfl)) rfl ?_
      refine ⟨(tok_ret (by omega) (by omega) (by omega) (by omega)).1, by first | exact two_blocks _ _ _ | exact (two_blocks _ _ _).drew | exact ((two_blocks _ _ _).drew).drew⟩
  · have hdv : decide ((v : Int) ≥ 8) = true := decide_eq_true (by omega)
    have hdv2 : (8 : Int) ≤ (v : Int) := by omega
    simp only [if_neg hv8]
    have hv15 := log2_le15 (v := v) (by omega) (by omega)
    have hv2 := (log2_two (v := v) (by omega)).1
    have hcv := fun w' => above_any v w' (by omega) (by omega)
    generalize Nat.log2 v = ev_ at *
    have hpv := pow_cast ev_ (by omega)
    obtain ⟨pv, hpve⟩ : ∃ p, p = 2 ^ ev_ := ⟨_, rfl⟩
    rw [← hpve] at hpv hv2 ⊢
    obtain ⟨fv, hfv⟩ : ∃ f, f = v - pv := ⟨_, rfl⟩
    have efv : (v : Int) - (pv : Int) = (fv : Int) := by omega
    rw [← hfv]
    clear hpve hfv
    by_cases hx4 : x < 4
    · have hdx : decide ((x : Int) ≥ 4) = false := decide_eq_false (by omega)
      have hdx2 : ¬ (4 : Int) ≤ (x : Int) := by omega
      simp only [if_pos hx4]
      go_enter Tryd.func94, Tryd.ntmps94
      go_wp2_with fail
      refine (hcv _).mono ?_
      rintro e w1 ⟨rfl, rfl⟩
      go_wp2_with fail
      go_region
      go_wp2_with fail
      (try simp only [Exit.inBlock, Exit.then])
      refine bodyPost_ret (results_cell_row rfl _ _ w.heap.size 118 _ (0, 0) _ rfl (by first | exact (Blk.new w 118 _).alloc _ | exact heap_alloc2_old _ _ _) Tryd.underlying118 rfl (by kernel_rfl)) rfl ?_
      refine ⟨(tok_ret (by omega) (by omega) (by omega) (by omega)).1, by first | exact two_blocks _ _ _ | exact (two_blocks _ _ _).drew | exact ((two_blocks _ _ _).drew).drew⟩
    · have hdx : decide ((x : Int) ≥ 4) = true := decide_eq_true (by omega)
      have hdx2 : (4 : Int) ≤ (x : Int) := by omega
      simp only [if_neg hx4]
      have hx15 := log2_le15 (v := x) (by omega) (by omega)
      have hx2 := (log2_two (v := x) (by omega)).1
      have hcx := fun w' => above_any x w' (by omega) (by omega)
      generalize Nat.log2 x = ex_ at *
      have hpx := pow_cast ex_ (by omega)
      obtain ⟨px, hpxe⟩ : ∃ p, p = 2 ^ ex_ := ⟨_, rfl⟩
      rw [← hpxe] at hpx hx2 ⊢
      obtain ⟨fx, hfx⟩ : ∃ f, f = x - px := ⟨_, rfl⟩
      have efx : (x : Int) - (px : Int) = (fx : Int) := by omega
      rw [← hfx]
      clear hpxe hfx
      go_enter Tryd.func94, Tryd.ntmps94
      go_wp2_with fail
      refine (hcv _).mono ?_
      rintro e w1 ⟨rfl, rfl⟩
      go_wp2_with fail
      go_region
      go_wp2_with fail
      refine (hcx _).mono ?_
      rintro e w1 ⟨rfl, rfl⟩
      go_wp2_with fail
      go_region
      go_wp2_with fail
      (try simp only [Exit.inBlock, Exit.then])
      refine bodyPost_ret (results_cell_row rfl _ _ w.heap.size 118 _ (0, 0) _ rfl (by first | exact (Blk.new w 118 _).alloc _ | exact heap_alloc2_old _ _ _) Tryd.underlying118 rfl (by kernel_rfl)) rfl ?_
      refine ⟨(tok_ret (by omega) (by omega) (by omega) (by omega)).1, by first | exact two_blocks _ _ _ | exact (two_blocks _ _ _).drew | exact ((two_blocks _ _ _).drew).drew⟩
end Go.Proofs.YtejgoienkpaabaaDoor
