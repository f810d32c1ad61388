/- CodesW, Put (merged: one text behind the other). -/
import Derived.Test.YtejgoienkpaabaaDoorMg17
import Derived.Test.YtejgoienkpaabaaDoorMg19
import Derived.Test.YtejgoienkpaabaaDoorMg20
import Derived.Deep.Cut
import Derived.Deep.CutRange
import Derived.BigRegion
/- The contract of press.codes. -/
namespace Go.Proofs.YtejgoienkpaabaaDoor
open Go.RowKit
set_option maxRecDepth 100000
theorem tot_ind_le (row : List Nat) (j s : Nat) : tot (fun l => if l = j then 1 else 0) row s ≤ s := by
  induction s with
  | zero => exact Nat.le_refl _
  | succ s ih => simp only [tot]; split <;> omega
theorem bOut_C_le (row : List Nat) (k j : Nat) : (bOut row k).C j ≤ row.length := by
  rw [(bOut_tot row k).2.2]
  split
  · exact tot_ind_le _ _ _
  · omega
theorem fst_le (C : Nat → Nat) (h : ∀ j, C j ≤ 300) (n : Nat) : fst_ C n + 600 ≤ 600 * 2 ^ n := by
  induction n with
  | zero => simp [fst_]
  | succ n ih =>
    have := h n
    simp only [fst_, Nat.pow_succ]
    omega
theorem fst_le15 (C : Nat → Nat) (h : ∀ j, C j ≤ 300) (n : Nat) (hn : n ≤ 15) : fst_ C n ≤ 20000000 := by
  have h1 := fst_le C h n
  have h2 : 2 ^ n ≤ 2 ^ 15 := Nat.pow_le_pow_right (by decide) hn
  have h3 : (2 : Nat) ^ 15 = 32768 := rfl
  omega
/-- what stands in out before level k -/
def CdOut (row : List Nat) (a : Nat) : List Nat := cdW (bOut row 15).ln (vals (bOut row 15).C 15) a (List.replicate row.length 0)
theorem CdOut_length (row : List Nat) (a : Nat) : (CdOut row a).length = row.length := by rw [CdOut, cdW_length]; simp
def CdRel (w2 : World) (g : Nat) (row : List Nat) (vn va vk : Value) (wr : World) : Prop :=
  ∃ (k nx at_ : Nat), 1 ≤ k ∧ k ≤ 16 ∧ vk = .int .i64 k ∧ vn = .int .i64 nx ∧ va = .int .i64 at_ ∧ Hid (nx = fst_ (bOut row 15).C (k - 1) + (bOut row 15).C (k - 1)) ∧ Hid (at_ = isum (bOut row 15).C (k - 1)) ∧
    Hid (wr.ownsRow g 3 1 (.slice (some ⟨g, 0, none⟩) row.length row.length) row.length (I (CdOut row at_))) ∧ Hid (w2.grownBy wr (some g))
def CiRel (w2 : World) (g : Nat) (row : List Nat) (k : Nat) (vn va vc : Value) (wr : World) : Prop :=
  ∃ (c nx at_ : Nat), c ≤ (bOut row 15).C k ∧ vc = .int .i64 c ∧ vn = .int .i64 nx ∧ va = .int .i64 at_ ∧ Hid (nx = fst_ (bOut row 15).C k + c) ∧ Hid (at_ = isum (bOut row 15).C (k - 1) + c) ∧
    Hid (wr.ownsRow g 3 1 (.slice (some ⟨g, 0, none⟩) row.length row.length) row.length (I (CdOut row at_))) ∧ Hid (w2.grownBy wr (some g))
theorem ci_step {w2 wr : World} {g k c nx at_ : Nat} {row : List Nat} (hk1 : 1 ≤ k) (hk2 : k ≤ 15) (hc : c < (bOut row 15).C k) (hn : nx = fst_ (bOut row 15).C k + c) (ha : at_ = isum (bOut row 15).C (k - 1) + c)
    (ho : wr.ownsRow g 3 1 (.slice (some ⟨g, 0, none⟩) row.length row.length) row.length (I (CdOut row at_))) (hg : w2.grownBy wr (some g)) :
    at_ < (bOut row 15).ln.length ∧ (bOut row 15).ln.getD at_ 0 < row.length ∧
      CiRel w2 g row k (.int .i64 ((nx + 1 : Nat) : Int)) (.int .i64 ((at_ + 1 : Nat) : Int)) (.int .i64 ((c + 1 : Nat) : Int)) (wr.setCell ⟨g, (bOut row 15).ln.getD at_ 0, none⟩ (.int .i64 (nx : Int))) := by
  have hv := vals_of (bOut row 15).C 15 k c hk1 hk2 hc
  have hlt : at_ < (bOut row 15).ln.length := by
    have h1 := bOut_sum_le row k hk2
    obtain ⟨m, rfl⟩ : ∃ m, k = m + 1 := ⟨k - 1, by omega⟩
    simp only [isum, Nat.add_sub_cancel] at h1 ha
    omega
  have hmem : (bOut row 15).ln.getD at_ 0 < row.length := by
    have := bOut_ln_row row 15 ((bOut row 15).ln.getD at_ 0) (by
      rw [List.getD_eq_getElem?_getD, List.getElem?_eq_getElem hlt]
      exact List.getElem_mem _)
    exact this.1
  refine ⟨hlt, hmem, c + 1, nx + 1, at_ + 1, hc, rfl, rfl, rfl, by show _ = _; omega, by show _ = _; omega, ?_, gb_set hg (.inl rfl) _⟩
  have h := own_set (i := (bOut row 15).ln.getD at_ 0) ho (.int .i64 (nx : Int))
  have e : I (CdOut row (at_ + 1)) = (I (CdOut row at_)).set ((bOut row 15).ln.getD at_ 0) (.int .i64 (nx : Int)) := by
    have e1 : CdOut row (at_ + 1) = (CdOut row at_).set ((bOut row 15).ln.getD at_ 0) nx := by
      have e2 : (vals (bOut row 15).C 15).getD at_ 0 = nx := by rw [ha, List.getD_eq_getElem?_getD, hv, hn]; rfl
      unfold CdOut
      rw [cdW, e2]
    rw [e1]
    simp [I, List.map_set]
  unfold Hid
  rw [e]
  exact h
def PCodesPost (w : World) (row : List Nat) (e : Ending) (w' : World) : Prop :=
  e = .returned (.slice (some ⟨w.heap.size, 0, none⟩) row.length row.length) ∧ w'.ownsRow w.heap.size 3 1 (.slice (some ⟨w.heap.size, 0, none⟩) row.length row.length) row.length (I (codP row)) ∧ Below w.heap.size w w'
set_option maxHeartbeats 1000000 in
theorem pcodes_any (b off cap : Nat) (row : List Nat) (w : World) (hr : Row w w.heap.size b off row) (hl : row.length ≤ 300) (hl1 : 1 ≤ row.length) :
    Calls Tryd.prog 77 #[.slice (some ⟨b, off, none⟩) row.length cap] w fun e w' => PCodesPost w row e w' := by
  have HR := Lib.hid hr
  obtain ⟨i3, hi3, hz30, hz31, hz32⟩ := info_parts info3
  obtain ⟨N, hN⟩ : ∃ N, N = row.length := ⟨_, rfl⟩
  clear hr
  have HN := Lib.hid hN
  rw [← hN] at hl hl1 ⊢
  clear hN
  go_enter Tryd.func77, Tryd.ntmps77
  go_wp2_with (first
    | (refine wpList_make_full w rfl (.tmp 10) (.tmp 10) 36 rfl w.heap.size 3 i3 _ 1 Tryd.underlying36 hi3 hz30 hz31 .i64 .i64 N N N rfl rfl rfl rfl (by rw [hz32]; omega) (by unfold maxLen; omega) (Nat.le_refl _) ?_
       intro w1 hown1 hg1
       have HO1 := Lib.hid hown1
       have HG1 := Lib.hid hg1
       clear hown1 hg1)
    | fail)
  have HB1 : Hid (Below w.heap.size w w1) := below_of_gb HG1.out
  have hbind := bind_any b off cap row true w1 ⟨Nat.lt_of_lt_of_le HR.out.1 HG1.out.size, (HR.out.below HB1.out).2⟩ (by have := HN.out; omega)
  rw [← HN.out] at hbind
  refine hbind.mono ?_
  rintro e w2 ⟨v, rfl, hB⟩
  obtain ⟨Al, cl, rfl⟩ := own_shape hB.own
  have hlen := (bOut_isum row 15).1
  have HB := Lib.hid hB
  obtain ⟨g, hg⟩ : ∃ g, g = w.heap.size := ⟨_, rfl⟩
  obtain ⟨gb, hgb⟩ : ∃ g, g = w1.heap.size := ⟨_, rfl⟩
  have hsz1 : g < gb := by
    have h1 := HO1.out.lt g (by rw [hg]; rfl)
    omega
  have HO2 : Hid (w2.ownsRow g 3 1 (.slice (some ⟨g, 0, none⟩) row.length row.length) row.length (I (CdOut row 0))) := by
    have h1 := own_below HO1.out hB.below
    rw [← hg, HN.out] at h1
    have e : (madeCells (Value.cells (.int .i64 0)) (row.length * 1)).toList = I (CdOut row 0) := by
      simp [madeCells, I, Value.cells, CdOut, cdW]
      apply List.ext_getElem (by simp)
      intro i h1 h2
      simp [Nat.mod_one]
    rw [e] at h1
    exact h1
  have HBB : Hid (Blk w2 gb 124 (bookCells (bOut row 15).C (.slice Al (bOut row 15).ln.length cl))) := by rw [hgb]; exact hB.blk
  have HLN : Hid (∀ wr, w2.grownBy wr (some g) → wr.ownsRow gb 3 1 (.slice Al (bOut row 15).ln.length cl) (bOut row 15).ln.length (I (bOut row 15).ln)) := by
    intro wr h1
    refine hB.own.kept h1 ?_ |> fun h => own_base h (by omega)
    cases hv : (Value.slice Al (bOut row 15).ln.length cl).ownBlock with
    | none => exact .inl rfl
    | some q => exact .inr (by have := (hB.own.lt q hv).1; simp; omega)
  have HFIN : Hid (∀ wr, w2.grownBy wr (some g) → Below w.heap.size w wr) := by
    intro wr h1
    have h2 := HB1.out.trans (hB.below.mono HG1.out.size)
    exact h2.trans ⟨h1.os, h1.tape, h1.output, h1.size, fun k hk => h1.block k (by have := h2.size; omega) (by simp; omega)⟩
  have hCb : ∀ j, (bOut row 15).C j ≤ 300 := fun j => Nat.le_trans (bOut_C_le row 15 j) (by have := HN.out; omega)
  have HCB := Lib.hid hCb
  have hlnb : (bOut row 15).ln.length ≤ 100000 := by
    have := (bOut_le row 15).2.1
    have := HN.out
    omega
  clear hB hbind hCb hlen
  rw [← hgb, ← hg]
  have HG := Lib.hid hg
  clear hg hgb
  go_wp2_with fail
  go_loopw [6, 7, 8] (fun vn va vk wr => CdRel w2 g row vn va vk wr) (fun _ _ vk _ => 16 - (intOf vk).toNat)
  case atStart => exact ⟨1, 0, 0, by omega, by omega, rfl, rfl, rfl, by unfold Hid; simp [fst_]; exact ((bOut_tot row 15).2.2 0).trans (if_neg (by omega)) |>.symm, rfl, HO2, gb_refl _ _⟩
  case round =>
    obtain ⟨k, nx, at_, p1, p2, rfl, rfl, rfl, HNX, HAT, HO, HGR⟩ := hrel
    by_cases hk : k ≤ 15
    · have hd : decide ((k : Int) ≤ 15) = true := decide_eq_true (by omega)
      have hnxb : nx ≤ 20000300 := by
        have h1 := HNX.out
        have h2 := fst_le15 (bOut row 15).C HCB.out (k - 1) (by omega)
        have h3 := HCB.out (k - 1)
        omega
      have hatb : at_ ≤ 100000 := by
        have h1 := HAT.out
        have h2 := bOut_sum_le row (k - 1) (by omega)
        omega
      obtain ⟨n2, hn2⟩ : ∃ x, x = 2 * nx := ⟨_, rfl⟩
      have en2 : (nx : Int) * 2 = (n2 : Int) := by omega
      have en3 : 2 * (nx : Int) = (n2 : Int) := by omega
      have HN2 : Hid (n2 = fst_ (bOut row 15).C k + 0) := by
        unfold Hid
        have h1 := HNX.out
        obtain ⟨m, rfl⟩ : ∃ m, k = m + 1 := ⟨k - 1, by omega⟩
        simp only [Nat.add_sub_cancel] at h1
        simp only [fst_]
        omega
      obtain ⟨cnt, hcnt⟩ : ∃ c, c = (bOut row 15).C k := ⟨_, rfl⟩
      have hbb : Blk wr gb 124 _ := HBB.out.gb HGR.out (by simp; omega)
      have hck := hbb.cell k
      rw [bookCells_get _ _ _ (by omega), ← hcnt] at hck
      have hcntb : cnt ≤ 300 := by rw [hcnt]; exact HCB.out k
      have HCN := Lib.hid hcnt
      clear hbb hn2 hcnt
      go_wp2_with fail
      go_loopw [6, 7, 29] (fun vn va vc wl => CiRel w2 g row k vn va vc wl) (fun _ _ vc _ => cnt - (intOf vc).toNat)
      case atStart => exact ⟨0, n2, at_, by omega, rfl, by go_num, rfl, HN2, HAT, HO, HGR⟩
      case round =>
        clear HO HGR hck
        obtain ⟨c, nx, at_, q1, rfl, rfl, rfl, HNX, HAT, HO, HGR⟩ := hrel
        by_cases hc : c < cnt
        · have hdc : decide ((c : Int) < (cnt : Int)) = true := decide_eq_true (by omega)
          obtain ⟨s1, s2, s3⟩ := ci_step p1 hk (by rw [← HCN.out]; exact hc) HNX.out HAT.out HO.out HGR.out
          have HS3 := Lib.hid s3
          have hnxb : nx ≤ 20000300 := by
            have h1 := HNX.out
            have h2 := fst_le15 (bOut row 15).C HCB.out k hk
            omega
          have hbb : Blk wr gb 124 _ := HBB.out.gb HGR.out (by simp; omega)
          have hcl := hbb.cell 16
          rw [bookCells_line] at hcl
          have hln := HLN.out wr HGR.out
          obtain ⟨gl, capl, hvl, _, _⟩ := hln.form (by omega)
          injection hvl with e1 e2 e3
          subst e1
          obtain ⟨x, hx⟩ : ∃ x, x = (bOut row 15).ln.getD at_ 0 := ⟨_, rfl⟩
          obtain ⟨L, hL⟩ : ∃ L, L = (bOut row 15).ln.length := ⟨_, rfl⟩
          have hcx := hln.cellAt at_ (by omega)
          rw [I_get, List.getElem?_eq_getElem s1] at hcx
          have hx2 : (bOut row 15).ln[at_] = x := by rw [hx, List.getD_eq_getElem?_getD, List.getElem?_eq_getElem s1]; rfl
          rw [hx2] at hcx
          simp only [Option.map_some] at hcx
          rw [← hL] at hcl hlnb
          have hatL : at_ < L := by omega
          rw [← hx] at s2 HS3
          have hxN : x < N := by have := HN.out; omega
          obtain ⟨uo, huo, hfo, _⟩ := own_cell HO.out s2
          clear hx hL hx2 hln hbb s1 s2 s3 e2 e3
          go_wp2_with fail
          go_roundw
          case rel =>
            have := HS3.out
            exact this
          case measure => simp [intOf]; omega
        · have hdc : decide ((c : Int) < (cnt : Int)) = false := decide_eq_false (by omega)
          have hce : c = cnt := by have := HCN.out; omega
          have hnxb : nx ≤ 20000300 := by
            have h1 := HNX.out
            have h2 := fst_le15 (bOut row 15).C HCB.out k hk
            omega
          have HNE : Hid (nx = fst_ (bOut row 15).C (k + 1 - 1) + (bOut row 15).C (k + 1 - 1)) := by
            unfold Hid
            rw [Nat.add_sub_cancel, HNX.out, hce, HCN.out]
          have HAE : Hid (at_ = isum (bOut row 15).C (k + 1 - 1)) := by
            unfold Hid
            rw [Nat.add_sub_cancel, HAT.out, hce, HCN.out]
            obtain ⟨m, rfl⟩ : ∃ m, k = m + 1 := ⟨k - 1, by omega⟩
            rfl
          clear hce
          go_wp2_with fail
          go_roundw
          case rel => exact ⟨k + 1, nx, at_, by omega, by omega, by go_num, rfl, rfl, HNE, HAE, HO, HGR⟩
          case measure => simp [intOf]; omega
    · have hd : decide ((k : Int) ≤ 15) = false := decide_eq_false (by omega)
      have hk16 : k = 16 := by omega
      have HC : Hid (CdOut row at_ = codP row) := by
        unfold Hid codP CdOut
        rw [HAT.out, hk16, ← (bOut_isum row 15).1]
      rw [HC.out] at HO
      go_wp2_with fail
      go_ret
      unfold PCodesPost
      rw [← HG.out, ← HN.out]
      refine ⟨rfl, ?_, by rw [HG.out]; exact HFIN.out _ HGR.out⟩
      have := HO.out
      rw [← HN.out] at this
      exact this
end Go.Proofs.YtejgoienkpaabaaDoor

/- The contract of shorter's closure put. -/
namespace Go.Proofs.YtejgoienkpaabaaDoor
open Go.RowKit
set_option maxRecDepth 100000
/-- the bits L, packed: block po holds the slice, block pf how many bits of its last byte are free -/
structure PS (w : World) (T pf po : Nat) (L : List Nat) (A : Option Addr) (n c fr : Nat) : Prop where
  bF : Blk w pf 3 #[.int .i64 (fr : Int)]
  bO : Blk w po 22 #[.slice A n c]
  own : w.ownsRow T 5 1 (.slice A n c) n (U (pack L))
  le1 : ∀ x ∈ L, x ≤ 1
  hfr : fr = 8 * n - L.length
  tf : T ≤ pf
  to_ : T ≤ po
  hT : T ≤ w.heap.size
def Pst (w : World) (T pf po : Nat) (L : List Nat) : Prop := ∃ A n c fr, PS w T pf po L A n c fr
/-- every block stays but those two, and rows of bytes -/
def KeepP (pf po : Nat) (w w' : World) : Prop := ∀ g t cs, g ≠ pf → g ≠ po → t ≠ 5 → Blk w g t cs → Blk w' g t cs
theorem KeepP.refl (pf po : Nat) (w : World) : KeepP pf po w w := fun _ _ _ _ _ _ h => h
theorem KeepP.trans {pf po : Nat} {a b c : World} (h : KeepP pf po a b) (k : KeepP pf po b c) : KeepP pf po a c := fun g t cs h1 h2 h3 x => k g t cs h1 h2 h3 (h g t cs h1 h2 h3 x)
section
variable {w w' : World} {T pf po n c fr : Nat} {L : List Nat} {A : Option Addr}
theorem PS.len (s : PS w T pf po L A n c fr) : n = (L.length + 7) / 8 := by
  have := s.own.1
  simp [U, pack_length] at this
  omega
theorem PS.fr8 (s : PS w T pf po L A n c fr) : fr = (8 - L.length % 8) % 8 ∧ fr ≤ 7 := by
  have h1 := s.len
  have h2 := s.hfr
  omega
end
def PutRel (w0 : World) (T pf po v n0 : Nat) (L : List Nat) (vi : Value) (wr : World) : Prop :=
  ∃ (k : Nat), k ≤ n0 ∧ vi = .int .i64 ((k : Int) - 1) ∧ (∃ M, M.length = n0 - k ∧ Hid (Pst wr T pf po (L ++ M)) ∧ Hid (M ++ bits v k = bits v n0)) ∧ Hid (KeepP pf po w0 wr) ∧ Hid (Below T w0 wr)
def PutPost (w : World) (T pf po : Nat) (L : List Nat) (e : Ending) (w' : World) : Prop := e = .returned (.tuple #[]) ∧ Pst w' T pf po L ∧ KeepP pf po w w' ∧ Below T w w'
theorem pack_last (L : List Nat) (h : ∀ y ∈ L, y ≤ 1) (hl : L.length % 8 ≠ 0) : (pack L).getD ((pack L).length - 1) 0 = UInt8.ofNat (byteAt L (L.length / 8)) := by
  have e : (pack L).length - 1 = L.length / 8 := by rw [pack_length]; omega
  have h2 := pack_get L h (L.length / 8) (by rw [pack_length]; omega)
  rw [e]
  apply UInt8.toNat_inj.1
  rw [h2]
  have := byteAt_lt L h (L.length / 8)
  simp
  omega
/-- a bit more: the two ways -/
theorem bit_new (L : List Nat) (x : Nat) (h : L.length % 8 = 0) : pack (L ++ [x]) = pack L ++ [UInt8.ofNat (x * 128)] := by
  rw [pack_snoc, if_pos h]
  congr 3
  have h1 := byteAt_new L x 0 (by omega) (L.length / 8) (by omega)
  have h2 : byteAt L (L.length / 8) = 0 := by
    have hz : ∀ j, L.getD (8 * (L.length / 8) + j) 0 = 0 := fun j => getD_beyond _ _ (by omega)
    unfold byteAt val8
    simp only [hz]
  rw [h1.1, h2]
  simp
theorem bit_old (L : List Nat) (x : Nat) (h : L.length % 8 ≠ 0) :
    pack (L ++ [x]) = (pack L).set ((pack L).length - 1) (UInt8.ofNat (byteAt L (L.length / 8) + x * 2 ^ (7 - L.length % 8))) ∧ byteAt L (L.length / 8) % 2 ^ (8 - L.length % 8) = 0 := by
  have h1 := byteAt_new L x (L.length % 8) (by omega) (L.length / 8) (by omega)
  refine ⟨?_, h1.2⟩
  rw [pack_snoc, if_neg h, h1.1]
  have hp : 0 < (pack L).length := by rw [pack_length]; omega
  generalize pack L = p at *
  apply List.ext_getElem?
  intro i
  rw [List.getElem?_set]
  by_cases hi : p.length - 1 = i
  · subst hi
    rw [if_pos rfl, if_pos (by omega), List.getElem?_append_right (by simp)]
    simp
  · rw [if_neg hi]
    by_cases hlt : i < p.length - 1
    · rw [List.getElem?_append_left (by simpa using hlt), List.getElem?_dropLast, if_pos hlt]
    · rw [List.getElem?_eq_none (by simp; omega), List.getElem?_eq_none (by omega)]
/-- between the two halves of a bit's round -/
def Mid (w0 : World) (T pf po : Nat) (L : List Nat) (x : Nat) (wx : World) : Prop :=
  ∃ (g n1 c f1 y : Nat) (B : List UInt8), Hid (Blk wx pf 3 #[.int .i64 ((f1 + 1 : Nat) : Int)]) ∧ Hid (Blk wx po 22 #[.slice (some ⟨g, 0, none⟩) (n1 + 1) c]) ∧ Hid (wx.ownsRow T 5 1 (.slice (some ⟨g, 0, none⟩) (n1 + 1) c) (n1 + 1) (U B)) ∧
    Hid (B.length = n1 + 1) ∧ f1 ≤ 7 ∧ n1 ≤ 20000000 ∧ Hid (y = (B.getD n1 0).toNat) ∧ Hid (B.set n1 (UInt8.ofNat (y + x * 2 ^ f1)) = pack (L ++ [x])) ∧ Hid (y % 2 ^ (f1 + 1) = 0) ∧ Hid (f1 = 8 * (n1 + 1) - (L.length + 1)) ∧
    Hid (KeepP pf po w0 wx) ∧ Hid (Below T w0 wx) ∧ Hid (T ≤ wx.heap.size)
theorem mid_old {wr : World} {T pf po n c fr x : Nat} {L : List Nat} {A : Option Addr} (s : PS wr T pf po L A n c fr) (h : fr ≠ 0) (hl : L.length ≤ 100000000) : Mid wr T pf po L x wr := by
  have h1 := s.len
  obtain ⟨h2, h3⟩ := s.fr8
  have h4 := s.hfr
  obtain ⟨f1, rfl⟩ : ∃ z, fr = z + 1 := ⟨fr - 1, by omega⟩
  obtain ⟨n1, rfl⟩ : ∃ z, n = z + 1 := ⟨n - 1, by omega⟩
  obtain ⟨g, capo, hvo, _, _⟩ := s.own.form (by omega)
  injection hvo with e1 e2 e3
  subst e1
  have hm : L.length % 8 ≠ 0 := by omega
  obtain ⟨b1, b2⟩ := bit_old L x hm
  have hpl : (pack L).length = n1 + 1 := by rw [pack_length]; omega
  refine ⟨g, n1, c, f1, byteAt L (L.length / 8), pack L, s.bF, s.bO, s.own, hpl, by omega, by omega, ?_, ?_, ?_, by unfold Hid; omega, KeepP.refl _ _ _, Below.refl _ _, s.hT⟩
  · have := pack_last L s.le1 hm
    rw [hpl, Nat.add_sub_cancel] at this
    unfold Hid
    rw [this]
    have := byteAt_lt L s.le1 (L.length / 8)
    simp
    omega
  · unfold Hid
    rw [b1, hpl, Nat.add_sub_cancel, show 7 - L.length % 8 = f1 by omega]
  · unfold Hid
    rw [show f1 + 1 = 8 - L.length % 8 by omega]
    exact b2
theorem mid_new {wr w2 : World} {T pf po n c c2 x : Nat} {L : List Nat} {A A2 : Option Addr} (s : PS wr T pf po L A n c 0) (hl : L.length ≤ 100000000) (hown : w2.ownsRow T 5 1 (.slice A2 (n + 1) c2) (n + 1) (U (pack L) ++ [.int .u8 0])) (hg : wr.grownBy w2 (Value.slice A n c).ownBlock) :
    (w2.cell? ⟨po, 0, none⟩ = some (.slice A n c) ∧ w2.frozen? ⟨po, 0, none⟩ = false) ∧
    ((w2.setCell ⟨po, 0, none⟩ (.slice A2 (n + 1) c2)).cell? ⟨pf, 0, none⟩ = some (.int .i64 0) ∧ (w2.setCell ⟨po, 0, none⟩ (.slice A2 (n + 1) c2)).frozen? ⟨pf, 0, none⟩ = false) ∧
      Mid wr T pf po L x ((w2.setCell ⟨po, 0, none⟩ (.slice A2 (n + 1) c2)).setCell ⟨pf, 0, none⟩ (.int .i64 8)) := by
  have h1 := s.len
  have h4 := s.hfr
  have hb2 : Blk w2 po 22 #[.slice A n c] := s.bO.gb hg (fun e => own_blk_ne s.own s.bO (by decide) e.symm)
  have hf2 : Blk w2 pf 3 #[.int .i64 ((0 : Nat) : Int)] := s.bF.gb hg (fun e => own_blk_ne s.own s.bF (by decide) e.symm)
  have hne : pf ≠ po := Blk.ne_ hf2 hb2 (by decide)
  have hb3 : Blk (w2.setCell ⟨po, 0, none⟩ (.slice A2 (n + 1) c2)) po 22 #[.slice A2 (n + 1) c2] := by
    have := hb2.set_ 0 (.slice A2 (n + 1) c2)
    simpa using this
  have hf3 : Blk (w2.setCell ⟨po, 0, none⟩ (.slice A2 (n + 1) c2)) pf 3 #[.int .i64 ((0 : Nat) : Int)] := hf2.far (p := ⟨po, 0, none⟩) hne _
  have ho3 := own_set_other hown (a := ⟨po, 0, none⟩) (own_blk_ne hown hb2 (by decide)) (.slice A2 (n + 1) c2)
  have hf4 : Blk ((w2.setCell ⟨po, 0, none⟩ (.slice A2 (n + 1) c2)).setCell ⟨pf, 0, none⟩ (.int .i64 8)) pf 3 #[.int .i64 8] := by
    have := hf3.set_ 0 (.int .i64 8)
    simpa using this
  have ho4 := own_set_other ho3 (a := ⟨pf, 0, none⟩) (own_blk_ne ho3 hf3 (by decide)) (.int .i64 8)
  have hb4 : Blk ((w2.setCell ⟨po, 0, none⟩ (.slice A2 (n + 1) c2)).setCell ⟨pf, 0, none⟩ (.int .i64 8)) po 22 _ := hb3.far (p := ⟨pf, 0, none⟩) (fun e => hne e.symm) _
  obtain ⟨g, capo, hvo, _, _⟩ := ho4.form (by omega)
  injection hvo with e1 e2 e3
  subst e1
  have hm : L.length % 8 = 0 := by omega
  have hU : U (pack L) ++ [.int .u8 0] = U (pack L ++ [0]) := by simp [U]
  rw [hU] at ho4
  have hpl : (pack L).length = n := by rw [pack_length]; omega
  have hbel : Below T wr w2 := (Below.refl T wr).grown hg s.hT (fun q hq => (s.own.lt q hq).1)
  have hkp : KeepP pf po wr ((w2.setCell ⟨po, 0, none⟩ (.slice (some ⟨g, 0, none⟩) (n + 1) c2)).setCell ⟨pf, 0, none⟩ (.int .i64 8)) := by
    intro g' t cs q1 q2 q3 x
    have y1 : Blk w2 g' t cs := x.gb hg (fun e => own_blk_ne s.own x (fun e2 => q3 e2.symm) e.symm)
    exact (y1.far (p := ⟨po, 0, none⟩) q2 _).far (p := ⟨pf, 0, none⟩) q1 _
  refine ⟨⟨by rw [hb2.cell]; rfl, hb2.frozen 0⟩, ⟨by rw [hf3.cell]; rfl, hf3.frozen 0⟩, g, n, c2, 7, 0, pack L ++ [0], hf4, hb4, ho4, by simp [Hid, hpl], by omega, by omega, ?_, ?_, ?_, by unfold Hid; omega, hkp, (hbel.setCell (p := ⟨po, 0, none⟩) s.to_ _).setCell (p := ⟨pf, 0, none⟩) s.tf _, ?_⟩
  · unfold Hid
    rw [List.getD_eq_getElem?_getD, List.getElem?_append_right (by omega), hpl, Nat.sub_self]
    rfl
  · unfold Hid
    rw [bit_new L x hm, List.set_append_right _ _ (by omega), hpl, Nat.sub_self]
    simp
  · simp [Hid]
  · unfold Hid
    have := hbel.size
    have := s.hT
    simp
    omega
theorem mid_end {w0 wx : World} {T pf po x g n1 c f1 y : Nat} {L : List Nat} {B : List UInt8} (hx : x ≤ 1) (h1 : Blk wx pf 3 #[.int .i64 ((f1 + 1 : Nat) : Int)]) (h2 : Blk wx po 22 #[.slice (some ⟨g, 0, none⟩) (n1 + 1) c]) (h3 : wx.ownsRow T 5 1 (.slice (some ⟨g, 0, none⟩) (n1 + 1) c) (n1 + 1) (U B))
    (h4 : B.length = n1 + 1) (h7 : y = (B.getD n1 0).toNat) (h8 : B.set n1 (UInt8.ofNat (y + x * 2 ^ f1)) = pack (L ++ [x])) (hs : y + x * 2 ^ f1 < 256) (h10 : f1 = 8 * (n1 + 1) - (L.length + 1)) (hle : ∀ y ∈ L, y ≤ 1) (h11 : KeepP pf po w0 wx) (h12 : Below T w0 wx) (h13 : T ≤ wx.heap.size) (htf : T ≤ pf) (hto : T ≤ po) :
    ((wx.setCell ⟨pf, 0, none⟩ (.int .i64 (f1 : Int))).cell? ⟨pf, 0, none⟩ = some (.int .i64 (f1 : Int)) ∧ (wx.setCell ⟨pf, 0, none⟩ (.int .i64 (f1 : Int))).cell? ⟨po, 0, none⟩ = some (.slice (some ⟨g, 0, none⟩) (n1 + 1) c) ∧
      (wx.setCell ⟨pf, 0, none⟩ (.int .i64 (f1 : Int))).cell? ⟨g, n1, none⟩ = some (.int .u8 (y : Int)) ∧ (wx.setCell ⟨pf, 0, none⟩ (.int .i64 (f1 : Int))).frozen? ⟨g, n1, none⟩ = false) ∧
    ∀ k, Pst (((wx.setCell ⟨pf, 0, none⟩ (.int .i64 (f1 : Int))).setCell ⟨g, n1, none⟩ (.int .u8 ((y + x * 2 ^ f1 : Nat) : Int))).drewN k) T pf po (L ++ [x]) ∧ KeepP pf po w0 (((wx.setCell ⟨pf, 0, none⟩ (.int .i64 (f1 : Int))).setCell ⟨g, n1, none⟩ (.int .u8 ((y + x * 2 ^ f1 : Nat) : Int))).drewN k) ∧
      Below T w0 (((wx.setCell ⟨pf, 0, none⟩ (.int .i64 (f1 : Int))).setCell ⟨g, n1, none⟩ (.int .u8 ((y + x * 2 ^ f1 : Nat) : Int))).drewN k) := by
  have hne : pf ≠ po := Blk.ne_ h1 h2 (by decide)
  have a1 : Blk (wx.setCell ⟨pf, 0, none⟩ (.int .i64 (f1 : Int))) pf 3 #[.int .i64 (f1 : Int)] := by
    have := h1.set_ 0 (.int .i64 (f1 : Int))
    simpa using this
  have a2 : Blk (wx.setCell ⟨pf, 0, none⟩ (.int .i64 (f1 : Int))) po 22 _ := h2.far (p := ⟨pf, 0, none⟩) (fun e => hne e.symm) _
  have a3 := own_set_other h3 (a := ⟨pf, 0, none⟩) (own_blk_ne h3 h1 (by decide)) (.int .i64 (f1 : Int))
  have hlt : n1 < B.length := by omega
  have hgp : pf ≠ g := fun e => own_blk_ne a3 a1 (by decide) (by rw [e]; rfl)
  have hgo : po ≠ g := fun e => own_blk_ne a3 a2 (by decide) (by rw [e]; rfl)
  have hTg : T ≤ g := (a3.lt g rfl).1
  obtain ⟨u, hu, hfz, _⟩ := own_cell a3 (i := n1) (by omega)
  have hcy := a3.cellAt n1 (by omega)
  have e5 : (U B)[n1]? = some (.int .u8 (y : Int)) := by
    rw [h7]
    simp [U, List.getElem?_map, List.getElem?_eq_getElem hlt, List.getD_eq_getElem?_getD]
  rw [e5] at hcy
  refine ⟨⟨by rw [a1.cell]; rfl, by rw [a2.cell]; rfl, hcy, hfz⟩, fun k => ?_⟩
  have b1 : Blk ((wx.setCell ⟨pf, 0, none⟩ (.int .i64 (f1 : Int))).setCell ⟨g, n1, none⟩ (.int .u8 ((y + x * 2 ^ f1 : Nat) : Int))) pf 3 _ := a1.far (p := ⟨g, n1, none⟩) hgp _
  have b2 : Blk ((wx.setCell ⟨pf, 0, none⟩ (.int .i64 (f1 : Int))).setCell ⟨g, n1, none⟩ (.int .u8 ((y + x * 2 ^ f1 : Nat) : Int))) po 22 _ := a2.far (p := ⟨g, n1, none⟩) hgo _
  have b3 := own_set (i := n1) a3 (.int .u8 ((y + x * 2 ^ f1 : Nat) : Int))
  have e6 : (U B).set n1 (.int .u8 ((y + x * 2 ^ f1 : Nat) : Int)) = U (pack (L ++ [x])) := by
    rw [← h8]
    have e7 : ((UInt8.ofNat (y + x * 2 ^ f1)).toNat : Int) = ((y + x * 2 ^ f1 : Nat) : Int) := by
      simp only [UInt8.toNat_ofNat']
      omega
    simp only [U, List.map_set, e7]
  rw [e6] at b3
  refine ⟨⟨_, n1 + 1, c, f1, b1, b2, b3, fun z hz => ?_, by simp; omega, htf, hto, by simpa using h13⟩, fun g' t cs q1 q2 q3 z => ?_, ?_⟩
  · simp only [List.mem_append, List.mem_singleton] at hz
    rcases hz with hz | rfl
    · exact hle z hz
    · exact hx
  · have z1 := (h11 g' t cs q1 q2 q3 z).far (p := ⟨pf, 0, none⟩) q1 (.int .i64 (f1 : Int))
    exact z1.far (p := ⟨g, n1, none⟩) (fun e => own_blk_ne a3 z1 (fun e2 => q3 e2.symm) (by rw [e]; rfl)) _
  · have := (h12.setCell (p := ⟨pf, 0, none⟩) htf (.int .i64 (f1 : Int))).setCell (p := ⟨g, n1, none⟩) hTg (.int .u8 ((y + x * 2 ^ f1 : Nat) : Int))
    exact ⟨this.os, this.tape, this.output, this.size, this.block⟩
theorem orbit_ (f y x : Nat) (hf : f ≤ 7) (hy : y < 256) (hx : x ≤ 1) (h : y % 2 ^ (f + 1) = 0) : y + x * 2 ^ f < 256 ∧ y ||| (x * 2 ^ f) = y + x * 2 ^ f := by
  have key : ∀ f, f < 8 → ∀ y, y < 256 → ∀ x, x < 2 → (y % 2 ^ (f + 1) = 0 → y + x * 2 ^ f < 256 ∧ y ||| (x * 2 ^ f) = y + x * 2 ^ f) := by decide +kernel
  exact key f (by omega) y hy x (by omega) h
theorem and1 (q : Nat) : q &&& 1 = q % 2 := Nat.and_one_is_mod q
set_option maxHeartbeats 2000000 in
theorem put_any (w : World) (T pf po v n0 : Nat) (L : List Nat) (hs : Pst w T pf po L) (hv : v ≤ 1000000000) (hn : n0 ≤ 40) (hL : L.length ≤ 10000000) :
    Calls Tryd.prog 78 #[.int .i64 v, .int .i64 n0, .pointer (some ⟨pf, 0, none⟩), .pointer (some ⟨po, 0, none⟩)] w fun e w' => PutPost w T pf po (L ++ bits v n0) e w' := by
  obtain ⟨i5, hi5, hz50, hz51, hz52⟩ := info_parts info5
  have HS := Lib.hid hs
  clear hs
  go_enter Tryd.func78, Tryd.ntmps78
  go_wp2_with fail
  go_loopw [6] (fun vi wr => PutRel w T pf po v n0 L vi wr) (fun vi _ => (intOf vi + 1).toNat)
  case atStart => exact ⟨n0, Nat.le_refl _, by go_num, ⟨[], by simp, by unfold Hid; simpa using HS.out, by simp [Hid]⟩, KeepP.refl _ _ _, Below.refl _ _⟩
  case round =>
    obtain ⟨k, hk, rfl, ⟨M, hM, HP, HM⟩, HK, HB⟩ := hrel
    by_cases hk0 : k = 0
    · subst hk0
      have he : Hid (L ++ M = L ++ bits v n0) := by
        unfold Hid
        rw [← HM.out]
        simp [bits]
      clear hM
      go_wp2_with fail
      go_end0
      rw [← he.out]
      exact ⟨rfl, HP.out, HK.out, HB.out⟩
    · obtain ⟨j, rfl⟩ : ∃ j, k = j + 1 := ⟨k - 1, by omega⟩
      have ej : ((j + 1 : Nat) : Int) - 1 = (j : Int) := by omega
      have hLM : (L ++ M).length ≤ 100000000 := by simp; omega
      have HMl := Lib.hid hM
      have HLM := Lib.hid hLM
      obtain ⟨A, n, c, fr, s⟩ := HP.out
      have hcf := s.bF.cell 0
      have hco := s.bO.cell 0
      simp at hcf hco
      have hff := s.bF.frozen 0
      have hfo := s.bO.frozen 0
      obtain ⟨x, hx⟩ : ∃ x, x = v / 2 ^ j % 2 := ⟨_, rfl⟩
      have hx1 : x ≤ 1 := by omega
      have HX := Lib.hid hx
      have HS2 := Lib.hid s
      have hfr7 := s.fr8.2
      have hnb : n ≤ 20000000 := by have := s.len; omega
      have htt : T ≤ pf ∧ T ≤ po ∧ T ≤ wr.heap.size := ⟨s.tf, s.to_, s.hT⟩
      have hle1 : Hid (∀ y ∈ L ++ M, y ≤ 1) := s.le1
      obtain ⟨M2, hM2⟩ : ∃ m, m = L ++ M := ⟨_, rfl⟩
      rw [← hM2] at HS2 hle1
      have HM2 := Lib.hid hM2
      obtain ⟨htf, hto, hTw⟩ := htt
      clear s hM hLM hx hM2
      rw [ej]
      go_upto_if 14 with fail
      go_cut [] from 9 to 34 (fun wx => Mid wr T pf po M2 x wx)
      case first =>
        by_cases hf0 : fr = 0
        · have hfb : ((fr : Int) == 0) = true := beq_iff_eq.2 (by omega)
          subst hf0
          go_wp2_with (first
            | (at_builtin
               refine wpList_push wr rfl (.tmp 15) (.tmp 16) 22 rfl T 5 i5 (.int .u8 0) 1 Tryd.underlying22 hi5 hz50 hz51 hz52 rfl A n c (U (pack M2)) rfl HS2.out.own (.int .u8 0) _ rfl rfl (by omega) (by unfold maxLen; omega) hTw ?_
               intro A2 c2 w2 hown2 hg2
               obtain ⟨⟨b1, b2⟩, ⟨b3, b4⟩, b5⟩ := mid_new (x := x) HS2.out (by rw [HM2.out]; exact HLM.out) hown2 hg2
               have B5 := Lib.hid b5
               clear hown2 hg2 b5)
            | fail)
          go_meet
          case rel => exact B5.out
        · have hfb : ((fr : Int) == 0) = false := beq_eq_false_iff_ne.2 (by omega)
          have HMO := Lib.hid (mid_old (x := x) HS2.out hf0 (by rw [HM2.out]; exact HLM.out))
          go_wp2_with fail
          go_meet
          case rel => exact HMO.out
      case rest =>
        clear hcf hco hff hfo HS2 HP hfr7 hnb hTw
        obtain ⟨g, n1, c1, f1, y, B, H1, H2, H3, H4, H5, H6, H7, H8, H9, H10, H11, H12, H13⟩ := hcut
        have hyb : y < 256 := by rw [H7.out]; exact UInt8.toNat_lt _
        obtain ⟨hob, hor⟩ := orbit_ f1 y x H5 hyb hx1 H9.out
        obtain ⟨⟨k1, k2, k3, k4⟩, k5⟩ := mid_end hx1 H1.out H2.out H3.out H4.out H7.out H8.out hob H10.out hle1.out H11.out H12.out H13.out htf hto
        have K5 := Lib.hid k5
        have hcf := H1.out.cell 0
        simp at hcf
        have hff := H1.out.frozen 0
        obtain ⟨f8, hf8⟩ : ∃ z, z = f1 + 1 := ⟨_, rfl⟩
        have ef8 : (f1 : Int) + 1 = (f8 : Int) := by omega
        have ef1 : (f8 : Int) - 1 = (f1 : Int) := by omega
        rw [ef8] at hcf
        have en1 : ((n1 + 1 : Nat) : Int) - 1 = (n1 : Int) := by omega
        obtain ⟨q, hq⟩ : ∃ q, q = v / 2 ^ j := ⟨_, rfl⟩
        have eq1 : (v : Int) / 2 ^ j = (q : Int) := by rw [hq]; simp
        have hqb : q ≤ 1000000000 := by rw [hq]; exact Nat.le_trans (Nat.div_le_self _ _) hv
        have eq2 : Go.bits .and .i64 (q : Int) 1 = (x : Int) := by
          have := and_i64 q 1 (by omega) (by omega)
          rw [and1] at this
          have e : q % 2 = x := by rw [hq, HX.out]
          rw [e] at this
          exact this
        have eq3 : IntKind.u8.wrap (x : Int) = (x : Int) := wraps_u8 _ (by omega) (by omega)
        obtain ⟨z, hz⟩ : ∃ z, z = x * 2 ^ f1 := ⟨_, rfl⟩
        rw [← hz] at hob hor K5
        have eq4 : IntKind.u8.wrap ((x : Int) * 2 ^ f1) = (z : Int) := by
          have : (x : Int) * 2 ^ f1 = (z : Int) := by rw [hz]; simp
          rw [this]
          exact wraps_u8 _ (by omega) (by omega)
        obtain ⟨t, ht⟩ : ∃ t, t = y + z := ⟨_, rfl⟩
        have eq5 : Go.bits .or .u8 (y : Int) (z : Int) = (t : Int) := by
          have := or_u8 y z (by omega) (by omega)
          rw [hor, ← ht] at this
          exact this
        rw [← ht] at K5
        clear hz ht hq hf8 hor H1 H2 H3 k5
        go_wp2_with fail
        go_region
        have hp6 : Pst (((wc.setCell ⟨pf, 0, none⟩ (.int .i64 (f1 : Int))).setCell ⟨g, n1, none⟩ (.int .u8 (t : Int))).drew) T pf po (M2 ++ [x]) ∧ KeepP pf po wr (((wc.setCell ⟨pf, 0, none⟩ (.int .i64 (f1 : Int))).setCell ⟨g, n1, none⟩ (.int .u8 (t : Int))).drew) ∧ Below T wr (((wc.setCell ⟨pf, 0, none⟩ (.int .i64 (f1 : Int))).setCell ⟨g, n1, none⟩ (.int .u8 (t : Int))).drew) := K5.out 1
        have HP6 := Lib.hid hp6
        clear hp6 K5 k1 k2 k3 k4 hcf hff
        generalize ((wc.setCell ⟨pf, 0, none⟩ (.int .i64 (f1 : Int))).setCell ⟨g, n1, none⟩ (.int .u8 (t : Int))).drew = w9 at *
        have HM9 : Hid ((M ++ [x]) ++ bits v j = bits v n0) := by
          unfold Hid
          rw [← HM.out, bits, ← HX.out, List.append_assoc]
          rfl
        have HL9 : Hid ((M ++ [x]).length = n0 - j) := by
          unfold Hid
          have := HMl.out
          simp
          omega
        have HP9 : Hid (Pst w9 T pf po (L ++ (M ++ [x]))) := by
          have := HP6.out.1
          rw [HM2.out, List.append_assoc] at this
          exact this
        go_wp2_with fail
        go_roundw
        case rel => exact ⟨j, by omega, by go_num, ⟨M ++ [x], HL9.out, HP9, HM9⟩, HK.out.trans HP6.out.2.1, HB.out.trans HP6.out.2.2⟩
        case measure => simp [intOf]
end Go.Proofs.YtejgoienkpaabaaDoor
