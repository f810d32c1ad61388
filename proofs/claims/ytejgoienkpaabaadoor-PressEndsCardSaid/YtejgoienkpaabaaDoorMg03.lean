/- Cop (merged: one text behind the other). -/
import Derived.Test.YtejgoienkpaabaaDoorMg02
/- The contract of press.copied. -/
namespace Go.Proofs.YtejgoienkpaabaaDoor
open Go.RowKit
set_option maxRecDepth 100000
/-- only block ga, and what lies from base on, has turned -/
structure Fr (ga base : Nat) (w w' : World) : Prop where
  os : w'.os = w.os
  tape : w'.tape = w.tape
  output : w'.output = w.output
  size : w.heap.size ≤ w'.heap.size
  block : ∀ k, k < base → k ≠ ga → w'.heap[k]? = w.heap[k]?
theorem Fr.refl (ga base : Nat) (w : World) : Fr ga base w w := ⟨rfl, rfl, rfl, Nat.le_refl _, fun _ _ _ => rfl⟩
theorem Fr.trans {ga base : Nat} {a b c : World} (h : Fr ga base a b) (k : Fr ga base b c) : Fr ga base a c :=
  ⟨k.os.trans h.os, k.tape.trans h.tape, k.output.trans h.output, Nat.le_trans h.size k.size, fun i hi hn => (k.block i hi hn).trans (h.block i hi hn)⟩
theorem Fr.of_ga {ga base : Nat} {w w' : World} (h : w.grownBy w' (some ga)) (hs : base ≤ w.heap.size) : Fr ga base w w' :=
  ⟨h.os, h.tape, h.output, h.size, fun k hk hn => h.block k (by omega) (by simpa using hn)⟩
theorem Fr.of_row {ga base : Nat} {w w' : World} {row : Option Nat} (h : w.grownBy w' row) (hs : base ≤ w.heap.size) (hr : ∀ k, row = some k → base ≤ k) : Fr ga base w w' :=
  ⟨h.os, h.tape, h.output, h.size, fun k hk _ => h.block k (by omega) (fun e => by have := hr k e.symm; omega)⟩
theorem Fr.below {ga base B : Nat} {w w' : World} (h : Fr ga base w w') (h1 : B ≤ ga) (h2 : ga < base) : Below B w w' :=
  ⟨h.os, h.tape, h.output, h.size, fun k hk => h.block k (by omega) (by omega)⟩
theorem Fr.blk {ga base : Nat} {w w' : World} (h : Fr ga base w w') {g : Nat} {t : TypeId} {cs : Array Value} (hb : Blk w g t cs) (h1 : g < base) (h2 : g ≠ ga) : Blk w' g t cs := (h.block g h1 h2).trans hb
theorem own_gb_ga {w w' : World} {base : Nat} {e : TypeId} {size : Nat} {v : Value} {n : Nat} {xs : List Value} {ga : Nat} (h : w.ownsRow base e size v n xs) (hg : w.grownBy w' (some ga)) (hga : ga < base) : w'.ownsRow base e size v n xs := by
  refine h.kept hg ?_
  cases hv : v.ownBlock with
  | none => exact .inl rfl
  | some q => exact .inr (by have := (h.lt q hv).1; simp; omega)
theorem pow_cast (e : Nat) (h : e ≤ 20) : IntKind.i64.wrap (2 ^ e) = ((2 ^ e : Nat) : Int) := by
  have hp : 2 ^ e ≤ 1048576 := Nat.pow_le_pow_right (by decide) (show e ≤ 20 from h)
  have e1 : ((2 : Int) ^ e) = ((2 ^ e : Nat) : Int) := by simp
  rw [e1]
  generalize 2 ^ e = z at *
  exact wraps_i64 _ (by omega) (by omega)
theorem nbits_lt (bs : List UInt8) : ∀ (k v p x p' : Nat), nbits bs k v p = some (x, p') → x < (v + 1) * 2 ^ k := by
  intro k
  induction k with
  | zero => intro v p x p' h; simp [nbits] at h; omega
  | succ k ih =>
    intro v p x p' h
    rw [nbits] at h
    split at h
    · cases h
    · have h1 := ih _ _ _ _ h
      have h2 := bitOf_le bs p
      have h3 : (2 * v + bitOf bs p + 1) * 2 ^ k ≤ (2 * (v + 1)) * 2 ^ k := Nat.mul_le_mul_right _ (by omega)
      rw [Nat.pow_succ, ← Nat.mul_assoc, Nat.mul_right_comm, Nat.mul_comm (v + 1) 2]
      omega
def CopPost (w : World) (ga gb h o cap base : Nat) (bs : List UInt8) (r : Option (List UInt8 × Nat)) (e : Ending) (w' : World) : Prop :=
  Fr ga base w w' ∧
  ((∃ out p' A c, r = some (out, p') ∧ e = .returned (.tuple #[.slice A out.length c, .bool true]) ∧ Bits w' ga gb h o cap bs p' ∧ w'.ownsRow base 5 1 (.slice A out.length c) out.length (U out)) ∨
   (r = none ∧ e = .returned (.tuple #[.slice none 0 0, .bool false])))

def CopRel (w : World) (ga gb h o cap base : Nat) (bs : List UInt8) (back long p : Nat) (out : List UInt8) (v0 vi : Value) (wr : World) : Prop :=
  ∃ (i L c : Nat) (A : Option Addr), i ≤ long ∧ Hid (L = out.length + i) ∧ vi = .int .i64 i ∧ v0 = .slice A L c ∧ Hid (wr.ownsRow base 5 1 (.slice A L c) L (U (copyOut i back out))) ∧ Hid (Bits wr ga gb h o cap bs p) ∧ Hid (Fr ga base w wr)
set_option maxHeartbeats 2000000 in
theorem copied_any (B gd ga gb gf h o cap base : Nat) (C : Nat → Nat) (ln : List Nat) (bs : List UInt8) (n k m c : Nat) (A : Option Addr) (out : List UInt8) (p : Nat) (w : World)
    (hk : BookR w B gd C ln) (b : Bits w ga gb h o cap bs p) (hf : Blk w gf 91 #[.func (.func 45) #[] #[.pointer (some ⟨ga, 0, none⟩), .pointer (some ⟨gb, 0, none⟩)]])
    (h1 : B ≤ ga) (h2 : ga < gf) (h3 : gf < base) (h4 : base ≤ w.heap.size) (hk20 : k ≤ 20) (hm : m = out.length) (hn : m ≤ n) (hn2 : n ≤ 100000) (hln : ∀ i, ln.getD i 0 ≤ 17)
    (hown : w.ownsRow base 5 1 (.slice A m c) m (U out)) :
    Calls Tryd.prog 48 #[.slice A m c, .int .i64 n, .int .i64 k, .pointer (some ⟨gd, 0, none⟩), .func (.func 45) #[] #[.pointer (some ⟨ga, 0, none⟩), .pointer (some ⟨gb, 0, none⟩)], .func (.func 46) #[] #[.pointer (some ⟨gf, 0, none⟩)]] w
      fun e w' => CopPost w ga gb h o cap base bs (copiedP C ln bs n k out p) e w' := by
  have HK := Lib.hid hk
  have HB := Lib.hid b
  have HF := Lib.hid hf
  have HM := Lib.hid hm
  have HO := Lib.hid hown
  have HL := Lib.hid hln
  have hga : ga < w.heap.size := by omega
  clear hk b hf hm hown hln
  obtain ⟨i0, hi, hz0, hz1, hz2⟩ := info_parts info5
  by_cases hk8 : k < 8
  · obtain ⟨long, hlong⟩ : ∃ long, long = 3 + k := ⟨_, rfl⟩
    have el : (3 : Int) + (k : Int) = (long : Int) := by omega
    obtain ⟨p1, hp1⟩ : ∃ p1, p1 = p := ⟨_, rfl⟩
    have HX1 : Hid (extra bs 8 5 3 k p = some (long, p1)) := by show _ = _; rw [extra, if_pos hk8, hlong, hp1]
    have HFr1 : Hid (Fr ga base w w) := Fr.refl _ _ _
    have HB1 := HB
    rw [← hp1] at HB1
    have HO1 := HO
    clear hlong hp1
    go_enter Tryd.func48, Tryd.ntmps48
    have HK1 := Lib.hid (HK.out.keep (HFr1.out.below h1 (by omega)))
    obtain ⟨A', lc, hA, _⟩ := HK1.out.line
    by_cases hn0 : ln.length = 0
    · have hnb : ((ln.length : Int) == 0) = true := beq_iff_eq.2 (by omega)
      have HN0 := Lib.hid hn0
      clear hn0
      go_wp2_with fail
      go_ret2
      exact ⟨HFr1.out, .inr ⟨by rw [copiedP, HX1.out, Option.bind_some, if_pos HN0.out], rfl⟩⟩
    · have hnb : ((ln.length : Int) == 0) = false := beq_eq_false_iff_ne.2 (by omega)
      have HN0 := Lib.hid hn0
      clear hn0
      go_wp2_with fail
      refine (next_any B gd ga gb h o cap C ln bs p1 _ HK1.out HB1.out h1).mono ?_
      rintro e2 w2 ⟨hg2, (⟨i, p2, hi2, hil, rfl, hb2⟩ | ⟨hi2, rfl⟩)⟩
      · have HI := Lib.hid hi2
        obtain ⟨y, hy⟩ : ∃ y, y = ln.getD i 0 := ⟨_, rfl⟩
        have hy17 : y ≤ 17 := by rw [hy]; exact HL.out i
        rw [← hy]
        have HY := Lib.hid hy
        have HFr2 := Lib.hid (HFr1.out.trans (Fr.of_ga hg2 (by have := HFr1.out.size; omega)))
        have HB2 := Lib.hid hb2
        have HO2 := Lib.hid (own_gb_ga HO1.out hg2 (by omega))
        clear hi2 hy hg2 hb2
        by_cases hy4 : y < 4
        · obtain ⟨back, hback⟩ : ∃ back, back = 1 + y := ⟨_, rfl⟩
          obtain ⟨p3, hp3⟩ : ∃ p3, p3 = p2 := ⟨_, rfl⟩
          have eb : (1 : Int) + (y : Int) = (back : Int) := by omega
          have HX2 : Hid (extra bs 4 2 1 (ln.getD i 0) p2 = some (back, p3)) := by show _ = _; rw [← HY.out, extra, if_pos hy4, hback, hp3]
          have HFr := HFr2
          have HOq := HO2
          have HBq := HB2
          rw [← hp3] at HBq
          clear hback hp3
          by_cases hb1 : m < back
          · have hbt : decide ((m : Int) < (back : Int)) = true := by simp; omega
            go_wp2_with fail
            go_ret2
            exact ⟨HFr.out, .inr ⟨by rw [copiedP, HX1.out, Option.bind_some, if_neg HN0.out, HI.out, Option.bind_some, HX2.out, Option.bind_some, if_pos (.inl (by rw [← HM.out]; exact hb1))], rfl⟩⟩
          · have hbt : decide ((m : Int) < (back : Int)) = false := by simp; omega
            by_cases hl1 : n - m < long
            · have hlt : decide ((n : Int) - (m : Int) < (long : Int)) = true := by simp; omega
              go_wp2_with fail
              go_ret2
              exact ⟨HFr.out, .inr ⟨by rw [copiedP, HX1.out, Option.bind_some, if_neg HN0.out, HI.out, Option.bind_some, HX2.out, Option.bind_some, if_pos (.inr (by rw [← HM.out]; exact hl1))], rfl⟩⟩
            · have hlt : decide ((n : Int) - (m : Int) < (long : Int)) = false := by simp; omega
              have HE : Hid (copiedP C ln bs n k out p = some (copyOut long back out, p3)) := by
                show _ = _
                rw [copiedP, HX1.out, Option.bind_some, if_neg HN0.out, HI.out, Option.bind_some, HX2.out, Option.bind_some, if_neg (by rw [← HM.out]; omega)]
              go_wp2_with fail
              go_loopw [0, 87] (fun v0 vi wr => CopRel w ga gb h o cap base bs back long p3 out v0 vi wr) (fun _ vi _ => long - (intOf vi).toNat)
              case atStart => exact ⟨0, m, c, A, by omega, HM, rfl, rfl, HOq, HBq, HFr⟩
              case round =>
                obtain ⟨i1, L, c1, A1, hi1, hL, rfl, rfl, ho1, hb5, hf5⟩ := hrel
                by_cases hlt1 : i1 < long
                · obtain ⟨g1, cap1, hv1, hgb1, hglt⟩ := ho1.out.form (by have := hL.out; have := HM.out; omega)
                  injection hv1 with hv1 hv2 hv3
                  subst hv1 hv3
                  obtain ⟨j, hj⟩ : ∃ j, j = L - back := ⟨_, rfl⟩
                  have hLm : m ≤ L := by have := hL.out; have := HM.out; omega
                  have hLb : L ≤ 200000 := by have := hL.out; have := HM.out; omega
                  have hjL : (j : Int) < L := by omega
                  have ej : ((L : Int) - (back : Int)).toNat = j := by omega
                  have hcl := copyOut_length i1 back out
                  obtain ⟨x, hx⟩ : ∃ x : Nat, x = ((copyOut i1 back out).getD j 0).toNat := ⟨_, rfl⟩
                  have hcell : wr.cell? ⟨g1, j, none⟩ = some (.int .u8 (x : Int)) := by
                    rw [ho1.out.cellAt j (by omega), U_get, hx]
                    have hjl : j < (copyOut i1 back out).length := by have := hL.out; omega
                    rw [List.getElem?_eq_getElem hjl, List.getD_eq_getElem?_getD, List.getElem?_eq_getElem hjl]
                    rfl
                  have hjlit : Hid (j = (copyOut i1 back out).length - back) := by show _ = _; rw [hj, hcl]; have := hL.out; omega
                  have HX := Lib.hid hx
                  have hsz : base ≤ wr.heap.size := by have := hf5.out.size; omega
                  clear hx hj hcl
                  go_wp2_with (first
                    | (at_builtin
                       refine wpList_push wr rfl (.tmp 89) (.tmp 97) 22 rfl base 5 i0 (.int .u8 0) 1 Tryd.underlying22 hi hz0 hz1 hz2 rfl (some ⟨g1, 0, none⟩) L c1 (U (copyOut i1 back out)) rfl ho1.out (.int .u8 (x : Int)) _ rfl rfl (by omega) (by unfold maxLen; omega) hsz ?_
                       intro A2 c2 w5 hown5 hg5)
                    | fail)
                  go_roundw
                  case rel =>
                    have hr5 : ∀ q, (Value.slice (some ⟨g1, 0, none⟩) L c1).ownBlock = some q → base ≤ q := fun q hq => (ho1.out.lt q hq).1
                    refine ⟨i1 + 1, L + 1, c2, A2, by omega, by show _ = _; rw [hL.out]; omega, by go_num, rfl, ?_, hb5.out.gb hg5 (fun q hq => by have := hr5 q hq; omega), hf5.out.trans (Fr.of_row hg5 hsz hr5)⟩
                    show World.ownsRow _ _ _ _ _ _ _
                    rw [copyOut, U_append, ← hjlit.out]
                    have := HX.out
                    simpa [U, this] using hown5
                  case measure => simp [intOf]; omega
                · go_wp2_with fail
                  go_ret2
                  have e1 : i1 = long := by omega
                  subst e1
                  have e2 : L = (copyOut i1 back out).length := by rw [copyOut_length]; exact hL.out
                  subst e2
                  exact ⟨hf5.out, .inl ⟨copyOut i1 back out, p3, A1, c1, HE.out, rfl, hb5.out, ho1.out⟩⟩
        · obtain ⟨e2, he2⟩ : ∃ e2, y = e2 + 2 := ⟨y - 2, by omega⟩
          rw [he2] at hy4 hy17
          have HE2 := Lib.hid he2
          subst he2
          go_wp2_with fail
          refine (bits_any gf ga gb h o cap bs e2 p2 _ (HFr2.out.blk HF.out (by omega) (by omega)) HB2.out (by omega)).mono ?_
          rintro e' w3 ⟨hg3, (⟨x3, p3, hx3, rfl, hb3⟩ | ⟨hx3, rfl⟩)⟩
          · have HX3 := Lib.hid hx3
            have hx3l := nbits_lt bs e2 0 p2 x3 p3 hx3
            obtain ⟨z3, hz3⟩ : ∃ z3, z3 = 2 ^ e2 := ⟨_, rfl⟩
            have hz3b : z3 ≤ 32768 := by rw [hz3]; exact Nat.pow_le_pow_right (by decide) (show e2 ≤ 15 by omega)
            have hpz := pow_cast e2 (by omega)
            rw [← hz3] at hpz hx3l
            obtain ⟨back, hback⟩ : ∃ back, back = 1 + z3 + x3 := ⟨_, rfl⟩
            have eb : (1 : Int) + (z3 : Int) + (x3 : Int) = (back : Int) := by omega
            have HX2 : Hid (extra bs 4 2 1 (ln.getD i 0) p2 = some (back, p3)) := by
              show _ = _
              rw [← HY.out, extra, if_neg hy4, Nat.add_sub_cancel, HX3.out, hback, hz3]
              rfl
            have HFr := Lib.hid (HFr2.out.trans (Fr.of_ga hg3 (by have := HFr2.out.size; omega)))
            have HOq := Lib.hid (own_gb_ga HO2.out hg3 (by omega))
            have HBq := Lib.hid hb3
            clear hx3 hback hz3 hg3 hb3
            by_cases hb1 : m < back
            · have hbt : decide ((m : Int) < (back : Int)) = true := by simp; omega
              go_wp2_with fail
              go_ret2
              exact ⟨HFr.out, .inr ⟨by rw [copiedP, HX1.out, Option.bind_some, if_neg HN0.out, HI.out, Option.bind_some, HX2.out, Option.bind_some, if_pos (.inl (by rw [← HM.out]; exact hb1))], rfl⟩⟩
            · have hbt : decide ((m : Int) < (back : Int)) = false := by simp; omega
              by_cases hl1 : n - m < long
              · have hlt : decide ((n : Int) - (m : Int) < (long : Int)) = true := by simp; omega
                go_wp2_with fail
                go_ret2
                exact ⟨HFr.out, .inr ⟨by rw [copiedP, HX1.out, Option.bind_some, if_neg HN0.out, HI.out, Option.bind_some, HX2.out, Option.bind_some, if_pos (.inr (by rw [← HM.out]; exact hl1))], rfl⟩⟩
              · have hlt : decide ((n : Int) - (m : Int) < (long : Int)) = false := by simp; omega
                have HE : Hid (copiedP C ln bs n k out p = some (copyOut long back out, p3)) := by
                  show _ = _
                  rw [copiedP, HX1.out, Option.bind_some, if_neg HN0.out, HI.out, Option.bind_some, HX2.out, Option.bind_some, if_neg (by rw [← HM.out]; omega)]
                go_wp2_with fail
                go_loopw [0, 87] (fun v0 vi wr => CopRel w ga gb h o cap base bs back long p3 out v0 vi wr) (fun _ vi _ => long - (intOf vi).toNat)
                case atStart => exact ⟨0, m, c, A, by omega, HM, rfl, rfl, HOq, HBq, HFr⟩
                case round =>
                  obtain ⟨i1, L, c1, A1, hi1, hL, rfl, rfl, ho1, hb5, hf5⟩ := hrel
                  by_cases hlt1 : i1 < long
                  · obtain ⟨g1, cap1, hv1, hgb1, hglt⟩ := ho1.out.form (by have := hL.out; have := HM.out; omega)
                    injection hv1 with hv1 hv2 hv3
                    subst hv1 hv3
                    obtain ⟨j, hj⟩ : ∃ j, j = L - back := ⟨_, rfl⟩
                    have hLm : m ≤ L := by have := hL.out; have := HM.out; omega
                    have hLb : L ≤ 200000 := by have := hL.out; have := HM.out; omega
                    have hjL : (j : Int) < L := by omega
                    have ej : ((L : Int) - (back : Int)).toNat = j := by omega
                    have hcl := copyOut_length i1 back out
                    obtain ⟨x, hx⟩ : ∃ x : Nat, x = ((copyOut i1 back out).getD j 0).toNat := ⟨_, rfl⟩
                    have hcell : wr.cell? ⟨g1, j, none⟩ = some (.int .u8 (x : Int)) := by
                      rw [ho1.out.cellAt j (by omega), U_get, hx]
                      have hjl : j < (copyOut i1 back out).length := by have := hL.out; omega
                      rw [List.getElem?_eq_getElem hjl, List.getD_eq_getElem?_getD, List.getElem?_eq_getElem hjl]
                      rfl
                    have hjlit : Hid (j = (copyOut i1 back out).length - back) := by show _ = _; rw [hj, hcl]; have := hL.out; omega
                    have HX := Lib.hid hx
                    have hsz : base ≤ wr.heap.size := by have := hf5.out.size; omega
                    clear hx hj hcl
                    go_wp2_with (first
                      | (at_builtin
                         refine wpList_push wr rfl (.tmp 89) (.tmp 97) 22 rfl base 5 i0 (.int .u8 0) 1 Tryd.underlying22 hi hz0 hz1 hz2 rfl (some ⟨g1, 0, none⟩) L c1 (U (copyOut i1 back out)) rfl ho1.out (.int .u8 (x : Int)) _ rfl rfl (by omega) (by unfold maxLen; omega) hsz ?_
                         intro A2 c2 w5 hown5 hg5)
                      | fail)
                    go_roundw
                    case rel =>
                      have hr5 : ∀ q, (Value.slice (some ⟨g1, 0, none⟩) L c1).ownBlock = some q → base ≤ q := fun q hq => (ho1.out.lt q hq).1
                      refine ⟨i1 + 1, L + 1, c2, A2, by omega, by show _ = _; rw [hL.out]; omega, by go_num, rfl, ?_, hb5.out.gb hg5 (fun q hq => by have := hr5 q hq; omega), hf5.out.trans (Fr.of_row hg5 hsz hr5)⟩
                      show World.ownsRow _ _ _ _ _ _ _
                      rw [copyOut, U_append, ← hjlit.out]
                      have := HX.out
                      simpa [U, this] using hown5
                    case measure => simp [intOf]; omega
                  · go_wp2_with fail
                    go_ret2
                    have e1 : i1 = long := by omega
                    subst e1
                    have e2 : L = (copyOut i1 back out).length := by rw [copyOut_length]; exact hL.out
                    subst e2
                    exact ⟨hf5.out, .inl ⟨copyOut i1 back out, p3, A1, c1, HE.out, rfl, hb5.out, ho1.out⟩⟩
          · have HFr := Lib.hid (HFr2.out.trans (Fr.of_ga hg3 (by have := HFr2.out.size; omega)))
            have HX3 := Lib.hid hx3
            clear hg3 hx3
            go_wp2_with fail
            go_ret2
            exact ⟨HFr.out, .inr ⟨by rw [copiedP, HX1.out, Option.bind_some, if_neg HN0.out, HI.out, Option.bind_some, ← HY.out, extra, if_neg hy4, Nat.add_sub_cancel, HX3.out]; rfl, rfl⟩⟩
      · have HI := Lib.hid hi2
        have HFr2 := Lib.hid (HFr1.out.trans (Fr.of_ga hg2 (by have := HFr1.out.size; omega)))
        clear hi2 hg2
        go_wp2_with fail
        go_ret2
        exact ⟨HFr2.out, .inr ⟨by rw [copiedP, HX1.out, Option.bind_some, if_neg HN0.out, HI.out]; rfl, rfl⟩⟩
  · obtain ⟨e, rfl⟩ : ∃ e, k = e + 5 := ⟨k - 5, by omega⟩
    go_enter Tryd.func48, Tryd.ntmps48
    go_wp2_with fail
    refine (bits_any gf ga gb h o cap bs e p _ HF.out HB.out (by omega)).mono ?_
    rintro e' w1 ⟨hg1, (⟨x, p1, hx, rfl, hb1⟩ | ⟨hx, rfl⟩)⟩
    · have HX0 := Lib.hid hx
      have hxl := nbits_lt bs e 0 p x p1 hx
      obtain ⟨z, hz⟩ : ∃ z, z = 2 ^ e := ⟨_, rfl⟩
      have hzb : z ≤ 32768 := by rw [hz]; exact Nat.pow_le_pow_right (by decide) (show e ≤ 15 by omega)
      have hpz1 := pow_cast e (by omega)
      rw [← hz] at hpz1 hxl
      obtain ⟨long, hlong⟩ : ∃ long, long = 3 + z + x := ⟨_, rfl⟩
      have el : (3 : Int) + (z : Int) + (x : Int) = (long : Int) := by omega
      have HX1 : Hid (extra bs 8 5 3 (e + 5) p = some (long, p1)) := by
        show _ = _
        rw [extra, if_neg hk8, Nat.add_sub_cancel, HX0.out, hlong, hz]
        rfl
      have HFr1 := Lib.hid (Fr.of_ga hg1 h4)
      have HB1 := Lib.hid hb1
      have HO1 := Lib.hid (own_gb_ga HO.out hg1 (by omega))
      clear hx hlong hz hg1 hb1
      have HK1 := Lib.hid (HK.out.keep (HFr1.out.below h1 (by omega)))
      obtain ⟨A', lc, hA, _⟩ := HK1.out.line
      by_cases hn0 : ln.length = 0
      · have hnb : ((ln.length : Int) == 0) = true := beq_iff_eq.2 (by omega)
        have HN0 := Lib.hid hn0
        clear hn0
        go_wp2_with fail
        go_ret2
        exact ⟨HFr1.out, .inr ⟨by rw [copiedP, HX1.out, Option.bind_some, if_pos HN0.out], rfl⟩⟩
      · have hnb : ((ln.length : Int) == 0) = false := beq_eq_false_iff_ne.2 (by omega)
        have HN0 := Lib.hid hn0
        clear hn0
        go_wp2_with fail
        refine (next_any B gd ga gb h o cap C ln bs p1 _ HK1.out HB1.out h1).mono ?_
        rintro e2 w2 ⟨hg2, (⟨i, p2, hi2, hil, rfl, hb2⟩ | ⟨hi2, rfl⟩)⟩
        · have HI := Lib.hid hi2
          obtain ⟨y, hy⟩ : ∃ y, y = ln.getD i 0 := ⟨_, rfl⟩
          have hy17 : y ≤ 17 := by rw [hy]; exact HL.out i
          rw [← hy]
          have HY := Lib.hid hy
          have HFr2 := Lib.hid (HFr1.out.trans (Fr.of_ga hg2 (by have := HFr1.out.size; omega)))
          have HB2 := Lib.hid hb2
          have HO2 := Lib.hid (own_gb_ga HO1.out hg2 (by omega))
          clear hi2 hy hg2 hb2
          by_cases hy4 : y < 4
          · obtain ⟨back, hback⟩ : ∃ back, back = 1 + y := ⟨_, rfl⟩
            obtain ⟨p3, hp3⟩ : ∃ p3, p3 = p2 := ⟨_, rfl⟩
            have eb : (1 : Int) + (y : Int) = (back : Int) := by omega
            have HX2 : Hid (extra bs 4 2 1 (ln.getD i 0) p2 = some (back, p3)) := by show _ = _; rw [← HY.out, extra, if_pos hy4, hback, hp3]
            have HFr := HFr2
            have HOq := HO2
            have HBq := HB2
            rw [← hp3] at HBq
            clear hback hp3
            by_cases hb1 : m < back
            · have hbt : decide ((m : Int) < (back : Int)) = true := by simp; omega
              go_wp2_with fail
              go_ret2
              exact ⟨HFr.out, .inr ⟨by rw [copiedP, HX1.out, Option.bind_some, if_neg HN0.out, HI.out, Option.bind_some, HX2.out, Option.bind_some, if_pos (.inl (by rw [← HM.out]; exact hb1))], rfl⟩⟩
            · have hbt : decide ((m : Int) < (back : Int)) = false := by simp; omega
              by_cases hl1 : n - m < long
              · have hlt : decide ((n : Int) - (m : Int) < (long : Int)) = true := by simp; omega
                go_wp2_with fail
                go_ret2
                exact ⟨HFr.out, .inr ⟨by rw [copiedP, HX1.out, Option.bind_some, if_neg HN0.out, HI.out, Option.bind_some, HX2.out, Option.bind_some, if_pos (.inr (by rw [← HM.out]; exact hl1))], rfl⟩⟩
              · have hlt : decide ((n : Int) - (m : Int) < (long : Int)) = false := by simp; omega
                have HE : Hid (copiedP C ln bs n (e + 5) out p = some (copyOut long back out, p3)) := by
                  show _ = _
                  rw [copiedP, HX1.out, Option.bind_some, if_neg HN0.out, HI.out, Option.bind_some, HX2.out, Option.bind_some, if_neg (by rw [← HM.out]; omega)]
                go_wp2_with fail
                go_loopw [0, 87] (fun v0 vi wr => CopRel w ga gb h o cap base bs back long p3 out v0 vi wr) (fun _ vi _ => long - (intOf vi).toNat)
                case atStart => exact ⟨0, m, c, A, by omega, HM, rfl, rfl, HOq, HBq, HFr⟩
                case round =>
                  obtain ⟨i1, L, c1, A1, hi1, hL, rfl, rfl, ho1, hb5, hf5⟩ := hrel
                  by_cases hlt1 : i1 < long
                  · obtain ⟨g1, cap1, hv1, hgb1, hglt⟩ := ho1.out.form (by have := hL.out; have := HM.out; omega)
                    injection hv1 with hv1 hv2 hv3
                    subst hv1 hv3
                    obtain ⟨j, hj⟩ : ∃ j, j = L - back := ⟨_, rfl⟩
                    have hLm : m ≤ L := by have := hL.out; have := HM.out; omega
                    have hLb : L ≤ 200000 := by have := hL.out; have := HM.out; omega
                    have hjL : (j : Int) < L := by omega
                    have ej : ((L : Int) - (back : Int)).toNat = j := by omega
                    have hcl := copyOut_length i1 back out
                    obtain ⟨x, hx⟩ : ∃ x : Nat, x = ((copyOut i1 back out).getD j 0).toNat := ⟨_, rfl⟩
                    have hcell : wr.cell? ⟨g1, j, none⟩ = some (.int .u8 (x : Int)) := by
                      rw [ho1.out.cellAt j (by omega), U_get, hx]
                      have hjl : j < (copyOut i1 back out).length := by have := hL.out; omega
                      rw [List.getElem?_eq_getElem hjl, List.getD_eq_getElem?_getD, List.getElem?_eq_getElem hjl]
                      rfl
                    have hjlit : Hid (j = (copyOut i1 back out).length - back) := by show _ = _; rw [hj, hcl]; have := hL.out; omega
                    have HX := Lib.hid hx
                    have hsz : base ≤ wr.heap.size := by have := hf5.out.size; omega
                    clear hx hj hcl
                    go_wp2_with (first
                      | (at_builtin
                         refine wpList_push wr rfl (.tmp 89) (.tmp 97) 22 rfl base 5 i0 (.int .u8 0) 1 Tryd.underlying22 hi hz0 hz1 hz2 rfl (some ⟨g1, 0, none⟩) L c1 (U (copyOut i1 back out)) rfl ho1.out (.int .u8 (x : Int)) _ rfl rfl (by omega) (by unfold maxLen; omega) hsz ?_
                         intro A2 c2 w5 hown5 hg5)
                      | fail)
                    go_roundw
                    case rel =>
                      have hr5 : ∀ q, (Value.slice (some ⟨g1, 0, none⟩) L c1).ownBlock = some q → base ≤ q := fun q hq => (ho1.out.lt q hq).1
                      refine ⟨i1 + 1, L + 1, c2, A2, by omega, by show _ = _; rw [hL.out]; omega, by go_num, rfl, ?_, hb5.out.gb hg5 (fun q hq => by have := hr5 q hq; omega), hf5.out.trans (Fr.of_row hg5 hsz hr5)⟩
                      show World.ownsRow _ _ _ _ _ _ _
                      rw [copyOut, U_append, ← hjlit.out]
                      have := HX.out
                      simpa [U, this] using hown5
                    case measure => simp [intOf]; omega
                  · go_wp2_with fail
                    go_ret2
                    have e1 : i1 = long := by omega
                    subst e1
                    have e2 : L = (copyOut i1 back out).length := by rw [copyOut_length]; exact hL.out
                    subst e2
                    exact ⟨hf5.out, .inl ⟨copyOut i1 back out, p3, A1, c1, HE.out, rfl, hb5.out, ho1.out⟩⟩
          · obtain ⟨e2, he2⟩ : ∃ e2, y = e2 + 2 := ⟨y - 2, by omega⟩
            rw [he2] at hy4 hy17
            have HE2 := Lib.hid he2
            subst he2
            go_wp2_with fail
            refine (bits_any gf ga gb h o cap bs e2 p2 _ (HFr2.out.blk HF.out (by omega) (by omega)) HB2.out (by omega)).mono ?_
            rintro e' w3 ⟨hg3, (⟨x3, p3, hx3, rfl, hb3⟩ | ⟨hx3, rfl⟩)⟩
            · have HX3 := Lib.hid hx3
              have hx3l := nbits_lt bs e2 0 p2 x3 p3 hx3
              obtain ⟨z3, hz3⟩ : ∃ z3, z3 = 2 ^ e2 := ⟨_, rfl⟩
              have hz3b : z3 ≤ 32768 := by rw [hz3]; exact Nat.pow_le_pow_right (by decide) (show e2 ≤ 15 by omega)
              have hpz := pow_cast e2 (by omega)
              rw [← hz3] at hpz hx3l
              obtain ⟨back, hback⟩ : ∃ back, back = 1 + z3 + x3 := ⟨_, rfl⟩
              have eb : (1 : Int) + (z3 : Int) + (x3 : Int) = (back : Int) := by omega
              have HX2 : Hid (extra bs 4 2 1 (ln.getD i 0) p2 = some (back, p3)) := by
                show _ = _
                rw [← HY.out, extra, if_neg hy4, Nat.add_sub_cancel, HX3.out, hback, hz3]
                rfl
              have HFr := Lib.hid (HFr2.out.trans (Fr.of_ga hg3 (by have := HFr2.out.size; omega)))
              have HOq := Lib.hid (own_gb_ga HO2.out hg3 (by omega))
              have HBq := Lib.hid hb3
              clear hx3 hback hz3 hg3 hb3
              by_cases hb1 : m < back
              · have hbt : decide ((m : Int) < (back : Int)) = true := by simp; omega
                go_wp2_with fail
                go_ret2
                exact ⟨HFr.out, .inr ⟨by rw [copiedP, HX1.out, Option.bind_some, if_neg HN0.out, HI.out, Option.bind_some, HX2.out, Option.bind_some, if_pos (.inl (by rw [← HM.out]; exact hb1))], rfl⟩⟩
              · have hbt : decide ((m : Int) < (back : Int)) = false := by simp; omega
                by_cases hl1 : n - m < long
                · have hlt : decide ((n : Int) - (m : Int) < (long : Int)) = true := by simp; omega
                  go_wp2_with fail
                  go_ret2
                  exact ⟨HFr.out, .inr ⟨by rw [copiedP, HX1.out, Option.bind_some, if_neg HN0.out, HI.out, Option.bind_some, HX2.out, Option.bind_some, if_pos (.inr (by rw [← HM.out]; exact hl1))], rfl⟩⟩
                · have hlt : decide ((n : Int) - (m : Int) < (long : Int)) = false := by simp; omega
                  have HE : Hid (copiedP C ln bs n (e + 5) out p = some (copyOut long back out, p3)) := by
                    show _ = _
                    rw [copiedP, HX1.out, Option.bind_some, if_neg HN0.out, HI.out, Option.bind_some, HX2.out, Option.bind_some, if_neg (by rw [← HM.out]; omega)]
                  go_wp2_with fail
                  go_loopw [0, 87] (fun v0 vi wr => CopRel w ga gb h o cap base bs back long p3 out v0 vi wr) (fun _ vi _ => long - (intOf vi).toNat)
                  case atStart => exact ⟨0, m, c, A, by omega, HM, rfl, rfl, HOq, HBq, HFr⟩
                  case round =>
                    obtain ⟨i1, L, c1, A1, hi1, hL, rfl, rfl, ho1, hb5, hf5⟩ := hrel
                    by_cases hlt1 : i1 < long
                    · obtain ⟨g1, cap1, hv1, hgb1, hglt⟩ := ho1.out.form (by have := hL.out; have := HM.out; omega)
                      injection hv1 with hv1 hv2 hv3
                      subst hv1 hv3
                      obtain ⟨j, hj⟩ : ∃ j, j = L - back := ⟨_, rfl⟩
                      have hLm : m ≤ L := by have := hL.out; have := HM.out; omega
                      have hLb : L ≤ 200000 := by have := hL.out; have := HM.out; omega
                      have hjL : (j : Int) < L := by omega
                      have ej : ((L : Int) - (back : Int)).toNat = j := by omega
                      have hcl := copyOut_length i1 back out
                      obtain ⟨x, hx⟩ : ∃ x : Nat, x = ((copyOut i1 back out).getD j 0).toNat := ⟨_, rfl⟩
                      have hcell : wr.cell? ⟨g1, j, none⟩ = some (.int .u8 (x : Int)) := by
                        rw [ho1.out.cellAt j (by omega), U_get, hx]
                        have hjl : j < (copyOut i1 back out).length := by have := hL.out; omega
                        rw [List.getElem?_eq_getElem hjl, List.getD_eq_getElem?_getD, List.getElem?_eq_getElem hjl]
                        rfl
                      have hjlit : Hid (j = (copyOut i1 back out).length - back) := by show _ = _; rw [hj, hcl]; have := hL.out; omega
                      have HX := Lib.hid hx
                      have hsz : base ≤ wr.heap.size := by have := hf5.out.size; omega
                      clear hx hj hcl
                      go_wp2_with (first
                        | (at_builtin
                           refine wpList_push wr rfl (.tmp 89) (.tmp 97) 22 rfl base 5 i0 (.int .u8 0) 1 Tryd.underlying22 hi hz0 hz1 hz2 rfl (some ⟨g1, 0, none⟩) L c1 (U (copyOut i1 back out)) rfl ho1.out (.int .u8 (x : Int)) _ rfl rfl (by omega) (by unfold maxLen; omega) hsz ?_
                           intro A2 c2 w5 hown5 hg5)
                        | fail)
                      go_roundw
                      case rel =>
                        have hr5 : ∀ q, (Value.slice (some ⟨g1, 0, none⟩) L c1).ownBlock = some q → base ≤ q := fun q hq => (ho1.out.lt q hq).1
                        refine ⟨i1 + 1, L + 1, c2, A2, by omega, by show _ = _; rw [hL.out]; omega, by go_num, rfl, ?_, hb5.out.gb hg5 (fun q hq => by have := hr5 q hq; omega), hf5.out.trans (Fr.of_row hg5 hsz hr5)⟩
                        show World.ownsRow _ _ _ _ _ _ _
                        rw [copyOut, U_append, ← hjlit.out]
                        have := HX.out
                        simpa [U, this] using hown5
                      case measure => simp [intOf]; omega
                    · go_wp2_with fail
                      go_ret2
                      have e1 : i1 = long := by omega
                      subst e1
                      have e2 : L = (copyOut i1 back out).length := by rw [copyOut_length]; exact hL.out
                      subst e2
                      exact ⟨hf5.out, .inl ⟨copyOut i1 back out, p3, A1, c1, HE.out, rfl, hb5.out, ho1.out⟩⟩
            · have HFr := Lib.hid (HFr2.out.trans (Fr.of_ga hg3 (by have := HFr2.out.size; omega)))
              have HX3 := Lib.hid hx3
              clear hg3 hx3
              go_wp2_with fail
              go_ret2
              exact ⟨HFr.out, .inr ⟨by rw [copiedP, HX1.out, Option.bind_some, if_neg HN0.out, HI.out, Option.bind_some, ← HY.out, extra, if_neg hy4, Nat.add_sub_cancel, HX3.out]; rfl, rfl⟩⟩
        · have HI := Lib.hid hi2
          have HFr2 := Lib.hid (HFr1.out.trans (Fr.of_ga hg2 (by have := HFr1.out.size; omega)))
          clear hi2 hg2
          go_wp2_with fail
          go_ret2
          exact ⟨HFr2.out, .inr ⟨by rw [copiedP, HX1.out, Option.bind_some, if_neg HN0.out, HI.out]; rfl, rfl⟩⟩
    · have HFr1 := Lib.hid (Fr.of_ga hg1 h4)
      have HX0 := Lib.hid hx
      clear hx hg1
      go_wp2_with fail
      go_ret2
      exact ⟨HFr1.out, .inr ⟨by rw [copiedP, extra, if_neg hk8, Nat.add_sub_cancel, HX0.out]; rfl, rfl⟩⟩
end Go.Proofs.YtejgoienkpaabaaDoor
