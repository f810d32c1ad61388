/- Right1 (merged: one text behind the other). -/
import Derived.Test.YtejgoienkpaabaaDoorMg12
import Derived.Test.YtejgoienkpaabaaDoorMg13
/- Contracts: the reference's Number (small), find, Lay (the chapter's example). -/
namespace Go.Proofs.YtejgoienkpaabaaDoor
open Go.RowKit
set_option maxRecDepth 100000
theorem numb_any (n : Nat) (w : World) (hn : n < 128) :
    Calls Tryd.prog 49 #[.int .i64 n] w fun e w' => ∃ A c, e = .returned (.slice A 1 c) ∧ w'.ownsRow w.heap.size 5 1 (.slice A 1 c) 1 [.int .u8 (n : Int)] ∧ Below w.heap.size w w' := by
  obtain ⟨i5, hi5, hz50, hz51, hz52⟩ := info_parts info5
  have hd : decide ((128 : Int) ≤ (n : Int)) = false := decide_eq_false (by omega)
  have hw : IntKind.u8.wrap (n : Int) = (n : Int) := wraps_u8 _ (by omega) (by omega)
  go_enter Tryd.func49, Tryd.ntmps49
  go_wp2_with fail
  refine wp_loop_rounds 1 ?_
  rw [rounds_succ]
  go_wp2_with (first
    | (at_builtin
       refine wpList_push w rfl (.tmp 15) (.tmp 18) 22 rfl w.heap.size 5 i5 (.int .u8 0) 1 Tryd.underlying22 hi5 hz50 hz51 hz52 rfl none 0 0 [] rfl (World.ownsRow_nil _ _ _ _) (.int .u8 (n : Int)) _ rfl rfl (by omega) (by unfold maxLen; omega) (Nat.le_refl _) ?_
       intro A5 c5 w5 hown5 hg5)
    | fail)
  go_ret
  exact ⟨A5, c5, rfl, hown5, (Below.refl _ _).grown hg5 (Nat.le_refl _) (fun q hq => by simp [Value.ownBlock] at hq)⟩
def findP : List (Nat × List UInt8) → Nat → List UInt8
  | [], _ => []
  | (s, t) :: l, x => if s = x then t else findP l x
def FindRel (l : List (Nat × List UInt8)) (x : Nat) (vi : Value) : Prop :=
  ∃ k : Nat, k ≤ l.length ∧ vi = .int .i64 k ∧ Hid (findP l x = findP (l.drop k) x)
set_option maxHeartbeats 1000000 in
theorem find_any (c x : Nat) (A : Option Addr) (l : List (Nat × List UInt8)) (w : World) (hr : CRow w A l) (hl : l.length ≤ 100000) (hs : ∀ j, (l.getD j (0, [])).1 ≤ 1000) :
    Calls Tryd.prog 51 #[.slice A l.length c, .int .i64 x] w fun e w' => e = .returned (.string ⟨(findP l x).toArray⟩) ∧ w' = w := by
  have HR := Lib.hid hr
  have HS := Lib.hid hs
  clear hr hs
  go_enter Tryd.func51, Tryd.ntmps51
  go_wp2_with fail
  go_loop [5] (fun vi => FindRel l x vi) (fun vi => l.length - (intOf vi).toNat)
  case atStart => exact ⟨0, by omega, rfl, rfl⟩
  case round =>
    obtain ⟨k, hk, rfl, hf⟩ := hrel
    by_cases hlt : k < l.length
    · obtain ⟨b, cs, rfl, hb, hcell⟩ : ∃ b cs, A = some ⟨b, 0, none⟩ ∧ Blk w b 126 cs ∧ ∀ j, j < l.length → cs[j * 2]? = some (.int .i64 ((l.getD j (0, [])).1 : Int)) ∧ cs[j * 2 + 1]? = some (.string ⟨(l.getD j (0, [])).2.toArray⟩) := by
        rcases HR.out with h | h
        · rw [h] at hlt; cases hlt
        · exact h
      obtain ⟨hc1, hc2⟩ := hcell k hlt
      rw [← hb.cell] at hc1 hc2
      have hd : l.drop k = l.getD k (0, []) :: l.drop (k + 1) := by
        rw [List.drop_eq_getElem_cons hlt, List.getD_eq_getElem?_getD, List.getElem?_eq_getElem hlt]
        rfl
      have hsb := HS.out k
      obtain ⟨s, t, hst⟩ : ∃ s t, l.getD k (0, []) = (s, t) := ⟨_, _, rfl⟩
      rw [hst] at hc1 hc2 hd hsb
      have hsb2 : s ≤ 1000 := hsb
      have HD := Lib.hid hd
      clear hd hst hcell hsb hb
      by_cases hsx : s = x
      · have hxb : ((s : Int) == (x : Int)) = true := beq_iff_eq.2 (by omega)
        have HF : Hid (findP l x = t) := by show _ = _; rw [hf.out, HD.out, findP, if_pos hsx]
        have HSX := Lib.hid hsx
        clear hsx
        go_wp2_with fail
        go_ret
        exact ⟨by rw [HF.out]; rfl, rfl⟩
      · have hxb : ((s : Int) == (x : Int)) = false := beq_eq_false_iff_ne.2 (by omega)
        have HF : Hid (findP l x = findP (l.drop (k + 1)) x) := by show _ = _; rw [hf.out, HD.out, findP, if_neg hsx]
        go_wp2_with fail
        go_round
        case rel => exact ⟨k + 1, by omega, by go_num, HF⟩
        case measure => simp [intOf]; omega
    · obtain rfl : k = l.length := by omega
      have HF : Hid (findP l x = []) := by show _ = _; rw [hf.out, List.drop_eq_nil_of_le (Nat.le_refl _)]; rfl
      go_wp2_with fail
      go_ret
      exact ⟨by rw [HF.out]; rfl, rfl⟩
end Go.Proofs.YtejgoienkpaabaaDoor
