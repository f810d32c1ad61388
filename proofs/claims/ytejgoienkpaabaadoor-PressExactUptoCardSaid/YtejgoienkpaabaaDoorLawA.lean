/- Contracts of the law's small helpers. -/
import Derived.Test.YtejgoienkpaabaaDoorRefF
import Derived.Test.YtejgoienkpaabaaDoorRefI
namespace Go.Proofs.YtejgoienkpaabaaDoor
open Go.RowKit
set_option maxRecDepth 100000
theorem num_any (k : IntKind) (v : Int) (w : World) : Calls Tryd.prog 14 #[.int k v] w fun e w' => e = .returned (.int k v) ∧ w' = w := by
  go_enter Tryd.func14, Tryd.ntmps14
  go_wp2_with fail
  go_ret
  exact ⟨rfl, rfl⟩
def CmpRel (w : World) (l : List UInt8) (vi : Value) (wr : World) : Prop :=
  ∃ k : Nat, k ≤ l.length ∧ vi = .int .i64 k ∧ Hid (Below w.heap.size w wr)
set_option maxHeartbeats 1000000 in
theorem cmp_same (A A' : Option Addr) (n c c' : Nat) (l : List UInt8) (w : World) (hn : l.length = n) (h : Sl w A l) (h' : Sl w A' l) (hl : l.length ≤ Lim) :
    Calls Tryd.prog 30 #[.slice A n c, .slice A' n c'] w fun e w' => e = .returned (.int .i64 0) ∧ Below w.heap.size w w' := by
  subst hn
  have hl3 := Lim_le hl
  rcases h with rfl | ⟨b, o, rfl, hb, hc⟩
  · go_enter Tryd.func30, Tryd.ntmps30
    go_wp2_with fail
    refine wp_loop_rounds 1 ?_
    rw [rounds_succ]
    go_wp2_with fail
    go_ret
    exact ⟨rfl, Below.refl _ _⟩
  · rcases h' with rfl | ⟨b', o', rfl, hb', hc'⟩
    · go_enter Tryd.func30, Tryd.ntmps30
      go_wp2_with fail
      refine wp_loop_rounds 1 ?_
      rw [rounds_succ]
      go_wp2_with fail
      go_ret
      exact ⟨rfl, Below.refl _ _⟩
    · have HC := Lib.hid hc
      have HC' := Lib.hid hc'
      clear hc hc'
      go_enter Tryd.func30, Tryd.ntmps30
      go_wp2_with fail
      go_loopw [5] (fun vi wr => CmpRel w l vi wr) (fun vi _ => l.length - (intOf vi).toNat)
      case atStart => exact ⟨0, by omega, rfl, Below.refl _ _⟩
      case round =>
        obtain ⟨k, hk, rfl, hB⟩ := hrel
        by_cases hlt : k < l.length
        · obtain ⟨x, hx⟩ : ∃ x, x = (l.getD k 0).toNat := ⟨_, rfl⟩
          have hc1 : wr.cell? ⟨b, o + k, none⟩ = some (.int .u8 (x : Int)) := by rw [hx]; exact (hB.out.cell (p := ⟨b, o + k, none⟩) hb).trans (HC.out k hlt)
          have hc2 : wr.cell? ⟨b', o' + k, none⟩ = some (.int .u8 (x : Int)) := by rw [hx]; exact (hB.out.cell (p := ⟨b', o' + k, none⟩) hb').trans (HC'.out k hlt)
          have hd : decide ((x : Int) < (x : Int)) = false := decide_eq_false (by omega)
          clear hx
          go_wp2_with fail
          go_quiet (fail)
          go_wp2_with fail
          go_quiet (fail)
          go_wp2_with fail
          go_roundw
          case rel => exact ⟨k + 1, by omega, by go_num, below_drewN' hB.out _⟩
          case measure => simp [intOf]; omega
        · go_wp2_with fail
          go_ret
          exact ⟨rfl, hB.out⟩
theorem eq_same (A A' : Option Addr) (n n' c c' : Nat) (l : List UInt8) (w : World) (hn : l.length = n) (hn' : l.length = n') (h : Sl w A l) (h' : Sl w A' l) (hl : l.length ≤ Lim) :
    Calls Tryd.prog 15 #[.slice A n c, .slice A' n' c'] w fun e w' => e = .returned (.bool true) ∧ Below w.heap.size w w' := by
  subst hn'
  subst hn
  go_enter Tryd.func15, Tryd.ntmps15
  go_wp2_with fail
  refine (cmp_same A A' _ c c' l w rfl h h' hl).mono ?_
  rintro e w1 ⟨rfl, hb⟩
  go_wp2_with fail
  go_ret
  exact ⟨rfl, hb⟩
def mk3 : List UInt8 := [165, 90, 165]
def LendPost (w : World) (l : List UInt8) (e : Ending) (w' : World) : Prop :=
  ∃ g c, e = .returned (.slice (some ⟨g, 0, none⟩) l.length c) ∧ l.length + 3 ≤ c ∧ w'.ownsRow w.heap.size 5 1 (.slice (some ⟨g, 0, none⟩) (l.length + 3) c) (l.length + 3) (U (l ++ mk3)) ∧ Below w.heap.size w w'
set_option maxHeartbeats 1000000 in
theorem lend_any (A : Option Addr) (n c : Nat) (l : List UInt8) (w : World) (hn : l.length = n) (h : Sl w A l) (hl : l.length ≤ Lim) :
    Calls Tryd.prog 9 #[.slice A n c] w fun e w' => LendPost w l e w' := by
  subst hn
  have hl3 := Lim_le hl
  obtain ⟨i5, hi5, hz50, hz51, hz52⟩ := info_parts info5
  have hr := Lib.hid h.reads
  clear h
  go_enter Tryd.func9, Tryd.ntmps9
  go_wp2_with (first
    | (at_builtin
       refine wpList_append_any w rfl (.tmp 4) (.tmp 5) 22 rfl w.heap.size 5 i5 (.int .u8 0) 1 1 Tryd.underlying22 hi5 hz50 hz51 hz52 rfl (by decide) (.slice none 0 0) 0 [] rfl (World.ownsRow_nil _ _ _ _) w.heap.size A l.length c (U l) rfl hr.out (U_one l) (by unfold maxLen; omega) (by omega) (Nat.le_refl _) ?_
       intro v1 w1 hown1 hg1 _
       have hb1 := Lib.hid ((Below.refl w.heap.size w).grown hg1 (Nat.le_refl _) (fun q hq => by simp [Value.ownBlock] at hq))
       obtain ⟨A1, c1, hv1⟩ := own_shape hown1
       have HO1 := Lib.hid hown1
       rw [Nat.zero_add, List.nil_append] at HO1
       rw [Nat.zero_add] at hv1
       subst hv1
       clear hown1 hg1
       have hs1 := hb1.out.size)
    | (at_builtin
       refine wpList_pushK w1 rfl (.tmp 7) (.tmp 8) 22 rfl w.heap.size 5 i5 (.int .u8 0) 1 1 Tryd.underlying22 hi5 hz50 hz51 hz52 rfl (by decide) A1 l.length c1 (U l) rfl HO1.out #[.int .u8 165, .int .u8 90, .int .u8 165] 3 5 rfl ?_ rfl (by omega) (by unfold maxLen; omega) hs1 ?_
       · intro u hu
         simp at hu
         rcases hu with rfl | rfl | rfl <;> rfl
       intro A2 c2 w2 hown2 hg2
       obtain ⟨g, cap, hv, hge, hlt⟩ := hown2.form (by omega)
       injection hv with hv1 hv2 hv3
       subst hv1 hv3
       have hcap : l.length + 3 ≤ c2 := by
         rcases hown2.2 with ⟨h, _⟩ | ⟨g', cap', cur', hv', _, _, hn', _⟩
         · cases h
         · injection hv' with _ _ h3; rw [h3]; exact hn'
       have HO2 := Lib.hid hown2
       have HB2 := Lib.hid (hb1.out.grown hg2 hs1 (fun q hq => (HO1.out.lt q hq).1))
       clear hown2 hg2)
    | fail)
  go_ret
  exact ⟨g, c2, rfl, hcap, by rw [U_append]; exact HO2.out, HB2.out⟩
set_option maxHeartbeats 1000000 in
theorem intact_any (g c n n' c' : Nat) (A : Option Addr) (l : List UInt8) (base : Nat) (w : World) (hn : l.length = n) (hn' : l.length = n') (hc : l.length + 3 ≤ c)
    (ho : w.ownsRow base 5 1 (.slice (some ⟨g, 0, none⟩) (l.length + 3) c) (l.length + 3) (U (l ++ mk3))) (h : Sl w A l) (hl : l.length ≤ Lim) :
    Calls Tryd.prog 11 #[.slice (some ⟨g, 0, none⟩) n c, .slice A n' c'] w fun e w' => e = .returned (.bool true) ∧ w' = w := by
  subst hn'
  subst hn
  have hl3 := Lim_le hl
  have hs1 : Sl w (some ⟨g, 0, none⟩) l := by
    rcases Sl.of_own ho with h0 | ⟨b, o, he, hb, hcell⟩
    · simp [mk3] at h0
    · injection he with he; injection he with he1 he2
      subst he1 he2
      refine .inr ⟨g, 0, rfl, hb, fun j hj => ?_⟩
      rw [hcell j (by simp; omega), List.getD_eq_getElem?_getD, List.getD_eq_getElem?_getD, List.getElem?_append_left hj]
  have hcv1 := run_str w (some ⟨g, 0, none⟩) l.length c l rfl hs1
  have hcv2 := run_str w A l.length c' l rfl h
  have heq : ((⟨l.toArray⟩ : ByteArray).toList == (⟨l.toArray⟩ : ByteArray).toList) = true := beq_iff_eq.2 rfl
  have hcell : ∀ j, j < 3 → w.cell? ⟨g, l.length + j, none⟩ = some (.int .u8 ((mk3.getD j 0).toNat : Int)) := by
    intro j hj
    rw [ho.cellAt (l.length + j) (by omega), U_get, List.getElem?_append_right (by omega), Nat.add_sub_cancel_left, List.getD_eq_getElem?_getD]
    rw [List.getElem?_eq_getElem (show j < mk3.length by simpa [mk3] using hj)]
    rfl
  have hc0 : w.cell? ⟨g, l.length, none⟩ = some (.int .u8 165) := hcell 0 (by omega)
  have hc1 : w.cell? ⟨g, l.length + 1, none⟩ = some (.int .u8 90) := hcell 1 (by omega)
  have hc2 : w.cell? ⟨g, l.length + 2, none⟩ = some (.int .u8 165) := hcell 2 (by omega)
  clear hcell hs1 ho h
  go_enter Tryd.func11, Tryd.ntmps11
  go_wp2_with fail
  go_ret
  exact ⟨rfl, rfl⟩
end Go.Proofs.YtejgoienkpaabaaDoor
