/- Contracts of package code's small functions. -/
import Derived.Test.YtejgoienkpaabaaDoorBase
namespace Go.Proofs.YtejgoienkpaabaaDoor
open Go.RowKit
set_option maxRecDepth 100000

theorem own_full {w : World} {base g n : Nat} {e : TypeId} {xs : List Value} (h : w.ownsRow base e 1 (.slice (some ⟨g, 0, none⟩) n n) n xs) :
    w.heap[g]? = some (.cells xs.toArray e (0, 0)) := by
  obtain ⟨h1, h2⟩ := h
  rcases h2 with ⟨h2, _⟩ | ⟨g', cap, cur, hv, hb, hh, hc, hm, hs, ht⟩
  · cases h2
  · injection hv with hv1 hv2 hv3
    injection hv1 with hv1
    injection hv1 with hv1
    subst hv1 hv3
    rw [hh]
    congr 1
    have : cur.toList = xs := by rw [← ht, List.take_of_length_le (by simp [hs])]
    rw [← this]
theorem full_own {w : World} {base g n : Nat} {e : TypeId} {xs : List Value} (hb : base ≤ g) (hl : xs.length = n) (hn : n ≤ maxLen) (h : w.heap[g]? = some (.cells xs.toArray e (0, 0))) :
    w.ownsRow base e 1 (.slice (some ⟨g, 0, none⟩) n n) n xs :=
  ⟨by simp [hl], .inr ⟨g, n, xs.toArray, rfl, hb, h, Nat.le_refl _, hn, by simp [hl], by simp [← hl]⟩⟩
theorem size5 : (Tryd.prog.info? 5).map (·.size) = some 1 := by kernel_rfl
set_option maxHeartbeats 400000 in
theorem taken_any (A : Option Addr) (n c : Nat) (l : List UInt8) (w : World) (h : Reads w w.heap.size 1 A n (U l)) (hn : n ≤ Lim) :
    Calls Tryd.prog 39 #[.slice A n c] w fun e w' => e = .returned (.slice (some ⟨w.heap.size, 0, none⟩) n n) ∧ w'.ownsRow w.heap.size 5 1 (.slice (some ⟨w.heap.size, 0, none⟩) n n) n (U l) ∧ Below w.heap.size w w' := by
  obtain ⟨i0, hi, hz0, hz1, hz2⟩ := info_parts info5
  have hn1 := Lim_le hn
  have hlen : (U l).length = n := by have := h.1; simpa using this
  have h2 : i0.bytes * n ≤ 281474976710656 := by rw [hz2]; omega
  have h3 : n ≤ maxLen := by simp only [maxLen]; omega
  have Hl := Lib.hid hlen
  clear hn1 hlen
  go_enter Tryd.func39, Tryd.ntmps39
  go_wp2_with (first
    | (at_make
       refine wpList_make_full w rfl (.tmp 5) (.tmp 5) 22 rfl w.heap.size 5 i0 _ 1 Tryd.underlying22 hi hz0 hz1 .i64 .i64 n n n rfl rfl rfl rfl h2 h3 (Nat.le_refl _) ?_
       intro w1 hown hg
       have hf := Lib.hid (own_full hown)
       have hm := Lib.hid (show (madeCells (Value.int IntKind.u8 0).cells (n * 1)).toList.length = n from by simpa using hown.1)
       have hb : Below w.heap.size w w1 := (Below.refl _ _).grown hg (Nat.le_refl _) (by intro k hk; cases hk)
       have hr := h.below hb)
    | (with_reducible refine wpList_copy_splice rfl (.tmp 7) (.tmp 8) 22 22 rfl 5 Tryd.underlying22 size5 _ _ n n n c rfl rfl w.heap.size 0 _ 5 hf.out (U l) ?_ ?_ ?_ (U_one l) w.heap.size w hb (Nat.le_refl _) ?_
       · rw [Hl.out]; exact (Nat.min_self n).symm
       · intro hp
         obtain ⟨ad, e1, e2, e3⟩ := hr.2 (by rw [Hl.out] at hp; exact hp)
         exact ⟨rfl, ad, e1, e3⟩
       · rw [hm.out, Hl.out]; omega
       intro w2 hg2 hb2))
  go_ret
  refine ⟨rfl, full_own (Nat.le_refl _) Hl.out h3 ?_, hb2⟩
  have := hg2.out
  rw [this]
  have h1 := hm.out
  have h2 := Hl.out
  simp only [splice]
  rw [List.drop_eq_nil_of_le (by omega)]
  simp
end Go.Proofs.YtejgoienkpaabaaDoor
