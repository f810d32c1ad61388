/- The law's Book: its other lists are empty. (Printed by gen_grow.py.) -/
import Derived.Test.YtejgoienkpaabaaDoorBookC
namespace Go.Proofs.YtejgoienkpaabaaDoor
open Go.RowKit
set_option maxRecDepth 100000
def NoL (_ : Nat) : Prop := False
theorem bk_set5 (B O : Value) (p t d u : Nat) : (bk B O p t d u).setIfInBounds 5 (.int .i64 0) = bk B O p t d u := by rw [bk, List.setIfInBounds_toArray]; rfl
theorem grow62_any (T gb : Nat) (B O : Value) (es : List En) (p t d u : Nat) (w : World) (h : Bks w T gb B O es p t d u) :
    Calls Tryd.prog 62 #[.pointer (some ⟨gb, 0, none⟩)] w fun e w' => e = .returned (.tuple #[]) ∧ Bks w' T gb B O es p t d u ∧ Kp T NoL w w' := by
  have h1 : w.cell? ⟨gb, 3, none⟩ = some (.slice none 0 0) := by rw [h.cell, bk, List.getElem?_toArray]; rfl
  have h2 : w.cell? ⟨gb, 5, none⟩ = some (.int .i64 0) := by rw [h.cell, bk, List.getElem?_toArray]; rfl
  have hf := h.blk.frozen 5
  have H := Lib.hid h
  clear h
  go_enter Tryd.func62, Tryd.ntmps62
  go_wp2_with fail
  refine wp_loop_rounds 1 ?_
  rw [rounds_succ]
  go_wp2_with fail
  go_end0
  exact ⟨rfl, H.out.setc 5 _ (bk_set5 _ _ _ _ _ _), Kp.set_ w (p := ⟨gb, 5, none⟩) (.inr H.out.hgb) _⟩
theorem bk_set8 (B O : Value) (p t d u : Nat) : (bk B O p t d u).setIfInBounds 8 (.int .i64 0) = bk B O p t d u := by rw [bk, List.setIfInBounds_toArray]; rfl
theorem grow63_any (T gb : Nat) (B O : Value) (es : List En) (p t d u : Nat) (w : World) (h : Bks w T gb B O es p t d u) :
    Calls Tryd.prog 63 #[.pointer (some ⟨gb, 0, none⟩)] w fun e w' => e = .returned (.tuple #[]) ∧ Bks w' T gb B O es p t d u ∧ Kp T NoL w w' := by
  have h1 : w.cell? ⟨gb, 6, none⟩ = some (.slice none 0 0) := by rw [h.cell, bk, List.getElem?_toArray]; rfl
  have h2 : w.cell? ⟨gb, 8, none⟩ = some (.int .i64 0) := by rw [h.cell, bk, List.getElem?_toArray]; rfl
  have hf := h.blk.frozen 8
  have H := Lib.hid h
  clear h
  go_enter Tryd.func63, Tryd.ntmps63
  go_wp2_with fail
  refine wp_loop_rounds 1 ?_
  rw [rounds_succ]
  go_wp2_with fail
  go_end0
  exact ⟨rfl, H.out.setc 8 _ (bk_set8 _ _ _ _ _ _), Kp.set_ w (p := ⟨gb, 8, none⟩) (.inr H.out.hgb) _⟩
theorem bk_set11 (B O : Value) (p t d u : Nat) : (bk B O p t d u).setIfInBounds 11 (.int .i64 0) = bk B O p t d u := by rw [bk, List.setIfInBounds_toArray]; rfl
theorem grow64_any (T gb : Nat) (B O : Value) (es : List En) (p t d u : Nat) (w : World) (h : Bks w T gb B O es p t d u) :
    Calls Tryd.prog 64 #[.pointer (some ⟨gb, 0, none⟩)] w fun e w' => e = .returned (.tuple #[]) ∧ Bks w' T gb B O es p t d u ∧ Kp T NoL w w' := by
  have h1 : w.cell? ⟨gb, 9, none⟩ = some (.slice none 0 0) := by rw [h.cell, bk, List.getElem?_toArray]; rfl
  have h2 : w.cell? ⟨gb, 11, none⟩ = some (.int .i64 0) := by rw [h.cell, bk, List.getElem?_toArray]; rfl
  have hf := h.blk.frozen 11
  have H := Lib.hid h
  clear h
  go_enter Tryd.func64, Tryd.ntmps64
  go_wp2_with fail
  refine wp_loop_rounds 1 ?_
  rw [rounds_succ]
  go_wp2_with fail
  go_end0
  exact ⟨rfl, H.out.setc 11 _ (bk_set11 _ _ _ _ _ _), Kp.set_ w (p := ⟨gb, 11, none⟩) (.inr H.out.hgb) _⟩
theorem bk_set14 (B O : Value) (p t d u : Nat) : (bk B O p t d u).setIfInBounds 14 (.int .i64 0) = bk B O p t d u := by rw [bk, List.setIfInBounds_toArray]; rfl
theorem grow65_any (T gb : Nat) (B O : Value) (es : List En) (p t d u : Nat) (w : World) (h : Bks w T gb B O es p t d u) :
    Calls Tryd.prog 65 #[.pointer (some ⟨gb, 0, none⟩)] w fun e w' => e = .returned (.tuple #[]) ∧ Bks w' T gb B O es p t d u ∧ Kp T NoL w w' := by
  have h1 : w.cell? ⟨gb, 12, none⟩ = some (.slice none 0 0) := by rw [h.cell, bk, List.getElem?_toArray]; rfl
  have h2 : w.cell? ⟨gb, 14, none⟩ = some (.int .i64 0) := by rw [h.cell, bk, List.getElem?_toArray]; rfl
  have hf := h.blk.frozen 14
  have H := Lib.hid h
  clear h
  go_enter Tryd.func65, Tryd.ntmps65
  go_wp2_with fail
  refine wp_loop_rounds 1 ?_
  rw [rounds_succ]
  go_wp2_with fail
  go_end0
  exact ⟨rfl, H.out.setc 14 _ (bk_set14 _ _ _ _ _ _), Kp.set_ w (p := ⟨gb, 14, none⟩) (.inr H.out.hgb) _⟩
theorem bk_set17 (B O : Value) (p t d u : Nat) : (bk B O p t d u).setIfInBounds 17 (.int .i64 0) = bk B O p t d u := by rw [bk, List.setIfInBounds_toArray]; rfl
theorem grow66_any (T gb : Nat) (B O : Value) (es : List En) (p t d u : Nat) (w : World) (h : Bks w T gb B O es p t d u) :
    Calls Tryd.prog 66 #[.pointer (some ⟨gb, 0, none⟩)] w fun e w' => e = .returned (.tuple #[]) ∧ Bks w' T gb B O es p t d u ∧ Kp T NoL w w' := by
  have h1 : w.cell? ⟨gb, 15, none⟩ = some (.slice none 0 0) := by rw [h.cell, bk, List.getElem?_toArray]; rfl
  have h2 : w.cell? ⟨gb, 17, none⟩ = some (.int .i64 0) := by rw [h.cell, bk, List.getElem?_toArray]; rfl
  have hf := h.blk.frozen 17
  have H := Lib.hid h
  clear h
  go_enter Tryd.func66, Tryd.ntmps66
  go_wp2_with fail
  refine wp_loop_rounds 1 ?_
  rw [rounds_succ]
  go_wp2_with fail
  go_end0
  exact ⟨rfl, H.out.setc 17 _ (bk_set17 _ _ _ _ _ _), Kp.set_ w (p := ⟨gb, 17, none⟩) (.inr H.out.hgb) _⟩
theorem bk_set20 (B O : Value) (p t d u : Nat) : (bk B O p t d u).setIfInBounds 20 (.int .i64 0) = bk B O p t d u := by rw [bk, List.setIfInBounds_toArray]; rfl
theorem grow67_any (T gb : Nat) (B O : Value) (es : List En) (p t d u : Nat) (w : World) (h : Bks w T gb B O es p t d u) :
    Calls Tryd.prog 67 #[.pointer (some ⟨gb, 0, none⟩)] w fun e w' => e = .returned (.tuple #[]) ∧ Bks w' T gb B O es p t d u ∧ Kp T NoL w w' := by
  have h1 : w.cell? ⟨gb, 18, none⟩ = some (.slice none 0 0) := by rw [h.cell, bk, List.getElem?_toArray]; rfl
  have h2 : w.cell? ⟨gb, 20, none⟩ = some (.int .i64 0) := by rw [h.cell, bk, List.getElem?_toArray]; rfl
  have hf := h.blk.frozen 20
  have H := Lib.hid h
  clear h
  go_enter Tryd.func67, Tryd.ntmps67
  go_wp2_with fail
  refine wp_loop_rounds 1 ?_
  rw [rounds_succ]
  go_wp2_with fail
  go_end0
  exact ⟨rfl, H.out.setc 20 _ (bk_set20 _ _ _ _ _ _), Kp.set_ w (p := ⟨gb, 20, none⟩) (.inr H.out.hgb) _⟩
theorem bk_set23 (B O : Value) (p t d u : Nat) : (bk B O p t d u).setIfInBounds 23 (.int .i64 0) = bk B O p t d u := by rw [bk, List.setIfInBounds_toArray]; rfl
theorem grow68_any (T gb : Nat) (B O : Value) (es : List En) (p t d u : Nat) (w : World) (h : Bks w T gb B O es p t d u) :
    Calls Tryd.prog 68 #[.pointer (some ⟨gb, 0, none⟩)] w fun e w' => e = .returned (.tuple #[]) ∧ Bks w' T gb B O es p t d u ∧ Kp T NoL w w' := by
  have h1 : w.cell? ⟨gb, 21, none⟩ = some (.slice none 0 0) := by rw [h.cell, bk, List.getElem?_toArray]; rfl
  have h2 : w.cell? ⟨gb, 23, none⟩ = some (.int .i64 0) := by rw [h.cell, bk, List.getElem?_toArray]; rfl
  have hf := h.blk.frozen 23
  have H := Lib.hid h
  clear h
  go_enter Tryd.func68, Tryd.ntmps68
  go_wp2_with fail
  refine wp_loop_rounds 1 ?_
  rw [rounds_succ]
  go_wp2_with fail
  go_end0
  exact ⟨rfl, H.out.setc 23 _ (bk_set23 _ _ _ _ _ _), Kp.set_ w (p := ⟨gb, 23, none⟩) (.inr H.out.hgb) _⟩
theorem bk_set26 (B O : Value) (p t d u : Nat) : (bk B O p t d u).setIfInBounds 26 (.int .i64 0) = bk B O p t d u := by rw [bk, List.setIfInBounds_toArray]; rfl
theorem grow69_any (T gb : Nat) (B O : Value) (es : List En) (p t d u : Nat) (w : World) (h : Bks w T gb B O es p t d u) :
    Calls Tryd.prog 69 #[.pointer (some ⟨gb, 0, none⟩)] w fun e w' => e = .returned (.tuple #[]) ∧ Bks w' T gb B O es p t d u ∧ Kp T NoL w w' := by
  have h1 : w.cell? ⟨gb, 24, none⟩ = some (.slice none 0 0) := by rw [h.cell, bk, List.getElem?_toArray]; rfl
  have h2 : w.cell? ⟨gb, 26, none⟩ = some (.int .i64 0) := by rw [h.cell, bk, List.getElem?_toArray]; rfl
  have hf := h.blk.frozen 26
  have H := Lib.hid h
  clear h
  go_enter Tryd.func69, Tryd.ntmps69
  go_wp2_with fail
  refine wp_loop_rounds 1 ?_
  rw [rounds_succ]
  go_wp2_with fail
  go_end0
  exact ⟨rfl, H.out.setc 26 _ (bk_set26 _ _ _ _ _ _), Kp.set_ w (p := ⟨gb, 26, none⟩) (.inr H.out.hgb) _⟩
theorem bk_set29 (B O : Value) (p t d u : Nat) : (bk B O p t d u).setIfInBounds 29 (.int .i64 0) = bk B O p t d u := by rw [bk, List.setIfInBounds_toArray]; rfl
theorem grow70_any (T gb : Nat) (B O : Value) (es : List En) (p t d u : Nat) (w : World) (h : Bks w T gb B O es p t d u) :
    Calls Tryd.prog 70 #[.pointer (some ⟨gb, 0, none⟩)] w fun e w' => e = .returned (.tuple #[]) ∧ Bks w' T gb B O es p t d u ∧ Kp T NoL w w' := by
  have h1 : w.cell? ⟨gb, 27, none⟩ = some (.slice none 0 0) := by rw [h.cell, bk, List.getElem?_toArray]; rfl
  have h2 : w.cell? ⟨gb, 29, none⟩ = some (.int .i64 0) := by rw [h.cell, bk, List.getElem?_toArray]; rfl
  have hf := h.blk.frozen 29
  have H := Lib.hid h
  clear h
  go_enter Tryd.func70, Tryd.ntmps70
  go_wp2_with fail
  refine wp_loop_rounds 1 ?_
  rw [rounds_succ]
  go_wp2_with fail
  go_end0
  exact ⟨rfl, H.out.setc 29 _ (bk_set29 _ _ _ _ _ _), Kp.set_ w (p := ⟨gb, 29, none⟩) (.inr H.out.hgb) _⟩
theorem bk_set32 (B O : Value) (p t d u : Nat) : (bk B O p t d u).setIfInBounds 32 (.int .i64 0) = bk B O p t d u := by rw [bk, List.setIfInBounds_toArray]; rfl
theorem grow71_any (T gb : Nat) (B O : Value) (es : List En) (p t d u : Nat) (w : World) (h : Bks w T gb B O es p t d u) :
    Calls Tryd.prog 71 #[.pointer (some ⟨gb, 0, none⟩)] w fun e w' => e = .returned (.tuple #[]) ∧ Bks w' T gb B O es p t d u ∧ Kp T NoL w w' := by
  have h1 : w.cell? ⟨gb, 30, none⟩ = some (.slice none 0 0) := by rw [h.cell, bk, List.getElem?_toArray]; rfl
  have h2 : w.cell? ⟨gb, 32, none⟩ = some (.int .i64 0) := by rw [h.cell, bk, List.getElem?_toArray]; rfl
  have hf := h.blk.frozen 32
  have H := Lib.hid h
  clear h
  go_enter Tryd.func71, Tryd.ntmps71
  go_wp2_with fail
  refine wp_loop_rounds 1 ?_
  rw [rounds_succ]
  go_wp2_with fail
  go_end0
  exact ⟨rfl, H.out.setc 32 _ (bk_set32 _ _ _ _ _ _), Kp.set_ w (p := ⟨gb, 32, none⟩) (.inr H.out.hgb) _⟩
end Go.Proofs.YtejgoienkpaabaaDoor
