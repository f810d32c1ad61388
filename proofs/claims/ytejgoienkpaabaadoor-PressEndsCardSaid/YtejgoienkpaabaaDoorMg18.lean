/- BookD, BookE, BookF, BookG (merged: one text behind the other). -/
import Derived.Test.YtejgoienkpaabaaDoorMg17
/- The law's Book: its other lists are empty. (Printed by gen_grow.py.) -/
namespace Go.Proofs.YtejgoienkpaabaaDoor
open Go.RowKit
set_option maxRecDepth 100000
def NoL (_ : Nat) : Prop := False
theorem bk_set5 (B O : Value) (p t d u : Nat) : (bk B O p t d u).setIfInBounds 5 (.int .i64 0) = bk B O p t d u := by rw [bk, List.setIfInBounds_toArray]; rfl
theorem grow62_any (T gb : Nat) (B O : Value) (es : List En) (p t d u : Nat) (w : World) (h : Bks w T gb B O es p t d u) :
    Calls Tryd.prog 62 #[.pointer (some ⟨gb, 0, none⟩)] w fun e w' => e = .returned (.tuple #[]) ∧ Bks w' T gb B O es p t d u ∧ Kp T NoL w w' := by
  have h1 : w.cell? ⟨gb, 3, none⟩ = some (.slice none 0 0) := by rw [h.cell, bk, List.getElem?_toArray]; rfl
  have h2 : w.cell? ⟨gb, 5, none⟩ = some (.int .i64 0) := by rw [h.cell, bk, List.getElem?_toArray]; rfl
  have hf := h.blk.frozen 5
  have H := Lib.hid h
  clear h
  go_enter Tryd.func62, Tryd.ntmps62
  go_wp2_with fail
  refine wp_loop_rounds 1 ?_
  rw [rounds_succ]
  go_wp2_with fail
  go_end0
  exact ⟨rfl, H.out.setc 5 _ (bk_set5 _ _ _ _ _ _), Kp.set_ w (p := ⟨gb, 5, none⟩) (.inr H.out.hgb) _⟩
theorem bk_set8 (B O : Value) (p t d u : Nat) : (bk B O p t d u).setIfInBounds 8 (.int .i64 0) = bk B O p t d u := by rw [bk, List.setIfInBounds_toArray]; rfl
theorem grow63_any (T gb : Nat) (B O : Value) (es : List En) (p t d u : Nat) (w : World) (h : Bks w T gb B O es p t d u) :
    Calls Tryd.prog 63 #[.pointer (some ⟨gb, 0, none⟩)] w fun e w' => e = .returned (.tuple #[]) ∧ Bks w' T gb B O es p t d u ∧ Kp T NoL w w' := by
  have h1 : w.cell? ⟨gb, 6, none⟩ = some (.slice none 0 0) := by rw [h.cell, bk, List.getElem?_toArray]; rfl
  have h2 : w.cell? ⟨gb, 8, none⟩ = some (.int .i64 0) := by rw [h.cell, bk, List.getElem?_toArray]; rfl
  have hf := h.blk.frozen 8
  have H := Lib.hid h
  clear h
  go_enter Tryd.func63, Tryd.ntmps63
  go_wp2_with fail
  refine wp_loop_rounds 1 ?_
  rw [rounds_succ]
  go_wp2_with fail
  go_end0
  exact ⟨rfl, H.out.setc 8 _ (bk_set8 _ _ _ _ _ _), Kp.set_ w (p := ⟨gb, 8, none⟩) (.inr H.out.hgb) _⟩
theorem bk_set11 (B O : Value) (p t d u : Nat) : (bk B O p t d u).setIfInBounds 11 (.int .i64 0) = bk B O p t d u := by rw [bk, List.setIfInBounds_toArray]; rfl
theorem grow64_any (T gb : Nat) (B O : Value) (es : List En) (p t d u : Nat) (w : World) (h : Bks w T gb B O es p t d u) :
    Calls Tryd.prog 64 #[.pointer (some ⟨gb, 0, none⟩)] w fun e w' => e = .returned (.tuple #[]) ∧ Bks w' T gb B O es p t d u ∧ Kp T NoL w w' := by
  have h1 : w.cell? ⟨gb, 9, none⟩ = some (.slice none 0 0) := by rw [h.cell, bk, List.getElem?_toArray]; rfl
  have h2 : w.cell? ⟨gb, 11, none⟩ = some (.int .i64 0) := by rw [h.cell, bk, List.getElem?_toArray]; rfl
  have hf := h.blk.frozen 11
  have H := Lib.hid h
  clear h
  go_enter Tryd.func64, Tryd.ntmps64
  go_wp2_with fail
  refine wp_loop_rounds 1 ?_
  rw [rounds_succ]
  go_wp2_with fail
  go_end0
  exact ⟨rfl, H.out.setc 11 _ (bk_set11 _ _ _ _ _ _), Kp.set_ w (p := ⟨gb, 11, none⟩) (.inr H.out.hgb) _⟩
theorem bk_set14 (B O : Value) (p t d u : Nat) : (bk B O p t d u).setIfInBounds 14 (.int .i64 0) = bk B O p t d u := by rw [bk, List.setIfInBounds_toArray]; rfl
theorem grow65_any (T gb : Nat) (B O : Value) (es : List En) (p t d u : Nat) (w : World) (h : Bks w T gb B O es p t d u) :
    Calls Tryd.prog 65 #[.pointer (some ⟨gb, 0, none⟩)] w fun e w' => e = .returned (.tuple #[]) ∧ Bks w' T gb B O es p t d u ∧ Kp T NoL w w' := by
  have h1 : w.cell? ⟨gb, 12, none⟩ = some (.slice none 0 0) := by rw [h.cell, bk, List.getElem?_toArray]; rfl
  have h2 : w.cell? ⟨gb, 14, none⟩ = some (.int .i64 0) := by rw [h.cell, bk, List.getElem?_toArray]; rfl
  have hf := h.blk.frozen 14
  have H := Lib.hid h
  clear h
  go_enter Tryd.func65, Tryd.ntmps65
  go_wp2_with fail
  refine wp_loop_rounds 1 ?_
  rw [rounds_succ]
  go_wp2_with fail
  go_end0
  exact ⟨rfl, H.out.setc 14 _ (bk_set14 _ _ _ _ _ _), Kp.set_ w (p := ⟨gb, 14, none⟩) (.inr H.out.hgb) _⟩
theorem bk_set17 (B O : Value) (p t d u : Nat) : (bk B O p t d u).setIfInBounds 17 (.int .i64 0) = bk B O p t d u := by rw [bk, List.setIfInBounds_toArray]; rfl
theorem grow66_any (T gb : Nat) (B O : Value) (es : List En) (p t d u : Nat) (w : World) (h : Bks w T gb B O es p t d u) :
    Calls Tryd.prog 66 #[.pointer (some ⟨gb, 0, none⟩)] w fun e w' => e = .returned (.tuple #[]) ∧ Bks w' T gb B O es p t d u ∧ Kp T NoL w w' := by
  have h1 : w.cell? ⟨gb, 15, none⟩ = some (.slice none 0 0) := by rw [h.cell, bk, List.getElem?_toArray]; rfl
  have h2 : w.cell? ⟨gb, 17, none⟩ = some (.int .i64 0) := by rw [h.cell, bk, List.getElem?_toArray]; rfl
  have hf := h.blk.frozen 17
  have H := Lib.hid h
  clear h
  go_enter Tryd.func66, Tryd.ntmps66
  go_wp2_with fail
  refine wp_loop_rounds 1 ?_
  rw [rounds_succ]
  go_wp2_with fail
  go_end0
  exact ⟨rfl, H.out.setc 17 _ (bk_set17 _ _ _ _ _ _), Kp.set_ w (p := ⟨gb, 17, none⟩) (.inr H.out.hgb) _⟩
theorem bk_set20 (B O : Value) (p t d u : Nat) : (bk B O p t d u).setIfInBounds 20 (.int .i64 0) = bk B O p t d u := by rw [bk, List.setIfInBounds_toArray]; rfl
theorem grow67_any (T gb : Nat) (B O : Value) (es : List En) (p t d u : Nat) (w : World) (h : Bks w T gb B O es p t d u) :
    Calls Tryd.prog 67 #[.pointer (some ⟨gb, 0, none⟩)] w fun e w' => e = .returned (.tuple #[]) ∧ Bks w' T gb B O es p t d u ∧ Kp T NoL w w' := by
  have h1 : w.cell? ⟨gb, 18, none⟩ = some (.slice none 0 0) := by rw [h.cell, bk, List.getElem?_toArray]; rfl
  have h2 : w.cell? ⟨gb, 20, none⟩ = some (.int .i64 0) := by rw [h.cell, bk, List.getElem?_toArray]; rfl
  have hf := h.blk.frozen 20
  have H := Lib.hid h
  clear h
  go_enter Tryd.func67, Tryd.ntmps67
  go_wp2_with fail
  refine wp_loop_rounds 1 ?_
  rw [rounds_succ]
  go_wp2_with fail
  go_end0
  exact ⟨rfl, H.out.setc 20 _ (bk_set20 _ _ _ _ _ _), Kp.set_ w (p := ⟨gb, 20, none⟩) (.inr H.out.hgb) _⟩
theorem bk_set23 (B O : Value) (p t d u : Nat) : (bk B O p t d u).setIfInBounds 23 (.int .i64 0) = bk B O p t d u := by rw [bk, List.setIfInBounds_toArray]; rfl
theorem grow68_any (T gb : Nat) (B O : Value) (es : List En) (p t d u : Nat) (w : World) (h : Bks w T gb B O es p t d u) :
    Calls Tryd.prog 68 #[.pointer (some ⟨gb, 0, none⟩)] w fun e w' => e = .returned (.tuple #[]) ∧ Bks w' T gb B O es p t d u ∧ Kp T NoL w w' := by
  have h1 : w.cell? ⟨gb, 21, none⟩ = some (.slice none 0 0) := by rw [h.cell, bk, List.getElem?_toArray]; rfl
  have h2 : w.cell? ⟨gb, 23, none⟩ = some (.int .i64 0) := by rw [h.cell, bk, List.getElem?_toArray]; rfl
  have hf := h.blk.frozen 23
  have H := Lib.hid h
  clear h
  go_enter Tryd.func68, Tryd.ntmps68
  go_wp2_with fail
  refine wp_loop_rounds 1 ?_
  rw [rounds_succ]
  go_wp2_with fail
  go_end0
  exact ⟨rfl, H.out.setc 23 _ (bk_set23 _ _ _ _ _ _), Kp.set_ w (p := ⟨gb, 23, none⟩) (.inr H.out.hgb) _⟩
theorem bk_set26 (B O : Value) (p t d u : Nat) : (bk B O p t d u).setIfInBounds 26 (.int .i64 0) = bk B O p t d u := by rw [bk, List.setIfInBounds_toArray]; rfl
theorem grow69_any (T gb : Nat) (B O : Value) (es : List En) (p t d u : Nat) (w : World) (h : Bks w T gb B O es p t d u) :
    Calls Tryd.prog 69 #[.pointer (some ⟨gb, 0, none⟩)] w fun e w' => e = .returned (.tuple #[]) ∧ Bks w' T gb B O es p t d u ∧ Kp T NoL w w' := by
  have h1 : w.cell? ⟨gb, 24, none⟩ = some (.slice none 0 0) := by rw [h.cell, bk, List.getElem?_toArray]; rfl
  have h2 : w.cell? ⟨gb, 26, none⟩ = some (.int .i64 0) := by rw [h.cell, bk, List.getElem?_toArray]; rfl
  have hf := h.blk.frozen 26
  have H := Lib.hid h
  clear h
  go_enter Tryd.func69, Tryd.ntmps69
  go_wp2_with fail
  refine wp_loop_rounds 1 ?_
  rw [rounds_succ]
  go_wp2_with fail
  go_end0
  exact ⟨rfl, H.out.setc 26 _ (bk_set26 _ _ _ _ _ _), Kp.set_ w (p := ⟨gb, 26, none⟩) (.inr H.out.hgb) _⟩
theorem bk_set29 (B O : Value) (p t d u : Nat) : (bk B O p t d u).setIfInBounds 29 (.int .i64 0) = bk B O p t d u := by rw [bk, List.setIfInBounds_toArray]; rfl
theorem grow70_any (T gb : Nat) (B O : Value) (es : List En) (p t d u : Nat) (w : World) (h : Bks w T gb B O es p t d u) :
    Calls Tryd.prog 70 #[.pointer (some ⟨gb, 0, none⟩)] w fun e w' => e = .returned (.tuple #[]) ∧ Bks w' T gb B O es p t d u ∧ Kp T NoL w w' := by
  have h1 : w.cell? ⟨gb, 27, none⟩ = some (.slice none 0 0) := by rw [h.cell, bk, List.getElem?_toArray]; rfl
  have h2 : w.cell? ⟨gb, 29, none⟩ = some (.int .i64 0) := by rw [h.cell, bk, List.getElem?_toArray]; rfl
  have hf := h.blk.frozen 29
  have H := Lib.hid h
  clear h
  go_enter Tryd.func70, Tryd.ntmps70
  go_wp2_with fail
  refine wp_loop_rounds 1 ?_
  rw [rounds_succ]
  go_wp2_with fail
  go_end0
  exact ⟨rfl, H.out.setc 29 _ (bk_set29 _ _ _ _ _ _), Kp.set_ w (p := ⟨gb, 29, none⟩) (.inr H.out.hgb) _⟩
theorem bk_set32 (B O : Value) (p t d u : Nat) : (bk B O p t d u).setIfInBounds 32 (.int .i64 0) = bk B O p t d u := by rw [bk, List.setIfInBounds_toArray]; rfl
theorem grow71_any (T gb : Nat) (B O : Value) (es : List En) (p t d u : Nat) (w : World) (h : Bks w T gb B O es p t d u) :
    Calls Tryd.prog 71 #[.pointer (some ⟨gb, 0, none⟩)] w fun e w' => e = .returned (.tuple #[]) ∧ Bks w' T gb B O es p t d u ∧ Kp T NoL w w' := by
  have h1 : w.cell? ⟨gb, 30, none⟩ = some (.slice none 0 0) := by rw [h.cell, bk, List.getElem?_toArray]; rfl
  have h2 : w.cell? ⟨gb, 32, none⟩ = some (.int .i64 0) := by rw [h.cell, bk, List.getElem?_toArray]; rfl
  have hf := h.blk.frozen 32
  have H := Lib.hid h
  clear h
  go_enter Tryd.func71, Tryd.ntmps71
  go_wp2_with fail
  refine wp_loop_rounds 1 ?_
  rw [rounds_succ]
  go_wp2_with fail
  go_end0
  exact ⟨rfl, H.out.setc 32 _ (bk_set32 _ _ _ _ _ _), Kp.set_ w (p := ⟨gb, 32, none⟩) (.inr H.out.hgb) _⟩
end Go.Proofs.YtejgoienkpaabaaDoor

/- The law's Book: growing the lists of bytes, the plain part. -/
namespace Go.Proofs.YtejgoienkpaabaaDoor
open Go.RowKit
set_option maxRecDepth 100000
def Frame5 (w w' : World) : Prop := ∀ h cs, Blk w h 5 cs → Blk w' h 5 cs
theorem Frame5.trans {a b c : World} (h : Frame5 a b) (k : Frame5 b c) : Frame5 a c := fun g cs hB => k g cs (h g cs hB)
theorem own5 {w w' : World} {base n : Nat} {v : Value} {xs : List Value} (h : w.ownsRow base 5 1 v n xs) (hf : Frame5 w w') : w'.ownsRow base 5 1 v n xs := by
  refine ⟨h.1, ?_⟩
  rcases h.2 with h2 | ⟨g, cap, cur, rfl, hg, hh, r⟩
  · exact .inl h2
  · exact .inr ⟨g, cap, cur, rfl, hg, hf g cur hh, r⟩
/-- the list has the new entry, its marks' list not yet -/
structure Half (w : World) (T gb : Nat) (B O : Value) (es : List En) (e : En) (p t d u : Nat) : Prop where
  blk : Blk w gb 48 (bk B O p t d u)
  ownB : w.ownsRow T 22 1 B (es.length + 1) (es.map En.v ++ [e.v])
  ownO : w.ownsRow T 3 1 O es.length (es.map fun e => .int .i64 (e.m : Int))
  ents : ∀ e ∈ es, EnOK w e
  hgb : T ≤ gb
theorem Bks.half {w w4 : World} {T gb : Nat} {B O B' : Value} {es : List En} {e : En} {p t d u : Nat} (h : Bks w T gb B O es p t d u) (hT : T ≤ w.heap.size) (hown : w4.ownsRow T 22 1 B' (es.length + 1) (es.map En.v ++ [e.v])) (hg : w.grownBy w4 B.ownBlock) :
    Blk w4 gb 48 (bk B O p t d u) ∧ Half (w4.setCell ⟨gb, 0, none⟩ B') T gb B' O es e p t d u ∧ Frame5 w (w4.setCell ⟨gb, 0, none⟩ B') ∧ Kp T NoL w (w4.setCell ⟨gb, 0, none⟩ B') := by
  have blk4 : Blk w4 gb 48 _ := h.blk.gb hg (fun e => own_blk_ne h.ownB h.blk (by decide) e.symm)
  have hf5 : Frame5 w (w4.setCell ⟨gb, 0, none⟩ B') := fun k cs hB => by
    have h4 := hB.gb hg (fun e => own_blk_ne h.ownB hB (by decide) e.symm)
    exact h4.far (p := ⟨gb, 0, none⟩) (Blk.ne_ h4 blk4 (by decide)) _
  have OO4 := h.ownO.kept hg (own_apart h.ownO h.ownB (by decide))
  refine ⟨blk4, ⟨?_, own_set_other hown (a := ⟨gb, 0, none⟩) (own_blk_ne hown blk4 (by decide)) _, own_set_other OO4 (a := ⟨gb, 0, none⟩) (own_blk_ne OO4 blk4 (by decide)) _, fun e he => (h.ents e he).far fun g cs _ hB => hf5 g cs hB, h.hgb⟩, hf5,
    (Kp.gb hg hT (fun q hq => .inr (own_lt h.ownB q hq).1)).trans (Kp.set_ w4 (p := ⟨gb, 0, none⟩) (.inr h.hgb) _)⟩
  have := blk4.set_ 0 B'
  rwa [bk_set0] at this
theorem Half.done {w w6 : World} {T gb : Nat} {B O O' : Value} {es : List En} {e : En} {p t d u : Nat} (h : Half w T gb B O es e p t d u) (he : EnOK w e) (hT : T ≤ w.heap.size)
    (hown : w6.ownsRow T 3 1 O' (es.length + 1) ((es.map fun e => .int .i64 (e.m : Int)) ++ [.int .i64 (e.m : Int)])) (hg : w.grownBy w6 O.ownBlock) :
    Blk w6 gb 48 (bk B O p t d u) ∧ Bks (w6.setCell ⟨gb, 1, none⟩ O') T gb B O' (es ++ [e]) p t d u ∧ Frame5 w (w6.setCell ⟨gb, 1, none⟩ O') ∧ Kp T NoL w (w6.setCell ⟨gb, 1, none⟩ O') := by
  have blk6 : Blk w6 gb 48 _ := h.blk.gb hg (fun e => own_blk_ne h.ownO h.blk (by decide) e.symm)
  have hf5 : Frame5 w (w6.setCell ⟨gb, 1, none⟩ O') := fun k cs hB => by
    have h4 := hB.gb hg (fun e => own_blk_ne h.ownO hB (by decide) e.symm)
    exact h4.far (p := ⟨gb, 1, none⟩) (Blk.ne_ h4 blk6 (by decide)) _
  have OB6 := h.ownB.kept hg (own_apart h.ownB h.ownO (by decide))
  refine ⟨blk6, ⟨?_, ?_, ?_, ?_, h.hgb⟩, hf5, (Kp.gb hg hT (fun q hq => .inr (own_lt h.ownO q hq).1)).trans (Kp.set_ w6 (p := ⟨gb, 1, none⟩) (.inr h.hgb) _)⟩
  · have := blk6.set_ 1 O'
    rwa [bk_set1] at this
  · have := own_set_other OB6 (a := ⟨gb, 1, none⟩) (own_blk_ne OB6 blk6 (by decide)) O'
    simpa using this
  · have := own_set_other hown (a := ⟨gb, 1, none⟩) (own_blk_ne hown blk6 (by decide)) O'
    simpa using this
  · intro x hx
    have e5 : EnOK w x := by
      rcases List.mem_append.1 hx with hx | hx
      · exact h.ents x hx
      · simp at hx; subst hx; exact he
    exact e5.far fun g cs _ hB => hf5 g cs hB
def Fit (e : En) (ob : Option Nat) (n : Nat) : Prop := e.n ≠ 0 → ∀ h, e.A = some ⟨h, 0, none⟩ → ob = some h → e.n ≤ n
structure Gr (w0 w : World) (T gb : Nat) (L : Nat → Prop) (es0 es : List En) (k r turn done used : Nat) : Prop where
  bks : ∃ B O, Bks w T gb B O es 0 turn done used
  pre : ∀ j, j < es0.length → es[j]? = es0[j]?
  len : es.length ≤ es0.length + r
  mm : ∀ e ∈ es, e.m ≤ 30 ∧ e.n ≤ 100000
  own : ∀ j e, k ≤ j → es0[j]? = some e → w.ownsRow 0 5 1 e.v e.n (marks e.m e.n) ∧ ∀ x ∈ es, Fit x e.v.ownBlock e.n
  kp : Kp T L w0 w
  hT : T ≤ w.heap.size
structure GrI (w0 w : World) (T gb : Nat) (L : Nat → Prop) (es0 es : List En) (k r turn done used : Nat) (A : Option Addr) (n c m : Nat) : Prop extends Gr w0 w T gb L es0 es (k + 1) r turn done used where
  gown : w.ownsRow 0 5 1 (.slice A n c) n (marks m n)
  fitg : ∀ x ∈ es, Fit x (Value.slice A n c).ownBlock n
  apart : ∀ j e, k + 1 ≤ j → es0[j]? = some e → ∀ q, (Value.slice A n c).ownBlock = some q → e.v.ownBlock ≠ some q
  gL : ∀ q, (Value.slice A n c).ownBlock = some q → L q ∨ T ≤ q
theorem GrI.push {w0 w w' : World} {T gb : Nat} {L : Nat → Prop} {es0 es : List En} {k r turn done used : Nat} {A A' : Option Addr} {n c c' m : Nat} (h : GrI w0 w T gb L es0 es k r turn done used A n c m)
    (ho : w'.ownsRow 0 5 1 (.slice A' (n + 1) c') (n + 1) (marks m n ++ [.int .u8 (atm m n : Int)])) (hg : w.grownBy w' (Value.slice A n c).ownBlock) (hs : Safe w w' (.slice A n c) n)
    (hb : (Value.slice A' (n + 1) c').ownBlock = (Value.slice A n c).ownBlock ∨ ∃ q, (Value.slice A' (n + 1) c').ownBlock = some q ∧ w.heap.size ≤ q) : GrI w0 w' T gb L es0 es k r turn done used A' (n + 1) c' m := by
  have hen : ∀ x ∈ es, EnOK w x := by
    obtain ⟨B, O, hbk⟩ := h.bks
    exact hbk.ents
  have hlt : ∀ x ∈ es, x.n ≠ 0 → ∀ g, x.A = some ⟨g, 0, none⟩ → g < w.heap.size := by
    intro x hx hn g hA
    rcases hen x hx with h0 | ⟨g', cs, hA', hB, _⟩
    · exact absurd h0 hn
    · rw [hA] at hA'
      injection hA' with hA'
      injection hA' with hA'
      subst hA'
      exact hB.lt
  rw [← marks_succ] at ho
  refine ⟨⟨?_, h.pre, h.len, h.mm, ?_, h.kp.trans (Kp.gb hg h.hT h.gL), by have := hg.size; have := h.hT; omega⟩, ho, ?_, ?_, ?_⟩
  · obtain ⟨B, O, hbk⟩ := h.bks
    refine ⟨B, O, hbk.blk.gb hg (fun e => own_blk_ne h.gown hbk.blk (by decide) e.symm), hbk.ownB.kept hg (own_apart hbk.ownB h.gown (by decide)), hbk.ownO.kept hg (own_apart hbk.ownO h.gown (by decide)), fun x hx => ?_, hbk.hgb⟩
    rcases hbk.ents x hx with h0 | ⟨g, cs, hA, hB, hc⟩
    · exact .inl h0
    · by_cases hq : (Value.slice A n c).ownBlock = some g
      · by_cases hn : x.n = 0
        · exact .inl hn
        · have hle := h.fitg x hx hn g hA hq
          obtain ⟨cs', hB', hcs'⟩ := (hs g cs 5 hB).2 hq
          exact .inr ⟨g, cs', hA, hB', fun j hj => by rw [hcs' j (by omega)]; exact hc j hj⟩
      · exact .inr ⟨g, cs, hA, (hs g cs 5 hB).1 hq, hc⟩
  · intro j e hj he
    obtain ⟨o1, o2⟩ := h.own j e hj he
    refine ⟨o1.kept hg ?_, o2⟩
    cases hv : e.v.ownBlock with
    | none => exact .inl rfl
    | some q =>
      refine .inr fun heq => ?_
      exact h.apart j e hj he q heq.symm hv
  · intro x hx hn g hA hq
    rcases hb with hb | ⟨q, hb1, hb2⟩
    · rw [hb] at hq
      have := h.fitg x hx hn g hA hq
      omega
    · rw [hb1] at hq
      injection hq with hq
      have := hlt x hx hn g hA
      omega
  · intro j e hj he q hq
    rcases hb with hb | ⟨q', hb1, hb2⟩
    · rw [hb] at hq
      exact h.apart j e hj he q hq
    · rw [hb1] at hq
      injection hq with hq
      intro hv
      have := (own_lt (h.own j e hj he).1 q hv).2
      omega
  · intro q hq
    rcases hb with hb | ⟨q', hb1, hb2⟩
    · rw [hb] at hq
      exact h.gL q hq
    · rw [hb1] at hq
      injection hq with hq
      exact .inr (by have := h.hT; omega)
theorem GrI.add {w0 w w' : World} {T gb : Nat} {L : Nat → Prop} {es0 es : List En} {k r turn done used : Nat} {A : Option Addr} {n c m : Nat} {B O : Value} (h : GrI w0 w T gb L es0 es k r turn done used A n c m)
    (hb : Bks w' T gb B O (es ++ [⟨A, n, c, m⟩]) 0 turn done used) (hf : Frame5 w w') (hk : Kp T NoL w w') (hm : m ≤ 30) (hn : n ≤ 100000) (hl : es0.length ≤ es.length) : GrI w0 w' T gb L es0 (es ++ [⟨A, n, c, m⟩]) k (r + 1) turn done used A n c m := by
  refine ⟨⟨⟨B, O, hb⟩, fun j hj => ?_, by simp; have := h.len; omega, fun e he => ?_, fun j e hj he => ?_, h.kp.trans (hk.mono (fun q hq => hq.elim)), by have := hk.size; have := h.hT; omega⟩, own5 h.gown hf, fun x hx => ?_, h.apart, h.gL⟩
  · rw [List.getElem?_append_left (by omega)]; exact h.pre j hj
  · rcases List.mem_append.1 he with he | he
    · exact h.mm e he
    · simp at he; subst he; exact ⟨hm, hn⟩
  · obtain ⟨o1, o2⟩ := h.own j e hj he
    refine ⟨own5 o1 hf, fun x hx => ?_⟩
    rcases List.mem_append.1 hx with hx | hx
    · exact o2 x hx
    · simp at hx
      subst hx
      intro hn' g hA hq
      exact absurd hq (h.apart j e hj he g (by have hA' : A = some ⟨g, 0, none⟩ := hA; rw [hA']; rfl))
  · rcases List.mem_append.1 hx with hx | hx
    · exact h.fitg x hx
    · simp at hx
      subst hx
      intro _ _ _ _
      exact Nat.le_refl _
theorem Gr.enter {w0 w : World} {T gb : Nat} {L : Nat → Prop} {es0 es : List En} {k r turn done used : Nat} {e : En} (h : Gr w0 w T gb L es0 es k r turn done used) (he : es0[k]? = some e)
    (hL : ∀ q, e.v.ownBlock = some q → L q) (hd : ∀ j x, k + 1 ≤ j → es0[j]? = some x → ∀ q, e.v.ownBlock = some q → x.v.ownBlock ≠ some q) : GrI w0 w T gb L es0 es k r turn done used e.A e.n e.c e.m :=
  ⟨⟨h.bks, h.pre, h.len, h.mm, fun j x hj hx => h.own j x (by omega) hx, h.kp, h.hT⟩, (h.own k e (Nat.le_refl _) he).1, (h.own k e (Nat.le_refl _) he).2, hd, fun q hq => .inl (hL q hq)⟩
end Go.Proofs.YtejgoienkpaabaaDoor

/- The law's Book: growBytes. -/
namespace Go.Proofs.YtejgoienkpaabaaDoor
open Go.RowKit
set_option maxRecDepth 100000
def GoO (w : World) (T gb : Nat) (L : Nat → Prop) (es0 : List En) (turn done used : Nat) (vk : Value) (wr : World) : Prop :=
  ∃ (k : Nat) (es : List En), k ≤ es0.length ∧ vk = .int .i64 k ∧ Hid (es0.length ≤ es.length) ∧ Hid (Gr w wr T gb L es0 es k (96 * k) turn done used)
def GoI (w : World) (T gb : Nat) (L : Nat → Prop) (es0 : List En) (k n0 m turn done used : Nat) (vg vi : Value) (wr : World) : Prop :=
  ∃ (i n c : Nat) (A : Option Addr) (es : List En), 1 ≤ i ∧ i ≤ 97 ∧ vi = .int .i64 i ∧ vg = .slice A n c ∧ Hid (n + 1 = n0 + i) ∧ n ≤ 99999 ∧ Hid (es0.length ≤ es.length) ∧ es.length ≤ 1000 ∧ Hid (GrI w wr T gb L es0 es k (96 * k + (i - 1)) turn done used A n c m)
def GrowPost (w : World) (T gb : Nat) (L : Nat → Prop) (turn done used : Nat) (w' : World) : Prop :=
  ∃ B O es p, Bks w' T gb B O es p turn done used ∧ es.length ≤ 1000 ∧ (∀ e ∈ es, e.m ≤ 30 ∧ e.n ≤ 1000000) ∧ Kp T L w w'
theorem Gr.weaken {w0 w : World} {T gb : Nat} {L : Nat → Prop} {es0 es : List En} {k r r' turn done used : Nat} (h : Gr w0 w T gb L es0 es k r turn done used) (hr : r ≤ r') : Gr w0 w T gb L es0 es k r' turn done used :=
  ⟨h.bks, h.pre, by have := h.len; omega, h.mm, h.own, h.kp, h.hT⟩
theorem GrI.weaken {w0 w : World} {T gb : Nat} {L : Nat → Prop} {es0 es : List En} {k r r' turn done used : Nat} {A : Option Addr} {n c m : Nat} (h : GrI w0 w T gb L es0 es k r turn done used A n c m) (hr : r ≤ r') : GrI w0 w T gb L es0 es k r' turn done used A n c m :=
  ⟨h.toGr.weaken hr, h.gown, h.fitg, h.apart, h.gL⟩
set_option maxHeartbeats 4000000 in
theorem growBytes_any (T gb : Nat) (B O : Value) (L : Nat → Prop) (es0 : List En) (turn done used : Nat) (w : World) (h : Bks w T gb B O es0 0 turn done used) (hT : T ≤ w.heap.size) (hl : es0.length ≤ 5) (hm : ∀ e ∈ es0, e.m ≤ 30 ∧ e.n ≤ 99000)
    (ho : ∀ (j : Nat) (e : En), es0[j]? = some e → w.ownsRow 0 5 1 e.v e.n (marks e.m e.n)) (hL : ∀ (j : Nat) (e : En), es0[j]? = some e → ∀ q, e.v.ownBlock = some q → L q)
    (hd : ∀ (i j : Nat) (e x : En), i ≠ j → es0[i]? = some e → es0[j]? = some x → ∀ q, e.v.ownBlock = some q → x.v.ownBlock ≠ some q) :
    Calls Tryd.prog 61 #[.pointer (some ⟨gb, 0, none⟩)] w fun e w' => e = .returned (.tuple #[]) ∧ GrowPost w T gb L turn done used w' := by
  have hG : Gr w w T gb L es0 es0 0 0 turn done used := by
    refine ⟨⟨B, O, h⟩, fun _ _ => rfl, by omega, fun e he => ⟨(hm e he).1, by have := (hm e he).2; omega⟩, fun j e _ he => ⟨ho j e he, fun x hx hn g hA hq => ?_⟩, Kp.refl _ _ _, hT⟩
    obtain ⟨i, hi, rfl⟩ := List.getElem_of_mem hx
    have hxi : es0[i]? = some es0[i] := List.getElem?_eq_getElem hi
    by_cases hij : i = j
    · subst hij
      rw [hxi] at he
      injection he with he
      rw [he]
      exact Nat.le_refl _
    · exact absurd hq (hd i j _ _ hij hxi he g (by show (Value.slice es0[i].A es0[i].n es0[i].c).ownBlock = _; rw [hA]; rfl))
  have HG := Lib.hid hG
  have HLL := Lib.hid hL
  have HD := Lib.hid hd
  have HM := Lib.hid hm
  obtain ⟨AB, cB, hvB⟩ := own_shape h.ownB
  subst hvB
  have hc0 : w.cell? ⟨gb, 0, none⟩ = some (.slice AB es0.length cB) := by rw [h.cell, bk, List.getElem?_toArray]; rfl
  have hc2 : w.cell? ⟨gb, 2, none⟩ = some (.int .i64 0) := by rw [h.cell, bk, List.getElem?_toArray]; rfl
  obtain ⟨i5, hi5, hz50, hz51, hz52⟩ := info_parts info5
  obtain ⟨i22, hi22, hz220, hz221, hz222⟩ := info_parts info22
  obtain ⟨i3, hi3, hz30, hz31, hz32⟩ := info_parts info3
  clear h hG hL hd hm ho
  go_enter Tryd.func61, Tryd.ntmps61
  go_wp2_with fail
  go_loopw [3] (fun vk wr => GoO w T gb L es0 turn done used vk wr) (fun vk _ => es0.length - (intOf vk).toNat)
  case atStart => exact ⟨0, es0, by omega, rfl, Nat.le_refl _, HG⟩
  case round =>
    obtain ⟨k, es, hk, rfl, hle, hg⟩ := hrel
    by_cases hlt : k < es0.length
    · obtain ⟨wo, rfl⟩ : ∃ wo : World, wo = wr := ⟨_, rfl⟩
      obtain ⟨e, he⟩ : ∃ e, es0[k]? = some e := ⟨es0[k], List.getElem?_eq_getElem hlt⟩
      have hmem := List.mem_of_getElem? he
      obtain ⟨m30, n99⟩ := HM.out e hmem
      obtain ⟨B1, O1, hb1⟩ := hg.out.bks
      have hes : es[k]? = some e := by rw [hg.out.pre k hlt, he]
      have hkl : k < es.length := by have := hle.out; omega
      obtain ⟨gB, cB1, hvB1, hcB1⟩ := own_at hb1.ownB k hkl
      subst hvB1
      obtain ⟨gO, cO1, hvO1, hcO1⟩ := own_at hb1.ownO k hkl
      subst hvO1
      have hd0 : wo.cell? ⟨gb, 0, none⟩ = some (.slice (some ⟨gB, 0, none⟩) es.length cB1) := by rw [hb1.cell, bk, List.getElem?_toArray]; rfl
      have hd1 : wo.cell? ⟨gb, 1, none⟩ = some (.slice (some ⟨gO, 0, none⟩) es.length cO1) := by rw [hb1.cell, bk, List.getElem?_toArray]; rfl
      rw [List.getElem?_map, hes] at hcB1 hcO1
      have hdB : wo.cell? ⟨gB, k, none⟩ = some (.slice e.A e.n e.c) := hcB1
      have hdO : wo.cell? ⟨gO, k, none⟩ = some (.int .i64 (e.m : Int)) := hcO1
      have hkli : (k : Int) < es.length := by omega
      have HE : Hid (GrI w wo T gb L es0 es k (96 * k) turn done used e.A e.n e.c e.m) := hg.out.enter he (HLL.out k e he) (fun j x hj hx => HD.out k j e x (by omega) he hx)
      have hesl : es.length ≤ 1000 := by have := hg.out.len; omega
      clear hb1 hcB1 hcO1 hes he hmem
      go_wp2_with fail
      go_loopw [4, 6] (fun vg vi wr => GoI w T gb L es0 k e.n e.m turn done used vg vi wr) (fun _ vi _ => 97 - (intOf vi).toNat)
      case atStart => exact ⟨1, e.n, e.c, e.A, es, by omega, by omega, rfl, rfl, rfl, by omega, hle, hesl, HE⟩
      case round =>
        obtain ⟨i, n, c, A, es1, hi1, hi97, rfl, rfl, hni, hn9, hle1, hesl1, hgi⟩ := hrel
        by_cases hi96 : i ≤ 96
        · have hdi : decide ((i : Int) ≤ 96) = true := decide_eq_true (by omega)
          have hTr := hgi.out.hT
          go_wp2_with fail
          refine (mark_any e.m n wr m30).mono ?_
          rintro er w2 ⟨rfl, rfl⟩
          obtain ⟨r, hr⟩ : ∃ r, r = i % 16 := ⟨_, rfl⟩
          have e1 : (i : Int) % 16 = (r : Int) := by omega
          have e2 : (i : Int).tmod 16 = (r : Int) := by rw [Int.tmod_eq_emod_of_nonneg (by omega)]; exact e1
          clear hr
          by_cases hc : i < 4 ∨ r = 0
          · have hcond : decide ((i : Int) < 4) = true ∨ (decide ((i : Int) < 4) = false ∧ ((r : Int) == 0) = true) := by
              by_cases h : i < 4
              · exact .inl (decide_eq_true (by omega))
              · exact .inr ⟨decide_eq_false (by omega), beq_iff_eq.2 (by omega)⟩
            clear hc
            rcases hcond with h4 | ⟨h4, hr0⟩
            all_goals
              go_wp2_with (first
                | (at_builtin
                   refine wpList_pushS w2 rfl (.tmp 39) (.tmp 44) 22 rfl 0 5 i5 (.int .u8 0) 1 Tryd.underlying22 hi5 hz50 hz51 hz52 rfl A n c (marks e.m n) rfl hgi.out.gown (.int .u8 (atm e.m n : Int)) _ rfl _ rfl rfl (by omega) (by unfold maxLen; omega) (Nat.zero_le _) ?_
                   intro A5 c5 w5 hown5 hg5 hs5 hb5
                   have HP := Lib.hid (hgi.out.push hown5 hg5 hs5 hb5)
                   obtain ⟨B5, O5, hbk5⟩ := HP.out.bks
                   obtain ⟨AB5, cB5, hvB5⟩ := own_shape hbk5.ownB
                   subst hvB5
                   obtain ⟨AO5, cO5, hvO5⟩ := own_shape hbk5.ownO
                   subst hvO5
                   have hc50 : w5.cell? ⟨gb, 0, none⟩ = some (.slice AB5 es1.length cB5) := by rw [hbk5.cell, bk, List.getElem?_toArray]; rfl
                   have hT5 := HP.out.hT
                   have HB5 := Lib.hid hbk5
                   clear hbk5 hown5 hg5 hs5 hb5)
                | (at_builtin
                   refine wpList_pushS w5 rfl (.tmp 57) (.tmp 59) 35 rfl T 22 i22 (.slice none 0 0) 24 Tryd.underlying35 hi22 hz220 hz221 hz222 rfl AB5 es1.length cB5 (es1.map En.v) rfl HB5.out.ownB (.slice A5 (n + 1) c5) _ rfl _ rfl rfl (by omega) (by unfold maxLen; omega) hT5 ?_
                   intro A6 c6 w6 hown6 hg6 _ _
                   have HH := HB5.out.half (e := ⟨A5, n + 1, c5, e.m⟩) hT5 hown6 hg6
                   have hc60 : w6.cell? ⟨gb, 0, none⟩ = some (.slice AB5 es1.length cB5) := by rw [HH.1.cell, bk, List.getElem?_toArray]; rfl
                   have hc61 : w6.cell? ⟨gb, 1, none⟩ = some (.slice AO5 es1.length cO5) := by rw [HH.1.cell, bk, List.getElem?_toArray]; rfl
                   have hf60 := HH.1.frozen 0
                   have hf61 := HH.1.frozen 1
                   have HHa := Lib.hid HH.2.1
                   have HHf := Lib.hid HH.2.2.1
                   have HHk := Lib.hid HH.2.2.2
                   have hT6 : T ≤ (w6.setCell ⟨gb, 0, none⟩ (.slice A6 (es1.length + 1) c6)).heap.size := by have := HHk.out.size; omega
                   clear HH hown6 hg6)
                | (at_builtin
                   refine wpList_pushS (w6.setCell ⟨gb, 0, none⟩ (.slice A6 (es1.length + 1) c6)) rfl (.tmp 67) (.tmp 69) 36 rfl T 3 i3 (.int .i64 0) 8 Tryd.underlying36 hi3 hz30 hz31 hz32 rfl AO5 es1.length cO5 (es1.map fun e => .int .i64 (e.m : Int)) rfl HHa.out.ownO (.int .i64 (e.m : Int)) _ rfl w6.heap.size rfl (by simp [World.setCell]) (by omega) (by unfold maxLen; omega) hT6 ?_
                   intro A7 c7 w7 hown7 hg7 _ _
                   have HI := HHa.out.done (EnOK.of_own (own5 HP.out.gown HHf.out)) hT6 hown7 hg7
                   have hc71 : w7.cell? ⟨gb, 1, none⟩ = some (.slice AO5 es1.length cO5) := by rw [HI.1.cell, bk, List.getElem?_toArray]; rfl
                   have hf71 := HI.1.frozen 1
                   have HF := Lib.hid (HP.out.add HI.2.1 (HHf.out.trans HI.2.2.1) (HHk.out.trans HI.2.2.2) m30 (by omega) hle1.out)
                   clear HI hown7 hg7 hc60 hc61 hf60 hf61 hc50)
                | fail)
              go_roundw
              case rel => exact ⟨i + 1, n + 1, c5, A5, _, by omega, by omega, by go_num, rfl, by show _ = _; have := hni.out; omega, by have := hni.out; omega, by show _ ≤ _; simp; have := hle1.out; omega, by have := HF.out.len; omega, HF.out.weaken (by omega)⟩
              case measure => simp [intOf]; omega
          · have h4 : decide ((i : Int) < 4) = false := decide_eq_false (by omega)
            have hr0 : ((r : Int) == 0) = false := beq_eq_false_iff_ne.2 (by omega)
            go_wp2_with (first
              | (at_builtin
                 refine wpList_pushS w2 rfl (.tmp 39) (.tmp 44) 22 rfl 0 5 i5 (.int .u8 0) 1 Tryd.underlying22 hi5 hz50 hz51 hz52 rfl A n c (marks e.m n) rfl hgi.out.gown (.int .u8 (atm e.m n : Int)) _ rfl _ rfl rfl (by omega) (by unfold maxLen; omega) (Nat.zero_le _) ?_
                 intro A5 c5 w5 hown5 hg5 hs5 hb5
                 have HP := Lib.hid (hgi.out.push hown5 hg5 hs5 hb5)
                 clear hown5 hg5 hs5 hb5)
              | fail)
            go_roundw
            case rel => exact ⟨i + 1, n + 1, c5, A5, es1, by omega, by omega, by go_num, rfl, by show _ = _; have := hni.out; omega, by have := hni.out; omega, hle1, hesl1, HP.out.weaken (by omega)⟩
            case measure => simp [intOf]; omega
        · have hdi : decide ((i : Int) ≤ 96) = false := decide_eq_false (by omega)
          go_wp2_with fail
          go_roundw
          case rel => exact ⟨k + 1, es1, by omega, by go_num, hle1, hgi.out.toGr.weaken (by omega)⟩
          case measure => simp [intOf]; omega
    · obtain ⟨B1, O1, hb1⟩ := hg.out.bks
      obtain ⟨AB1, cB1, hvB1⟩ := own_shape hb1.ownB
      subst hvB1
      have hd0 : wr.cell? ⟨gb, 0, none⟩ = some (.slice AB1 es.length cB1) := by rw [hb1.cell, bk, List.getElem?_toArray]; rfl
      have hd2 : wr.cell? ⟨gb, 2, none⟩ = some (.int .i64 0) := by rw [hb1.cell, bk, List.getElem?_toArray]; rfl
      have hdf := hb1.blk.frozen 2
      have HB1 := Lib.hid hb1
      clear hb1
      go_wp2_with fail
      go_end0
      have hlen := hg.out.len
      refine ⟨rfl, _, O1, es, es.length, HB1.out.setc 2 _ (bk_set2 _ _ _ _ _ _ es.length), by omega, fun e he => ⟨(hg.out.mm e he).1, by have := (hg.out.mm e he).2; omega⟩, hg.out.kp.trans (Kp.set_ wr (p := ⟨gb, 2, none⟩) (.inr HB1.out.hgb) _)⟩
end Go.Proofs.YtejgoienkpaabaaDoor

/- The law's Book: grow, Look. -/
namespace Go.Proofs.YtejgoienkpaabaaDoor
open Go.RowKit
set_option maxRecDepth 100000
/-- the three lists of bytes -/
structure Lists (w : World) (L : Nat → Prop) (es0 : List En) : Prop where
  len : es0.length ≤ 5
  mm : ∀ e ∈ es0, e.m ≤ 30 ∧ e.n ≤ 99000
  own : ∀ (j : Nat) (e : En), es0[j]? = some e → w.ownsRow 0 5 1 e.v e.n (marks e.m e.n)
  hL : ∀ (j : Nat) (e : En), es0[j]? = some e → ∀ q, e.v.ownBlock = some q → L q
  dist : ∀ (i j : Nat) (e x : En), i ≠ j → es0[i]? = some e → es0[j]? = some x → ∀ q, e.v.ownBlock = some q → x.v.ownBlock ≠ some q
set_option maxHeartbeats 2000000 in
theorem grow_any (T gb : Nat) (B O : Value) (L : Nat → Prop) (es0 : List En) (turn done used : Nat) (w : World) (h : Bks w T gb B O es0 0 turn done used) (hT : T ≤ w.heap.size) (hs : Lists w L es0) :
    Calls Tryd.prog 34 #[.pointer (some ⟨gb, 0, none⟩)] w fun e w' => e = .returned (.tuple #[]) ∧ GrowPost w T gb L turn turn used w' := by
  go_enter Tryd.func34, Tryd.ntmps34
  go_wp2_with fail
  refine (growBytes_any T gb B O L es0 turn done used w h hT hs.len hs.mm hs.own hs.hL hs.dist).mono ?_
  rintro e w61 ⟨rfl, B1, O1, es, p, hb, hl, hm, hk⟩
  have H := Lib.hid hb
  have HK := Lib.hid hk
  have HM := Lib.hid hm
  clear h hs hb hk hm
  go_wp2_with fail
  refine (grow62_any T gb B1 O1 es p turn done used w61 H.out).mono ?_
  rintro e w62 ⟨rfl, h2, k2⟩
  have HK := Lib.hid (HK.out.trans (k2.mono (fun q hq => hq.elim)))
  have H := Lib.hid h2
  clear h2 k2
  go_wp2_with fail
  refine (grow63_any T gb B1 O1 es p turn done used w62 H.out).mono ?_
  rintro e w63 ⟨rfl, h2, k2⟩
  have HK := Lib.hid (HK.out.trans (k2.mono (fun q hq => hq.elim)))
  have H := Lib.hid h2
  clear h2 k2
  go_wp2_with fail
  refine (grow64_any T gb B1 O1 es p turn done used w63 H.out).mono ?_
  rintro e w64 ⟨rfl, h2, k2⟩
  have HK := Lib.hid (HK.out.trans (k2.mono (fun q hq => hq.elim)))
  have H := Lib.hid h2
  clear h2 k2
  go_wp2_with fail
  refine (grow65_any T gb B1 O1 es p turn done used w64 H.out).mono ?_
  rintro e w65 ⟨rfl, h2, k2⟩
  have HK := Lib.hid (HK.out.trans (k2.mono (fun q hq => hq.elim)))
  have H := Lib.hid h2
  clear h2 k2
  go_wp2_with fail
  refine (grow66_any T gb B1 O1 es p turn done used w65 H.out).mono ?_
  rintro e w66 ⟨rfl, h2, k2⟩
  have HK := Lib.hid (HK.out.trans (k2.mono (fun q hq => hq.elim)))
  have H := Lib.hid h2
  clear h2 k2
  go_wp2_with fail
  refine (grow67_any T gb B1 O1 es p turn done used w66 H.out).mono ?_
  rintro e w67 ⟨rfl, h2, k2⟩
  have HK := Lib.hid (HK.out.trans (k2.mono (fun q hq => hq.elim)))
  have H := Lib.hid h2
  clear h2 k2
  go_wp2_with fail
  refine (grow68_any T gb B1 O1 es p turn done used w67 H.out).mono ?_
  rintro e w68 ⟨rfl, h2, k2⟩
  have HK := Lib.hid (HK.out.trans (k2.mono (fun q hq => hq.elim)))
  have H := Lib.hid h2
  clear h2 k2
  go_wp2_with fail
  refine (grow69_any T gb B1 O1 es p turn done used w68 H.out).mono ?_
  rintro e w69 ⟨rfl, h2, k2⟩
  have HK := Lib.hid (HK.out.trans (k2.mono (fun q hq => hq.elim)))
  have H := Lib.hid h2
  clear h2 k2
  go_wp2_with fail
  refine (grow70_any T gb B1 O1 es p turn done used w69 H.out).mono ?_
  rintro e w70 ⟨rfl, h2, k2⟩
  have HK := Lib.hid (HK.out.trans (k2.mono (fun q hq => hq.elim)))
  have H := Lib.hid h2
  clear h2 k2
  go_wp2_with fail
  refine (grow71_any T gb B1 O1 es p turn done used w70 H.out).mono ?_
  rintro e w71 ⟨rfl, h2, k2⟩
  have HK := Lib.hid (HK.out.trans (k2.mono (fun q hq => hq.elim)))
  have H := Lib.hid h2
  clear h2 k2
  have hc33 : w71.cell? ⟨gb, 33, none⟩ = some (.int .i64 (turn : Int)) := by rw [H.out.cell, bk, List.getElem?_toArray]; rfl
  have hc34 : w71.cell? ⟨gb, 34, none⟩ = some (.int .i64 (done : Int)) := by rw [H.out.cell, bk, List.getElem?_toArray]; rfl
  have hf34 := H.out.blk.frozen 34
  go_wp2_with fail
  go_end0
  exact ⟨rfl, B1, O1, es, p, H.out.setc 34 _ (bk_set34 _ _ _ _ _ _ turn), hl, HM.out, HK.out.trans (Kp.set_ w71 (p := ⟨gb, 34, none⟩) (.inr H.out.hgb) _)⟩
theorem Kp.of_below {T : Nat} {L : Nat → Prop} {w w' : World} (h : Below w.heap.size w w') (hT : T ≤ w.heap.size) : Kp T L w w' := ⟨h.os, h.tape, h.output, h.size, fun k hk _ => h.block k (by omega)⟩
theorem look_any (T gb : Nat) (B O : Value) (L : Nat → Prop) (es0 : List En) (turn used : Nat) (w : World) (h : Bks w T gb B O es0 0 turn 0 used) (hT : T ≤ w.heap.size) (hs : Lists w L es0) (ht : 1 ≤ turn) :
    Calls Tryd.prog 17 #[.pointer (some ⟨gb, 0, none⟩)] w fun e w' => e = .returned (.bool true) ∧ Kp T L w w' := by
  have HL := Lib.hid hs
  have hl5 := hs.len
  go_enter Tryd.func17, Tryd.ntmps17
  go_wp2_with fail
  refine (holds_any T gb B O es0 0 turn 0 used w h (by omega) (fun e he => ⟨(hs.mm e he).1, by have := (hs.mm e he).2; omega⟩)).mono ?_
  rintro e w1 ⟨rfl, hb, h1⟩
  have H1 := Lib.hid h1
  have HB1 := Lib.hid hb
  have hT1 : T ≤ w1.heap.size := by have := hb.size; omega
  have hc33 : w1.cell? ⟨gb, 33, none⟩ = some (.int .i64 (turn : Int)) := by rw [h1.cell, bk, List.getElem?_toArray]; rfl
  have hc34 : w1.cell? ⟨gb, 34, none⟩ = some (.int .i64 0) := by rw [h1.cell, bk, List.getElem?_toArray]; rfl
  have hd : ((0 : Int) == (turn : Int)) = false := beq_eq_false_iff_ne.2 (by omega)
  clear h hs h1 hb
  go_wp2_with fail
  go_quiet (fail)
  have hL2 : Lists (w1.drewN nq) L es0 := ⟨HL.out.len, HL.out.mm, fun j e he => own_below (HL.out.own j e he) (below_drewN' HB1.out nq), HL.out.hL, HL.out.dist⟩
  have H2 := Lib.hid (H1.out.drewN nq)
  have HB2 := Lib.hid (below_drewN' HB1.out nq)
  have hT2 : T ≤ (w1.drewN nq).heap.size := hT1
  have HL2 := Lib.hid hL2
  clear hL2 hc33 hc34 H1 HB1 hT1
  generalize w1.drewN nq = w2 at *
  go_wp2_with fail
  refine (grow_any T gb B O L es0 turn 0 used w2 H2.out hT2 HL2.out).mono ?_
  rintro e w3 ⟨rfl, B3, O3, es, p, hb3, hl3, hm3, hk3⟩
  have HK3 := Lib.hid ((Kp.of_below (L := L) HB2.out hT).trans hk3)
  have hT3 : T ≤ w3.heap.size := by have := hk3.size; omega
  go_wp2_with fail
  refine (holds_any T gb B3 O3 es p turn turn used w3 hb3 hl3 hm3).mono ?_
  rintro e w4 ⟨rfl, hb4, _⟩
  go_wp2_with fail
  go_ret
  exact ⟨rfl, HK3.out.trans (Kp.of_below hb4 hT3)⟩
end Go.Proofs.YtejgoienkpaabaaDoor
