/- The law's Book: growing the lists of bytes, the plain part. -/
import Derived.Test.YtejgoienkpaabaaDoorBookD
namespace Go.Proofs.YtejgoienkpaabaaDoor
open Go.RowKit
set_option maxRecDepth 100000
def Frame5 (w w' : World) : Prop := ∀ h cs, Blk w h 5 cs → Blk w' h 5 cs
theorem Frame5.trans {a b c : World} (h : Frame5 a b) (k : Frame5 b c) : Frame5 a c := fun g cs hB => k g cs (h g cs hB)
theorem own5 {w w' : World} {base n : Nat} {v : Value} {xs : List Value} (h : w.ownsRow base 5 1 v n xs) (hf : Frame5 w w') : w'.ownsRow base 5 1 v n xs := by
  refine ⟨h.1, ?_⟩
  rcases h.2 with h2 | ⟨g, cap, cur, rfl, hg, hh, r⟩
  · exact .inl h2
  · exact .inr ⟨g, cap, cur, rfl, hg, hf g cur hh, r⟩
/-- the list has the new entry, its marks' list not yet -/
structure Half (w : World) (T gb : Nat) (B O : Value) (es : List En) (e : En) (p t d u : Nat) : Prop where
  blk : Blk w gb 48 (bk B O p t d u)
  ownB : w.ownsRow T 22 1 B (es.length + 1) (es.map En.v ++ [e.v])
  ownO : w.ownsRow T 3 1 O es.length (es.map fun e => .int .i64 (e.m : Int))
  ents : ∀ e ∈ es, EnOK w e
  hgb : T ≤ gb
theorem Bks.half {w w4 : World} {T gb : Nat} {B O B' : Value} {es : List En} {e : En} {p t d u : Nat} (h : Bks w T gb B O es p t d u) (hT : T ≤ w.heap.size) (hown : w4.ownsRow T 22 1 B' (es.length + 1) (es.map En.v ++ [e.v])) (hg : w.grownBy w4 B.ownBlock) :
    Blk w4 gb 48 (bk B O p t d u) ∧ Half (w4.setCell ⟨gb, 0, none⟩ B') T gb B' O es e p t d u ∧ Frame5 w (w4.setCell ⟨gb, 0, none⟩ B') ∧ Kp T NoL w (w4.setCell ⟨gb, 0, none⟩ B') := by
  have blk4 : Blk w4 gb 48 _ := h.blk.gb hg (fun e => own_blk_ne h.ownB h.blk (by decide) e.symm)
  have hf5 : Frame5 w (w4.setCell ⟨gb, 0, none⟩ B') := fun k cs hB => by
    have h4 := hB.gb hg (fun e => own_blk_ne h.ownB hB (by decide) e.symm)
    exact h4.far (p := ⟨gb, 0, none⟩) (Blk.ne_ h4 blk4 (by decide)) _
  have OO4 := h.ownO.kept hg (own_apart h.ownO h.ownB (by decide))
  refine ⟨blk4, ⟨?_, own_set_other hown (a := ⟨gb, 0, none⟩) (own_blk_ne hown blk4 (by decide)) _, own_set_other OO4 (a := ⟨gb, 0, none⟩) (own_blk_ne OO4 blk4 (by decide)) _, fun e he => (h.ents e he).far fun g cs _ hB => hf5 g cs hB, h.hgb⟩, hf5,
    (Kp.gb hg hT (fun q hq => .inr (own_lt h.ownB q hq).1)).trans (Kp.set_ w4 (p := ⟨gb, 0, none⟩) (.inr h.hgb) _)⟩
  have := blk4.set_ 0 B'
  rwa [bk_set0] at this
theorem Half.done {w w6 : World} {T gb : Nat} {B O O' : Value} {es : List En} {e : En} {p t d u : Nat} (h : Half w T gb B O es e p t d u) (he : EnOK w e) (hT : T ≤ w.heap.size)
    (hown : w6.ownsRow T 3 1 O' (es.length + 1) ((es.map fun e => .int .i64 (e.m : Int)) ++ [.int .i64 (e.m : Int)])) (hg : w.grownBy w6 O.ownBlock) :
    Blk w6 gb 48 (bk B O p t d u) ∧ Bks (w6.setCell ⟨gb, 1, none⟩ O') T gb B O' (es ++ [e]) p t d u ∧ Frame5 w (w6.setCell ⟨gb, 1, none⟩ O') ∧ Kp T NoL w (w6.setCell ⟨gb, 1, none⟩ O') := by
  have blk6 : Blk w6 gb 48 _ := h.blk.gb hg (fun e => own_blk_ne h.ownO h.blk (by decide) e.symm)
  have hf5 : Frame5 w (w6.setCell ⟨gb, 1, none⟩ O') := fun k cs hB => by
    have h4 := hB.gb hg (fun e => own_blk_ne h.ownO hB (by decide) e.symm)
    exact h4.far (p := ⟨gb, 1, none⟩) (Blk.ne_ h4 blk6 (by decide)) _
  have OB6 := h.ownB.kept hg (own_apart h.ownB h.ownO (by decide))
  refine ⟨blk6, ⟨?_, ?_, ?_, ?_, h.hgb⟩, hf5, (Kp.gb hg hT (fun q hq => .inr (own_lt h.ownO q hq).1)).trans (Kp.set_ w6 (p := ⟨gb, 1, none⟩) (.inr h.hgb) _)⟩
  · have := blk6.set_ 1 O'
    rwa [bk_set1] at this
  · have := own_set_other OB6 (a := ⟨gb, 1, none⟩) (own_blk_ne OB6 blk6 (by decide)) O'
    simpa using this
  · have := own_set_other hown (a := ⟨gb, 1, none⟩) (own_blk_ne hown blk6 (by decide)) O'
    simpa using this
  · intro x hx
    have e5 : EnOK w x := by
      rcases List.mem_append.1 hx with hx | hx
      · exact h.ents x hx
      · simp at hx; subst hx; exact he
    exact e5.far fun g cs _ hB => hf5 g cs hB
def Fit (e : En) (ob : Option Nat) (n : Nat) : Prop := e.n ≠ 0 → ∀ h, e.A = some ⟨h, 0, none⟩ → ob = some h → e.n ≤ n
structure Gr (w0 w : World) (T gb : Nat) (L : Nat → Prop) (es0 es : List En) (k r turn done used : Nat) : Prop where
  bks : ∃ B O, Bks w T gb B O es 0 turn done used
  pre : ∀ j, j < es0.length → es[j]? = es0[j]?
  len : es.length ≤ es0.length + r
  mm : ∀ e ∈ es, e.m ≤ 30 ∧ e.n ≤ 100000
  own : ∀ j e, k ≤ j → es0[j]? = some e → w.ownsRow 0 5 1 e.v e.n (marks e.m e.n) ∧ ∀ x ∈ es, Fit x e.v.ownBlock e.n
  kp : Kp T L w0 w
  hT : T ≤ w.heap.size
structure GrI (w0 w : World) (T gb : Nat) (L : Nat → Prop) (es0 es : List En) (k r turn done used : Nat) (A : Option Addr) (n c m : Nat) : Prop extends Gr w0 w T gb L es0 es (k + 1) r turn done used where
  gown : w.ownsRow 0 5 1 (.slice A n c) n (marks m n)
  fitg : ∀ x ∈ es, Fit x (Value.slice A n c).ownBlock n
  apart : ∀ j e, k + 1 ≤ j → es0[j]? = some e → ∀ q, (Value.slice A n c).ownBlock = some q → e.v.ownBlock ≠ some q
  gL : ∀ q, (Value.slice A n c).ownBlock = some q → L q ∨ T ≤ q
theorem GrI.push {w0 w w' : World} {T gb : Nat} {L : Nat → Prop} {es0 es : List En} {k r turn done used : Nat} {A A' : Option Addr} {n c c' m : Nat} (h : GrI w0 w T gb L es0 es k r turn done used A n c m)
    (ho : w'.ownsRow 0 5 1 (.slice A' (n + 1) c') (n + 1) (marks m n ++ [.int .u8 (atm m n : Int)])) (hg : w.grownBy w' (Value.slice A n c).ownBlock) (hs : Safe w w' (.slice A n c) n)
    (hb : (Value.slice A' (n + 1) c').ownBlock = (Value.slice A n c).ownBlock ∨ ∃ q, (Value.slice A' (n + 1) c').ownBlock = some q ∧ w.heap.size ≤ q) : GrI w0 w' T gb L es0 es k r turn done used A' (n + 1) c' m := by
  have hen : ∀ x ∈ es, EnOK w x := by
    obtain ⟨B, O, hbk⟩ := h.bks
    exact hbk.ents
  have hlt : ∀ x ∈ es, x.n ≠ 0 → ∀ g, x.A = some ⟨g, 0, none⟩ → g < w.heap.size := by
    intro x hx hn g hA
    rcases hen x hx with h0 | ⟨g', cs, hA', hB, _⟩
    · exact absurd h0 hn
    · rw [hA] at hA'
      injection hA' with hA'
      injection hA' with hA'
      subst hA'
      exact hB.lt
  rw [← marks_succ] at ho
  refine ⟨⟨?_, h.pre, h.len, h.mm, ?_, h.kp.trans (Kp.gb hg h.hT h.gL), by have := hg.size; have := h.hT; omega⟩, ho, ?_, ?_, ?_⟩
  · obtain ⟨B, O, hbk⟩ := h.bks
    refine ⟨B, O, hbk.blk.gb hg (fun e => own_blk_ne h.gown hbk.blk (by decide) e.symm), hbk.ownB.kept hg (own_apart hbk.ownB h.gown (by decide)), hbk.ownO.kept hg (own_apart hbk.ownO h.gown (by decide)), fun x hx => ?_, hbk.hgb⟩
    rcases hbk.ents x hx with h0 | ⟨g, cs, hA, hB, hc⟩
    · exact .inl h0
    · by_cases hq : (Value.slice A n c).ownBlock = some g
      · by_cases hn : x.n = 0
        · exact .inl hn
        · have hle := h.fitg x hx hn g hA hq
          obtain ⟨cs', hB', hcs'⟩ := (hs g cs 5 hB).2 hq
          exact .inr ⟨g, cs', hA, hB', fun j hj => by rw [hcs' j (by omega)]; exact hc j hj⟩
      · exact .inr ⟨g, cs, hA, (hs g cs 5 hB).1 hq, hc⟩
  · intro j e hj he
    obtain ⟨o1, o2⟩ := h.own j e hj he
    refine ⟨o1.kept hg ?_, o2⟩
    cases hv : e.v.ownBlock with
    | none => exact .inl rfl
    | some q =>
      refine .inr fun heq => ?_
      exact h.apart j e hj he q heq.symm hv
  · intro x hx hn g hA hq
    rcases hb with hb | ⟨q, hb1, hb2⟩
    · rw [hb] at hq
      have := h.fitg x hx hn g hA hq
      omega
    · rw [hb1] at hq
      injection hq with hq
      have := hlt x hx hn g hA
      omega
  · intro j e hj he q hq
    rcases hb with hb | ⟨q', hb1, hb2⟩
    · rw [hb] at hq
      exact h.apart j e hj he q hq
    · rw [hb1] at hq
      injection hq with hq
      intro hv
      have := (own_lt (h.own j e hj he).1 q hv).2
      omega
  · intro q hq
    rcases hb with hb | ⟨q', hb1, hb2⟩
    · rw [hb] at hq
      exact h.gL q hq
    · rw [hb1] at hq
      injection hq with hq
      exact .inr (by have := h.hT; omega)
theorem GrI.add {w0 w w' : World} {T gb : Nat} {L : Nat → Prop} {es0 es : List En} {k r turn done used : Nat} {A : Option Addr} {n c m : Nat} {B O : Value} (h : GrI w0 w T gb L es0 es k r turn done used A n c m)
    (hb : Bks w' T gb B O (es ++ [⟨A, n, c, m⟩]) 0 turn done used) (hf : Frame5 w w') (hk : Kp T NoL w w') (hm : m ≤ 30) (hn : n ≤ 100000) (hl : es0.length ≤ es.length) : GrI w0 w' T gb L es0 (es ++ [⟨A, n, c, m⟩]) k (r + 1) turn done used A n c m := by
  refine ⟨⟨⟨B, O, hb⟩, fun j hj => ?_, by simp; have := h.len; omega, fun e he => ?_, fun j e hj he => ?_, h.kp.trans (hk.mono (fun q hq => hq.elim)), by have := hk.size; have := h.hT; omega⟩, own5 h.gown hf, fun x hx => ?_, h.apart, h.gL⟩
  · rw [List.getElem?_append_left (by omega)]; exact h.pre j hj
  · rcases List.mem_append.1 he with he | he
    · exact h.mm e he
    · simp at he; subst he; exact ⟨hm, hn⟩
  · obtain ⟨o1, o2⟩ := h.own j e hj he
    refine ⟨own5 o1 hf, fun x hx => ?_⟩
    rcases List.mem_append.1 hx with hx | hx
    · exact o2 x hx
    · simp at hx
      subst hx
      intro hn' g hA hq
      exact absurd hq (h.apart j e hj he g (by have hA' : A = some ⟨g, 0, none⟩ := hA; rw [hA']; rfl))
  · rcases List.mem_append.1 hx with hx | hx
    · exact h.fitg x hx
    · simp at hx
      subst hx
      intro _ _ _ _
      exact Nat.le_refl _
theorem Gr.enter {w0 w : World} {T gb : Nat} {L : Nat → Prop} {es0 es : List En} {k r turn done used : Nat} {e : En} (h : Gr w0 w T gb L es0 es k r turn done used) (he : es0[k]? = some e)
    (hL : ∀ q, e.v.ownBlock = some q → L q) (hd : ∀ j x, k + 1 ≤ j → es0[j]? = some x → ∀ q, e.v.ownBlock = some q → x.v.ownBlock ≠ some q) : GrI w0 w T gb L es0 es k r turn done used e.A e.n e.c e.m :=
  ⟨⟨h.bks, h.pre, h.len, h.mm, fun j x hj hx => h.own j x (by omega) hx, h.kp, h.hT⟩, (h.own k e (Nat.le_refl _) he).1, (h.own k e (Nat.le_refl _) he).2, hd, fun q hq => .inl (hL q hq)⟩
end Go.Proofs.YtejgoienkpaabaaDoor
