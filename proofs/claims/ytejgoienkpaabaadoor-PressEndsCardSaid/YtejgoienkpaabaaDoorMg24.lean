/- TreeB, TreeC, MeasA, ShrP (merged: one text behind the other). -/
import Derived.Test.YtejgoienkpaabaaDoorMg23
import Derived.ArgAppend
import Derived.Lib.SliceRun
import Derived.Test.YtejgoienkpaabaaDoorMg21
/- A slice that is cut at its front and appended to at its end. -/
namespace Go.Proofs.YtejgoienkpaabaaDoor
open Go.RowKit
set_option maxRecDepth 100000
/-- v tells the cells xs, in a block from T on that is this slice's alone -/
def Fs (w : World) (T : Nat) (e : TypeId) (v : Value) (n : Nat) (xs : List Value) : Prop :=
  xs.length = n ∧ ((v = .slice none 0 0 ∧ n = 0) ∨
    ∃ g off c cur, v = .slice (some ⟨g, off, none⟩) n c ∧ T ≤ g ∧ Blk w g e cur ∧ n ≤ c ∧ c ≤ maxLen ∧ off + c ≤ cur.size ∧ ∀ j u, xs[j]? = some u → cur[off + j]? = some u)
section
variable {w w' : World} {T n : Nat} {e : TypeId} {v : Value} {xs : List Value}
theorem Fs.of_own (h : w.ownsRow T e 1 v n xs) : Fs w T e v n xs := by
  refine ⟨by simpa using h.1, ?_⟩
  rcases h.2 with h2 | ⟨g, cap, cur, hv, hb, hh, hc, hm, hs, ht⟩
  · exact .inl h2
  · refine .inr ⟨g, 0, cap, cur, hv, hb, hh, hc, hm, by omega, fun j u hj => ?_⟩
    rw [← ht, List.getElem?_take] at hj
    split at hj
    · simpa using hj
    · cases hj
theorem Fs.shape (h : Fs w T e v n xs) : ∃ A c, v = .slice A n c := by
  rcases h.2 with ⟨rfl, rfl⟩ | ⟨g, off, c, cur, rfl, _⟩
  · exact ⟨_, _, rfl⟩
  · exact ⟨_, _, rfl⟩
theorem Fs.base {T' : Nat} (h : Fs w T e v n xs) (hT : T' ≤ T) : Fs w T' e v n xs := by
  refine ⟨h.1, ?_⟩
  rcases h.2 with h2 | ⟨g, off, c, cur, h1, h2, r⟩
  · exact .inl h2
  · exact .inr ⟨g, off, c, cur, h1, by omega, r⟩
theorem Fs.lt (h : Fs w T e v n xs) : ∀ g, v.ownBlock = some g → T ≤ g ∧ g < w.heap.size := by
  intro g hg
  rcases h.2 with ⟨rfl, _⟩ | ⟨g', off, c, cur, rfl, h2, h3, _⟩
  · simp [Value.ownBlock] at hg
  · simp only [Value.ownBlock, Option.some.injEq] at hg
    subst hg
    exact ⟨h2, h3.lt⟩
theorem Fs.keep (h : Fs w T e v n xs) (hk : ∀ g cs, v.ownBlock = some g → Blk w g e cs → Blk w' g e cs) : Fs w' T e v n xs := by
  refine ⟨h.1, ?_⟩
  rcases h.2 with h2 | ⟨g, off, c, cur, rfl, h2, h3, r⟩
  · exact .inl h2
  · exact .inr ⟨g, off, c, cur, rfl, h2, hk g cur rfl h3, r⟩
theorem Fs.gb {row : Option Nat} (h : Fs w T e v n xs) (hg : w.grownBy w' row) (hr : v.ownBlock = none ∨ v.ownBlock ≠ row) : Fs w' T e v n xs :=
  h.keep fun g cs hv hb => hb.gb hg (fun e => by
    rcases hr with hr | hr
    · rw [hr] at hv; cases hv
    · exact hr (hv.trans e))
theorem Fs.ne_ (h : Fs w T e v n xs) {g : Nat} {t : TypeId} {cs : Array Value} (hb : Blk w g t cs) (ht : t ≠ e) : v.ownBlock ≠ some g := by
  intro hv
  rcases h.2 with ⟨rfl, _⟩ | ⟨g', off, c, cur, rfl, h2, h3, r⟩
  · simp [Value.ownBlock] at hv
  · simp only [Value.ownBlock, Option.some.injEq] at hv
    subst hv
    exact Blk.ne_ hb h3 ht rfl
theorem Fs.set_ (h : Fs w T e v n xs) {g i : Nat} {t : TypeId} {cs : Array Value} (hb : Blk w g t cs) (ht : t ≠ e) (u : Value) : Fs (w.setCell ⟨g, i, none⟩ u) T e v n xs :=
  h.keep fun g' _ hv h' => h'.far (p := ⟨g, i, none⟩) (fun e' => h.ne_ hb ht (by rw [hv]; exact congrArg some e')) u
theorem Fs.alloc (h : Fs w T e v n xs) (o : Obj) : Fs (w.alloc o) T e v n xs := h.keep fun _ _ _ hb => hb.alloc o
theorem Fs.drewN (h : Fs w T e v n xs) (k : Nat) : Fs (w.drewN k) T e v n xs := h
/-- the first cell -/
theorem Fs.head {A : Option Addr} {c : Nat} {u : Value} (h : Fs w T e (.slice A n c) n (u :: xs)) : ∃ g off, A = some ⟨g, off, none⟩ ∧ w.cell? ⟨g, off, none⟩ = some u ∧ 1 ≤ n ∧ n ≤ c ∧ c ≤ maxLen := by
  obtain ⟨h1, h2⟩ := h
  simp only [List.length_cons] at h1
  rcases h2 with ⟨_, h0⟩ | ⟨g, off, c', cur, hv, a1, a2, a3, a4, a5, a6⟩
  · omega
  · injection hv with e1 e2 e3
    subst e1 e3
    exact ⟨g, off, rfl, by rw [a2.cell]; exact a6 0 u rfl, by omega, a3, a4⟩
/-- what is behind it -/
theorem Fs.tail {A : Option Addr} {c : Nat} {u : Value} (h : Fs w T e (.slice A (n + 1) c) (n + 1) (u :: xs)) : Fs w T e (.slice (if c = 1 then A else A.map (·.add 1)) n (c - 1)) n xs := by
  obtain ⟨h1, h2⟩ := h
  refine ⟨by simpa using h1, ?_⟩
  rcases h2 with ⟨_, h0⟩ | ⟨g, off, c', cur, hv, a1, a2, a3, a4, a5, a6⟩
  · omega
  · injection hv with e1 e2 e3
    subst e1 e3
    by_cases hc : c = 1
    · subst hc
      refine .inr ⟨g, off, 0, cur, by rw [if_pos rfl], a1, a2, by omega, by omega, by omega, fun j u' hj => ?_⟩
      have : xs.length = n := by simpa using h1
      rw [List.getElem?_eq_none (by omega)] at hj
      cases hj
    · refine .inr ⟨g, off + 1, c - 1, cur, by rw [if_neg hc]; simp [Addr.add], a1, a2, by omega, by omega, by omega, fun j u' hj => ?_⟩
      have := a6 (j + 1) u' (by simpa using hj)
      rwa [show off + 1 + j = off + (j + 1) by omega]
end
/-- one element more -/
theorem run_push_fs {P : Program} (W : World) (t ty : TypeId) (T : Nat) (e : TypeId) (i : TypeInfo) (z : Value) (bytes : Nat) (ht : P.underlying t = some (.slice e)) (hi : P.info? e = some i) (hz : i.zero = some z)
    (hsize : i.size = 1) (hby : i.bytes = bytes) (hzs : z.cells.size = 1)
    (A : Option Addr) (n c : Nat) (xs : List Value) (h : Fs W T e (.slice A n c) n xs) (u : Value) (te : TypeId) (h1 : u.oneCell' = true)
    (hbytes : (n + 1) * bytes ≤ 140737488355328) (h63 : n + 1 ≤ maxLen) (hbase : T ≤ W.heap.size) :
    ∃ A' c' w', (Builtin.append_ #[t, t] ty #[.slice A n c, .slice (some ⟨W.heap.size, 0, none⟩) 1 1]).run P (W.alloc (.cells #[u] te)) = .ok (.slice A' (n + 1) c') w' ∧ Fs w' T e (.slice A' (n + 1) c') (n + 1) (xs ++ [u]) ∧
      W.grownBy w' (Value.slice A n c).ownBlock ∧ ((Value.slice A' (n + 1) c').ownBlock = (Value.slice A n c).ownBlock ∨ ∀ q, (Value.slice A' (n + 1) c').ownBlock = some q → W.heap.size ≤ q) := by
  have hnews : ∀ j v, [u][j]? = some v → (W.alloc (.cells #[u] te)).cell? ((⟨W.heap.size, 0, none⟩ : Addr).add j) = some v := by
    intro j v hj
    match j, hj with
    | 0, hj =>
      simp at hj; subst hj
      simp [Addr.add]
  have hone : ∀ v ∈ [u], v.oneCell' = true := by
    intro v hv
    simp at hv; subst hv; exact h1
  have ha := h.alloc (.cells #[u] te)
  rcases h.2 with ⟨hv, h0⟩ | ⟨g, off, c', cur, hv, a1, a2, a3, a4, a5, a6⟩
  · subst h0
    rw [hv] at ha ⊢
    have hxs : xs = [] := List.eq_nil_of_length_eq_zero h.1
    subst hxs
    obtain ⟨v', w', hr, ho, hg, _⟩ := run_append_own (P := P) (W.alloc (.cells #[u] te)) W.heap.size t ty e i z 1 bytes ht hi hz hsize hby hzs (by decide) (.slice none 0 0) 0 [] (World.ownsRow_nil _ _ _ _) ⟨W.heap.size, 0, none⟩ 1 1 [u] rfl hnews hone h63 hbytes (by simp)
    obtain ⟨A', c', rfl⟩ := own_shape ho
    exact ⟨A', c', w', hr, Fs.of_own (own_base ho hbase), gb_trans (gb_alloc (gb_refl _ _) _) hg, .inr fun q hq => (ho.lt q hq).1⟩
  · injection hv with e1 e2 e3
    subst e1 e3
    have b2 := a2.alloc (.cells #[u] te)
    have hxl := h.1
    by_cases hroom : n + 1 ≤ c
    · have hlt : off + n < cur.size := by omega
      have hrun := run_append_room_cells (P := P) (W.alloc (.cells #[u] te)) t ty e i ht hi g off n c ⟨W.heap.size, 0, none⟩ 1 1 [u] (by simp [hsize]) hnews hone hroom (fun j hj => by
        have : j = 0 := by simpa using hj
        subst this
        rw [hsize, b2.cell, Array.getElem?_eq_getElem (by omega)]; rfl) (fun j _ => b2.frozen _)
      rw [hsize, Nat.mul_one] at hrun
      have hsc : (W.alloc (.cells #[u] te)).setCells g (off + n) [u] = (W.alloc (.cells #[u] te)).setCell ⟨g, off + n, none⟩ u := rfl
      rw [hsc] at hrun
      refine ⟨some ⟨g, off, none⟩, c, _, hrun, ⟨by simp [hxl], .inr ⟨g, off, c, cur.setIfInBounds (off + n) u, rfl, a1, b2.set_ _ _, hroom, a4, by simpa using a5, fun j v hj => ?_⟩⟩, gb_set (gb_alloc (gb_refl _ _) _) (.inl rfl) _, .inl rfl⟩
      rw [Array.getElem?_setIfInBounds]
      by_cases hjn : j = n
      · subst hjn
        rw [List.getElem?_append_right (by omega)] at hj
        rw [if_pos rfl, if_pos hlt, ← hj, hxl, Nat.sub_self]
        rfl
      · rw [if_neg (by omega)]
        have hjl : j < xs.length := by
          have := (List.getElem?_eq_some_iff.1 hj).1
          simp at this
          omega
        rw [List.getElem?_append_left hjl] at hj
        exact a6 j v hj
    · obtain ⟨v', w', hr, ho, hg⟩ := run_append_arg_grows (P := P) (W.alloc (.cells #[u] te)) t ty e i z 1 bytes ht hi hz hsize hby hzs (by decide) ⟨g, off, none⟩ n c xs (by omega) (fun j v hj => by
        rw [addr_add, b2.cell]; exact a6 j v hj) ⟨W.heap.size, 0, none⟩ 1 1 [u] rfl hnews (by omega) h63 hbytes
      obtain ⟨A', c', rfl⟩ := own_shape ho
      exact ⟨A', c', w', hr, Fs.of_own (own_base ho (by simp; omega)), gb_trans (gb_alloc (gb_refl _ _) _) (gb_none hg), .inr fun q hq => by have := (ho.lt q hq).1; simp at this; omega⟩
theorem step_pushF {P : Program} (W : World) {ops : Array Oper} {o : Oper} {a : Act} {K : Act → World → Prop} {Q : Exit → Act → World → Prop} {E : Prop} (hgd : o.guard = none) (s x : Operand) (t : TypeId)
    (ho : o.op = .call { callee := .builtin .append, args := #[s, x], argTypes := #[t, t] })
    (T : Nat) (e : TypeId) (i : TypeInfo) (z : Value) (bytes : Nat) (ht : P.underlying t = some (.slice e)) (hi : P.info? e = some i) (hz : i.zero = some z)
    (hsize : i.size = 1) (hby : i.bytes = bytes) (hzs : z.cells.size = 1)
    (A : Option Addr) (n c : Nat) (xs : List Value) (hs : a.eval s = .slice A n c) (h : Fs W T e (.slice A n c) n xs)
    (u : Value) (te : TypeId) (h1 : u.oneCell' = true) (hx : a.eval x = .slice (some ⟨W.heap.size, 0, none⟩) 1 1)
    (hbytes : (n + 1) * bytes ≤ 140737488355328) (h63 : n + 1 ≤ maxLen) (hbase : T ≤ W.heap.size)
    (hK : ∀ A' c' w', Fs w' T e (.slice A' (n + 1) c') (n + 1) (xs ++ [u]) → W.grownBy w' (Value.slice A n c).ownBlock → ((Value.slice A' (n + 1) c').ownBlock = (Value.slice A n c).ownBlock ∨ ∀ q, (Value.slice A' (n + 1) c').ownBlock = some q → W.heap.size ≤ q) → K (a.put o.dst (.slice A' (n + 1) c')) w') :
    if Region.wanted o (yielded ops a.tmps) = true then Oper.wp P o a (W.alloc (.cells #[u] te)) K Q else E := by
  have hw : Region.wanted o (yielded ops a.tmps) = true := by simp [Region.wanted, hgd]
  rw [if_pos hw]
  obtain ⟨A', c', w', hrun, hf, hg, hnew⟩ := run_push_fs (P := P) W t o.type T e i z bytes ht hi hz hsize hby hzs A n c xs h u te h1 hbytes h63 hbase
  unfold Oper.wp
  simp [execOp, ho, resolve, invoke, builtin, hs, hx, hrun, Result.andThen]
  exact hK A' c' w' hf hg hnew
theorem wpList_pushF {P : Program} (W : World) {ops : Array Oper} {rest : List Oper} {o : Oper} {a : Act} {Q : Exit → Act → World → Prop} (hgd : o.guard = none) (s x : Operand) (t : TypeId)
    (ho : o.op = .call { callee := .builtin .append, args := #[s, x], argTypes := #[t, t] })
    (T : Nat) (e : TypeId) (i : TypeInfo) (z : Value) (bytes : Nat) (ht : P.underlying t = some (.slice e)) (hi : P.info? e = some i) (hz : i.zero = some z)
    (hsize : i.size = 1) (hby : i.bytes = bytes) (hzs : z.cells.size = 1)
    (A : Option Addr) (n c : Nat) (xs : List Value) (hs : a.eval s = .slice A n c) (h : Fs W T e (.slice A n c) n xs)
    (u : Value) (te : TypeId) (h1 : u.oneCell' = true) (hx : a.eval x = .slice (some ⟨W.heap.size, 0, none⟩) 1 1)
    (hbytes : (n + 1) * bytes ≤ 140737488355328) (h63 : n + 1 ≤ maxLen) (hbase : T ≤ W.heap.size)
    (hK : ∀ A' c' w', Fs w' T e (.slice A' (n + 1) c') (n + 1) (xs ++ [u]) → W.grownBy w' (Value.slice A n c).ownBlock → ((Value.slice A' (n + 1) c').ownBlock = (Value.slice A n c).ownBlock ∨ ∀ q, (Value.slice A' (n + 1) c').ownBlock = some q → W.heap.size ≤ q) →
      wpList P ops Q rest (a.put o.dst (.slice A' (n + 1) c')) w') : wpList P ops Q (o :: rest) a (W.alloc (.cells #[u] te)) := by
  refine wpList_plain hgd fun K hK' => ?_
  obtain ⟨A', c', w', hrun, hf, hg, hnew⟩ := run_push_fs (P := P) W t o.type T e i z bytes ht hi hz hsize hby hzs A n c xs h u te h1 hbytes h63 hbase
  unfold Oper.wp
  simp [execOp, ho, resolve, invoke, builtin, hs, hx, hrun, Result.andThen]
  exact hK' _ _ (hK A' c' w' hf hg hnew)
end Go.Proofs.YtejgoienkpaabaaDoor

/- The contract of measure's closure least. -/
namespace Go.Proofs.YtejgoienkpaabaaDoor
open Go.RowKit
set_option maxRecDepth 100000
/-- every block but slices' variables and rows of pointers stays -/
def KeepF (w w' : World) : Prop := ∀ g t cs, t ≠ 169 → t ≠ 170 → Blk w g t cs → Blk w' g t cs
theorem KeepF.refl (w : World) : KeepF w w := fun _ _ _ _ _ h => h
theorem KeepF.trans {a b c : World} (h : KeepF a b) (k : KeepF b c) : KeepF a c := fun g t cs h1 h2 x => k g t cs h1 h2 (h g t cs h1 h2 x)
theorem KeepF.n {a b : World} (h : KeepF a b) : KeepN a b := fun g cs x => h g 172 cs (by decide) (by decide) x
theorem KeepF.set_ {a b : World} (h : KeepF a b) {g i : Nat} {cs : Array Value} (hg : Blk b g 169 cs) (v : Value) : KeepF a (b.setCell ⟨g, i, none⟩ v) :=
  fun g' t' cs' h1 h2 x => (h g' t' cs' h1 h2 x).far (p := ⟨g, i, none⟩) (Blk.ne_ (h g' t' cs' h1 h2 x) hg h1) v
theorem KeepF.alloc {a b : World} (h : KeepF a b) (o : Obj) : KeepF a (b.alloc o) := fun g t cs h1 h2 x => (h g t cs h1 h2 x).alloc o
theorem KeepF.drewN {a b : World} (h : KeepF a b) (n : Nat) : KeepF a (b.drewN n) := h
/-- trees and where their roots lie -/
def Roots (w : World) : List HT → List Nat → Prop
  | [], [] => True
  | t :: l, p :: ps => NodeAt w t p ∧ Roots w l ps
  | _, _ => False
theorem Roots.len {w : World} : ∀ {l : List HT} {ps : List Nat}, Roots w l ps → ps.length = l.length
  | [], [], _ => rfl
  | _ :: _, _ :: _, h => by simp [Roots.len h.2]
  | [], _ :: _, h => by cases h
  | _ :: _, [], h => by cases h
theorem Roots.keep {w w' : World} (hk : KeepN w w') : ∀ {l : List HT} {ps : List Nat}, Roots w l ps → Roots w' l ps
  | [], [], _ => trivial
  | _ :: _, _ :: _, h => ⟨h.1.keep hk, Roots.keep hk h.2⟩
  | [], _ :: _, h => by cases h
  | _ :: _, [], h => by cases h
theorem Roots.snoc {w : World} {t : HT} {p : Nat} (hn : NodeAt w t p) : ∀ {l : List HT} {ps : List Nat}, Roots w l ps → Roots w (l ++ [t]) (ps ++ [p])
  | [], [], _ => ⟨hn, trivial⟩
  | _ :: _, _ :: _, h => ⟨h.1, Roots.snoc hn h.2⟩
  | [], _ :: _, h => by cases h
  | _ :: _, [], h => by cases h
theorem NodeAt.drewN {w : World} {t : HT} {p : Nat} (h : NodeAt w t p) (n : Nat) : NodeAt (w.drewN n) t p := NodeAt.keep (w := w) (w' := w.drewN n) (fun _ _ x => x) t p h
def PP (ps : List Nat) : List Value := ps.map Ptr
/-- the two queues: block bl holds the slice of the leaves that are left, bm that of the made ones -/
structure QS (w : World) (T bl bm : Nat) (l made : List HT) (vl vm : Value) (pl pm : List Nat) : Prop where
  hl : Blk w bl 169 #[vl]
  hm : Blk w bm 169 #[vm]
  ne : bl ≠ bm
  fl : Fs w T 170 vl l.length (PP pl)
  fm : Fs w T 170 vm made.length (PP pm)
  ap : vl.ownBlock = none ∨ vl.ownBlock ≠ vm.ownBlock
  rl : Roots w l pl
  rm : Roots w made pm
  tl : T ≤ bl
  tm : T ≤ bm
theorem QS.drewN {w : World} {T bl bm : Nat} {l made : List HT} {vl vm : Value} {pl pm : List Nat} (h : QS w T bl bm l made vl vm pl pm) (n : Nat) : QS (w.drewN n) T bl bm l made vl vm pl pm :=
  ⟨h.hl, h.hm, h.ne, h.fl, h.fm, h.ap, Roots.keep (w := w) (w' := w.drewN n) (fun _ _ x => x) h.rl, Roots.keep (w := w) (w' := w.drewN n) (fun _ _ x => x) h.rm, h.tl, h.tm⟩
def Qs (w : World) (T bl bm : Nat) (l made : List HT) : Prop := ∃ vl vm pl pm, QS w T bl bm l made vl vm pl pm
def LeastPost (w : World) (T bl bm : Nat) (l made : List HT) (e : Ending) (w' : World) : Prop :=
  ∃ p, e = .returned (Ptr p) ∧ NodeAt w' (least l made).1 p ∧ Qs w' T bl bm (least l made).2.1 (least l made).2.2 ∧ KeepF w w' ∧ Below T w w'
theorem own_none_tail {A : Option Addr} {n c m c' : Nat} {x : Option Nat} (h : (Value.slice A n c).ownBlock = none ∨ (Value.slice A n c).ownBlock ≠ x) :
    (Value.slice (if c = 1 then A else A.map (·.add 1)) m c').ownBlock = none ∨ (Value.slice (if c = 1 then A else A.map (·.add 1)) m c').ownBlock ≠ x := by
  have e : (Value.slice (if c = 1 then A else A.map (·.add 1)) m c').ownBlock = (Value.slice A n c).ownBlock := by
    cases A with
    | none => split <;> rfl
    | some a =>
      split
      · rfl
      · simp [Value.ownBlock, block_of_add]
  rw [e]
  exact h
set_option maxHeartbeats 1000000 in
theorem least_l (w : World) (T bl bm : Nat) (a : HT) (l made : List HT) (hq : Qs w T bl bm (a :: l) made) (hlf : isLeaf (a :: l) made = true) (hw : ∀ t ∈ (a :: l) ++ made, t.w ≤ 100000000) (hlen : l.length + made.length ≤ 1000) :
    Calls Tryd.prog 97 #[.pointer (some ⟨bm, 0, none⟩), .pointer (some ⟨bl, 0, none⟩)] w fun e w' => LeastPost w T bl bm (a :: l) made e w' := by
  obtain ⟨vl, vm, pl, pm, h⟩ := hq
  obtain ⟨Al, cl, rfl⟩ := h.fl.shape
  obtain ⟨Am, cm, rfl⟩ := h.fm.shape
  match pl, h.rl.len with
  | p :: pl, hpl =>
    have hcl := h.hl.cell 0
    have hcm := h.hm.cell 0
    have hfl := h.hl.frozen 0
    simp at hcl hcm
    have hh := h.fl
    obtain ⟨gl, ol, rfl, hc0, hn1, hnc, hcm'⟩ := hh.head
    have hna : NodeAt w a p := h.rl.1
    have hwa := hna.w.1
    have hwla : a.w ≤ 100000000 := hw a (by simp)
    obtain ⟨n, hn⟩ : ∃ n, n = l.length := ⟨_, rfl⟩
    have hn2 : n ≤ 1000 := by omega
    have hlen1 : (a :: l).length = n + 1 := by simp [hn]
    rw [hlen1] at hnc hh
    rw [← hn] at hcl
    have hmax : cl ≤ 9223372036854775807 := by
      have := hcm'
      unfold maxLen at this
      omega
    obtain ⟨v', hv'⟩ : ∃ v', v' = Value.slice (if cl = 1 then some ⟨gl, ol, none⟩ else (some (⟨gl, ol, none⟩ : Addr)).map (·.add 1)) n (cl - 1) := ⟨_, rfl⟩
    have HP : Hid (∀ q, LeastPost w T bl bm (a :: l) made (.returned (Ptr p)) ((w.setCell ⟨bl, 0, none⟩ v').drewN q)) := by
      intro q
      have hne : bl ≠ bm := h.ne
      have e : least (a :: l) made = (a, l, made) := by unfold least; rw [if_pos hlf]; rfl
      have hk : KeepF w (w.setCell ⟨bl, 0, none⟩ v') := (KeepF.refl w).set_ h.hl v'
      refine ⟨p, rfl, by rw [e]; exact (hna.keep hk.n).drewN q, ?_, hk, ⟨rfl, rfl, rfl, by simp, fun k hk' => Below.heap_setCell _ _ _ _ (by have := h.tl; simp; omega)⟩⟩
      rw [e]
      refine ⟨v', _, pl, pm, QS.drewN ⟨?_, ?_, hne, ?_, h.fm.set_ h.hl (by decide) _, ?_, h.rl.2.keep hk.n, h.rm.keep hk.n, h.tl, h.tm⟩ q⟩
      · have := h.hl.set_ 0 v'
        simpa using this
      · exact h.hm.far (p := ⟨bl, 0, none⟩) (fun e => hne e.symm) v'
      · have := (Fs.tail (u := Ptr p) (xs := PP pl) hh)
        rw [← hv', hn] at this
        exact this.set_ h.hl (by decide) _
      · have := own_none_tail (m := n) (c' := cl - 1) h.ap
        rw [← hv'] at this
        exact this
    have HQ := Lib.hid h
    match made, pm, h.rm.len with
    | [], pm, _ =>
      have hmn : (Value.slice Am ([] : List HT).length cm) = Value.slice Am 0 cm := rfl
      rw [hmn] at hcm
      clear h hh hna hlen hw hpl hlf hn hlen1
      go_enter Tryd.func97, Tryd.ntmps97
      go_wp2_with fail
      go_quiet (fail)
      go_wp2_with fail
      all_goals
        go_ret
        have hx := HP.out nq
        rw [hv'] at hx
        first
          | (rw [if_neg h] at hx; exact hx)
          | (rw [if_pos h] at hx; exact hx)
          | (subst h; exact hx)
    | m :: made, q :: pm, hpm =>
      have hm2 := h.fm
      obtain ⟨gm, om, rfl, hcm0, _, hmc, _⟩ := hm2.head
      have hwm := h.rm.1.w.1
      have hwlm : m.w ≤ 100000000 := hw m (by simp)
      have hle : a.w ≤ m.w := by
        simp [isLeaf] at hlf
        exact hlf
      have hled : decide ((a.w : Int) ≤ (m.w : Int)) = true := decide_eq_true (by omega)
      obtain ⟨k, hk⟩ : ∃ k, k = made.length := ⟨_, rfl⟩
      have hmn : (Value.slice (some ⟨gm, om, none⟩) (m :: made).length cm) = Value.slice (some ⟨gm, om, none⟩) (k + 1) cm := by rw [hk]; rfl
      have hkb : k ≤ 1000 := by simp at hlen; omega
      have hmax2 : k + 1 ≤ cm := by rw [hk]; exact hmc
      rw [hmn] at hcm
      clear h hh hna hlen hw hpl hlf hn hlen1 hk hmc hm2 hmn
      go_enter Tryd.func97, Tryd.ntmps97
      go_wp2_with fail
      go_quiet (fail)
      go_wp2_with fail
      all_goals
        go_ret
        have hx := HP.out nq
        rw [hv'] at hx
        first
          | (rw [if_neg h] at hx; exact hx)
          | (rw [if_pos h] at hx; exact hx)
          | (subst h; exact hx)
set_option maxHeartbeats 1000000 in
theorem least_m (w : World) (T bl bm : Nat) (m : HT) (l made : List HT) (hq : Qs w T bl bm l (m :: made)) (hlf : isLeaf l (m :: made) = false) (hw : ∀ t ∈ l ++ (m :: made), t.w ≤ 100000000) (hlen : l.length + made.length ≤ 1000) :
    Calls Tryd.prog 97 #[.pointer (some ⟨bm, 0, none⟩), .pointer (some ⟨bl, 0, none⟩)] w fun e w' => LeastPost w T bl bm l (m :: made) e w' := by
  obtain ⟨vl, vm, pl, pm, h⟩ := hq
  obtain ⟨Al, cl, rfl⟩ := h.fl.shape
  obtain ⟨Am, cm, rfl⟩ := h.fm.shape
  match pm, h.rm.len with
  | p :: pm, hpm =>
    have hcl := h.hl.cell 0
    have hcm := h.hm.cell 0
    have hfm := h.hm.frozen 0
    simp at hcl hcm
    have hh := h.fm
    obtain ⟨gm, om, rfl, hc0, hn1, hnc, hcm'⟩ := hh.head
    have hna : NodeAt w m p := h.rm.1
    have hwa := hna.w.1
    have hwla : m.w ≤ 100000000 := hw m (by simp)
    obtain ⟨n, hn⟩ : ∃ n, n = made.length := ⟨_, rfl⟩
    have hn2 : n ≤ 1000 := by omega
    have hlen1 : (m :: made).length = n + 1 := by simp [hn]
    rw [hlen1] at hnc hh
    rw [← hn] at hcm
    have hmax : cm ≤ 9223372036854775807 := by
      have := hcm'
      unfold maxLen at this
      omega
    obtain ⟨v', hv'⟩ : ∃ v', v' = Value.slice (if cm = 1 then some ⟨gm, om, none⟩ else (some (⟨gm, om, none⟩ : Addr)).map (·.add 1)) n (cm - 1) := ⟨_, rfl⟩
    have HP : Hid (∀ q, LeastPost w T bl bm l (m :: made) (.returned (Ptr p)) ((w.setCell ⟨bm, 0, none⟩ v').drewN q)) := by
      intro q
      have hne : bl ≠ bm := h.ne
      have e : least l (m :: made) = (m, l, made) := by unfold least; rw [hlf]; rfl
      have hk : KeepF w (w.setCell ⟨bm, 0, none⟩ v') := (KeepF.refl w).set_ h.hm v'
      refine ⟨p, rfl, by rw [e]; exact (hna.keep hk.n).drewN q, ?_, hk, ⟨rfl, rfl, rfl, by simp, fun k hk' => Below.heap_setCell _ _ _ _ (by have := h.tm; simp; omega)⟩⟩
      rw [e]
      refine ⟨_, v', pl, pm, QS.drewN ⟨?_, ?_, hne, h.fl.set_ h.hm (by decide) _, ?_, ?_, h.rl.keep hk.n, h.rm.2.keep hk.n, h.tl, h.tm⟩ q⟩
      · exact h.hl.far (p := ⟨bm, 0, none⟩) hne v'
      · have := h.hm.set_ 0 v'
        simpa using this
      · have := (Fs.tail (u := Ptr p) (xs := PP pm) hh)
        rw [← hv', hn] at this
        exact this.set_ h.hm (by decide) _
      · have e2 : v'.ownBlock = some gm := by
          rw [hv']
          split
          · rfl
          · simp [Value.ownBlock, block_of_add]
        rw [e2]
        exact h.ap
    have HQ := Lib.hid h
    have hkd : ((n : Int) + 1 == 0) = false := beq_eq_false_iff_ne.2 (by omega)
    match l, pl, h.rl.len with
    | [], pl, _ =>
      have hmn : (Value.slice Al ([] : List HT).length cl) = Value.slice Al 0 cl := rfl
      rw [hmn] at hcl
      clear h hh hna hlen hw hpm hlf hn hlen1
      go_enter Tryd.func97, Tryd.ntmps97
      go_wp2_with fail
      go_quiet (fail)
      go_wp2_with fail
      all_goals
        go_ret
        have hx := HP.out nq
        rw [hv'] at hx
        first
          | (rw [if_neg h] at hx; exact hx)
          | (rw [if_pos h] at hx; exact hx)
          | (subst h; exact hx)
    | a :: l, q :: pl, hpl =>
      have hm2 := h.fl
      obtain ⟨gl, ol, rfl, hcl0, _, hlc, _⟩ := hm2.head
      have hwm := h.rl.1.w.1
      have hwlm : a.w ≤ 100000000 := hw a (by simp)
      have hle : ¬ a.w ≤ m.w := by
        simp [isLeaf] at hlf
        omega
      have hled : decide ((a.w : Int) ≤ (m.w : Int)) = false := decide_eq_false (by omega)
      obtain ⟨k, hk⟩ : ∃ k, k = l.length := ⟨_, rfl⟩
      have hmn : (Value.slice (some ⟨gl, ol, none⟩) (a :: l).length cl) = Value.slice (some ⟨gl, ol, none⟩) (k + 1) cl := by rw [hk]; rfl
      have hkb : k ≤ 1000 := by simp at hlen; omega
      have hmax2 : k + 1 ≤ cl := by rw [hk]; exact hlc
      rw [hmn] at hcl
      clear h hh hna hlen hw hpm hlf hn hlen1 hk hlc hm2 hmn
      go_enter Tryd.func97, Tryd.ntmps97
      go_wp2_with fail
      go_quiet (fail)
      go_wp2_with fail
      all_goals
        go_ret
        have hx := HP.out nq
        rw [hv'] at hx
        first
          | (rw [if_neg h] at hx; exact hx)
          | (rw [if_pos h] at hx; exact hx)
          | (subst h; exact hx)
theorem least_any (w : World) (T bl bm : Nat) (l made : List HT) (hq : Qs w T bl bm l made) (hpos : 0 < l.length + made.length) (hw : ∀ t ∈ l ++ made, t.w ≤ 100000000) (hlen : l.length + made.length ≤ 1000) :
    Calls Tryd.prog 97 #[.pointer (some ⟨bm, 0, none⟩), .pointer (some ⟨bl, 0, none⟩)] w fun e w' => LeastPost w T bl bm l made e w' := by
  cases hlf : isLeaf l made with
  | true =>
    match l with
    | [] =>
      match made with
      | [] => simp at hpos
      | m :: made => simp [isLeaf] at hlf
    | a :: l => exact least_l w T bl bm a l made hq hlf hw (by simp at hlen; omega)
  | false =>
    match made with
    | [] => simp [isLeaf] at hlf
    | m :: made => exact least_m w T bl bm m l made hq hlf hw (by simp at hlen; omega)
end Go.Proofs.YtejgoienkpaabaaDoor

/- press.measure: words and small laws. -/
namespace Go.Proofs.YtejgoienkpaabaaDoor
open Go.RowKit
set_option maxRecDepth 100000
/-- block g begins with these numbers, and is none of measure's own -/
def UsedAt (w : World) (g : Nat) (used : List Nat) : Prop :=
  ∃ t cs, t ≠ 169 ∧ t ≠ 170 ∧ t ≠ 85 ∧ Blk w g t cs ∧ ∀ j, j < used.length → cs[j]? = some (.int .i64 (used.getD j 0 : Int))
theorem UsedAt.cell {w : World} {g : Nat} {used : List Nat} (h : UsedAt w g used) {j : Nat} (hj : j < used.length) : w.cell? ⟨g, j, none⟩ = some (.int .i64 (used.getD j 0 : Int)) := by
  obtain ⟨t, cs, _, _, _, hb, hc⟩ := h
  rw [hb.cell]
  exact hc j hj
theorem UsedAt.keep {w w' : World} {g : Nat} {used : List Nat} (h : UsedAt w g used) (hk : ∀ t cs, t ≠ 169 → t ≠ 170 → t ≠ 85 → Blk w g t cs → Blk w' g t cs) : UsedAt w' g used := by
  obtain ⟨t, cs, h1, h2, h3, hb, hc⟩ := h
  exact ⟨t, cs, h1, h2, h3, hk t cs h1 h2 h3 hb, hc⟩
theorem UsedAt.keepF {w w' : World} {g : Nat} {used : List Nat} (h : UsedAt w g used) (hk : KeepF w w') : UsedAt w' g used := h.keep fun t cs h1 h2 _ hb => hk g t cs h1 h2 hb
/-- the order that the sort gives the leaves -/
def srtP (ts : List HT) : List Nat := stableP (fun i => (ts.getD i default).w) ts.length (List.range ts.length)
theorem blk_setCells (g : Nat) (t : TypeId) : ∀ (row row' pre post : List Nat) (w : World), row'.length = row.length → Blk w g t (IA (pre ++ row ++ post)) → Blk (w.setCells g pre.length (I row')) g t (IA (pre ++ row' ++ post)) := by
  intro row
  induction row with
  | nil =>
    intro row' pre post w hl hb
    have : row' = [] := List.eq_nil_of_length_eq_zero (by simpa using hl)
    subst this
    exact hb
  | cons x row ih =>
    intro row' pre post w hl hb
    match row', hl with
    | y :: row', hl =>
      have h1 := hb.set_ (pre.length + 0) (.int .i64 (y : Int))
      rw [IA_set _ _ _ _ _ (by simp)] at h1
      have e1 : pre ++ (x :: row).set 0 y ++ post = (pre ++ [y]) ++ row ++ post := by simp
      rw [e1] at h1
      have h2 := ih row' (pre ++ [y]) post _ (by simpa using hl) h1
      have e2 : (pre ++ [y]) ++ row' ++ post = pre ++ (y :: row') ++ post := by simp
      rw [e2, List.length_append] at h2
      exact h2
theorem below_setCells2 (g : Nat) : ∀ (vs : List Value) (o : Nat) (w : World), w.grownBy (w.setCells g o vs) (some g) := by
  intro vs
  induction vs with
  | nil => intro o w; exact gb_refl _ _
  | cons v vs ih => intro o w; exact gb_trans (gb_set (gb_refl _ _) (.inl rfl) _) (ih (o + 1) _)
theorem I_zeros (n : Nat) : I (List.replicate n 0) = List.replicate n (.int .i64 0) := by simp [I]
/-- the leaves' pointers in an order -/
theorem PV_pick (pl : List Nat) (σ : List Nat) : PV (fun i => pl.getD i 0) σ = PP (σ.map fun i => pl.getD i 0) := by simp [PV, PP]
theorem Roots.get {w : World} : ∀ {l : List HT} {ps : List Nat}, Roots w l ps → ∀ i, i < l.length → NodeAt w (l.getD i default) (ps.getD i 0)
  | t :: l, p :: ps, h, 0, _ => h.1
  | t :: l, p :: ps, h, i + 1, hi => by
    simp only [List.getD_cons_succ]
    exact Roots.get h.2 i (by simpa using hi)
  | [], _, _, i, hi => by simp at hi
  | _ :: _, [], h, _, _ => by cases h
theorem Roots.pick {w : World} {l : List HT} {ps : List Nat} (h : Roots w l ps) : ∀ σ : List Nat, (∀ i ∈ σ, i < l.length) → Roots w (pick l σ) (σ.map fun i => ps.getD i 0)
  | [], _ => trivial
  | i :: σ, hs => ⟨h.get i (hs i (List.mem_cons_self ..)), Roots.pick h σ (fun j hj => hs j (List.mem_cons_of_mem _ hj))⟩
theorem map_getD_range (ps : List Nat) (n : Nat) (h : ps.length = n) : (List.range n).map (fun i => ps.getD i 0) = ps := by
  apply List.ext_getElem?
  intro i
  rw [List.getElem?_map]
  by_cases hi : i < n
  · rw [List.getElem?_range hi, List.getElem?_eq_getElem (by omega)]
    simp [List.getD_eq_getElem?_getD, List.getElem?_eq_getElem (show i < ps.length by omega)]
  · rw [List.getElem?_eq_none (by simpa using hi), List.getElem?_eq_none (by omega)]; rfl
theorem lvs_w (used : List Nat) (s : Nat) : wsum (lvs used s) ≤ used.sum := by
  have gen : ∀ s, wsum (lvs used s) ≤ (used.take s).sum := by
    intro s
    induction s with
    | zero => simp [lvs, wsum]
    | succ s ih =>
      rw [lvs, wsum_append]
      by_cases hs : s < used.length
      · rw [List.take_succ_eq_append_getElem hs, List.sum_append]
        have e : used.getD s 0 = used[s] := by simp [List.getD_eq_getElem?_getD, List.getElem?_eq_getElem hs]
        rw [e]
        split
        · have e2 : wsum [HT.leaf used[s] s] = used[s] := by simp [wsum, HT.w]
          have e3 : [used[s]].sum = used[s] := by simp
          rw [e2, e3]
          omega
        · have e2 : wsum [] = 0 := rfl
          rw [e2]
          omega
      · rw [getD_big _ _ (by omega)]
        simp [wsum]
        rw [List.take_of_length_le (by omega)] at ih ⊢
        exact ih
  refine Nat.le_trans (gen s) ?_
  conv => rhs; rw [← List.take_append_drop s used, List.sum_append]
  omega
theorem w_le_wsum (l : List HT) : ∀ t ∈ l, t.w ≤ wsum l := by
  induction l with
  | nil => intro t h; cases h
  | cons a l ih =>
    intro t h
    simp only [wsum, List.map_cons, List.sum_cons]
    rw [List.mem_cons] at h
    rcases h with rfl | h
    · omega
    · have := ih t h; simp only [wsum] at this; omega
theorem wsum_perm {a b : List HT} (h : a.Perm b) : wsum a = wsum b := (h.map _).sum_nat
end Go.Proofs.YtejgoienkpaabaaDoor

/- Plain: the coded form. -/
namespace Go.Proofs.YtejgoienkpaabaaDoor
set_option maxRecDepth 20000
def bump (u : List Nat) (s : Nat) : List Nat := u.set s (u.getD s 0 + 1)
theorem bump_length (u : List Nat) (s : Nat) : (bump u s).length = u.length := by simp [bump]
def usedL : List Tok → List Nat → List Nat
  | [], u => u
  | t :: ts, u => usedL ts (bump u t.sym)
def waysL : List Tok → List Nat → List Nat
  | [], u => u
  | t :: ts, u => waysL ts (if t.cp then bump u t.dist else u)
theorem usedL_length (ts : List Tok) : ∀ u, (usedL ts u).length = u.length := by
  induction ts with
  | nil => intro u; rfl
  | cons t ts ih => intro u; rw [usedL, ih, bump_length]
theorem waysL_length (ts : List Tok) : ∀ u, (waysL ts u).length = u.length := by
  induction ts with
  | nil => intro u; rfl
  | cons t ts ih => intro u; rw [waysL, ih]; split; exact bump_length _ _; rfl
theorem bump_sum (u : List Nat) (s : Nat) (h : s < u.length) : (bump u s).sum = u.sum + 1 := by
  unfold bump
  induction u generalizing s with
  | nil => simp at h
  | cons a u ih =>
    cases s with
    | zero => simp; omega
    | succ s =>
      simp only [List.getD_cons_succ, List.set_cons_succ, List.sum_cons]
      rw [ih s (by simpa using h)]
      omega
theorem bump_le (u : List Nat) (s : Nat) : (bump u s).sum ≤ u.sum + 1 := by
  by_cases h : s < u.length
  · rw [bump_sum u s h]; exact Nat.le_refl _
  · unfold bump
    rw [List.set_eq_of_length_le (by omega)]
    omega
theorem usedL_sum (ts : List Tok) : ∀ u, (usedL ts u).sum ≤ u.sum + ts.length := by
  induction ts with
  | nil => intro u; simp [usedL]
  | cons t ts ih => intro u; rw [usedL]; have h1 := ih (bump u t.sym); have h2 := bump_le u t.sym; simp; omega
theorem waysL_sum (ts : List Tok) : ∀ u, (waysL ts u).sum ≤ u.sum + ts.length := by
  induction ts with
  | nil => intro u; simp [waysL]
  | cons t ts ih =>
    intro u
    rw [waysL]
    have h2 := bump_le u t.dist
    split
    · have h1 := ih (bump u t.dist); simp; omega
    · have h1 := ih u; simp; omega
theorem bump_get (u : List Nat) (s i : Nat) (h : s < u.length) : (bump u s).getD i 0 = u.getD i 0 + if i = s then 1 else 0 := by
  unfold bump
  rw [List.getD_eq_getElem?_getD, List.getElem?_set]
  by_cases hi : s = i
  · subst hi; rw [if_pos rfl, if_pos h, if_pos rfl]; rfl
  · rw [if_neg hi, if_neg (fun e => hi e.symm), ← List.getD_eq_getElem?_getD]; rfl
theorem bump_mono (u : List Nat) (s i : Nat) : u.getD i 0 ≤ (bump u s).getD i 0 := by
  by_cases h : s < u.length
  · rw [bump_get u s i h]; exact Nat.le_add_right _ _
  · unfold bump; rw [List.set_eq_of_length_le (by omega)]; exact Nat.le_refl _
theorem usedL_mono (ts : List Tok) : ∀ u i, u.getD i 0 ≤ (usedL ts u).getD i 0 := by
  induction ts with
  | nil => intro u i; exact Nat.le_refl _
  | cons t ts ih => intro u i; rw [usedL]; exact Nat.le_trans (bump_mono u t.sym i) (ih _ i)
theorem waysL_mono (ts : List Tok) : ∀ u i, u.getD i 0 ≤ (waysL ts u).getD i 0 := by
  induction ts with
  | nil => intro u i; exact Nat.le_refl _
  | cons t ts ih =>
    intro u i
    rw [waysL]
    split
    · exact Nat.le_trans (bump_mono u t.dist i) (ih _ i)
    · exact ih u i
theorem usedL_pos (ts : List Tok) : ∀ u, (∀ t ∈ ts, t.sym < u.length) → ∀ t ∈ ts, 0 < (usedL ts u).getD t.sym 0 := by
  induction ts with
  | nil => intro u _ t h; cases h
  | cons a ts ih =>
    intro u hu t ht
    rw [usedL]
    rw [List.mem_cons] at ht
    rcases ht with rfl | ht
    · have h1 := usedL_mono ts (bump u t.sym) t.sym
      rw [bump_get u t.sym t.sym (hu t (List.mem_cons_self ..)), if_pos rfl] at h1
      omega
    · exact ih _ (fun x hx => by rw [bump_length]; exact hu x (List.mem_cons_of_mem _ hx)) t ht
theorem waysL_pos (ts : List Tok) : ∀ u, (∀ t ∈ ts, t.cp = true → t.dist < u.length) → ∀ t ∈ ts, t.cp = true → 0 < (waysL ts u).getD t.dist 0 := by
  induction ts with
  | nil => intro u _ t h; cases h
  | cons a ts ih =>
    intro u hu t ht hc
    rw [waysL]
    rw [List.mem_cons] at ht
    rcases ht with rfl | ht
    · rw [if_pos hc]
      have h1 := waysL_mono ts (bump u t.dist) t.dist
      rw [bump_get u t.dist t.dist (hu t (List.mem_cons_self ..) hc), if_pos rfl] at h1
      omega
    · refine ih _ (fun x hx hxc => ?_) t ht hc
      have := hu x (List.mem_cons_of_mem _ hx) hxc
      split
      · rw [bump_length]; exact this
      · exact this
def usedP (b : List UInt8) : List Nat := usedL (foundP b) (List.replicate 277 0)
def waysP (b : List UInt8) : List Nat := waysL (foundP b) (List.replicate 18 0)
def slP (b : List UInt8) : List Nat := measP srtP ((usedP b).sum + 1) (usedP b) (List.replicate 277 0)
def dlP (b : List UInt8) : List Nat := measP srtP ((waysP b).sum + 1) (waysP b) (List.replicate 18 0)
/-- the number at place i of the two rows -/
def lenOf2 (sl dl : List Nat) (i : Nat) : Nat := if i < 277 then sl.getD i 0 else dl.getD (i - 277) 0
def tabP (sl dl : List Nat) (k : Nat) : List UInt8 := (List.range k).map fun j => UInt8.ofNat (16 * lenOf2 sl dl (2 * j) + lenOf2 sl dl (2 * j + 1))
def shortP (b : List UInt8) : List UInt8 := (1 :: varP b.length) ++ tabP (slP b) (dlP b) 148 ++ pack (toksBits (slP b) (dlP b) (foundP b))
theorem chain_toks : ∀ (ts : List Tok) (out b : List UInt8), Chain ts out b → ∀ t ∈ ts, t.sym < 277 ∧ (t.cp = true → t.dist < 18 ∧ 256 ≤ t.sym ∧ (8 ≤ t.sym - 256 → t.extra < 2 ^ (t.sym - 256 - 5)) ∧ (4 ≤ t.dist → t.far < 2 ^ (t.dist - 2))) := by
  intro ts
  induction ts with
  | nil => intro out b _ t h; cases h
  | cons a ts ih =>
    intro out b h t ht
    obtain ⟨o, h1, h2⟩ := h
    rw [List.mem_cons] at ht
    rcases ht with rfl | ht
    · rcases h1 with ⟨c1, c2, _⟩ | ⟨c1, c2, c3, c4, c5, c6, _⟩
      · exact ⟨by omega, fun hc => by rw [c1] at hc; cases hc⟩
      · exact ⟨c3, fun _ => ⟨c4, c2, c5, c6⟩⟩
    · exact ih o b h2 t ht
theorem found_toks (b : List UInt8) (hb : b.length ≤ 65536) : ∀ t ∈ foundP b, t.sym < 277 ∧ (t.cp = true → t.dist < 18 ∧ 256 ≤ t.sym ∧ (8 ≤ t.sym - 256 → t.extra < 2 ^ (t.sym - 256 - 5)) ∧ (4 ≤ t.dist → t.far < 2 ^ (t.dist - 2))) :=
  chain_toks _ _ _ (found_chain b hb)
theorem found_len (b : List UInt8) (hb : b.length ≤ 65536) : (foundP b).length ≤ b.length := by
  have := chain_len _ _ _ (found_chain b hb)
  simpa using this
end Go.Proofs.YtejgoienkpaabaaDoor
