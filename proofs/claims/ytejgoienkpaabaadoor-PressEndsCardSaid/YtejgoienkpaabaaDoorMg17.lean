/- BookA, BookB, BookC (merged: one text behind the other). -/
import Derived.Test.YtejgoienkpaabaaDoorMg16
/- The law's Book: words, and its small functions. -/
namespace Go.Proofs.YtejgoienkpaabaaDoor
open Go.RowKit
set_option maxRecDepth 100000
/-- byte k of the mark of list n -/
def atm (n k : Nat) : Nat := if k % 2 = 0 then 1 + n else 1 + 7 * n
theorem mark_any (n k : Nat) (w : World) (hn : n ≤ 30) : Calls Tryd.prog 31 #[.int .i64 n, .int .i64 k] w fun e w' => e = .returned (.int .u8 (atm n k : Int)) ∧ w' = w := by
  obtain ⟨r, hr⟩ : ∃ r, r = k % 2 := ⟨_, rfl⟩
  have e1 : (k : Int) % 2 = (r : Int) := by omega
  have e2 : (k : Int).tmod 2 = (r : Int) := by rw [Int.tmod_eq_emod_of_nonneg (by omega)]; exact e1
  have e3 : (n : Int) % 251 = (n : Int) := by omega
  have e4 : (n : Int).tmod 251 = (n : Int) := by rw [Int.tmod_eq_emod_of_nonneg (by omega)]; exact e3
  have e5 : (n : Int) / 251 = 0 := by omega
  have e6 : (n : Int).tdiv 251 = 0 := by rw [Int.tdiv_eq_ediv_of_nonneg (by omega)]; exact e5
  have e7 : (7 * (n : Int) + 0) % 251 = 7 * (n : Int) := by omega
  have e8 : (7 * (n : Int) + 0).tmod 251 = 7 * (n : Int) := by rw [Int.tmod_eq_emod_of_nonneg (by omega)]; exact e7
  have e9 : (7 * (n : Int)) % 251 = 7 * (n : Int) := by omega
  have e10 : IntKind.u8.wrap (1 + (n : Int)) = 1 + (n : Int) := wraps_u8 _ (by omega) (by omega)
  have e11 : IntKind.u8.wrap (1 + 7 * (n : Int)) = 1 + 7 * (n : Int) := wraps_u8 _ (by omega) (by omega)
  have HR := Lib.hid hr
  go_enter Tryd.func31, Tryd.ntmps31
  by_cases h0 : r = 0
  · have hb : ((r : Int) == 0) = true := beq_iff_eq.2 (by omega)
    have HA : Hid (atm n k = 1 + n) := by show _ = _; rw [atm, if_pos (by rw [← hr]; exact h0)]
    clear hr h0
    go_wp2_with fail
    go_ret
    exact ⟨by rw [HA.out]; push_cast; rfl, rfl⟩
  · have hb : ((r : Int) == 0) = false := beq_eq_false_iff_ne.2 (by omega)
    have HA : Hid (atm n k = 1 + 7 * n) := by show _ = _; rw [atm, if_neg (by rw [← hr]; exact h0)]
    clear hr h0
    go_wp2_with fail
    go_ret
    exact ⟨by rw [HA.out]; push_cast; rfl, rfl⟩
/-- a Book's cells -/
def bk (B O : Value) (p turn done used : Nat) : Array Value :=
  List.toArray [B, O, .int .i64 p, .slice none 0 0, .slice none 0 0, .int .i64 0, .slice none 0 0, .slice none 0 0, .int .i64 0, .slice none 0 0, .slice none 0 0, .int .i64 0,
    .slice none 0 0, .slice none 0 0, .int .i64 0, .slice none 0 0, .slice none 0 0, .int .i64 0, .slice none 0 0, .slice none 0 0, .int .i64 0, .slice none 0 0, .slice none 0 0, .int .i64 0,
    .slice none 0 0, .slice none 0 0, .int .i64 0, .slice none 0 0, .slice none 0 0, .int .i64 0, .slice none 0 0, .slice none 0 0, .int .i64 0, .int .i64 turn, .int .i64 done, .int .i64 used]
theorem bk_start (w : World) : (Instr.build 48 #[]).run Tryd.prog w = .ok (.agg (bk (.slice none 0 0) (.slice none 0 0) 0 0 0 0)) w := run_build w 48 _ _ (by kernel_rfl)
set_option maxHeartbeats 400000 in
theorem tight_any (gb n : Nat) (B O : Value) (p turn done used : Nat) (w : World) (hb : Blk w gb 48 (bk B O p turn done used)) (h : used + n ≤ 16777216) :
    Calls Tryd.prog 32 #[.pointer (some ⟨gb, 0, none⟩), .int .i64 n] w fun e w' => e = .returned (.bool false) ∧ w' = w.setCell ⟨gb, 35, none⟩ (.int .i64 ((used + n : Nat) : Int)) := by
  have hc : w.cell? ⟨gb, 35, none⟩ = some (.int .i64 (used : Int)) := by rw [hb.cell, bk, List.getElem?_toArray]; rfl
  have hf := hb.frozen 35
  obtain ⟨y, hy⟩ : ∃ y, y = used + n := ⟨_, rfl⟩
  have e : (used : Int) + (n : Int) = (y : Int) := by omega
  have hd : decide ((16777216 : Int) < (y : Int)) = false := decide_eq_false (by omega)
  have hyb : y ≤ 16777216 := by omega
  rw [← hy]
  clear hb hy h
  go_enter Tryd.func32, Tryd.ntmps32
  go_wp2_with fail
  go_ret
  exact ⟨rfl, rfl⟩
/-- two rows of other kinds lie apart -/
theorem own_apart {w : World} {base base' : Nat} {e e' : TypeId} {size size' n n' : Nat} {v v' : Value} {xs xs' : List Value} (h : w.ownsRow base e size v n xs) (h' : w.ownsRow base' e' size' v' n' xs') (hne : e ≠ e') : v.ownBlock = none ∨ v.ownBlock ≠ v'.ownBlock := by
  rcases h.2 with ⟨rfl, _⟩ | ⟨g, cap, cur, rfl, _, hh, _⟩
  · exact .inl rfl
  · refine .inr fun he => ?_
    have hb : Blk w g e cur := hh
    exact own_blk_ne h' hb (fun x => hne x.symm) he.symm
/-- an own row while one of its cells is written -/
theorem own_set {w : World} {base e n g i c : Nat} {xs : List Value} (h : w.ownsRow base e 1 (.slice (some ⟨g, 0, none⟩) n c) n xs) (u : Value) :
    (w.setCell ⟨g, i, none⟩ u).ownsRow base e 1 (.slice (some ⟨g, 0, none⟩) n c) n (xs.set i u) := by
  refine ⟨by rw [List.length_set]; exact h.1, ?_⟩
  rcases h.2 with ⟨h2, _⟩ | ⟨g', cap, cur, hv, hb, hh, hc, hm, hs, ht⟩
  · cases h2
  · injection hv with hv1 hv2 hv3
    injection hv1 with hv1
    injection hv1 with hv1
    subst hv1 hv3
    have hB : Blk w g e cur := hh
    refine .inr ⟨g, c, cur.setIfInBounds i u, rfl, hb, hB.set_ i u, hc, hm, by simp [hs], ?_⟩
    rw [Array.toList_setIfInBounds, List.take_set, ht]
theorem own_cell {w : World} {base e n g i c : Nat} {xs : List Value} (h : w.ownsRow base e 1 (.slice (some ⟨g, 0, none⟩) n c) n xs) (hi : i < n) : ∃ u, w.cell? ⟨g, i, none⟩ = some u ∧ w.frozen? ⟨g, i, none⟩ = false ∧ g < w.heap.size := by
  rcases h.2 with ⟨h2, _⟩ | ⟨g', cap, cur, hv, hb, hh, hc, hm, hs, ht⟩
  · cases h2
  · injection hv with hv1 hv2 hv3
    injection hv1 with hv1
    injection hv1 with hv1
    subst hv1 hv3
    have hB : Blk w g e cur := hh
    refine ⟨cur[i]'(by rw [hs]; omega), by rw [hB.cell]; exact Array.getElem?_eq_getElem _, hB.frozen i, hB.lt⟩
/-- append of one element onto an own row: the row's old block keeps its cells below the row's length -/
def Safe (w w' : World) (v : Value) (n : Nat) : Prop :=
  ∀ h cs t, Blk w h t cs → (v.ownBlock ≠ some h → Blk w' h t cs) ∧ (v.ownBlock = some h → ∃ cs', Blk w' h t cs' ∧ ∀ j, j < n → cs'[j]? = cs[j]?)
theorem safe_of {P : Program} (w w' : World) (base : Nat) (t ty e : TypeId) (i : TypeInfo) (z : Value) (bytes : Nat) (ht : P.underlying t = some (.slice e)) (hi : P.info? e = some i) (hz : i.zero = some z)
    (hsize : i.size = 1) (v v' : Value) (n : Nat) (xs : List Value) (hown : w.ownsRow base e 1 v n xs)
    (a : Addr) (c : Nat) (u : Value) (hnews : w.cell? a = some u) (h63 : n + 1 ≤ maxLen) (hby : i.bytes = bytes) (hbytes : (n + 1) * bytes ≤ 140737488355328)
    (hrun : (Builtin.append_ #[t, t] ty #[v, .slice (some a) 1 c]).run P w = .ok v' w') (hg : w.grownBy w' v.ownBlock) (hown' : w'.ownsRow base e 1 v' (n + 1) (xs ++ [u])) (hu : u.oneCell' = true) : Safe w w' v n := by
  have hnews' : ∀ j x, ([u] : List Value)[j]? = some x → w.cell? (a.add j) = some x := by
    intro j x hj
    match j, hj with
    | 0, hj => simp at hj; subst hj; simpa [Addr.add] using hnews
  have hfar : ∀ h cs tt, Blk w h tt cs → v.ownBlock ≠ some h → Blk w' h tt cs := fun h cs tt hB hne => hB.gb hg (fun e => hne e.symm)
  have h63i : ((n + 1 : Nat) : Int) ≤ 9223372036854775807 := by simp only [maxLen] at h63; omega
  intro h cs tt hB
  refine ⟨hfar h cs tt hB, fun hv => ?_⟩
  rcases hown.2 with ⟨rfl, rfl⟩ | ⟨g, cap, cur, rfl, hbg, hgg, hnc, hcm, hcs, htake⟩
  · simp [Value.ownBlock] at hv
  · obtain rfl : g = h := by simpa [Value.ownBlock] using hv
    by_cases hroom : n + 1 ≤ cap
    · have hr := run_append_room (P := P) w t ty e i ht hi g n cap cur hgg a 1 c [u] (by simp [hsize]) hnews' (by intro x hx; simp at hx; subst hx; exact hu) hroom (by simp [hsize, hcs]; omega)
      rw [hrun] at hr
      injection hr with hr1 hr2
      subst hr1
      rcases hown'.2 with ⟨h2, _⟩ | ⟨g', cap', cur', hv', _, hh', _, _, hs', ht'⟩
      · cases h2
      · injection hv' with hv1 hv2 hv3
        injection hv1 with hv1
        injection hv1 with hv1
        subst hv1
        have hB0 : Blk w g e cur := hgg
        unfold Blk at hB hB0
        rw [hB0] at hB
        injection hB with hB
        injection hB with hB1 hB2
        subst hB1 hB2
        refine ⟨cur', hh', fun j hj => ?_⟩
        have e1 : cur'[j]? = (xs ++ [u])[j]? := by
          rw [← ht', List.getElem?_take, if_pos (by omega)]; simp
        have e2 : cur[j]? = xs[j]? := by
          rw [← htake, List.getElem?_take, if_pos (by omega)]; simp
        have hl : xs.length = n := by have := hown.1; simpa using this
        rw [e1, e2, List.getElem?_append_left (by omega)]
    · have holds : ∀ j x, xs[j]? = some x → w.cell? ((⟨g, 0, none⟩ : Addr).add j) = some x := hown.cells (g := g) rfl
      have hr := run_append_grow (P := P) w t ty e i z ht hi hz ⟨g, 0, none⟩ n cap xs (by rw [hsize]; exact hown.1) holds a 1 c [u] (by simp [hsize]) hnews' (by omega) h63i (by rw [hby]; exact growslice_fits (by omega) hbytes)
      rw [hrun] at hr
      injection hr with hr1 hr2
      subst hr2
      exact ⟨cs, (show Blk w.drew g tt cs from hB).alloc _, fun _ _ => rfl⟩
end Go.Proofs.YtejgoienkpaabaaDoor

/- The law's Book: Bytes. -/
namespace Go.Proofs.YtejgoienkpaabaaDoor
open Go.RowKit
set_option maxRecDepth 100000
/-- append of one element onto an own row, and what it leaves as it is -/
theorem wpList_pushS {P : Program} (W : World) {ops : Array Oper} {rest : List Oper} {o : Oper} {a : Act} {Q : Exit → Act → World → Prop} (hgd : o.guard = none) (s x : Operand) (t : TypeId)
    (ho : o.op = .call { callee := .builtin .append, args := #[s, x], argTypes := #[t, t] })
    (base : Nat) (e : TypeId) (i : TypeInfo) (z : Value) (bytes : Nat) (ht : P.underlying t = some (.slice e)) (hi : P.info? e = some i) (hz : i.zero = some z)
    (hsize : i.size = 1) (hby : i.bytes = bytes) (hzs : z.cells.size = 1)
    (A : Option Addr) (n c : Nat) (xs : List Value) (hs : a.eval s = .slice A n c) (hown : W.ownsRow base e 1 (.slice A n c) n xs)
    (u : Value) (te : TypeId) (h1 : u.oneCell' = true) (H : Nat) (hx : a.eval x = .slice (some ⟨H, 0, none⟩) 1 1) (hH : H = W.heap.size)
    (hbytes : (n + 1) * bytes ≤ 140737488355328) (h63 : n + 1 ≤ maxLen) (hbase : base ≤ W.heap.size)
    (h : ∀ A' c' w', w'.ownsRow base e 1 (.slice A' (n + 1) c') (n + 1) (xs ++ [u]) → W.grownBy w' (Value.slice A n c).ownBlock → Safe W w' (.slice A n c) n →
      ((Value.slice A' (n + 1) c').ownBlock = (Value.slice A n c).ownBlock ∨ ∃ q, (Value.slice A' (n + 1) c').ownBlock = some q ∧ W.heap.size ≤ q) → wpList P ops Q rest (a.put o.dst (.slice A' (n + 1) c')) w') :
    wpList P ops Q (o :: rest) a (W.alloc (.cells #[u] te)) := by
  subst hH
  have hcell : (W.alloc (.cells #[u] te)).cell? ⟨W.heap.size, 0, none⟩ = some u := by
    have := (Blk.new W te #[u]).cell 0
    exact this
  have hnews : ∀ j v, ([u] : List Value)[j]? = some v → (W.alloc (.cells #[u] te)).cell? ((⟨W.heap.size, 0, none⟩ : Addr).add j) = some v := by
    intro j v hj
    match j, hj with
    | 0, hj => simp at hj; subst hj; rw [addr_add, Nat.zero_add]; exact hcell
  have hu1 : ∀ v ∈ ([u] : List Value), v.oneCell' = true := by intro v hv; simp at hv; subst hv; exact h1
  obtain ⟨v', w', hrun, ho', hg', _, h5⟩ := run_append_own_at (P := P) (W.alloc (.cells #[u] te)) base t o.type e i z 1 bytes ht hi hz hsize hby hzs (by decide) (.slice A n c) n xs (hown.alloc _) ⟨W.heap.size, 0, none⟩ 1 1 [u] rfl hnews hu1 h63 hbytes (by simp; omega)
  have hsafe := safe_of (P := P) _ w' base t o.type e i z bytes ht hi hz hsize (.slice A n c) v' n xs (hown.alloc _) ⟨W.heap.size, 0, none⟩ 1 u hcell h63 hby hbytes hrun hg' ho' h1
  refine wpList_plain hgd fun K hK => ?_
  unfold Oper.wp execOp
  simp only [ho, resolve, invoke, builtin, Sem.run_bind, Sem.run_pure, Result.andThen_ok, List.map_toArray, List.map_cons, List.map_nil, hs, hx, hrun]
  obtain ⟨A', c', rfl⟩ := own_shape ho'
  refine hK _ _ (h A' c' w' ho' (gb_trans (gb_alloc (gb_refl _ _) _) hg') (fun k cs t hB => ?_) ?_)
  · exact hsafe k cs t (hB.alloc _)
  · rcases h5 with h5 | h5
    · exact .inl h5
    · exact .inr ⟨_, h5, by simp⟩
structure En where
  A : Option Addr
  n : Nat
  c : Nat
  m : Nat
def En.v (e : En) : Value := .slice e.A e.n e.c
def EnOK (w : World) (e : En) : Prop := e.n = 0 ∨ ∃ h cs, e.A = some ⟨h, 0, none⟩ ∧ Blk w h 5 cs ∧ ∀ j, j < e.n → cs[j]? = some (.int .u8 (atm e.m j : Int))
def marks (m n : Nat) : List Value := (List.range n).map fun j => .int .u8 (atm m j : Int)
theorem marks_length (m n : Nat) : (marks m n).length = n := by simp [marks]
theorem marks_succ (m n : Nat) : marks m (n + 1) = marks m n ++ [.int .u8 (atm m n : Int)] := by simp [marks, List.range_succ]
theorem marks_get (m n j : Nat) (h : j < n) : (marks m n)[j]? = some (.int .u8 (atm m j : Int)) := by simp [marks, h]
structure Bks (w : World) (T gb : Nat) (B O : Value) (es : List En) (p turn done used : Nat) : Prop where
  blk : Blk w gb 48 (bk B O p turn done used)
  ownB : w.ownsRow T 22 1 B es.length (es.map En.v)
  ownO : w.ownsRow T 3 1 O es.length (es.map fun e => .int .i64 (e.m : Int))
  ents : ∀ e ∈ es, EnOK w e
  hgb : T ≤ gb
structure Kp (T : Nat) (L : Nat → Prop) (w w' : World) : Prop where
  os : w'.os = w.os
  tape : w'.tape = w.tape
  output : w'.output = w.output
  size : w.heap.size ≤ w'.heap.size
  block : ∀ k, k < T → ¬ L k → w'.heap[k]? = w.heap[k]?
theorem Kp.refl (T : Nat) (L : Nat → Prop) (w : World) : Kp T L w w := ⟨rfl, rfl, rfl, Nat.le_refl _, fun _ _ _ => rfl⟩
theorem Kp.trans {T : Nat} {L : Nat → Prop} {a b c : World} (h : Kp T L a b) (k : Kp T L b c) : Kp T L a c :=
  ⟨k.os.trans h.os, k.tape.trans h.tape, k.output.trans h.output, Nat.le_trans h.size k.size, fun i hi hn => (k.block i hi hn).trans (h.block i hi hn)⟩
theorem Kp.gb {T : Nat} {L : Nat → Prop} {w w' : World} {row : Option Nat} (h : w.grownBy w' row) (hT : T ≤ w.heap.size) (hr : ∀ q, row = some q → L q ∨ T ≤ q) : Kp T L w w' :=
  ⟨h.os, h.tape, h.output, h.size, fun k hk hn => h.block k (by omega) (fun e => by rcases hr k e.symm with h | h; exact hn h; omega)⟩
theorem Kp.set_ {T : Nat} {L : Nat → Prop} (w : World) {p : Addr} (hp : L p.block ∨ T ≤ p.block) (u : Value) : Kp T L w (w.setCell p u) :=
  ⟨rfl, rfl, rfl, by simp [World.setCell], fun k hk hn => Below.heap_setCell w p u k (by rintro rfl; rcases hp with h | h; exact hn h; omega)⟩
theorem Kp.mono {T : Nat} {L L' : Nat → Prop} {w w' : World} (h : Kp T L w w') (hl : ∀ q, L q → L' q) : Kp T L' w w' := ⟨h.os, h.tape, h.output, h.size, fun k hk hn => h.block k hk (fun e => hn (hl k e))⟩
theorem EnOK.far {w w' : World} {e : En} (h : EnOK w e) (hk : ∀ g cs, e.A = some ⟨g, 0, none⟩ → Blk w g 5 cs → Blk w' g 5 cs) : EnOK w' e := by
  rcases h with h | ⟨g, cs, hA, hB, hc⟩
  · exact .inl h
  · exact .inr ⟨g, cs, hA, hk g cs hA hB, hc⟩
theorem EnOK.other {w w' : World} {e : En} (h : EnOK w e) {base t size n : Nat} {v : Value} {xs : List Value} (ho : w.ownsRow base t size v n xs) (ht : t ≠ 5) (hg : w.grownBy w' v.ownBlock) : EnOK w' e :=
  h.far fun _ _ _ hB => hB.gb hg (fun e => own_blk_ne ho hB ht e.symm)
theorem EnOK.set_ {w : World} {e : En} (h : EnOK w e) {g t : Nat} {cs : Array Value} (hb : Blk w g t cs) (ht : t ≠ 5) (i : Nat) (u : Value) : EnOK (w.setCell ⟨g, i, none⟩ u) e :=
  h.far fun _ _ _ hB => hB.far (p := ⟨g, i, none⟩) (Blk.ne_ hB hb (fun e => ht e.symm)) u
theorem EnOK.of_own {w : World} {base n c m : Nat} {A : Option Addr} (h : w.ownsRow base 5 1 (.slice A n c) n (marks m n)) : EnOK w ⟨A, n, c, m⟩ := by
  by_cases h0 : n = 0
  · exact .inl h0
  · rcases h.2 with ⟨_, h2⟩ | ⟨g, cap, cur, hv, hb, hh, hc, hm, hs, ht⟩
    · exact absurd h2 h0
    · injection hv with hv1 hv2 hv3
      refine .inr ⟨g, cur, hv1, hh, fun j hj => ?_⟩
      have hj' : j < n := hj
      rw [← marks_get m n j hj', ← ht, List.getElem?_take, if_pos (by omega)]
      simp
theorem info22 : (Tryd.prog.info? 22).map (fun i => (i.zero, i.size, i.bytes)) = some (some (.slice none 0 0), 1, 24) := by kernel_rfl
def BytRel (w : World) (T gb bl n c m : Nat) (A : Option Addr) (B O : Value) (es : List En) (ys : List Value) (p done used : Nat) (vi : Value) (wr : World) : Prop :=
  ∃ i : Nat, i ≤ n ∧ vi = .int .i64 i ∧ Hid (wr.ownsRow bl 5 1 (.slice A n c) n (marks m i ++ ys.drop i)) ∧ Hid (Bks wr T gb B O es p m done used) ∧ Hid (Kp T (fun q => (Value.slice A n c).ownBlock = some q) w wr)
def BytPost (w : World) (T gb bl n c m : Nat) (A : Option Addr) (es : List En) (p done used : Nat) (w' : World) : Prop :=
  ∃ B' O', Bks w' T gb B' O' (es ++ [⟨A, n, c, m⟩]) p m done (used + (1200 + 3 * n)) ∧ w'.ownsRow bl 5 1 (.slice A n c) n (marks m n) ∧ Kp T (fun q => (Value.slice A n c).ownBlock = some q) w w'
theorem set_mid (m i n : Nat) (ys : List Value) (hy : ys.length = n) (hi : i < n) : (marks m i ++ ys.drop i).set i (.int .u8 (atm m i : Int)) = marks m (i + 1) ++ ys.drop (i + 1) := by
  rw [marks_succ, List.drop_eq_getElem_cons (by omega : i < ys.length), List.set_append_right _ _ (by rw [marks_length]; omega), marks_length, Nat.sub_self, List.append_assoc]
  rfl
theorem bk_set0 (B O B' : Value) (p t d u : Nat) : (bk B O p t d u).setIfInBounds 0 B' = bk B' O p t d u := by rw [bk, List.setIfInBounds_toArray]; rfl
theorem bk_set1 (B O O' : Value) (p t d u : Nat) : (bk B O p t d u).setIfInBounds 1 O' = bk B O' p t d u := by rw [bk, List.setIfInBounds_toArray]; rfl
theorem bk_set2 (B O : Value) (p t d u x : Nat) : (bk B O p t d u).setIfInBounds 2 (.int .i64 (x : Int)) = bk B O x t d u := by rw [bk, List.setIfInBounds_toArray]; rfl
theorem bk_set33 (B O : Value) (p t d u x : Nat) : (bk B O p t d u).setIfInBounds 33 (.int .i64 (x : Int)) = bk B O p x d u := by rw [bk, List.setIfInBounds_toArray]; rfl
theorem bk_set34 (B O : Value) (p t d u x : Nat) : (bk B O p t d u).setIfInBounds 34 (.int .i64 (x : Int)) = bk B O p t x u := by rw [bk, List.setIfInBounds_toArray]; rfl
theorem bk_set35 (B O : Value) (p t d u x : Nat) : (bk B O p t d u).setIfInBounds 35 (.int .i64 (x : Int)) = bk B O p t d x := by rw [bk, List.setIfInBounds_toArray]; rfl
theorem Bks.setc {w : World} {T gb : Nat} {B O : Value} {es : List En} {p t d u p' t' d' u' : Nat} (h : Bks w T gb B O es p t d u) (i : Nat) (x : Value) (hk : (bk B O p t d u).setIfInBounds i x = bk B O p' t' d' u') : Bks (w.setCell ⟨gb, i, none⟩ x) T gb B O es p' t' d' u' :=
  ⟨by have := h.blk.set_ i x; rwa [hk] at this, own_set_other h.ownB (own_blk_ne h.ownB h.blk (by decide)) x, own_set_other h.ownO (own_blk_ne h.ownO h.blk (by decide)) x, fun e he => (h.ents e he).set_ h.blk (by decide) i x, h.hgb⟩
theorem Bks.lt {w : World} {T gb : Nat} {B O : Value} {es : List En} {p t d u : Nat} (h : Bks w T gb B O es p t d u) : gb < w.heap.size := h.blk.lt
theorem Kp.own {T : Nat} {L : Nat → Prop} {w w' : World} (h : Kp T L w w') {base e size n : Nat} {v : Value} {xs : List Value} (ho : w.ownsRow base e size v n xs) (hv : ∀ q, v.ownBlock = some q → q < T ∧ ¬ L q) : w'.ownsRow base e size v n xs := by
  refine ⟨ho.1, ?_⟩
  rcases ho.2 with h2 | ⟨g, cap, cur, rfl, hg, hh, r⟩
  · exact .inl h2
  · have := hv g (by simp [Value.ownBlock])
    exact .inr ⟨g, cap, cur, rfl, hg, (h.block g this.1 this.2).trans hh, r⟩
/-- own rows lie below the heap's end -/
theorem own_lt {w : World} {base e size n : Nat} {v : Value} {xs : List Value} (h : w.ownsRow base e size v n xs) (q : Nat) (hq : v.ownBlock = some q) : base ≤ q ∧ q < w.heap.size := h.lt q hq
set_option maxHeartbeats 2000000 in
theorem bytes_any (T gb bl n c turn : Nat) (A : Option Addr) (B O : Value) (es : List En) (ys : List Value) (p done used : Nat) (w : World) (hb : Bks w T gb B O es p turn done used)
    (hl : w.ownsRow bl 5 1 (.slice A n c) n ys) (hT : T ≤ w.heap.size) (ht : turn ≤ 20) (hu : used + (1200 + 3 * n) ≤ 16777216) (hes : es.length ≤ 1000)
    (hap : ∀ e ∈ es, e.n ≠ 0 → ∀ h, e.A = some ⟨h, 0, none⟩ → (Value.slice A n c).ownBlock ≠ some h) :
    Calls Tryd.prog 16 #[.pointer (some ⟨gb, 0, none⟩), .slice A n c] w fun e w' => e = .returned (.tuple #[]) ∧ BytPost w T gb bl n c (turn + 1) A es p done used w' := by
  have HB := Lib.hid hb
  have HO := Lib.hid hl
  have HAP := Lib.hid hap
  have hc33 : w.cell? ⟨gb, 33, none⟩ = some (.int .i64 (turn : Int)) := by rw [hb.blk.cell, bk, List.getElem?_toArray]; rfl
  have hf33 := hb.blk.frozen 33
  obtain ⟨m, hm⟩ : ∃ m, m = turn + 1 := ⟨_, rfl⟩
  have em : (turn : Int) + 1 = (m : Int) := by omega
  have hm30 : m ≤ 30 := by omega
  rw [← hm]
  have HM := Lib.hid hm
  clear hb hl hap hm
  go_enter Tryd.func16, Tryd.ntmps16
  go_wp2_with fail
  have HB1 : Hid (Bks (w.setCell ⟨gb, 33, none⟩ (.int .i64 (m : Int))) T gb B O es p m done used) := HB.out.setc 33 _ (bk_set33 _ _ _ _ _ _ _)
  have hne1 : (Value.slice A n c).ownBlock ≠ some gb := own_blk_ne HO.out HB.out.blk (by decide)
  have HO1 : Hid ((w.setCell ⟨gb, 33, none⟩ (.int .i64 (m : Int))).ownsRow bl 5 1 (.slice A n c) n ys) := own_set_other HO.out (a := ⟨gb, 33, none⟩) hne1 _
  have HK1 : Hid (Kp T (fun q => (Value.slice A n c).ownBlock = some q) w (w.setCell ⟨gb, 33, none⟩ (.int .i64 (m : Int)))) := Kp.set_ w (p := ⟨gb, 33, none⟩) (.inr HB.out.hgb) _
  have hys : ys.length = n := by have := HO.out.1; simpa using this
  have HYS := Lib.hid hys
  clear hys hc33 hf33 HO
  generalize w.setCell ⟨gb, 33, none⟩ (.int .i64 (m : Int)) = w1 at *
  go_loopw [5] (fun vi wr => BytRel w T gb bl n c m A B O es ys p done used vi wr) (fun vi _ => n - (intOf vi).toNat)
  case atStart => exact ⟨0, by omega, rfl, by show World.ownsRow _ _ _ _ _ _ _; simpa [marks] using HO1.out, HB1, HK1⟩
  case round =>
    obtain ⟨i, hi, rfl, ho, hbk, hkp⟩ := hrel
    by_cases hlt : i < n
    · obtain ⟨g, cap, hv1, hgb1, hglt⟩ := ho.out.form (by omega)
      injection hv1 with hv1 hv2 hv3
      subst hv1 hv3
      obtain ⟨u, hcu, hfu, _⟩ := own_cell ho.out hlt
      go_wp2_with fail
      refine (mark_any m i wr hm30).mono ?_
      rintro e w2 ⟨rfl, rfl⟩
      go_wp2_with fail
      go_roundw
      case rel =>
        have hset := own_set ho.out (i := i) (.int .u8 (atm m i : Int))
        rw [set_mid m i n ys HYS.out hlt] at hset
        have hBlk : ∃ cs, Blk w2 g 5 cs := by
          rcases ho.out.2 with ⟨h2, _⟩ | ⟨g', cap', cur, hv, _, hh, _⟩
          · cases h2
          · injection hv with hv; injection hv with hv; injection hv with hv; subst hv; exact ⟨cur, hh⟩
        obtain ⟨cs, hBlk⟩ := hBlk
        have hne2 : gb ≠ g := Blk.ne_ hbk.out.blk hBlk (by decide)
        refine ⟨i + 1, by omega, by go_num, hset, ⟨hbk.out.blk.far (p := ⟨g, i, none⟩) hne2 _, ?_, ?_, ?_, hbk.out.hgb⟩, hkp.out.trans (Kp.set_ (L := fun q => (Value.slice (some ⟨g, 0, none⟩) n c).ownBlock = some q) w2 (p := ⟨g, i, none⟩) (.inl (by rfl)) _)⟩
        · exact own_set_other hbk.out.ownB (a := ⟨g, i, none⟩) (own_blk_ne hbk.out.ownB hBlk (by decide)) _
        · exact own_set_other hbk.out.ownO (a := ⟨g, i, none⟩) (own_blk_ne hbk.out.ownO hBlk (by decide)) _
        · intro e he
          by_cases hn0 : e.n = 0
          · exact .inl hn0
          · exact (hbk.out.ents e he).far fun h cs' hA hB' => hB'.far (p := ⟨g, i, none⟩) (fun e' => HAP.out e he hn0 h hA (by rw [e']; rfl)) _
      case measure => simp [intOf]; omega
    · obtain rfl : i = n := by omega
      have hol : Hid (wr.ownsRow bl 5 1 (.slice A i c) i (marks m i)) := by
        show World.ownsRow _ _ _ _ _ _ _
        have := ho.out
        rwa [List.drop_eq_nil_of_le (by rw [HYS.out]; omega), List.append_nil] at this
      obtain ⟨k, hk⟩ : ∃ k, k = 1200 + 3 * i := ⟨_, rfl⟩
      have ek : 1200 + 3 * (i : Int) = (k : Int) := by omega
      have hkb : used + k ≤ 16777216 := by omega
      have HKK := Lib.hid hk
      clear hk ho
      go_wp2_with fail
      refine (tight_any gb k B O p m done used wr hbk.out.blk hkb).mono ?_
      rintro e w3 ⟨rfl, rfl⟩
      have HB3 : Hid (Bks (wr.setCell ⟨gb, 35, none⟩ (.int .i64 ((used + k : Nat) : Int))) T gb B O es p m done (used + k)) := hbk.out.setc 35 _ (bk_set35 _ _ _ _ _ _ _)
      have HO3 : Hid ((wr.setCell ⟨gb, 35, none⟩ (.int .i64 ((used + k : Nat) : Int))).ownsRow bl 5 1 (.slice A i c) i (marks m i)) := own_set_other hol.out (a := ⟨gb, 35, none⟩) hne1 _
      have HK3 : Hid (Kp T (fun q => (Value.slice A i c).ownBlock = some q) w (wr.setCell ⟨gb, 35, none⟩ (.int .i64 ((used + k : Nat) : Int)))) := hkp.out.trans (Kp.set_ wr (p := ⟨gb, 35, none⟩) (.inr hbk.out.hgb) _)
      clear hol hbk hkp
      generalize wr.setCell ⟨gb, 35, none⟩ (.int .i64 ((used + k : Nat) : Int)) = w3 at *
      clear HB1 HO1 HK1 HB
      obtain ⟨AB, cB, hvB⟩ := own_shape HB3.out.ownB
      subst hvB
      obtain ⟨AO, cO, hvO⟩ := own_shape HB3.out.ownO
      subst hvO
      have hT3 : T ≤ w3.heap.size := by have := HK3.out.size; omega
      have hc0 : w3.cell? ⟨gb, 0, none⟩ = some (.slice AB es.length cB) := by rw [HB3.out.blk.cell, bk, List.getElem?_toArray]; rfl
      obtain ⟨i22, hi22, hz220, hz221, hz222⟩ := info_parts info22
      obtain ⟨i3, hi3, hz30, hz31, hz32⟩ := info_parts info3
      go_wp2_with (first
        | (at_builtin
           refine wpList_pushS w3 rfl (.tmp 39) (.tmp 41) 35 rfl T 22 i22 (.slice none 0 0) 24 Tryd.underlying35 hi22 hz220 hz221 hz222 rfl AB es.length cB (es.map En.v) rfl HB3.out.ownB (.slice A i c) _ rfl _ rfl rfl (by omega) (by unfold maxLen; omega) hT3 ?_
           intro A4 c4 w4 hown4 hg4 _ _
           have blk4 : Blk w4 gb 48 _ := HB3.out.blk.gb hg4 (fun e => own_blk_ne HB3.out.ownB HB3.out.blk (by decide) e.symm)
           have hc40 : w4.cell? ⟨gb, 0, none⟩ = some (.slice AB es.length cB) := by rw [blk4.cell, bk, List.getElem?_toArray]; rfl
           have hc41 : w4.cell? ⟨gb, 1, none⟩ = some (.slice AO es.length cO) := by rw [blk4.cell, bk, List.getElem?_toArray]; rfl
           have hf40 := blk4.frozen 0
           have hf41 := blk4.frozen 1
           have BLK5 : Hid (Blk (w4.setCell ⟨gb, 0, none⟩ (.slice A4 (es.length + 1) c4)) gb 48 (bk (.slice A4 (es.length + 1) c4) (.slice AO es.length cO) p m done (used + k))) := by
             have := blk4.set_ 0 (.slice A4 (es.length + 1) c4)
             rwa [bk_set0] at this
           have OB5 : Hid ((w4.setCell ⟨gb, 0, none⟩ (.slice A4 (es.length + 1) c4)).ownsRow T 22 1 (.slice A4 (es.length + 1) c4) (es.length + 1) (es.map En.v ++ [.slice A i c])) := own_set_other hown4 (a := ⟨gb, 0, none⟩) (own_blk_ne hown4 blk4 (by decide)) _
           have OO4 := HB3.out.ownO.kept hg4 (own_apart HB3.out.ownO HB3.out.ownB (by decide))
           have OO5 : Hid ((w4.setCell ⟨gb, 0, none⟩ (.slice A4 (es.length + 1) c4)).ownsRow T 3 1 (.slice AO es.length cO) es.length (es.map fun e => .int .i64 (e.m : Int))) := own_set_other OO4 (a := ⟨gb, 0, none⟩) (own_blk_ne OO4 blk4 (by decide)) _
           have OL4 := HO3.out.kept hg4 (own_apart HO3.out HB3.out.ownB (by decide))
           have OL5 : Hid ((w4.setCell ⟨gb, 0, none⟩ (.slice A4 (es.length + 1) c4)).ownsRow bl 5 1 (.slice A i c) i (marks m i)) := own_set_other OL4 (a := ⟨gb, 0, none⟩) (own_blk_ne OL4 blk4 (by decide)) _
           have EN5 : Hid (∀ e ∈ es, EnOK (w4.setCell ⟨gb, 0, none⟩ (.slice A4 (es.length + 1) c4)) e) := fun e he => ((HB3.out.ents e he).other HB3.out.ownB (by decide) hg4).set_ blk4 (by decide) 0 _
           have KP5 : Hid (Kp T (fun q => (Value.slice A i c).ownBlock = some q) w (w4.setCell ⟨gb, 0, none⟩ (.slice A4 (es.length + 1) c4))) := (HK3.out.trans (Kp.gb hg4 hT3 (fun q hq => .inr (own_lt HB3.out.ownB q hq).1))).trans (Kp.set_ w4 (p := ⟨gb, 0, none⟩) (.inr HB3.out.hgb) _)
           have hT5 : T ≤ (w4.setCell ⟨gb, 0, none⟩ (.slice A4 (es.length + 1) c4)).heap.size := by have := KP5.out.size; omega
           clear blk4 hown4 hg4 OO4 OL4)
        | (at_builtin
           refine wpList_pushS (w4.setCell ⟨gb, 0, none⟩ (.slice A4 (es.length + 1) c4)) rfl (.tmp 49) (.tmp 51) 36 rfl T 3 i3 (.int .i64 0) 8 Tryd.underlying36 hi3 hz30 hz31 hz32 rfl AO es.length cO (es.map fun e => .int .i64 (e.m : Int)) rfl OO5.out (.int .i64 (m : Int)) _ rfl w4.heap.size rfl (by simp [World.setCell]) (by omega) (by unfold maxLen; omega) hT5 ?_
           intro A6 c6 w6 hown6 hg6 _ _
           have blk6 : Blk w6 gb 48 _ := BLK5.out.gb hg6 (fun e => own_blk_ne OO5.out BLK5.out (by decide) e.symm)
           have hc61 : w6.cell? ⟨gb, 1, none⟩ = some (.slice AO es.length cO) := by rw [blk6.cell, bk, List.getElem?_toArray]; rfl
           have hf61 := blk6.frozen 1
           have HF : Hid (BytPost w T gb bl i c m A es p done used (w6.setCell ⟨gb, 1, none⟩ (.slice A6 (es.length + 1) c6))) := by
             have OB6 := OB5.out.kept hg6 (own_apart OB5.out OO5.out (by decide))
             have OL6 := OL5.out.kept hg6 (own_apart OL5.out OO5.out (by decide))
             refine ⟨.slice A4 (es.length + 1) c4, .slice A6 (es.length + 1) c6, ⟨?_, ?_, ?_, ?_, HB3.out.hgb⟩, own_set_other OL6 (a := ⟨gb, 1, none⟩) (own_blk_ne OL6 blk6 (by decide)) _, ?_⟩
             · have := blk6.set_ 1 (.slice A6 (es.length + 1) c6)
               rw [bk_set1] at this
               rw [← HKK.out]
               exact this
             · have := own_set_other OB6 (a := ⟨gb, 1, none⟩) (own_blk_ne OB6 blk6 (by decide)) (.slice A6 (es.length + 1) c6)
               simpa [En.v] using this
             · have := own_set_other hown6 (a := ⟨gb, 1, none⟩) (own_blk_ne hown6 blk6 (by decide)) (.slice A6 (es.length + 1) c6)
               simpa using this
             · intro e he
               have e5 : EnOK (w4.setCell ⟨gb, 0, none⟩ (.slice A4 (es.length + 1) c4)) e := by
                 rcases List.mem_append.1 he with he | he
                 · exact EN5.out e he
                 · simp at he
                   subst he
                   exact EnOK.of_own OL5.out
               exact (e5.other OO5.out (by decide) hg6).set_ blk6 (by decide) 1 _
             · exact (KP5.out.trans (Kp.gb hg6 hT5 (fun q hq => .inr (own_lt OO5.out q hq).1))).trans (Kp.set_ w6 (p := ⟨gb, 1, none⟩) (.inr HB3.out.hgb) _)
           clear blk6 hown6 hg6 hc40 hc41 hf40 hf41 hc0)
        | fail)
      go_end0
      exact ⟨rfl, HF.out⟩
end Go.Proofs.YtejgoienkpaabaaDoor

/- The law's Book: holds. -/
namespace Go.Proofs.YtejgoienkpaabaaDoor
open Go.RowKit
set_option maxRecDepth 100000
theorem Bks.drewN {w : World} {T gb : Nat} {B O : Value} {es : List En} {p t d u : Nat} (h : Bks w T gb B O es p t d u) (n : Nat) : Bks (w.drewN n) T gb B O es p t d u :=
  ⟨h.blk.drewN n, h.ownB, h.ownO, h.ents, h.hgb⟩
theorem Bks.cell {w : World} {T gb : Nat} {B O : Value} {es : List En} {p t d u : Nat} (h : Bks w T gb B O es p t d u) (i : Nat) : w.cell? ⟨gb, i, none⟩ = (bk B O p t d u)[i]? := h.blk.cell i
set_option maxHeartbeats 1000000 in
theorem kept_any (T gb : Nat) (B O : Value) (es : List En) (p t d u : Nat) (w : World) (h : Bks w T gb B O es p t d u) :
    Calls Tryd.prog 58 #[.pointer (some ⟨gb, 0, none⟩)] w fun e w' => e = .returned (.bool true) ∧ w' = w := by
  have h6 : w.cell? ⟨gb, 6, none⟩ = some (.slice none 0 0) := by rw [h.cell, bk, List.getElem?_toArray]; rfl
  have h9 : w.cell? ⟨gb, 9, none⟩ = some (.slice none 0 0) := by rw [h.cell, bk, List.getElem?_toArray]; rfl
  have h12 : w.cell? ⟨gb, 12, none⟩ = some (.slice none 0 0) := by rw [h.cell, bk, List.getElem?_toArray]; rfl
  have h15 : w.cell? ⟨gb, 15, none⟩ = some (.slice none 0 0) := by rw [h.cell, bk, List.getElem?_toArray]; rfl
  clear h
  go_enter Tryd.func58, Tryd.ntmps58
  go_wp2_with fail
  refine wp_loop_rounds 1 ?_
  rw [rounds_succ]
  go_wp2_with fail
  refine wp_loop_rounds 1 ?_
  rw [rounds_succ]
  go_wp2_with fail
  refine wp_loop_rounds 1 ?_
  rw [rounds_succ]
  go_wp2_with fail
  refine wp_loop_rounds 1 ?_
  rw [rounds_succ]
  go_wp2_with fail
  go_ret
  exact ⟨rfl, rfl⟩
set_option maxHeartbeats 1000000 in
theorem told_any (T gb : Nat) (B O : Value) (es : List En) (p t d u : Nat) (w : World) (h : Bks w T gb B O es p t d u) :
    Calls Tryd.prog 59 #[.pointer (some ⟨gb, 0, none⟩)] w fun e w' => e = .returned (.bool true) ∧ w' = w := by
  have h6 : w.cell? ⟨gb, 18, none⟩ = some (.slice none 0 0) := by rw [h.cell, bk, List.getElem?_toArray]; rfl
  have h9 : w.cell? ⟨gb, 21, none⟩ = some (.slice none 0 0) := by rw [h.cell, bk, List.getElem?_toArray]; rfl
  have h12 : w.cell? ⟨gb, 24, none⟩ = some (.slice none 0 0) := by rw [h.cell, bk, List.getElem?_toArray]; rfl
  have h15 : w.cell? ⟨gb, 27, none⟩ = some (.slice none 0 0) := by rw [h.cell, bk, List.getElem?_toArray]; rfl
  clear h
  go_enter Tryd.func59, Tryd.ntmps59
  go_wp2_with fail
  refine wp_loop_rounds 1 ?_
  rw [rounds_succ]
  go_wp2_with fail
  refine wp_loop_rounds 1 ?_
  rw [rounds_succ]
  go_wp2_with fail
  refine wp_loop_rounds 1 ?_
  rw [rounds_succ]
  go_wp2_with fail
  refine wp_loop_rounds 1 ?_
  rw [rounds_succ]
  go_wp2_with fail
  go_ret
  exact ⟨rfl, rfl⟩
theorem held_any (T gb : Nat) (B O : Value) (es : List En) (p t d u : Nat) (w : World) (h : Bks w T gb B O es p t d u) :
    Calls Tryd.prog 60 #[.pointer (some ⟨gb, 0, none⟩)] w fun e w' => e = .returned (.bool true) ∧ w' = w := by
  have h6 : w.cell? ⟨gb, 30, none⟩ = some (.slice none 0 0) := by rw [h.cell, bk, List.getElem?_toArray]; rfl
  clear h
  go_enter Tryd.func60, Tryd.ntmps60
  go_wp2_with fail
  refine wp_loop_rounds 1 ?_
  rw [rounds_succ]
  go_wp2_with fail
  go_ret
  exact ⟨rfl, rfl⟩
def PlO (w : World) (T gb : Nat) (B O : Value) (es : List En) (p t d u : Nat) (vi : Value) (wr : World) : Prop :=
  ∃ i : Nat, i ≤ es.length ∧ vi = .int .i64 i ∧ Hid (Bks wr T gb B O es p t d u) ∧ Hid (Below w.heap.size w wr)
def PlI (w : World) (T gb n : Nat) (B O : Value) (es : List En) (p t d u : Nat) (vj : Value) (wr : World) : Prop :=
  ∃ j : Nat, j ≤ n ∧ vj = .int .i64 j ∧ Hid (Bks wr T gb B O es p t d u) ∧ Hid (Below w.heap.size w wr)
theorem own_at {w : World} {base e n : Nat} {v : Value} {xs : List Value} (h : w.ownsRow base e 1 v n xs) (i : Nat) (hi : i < n) : ∃ g c, v = .slice (some ⟨g, 0, none⟩) n c ∧ w.cell? ⟨g, i, none⟩ = xs[i]? := by
  obtain ⟨g, c, rfl, _, _⟩ := h.form (by omega)
  exact ⟨g, c, rfl, h.cellAt i (by omega)⟩
set_option maxHeartbeats 1000000 in
theorem plain_any (T gb : Nat) (B O : Value) (es : List En) (p t d u : Nat) (w : World) (h : Bks w T gb B O es p t d u) (hl : es.length ≤ 1000) (hm : ∀ e ∈ es, e.m ≤ 30 ∧ e.n ≤ 1000000) :
    Calls Tryd.prog 57 #[.pointer (some ⟨gb, 0, none⟩)] w fun e w' => e = .returned (.bool true) ∧ Below w.heap.size w w' ∧ Bks w' T gb B O es p t d u := by
  have HB := Lib.hid h
  have HM := Lib.hid hm
  clear h hm
  go_enter Tryd.func57, Tryd.ntmps57
  go_wp2_with fail
  go_loopw [3] (fun vi wr => PlO w T gb B O es p t d u vi wr) (fun vi _ => es.length - (intOf vi).toNat)
  case atStart => exact ⟨0, by omega, rfl, HB, Below.refl _ _⟩
  case round =>
    obtain ⟨i, hi, rfl, hb, hbl⟩ := hrel
    obtain ⟨AB, cB, hvB⟩ := own_shape hb.out.ownB
    subst hvB
    have hc0 : wr.cell? ⟨gb, 0, none⟩ = some (.slice AB es.length cB) := by rw [hb.out.cell, bk, List.getElem?_toArray]; rfl
    by_cases hlt : i < es.length
    · obtain ⟨wo, rfl⟩ : ∃ wo : World, wo = wr := ⟨_, rfl⟩
      obtain ⟨en, hen⟩ : ∃ en, es[i]? = some en := ⟨es[i], List.getElem?_eq_getElem hlt⟩
      have hmem := List.mem_of_getElem? hen
      obtain ⟨m30, n106⟩ := HM.out en hmem
      obtain ⟨gB, cB', hv, hcB⟩ := own_at hb.out.ownB i hlt
      injection hv with hv1 _ hv3
      subst hv1 hv3
      have HEN := Lib.hid hen
      clear hen hcB
      go_wp2_with fail
      go_loopw [4] (fun vj wr => PlI w T gb en.n (.slice (some ⟨gB, 0, none⟩) es.length cB) O es p t d u vj wr) (fun vj _ => en.n - (intOf vj).toNat)
      case atStart => exact ⟨0, by omega, rfl, hb, hbl⟩
      case round =>
        obtain ⟨j, hj, rfl, hb1, hbl1⟩ := hrel
        have hc01 : wr.cell? ⟨gb, 0, none⟩ = some (.slice (some ⟨gB, 0, none⟩) es.length cB) := by rw [hb1.out.cell, bk, List.getElem?_toArray]; rfl
        obtain ⟨gO, cO, hvO, hcO⟩ := own_at hb1.out.ownO i hlt
        subst hvO
        have hc11 : wr.cell? ⟨gb, 1, none⟩ = some (.slice (some ⟨gO, 0, none⟩) es.length cO) := by rw [hb1.out.cell, bk, List.getElem?_toArray]; rfl
        have hcB1 : wr.cell? ⟨gB, i, none⟩ = some (.slice en.A en.n en.c) := by
          rw [hb1.out.ownB.cellAt i (by omega), List.getElem?_map, HEN.out]; rfl
        rw [List.getElem?_map, HEN.out] at hcO
        have hcO1 : wr.cell? ⟨gO, i, none⟩ = some (.int .i64 (en.m : Int)) := hcO
        by_cases hjl : j < en.n
        · obtain ⟨hh, cs, hA, hBk, hcs⟩ : ∃ h cs, en.A = some ⟨h, 0, none⟩ ∧ Blk wr h 5 cs ∧ ∀ j, j < en.n → cs[j]? = some (.int .u8 (atm en.m j : Int)) := by
            rcases hb1.out.ents en hmem with h0 | h0
            · omega
            · exact h0
          have hcj : wr.cell? ⟨hh, j, none⟩ = some (.int .u8 (atm en.m j : Int)) := by rw [hBk.cell]; exact hcs j hjl
          rw [hA] at hcB1
          have hne : ((atm en.m j : Int) != (atm en.m j : Int)) = false := by simp
          clear hcs hBk hA hcO
          go_wp2_with fail
          go_quiet ((go_at_call 31; exact Calls.quiet_of_same (mark_any en.m j _ m30)))
          go_wp2_with fail
          go_roundw
          case rel => exact ⟨j + 1, by omega, by go_num, hb1.out.drewN _, below_drewN' hbl1.out _⟩
          case measure => simp [intOf]; omega
        · obtain rfl : j = en.n := by omega
          go_wp2_with fail
          go_roundw
          case rel => exact ⟨i + 1, by omega, by go_num, hb1, hbl1⟩
          case measure => simp [intOf]; omega
    · obtain rfl : i = es.length := by omega
      have hc3 : wr.cell? ⟨gb, 3, none⟩ = some (.slice none 0 0) := by rw [hb.out.cell, bk, List.getElem?_toArray]; rfl
      go_wp2_with fail
      refine wp_loop_rounds 1 ?_
      rw [rounds_succ]
      go_wp2_with fail
      go_ret
      exact ⟨rfl, hbl.out, hb.out⟩
theorem holds_any (T gb : Nat) (B O : Value) (es : List En) (p t d u : Nat) (w : World) (h : Bks w T gb B O es p t d u) (hl : es.length ≤ 1000) (hm : ∀ e ∈ es, e.m ≤ 30 ∧ e.n ≤ 1000000) :
    Calls Tryd.prog 33 #[.pointer (some ⟨gb, 0, none⟩)] w fun e w' => e = .returned (.bool true) ∧ Below w.heap.size w w' ∧ Bks w' T gb B O es p t d u := by
  go_enter Tryd.func33, Tryd.ntmps33
  go_wp2_with fail
  refine (plain_any T gb B O es p t d u w h hl hm).mono ?_
  rintro e w1 ⟨rfl, hb, h1⟩
  have H1 := Lib.hid h1
  clear h1
  go_wp2_with fail
  refine (kept_any T gb B O es p t d u w1 H1.out).mono ?_
  rintro e w2 ⟨rfl, rfl⟩
  go_wp2_with fail
  refine (told_any T gb B O es p t d u w2 H1.out).mono ?_
  rintro e w3 ⟨rfl, rfl⟩
  go_wp2_with fail
  refine (held_any T gb B O es p t d u w3 H1.out).mono ?_
  rintro e w4 ⟨rfl, rfl⟩
  go_wp2_with fail
  go_ret
  exact ⟨rfl, hb, H1.out⟩
end Go.Proofs.YtejgoienkpaabaaDoor
