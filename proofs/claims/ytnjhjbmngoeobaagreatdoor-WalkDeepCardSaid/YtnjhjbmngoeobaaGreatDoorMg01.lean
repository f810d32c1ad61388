/- Laws towards WalkDeep: Base, Code1, Code2, Code3, NumQ. -/
import Derived.Test.YtnjhjbmngoeobaaGreatDoorRows
import Derived.WalkKit
import Derived.WalkSpells
import Derived.WalkLawsBesides
import Derived.Below
import Derived.Laws.OwnMore
import Derived.Deep.AppendLies
import Derived.Deep.Draws
import Derived.Laws.Rows
import Derived.Maps.AppendAt
import Derived.RegionTactic
import Derived.OwnWalk
import Derived.Lib.Hide
import Derived.Laws.BitsLemmas
import Derived.Deep.QuietTactic
import Derived.BigQuiet
import Derived.Laws.CopyOwn
namespace Go.Proofs.YtnjhjbmngoeobaaGreatDoor
open Go.RowKit
theorem block_of_add (a : Addr) (n : Nat) : (a.add n).block = a.block := by unfold Addr.add; split <;> rfl
theorem add_of_add (a : Addr) (i j : Nat) : (a.add i).add j = a.add (i + j) := by
 unfold Addr.add
 by_cases hi : i = 0 <;> by_cases hj : j = 0 <;> simp [hi, hj, Nat.add_assoc]
def Reads (w : World) (B size : Nat) (A : Option Addr) (n : Nat) (xs : List Value) : Prop :=
 xs.length = n * size ∧ (0 < n → ∃ ad, A = some ad ∧ ad.block < B ∧ ∀ j u, xs[j]? = some u → w.cell? (ad.add j) = some u)
section
variable {w w' : World} {B B' size n : Nat} {A : Option Addr} {xs : List Value}
theorem Reads.at_ {k : Nat} (h : Reads w B 1 A n xs) (hk : k < n) : ∃ ad u, A = some ad ∧ ad.block < B ∧ xs[k]? = some u ∧ w.cell? (ad.add k) = some u := by
 obtain ⟨ad, e, hb, hc⟩ := h.2 (by omega)
 have hl : k < xs.length := by have := h.1; omega
 exact ⟨ad, xs[k], e, hb, List.getElem?_eq_getElem hl, hc k _ (List.getElem?_eq_getElem hl)⟩
theorem Reads.keep (h : Reads w B size A n xs) (hk : ∀ p : Addr, p.block < B → w'.cell? p = w.cell? p) : Reads w' B size A n xs :=
 ⟨h.1, fun hn => by
  obtain ⟨ad, e, hb, hc⟩ := h.2 hn
  exact ⟨ad, e, hb, fun j u hu => (hk _ (by rw [block_of_add]; exact hb)).trans (hc j u hu)⟩⟩
theorem Reads.below (h : Reads w B size A n xs) (hb : Below B w w') : Reads w' B size A n xs := h.keep fun _ hp => hb.cell hp
theorem Reads.drew (h : Reads w B size A n xs) : Reads w.drew B size A n xs := h
theorem Reads.drewN (h : Reads w B size A n xs) (k : Nat) : Reads (w.drewN k) B size A n xs := h
theorem Reads.alloc (h : Reads w B size A n xs) (hB : B ≤ w.heap.size) (o : Obj) : Reads (w.alloc o) B size A n xs := h.keep fun p hp => World.cell?_alloc_lt w o p (by omega)
theorem Reads.setCell (h : Reads w B size A n xs) {p : Addr} (hB : B ≤ p.block) (u : Value) : Reads (w.setCell p u) B size A n xs :=
 h.keep fun q hq => World.cell?_setCell_other w p q u (fun e => by subst e; omega)
theorem Reads.grown (h : Reads w B size A n xs) {row : Option Nat} (hg : w.grownBy w' row) (hB : B ≤ w.heap.size) (hr : ∀ g, row = some g → B ≤ g) : Reads w' B size A n xs :=
 h.keep fun p hp => World.cell?_of_block (hg.block p.block (by omega) (fun e => by have := hr _ e.symm; omega))
theorem Reads.cut (h : Reads w B size A n xs) {k cap : Nat} (hk : k ≤ n) (hc : n ≤ cap) :
 Reads w B size (if cap = k then A else A.map (·.add (k * size))) (n - k) (xs.drop (k * size)) := by
 refine ⟨by rw [List.length_drop, h.1, Nat.sub_mul], fun hn => ?_⟩
 obtain ⟨ad, rfl, hb, hcell⟩ := h.2 (by omega)
 rw [if_neg (by omega)]
 refine ⟨ad.add (k * size), rfl, by rw [block_of_add]; exact hb, fun j u hu => ?_⟩
 rw [add_of_add]
 exact hcell _ u (by rw [← hu, List.getElem?_drop])
theorem Reads.of_own {base : Nat} {e : TypeId} {c : Nat} (h : w.ownsRow base e size (.slice A n c) n xs) : Reads w w.heap.size size A n xs := by
 refine ⟨h.1, fun hn => ?_⟩
 obtain ⟨g, cap, hv, _, hlt⟩ := h.form hn
 have hA : A = some ⟨g, 0, none⟩ := by injection hv
 subst hA
 exact ⟨_, rfl, hlt, h.cells (g := g) rfl⟩
end
def Blk (w : World) (g : Nat) (t : TypeId) (cs : Array Value) : Prop := w.heap[g]? = some (.cells cs t (0, 0))
section
variable {w w' : World} {g : Nat} {t : TypeId} {cs : Array Value}
theorem Blk.lt (h : Blk w g t cs) : g < w.heap.size := by
 rcases Nat.lt_or_ge g w.heap.size with hlt | hge
 · exact hlt
 · unfold Blk at h; rw [Array.getElem?_eq_none hge] at h; cases h
theorem Blk.cell (h : Blk w g t cs) (i : Nat) : w.cell? ⟨g, i, none⟩ = cs[i]? := cell_of_row w g i cs t (0, 0) h
theorem Blk.frozen (h : Blk w g t cs) (i : Nat) : w.frozen? ⟨g, i, none⟩ = false := by
 unfold Blk at h
 simp [World.frozen?, h]
theorem Blk.new (w : World) (t : TypeId) (cs : Array Value) : Blk (w.alloc (.cells cs t)) w.heap.size t cs := heap_alloc_new w _
theorem Blk.drew (h : Blk w g t cs) : Blk w.drew g t cs := h
theorem Blk.drewN (h : Blk w g t cs) (n : Nat) : Blk (w.drewN n) g t cs := h
theorem Blk.alloc (h : Blk w g t cs) (o : Obj) : Blk (w.alloc o) g t cs := (Below.heap_alloc w o g h.lt).trans h
theorem Blk.set_ (h : Blk w g t cs) (i : Nat) (u : Value) : Blk (w.setCell ⟨g, i, none⟩ u) g t (cs.setIfInBounds i u) := by
 unfold Blk at h ⊢
 simp [World.setCell, Array.getElem?_modify, h]
theorem Blk.far (h : Blk w g t cs) {p : Addr} (hp : g ≠ p.block) (u : Value) : Blk (w.setCell p u) g t cs := (Below.heap_setCell w p u g hp).trans h
theorem Blk.below {B : Nat} (h : Blk w g t cs) (hb : Below B w w') (hg : g < B) : Blk w' g t cs := (hb.block g hg).trans h
theorem Blk.grown {row : Option Nat} (h : Blk w g t cs) (hb : w.grownBy w' row) (hg : some g ≠ row) : Blk w' g t cs := (hb.block g h.lt hg).trans h
theorem Blk.ne_ {g' : Nat} {t' : TypeId} {cs' : Array Value} (h : Blk w g t cs) (h' : Blk w g' t' cs') (hne : t ≠ t') : g ≠ g' := by
 rintro rfl
 unfold Blk at h h'
 rw [h] at h'
 injection h' with h'
 injection h' with _ ht
 exact hne ht
theorem own_blk_ne {base : Nat} {e : TypeId} {size n : Nat} {v : Value} {xs : List Value} (h : w.ownsRow base e size v n xs) (hg : Blk w g t cs) (hne : e ≠ t) : v.ownBlock ≠ some g := by
 rcases h.2 with ⟨rfl, _⟩ | ⟨g', cap, cur, rfl, _, hh, _⟩
 · simp [Value.ownBlock]
 · intro he
   have : g' = g := by simpa [Value.ownBlock] using he
   subst this
   exact Blk.ne_ (t := e) hh hg hne rfl
end
section
variable {P : Program} (w : World)
theorem run_append_of_nil (base : Nat) (t ty e : TypeId) (i : TypeInfo) (size : Nat) (ht : P.underlying t = some (.slice e)) (hi : P.info? e = some i)
 (v : Value) (n : Nat) (xs : List Value) (hown : w.ownsRow base e size v n xs) (c : Nat) : (Builtin.append_ #[t, t] ty #[v, .slice none 0 c]).run P w = .ok v w := by
 rcases hown.2 with ⟨rfl, rfl⟩ | ⟨g, cap, cur, rfl, _, _, hnc, _⟩
 · simp [Builtin.append_, run_underlying ht, sizeOf, typeInfo, hi, Builtin.lenOf, Builtin.firstCells]
 · simp [Builtin.append_, run_underlying ht, sizeOf, typeInfo, hi, Builtin.lenOf, Builtin.firstCells, hnc, storeCells]
theorem run_append_any (base : Nat) (t ty e : TypeId) (i : TypeInfo) (z : Value) (size bytes : Nat) (ht : P.underlying t = some (.slice e)) (hi : P.info? e = some i) (hz : i.zero = some z)
 (hsize : i.size = size) (hby : i.bytes = bytes) (hzs : z.cells.size = size) (hsz : 0 < size)
 (v : Value) (n : Nat) (xs : List Value) (hown : w.ownsRow base e size v n xs)
 (B : Nat) (A : Option Addr) (m c : Nat) (news : List Value) (hr : Reads w B size A m news) (h1 : ∀ u ∈ news, u.oneCell' = true)
 (h63 : n + m ≤ maxLen) (hbytes : (n + m) * bytes ≤ 140737488355328) (hbase : base ≤ w.heap.size) :
 ∃ v' w', (Builtin.append_ #[t, t] ty #[v, .slice A m c]).run P w = .ok v' w' ∧ w'.ownsRow base e size v' (n + m) (xs ++ news) ∧ w.grownBy w' v.ownBlock ∧
  (v'.ownBlock = v.ownBlock ∨ v'.ownBlock = some w.heap.size) := by
 rcases A with _ | ad
 · have hm : m = 0 := by
    rcases Nat.eq_zero_or_pos m with h0 | h0
    · exact h0
    · obtain ⟨ad, h, _⟩ := hr.2 h0
      cases h
   subst hm
   have hn : news = [] := List.eq_nil_of_length_eq_zero (by simpa using hr.1)
   subst hn
   exact ⟨v, w, run_append_of_nil w base t ty e i size ht hi v n xs hown c, by simpa using hown, World.grownBy.refl w _, .inl rfl⟩
 · have hcells : ∀ j u, news[j]? = some u → w.cell? (ad.add j) = some u := by
    intro j u hu
    rcases Nat.eq_zero_or_pos m with h0 | h0
    · subst h0
      have hn : news = [] := List.eq_nil_of_length_eq_zero (by simpa using hr.1)
      subst hn
      simp at hu
    · obtain ⟨ad', h, _, hc⟩ := hr.2 h0
      injection h with h
      subst h
      exact hc j u hu
   obtain ⟨v', w', hrun, h2, h3, _, h5⟩ := run_append_own_at (P := P) w base t ty e i z size bytes ht hi hz hsize hby hzs hsz v n xs hown ad m c news hr.1 hcells h1 h63 hbytes hbase
   exact ⟨v', w', hrun, h2, h3, h5⟩
theorem wp_append_any {o : Oper} {a : Act} {K : Act → World → Prop} {Q : Exit → Act → World → Prop} (s x : Operand) (t : TypeId)
 (ho : o.op = .call { callee := .builtin .append, args := #[s, x], argTypes := #[t, t] })
 (base : Nat) (e : TypeId) (i : TypeInfo) (z : Value) (size bytes : Nat) (ht : P.underlying t = some (.slice e)) (hi : P.info? e = some i) (hz : i.zero = some z)
 (hsize : i.size = size) (hby : i.bytes = bytes) (hzs : z.cells.size = size) (hsz : 0 < size)
 (v : Value) (n : Nat) (xs : List Value) (hs : a.eval s = v) (hown : w.ownsRow base e size v n xs)
 (B : Nat) (A : Option Addr) (m c : Nat) (news : List Value) (hx : a.eval x = .slice A m c) (hr : Reads w B size A m news) (h1 : ∀ u ∈ news, u.oneCell' = true)
 (h63 : n + m ≤ maxLen) (hbytes : (n + m) * bytes ≤ 140737488355328) (hbase : base ≤ w.heap.size)
 (h : ∀ v' w', w'.ownsRow base e size v' (n + m) (xs ++ news) → w.grownBy w' v.ownBlock → (v'.ownBlock = v.ownBlock ∨ v'.ownBlock = some w.heap.size) → K (a.put o.dst v') w') : o.wp P a w K Q := by
 obtain ⟨v', w', hrun, h2, h3, h4⟩ := run_append_any (P := P) w base t o.type e i z size bytes ht hi hz hsize hby hzs hsz v n xs hown B A m c news hr h1 h63 hbytes hbase
 unfold Oper.wp execOp
 simp only [ho, resolve, invoke, builtin, Sem.run_bind, Sem.run_pure, Result.andThen_ok, List.map_toArray, List.map_cons, List.map_nil, hs, hx, hrun]
 exact h v' w' h2 h3 h4
theorem wpList_append_any {ops : Array Oper} {rest : List Oper} {o : Oper} {a : Act} {Q : Exit → Act → World → Prop} (hgd : o.guard = none) (s x : Operand) (t : TypeId)
 (ho : o.op = .call { callee := .builtin .append, args := #[s, x], argTypes := #[t, t] })
 (base : Nat) (e : TypeId) (i : TypeInfo) (z : Value) (size bytes : Nat) (ht : P.underlying t = some (.slice e)) (hi : P.info? e = some i) (hz : i.zero = some z)
 (hsize : i.size = size) (hby : i.bytes = bytes) (hzs : z.cells.size = size) (hsz : 0 < size)
 (v : Value) (n : Nat) (xs : List Value) (hs : a.eval s = v) (hown : w.ownsRow base e size v n xs)
 (B : Nat) (A : Option Addr) (m c : Nat) (news : List Value) (hx : a.eval x = .slice A m c) (hr : Reads w B size A m news) (h1 : ∀ u ∈ news, u.oneCell' = true)
 (h63 : n + m ≤ maxLen) (hbytes : (n + m) * bytes ≤ 140737488355328) (hbase : base ≤ w.heap.size)
 (h : ∀ v' w', w'.ownsRow base e size v' (n + m) (xs ++ news) → w.grownBy w' v.ownBlock → (v'.ownBlock = v.ownBlock ∨ v'.ownBlock = some w.heap.size) → wpList P ops Q rest (a.put o.dst v') w') : wpList P ops Q (o :: rest) a w :=
 wpList_plain hgd fun _ hK => wp_append_any w s x t ho base e i z size bytes ht hi hz hsize hby hzs hsz v n xs hs hown B A m c news hx hr h1 h63 hbytes hbase fun v' w' h2 h3 h4 => hK _ _ (h v' w' h2 h3 h4)
end
theorem gb_drewN {a w : World} {row : Option Nat} (h : a.grownBy w row) (n : Nat) : a.grownBy (w.drewN n) row := ⟨h.os, h.tape, h.output, h.size, h.block⟩
theorem gb_drew {a w : World} {row : Option Nat} (h : a.grownBy w row) : a.grownBy w.drew row := ⟨h.os, h.tape, h.output, h.size, h.block⟩
theorem gb_refl (a : World) (row : Option Nat) : a.grownBy a row := ⟨rfl, rfl, rfl, Nat.le_refl _, fun _ _ _ => rfl⟩
theorem gb_trans {a b c : World} {row : Option Nat} (h : a.grownBy b row) (k : b.grownBy c row) : a.grownBy c row :=
 ⟨k.os.trans h.os, k.tape.trans h.tape, k.output.trans h.output, Nat.le_trans h.size k.size, fun i hi hne => (k.block i (Nat.lt_of_lt_of_le hi h.size) hne).trans (h.block i hi hne)⟩
theorem gb_none {a b : World} {row : Option Nat} (h : a.grownBy b none) : a.grownBy b row := ⟨h.os, h.tape, h.output, h.size, fun i hi _ => h.block i hi (by simp)⟩
theorem gb_alloc {a w : World} {row : Option Nat} (h : a.grownBy w row) (o : Obj) : a.grownBy (w.alloc o) row :=
 ⟨h.os, h.tape, h.output, Nat.le_trans h.size (by simp), fun i hi hne => (Below.heap_alloc w o i (Nat.lt_of_lt_of_le hi h.size)).trans (h.block i hi hne)⟩
theorem gb_set {a w : World} {row : Option Nat} (h : a.grownBy w row) {p : Addr} (hp : some p.block = row ∨ a.heap.size ≤ p.block) (u : Value) : a.grownBy (w.setCell p u) row :=
 ⟨h.os, h.tape, h.output, by simpa [World.setCell] using h.size, fun i hi hne => (Below.heap_setCell w p u i (by
  rintro rfl
  rcases hp with hp | hp
  · exact hne hp
  · omega)).trans (h.block i hi hne)⟩
theorem gb_of_below {a w : World} (h : Below a.heap.size a w) (row : Option Nat) : a.grownBy w row := ⟨h.os, h.tape, h.output, h.size, fun i hi _ => h.block i hi⟩
theorem below_of_gb {a w : World} (h : a.grownBy w none) : Below a.heap.size a w := ⟨h.os, h.tape, h.output, h.size, fun i hi => h.block i hi (by simp)⟩
theorem Blk.gb {w w' : World} {g : Nat} {t : TypeId} {cs : Array Value} {row : Option Nat} (h : Blk w g t cs) (hb : w.grownBy w' row) (hg : some g ≠ row) : Blk w' g t cs := (hb.block g h.lt hg).trans h
theorem wraps_u64 (n : Int) (h0 : 0 ≤ n) (h1 : n < 2 ^ 64) : IntKind.u64.wrap n = n := by
 simp [IntKind.wrap, IntKind.bits, IntKind.signed]; omega
theorem wraps_i64 (n : Int) (h0 : 0 ≤ n) (h1 : n < 2 ^ 63) : IntKind.i64.wrap n = n := by
 rw [IntKind.wrap_i64]; omega
theorem or_u64 (a b : Nat) (ha : a < 2 ^ 64) (hb : b < 2 ^ 64) : bits .or .u64 a b = ((a ||| b : Nat) : Int) := (bits_nat .u64 64 (by decide) wraps_u64 a b ha hb).2
theorem and_u8 (a b : Nat) (ha : a < 2 ^ 8) (hb : b < 2 ^ 8) : bits .and .u8 a b = ((a &&& b : Nat) : Int) := (bits_nat .u8 8 (by decide) wraps_u8 a b ha hb).1
theorem ret_int {k : IntKind} {a b : Int} (h : a = b) : Ending.returned (.int k a) = .returned (.int k b) := by rw [h]
def Lim : Nat := 1099511627776
theorem Lim_le {n : Nat} (h : n ≤ Lim) : n ≤ 1099511627776 := h
theorem own_shape {w : World} {base : Nat} {e : TypeId} {size : Nat} {v : Value} {n : Nat} {xs : List Value} (h : w.ownsRow base e size v n xs) : ∃ A c, v = .slice A n c := by
 rcases h.2 with ⟨h1, h2⟩ | ⟨g, cap, cur, hv, _⟩
 · exact ⟨none, 0, by rw [h1, h2]⟩
 · exact ⟨_, _, hv⟩
theorem wpList_push {P : Program} (W : World) {ops : Array Oper} {rest : List Oper} {o : Oper} {a : Act} {Q : Exit → Act → World → Prop} (hgd : o.guard = none) (s x : Operand) (t : TypeId)
 (ho : o.op = .call { callee := .builtin .append, args := #[s, x], argTypes := #[t, t] })
 (base : Nat) (e : TypeId) (i : TypeInfo) (z : Value) (bytes : Nat) (ht : P.underlying t = some (.slice e)) (hi : P.info? e = some i) (hz : i.zero = some z)
 (hsize : i.size = 1) (hby : i.bytes = bytes) (hzs : z.cells.size = 1)
 (A : Option Addr) (n c : Nat) (xs : List Value) (hs : a.eval s = .slice A n c) (hown : W.ownsRow base e 1 (.slice A n c) n xs)
 (u : Value) (te : TypeId) (h1 : u.oneCell' = true) (hx : a.eval x = .slice (some ⟨W.heap.size, 0, none⟩) 1 1)
 (hbytes : (n + 1) * bytes ≤ 140737488355328) (h63 : n + 1 ≤ maxLen) (hbase : base ≤ W.heap.size)
 (h : ∀ A' c' w', w'.ownsRow base e 1 (.slice A' (n + 1) c') (n + 1) (xs ++ [u]) → W.grownBy w' (Value.slice A n c).ownBlock → wpList P ops Q rest (a.put o.dst (.slice A' (n + 1) c')) w') :
 wpList P ops Q (o :: rest) a (W.alloc (.cells #[u] te)) := by
 refine wpList_append_own (W.alloc (.cells #[u] te)) hgd s x t ho base e i z 1 bytes ht hi hz hsize hby hzs (by decide) (.slice A n c) n xs hs (hown.alloc _) ⟨W.heap.size, 0, none⟩ 1 1 [u] hx rfl ?_ ?_ h63 hbytes (by simp; omega) ?_
 · intro j v hj
   match j, hj with
   | 0, hj =>
     simp at hj; subst hj
     simp [Addr.add]
 · intro v hv
   simp at hv; subst hv; exact h1
 · intro v' w' ho' hg' _
   obtain ⟨A', c', rfl⟩ := own_shape ho'
   exact h A' c' w' ho' (gb_trans (gb_alloc (gb_refl _ _) _) hg')
def U (l : List UInt8) : List Value := l.map fun b => .int .u8 (b.toNat : Int)
theorem U_length (l : List UInt8) : (U l).length = l.length := by simp [U]
theorem U_append (a b : List UInt8) : U (a ++ b) = U a ++ U b := by simp [U]
theorem U_get (l : List UInt8) (i : Nat) : (U l)[i]? = l[i]?.map fun b => .int .u8 (b.toNat : Int) := by simp [U]
theorem U_one (l : List UInt8) : ∀ u ∈ U l, u.oneCell' = true := by
 intro u hu
 simp only [U, List.mem_map] at hu
 obtain ⟨b, _, rfl⟩ := hu
 rfl
theorem info5 : (Tryz.prog.info? 5).map (fun i => (i.zero, i.size, i.bytes)) = some (some (.int .u8 0), 1, 1) := by kernel_rfl
end Go.Proofs.YtnjhjbmngoeobaaGreatDoor
namespace Go.Proofs.YtnjhjbmngoeobaaGreatDoor
open Go.RowKit
set_option maxRecDepth 100000
theorem own_full {w : World} {base g n : Nat} {e : TypeId} {xs : List Value} (h : w.ownsRow base e 1 (.slice (some ⟨g, 0, none⟩) n n) n xs) :
 w.heap[g]? = some (.cells xs.toArray e (0, 0)) := by
 obtain ⟨h1, h2⟩ := h
 rcases h2 with ⟨h2, _⟩ | ⟨g', cap, cur, hv, hb, hh, hc, hm, hs, ht⟩
 · cases h2
 · injection hv with hv1 hv2 hv3
   injection hv1 with hv1
   injection hv1 with hv1
   subst hv1 hv3
   rw [hh]
   congr 1
   have : cur.toList = xs := by rw [← ht, List.take_of_length_le (by simp [hs])]
   rw [← this]
theorem full_own {w : World} {base g n : Nat} {e : TypeId} {xs : List Value} (hb : base ≤ g) (hl : xs.length = n) (hn : n ≤ maxLen) (h : w.heap[g]? = some (.cells xs.toArray e (0, 0))) :
 w.ownsRow base e 1 (.slice (some ⟨g, 0, none⟩) n n) n xs :=
 ⟨by simp [hl], .inr ⟨g, n, xs.toArray, rfl, hb, h, Nat.le_refl _, hn, by simp [hl], by simp [← hl]⟩⟩
theorem size5 : (Tryz.prog.info? 5).map (·.size) = some 1 := by kernel_rfl
set_option maxHeartbeats 400000 in
theorem taken_any (A : Option Addr) (n c : Nat) (l : List UInt8) (w : World) (h : Reads w w.heap.size 1 A n (U l)) (hn : n ≤ Lim) :
 Calls Tryz.prog 43 #[.slice A n c] w fun e w' => e = .returned (.slice (some ⟨w.heap.size, 0, none⟩) n n) ∧ w'.ownsRow w.heap.size 5 1 (.slice (some ⟨w.heap.size, 0, none⟩) n n) n (U l) ∧ Below w.heap.size w w' := by
 obtain ⟨i0, hi, hz0, hz1, hz2⟩ := info_parts info5
 have hn1 := Lim_le hn
 have hlen : (U l).length = n := by have := h.1; simpa using this
 have h2 : i0.bytes * n ≤ 281474976710656 := by rw [hz2]; omega
 have h3 : n ≤ maxLen := by simp only [maxLen]; omega
 have Hl := Lib.hid hlen
 clear hn1 hlen
 go_enter Tryz.func43, Tryz.ntmps43
 go_wp2_with (first
  | (at_make
     refine wpList_make_full w rfl (.tmp 5) (.tmp 5) 35 rfl w.heap.size 5 i0 _ 1 Tryz.underlying35 hi hz0 hz1 .i64 .i64 n n n rfl rfl rfl rfl h2 h3 (Nat.le_refl _) ?_
     intro w1 hown hg
     have hf := Lib.hid (own_full hown)
     have hm := Lib.hid (show (madeCells (Value.int IntKind.u8 0).cells (n * 1)).toList.length = n from by simpa using hown.1)
     have hb : Below w.heap.size w w1 := (Below.refl _ _).grown hg (Nat.le_refl _) (by intro k hk; cases hk)
     have hr := h.below hb)
  | (with_reducible refine wpList_copy_splice rfl (.tmp 7) (.tmp 8) 35 35 rfl 5 Tryz.underlying35 size5 _ _ n n n c rfl rfl w.heap.size 0 _ 5 hf.out (U l) ?_ ?_ ?_ (U_one l) w.heap.size w hb (Nat.le_refl _) ?_
     · rw [Hl.out]; exact (Nat.min_self n).symm
     · intro hp
       obtain ⟨ad, e1, e2, e3⟩ := hr.2 (by rw [Hl.out] at hp; exact hp)
       exact ⟨rfl, ad, e1, e3⟩
     · rw [hm.out, Hl.out]; omega
     intro w2 hg2 hb2))
 go_ret
 refine ⟨rfl, full_own (Nat.le_refl _) Hl.out h3 ?_, hb2⟩
 have := hg2.out
 rw [this]
 have h1 := hm.out
 have h2 := Hl.out
 simp only [splice]
 rw [List.drop_eq_nil_of_le (by omega)]
 simp
structure Rdr (w : World) (g h : Nat) (l : List UInt8) (at_ met : Nat) : Prop where
 blk : Blk w g 141 #[.slice (some ⟨h, 0, none⟩) l.length l.length, .int .i64 at_, .int .i64 met]
 row : Blk w h 5 (U l).toArray
 len : l.length ≤ Lim
 hat : at_ ≤ l.length
theorem Rdr.ne {w : World} {g h : Nat} {l : List UInt8} {a m : Nat} (r : Rdr w g h l a m) : g ≠ h := r.blk.ne_ r.row (by decide)
theorem Rdr.c0 {w : World} {g h : Nat} {l : List UInt8} {a m : Nat} (r : Rdr w g h l a m) : w.cell? ⟨g, 0, none⟩ = some (.slice (some ⟨h, 0, none⟩) l.length l.length) := by rw [r.blk.cell]; rfl
theorem Rdr.c1 {w : World} {g h : Nat} {l : List UInt8} {a m : Nat} (r : Rdr w g h l a m) : w.cell? ⟨g, 1, none⟩ = some (.int .i64 a) := by rw [r.blk.cell]; rfl
theorem Rdr.c2 {w : World} {g h : Nat} {l : List UInt8} {a m : Nat} (r : Rdr w g h l a m) : w.cell? ⟨g, 2, none⟩ = some (.int .i64 m) := by rw [r.blk.cell]; rfl
theorem Rdr.drewN {w : World} {g h : Nat} {l : List UInt8} {a m : Nat} (r : Rdr w g h l a m) (k : Nat) : Rdr (w.drewN k) g h l a m := ⟨r.blk.drewN k, r.row.drewN k, r.len, r.hat⟩
theorem Rdr.gb {w w' : World} {g h : Nat} {l : List UInt8} {a m : Nat} (r : Rdr w g h l a m) (hb : w.grownBy w' none) : Rdr w' g h l a m := ⟨r.blk.gb hb (by simp), r.row.gb hb (by simp), r.len, r.hat⟩
theorem Rdr.turned {w w' : World} {g h : Nat} {l : List UInt8} {a m a' m' : Nat} (r : Rdr w g h l a m) (hb : w.grownBy w' (some g)) (ha : a' ≤ l.length)
 (hk : Blk w' g 141 #[.slice (some ⟨h, 0, none⟩) l.length l.length, .int .i64 a', .int .i64 m']) : Rdr w' g h l a' m' :=
 ⟨hk, r.row.gb hb (by have := r.ne; simpa using fun e => this e.symm), r.len, ha⟩
theorem Rdr.stopped {w : World} {g h : Nat} {l : List UInt8} {a m : Nat} (r : Rdr w g h l a m) (a' m' : Nat) (ha' : a' ≤ l.length) :
 Rdr ((w.setCell ⟨g, 1, none⟩ (.int .i64 a')).setCell ⟨g, 2, none⟩ (.int .i64 m')) g h l a' m' ∧ w.grownBy ((w.setCell ⟨g, 1, none⟩ (.int .i64 a')).setCell ⟨g, 2, none⟩ (.int .i64 m')) (some g) := by
 have hb : w.grownBy ((w.setCell ⟨g, 1, none⟩ (.int .i64 a')).setCell ⟨g, 2, none⟩ (.int .i64 m')) (some g) := by
  refine gb_set (p := ⟨g, 2, none⟩) ?_ (.inl rfl) _
  exact gb_set (p := ⟨g, 1, none⟩) (gb_refl _ _) (.inl rfl) _
 have hk := (r.blk.set_ 1 (.int .i64 a')).set_ 2 (.int .i64 m')
 exact ⟨r.turned hb ha' (by simpa using hk), hb⟩
theorem left_any (g h : Nat) (l : List UInt8) (a m : Nat) (w : World) (r : Rdr w g h l a m) :
 Calls Tryz.prog 60 #[.pointer (some ⟨g, 0, none⟩)] w fun e w' => e = .returned (.int .i64 ((l.length : Int) - a)) ∧ ∃ k, w' = w.drewN k := by
 have h0 := r.c0
 have h1 := r.c1
 have hl := Lim_le r.len
 have ha := r.hat
 clear r
 go_enter Tryz.func60, Tryz.ntmps60
 go_wp2_with fail
 go_quiet (fail)
 go_wp2
 go_ret
 exact ⟨rfl, _, rfl⟩
theorem stop_any (g h : Nat) (l : List UInt8) (a m : Nat) (a' m' : Nat) (w : World) (r : Rdr w g h l a m) (ha' : a' ≤ l.length) :
 Calls Tryz.prog 74 #[.pointer (some ⟨g, 0, none⟩), .int .i64 a', .int .i64 m'] w fun e w' => e = .returned (.tuple #[]) ∧ Rdr w' g h l a' m' ∧ w.grownBy w' (some g) := by
 have h1 := r.c1
 have h2 := r.c2
 have f1 := r.blk.frozen 1
 have f2 := r.blk.frozen 2
 have H := Lib.hid r
 clear r
 go_enter Tryz.func74, Tryz.ntmps74
 go_wp2
 go_end0
 exact ⟨rfl, H.out.stopped a' m' ha'⟩
theorem next_met (g h : Nat) (l : List UInt8) (a m : Nat) (k : Int) (w : World) (r : Rdr w g h l a m) (hm : m ≠ 0) :
 Calls Tryz.prog 75 #[.pointer (some ⟨g, 0, none⟩), .int .i64 k] w fun e w' => e = .returned (.slice none 0 0) ∧ w' = w := by
 have h2 := r.c2
 have hb : (((m : Int) == 0) = false) := by simpa using hm
 have hb' : (((m : Int) != 0) = true) := by simpa using hm
 clear r hm
 go_enter Tryz.func75, Tryz.ntmps75
 go_wp2
 go_ret
 exact ⟨rfl, rfl⟩
theorem next_short (g h : Nat) (l : List UInt8) (a : Nat) (k : Int) (w : World) (r : Rdr w g h l a 0) (hk : (l.length : Int) - a < k) :
 Calls Tryz.prog 75 #[.pointer (some ⟨g, 0, none⟩), .int .i64 k] w fun e w' => e = .returned (.slice none 0 0) ∧ Rdr w' g h l a 1 ∧ w.grownBy w' (some g) := by
 have h1 := r.c1
 have h2 := r.c2
 have H := Lib.hid r
 clear r
 go_enter Tryz.func75, Tryz.ntmps75
 go_wp2_with fail
 refine (left_any g h l a 0 _ H.out).mono ?_
 rintro e w1 ⟨rfl, k1, rfl⟩
 go_wp2_with fail
 refine (stop_any g h l a 0 a 1 _ (H.out.drewN _) H.out.hat).mono ?_
 rintro e w1 ⟨rfl, r1, g1⟩
 have H1 := Lib.hid r1
 clear r1
 go_wp2
 go_ret
 exact ⟨rfl, H1.out, gb_trans (gb_drewN (gb_refl _ _) _) g1⟩
theorem U_cell {w : World} {h : Nat} {l : List UInt8} (hb : Blk w h 5 (U l).toArray) (j : Nat) : w.cell? ⟨h, j, none⟩ = l[j]?.map fun b => .int .u8 (b.toNat : Int) := by
 rw [hb.cell, List.getElem?_toArray, U_get]
def NextOk (w : World) (g h : Nat) (l : List UInt8) (a k : Nat) (e : Ending) (w' : World) : Prop :=
 ∃ o c, e = .returned (.slice (some ⟨h, o, none⟩) k c) ∧ (0 < k → o = a) ∧ Rdr w' g h l (a + k) 0 ∧ w.grownBy w' (some g)
theorem Rdr.moved {w : World} {g h : Nat} {l : List UInt8} {a m : Nat} (r : Rdr w g h l a m) (a' : Nat) (ha' : a' ≤ l.length) (n : Nat) :
 Rdr ((w.drewN n).setCell ⟨g, 1, none⟩ (.int .i64 a')) g h l a' m ∧ w.grownBy ((w.drewN n).setCell ⟨g, 1, none⟩ (.int .i64 a')) (some g) := by
 have hb : w.grownBy ((w.drewN n).setCell ⟨g, 1, none⟩ (.int .i64 a')) (some g) := gb_set (p := ⟨g, 1, none⟩) (gb_drewN (gb_refl _ _) _) (.inl rfl) _
 have hk := (r.blk.drewN n).set_ 1 (.int .i64 a')
 exact ⟨r.turned hb ha' (by simpa using hk), hb⟩
theorem next_ok (g h : Nat) (l : List UInt8) (a k : Nat) (w : World) (r : Rdr w g h l a 0) (hk : a + k ≤ l.length) :
 Calls Tryz.prog 75 #[.pointer (some ⟨g, 0, none⟩), .int .i64 k] w fun e w' => NextOk w g h l a k e w' := by
 have h0 := r.c0
 have h1 := r.c1
 have h2 := r.c2
 have f1 := r.blk.frozen 1
 have hl := Lim_le r.len
 have H := Lib.hid r
 clear r
 go_enter Tryz.func75, Tryz.ntmps75
 go_wp2_with fail
 refine (left_any g h l a 0 _ H.out).mono ?_
 rintro e w1 ⟨rfl, k1, rfl⟩
 go_wp2_with fail
 go_quiet (fail)
 go_wp2
 all_goals go_ret
 all_goals have hm := H.out.moved (a + k) hk (k1 + nq)
 · rename_i he
   exact ⟨0, _, rfl, fun hp => by omega, by simpa using hm⟩
 · exact ⟨a, _, rfl, fun hp => rfl, by simpa using hm⟩
def ErrTab (w : World) : Prop := w.cell? ⟨2, 0, none⟩ = some (.int .i64 0) ∧ w.cell? ⟨2, 1, none⟩ = some (.int .i64 10) ∧ w.cell? ⟨2, 2, none⟩ = some (.int .i64 11) ∧ w.cell? ⟨2, 3, none⟩ = some (.int .i64 12) ∧ w.cell? ⟨2, 4, none⟩ = some (.int .i64 14)
def errOf (m : Nat) : Int := match m with | 0 => 0 | 1 => 10 | 2 => 11 | 3 => 12 | _ => 14
theorem ErrTab.at_ {w : World} (h : ErrTab w) (m : Nat) (hm : m < 5) : w.cell? ⟨2, m, none⟩ = some (.int .i64 (errOf m)) := by
 obtain ⟨h0, h1, h2, h3, h4⟩ := h
 match m, hm with
 | 0, _ => exact h0
 | 1, _ => exact h1
 | 2, _ => exact h2
 | 3, _ => exact h3
 | 4, _ => exact h4
theorem fault_any (g h : Nat) (l : List UInt8) (a m : Nat) (w : World) (r : Rdr w g h l a m) (hm : m < 5) (he : ErrTab w) :
 Calls Tryz.prog 77 #[.pointer (some ⟨g, 0, none⟩)] w fun e w' => e = .returned (.int .i64 (errOf m)) ∧ w' = w := by
 have h2 := r.c2
 have hc := he.at_ m hm
 clear r he
 go_enter Tryz.func77, Tryz.ntmps77
 go_wp2
 go_ret
 exact ⟨rfl, rfl⟩
end Go.Proofs.YtnjhjbmngoeobaaGreatDoor
namespace Go.Proofs.YtnjhjbmngoeobaaGreatDoor
def numGo : List UInt8 → Nat → Nat → Option (Nat × Nat)
 | [], _, _ => none
 | c :: l, i, n =>
   if 10 ≤ i then none
   else if i = 9 ∧ 1 < c.toNat then none
   else if c.toNat < 128 then (if c.toNat = 0 ∧ 0 < i then none else some (n + c.toNat * 128 ^ i, i + 1))
   else numGo l (i + 1) (n + (c.toNat % 128) * 128 ^ i)
def num (l : List UInt8) : Option (Nat × Nat) := numGo l 0 0
theorem numGo_ten (l : List UInt8) (i n : Nat) (h : 10 ≤ i) : numGo l i n = none := by
 cases l with
 | nil => rfl
 | cons c l => simp [numGo, h]
theorem numGo_zero (c : UInt8) (l : List UInt8) (i n x : Nat) (hx : x = c.toNat) (h0 : x < 1) (hi : 0 < i) : numGo (c :: l) i n = none := by
 unfold numGo
 split
 · rfl
 · split
   · rfl
   · rw [if_pos (by omega), if_pos (by omega)]
theorem numGo_done (c : UInt8) (l : List UInt8) (i n x y : Nat) (hx : x = c.toNat) (hy : y = n + (x % 128) * 128 ^ i) (hb : x < 128) (hi : i < 10) (h9 : i = 9 → x ≤ 1) (h0 : 0 < x ∨ i = 0) : numGo (c :: l) i n = some (y, i + 1) := by
 rw [Nat.mod_eq_of_lt hb] at hy
 unfold numGo
 rw [if_neg (by omega), if_neg (by omega), if_pos (by omega), if_neg (by omega), ← hx, ← hy]
theorem numGo_more (c : UInt8) (l : List UInt8) (i n x y : Nat) (hx : x = c.toNat) (hy : y = n + (x % 128) * 128 ^ i) (hb : ¬ x < 128) (hi : i < 9) : numGo (c :: l) i n = numGo l (i + 1) y := by
 conv => lhs; unfold numGo
 rw [if_neg (by omega), if_neg (by omega), if_neg (by omega), ← hx, ← hy]
theorem numGo_nine (c : UInt8) (l : List UInt8) (i n x : Nat) (hi : 9 ≤ i) (hx : x = c.toNat) (hb : 1 < x) : numGo (c :: l) i n = none := by
 by_cases h10 : 10 ≤ i
 · exact numGo_ten _ _ _ h10
 obtain rfl : i = 9 := by omega
 unfold numGo
 rw [if_neg (by omega), if_pos ⟨rfl, by omega⟩]
theorem pow128 (i : Nat) (h : i < 9) : 128 ^ i * 128 ≤ 9223372036854775808 := by
 match i, h with
 | 0, _ => decide
 | 1, _ => decide
 | 2, _ => decide
 | 3, _ => decide
 | 4, _ => decide
 | 5, _ => decide
 | 6, _ => decide
 | 7, _ => decide
 | 8, _ => decide
theorem step_lt (i n c : Nat) (hn : n < 128 ^ i) : n + (c % 128) * 128 ^ i < 128 ^ (i + 1) := by
 rw [Nat.pow_succ]
 have h1 : c % 128 ≤ 127 := by omega
 have h2 : (c % 128) * 128 ^ i ≤ 127 * 128 ^ i := Nat.mul_le_mul_right _ h1
 omega
theorem step_lt9 (n c : Nat) (hc : c ≤ 1) (hn : n < 128 ^ 9) : n + c * 128 ^ 9 < 2 ^ 64 := by
 have h : (128 : Nat) ^ 9 = 9223372036854775808 := by decide
 rw [h] at *
 have : c * 9223372036854775808 ≤ 1 * 9223372036854775808 := Nat.mul_le_mul_right _ hc
 omega
theorem step_nine (k n x : Nat) (hk : 9 ≤ k) (hk' : k < 10) (hx : x ≤ 1) (hn : n < 128 ^ k) : n + (x % 128) * 128 ^ k < 2 ^ 64 := by
 obtain rfl : k = 9 := by omega
 rw [Nat.mod_eq_of_lt (by omega)]
 exact step_lt9 n x hx hn
theorem or_add (i n x : Nat) (hn : n < 128 ^ i) : n ||| (x * 128 ^ i) = n + x * 128 ^ i := by
 have e : (128 : Nat) ^ i = 2 ^ (7 * i) := by rw [Nat.pow_mul]
 rw [e] at hn ⊢
 have h := Nat.two_pow_add_eq_or_of_lt hn x
 rw [Nat.mul_comm x, Nat.or_comm, ← h, Nat.add_comm]
theorem numGo_bound : ∀ (l : List UInt8) (i n v s : Nat), n < 128 ^ i → i ≤ 9 → numGo l i n = some (v, s) → v < 2 ^ 64 ∧ i < s ∧ s ≤ 10 ∧ s ≤ i + l.length := by
 intro l
 induction l with
 | nil => intro i n v s _ _ h; cases h
 | cons c l ih =>
   intro i n v s hn hi h
   have hc := c.toNat_lt
   unfold numGo at h
   rw [if_neg (by omega)] at h
   split at h
   · cases h
   · rename_i h9
     split at h
     · split at h
       · cases h
       · injection h with h
         injection h with h1 h2
         subst h1 h2
         refine ⟨?_, by omega, by omega, by simp⟩
         by_cases h8 : i < 9
         · have h1 := step_lt i n c.toNat hn
           rw [Nat.mod_eq_of_lt (by omega)] at h1
           have h2 := pow128 i h8
           rw [Nat.pow_succ] at h1
           omega
         · have : i = 9 := by omega
           subst this
           exact step_lt9 n c.toNat (by omega) hn
     · by_cases h8 : i < 9
       · obtain ⟨h1, h2, h3, h4⟩ := ih (i + 1) _ v s (step_lt i n c.toNat hn) (by omega) h
         refine ⟨h1, by omega, h3, ?_⟩
         simp only [List.length_cons]; omega
       · exfalso; omega
theorem num_bound (l : List UInt8) (v s : Nat) (h : num l = some (v, s)) : v < 2 ^ 64 ∧ 0 < s ∧ s ≤ 10 ∧ s ≤ l.length := by
 have := numGo_bound l 0 0 v s (by decide) (by decide) h
 omega
def vr (n : Nat) : Nat := if n < 128 then 0 else if n < 16384 then 1 else 2
def varPre (n : Nat) : Nat → List UInt8
 | 0 => []
 | k + 1 => varPre n k ++ [UInt8.ofNat (n / 128 ^ k % 128 + 128)]
def varP (n : Nat) : List UInt8 := varPre n (vr n) ++ [UInt8.ofNat (n / 128 ^ vr n)]
theorem varPre_length (n k : Nat) : (varPre n k).length = k := by
 induction k with
 | zero => rfl
 | succ k ih => simp [varPre, ih]
theorem varP_length (n : Nat) : (varP n).length = vr n + 1 := by simp [varP, varPre_length]
theorem ofNat_toNat (x : Nat) (h : x < 256) : (UInt8.ofNat x).toNat = x := by
 rw [UInt8.toNat_ofNat']
 omega
theorem num_varP (n : Nat) (hn : n ≤ 65536) (t : List UInt8) : num (varP n ++ t) = some (n, (varP n).length) := by
 unfold num
 rw [varP_length]
 unfold varP vr
 by_cases h1 : n < 128
 · rw [if_pos h1]
   exact numGo_done _ _ 0 0 n n (by simp <;> omega) (by simp <;> omega) h1 (by omega) (by omega) (.inr rfl)
 · rw [if_neg h1]
   by_cases h2 : n < 16384
   · rw [if_pos h2]
     have e0 : n / 128 ^ 0 % 128 + 128 < 256 := by omega
     show numGo (UInt8.ofNat (n / 128 ^ 0 % 128 + 128) :: UInt8.ofNat (n / 128 ^ 1) :: t) 0 0 = _
     rw [numGo_more _ _ 0 0 (n % 128 + 128) (n % 128) (by rw [ofNat_toNat _ e0] <;> simp) (by simp) (by omega) (by omega)]
     exact numGo_done _ _ 1 _ (n / 128) n (by rw [ofNat_toNat _ (by simp <;> omega)] <;> simp) (by simp <;> omega) (by omega) (by omega) (by omega) (.inl (by omega))
   · rw [if_neg h2]
     have e0 : n / 128 ^ 0 % 128 + 128 < 256 := by omega
     have e1 : n / 128 ^ 1 % 128 + 128 < 256 := by omega
     show numGo (UInt8.ofNat (n / 128 ^ 0 % 128 + 128) :: UInt8.ofNat (n / 128 ^ 1 % 128 + 128) :: UInt8.ofNat (n / 128 ^ 2) :: t) 0 0 = _
     rw [numGo_more _ _ 0 0 (n % 128 + 128) (n % 128) (by rw [ofNat_toNat _ e0] <;> simp) (by simp) (by omega) (by omega)]
     rw [numGo_more _ _ 1 (n % 128) (n / 128 % 128 + 128) (n % 128 + n / 128 % 128 * 128) (by rw [ofNat_toNat _ e1] <;> simp) (by simp) (by omega) (by omega)]
     have e2 : n / 16384 % 128 = n / 16384 := by omega
     exact numGo_done _ _ 2 _ (n / 16384) n (by rw [ofNat_toNat _ (by simp <;> omega)] <;> simp) (by simp [e2] <;> omega) (by omega) (by omega) (by omega) (.inl (by omega))
end Go.Proofs.YtnjhjbmngoeobaaGreatDoor
