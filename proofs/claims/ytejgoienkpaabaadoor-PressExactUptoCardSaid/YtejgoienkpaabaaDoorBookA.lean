/- The law's Book: words, and its small functions. -/
import Derived.Test.YtejgoienkpaabaaDoorRight
namespace Go.Proofs.YtejgoienkpaabaaDoor
open Go.RowKit
set_option maxRecDepth 100000
/-- byte k of the mark of list n -/
def atm (n k : Nat) : Nat := if k % 2 = 0 then 1 + n else 1 + 7 * n
theorem mark_any (n k : Nat) (w : World) (hn : n ≤ 30) : Calls Tryd.prog 31 #[.int .i64 n, .int .i64 k] w fun e w' => e = .returned (.int .u8 (atm n k : Int)) ∧ w' = w := by
  obtain ⟨r, hr⟩ : ∃ r, r = k % 2 := ⟨_, rfl⟩
  have e1 : (k : Int) % 2 = (r : Int) := by omega
  have e2 : (k : Int).tmod 2 = (r : Int) := by rw [Int.tmod_eq_emod_of_nonneg (by omega)]; exact e1
  have e3 : (n : Int) % 251 = (n : Int) := by omega
  have e4 : (n : Int).tmod 251 = (n : Int) := by rw [Int.tmod_eq_emod_of_nonneg (by omega)]; exact e3
  have e5 : (n : Int) / 251 = 0 := by omega
  have e6 : (n : Int).tdiv 251 = 0 := by rw [Int.tdiv_eq_ediv_of_nonneg (by omega)]; exact e5
  have e7 : (7 * (n : Int) + 0) % 251 = 7 * (n : Int) := by omega
  have e8 : (7 * (n : Int) + 0).tmod 251 = 7 * (n : Int) := by rw [Int.tmod_eq_emod_of_nonneg (by omega)]; exact e7
  have e9 : (7 * (n : Int)) % 251 = 7 * (n : Int) := by omega
  have e10 : IntKind.u8.wrap (1 + (n : Int)) = 1 + (n : Int) := wraps_u8 _ (by omega) (by omega)
  have e11 : IntKind.u8.wrap (1 + 7 * (n : Int)) = 1 + 7 * (n : Int) := wraps_u8 _ (by omega) (by omega)
  have HR := Lib.hid hr
  go_enter Tryd.func31, Tryd.ntmps31
  by_cases h0 : r = 0
  · have hb : ((r : Int) == 0) = true := beq_iff_eq.2 (by omega)
    have HA : Hid (atm n k = 1 + n) := by show _ = _; rw [atm, if_pos (by rw [← hr]; exact h0)]
    clear hr h0
    go_wp2_with fail
    go_ret
    exact ⟨by rw [HA.out]; push_cast; rfl, rfl⟩
  · have hb : ((r : Int) == 0) = false := beq_eq_false_iff_ne.2 (by omega)
    have HA : Hid (atm n k = 1 + 7 * n) := by show _ = _; rw [atm, if_neg (by rw [← hr]; exact h0)]
    clear hr h0
    go_wp2_with fail
    go_ret
    exact ⟨by rw [HA.out]; push_cast; rfl, rfl⟩
/-- a Book's cells -/
def bk (B O : Value) (p turn done used : Nat) : Array Value :=
  List.toArray [B, O, .int .i64 p, .slice none 0 0, .slice none 0 0, .int .i64 0, .slice none 0 0, .slice none 0 0, .int .i64 0, .slice none 0 0, .slice none 0 0, .int .i64 0,
    .slice none 0 0, .slice none 0 0, .int .i64 0, .slice none 0 0, .slice none 0 0, .int .i64 0, .slice none 0 0, .slice none 0 0, .int .i64 0, .slice none 0 0, .slice none 0 0, .int .i64 0,
    .slice none 0 0, .slice none 0 0, .int .i64 0, .slice none 0 0, .slice none 0 0, .int .i64 0, .slice none 0 0, .slice none 0 0, .int .i64 0, .int .i64 turn, .int .i64 done, .int .i64 used]
theorem bk_start (w : World) : (Instr.build 48 #[]).run Tryd.prog w = .ok (.agg (bk (.slice none 0 0) (.slice none 0 0) 0 0 0 0)) w := run_build w 48 _ _ (by kernel_rfl)
set_option maxHeartbeats 400000 in
theorem tight_any (gb n : Nat) (B O : Value) (p turn done used : Nat) (w : World) (hb : Blk w gb 48 (bk B O p turn done used)) (h : used + n ≤ 16777216) :
    Calls Tryd.prog 32 #[.pointer (some ⟨gb, 0, none⟩), .int .i64 n] w fun e w' => e = .returned (.bool false) ∧ w' = w.setCell ⟨gb, 35, none⟩ (.int .i64 ((used + n : Nat) : Int)) := by
  have hc : w.cell? ⟨gb, 35, none⟩ = some (.int .i64 (used : Int)) := by rw [hb.cell, bk, List.getElem?_toArray]; rfl
  have hf := hb.frozen 35
  obtain ⟨y, hy⟩ : ∃ y, y = used + n := ⟨_, rfl⟩
  have e : (used : Int) + (n : Int) = (y : Int) := by omega
  have hd : decide ((16777216 : Int) < (y : Int)) = false := decide_eq_false (by omega)
  have hyb : y ≤ 16777216 := by omega
  rw [← hy]
  clear hb hy h
  go_enter Tryd.func32, Tryd.ntmps32
  go_wp2_with fail
  go_ret
  exact ⟨rfl, rfl⟩
/-- two rows of other kinds lie apart -/
theorem own_apart {w : World} {base base' : Nat} {e e' : TypeId} {size size' n n' : Nat} {v v' : Value} {xs xs' : List Value} (h : w.ownsRow base e size v n xs) (h' : w.ownsRow base' e' size' v' n' xs') (hne : e ≠ e') : v.ownBlock = none ∨ v.ownBlock ≠ v'.ownBlock := by
  rcases h.2 with ⟨rfl, _⟩ | ⟨g, cap, cur, rfl, _, hh, _⟩
  · exact .inl rfl
  · refine .inr fun he => ?_
    have hb : Blk w g e cur := hh
    exact own_blk_ne h' hb (fun x => hne x.symm) he.symm
/-- an own row while one of its cells is written -/
theorem own_set {w : World} {base e n g i c : Nat} {xs : List Value} (h : w.ownsRow base e 1 (.slice (some ⟨g, 0, none⟩) n c) n xs) (u : Value) :
    (w.setCell ⟨g, i, none⟩ u).ownsRow base e 1 (.slice (some ⟨g, 0, none⟩) n c) n (xs.set i u) := by
  refine ⟨by rw [List.length_set]; exact h.1, ?_⟩
  rcases h.2 with ⟨h2, _⟩ | ⟨g', cap, cur, hv, hb, hh, hc, hm, hs, ht⟩
  · cases h2
  · injection hv with hv1 hv2 hv3
    injection hv1 with hv1
    injection hv1 with hv1
    subst hv1 hv3
    have hB : Blk w g e cur := hh
    refine .inr ⟨g, c, cur.setIfInBounds i u, rfl, hb, hB.set_ i u, hc, hm, by simp [hs], ?_⟩
    rw [Array.toList_setIfInBounds, List.take_set, ht]
theorem own_cell {w : World} {base e n g i c : Nat} {xs : List Value} (h : w.ownsRow base e 1 (.slice (some ⟨g, 0, none⟩) n c) n xs) (hi : i < n) : ∃ u, w.cell? ⟨g, i, none⟩ = some u ∧ w.frozen? ⟨g, i, none⟩ = false ∧ g < w.heap.size := by
  rcases h.2 with ⟨h2, _⟩ | ⟨g', cap, cur, hv, hb, hh, hc, hm, hs, ht⟩
  · cases h2
  · injection hv with hv1 hv2 hv3
    injection hv1 with hv1
    injection hv1 with hv1
    subst hv1 hv3
    have hB : Blk w g e cur := hh
    refine ⟨cur[i]'(by rw [hs]; omega), by rw [hB.cell]; exact Array.getElem?_eq_getElem _, hB.frozen i, hB.lt⟩
/-- append of one element onto an own row: the row's old block keeps its cells below the row's length -/
def Safe (w w' : World) (v : Value) (n : Nat) : Prop :=
  ∀ h cs t, Blk w h t cs → (v.ownBlock ≠ some h → Blk w' h t cs) ∧ (v.ownBlock = some h → ∃ cs', Blk w' h t cs' ∧ ∀ j, j < n → cs'[j]? = cs[j]?)
theorem safe_of {P : Program} (w w' : World) (base : Nat) (t ty e : TypeId) (i : TypeInfo) (z : Value) (bytes : Nat) (ht : P.underlying t = some (.slice e)) (hi : P.info? e = some i) (hz : i.zero = some z)
    (hsize : i.size = 1) (v v' : Value) (n : Nat) (xs : List Value) (hown : w.ownsRow base e 1 v n xs)
    (a : Addr) (c : Nat) (u : Value) (hnews : w.cell? a = some u) (h63 : n + 1 ≤ maxLen) (hby : i.bytes = bytes) (hbytes : (n + 1) * bytes ≤ 140737488355328)
    (hrun : (Builtin.append_ #[t, t] ty #[v, .slice (some a) 1 c]).run P w = .ok v' w') (hg : w.grownBy w' v.ownBlock) (hown' : w'.ownsRow base e 1 v' (n + 1) (xs ++ [u])) (hu : u.oneCell' = true) : Safe w w' v n := by
  have hnews' : ∀ j x, ([u] : List Value)[j]? = some x → w.cell? (a.add j) = some x := by
    intro j x hj
    match j, hj with
    | 0, hj => simp at hj; subst hj; simpa [Addr.add] using hnews
  have hfar : ∀ h cs tt, Blk w h tt cs → v.ownBlock ≠ some h → Blk w' h tt cs := fun h cs tt hB hne => hB.gb hg (fun e => hne e.symm)
  have h63i : ((n + 1 : Nat) : Int) ≤ 9223372036854775807 := by simp only [maxLen] at h63; omega
  intro h cs tt hB
  refine ⟨hfar h cs tt hB, fun hv => ?_⟩
  rcases hown.2 with ⟨rfl, rfl⟩ | ⟨g, cap, cur, rfl, hbg, hgg, hnc, hcm, hcs, htake⟩
  · simp [Value.ownBlock] at hv
  · obtain rfl : g = h := by simpa [Value.ownBlock] using hv
    by_cases hroom : n + 1 ≤ cap
    · have hr := run_append_room (P := P) w t ty e i ht hi g n cap cur hgg a 1 c [u] (by simp [hsize]) hnews' (by intro x hx; simp at hx; subst hx; exact hu) hroom (by simp [hsize, hcs]; omega)
      rw [hrun] at hr
      injection hr with hr1 hr2
      subst hr1
      rcases hown'.2 with ⟨h2, _⟩ | ⟨g', cap', cur', hv', _, hh', _, _, hs', ht'⟩
      · cases h2
      · injection hv' with hv1 hv2 hv3
        injection hv1 with hv1
        injection hv1 with hv1
        subst hv1
        have hB0 : Blk w g e cur := hgg
        unfold Blk at hB hB0
        rw [hB0] at hB
        injection hB with hB
        injection hB with hB1 hB2
        subst hB1 hB2
        refine ⟨cur', hh', fun j hj => ?_⟩
        have e1 : cur'[j]? = (xs ++ [u])[j]? := by
          rw [← ht', List.getElem?_take, if_pos (by omega)]; simp
        have e2 : cur[j]? = xs[j]? := by
          rw [← htake, List.getElem?_take, if_pos (by omega)]; simp
        have hl : xs.length = n := by have := hown.1; simpa using this
        rw [e1, e2, List.getElem?_append_left (by omega)]
    · have holds : ∀ j x, xs[j]? = some x → w.cell? ((⟨g, 0, none⟩ : Addr).add j) = some x := hown.cells (g := g) rfl
      have hr := run_append_grow (P := P) w t ty e i z ht hi hz ⟨g, 0, none⟩ n cap xs (by rw [hsize]; exact hown.1) holds a 1 c [u] (by simp [hsize]) hnews' (by omega) h63i (by rw [hby]; exact growslice_fits (by omega) hbytes)
      rw [hrun] at hr
      injection hr with hr1 hr2
      subst hr2
      exact ⟨cs, (show Blk w.drew g tt cs from hB).alloc _, fun _ _ => rfl⟩
end Go.Proofs.YtejgoienkpaabaaDoor
