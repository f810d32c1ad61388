/- PressExact: the walk's words. -/
import Derived.Test.YtejgoienkpaabaaDoorBookG
namespace Go.Proofs.YtejgoienkpaabaaDoor
open Go.RowKit
set_option maxRecDepth 100000
theorem decP_len (S D : BS) (bs : List UInt8) (n f : Nat) : ∀ (out : List UInt8) (p : Nat) (o : List UInt8) (q : Nat), out.length ≤ n → decP S D bs n f out p = some (o, q) → o.length ≤ n := by
  induction f with
  | zero => intro out p o q _ h; cases h
  | succ f ih =>
    intro out p o q hl h
    rw [decP] at h
    by_cases hn : n ≤ out.length
    · rw [if_pos hn] at h
      have h' := Option.some.inj h
      have h1 := congrArg Prod.fst h'
      simp only at h1
      rw [← h1]; exact hl
    · rw [if_neg hn] at h
      cases hx : nxt S.C bs 15 1 0 0 0 p with
      | none => rw [hx] at h; cases h
      | some a =>
        rw [hx, Option.bind_some] at h
        by_cases hy : S.ln.getD a.1 0 < 256
        · rw [if_pos hy] at h
          exact ih _ _ o q (by simp; omega) h
        · rw [if_neg hy] at h
          cases hc : copiedP D.C D.ln bs n (S.ln.getD a.1 0 - 256) out a.2 with
          | none => rw [hc] at h; cases h
          | some b =>
            rw [hc, Option.bind_some] at h
            exact ih _ _ o q (copiedP_len (p2 := b.2) (out2 := b.1) hl hc).2 h
theorem codedP_len (b : List UInt8) (n : Nat) (o : List UInt8) (h : codedP b n = some o) : o.length ≤ n := by
  unfold codedP at h
  split at h
  · cases h
  · cases hd : decP (bOut (symRow b) 15) (bOut (distRow b) 15) (b.drop 148) n (n + 1) [] 0 with
    | none => rw [hd] at h; cases h
    | some a =>
      rw [hd, Option.bind_some] at h
      split at h
      · have h' := Option.some.inj h
        rw [← h']
        exact decP_len _ _ _ _ _ [] 0 a.1 a.2 (Nat.zero_le _) hd
      · cases h
theorem unp_len (b : List UInt8) (max : Int) : (unpP b max).1.length ≤ 65536 ∧ ((unpP b max).2 ≠ 0 → (unpP b max).1 = []) ∧ (unpP b max).2 ≤ 81 := by
  unfold unpP
  split
  · exact ⟨by simp, fun _ => rfl, by simp⟩
  · split
    · exact ⟨by simp, fun _ => rfl, by simp⟩
    · split
      · exact ⟨by simp, fun _ => rfl, by simp⟩
      · rename_i n s _
        split
        · exact ⟨by simp, fun _ => rfl, by simp⟩
        · rename_i hb
          split
          · split
            · rename_i hl
              exact ⟨by simp only; omega, fun h => absurd rfl h, by simp⟩
            · exact ⟨by simp, fun _ => rfl, by simp⟩
          · split
            · split
              · rename_i o ho
                exact ⟨by have := codedP_len _ _ _ ho; simp only; omega, fun h => absurd rfl h, by simp⟩
              · exact ⟨by simp, fun _ => rfl, by simp⟩
            · exact ⟨by simp, fun _ => rfl, by simp⟩
theorem refUnp_eq (b : List UInt8) (max : Int) : refUnpP b max = unpP b max := by
  unfold refUnpP unpP
  simp only [refCoded_eq]
  rfl
def OwnPost (w : World) (out : List UInt8) (k : Nat) (e : Ending) (w' : World) : Prop :=
  ∃ A c, e = .returned (.tuple #[.slice A out.length c, .int .i64 (k : Int)]) ∧ w'.ownsRow w.heap.size 5 1 (.slice A out.length c) out.length (U out) ∧ Below w.heap.size w w'
theorem unp_own (A : Option Addr) (n c : Nat) (l : List UInt8) (max : Int) (w : World) (hn : l.length = n) (h : Sl w A l) (hc : n ≤ c) (hl : l.length ≤ Lim) (he : ErrTab w) (hmx : max ≤ 9223372036854775807) :
    Calls Tryd.prog 10 #[.slice A n c, .int .i64 max] w fun e w' => OwnPost w (unpP l max).1 (unpP l max).2 e w' := by
  refine (unp_any A n c l max w hn h hc hl he hmx).mono ?_
  rintro e w' ⟨hb, A', c', he', ho, hf⟩
  refine ⟨A', c', he', ?_, hb⟩
  by_cases hk : (unpP l max).2 = 0
  · exact ho hk
  · obtain ⟨rfl, rfl⟩ := hf hk
    rw [(unp_len l max).2.1 hk]
    exact World.ownsRow_nil _ _ _ _
theorem runp_own (A : Option Addr) (n c : Nat) (l : List UInt8) (max : Int) (w : World) (hn : l.length = n) (h : Sl w A l) (hc : n ≤ c) (hl : l.length ≤ Lim) (hmx : max ≤ 9223372036854775807) :
    Calls Tryd.prog 13 #[.slice A n c, .int .i64 max] w fun e w' => OwnPost w (unpP l max).1 (unpP l max).2 e w' := by
  refine (runp_any A n c l max w hn h hc hl hmx).mono ?_
  rintro e w' ⟨hb, A', c', he', ho, hf⟩
  rw [refUnp_eq] at he' ho hf
  refine ⟨A', c', he', ?_, hb⟩
  by_cases hk : (unpP l max).2 = 0
  · exact ho hk
  · obtain ⟨rfl, rfl⟩ := hf hk
    rw [(unp_len l max).2.1 hk]
    exact World.ownsRow_nil _ _ _ _
theorem sl_pre {w : World} {base g c : Nat} {l : List UInt8} (ho : w.ownsRow base 5 1 (.slice (some ⟨g, 0, none⟩) (l.length + 3) c) (l.length + 3) (U (l ++ mk3))) : Sl w (some ⟨g, 0, none⟩) l := by
  rcases Sl.of_own ho with h0 | ⟨b, o, he, hb, hcell⟩
  · simp [mk3] at h0
  · injection he with he; injection he with he1 he2
    subst he1 he2
    refine .inr ⟨g, 0, rfl, hb, fun j hj => ?_⟩
    rw [hcell j (by simp; omega), List.getD_eq_getElem?_getD, List.getD_eq_getElem?_getD, List.getElem?_append_left hj]
theorem Sl.gbrow {w w' : World} {A : Option Addr} {l : List UInt8} (h : Sl w A l) {g : Nat} (hg : w.grownBy w' (some g)) (hA : ∀ a, A = some a → a.block ≠ g) : Sl w' A l := by
  rcases h with rfl | ⟨h, o, rfl, hlt, hc⟩
  · exact .inl rfl
  · refine .inr ⟨h, o, rfl, by have := hg.size; omega, fun j hj => ?_⟩
    rw [← hc j hj]
    exact World.cell?_of_block (hg.block h hlt (fun e => hA _ rfl (by injection e)))
end Go.Proofs.YtejgoienkpaabaaDoor
