/- PressPlaced: what its walk leans on. -/
import Derived.Test.YtejgoienkpaabaaDoorMg33
namespace Go.Proofs.YtejgoienkpaabaaDoor
open Go.RowKit
set_option maxRecDepth 100000
theorem xor_u8 (c : Nat) (hc : c = 85 ∨ c = 1) (x : Nat) (h : x < 256) : Go.bits .xor .u8 (x : Int) (c : Int) = ((x ^^^ c : Nat) : Int) ∧ x ^^^ c < 256 := by
  rcases hc with rfl | rfl
  · exact (by decide +kernel : ∀ x : Nat, x < 256 → Go.bits .xor .u8 (x : Int) ((85 : Nat) : Int) = ((x ^^^ 85 : Nat) : Int) ∧ x ^^^ 85 < 256) x h
  · exact (by decide +kernel : ∀ x : Nat, x < 256 → Go.bits .xor .u8 (x : Int) ((1 : Nat) : Int) = ((x ^^^ 1 : Nat) : Int) ∧ x ^^^ 1 < 256) x h
theorem own_u8 {w : World} {base g n c i : Nat} {l : List UInt8} (ho : w.ownsRow base 5 1 (.slice (some ⟨g, 0, none⟩) n c) n (U l)) (hl : l.length = n) (hi : i < n) : w.cell? ⟨g, i, none⟩ = some (.int .u8 ((l.getD i 0).toNat : Int)) := by
  rw [ho.cellAt i (by omega), U_get, List.getElem?_eq_getElem (by omega), List.getD_eq_getElem?_getD, List.getElem?_eq_getElem (by omega)]
  rfl
def XfRel (w3 : World) (g n L base : Nat) (vi : Value) (wr : World) : Prop :=
  ∃ i : Nat, i ≤ n ∧ vi = .int .i64 i ∧ Hid (∃ l : List UInt8, l.length = L ∧ wr.ownsRow base 5 1 (.slice (some ⟨g, 0, none⟩) L L) L (U l)) ∧ Hid (w3.grownBy wr (some g))
theorem XfRel.set {w3 wr : World} {g n L base i y : Nat} {l : List UInt8} (hi : i < n) (hl : l.length = L) (ho : wr.ownsRow base 5 1 (.slice (some ⟨g, 0, none⟩) L L) L (U l)) (hg : w3.grownBy wr (some g)) (hy : y < 256) :
    XfRel w3 g n L base (.int .i64 ((i + 1 : Nat) : Int)) (wr.setCell ⟨g, i, none⟩ (.int .u8 (y : Int))) := by
  refine ⟨i + 1, hi, rfl, ⟨l.set i (UInt8.ofNat y), by rw [List.length_set]; exact hl, ?_⟩, gb_set (p := ⟨g, i, none⟩) hg (.inl rfl) _⟩
  rw [← U_set, ofNat_toNat y hy]
  exact own_set ho (i := i) _
theorem XfRel.skip {w3 wr : World} {g n L base i : Nat} {l : List UInt8} (hi : i < n) (hl : l.length = L) (ho : wr.ownsRow base 5 1 (.slice (some ⟨g, 0, none⟩) L L) L (U l)) (hg : w3.grownBy wr (some g)) :
    XfRel w3 g n L base (.int .i64 ((i + 1 : Nat) : Int)) wr := ⟨i + 1, hi, rfl, ⟨l, hl, ho⟩, hg⟩
/-- a reader's answer, its length named -/
def OkPost (w : World) (out : List UInt8) (m k : Nat) (e : Ending) (w' : World) : Prop :=
  ∃ A c, e = .returned (.tuple #[.slice A m c, .int .i64 (k : Int)]) ∧ w'.ownsRow w.heap.size 5 1 (.slice A m c) m (U out) ∧ Below w.heap.size w w'
theorem unp_ok (A : Option Addr) (n c m k : Nat) (l out : List UInt8) (max : Int) (w : World) (hn : l.length = n) (h : Sl w A l) (hc : n ≤ c) (hl : l.length ≤ Lim) (he : ErrTab w) (hmx : max ≤ 9223372036854775807) (hu : unpP l max = (out, k)) (hm : out.length = m) :
    Calls Tryd.prog 10 #[.slice A n c, .int .i64 max] w fun e w' => OkPost w out m k e w' := by
  refine (unp_own A n c l max w hn h hc hl he hmx).mono ?_
  rintro e w' ⟨A', c', he', ho, hb⟩
  rw [hu] at he' ho
  subst hm
  exact ⟨A', c', he', ho, hb⟩
theorem runp_ok (A : Option Addr) (n c m k : Nat) (l out : List UInt8) (max : Int) (w : World) (hn : l.length = n) (h : Sl w A l) (hc : n ≤ c) (hl : l.length ≤ Lim) (hmx : max ≤ 9223372036854775807) (hu : unpP l max = (out, k)) (hm : out.length = m) :
    Calls Tryd.prog 13 #[.slice A n c, .int .i64 max] w fun e w' => OkPost w out m k e w' := by
  refine (runp_own A n c l max w hn h hc hl hmx).mono ?_
  rintro e w' ⟨A', c', he', ho, hb⟩
  rw [hu] at he' ho
  subst hm
  exact ⟨A', c', he', ho, hb⟩
end Go.Proofs.YtejgoienkpaabaaDoor
