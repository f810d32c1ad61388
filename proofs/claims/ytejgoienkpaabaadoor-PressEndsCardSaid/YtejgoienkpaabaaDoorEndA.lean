/- PressEnds: what its walk leans on. -/
import Derived.Test.YtejgoienkpaabaaDoorPlcA
import Derived.Deep.RegionHeld3
import Derived.Deep.AppendLies
namespace Go.Proofs.YtejgoienkpaabaaDoor
open Go.RowKit
set_option maxRecDepth 100000
/-- the remainder that the law reckons -/
def WthPost (w : World) (e : Ending) (w' : World) : Prop := ∃ r : Nat, r < 254 ∧ e = .returned (.int .i64 (r : Int)) ∧ w = w'
theorem within_any (n : Int) (w : World) (_h0 : -9223372036854775808 ≤ n) (_h1 : n ≤ 9223372036854775807) :
    Calls Tryd.prog 20 #[.int .i64 n, .int .i64 254] w (WthPost w) := by
  have a1 : n.tmod 254 < 254 := Int.tmod_lt_of_pos _ (by omega)
  have a2 : -254 < n.tmod 254 := Int.lt_tmod_of_pos _ (by omega)
  obtain ⟨m, hm⟩ : ∃ m : Nat, (m : Int) = n.tmod 254 + 254 := ⟨(n.tmod 254 + 254).toNat, by omega⟩
  have e1 : IntKind.i64.wrap (n.tmod 254 + 254) = (m : Int) := by rw [wraps_i64 _ (by omega) (by omega)]; omega
  have e2 : n.tmod 254 + 254 = (m : Int) := by omega
  obtain ⟨r, hr⟩ : ∃ r : Nat, r = m % 254 := ⟨_, rfl⟩
  have e3 : (m : Int).tmod 254 = (r : Int) := by rw [Int.tmod_eq_emod_of_nonneg (by omega)]; omega
  have e4 : (m : Int) % 254 = (r : Int) := by omega
  have hr2 : r < 254 := by omega
  have hm5 : m ≤ 508 := by omega
  clear a1 a2 hm hr
  go_enter Tryd.func20, Tryd.ntmps20
  go_wp2_with fail
  go_ret
  exact ⟨r, hr2, rfl, rfl⟩
theorem byte_of (max : Int) : ∃ x : Nat, x < 256 ∧ IntKind.u8.wrap max = (x : Int) := by
  have h : 0 ≤ max % 256 ∧ max % 256 < 256 := by omega
  refine ⟨(max % 256).toNat, by omega, ?_⟩
  have : IntKind.u8.wrap max = max % 256 := rfl
  rw [this]
  omega
theorem news_one {w : World} {g : Nat} {te : TypeId} {v : Value} (h : Blk w g te #[v]) : ∀ j u, [v][j]? = some u → w.cell? ((⟨g, 0, none⟩ : Addr).add j) = some u := by
  intro j u hu
  have h0 := h.cell j
  rw [addr_add, Nat.zero_add, h0]
  simpa using hu
/-- a reader's answer, its length not told -/
def ErPost (w : World) (k : Nat) (e : Ending) (w' : World) : Prop :=
  ∃ A m c, e = .returned (.tuple #[.slice A m c, .int .i64 (k : Int)]) ∧ Below w.heap.size w w'
theorem unp_er (A : Option Addr) (n c k : Nat) (l out : List UInt8) (max : Int) (w : World) (hn : l.length = n) (h : Sl w A l) (hc : n ≤ c) (hl : l.length ≤ Lim) (he : ErrTab w) (hmx : max ≤ 9223372036854775807) (hu : unpP l max = (out, k)) :
    Calls Tryd.prog 10 #[.slice A n c, .int .i64 max] w fun e w' => ErPost w k e w' := by
  refine (unp_ok A n c out.length k l out max w hn h hc hl he hmx hu rfl).mono ?_
  rintro e w' ⟨A', c', he', _, hb⟩
  exact ⟨A', _, c', he', hb⟩
end Go.Proofs.YtejgoienkpaabaaDoor
