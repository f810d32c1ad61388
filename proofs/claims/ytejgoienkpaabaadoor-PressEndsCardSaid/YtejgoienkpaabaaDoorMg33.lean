/- PrsF, CardK (merged: one text behind the other). -/
import Derived.Test.YtejgoienkpaabaaDoorMg31
import Derived.Test.YtejgoienkpaabaaDoorMg32
import Derived.Test.YtejgoienkpaabaaDoorMg07
import Derived.Test.YtejgoienkpaabaaDoorCards
import Derived.Test.YtejgoienkpaabaaDoorTie
import Derived.WalkKit
import Derived.ProofKit
import Derived.OpenShut
import Derived.Deep.DeepHandedRow
import Derived.Lib.LaidTab
import Derived.Lib.SmallJoins
import Derived.WideKeyArgs
/- What the laws lean on: Press for one who asks. -/
namespace Go.Proofs.YtejgoienkpaabaaDoor
open Go.RowKit
set_option maxRecDepth 100000
/-- what Press answers to at most 65536 bytes -/
def PrPost (w : World) (b : List UInt8) (e : Ending) (w' : World) : Prop :=
  ∃ A c, e = .returned (.tuple #[.slice A (pressP b).length c, .int .i64 0]) ∧ w'.ownsRow w.heap.size 5 1 (.slice A (pressP b).length c) (pressP b).length (U (pressP b)) ∧ Below w.heap.size w w' ∧ Good (pressP b) b
theorem press_own (A : Option Addr) (n c : Nat) (b : List UInt8) (w : World) (hn : b.length = n) (hs : Sl w A b) (hb : b.length ≤ 65536) : Calls Tryd.prog 19 #[.slice A n c] w fun e w' => PrPost w b e w' := by
  refine (press_any A n c b w hn hs (by unfold Lim; omega)).mono ?_
  rintro e w' ⟨hB, h | ⟨_, hk, A', n', c', rfl, hn', ho⟩⟩
  · omega
  · subst hn'
    exact ⟨A', c', rfl, ho, hB, good_press b hb hk⟩
theorem press_big (A : Option Addr) (n c : Nat) (b : List UInt8) (w : World) (hn : b.length = n) (hs : Sl w A b) (hl : b.length ≤ Lim) (hb : 65536 < b.length) : Calls Tryd.prog 19 #[.slice A n c] w fun e w' => e = .returned (.tuple #[.slice none 0 0, .int .i64 81]) ∧ Below w.heap.size w w' := by
  refine (press_any A n c b w hn hs hl).mono ?_
  rintro e w' ⟨hB, ⟨_, rfl⟩ | ⟨h, _⟩⟩
  · exact ⟨rfl, hB⟩
  · omega
theorem own_cap {w : World} {base e size n c : Nat} {A : Option Addr} {xs : List Value} (h : w.ownsRow base e size (.slice A n c) n xs) : n ≤ c := by
  rcases h.2 with ⟨h1, h2⟩ | ⟨g', cap', cur', hv', _, _, hn', _⟩
  · injection h1 with _ a b
    omega
  · injection hv' with _ _ h3; rw [h3]; exact hn'
theorem U_set (l : List UInt8) (i : Nat) (x : UInt8) : (U l).set i (.int .u8 (x.toNat : Int)) = U (l.set i x) := by unfold U; rw [List.map_set]
theorem Sl.take {w : World} {A : Option Addr} {l : List UInt8} (h : Sl w A l) (k : Nat) : Sl w A (l.take k) := by
  rcases h with rfl | ⟨h, o, rfl, hl, hc⟩
  · exact .inl (by simp)
  · refine .inr ⟨h, o, rfl, hl, fun j hj => ?_⟩
    rw [List.length_take] at hj
    rw [hc j (by omega), List.getD_eq_getElem?_getD, List.getD_eq_getElem?_getD, List.getElem?_take, if_pos (by omega)]
end Go.Proofs.YtejgoienkpaabaaDoor

/- What the cards share. -/
namespace Go.Proofs.YtejgoienkpaabaaDoor.CardK
open Go.ChangeShapes Go.WideShapes Go.ChangeAt Go.RowKit Go.Joins
theorem own : ownKnob Tryd.prog.godebug = none := by kernel_rfl
theorem gTab : Tryd.prog.globalNamed "satchel/code.errnos" = some 0 := by kernel_rfl
theorem gTabType : (Tryd.prog.globals[0]?).map (·.type) = some 81 := by kernel_rfl
theorem under81 : Tryd.prog.underlying 81 = some (.array 5 26) := by kernel_rfl
theorem cells81 : Tryd.prog.cellsOf 81 = 5 := by kernel_rfl
theorem cells26 : Tryd.prog.cellsOf 26 = 1 := by kernel_rfl
theorem cells24 : Tryd.prog.cellsOf 24 = 2 := by kernel_rfl
theorem cells5 : Tryd.prog.cellsOf 5 = 1 := by kernel_rfl
theorem laidOut : laidOutB Tryd.prog = true := by kernel_rfl

/-- what the row's list gives -/
theorem table {W : World} (h : laidMetH Tryd.prog [("satchel/code.errnos", Rows.laid_satchel_code_errnos)] W) : Lib.TabIs Tryd.prog W "satchel/code.errnos" .i64 [0, 10, 11, 12, 14] :=
  Lib.tabIs_of_head (rest := []) gTab gTabType under81 Tryd.underlying26 cells26 cells81 h
theorem errTab {W : World} (h : laidMetH Tryd.prog [("satchel/code.errnos", Rows.laid_satchel_code_errnos)] W) : ErrTab W :=
  ⟨(table h).cell gTab 0 (by decide), (table h).cell gTab 1 (by decide), (table h).cell gTab 2 (by decide), (table h).cell gTab 3 (by decide), (table h).cell gTab 4 (by decide)⟩

theorem cell_lt {w : World} {a : Addr} {v : Value} (h : w.cell? a = some v) : a.block < w.heap.size := by
  rcases Nat.lt_or_ge a.block w.heap.size with hlt | hge
  · exact hlt
  · simp [World.cell?, Array.getElem?_eq_none hge] at h
theorem lits_length {H : Type} (k : IntKind) (zs : List Int) : (lits (H := H) k zs).length = zs.length := by simp [lits]
theorem length_le {H : Type} (l : List (DataW H)) : l.length ≤ Rows.uptoBulkAll l := by
  induction l with
  | nil => exact Nat.zero_le _
  | cons x r ih =>
    have h1 : 1 ≤ Rows.uptoBulk x := by
      cases x with
      | lit l => cases l <;> simp [Rows.uptoBulk]
      | nil => simp [Rows.uptoBulk]
      | ptr d => simp [Rows.uptoBulk]
      | slice elems spare => simp [Rows.uptoBulk]
      | agg parts => simp [Rows.uptoBulk]
      | iface t d => simp [Rows.uptoBulk]
      | map entries => simp [Rows.uptoBulk]
      | held h => simp [Rows.uptoBulk]
    simp only [Rows.uptoBulkAll, List.length_cons]
    omega
/-- a slice of bytes that came in -/
theorem open_bytes {H : Type} {enc : TypeId × Value → H} {W : World} {n : Nat} {v : Value} {y : DataW H × List MemPlace} (h : DataW.trod enc Tryd.prog W 0 (fun _ => true) true n 22 [v] = some y) :
    ∃ (A : Option Addr) (b : List UInt8) (c : Nat), v = .slice A b.length c ∧ b.length ≤ c ∧ c ≤ maxLen ∧ (∀ N, Rows.uptoBulk y.1 ≤ N → b.length ≤ N) ∧ Sl W A b := by
  rcases open_ints Tryd.underlying22 Tryd.underlying5 cells5 h with ⟨hcs, hx⟩ | ⟨a, len, cap, zs, hcs, _, hl, hm, hz, hx, hcell, hwz⟩
  · simp at hcs
    exact ⟨none, [], 0, hcs, Nat.zero_le _, Nat.zero_le _, fun _ _ => Nat.zero_le _, .inl rfl⟩
  · simp at hcs
    simp only [if_true] at hz
    have hlen : ((zs.take len).map fun n => UInt8.ofNat n.toNat).length = len := by simp; omega
    refine ⟨some a, (zs.take len).map fun n => UInt8.ofNat n.toNat, cap, by rw [hlen]; exact hcs, by rw [hlen]; exact hl, hm, fun N hb => ?_, ?_⟩
    · rw [hlen]
      rw [hx] at hb
      simp only [Rows.uptoBulk] at hb
      have h1 := length_le (lits (H := H) IntKind.u8 (zs.take len))
      rw [lits_length, List.length_take] at h1
      omega
    · by_cases h0 : len = 0
      · exact .inl (List.eq_nil_of_length_eq_zero (by rw [hlen]; exact h0))
      · obtain ⟨ab, ao, spot⟩ := a
        have hspot : spot = none := by simpa [Addr.add] using World.cell?_spot (hcell 0 (by omega))
        subst hspot
        refine .inr ⟨ab, ao, rfl, cell_lt (hcell 0 (by omega)), fun j hj => ?_⟩
        rw [hlen] at hj
        have hcj := hcell j (by omega)
        rw [addr_add] at hcj
        rw [hcj]
        have hb := range_u8 hwz j
        have e : zs.getD j 0 = zs[j]'(by omega) := by simp [List.getD, List.getElem?_eq_getElem (show j < zs.length by omega)]
        have e2 := e
        rw [List.getD_eq_getElem?_getD] at e
        rw [e] at hb
        rw [e2, List.getD_eq_getElem?_getD, List.getElem?_map, List.getElem?_take, if_pos hj, List.getElem?_eq_getElem (show j < zs.length by omega)]
        simp only [Option.map_some, Option.getD_some]
        congr 2
        simp only [UInt8.toNat_ofNat']
        omega
/-- what the walk gives, said as the row asks: the memory that was there is as it was -/
theorem post_of_below {H : Type} {enc : TypeId × Value → H} {P : Program} {f : Func} {s : ChangeSpec} {apart fresh handsOn again : Bool} {W W' : World} {args : Array Value} {v : Value} {ds gs : List (DataW H)} {before pa pv : List MemPlace}
    (hW : DataW.Whole enc P f.params.toList s.vars apart W args.toList ds gs before)
    (hres : ∀ (b : Nat) (sp : Nat → Bool) (hd : Bool), DataW.TrodAll enc P W' b sp hd f.resultTypes.toList (v.resultList f.resultTypes.size) (s.fn H (ds ++ gs)).results [])
    (hargs : ∀ sp : Nat → Bool, (∀ p ∈ before, sp p.block = true) → DataW.TrodAll enc P W' 0 sp true f.params.toList args.toList (s.fn H (ds ++ gs)).args pa)
    (hvars : ∀ sp : Nat → Bool, (∀ p ∈ before, sp p.block = true) → DataW.TrodVars enc P W' sp s.vars (s.fn H (ds ++ gs)).vars pv)
    (hps : before = pa ++ pv) (hb : Below W.heap.size W W')
    (hok : ∀ (j : Nat) (t : TypeId) (r : Value), f.resultTypes[j]? = some t → (v.resultList f.resultTypes.size)[j]? = some r → Value.okWide P W' .any 0 t r) :
    s.post enc P f apart fresh handsOn again W args v W' := by
  have hlt : ∀ p ∈ before, p.block < W.heap.size := fun p hp => hW.lt p hp
  have hold : ∀ p ∈ before, (fun b => decide (b < W.heap.size)) p.block = true := fun p hp => by simpa using hlt p hp
  refine ⟨ds, gs, before, [], pa, pv, hW, hres _ _ _, hargs _ hold, hvars _ hold, World.keptBut_mono (fun p hp => ⟨hp, ?_⟩) (hb.frame (· ∈ before)), fun _ => ?_⟩
  · rw [hps, List.mem_append] at hp
    exact Or.inr hp
  · obtain ⟨_, _, _, _, _, hz, hn⟩ := hW
    refine ⟨hok, _, _, ([] ++ pa) ++ pv, ⟨[] ++ pa, pv, trodAll_append (hargs _ (fun _ _ => rfl)) (hres _ _ _), hvars _ (fun _ _ => rfl), rfl, ?_, ?_⟩, ?_⟩
    · intro b off hp
      have hp' : MemPlace.cell b off ∈ before := by rw [hps]; simpa using hp
      rw [hb.frozen (p := ⟨b, off, none⟩) (hlt _ hp')]
      exact hz b off hp'
    · intro ha
      have := hn ha
      rw [hps] at this
      simpa using this
    · intro p hp _
      rw [hps]
      simpa using hp
/-- a world for the witness: the settled one, the table holding what its initialiser lays -/
noncomputable def laidWorld (os : Os) : World :=
  { World.holding Tryd.prog os ⟨#[], #[], []⟩ with heap := (World.holding Tryd.prog os ⟨#[], #[], []⟩).heap.modify 0 fun
      | .cells _ t frozen => .cells #[.int .i64 0, .int .i64 10, .int .i64 11, .int .i64 12, .int .i64 14] t frozen
      | o => o }
theorem laid_met (os : Os) : laidMet Tryd.prog [("satchel/code.errnos", Rows.laid_satchel_code_errnos)] ((laidWorld os).forCall (fun _ _ => 0) ⟨#[], #[.agg #[.slice none 0 0, .int .i64 0]], []⟩).memory :=
  laidMet_of_run' 8 (by kernel_rfl) (by kernel_rfl)
end Go.Proofs.YtejgoienkpaabaaDoor.CardK
