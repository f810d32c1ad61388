/- Laws towards WalkDeep: WdK. -/
import Derived.Test.YtnjhjbmngoeobaaGreatDoorMg38
import Derived.Test.YtnjhjbmngoeobaaGreatDoorCards
import Derived.Test.YtnjhjbmngoeobaaGreatDoorTie
import Derived.WalkKit
import Derived.ProofKit
import Derived.OpenShut
import Derived.Deep.DeepHandedRow
import Derived.Lib.LaidTab
import Derived.Lib.SmallJoins
import Derived.WideKeyArgs
import Derived.Stop.LaidErr
namespace Go.Proofs.YtnjhjbmngoeobaaGreatDoor.CardK
open Go.ChangeShapes Go.WideShapes Go.ChangeAt Go.RowKit Go.Joins
set_option maxRecDepth 100000
theorem own : ownKnob Tryz.prog.godebug = none := by kernel_rfl
theorem laidOut : laidOutB Tryz.prog = true := by kernel_rfl
theorem cellsI : Tryz.prog.cellsOf 3 = 1 := by kernel_rfl
theorem cellsC : Tryz.prog.cellsOf 24 = 3 := by kernel_rfl
theorem gErr : Tryz.prog.globalNamed "satchel/code.errnos" = some 2 := by kernel_rfl
theorem gErrT : (Tryz.prog.globals[2]?).map (·.type) = some 164 := by kernel_rfl
theorem gBeg : Tryz.prog.globalNamed "satchel/digest.begin" = some 0 := by kernel_rfl
theorem gBegT : (Tryz.prog.globals[0]?).map (·.type) = some 148 := by kernel_rfl
theorem gRnd : Tryz.prog.globalNamed "satchel/digest.rounds" = some 3 := by kernel_rfl
theorem gRndT : (Tryz.prog.globals[3]?).map (·.type) = some 165 := by kernel_rfl
theorem uErr : Tryz.prog.underlying 164 = some (.array 5 31) := by kernel_rfl
theorem uErrno : Tryz.prog.underlying 31 = some (.int .i64) := by kernel_rfl
theorem uBeg : Tryz.prog.underlying 148 = some (.array 8 147) := by kernel_rfl
theorem uRnd : Tryz.prog.underlying 165 = some (.array 64 147) := by kernel_rfl
theorem u32 : Tryz.prog.underlying 147 = some (.int .u32) := by kernel_rfl
theorem cErr : Tryz.prog.cellsOf 164 = 5 := by kernel_rfl
theorem cErrno : Tryz.prog.cellsOf 31 = 1 := by kernel_rfl
theorem cBeg : Tryz.prog.cellsOf 148 = 8 := by kernel_rfl
theorem cRnd : Tryz.prog.cellsOf 165 = 64 := by kernel_rfl
theorem c32 : Tryz.prog.cellsOf 147 = 1 := by kernel_rfl
theorem lt_of_cell {w : World} {a : Addr} {v : Value} (h : w.cell? a = some v) : a.block < w.heap.size := by
 rcases Nat.lt_or_ge a.block w.heap.size with hlt | hge
 · exact hlt
 · simp [World.cell?, Array.getElem?_eq_none hge] at h
theorem tErr {W : World} (h : laidMetH Tryz.prog [("satchel/code.errnos", Rows.laid_satchel_code_errnos), ("satchel/digest.begin", Rows.laid_satchel_digest_begin), ("satchel/digest.rounds", Rows.laid_satchel_digest_rounds)] W) : Lib.TabIs Tryz.prog W "satchel/code.errnos" .i64 [0, 10, 11, 12, 14] :=
 Lib.tabIs_of_head gErr gErrT uErr uErrno cErrno cErr h
theorem tBeg {W : World} (h : laidMetH Tryz.prog [("satchel/code.errnos", Rows.laid_satchel_code_errnos), ("satchel/digest.begin", Rows.laid_satchel_digest_begin), ("satchel/digest.rounds", Rows.laid_satchel_digest_rounds)] W) : Lib.TabIs Tryz.prog W "satchel/digest.begin" .u32 [1779033703, 3144134277, 1013904242, 2773480762, 1359893119, 2600822924, 528734635, 1541459225] :=
 Lib.tabIs_of_head gBeg gBegT uBeg u32 c32 cBeg (laidMet.tail h)
theorem tRnd {W : World} (h : laidMetH Tryz.prog [("satchel/code.errnos", Rows.laid_satchel_code_errnos), ("satchel/digest.begin", Rows.laid_satchel_digest_begin), ("satchel/digest.rounds", Rows.laid_satchel_digest_rounds)] W) : Lib.TabIs Tryz.prog W "satchel/digest.rounds" .u32 [1116352408, 1899447441, 3049323471, 3921009573, 961987163, 1508970993, 2453635748, 2870763221, 3624381080, 310598401, 607225278, 1426881987, 1925078388, 2162078206, 2614888103, 3248222580, 3835390401, 4022224774, 264347078, 604807628, 770255983, 1249150122, 1555081692, 1996064986, 2554220882, 2821834349, 2952996808, 3210313671, 3336571891, 3584528711, 113926993, 338241895, 666307205, 773529912, 1294757372, 1396182291, 1695183700, 1986661051, 2177026350, 2456956037, 2730485921, 2820302411, 3259730800, 3345764771, 3516065817, 3600352804, 4094571909, 275423344, 430227734, 506948616, 659060556, 883997877, 958139571, 1322822218, 1537002063, 1747873779, 1955562222, 2024104815, 2227730452, 2361852424, 2428436474, 2756734187, 3204031479, 3329325298] :=
 Lib.tabIs_of_head (rest := []) gRnd gRndT uRnd u32 c32 cRnd (laidMet.tail (laidMet.tail h))
theorem errTab {W : World} (h : laidMetH Tryz.prog [("satchel/code.errnos", Rows.laid_satchel_code_errnos), ("satchel/digest.begin", Rows.laid_satchel_digest_begin), ("satchel/digest.rounds", Rows.laid_satchel_digest_rounds)] W) : ErrTab W :=
 ⟨(tErr h).cell gErr 0 (by decide), (tErr h).cell gErr 1 (by decide), (tErr h).cell gErr 2 (by decide), (tErr h).cell gErr 3 (by decide), (tErr h).cell gErr 4 (by decide)⟩
theorem all64 : ∀ t, t < 64 → ([1116352408, 1899447441, 3049323471, 3921009573, 961987163, 1508970993, 2453635748, 2870763221, 3624381080, 310598401, 607225278, 1426881987, 1925078388, 2162078206, 2614888103, 3248222580, 3835390401, 4022224774, 264347078, 604807628, 770255983, 1249150122, 1555081692, 1996064986, 2554220882, 2821834349, 2952996808, 3210313671, 3336571891, 3584528711, 113926993, 338241895, 666307205, 773529912, 1294757372, 1396182291, 1695183700, 1986661051, 2177026350, 2456956037, 2730485921, 2820302411, 3259730800, 3345764771, 3516065817, 3600352804, 4094571909, 275423344, 430227734, 506948616, 659060556, 883997877, 958139571, 1322822218, 1537002063, 1747873779, 1955562222, 2024104815, 2227730452, 2361852424, 2428436474, 2756734187, 3204031479, 3329325298] : List Int).getD t 0 = ((Dg.roundW.getD t 0 : Nat) : Int) := by decide
theorem all8 : ∀ t, t < 8 → ([1779033703, 3144134277, 1013904242, 2773480762, 1359893119, 2600822924, 528734635, 1541459225] : List Int).getD t 0 = ((Dg.beginW.getD t 0 : Nat) : Int) := by decide
theorem digTab {W : World} (h : laidMetH Tryz.prog [("satchel/code.errnos", Rows.laid_satchel_code_errnos), ("satchel/digest.begin", Rows.laid_satchel_digest_begin), ("satchel/digest.rounds", Rows.laid_satchel_digest_rounds)] W) : DigTab W :=
 ⟨⟨lt_of_cell ((tRnd h).cell gRnd 0 (by decide)), fun t ht => by rw [(tRnd h).cell gRnd t ht, all64 t ht]⟩,
  ⟨lt_of_cell ((tBeg h).cell gBeg 0 (by decide)), fun t ht => by rw [(tBeg h).cell gBeg t ht, all8 t ht]⟩⟩
theorem open_times {H : Type} {enc : TypeId × Value → H} {W : World} {n : Nat} {v : Value} {y : DataW H × List MemPlace} (h : DataW.trod enc Tryz.prog W 0 (fun _ => true) true n 22 [v] = some y) :
 ∃ (A : Option Addr) (tn tc : Nat) (l : List Int), v = .slice A tn tc ∧ l.length = tn ∧ Ti W A l := by
 rcases open_ints Tryz.underlying22 Tryz.underlying3 cellsI h with ⟨hcs, hx⟩ | ⟨a, len, cap, zs, hcs, _, hl, hm, hz, hx, hcell, hwz⟩
 · simp at hcs
   exact ⟨none, 0, 0, [], hcs, rfl, .inl rfl⟩
 · simp at hcs
   simp only [if_true] at hz
   have hlen : (zs.take len).length = len := by simp; omega
   refine ⟨some a, len, cap, zs.take len, hcs, hlen, ?_⟩
   by_cases h0 : len = 0
   · exact .inl (List.eq_nil_of_length_eq_zero (by rw [hlen]; exact h0))
   · obtain ⟨ab, ao, spot⟩ := a
     have hspot : spot = none := by simpa [Addr.add] using World.cell?_spot (hcell 0 (by omega))
     subst hspot
     refine .inr ⟨ab, ao, rfl, lt_of_cell (hcell 0 (by omega)), fun j hj => ?_⟩
     rw [hlen] at hj
     have hcj := hcell j (by omega)
     rw [addr_add] at hcj
     rw [hcj]
     simp only [List.getD_eq_getElem?_getD, List.getElem?_take, if_pos hj]
theorem post_of_below {H : Type} {enc : TypeId × Value → H} {P : Program} {f : Func} {s : ChangeSpec} {apart fresh handsOn again : Bool} {W W' : World} {args : Array Value} {v : Value} {ds gs : List (DataW H)} {before pa pv : List MemPlace}
 (hW : DataW.Whole enc P f.params.toList s.vars apart W args.toList ds gs before)
 (hres : ∀ (b : Nat) (sp : Nat → Bool) (hd : Bool), DataW.TrodAll enc P W' b sp hd f.resultTypes.toList (v.resultList f.resultTypes.size) (s.fn H (ds ++ gs)).results [])
 (hargs : ∀ sp : Nat → Bool, (∀ p ∈ before, sp p.block = true) → DataW.TrodAll enc P W' 0 sp true f.params.toList args.toList (s.fn H (ds ++ gs)).args pa)
 (hvars : ∀ sp : Nat → Bool, (∀ p ∈ before, sp p.block = true) → DataW.TrodVars enc P W' sp s.vars (s.fn H (ds ++ gs)).vars pv)
 (hps : before = pa ++ pv) (hb : Below W.heap.size W W')
 (hok : ∀ (j : Nat) (t : TypeId) (r : Value), f.resultTypes[j]? = some t → (v.resultList f.resultTypes.size)[j]? = some r → Value.okWide P W' .any 0 t r) :
 s.post enc P f apart fresh handsOn again W args v W' := by
 have hlt : ∀ p ∈ before, p.block < W.heap.size := fun p hp => hW.lt p hp
 have hold : ∀ p ∈ before, (fun b => decide (b < W.heap.size)) p.block = true := fun p hp => by simpa using hlt p hp
 refine ⟨ds, gs, before, [], pa, pv, hW, hres _ _ _, hargs _ hold, hvars _ hold, World.keptBut_mono (fun p hp => ⟨hp, ?_⟩) (hb.frame (· ∈ before)), fun _ => ?_⟩
 · rw [hps, List.mem_append] at hp
   exact Or.inr hp
 · obtain ⟨_, _, _, _, _, hz, hn⟩ := hW
   refine ⟨hok, _, _, ([] ++ pa) ++ pv, ⟨[] ++ pa, pv, trodAll_append (hargs _ (fun _ _ => rfl)) (hres _ _ _), hvars _ (fun _ _ => rfl), rfl, ?_, ?_⟩, ?_⟩
   · intro b off hp
     have hp' : MemPlace.cell b off ∈ before := by rw [hps]; simpa using hp
     rw [hb.frozen (p := ⟨b, off, none⟩) (hlt _ hp')]
     exact hz b off hp'
   · intro ha
     have := hn ha
     rw [hps] at this
     simpa using this
   · intro p hp _
     rw [hps]
     simpa using hp
noncomputable def laidWorld (os : Os) : World :=
 { World.holding Tryz.prog os ⟨#[], #[], []⟩ with heap := ((((World.holding Tryz.prog os ⟨#[], #[], []⟩).heap.modify 2 fun
  | .cells _ t frozen => .cells #[.int .i64 0, .int .i64 10, .int .i64 11, .int .i64 12, .int .i64 14] t frozen
  | o => o).modify 0 fun
  | .cells _ t frozen => .cells #[.int .u32 1779033703, .int .u32 3144134277, .int .u32 1013904242, .int .u32 2773480762, .int .u32 1359893119, .int .u32 2600822924, .int .u32 528734635, .int .u32 1541459225] t frozen
  | o => o).modify 3 fun
  | .cells _ t frozen => .cells #[.int .u32 1116352408, .int .u32 1899447441, .int .u32 3049323471, .int .u32 3921009573, .int .u32 961987163, .int .u32 1508970993, .int .u32 2453635748, .int .u32 2870763221, .int .u32 3624381080, .int .u32 310598401, .int .u32 607225278, .int .u32 1426881987, .int .u32 1925078388, .int .u32 2162078206, .int .u32 2614888103, .int .u32 3248222580, .int .u32 3835390401, .int .u32 4022224774, .int .u32 264347078, .int .u32 604807628, .int .u32 770255983, .int .u32 1249150122, .int .u32 1555081692, .int .u32 1996064986, .int .u32 2554220882, .int .u32 2821834349, .int .u32 2952996808, .int .u32 3210313671, .int .u32 3336571891, .int .u32 3584528711, .int .u32 113926993, .int .u32 338241895, .int .u32 666307205, .int .u32 773529912, .int .u32 1294757372, .int .u32 1396182291, .int .u32 1695183700, .int .u32 1986661051, .int .u32 2177026350, .int .u32 2456956037, .int .u32 2730485921, .int .u32 2820302411, .int .u32 3259730800, .int .u32 3345764771, .int .u32 3516065817, .int .u32 3600352804, .int .u32 4094571909, .int .u32 275423344, .int .u32 430227734, .int .u32 506948616, .int .u32 659060556, .int .u32 883997877, .int .u32 958139571, .int .u32 1322822218, .int .u32 1537002063, .int .u32 1747873779, .int .u32 1955562222, .int .u32 2024104815, .int .u32 2227730452, .int .u32 2361852424, .int .u32 2428436474, .int .u32 2756734187, .int .u32 3204031479, .int .u32 3329325298] t frozen
  | o => o) }
theorem laid_met (os : Os) : laidMet Tryz.prog [("satchel/code.errnos", Rows.laid_satchel_code_errnos), ("satchel/digest.begin", Rows.laid_satchel_digest_begin), ("satchel/digest.rounds", Rows.laid_satchel_digest_rounds)] ((laidWorld os).forCall (fun _ _ => 0) ⟨#[], #[.agg #[.int .i64 0, .int .i64 0, .slice none 0 0]], []⟩).memory :=
 laidMet_of_run' 8 (by kernel_rfl) (by kernel_rfl)
end Go.Proofs.YtnjhjbmngoeobaaGreatDoor.CardK
