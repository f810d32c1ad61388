/- Right (merged: one text behind the other). -/
import Derived.Test.YtejgoienkpaabaaDoorMg15
import Derived.Deep.OwnRows
/- Contract: right. -/
namespace Go.Proofs.YtejgoienkpaabaaDoor
open Go.RowKit
set_option maxRecDepth 100000
def Z (n : Nat) : Array Value := madeCells #[.int .i64 0] n
@[go_sem high] theorem make277 (w : World) : (Instr.makeSlice 36 (.int .i64 277) (.int .i64 277)).run Tryd.prog w = .ok (.slice (some ⟨w.heap.size, 0, none⟩) 277 277) (w.alloc (.cells (Z 277) 3)) :=
  run_make_row' (P := Tryd.prog) 36 3 (.int .i64 0) 8 rfl info3 rfl .i64 .i64 277 (by decide) (by decide) w
@[go_sem high] theorem make18 (w : World) : (Instr.makeSlice 36 (.int .i64 18) (.int .i64 18)).run Tryd.prog w = .ok (.slice (some ⟨w.heap.size, 0, none⟩) 18 18) (w.alloc (.cells (Z 18) 3)) :=
  run_make_row' (P := Tryd.prog) 36 3 (.int .i64 0) 8 rfl info3 rfl .i64 .i64 18 (by decide) (by decide) w
theorem Z_get (n j : Nat) (h : j < n) : (Z n)[j]? = some (.int .i64 0) := by
  simp [Z, madeCells, h]
  have : j % 1 = 0 := Nat.mod_one j
  simp [this]
theorem sym_get (j : Nat) (h : j < 277) : (((Z 277).setIfInBounds 97 (.int .i64 1)).setIfInBounds 258 (.int .i64 1))[j]? = some (.int .i64 (exSym.getD j 0 : Int)) := by
  have hz : (Z 277).size = 277 := by simp [Z, madeCells]
  rw [exSym, List.getD_eq_getElem?_getD, List.getElem?_set, List.getElem?_set, Array.getElem?_setIfInBounds, Array.getElem?_setIfInBounds]
  by_cases h1 : 258 = j
  · subst h1; simp [hz]
  · by_cases h2 : 97 = j
    · subst h2; simp [hz]
    · rw [if_neg h1, if_neg h2, if_neg h1, if_neg h2, Z_get _ _ h, List.getElem?_replicate, if_pos h]
      rfl
theorem dist_get (j : Nat) (h : j < 18) : ((Z 18).setIfInBounds 0 (.int .i64 1))[j]? = some (.int .i64 (exDist.getD j 0 : Int)) := by
  have hz : (Z 18).size = 18 := by simp [Z, madeCells]
  rw [exDist, List.getD_eq_getElem?_getD, List.getElem?_set, Array.getElem?_setIfInBounds]
  by_cases h1 : 0 = j
  · subst h1; simp [hz]
  · rw [if_neg h1, if_neg h1, Z_get _ _ h, List.getElem?_replicate, if_pos h]
    rfl
theorem row_of_blk {w : World} {g : Nat} {t : TypeId} {cs : Array Value} {row : List Nat} (h : Blk w g t cs) (hc : ∀ j, j < row.length → cs[j]? = some (.int .i64 (row.getD j 0 : Int))) : Row w w.heap.size g 0 row :=
  ⟨h.lt, fun j hj => by rw [Nat.zero_add, h.cell]; exact hc j hj⟩
set_option maxHeartbeats 2000000 in
theorem right_any (w : World) (he : ErrTab w) : Calls Tryd.prog 12 #[] w fun e w' => e = .returned (.bool true) ∧ Below w.heap.size w w' := by
  have HE := Lib.hid he
  clear he
  go_enter Tryd.func12, Tryd.ntmps12
  go_wp2_with fail
  go_region
  · have b1 : Blk (((w.alloc (.cells (Z 277) 3)).alloc (.cells (Z 18) 3))) (w.heap.size) 3 (Z 277) := (Blk.new w 3 (Z 277)).alloc (.cells (Z 18) 3)
    have b2 : Blk (((w.alloc (.cells (Z 277) 3)).alloc (.cells (Z 18) 3))) (w.heap.size + 1) 3 (Z 18) := (by have := Blk.new (w.alloc (.cells (Z 277) 3)) 3 (Z 18); simpa using this)
    have b1' : Hid (Blk (((w.alloc (.cells (Z 277) 3)).alloc (.cells (Z 18) 3)).drew) (w.heap.size) 3 (Z 277)) := b1.drew
    have b2' : Hid (Blk (((w.alloc (.cells (Z 277) 3)).alloc (.cells (Z 18) 3)).drew) (w.heap.size + 1) 3 (Z 18)) := b2.drew
    have hB : Hid (Below w.heap.size w (((w.alloc (.cells (Z 277) 3)).alloc (.cells (Z 18) 3)).drew)) := (((Below.refl _ _).alloc (Nat.le_refl _) _).alloc (by simp) _).drew
    have hWs : (((w.alloc (.cells (Z 277) 3)).alloc (.cells (Z 18) 3)).drew).heap.size = w.heap.size + 2 := by show (((w.alloc (.cells (Z 277) 3)).alloc (.cells (Z 18) 3))).heap.size = _; simp
    clear b1 b2
    generalize ((w.alloc (.cells (Z 277) 3)).alloc (.cells (Z 18) 3)).drew = W at *
    have c97 : W.cell? ⟨w.heap.size, 97, none⟩ = some (.int .i64 0) := by rw [b1'.out.cell]; exact Z_get _ _ (by omega)
    have c258 : W.cell? ⟨w.heap.size, 258, none⟩ = some (.int .i64 0) := by rw [b1'.out.cell]; exact Z_get _ _ (by omega)
    have c0 : W.cell? ⟨w.heap.size + 1, 0, none⟩ = some (.int .i64 0) := by rw [b2'.out.cell]; exact Z_get _ _ (by omega)
    have f97 := b1'.out.frozen 97
    have f258 := b1'.out.frozen 258
    have f0 := b2'.out.frozen 0
    have HWS := Lib.hid hWs
    clear hWs
    go_wp2_with fail
    have d1 := (((b1'.out.set_ 97 (.int .i64 1)).set_ 258 (.int .i64 1)).far (p := ⟨w.heap.size + 1, 0, none⟩) (by simp) (.int .i64 1)).alloc (.cells #[.int .i64 97, .int .i64 0, .int .i64 0, .int .i64 0, .int .i64 258, .int .i64 0, .int .i64 0, .int .i64 0] 67)
    have d2 := (((b2'.out.far (p := ⟨w.heap.size, 97, none⟩) (by simp) (.int .i64 1)).far (p := ⟨w.heap.size, 258, none⟩) (by simp) (.int .i64 1)).set_ 0 (.int .i64 1)).alloc (.cells #[.int .i64 97, .int .i64 0, .int .i64 0, .int .i64 0, .int .i64 258, .int .i64 0, .int .i64 0, .int .i64 0] 67)
    have hz4 : (((W.setCell ⟨w.heap.size, 97, none⟩ (.int .i64 1)).setCell ⟨w.heap.size, 258, none⟩ (.int .i64 1)).setCell ⟨w.heap.size + 1, 0, none⟩ (.int .i64 1)).heap.size = W.heap.size := by simp [World.setCell]
    have d3 := Blk.new (((W.setCell ⟨w.heap.size, 97, none⟩ (.int .i64 1)).setCell ⟨w.heap.size, 258, none⟩ (.int .i64 1)).setCell ⟨w.heap.size + 1, 0, none⟩ (.int .i64 1)) 67 #[.int .i64 97, .int .i64 0, .int .i64 0, .int .i64 0, .int .i64 258, .int .i64 0, .int .i64 0, .int .i64 0]
    rw [hz4] at d3
    have d4 := (((hB.out.setCell (p := ⟨w.heap.size, 97, none⟩) (by simp) (.int .i64 1)).setCell (p := ⟨w.heap.size, 258, none⟩) (by simp) (.int .i64 1)).setCell (p := ⟨w.heap.size + 1, 0, none⟩) (by simp) (.int .i64 1)).alloc (by rw [hz4]; have := HWS.out; omega) (.cells #[.int .i64 97, .int .i64 0, .int .i64 0, .int .i64 0, .int .i64 258, .int .i64 0, .int .i64 0, .int .i64 0] 67)
    have D1 := Lib.hid d1
    have D2 := Lib.hid d2
    have D3 := Lib.hid d3
    have D4 := Lib.hid d4
    clear d1 d2 d3 d4 hz4 c97 c258 c0 f97 f258 f0 b1' b2' hB
    generalize ((((W.setCell ⟨w.heap.size, 97, none⟩ (.int .i64 1)).setCell ⟨w.heap.size, 258, none⟩ (.int .i64 1)).setCell ⟨w.heap.size + 1, 0, none⟩ (.int .i64 1)).alloc (.cells #[.int .i64 97, .int .i64 0, .int .i64 0, .int .i64 0, .int .i64 258, .int .i64 0, .int .i64 0, .int .i64 0] 67)) = W5 at *
    have hs5 := D4.out.size
    refine (lay_ex (w.heap.size) 277 (w.heap.size + 1) 18 W.heap.size W5 (row_of_blk D1.out (fun j hj => sym_get j (by simpa [exSym] using hj))) (row_of_blk D2.out (fun j hj => dist_get j (by simpa [exDist] using hj)))
      (row_of_blk D3.out (fun j hj => by
        have hj' : j < 8 := by simpa using hj
        rcases j with _ | _ | _ | _ | _ | _ | _ | _ | j
        all_goals first | rfl | omega))).mono ?_
    rintro e w1 ⟨A, c, rfl, ho, hb⟩
    have hB1 : Hid (Below w.heap.size w w1) := D4.out.trans (hb.mono hs5)
    have hs1 := hB1.out.size
    have HO := Lib.hid ho
    clear ho hb
    obtain ⟨g, cap, hv1, hgb1, hglt⟩ := HO.out.form (by omega)
    injection hv1 with hv1 hv2 hv3
    subst hv1 hv3
    have hcap : 151 ≤ c := by
      rcases HO.out.2 with ⟨h, _⟩ | ⟨g', cap', cur', hv', _, _, hn', _⟩
      · cases h
      · injection hv' with _ _ h3; rw [h3]; exact hn'
    go_wp2_with fail
    refine (unp_any (some ⟨g, 0, none⟩) 151 c exB 6 w1 ex_ln (Sl.of_own HO.out) hcap (by rw [ex_ln]; unfold Lim; omega) (HE.out.below hB1.out) (by omega)).mono ?_
    rintro e w2 ⟨hb2, A2, c2, he2, ho2, _⟩
    rw [ex_unp] at he2 ho2
    have he3 : e = .returned (.tuple #[.slice A2 6 c2, .int .i64 0]) := he2
    have HO2 : Hid (w2.ownsRow w1.heap.size 5 1 (.slice A2 6 c2) 6 (U [97, 97, 97, 97, 97, 97])) := ho2 rfl
    subst he3
    have HOb := Lib.hid (own_below HO.out hb2)
    have HB2 := Lib.hid (hB1.out.trans (hb2.mono hs1))
    have hcl : w2.cell? ⟨g, 150, none⟩ = some (.int .u8 64) := by
      rw [HOb.out.cellAt 150 (by omega), U_get]
      have : exB[150]? = some 64 := by decide +kernel
      rw [this]; rfl
    clear he2 ho2 hb2
    go_wp2_with fail
    refine (num_any .i64 0 w2).mono ?_
    rintro e w3 ⟨rfl, rfl⟩
    have hcv := run_str w3 A2 6 c2 [97, 97, 97, 97, 97, 97] rfl (Sl.of_own HO2.out)
    go_wp2_with fail
    go_ret
    exact ⟨rfl, HB2.out⟩
  · have b1 : Blk (((w.alloc (.cells (Z 18) 3)).alloc (.cells (Z 277) 3))) (w.heap.size + 1) 3 (Z 277) := (by have := Blk.new (w.alloc (.cells (Z 18) 3)) 3 (Z 277); simpa using this)
    have b2 : Blk (((w.alloc (.cells (Z 18) 3)).alloc (.cells (Z 277) 3))) (w.heap.size) 3 (Z 18) := (Blk.new w 3 (Z 18)).alloc (.cells (Z 277) 3)
    have b1' : Hid (Blk (((w.alloc (.cells (Z 18) 3)).alloc (.cells (Z 277) 3)).drew) (w.heap.size + 1) 3 (Z 277)) := b1.drew
    have b2' : Hid (Blk (((w.alloc (.cells (Z 18) 3)).alloc (.cells (Z 277) 3)).drew) (w.heap.size) 3 (Z 18)) := b2.drew
    have hB : Hid (Below w.heap.size w (((w.alloc (.cells (Z 18) 3)).alloc (.cells (Z 277) 3)).drew)) := (((Below.refl _ _).alloc (Nat.le_refl _) _).alloc (by simp) _).drew
    have hWs : (((w.alloc (.cells (Z 18) 3)).alloc (.cells (Z 277) 3)).drew).heap.size = w.heap.size + 2 := by show (((w.alloc (.cells (Z 18) 3)).alloc (.cells (Z 277) 3))).heap.size = _; simp
    clear b1 b2
    generalize ((w.alloc (.cells (Z 18) 3)).alloc (.cells (Z 277) 3)).drew = W at *
    have c97 : W.cell? ⟨w.heap.size + 1, 97, none⟩ = some (.int .i64 0) := by rw [b1'.out.cell]; exact Z_get _ _ (by omega)
    have c258 : W.cell? ⟨w.heap.size + 1, 258, none⟩ = some (.int .i64 0) := by rw [b1'.out.cell]; exact Z_get _ _ (by omega)
    have c0 : W.cell? ⟨w.heap.size, 0, none⟩ = some (.int .i64 0) := by rw [b2'.out.cell]; exact Z_get _ _ (by omega)
    have f97 := b1'.out.frozen 97
    have f258 := b1'.out.frozen 258
    have f0 := b2'.out.frozen 0
    have HWS := Lib.hid hWs
    clear hWs
    go_wp2_with fail
    have d1 := (((b1'.out.set_ 97 (.int .i64 1)).set_ 258 (.int .i64 1)).far (p := ⟨w.heap.size, 0, none⟩) (by simp) (.int .i64 1)).alloc (.cells #[.int .i64 97, .int .i64 0, .int .i64 0, .int .i64 0, .int .i64 258, .int .i64 0, .int .i64 0, .int .i64 0] 67)
    have d2 := (((b2'.out.far (p := ⟨w.heap.size + 1, 97, none⟩) (by simp) (.int .i64 1)).far (p := ⟨w.heap.size + 1, 258, none⟩) (by simp) (.int .i64 1)).set_ 0 (.int .i64 1)).alloc (.cells #[.int .i64 97, .int .i64 0, .int .i64 0, .int .i64 0, .int .i64 258, .int .i64 0, .int .i64 0, .int .i64 0] 67)
    have hz4 : (((W.setCell ⟨w.heap.size + 1, 97, none⟩ (.int .i64 1)).setCell ⟨w.heap.size + 1, 258, none⟩ (.int .i64 1)).setCell ⟨w.heap.size, 0, none⟩ (.int .i64 1)).heap.size = W.heap.size := by simp [World.setCell]
    have d3 := Blk.new (((W.setCell ⟨w.heap.size + 1, 97, none⟩ (.int .i64 1)).setCell ⟨w.heap.size + 1, 258, none⟩ (.int .i64 1)).setCell ⟨w.heap.size, 0, none⟩ (.int .i64 1)) 67 #[.int .i64 97, .int .i64 0, .int .i64 0, .int .i64 0, .int .i64 258, .int .i64 0, .int .i64 0, .int .i64 0]
    rw [hz4] at d3
    have d4 := (((hB.out.setCell (p := ⟨w.heap.size + 1, 97, none⟩) (by simp) (.int .i64 1)).setCell (p := ⟨w.heap.size + 1, 258, none⟩) (by simp) (.int .i64 1)).setCell (p := ⟨w.heap.size, 0, none⟩) (by simp) (.int .i64 1)).alloc (by rw [hz4]; have := HWS.out; omega) (.cells #[.int .i64 97, .int .i64 0, .int .i64 0, .int .i64 0, .int .i64 258, .int .i64 0, .int .i64 0, .int .i64 0] 67)
    have D1 := Lib.hid d1
    have D2 := Lib.hid d2
    have D3 := Lib.hid d3
    have D4 := Lib.hid d4
    clear d1 d2 d3 d4 hz4 c97 c258 c0 f97 f258 f0 b1' b2' hB
    generalize ((((W.setCell ⟨w.heap.size + 1, 97, none⟩ (.int .i64 1)).setCell ⟨w.heap.size + 1, 258, none⟩ (.int .i64 1)).setCell ⟨w.heap.size, 0, none⟩ (.int .i64 1)).alloc (.cells #[.int .i64 97, .int .i64 0, .int .i64 0, .int .i64 0, .int .i64 258, .int .i64 0, .int .i64 0, .int .i64 0] 67)) = W5 at *
    have hs5 := D4.out.size
    refine (lay_ex (w.heap.size + 1) 277 (w.heap.size) 18 W.heap.size W5 (row_of_blk D1.out (fun j hj => sym_get j (by simpa [exSym] using hj))) (row_of_blk D2.out (fun j hj => dist_get j (by simpa [exDist] using hj)))
      (row_of_blk D3.out (fun j hj => by
        have hj' : j < 8 := by simpa using hj
        rcases j with _ | _ | _ | _ | _ | _ | _ | _ | j
        all_goals first | rfl | omega))).mono ?_
    rintro e w1 ⟨A, c, rfl, ho, hb⟩
    have hB1 : Hid (Below w.heap.size w w1) := D4.out.trans (hb.mono hs5)
    have hs1 := hB1.out.size
    have HO := Lib.hid ho
    clear ho hb
    obtain ⟨g, cap, hv1, hgb1, hglt⟩ := HO.out.form (by omega)
    injection hv1 with hv1 hv2 hv3
    subst hv1 hv3
    have hcap : 151 ≤ c := by
      rcases HO.out.2 with ⟨h, _⟩ | ⟨g', cap', cur', hv', _, _, hn', _⟩
      · cases h
      · injection hv' with _ _ h3; rw [h3]; exact hn'
    go_wp2_with fail
    refine (unp_any (some ⟨g, 0, none⟩) 151 c exB 6 w1 ex_ln (Sl.of_own HO.out) hcap (by rw [ex_ln]; unfold Lim; omega) (HE.out.below hB1.out) (by omega)).mono ?_
    rintro e w2 ⟨hb2, A2, c2, he2, ho2, _⟩
    rw [ex_unp] at he2 ho2
    have he3 : e = .returned (.tuple #[.slice A2 6 c2, .int .i64 0]) := he2
    have HO2 : Hid (w2.ownsRow w1.heap.size 5 1 (.slice A2 6 c2) 6 (U [97, 97, 97, 97, 97, 97])) := ho2 rfl
    subst he3
    have HOb := Lib.hid (own_below HO.out hb2)
    have HB2 := Lib.hid (hB1.out.trans (hb2.mono hs1))
    have hcl : w2.cell? ⟨g, 150, none⟩ = some (.int .u8 64) := by
      rw [HOb.out.cellAt 150 (by omega), U_get]
      have : exB[150]? = some 64 := by decide +kernel
      rw [this]; rfl
    clear he2 ho2 hb2
    go_wp2_with fail
    refine (num_any .i64 0 w2).mono ?_
    rintro e w3 ⟨rfl, rfl⟩
    have hcv := run_str w3 A2 6 c2 [97, 97, 97, 97, 97, 97] rfl (Sl.of_own HO2.out)
    go_wp2_with fail
    go_ret
    exact ⟨rfl, HB2.out⟩
end Go.Proofs.YtejgoienkpaabaaDoor
