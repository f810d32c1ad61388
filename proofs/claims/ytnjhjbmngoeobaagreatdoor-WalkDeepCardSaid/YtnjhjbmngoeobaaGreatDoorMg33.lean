/- Laws towards WalkDeep: SrtD. -/
import Derived.Test.YtnjhjbmngoeobaaGreatDoorMg21
import Derived.Shelf.SlSortCmp.NoneTotal
import Derived.Ground.SlsfProg
import Derived.Sort.OwnSorted
namespace Go.Proofs.YtnjhjbmngoeobaaGreatDoor
open Go.RowKit Go.Maps Go.Shelf Go.Sort
set_option maxRecDepth 100000
def idSort_ren : Go.Shelf.Ren := ⟨fun | 6 => 51 | 15 => 71 | 14 => 70 | 28 => 90 | 29 => 91 | 20 => 82 | 21 => 83 | 22 => 84 | 23 => 85 | 24 => 86 | 25 => 87 | 26 => 88 | 27 => 89 | 46 => 93 | 47 => 94 | 48 => 95 | 49 => 96 | 50 => 97 | 57 => 98 | n => n, fun | 22 => 28 | 24 => 30 | 25 => 127 | 3 => 3 | 39 => 34 | 0 => 0 | 53 => 147 | 55 => 41 | 4 => 4 | 46 => 157 | 45 => 156 | 50 => 92 | 5 => 5 | 9 => 9 | 66 => 168 | 70 => 171 | 76 => 173 | 77 => 174 | n => n, fun | n => n⟩
theorem idSort : Go.Proofs.SlLaysF0.n6 Tryz.prog idSort_ren := {
 mixed := by kernel_rfl
 f6 := ⟨Tryz.f51.name, by decide, Tryz.func51.trans (congrArg some (by kernel_rfl))⟩
 f14 := ⟨Tryz.f70.name, by decide, Tryz.func70.trans (congrArg some (by kernel_rfl))⟩
 f15 := Tryz.func71.trans (congrArg some (by kernel_rfl))
 f20 := ⟨Tryz.f82.name, by decide, Tryz.func82.trans (congrArg some (by kernel_rfl))⟩
 f21 := ⟨Tryz.f83.name, by decide, Tryz.func83.trans (congrArg some (by kernel_rfl))⟩
 f22 := ⟨Tryz.f84.name, by decide, Tryz.func84.trans (congrArg some (by kernel_rfl))⟩
 f23 := ⟨Tryz.f85.name, by decide, Tryz.func85.trans (congrArg some (by kernel_rfl))⟩
 f24 := ⟨Tryz.f86.name, by decide, Tryz.func86.trans (congrArg some (by kernel_rfl))⟩
 f25 := ⟨Tryz.f87.name, by decide, Tryz.func87.trans (congrArg some (by kernel_rfl))⟩
 f26 := ⟨Tryz.f88.name, by decide, Tryz.func88.trans (congrArg some (by kernel_rfl))⟩
 f27 := ⟨Tryz.f89.name, by decide, Tryz.func89.trans (congrArg some (by kernel_rfl))⟩
 f28 := Tryz.func90.trans (congrArg some (by kernel_rfl))
 f29 := Tryz.func91.trans (congrArg some (by kernel_rfl))
 f46 := ⟨Tryz.f93.name, by decide, Tryz.func93.trans (congrArg some (by kernel_rfl))⟩
 f47 := Tryz.func94.trans (congrArg some (by kernel_rfl))
 f48 := Tryz.func95.trans (congrArg some (by kernel_rfl))
 f49 := ⟨Tryz.f96.name, by decide, Tryz.func96.trans (congrArg some (by kernel_rfl))⟩
 f50 := ⟨Tryz.f97.name, by decide, Tryz.func97.trans (congrArg some (by kernel_rfl))⟩
 f57 := ⟨Tryz.f98.name, by decide, Tryz.func98.trans (congrArg some (by kernel_rfl))⟩
 t0 := Tryz.underlying0
 a0 := Tryz.isAgg0
 z0 := Tryz.sizeOf0
 v0 := Tryz.zeroValue0
 t3 := Tryz.underlying3
 a3 := Tryz.isAgg3
 z3 := Tryz.sizeOf3
 v3 := Tryz.zeroValue3
 t4 := Tryz.underlying4
 a4 := Tryz.isAgg4
 z4 := Tryz.sizeOf4
 v4 := Tryz.zeroValue4
 t5 := Tryz.underlying5
 a5 := Tryz.isAgg5
 z5 := Tryz.sizeOf5
 v5 := Tryz.zeroValue5
 t9 := Tryz.underlying9
 a9 := Tryz.isAgg9
 z9 := Tryz.sizeOf9
 v9 := Tryz.zeroValue9
 t22 := Tryz.underlying28
 a22 := Tryz.isAgg28
 z22 := Tryz.sizeOf28
 v22 := Tryz.zeroValue28
 t25 := Tryz.underlying127
 a25 := Tryz.isAgg127
 z25 := Tryz.sizeOf127
 v25 := Tryz.zeroValue127
 t39 := Tryz.underlying34
 a39 := Tryz.isAgg34
 z39 := Tryz.sizeOf34
 v39 := Tryz.zeroValue34
 t45 := Tryz.underlying156
 a45 := Tryz.isAgg156
 z45 := Tryz.sizeOf156
 v45 := Tryz.zeroValue156
 t46 := Tryz.underlying157
 a46 := Tryz.isAgg157
 z46 := Tryz.sizeOf157
 v46 := Tryz.zeroValue157
 t50 := Tryz.underlying92
 a50 := Tryz.isAgg92
 z50 := Tryz.sizeOf92
 v50 := Tryz.zeroValue92
 t53 := Tryz.underlying147
 a53 := Tryz.isAgg147
 z53 := Tryz.sizeOf147
 v53 := Tryz.zeroValue147
 t55 := Tryz.underlying41
 a55 := Tryz.isAgg41
 z55 := Tryz.sizeOf41
 v55 := Tryz.zeroValue41
 t66 := Tryz.underlying168
 a66 := Tryz.isAgg168
 z66 := Tryz.sizeOf168
 v66 := Tryz.zeroValue168
 t70 := Tryz.underlying171
 a70 := Tryz.isAgg171
 z70 := Tryz.sizeOf171
 v70 := Tryz.zeroValue171
 t76 := Tryz.underlying173
 a76 := Tryz.isAgg173
 z76 := Tryz.sizeOf173
 v76 := Tryz.zeroValue173
 t77 := Tryz.underlying174
 a77 := Tryz.isAgg174
 z77 := Tryz.sizeOf174
 v77 := Tryz.zeroValue174 }
theorem ltOf_id (x y : Id) : ltOf cmpI x y = Id.lt x y := cmpI_lt x y
theorem swo_id : SWO (ltOf cmpI) := {
 irrefl := fun x => by rw [ltOf_id]; exact Id.lt_irrefl x,
 trans := fun x y z h1 h2 => by rw [ltOf_id] at *; exact Id.lt_trans h1 h2,
 ntrans := fun x y z h1 h2 => by rw [ltOf_id] at *; exact Id.lt_ntrans h1 h2 }
theorem tot_id (x y : Id) (h1 : ltOf cmpI x y = false) (h2 : ltOf cmpI y x = false) : x = y := by
 rw [ltOf_id] at *
 rcases Id.lt_total x y with h | h | h
 · rw [h1] at h; cases h
 · exact h
 · rw [h2] at h; cases h
instance : Inhabited Id := ⟨zeroId⟩
theorem cmpLaysId (blk off size : Nat) (w : World) : CmpLays Tryz.prog 52 #[] (fun x : Id => U x.1) 32 cmpI blk off size w := fun m os dk hs x y => by
 refine (sortC x y _).mono ?_
 rintro e w' ⟨rfl, q, rfl⟩
 exact ⟨rfl, q, _, by rw [alloc_eq_grow, alloc_eq_grow, grow_grow]; rfl⟩
theorem aggId : ∀ w, (isAgg 30).run Tryz.prog w = .ok true w := by
 intro w
 kernel_rfl
theorem sizeId : ∀ w, (Go.sizeOf 30).run Tryz.prog w = .ok 32 w := by
 intro w
 kernel_rfl
theorem flat_ids (l : List Id) (t : Nat) (v : Value) (h : (IdsU l)[t]? = some v) : t < l.toArray.size * 32 ∧ (flatK (fun x : Id => U x.1) 32 l.toArray)[t]! = v := by
 have ht : t < l.length * 32 := by
  have := (List.getElem?_eq_some_iff.1 h).1
  rw [IdsU_length] at this
  exact this
 have ht' : t < l.toArray.size * 32 := by simpa using ht
 refine ⟨ht', ?_⟩
 rw [get_flatK _ _ _ _ ht']
 have hd : t / 32 < l.length := by omega
 have hm : t % 32 < 32 := by omega
 have e1 : l.toArray[t / 32]! = l.getD (t / 32) zeroId := by
  rw [getElem!_pos _ _ (by simpa using hd), List.getD_eq_getElem?_getD, List.getElem?_eq_getElem hd]
  simp
 rw [e1]
 obtain ⟨i, hi⟩ : ∃ i, i = l.getD (t / 32) zeroId := ⟨_, rfl⟩
 have hl : t % 32 < (U i.1).length := by rw [U_length, i.2]; exact hm
 have h2 := IdsU_at l (t / 32) (t % 32) _ hd (by rw [← hi]; exact List.getElem?_eq_getElem hl)
 rw [show t / 32 * 32 + t % 32 = t by omega, h] at h2
 rw [← hi]
 show (U i.1)[t % 32]! = v
 rw [getElem!_pos (U i.1) (t % 32) hl]
 exact (Option.some.inj h2).symm
theorem gb_sortK {w : World} {g n : Nat} {os : Array Obj} (d : Array Id) : w.grownBy (sortWorldK (fun x : Id => U x.1) 32 w g 0 n d os) (some g) := by
 unfold sortWorldK
 refine ⟨rfl, rfl, rfl, ?_, fun i hi hne => ?_⟩
 · rw [size_grow, size_putRowK]
   exact Nat.le_add_right _ _
 · have hig : i ≠ g := fun e => hne (by rw [e])
   rw [heap_grow_old _ _ (by rw [size_putRowK]; exact hi)]
   simp [putRowK, putRow, mapBlock, Sort.ahead, Array.getElem?_modify, Ne.symm hig]
set_option maxHeartbeats 1000000 in
theorem sort_ids (B : Nat) : SortP B := by
 intro W A k got hown hnd hn
 by_cases h0 : got = []
 · subst h0
   refine (AnyF.slices_SortFunc_none { idSort with } A k (.func (.func 52) #[] #[]) W).mono ?_
   rintro e w' ⟨rfl, rfl⟩
   exact ⟨rfl, .inl rfl, Below.refl _ _⟩
 · have hp : 0 < got.length := List.length_pos_iff.2 h0
   rcases hown.2 with ⟨hv, hn0⟩ | ⟨q, cap, cur, hv, hB, hh, hr⟩
   · obtain ⟨q, cap, hv2, _⟩ := hown.form hp
     rw [hv] at hv2
     cases hv2
   · injection hv with hA _ hk
     subst hA
     have hblk : Blk W q 30 cur := hh
     have hlt := hblk.lt
     have hH : HoldsK (fun x : Id => U x.1) 32 W q 0 got.toArray := fun t ht => by
      rw [size_flatK] at ht
      have ht2 : t < (IdsU got).length := by rw [IdsU_length]; simpa using ht
      have h1 := hown.cells (g := q) rfl t _ (List.getElem?_eq_getElem ht2)
      have h2 := (flat_ids got t _ (List.getElem?_eq_getElem ht2)).2
      rw [addr_add] at h1
      refine ⟨?_, hblk.frozen _⟩
      rw [h1, h2]
      rfl
     have eg : ∀ args w, (callFunc 52 args).run Tryz.prog w = .ok (.enter 52 args) w := enters_of Tryz.func52 (by kernel_rfl) rfl
     have hc := AnyQ.slices_SortFunc_total idSort 32 aggId sizeId (fun x : Id => U x.1) (fun x => by rw [U_length]; exact x.2) (fun x v hv => U_one _ v hv) cmpI swo_id 52 #[] q 0 k got.toArray W eg (cmpLaysId q 0 _ W) hH hlt (by simp; omega) tot_id
     have e1 : (got.toArray.toList.mergeSort fun x y => !(ltOf cmpI) y x) = sortI got := by
      rw [← merge_sortI hnd]
      congr 1
      funext x y
      rw [ltOf_id]
     rw [e1] at hc
     have hs : got.toArray.size = got.length := by simp
     rw [hs] at hc
     refine Calls.mono hc ?_
     rintro e w' ⟨rfl, n, os, rfl⟩
     have hd : (sortI got).toArray.size = got.toArray.size := by simp [sortI_length hnd]
     have hK := holdsK_sortWorldK_c (fun x : Id => U x.1) 32 W q 0 got.toArray (sortI got).toArray n os hH hlt hd
     refine ⟨rfl, .inr ⟨q, 0, rfl, Nat.lt_of_lt_of_le hlt (gb_sortK _).size, fun t v hv => ?_⟩, below_of_gb_some (gb_sortK _) hB (by omega)⟩
     obtain ⟨h1, h2⟩ := flat_ids _ t v hv
     have h3 := (hK t (by rw [size_flatK]; exact h1)).1
     rw [h2] at h3
     exact h3
end Go.Proofs.YtnjhjbmngoeobaaGreatDoor
