/- Laws towards WalkDeep: LinA. -/
import Derived.Test.YtnjhjbmngoeobaaGreatDoorMg24
namespace Go.Proofs.YtnjhjbmngoeobaaGreatDoor
open Go.RowKit Go.Maps
set_option maxRecDepth 100000
theorem lnkH_child {S : Sto} : ∀ i l, l ∈ lnkH S i → l ∈ childS S i := fun i l h => by
 unfold lnkH at h
 split at h
 · exact h
 · split at h
   · exact List.mem_of_mem_drop h
   · cases h
theorem lnkH_com {S : Sto} {i : Id} (h : kindS S i = 3) : lnkH S i = (childS S i).drop 1 := by
 unfold lnkH
 rw [if_neg (by omega), if_pos h]
theorem Good.rchC {S : Sto} (g : Good S) {rs : List Id} (hr : ∀ i ∈ rs, i ∈ idsS S ∧ kindS S i = 3) {i : Id} (h : Rch (nxt_ (lnkH S)) rs i) : i ∈ idsS S ∧ kindS S i = 3 :=
 h.sub (S := fun x => x ∈ idsS S ∧ kindS S x = 3) hr (fun i hi j hj => by
  obtain ⟨l, hl, rfl⟩ := List.mem_map.1 hj
  have h1 := g.kids i hi.1 l (lnkH_child i l hl)
  rw [lnkH_com hi.2] at hl
  exact ⟨h1.1, by rw [h1.2]; exact g.par i hi.1 hi.2 l hl⟩)
def LineP (w : World) (S : Sto) (rs : List Id) (e : Ending) (w' : World) : Prop :=
 ∃ mk D ks, e = .returned (.map (some mk)) ∧ w'.ownsMap Tryz.prog 30 (plainElem Tryz.prog 3) mk ks.length D ∧ KindM S ks D ∧ ks.Nodup ∧ (∀ i, i ∈ ks ↔ i ∈ setP (lnkH S) rs) ∧ Below w.heap.size w w' ∧ w.heap.size ≤ mk
set_option maxHeartbeats 2000000 in
theorem line_any (w : World) (B0 m a : Nat) (S : Sto) (Ds : DataW Value) (rs : List Id) (RA : Option Addr) (rk : Nat) (he : Env w B0 a m S Ds) (g : Good S) (hrs : IdsR w rs RA) (hrk : rs.length ≤ rk) (hr : ∀ i ∈ rs, i ∈ idsS S ∧ kindS S i = 3) (hn : rs.length ≤ 20000) :
 Calls Tryz.prog 29 #[.pointer (some ⟨a, 0, none⟩), .slice RA rs.length rk] w (LineP w S rs) := by
 obtain ⟨w1, hw1⟩ : ∃ w1, w1 = w.alloc (.cells #[.pointer (some ⟨a, 0, none⟩)] 25) := ⟨_, rfl⟩
 have hb1 : Below w.heap.size w w1 := by rw [hw1]; exact box_below _ _ _
 have hs1 : Blk w1 w.heap.size 25 #[.pointer (some ⟨a, 0, none⟩)] := by rw [hw1]; exact Blk.new _ _ _
 have he1 := he.to hb1
 have hlen : S.length ≤ 8192 := by have := g.len; omega
 have hwide : ∀ i, (lnkH S i).length ≤ 2 := fun i => by
  have := g.wide i
  unfold lnkH
  split
  · exact this
  · split
    · rw [List.length_drop]; omega
    · simp
 have HC := Lib.hid (come_L w1 B0 m a S Ds (lnkH S) rs RA rs.length rk 2 w.heap.size he1 (hrs.below hb1) rfl hrk (fun i h => (g.rchC hr h).1) (quiet_of g.ok (within_sub lnkH_child)) hwide (by omega) hlen
  (fun w' hb' i hi => by
    have h1 := g.rchC hr hi
    obtain ⟨l0, ls, hcl⟩ := g.com i h1.1 h1.2
    have e1 : lnkH S i = ls := by rw [lnkH_com h1.2, hcl]; rfl
    rw [e1]
    exact lineL w1 w' B0 m a w.heap.size S Ds i _ he1 hb' (hs1.below hb' hs1.lt) h1.1 l0 ls hcl))
 have hcs : w1.cell? ⟨w.heap.size, 0, none⟩ = some (.pointer (some ⟨a, 0, none⟩)) := hs1.cell 0
 have HB1 := Lib.hid hb1
 have HW1 := Lib.hid hw1
 have hsz1 : w.heap.size ≤ w1.heap.size := hb1.size
 have HSZ := Lib.hid hsz1
 clear hw1 hb1 hs1 he1 he g hrs hr hlen hwide hsz1
 go_enter Tryz.func29, Tryz.ntmps29
 go_upto_region 1 with fail
 rw [← HW1.out]
 clear HW1
 go_wp2_with fail
 refine HC.out.mono ?_
 intro e w2 hc
 obtain ⟨xs, mk, LA, lc, c, D, rfl, hsv, hce, hb2, _, hmk, _, _⟩ := hc.seen
 have hc0 : w2.cell? ⟨xs, 0, none⟩ = some (.map (some mk)) := hsv.seen.cell 0
 have HF : Hid (LineP w S rs (.returned (.map (some mk))) w2) := ⟨mk, D, c.ks, rfl, hsv.mp, hsv.km, hce.nd, hce.ks, HB1.out.trans (hb2.mono HB1.out.size), Nat.le_trans HSZ.out hmk⟩
 clear hc hsv hce hb2 HC hmk
 go_wp2_with fail
 go_ret
 exact HF.out
end Go.Proofs.YtnjhjbmngoeobaaGreatDoor
